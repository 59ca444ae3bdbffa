/- The core of an abstract reading of Go's data: what a value shows in memory (D), which blocks it uses, and that this stays where those blocks stay. No condition; plain lemmas. -/
import Derived.WalkKit
import Derived.ProofKit
import Derived.Deep.LoopGhost
import Derived.MapKept
import Derived.Great.BuildSlice
import Derived.Maps.AppendAt
set_option linter.unusedVariables false
set_option linter.unusedSimpArgs false
namespace Go.Cx
open Go.RowKit
set_option linter.defProp false
def aA:=@Option.bind_some
def aC:=@List.mem_of_getElem?
def aH:=@List.getElem?_eq_some_iff
def aK:=@List.length_cons
def aV:=@cond_true
def aX:=@List.length_append
def aY:=@Bool.and_eq_true
def aZ:=@cond_false
def aa:=@List.length_map
def ai:=@List.getElem?_eq_getElem
def au:=@List.mem_append
def az:=@Option.some.injEq
def b9:=@List.getElem?_append_left
def bA:=@decide_eq_false
def bB:=@List.all_eq_true
def bE:=@List.getElem?_append_right
def bG:=@List.map_cons
def bH:=@if_neg
def bJ:=@decide_eq_true_eq
def bK:=@List.length_nil
def bL:=@Array.getElem?_eq_some_iff
def bM:=@List.mem_cons
def bN:=@List.map_append
def bO:=@List.nodup_append
def bP:=@Bool.not_true
def bR:=@Nat.le_refl
def bS:=@if_pos
def bU:=@decide_eq_true
def bW:=@List.map_nil
def bY:=@List.append_assoc
def bf:=@List.length_set
def bp:=@Bool.eq_iff_iff
def bq:=@List.mem_range
def bt:=@of_decide_eq_true
def cA:=@List.getElem?_map
def cD:=@List.take_append_drop
def cE:=@List.mem_flatMap
def cF:=@List.mem_filterMap
def cG:=@List.getElem?_set_ne
def cH:=@List.mem_of_mem_take
def cI:=@List.nil_append
def cJ:=@List.mem_map
def cK:=@List.getElem?_take
def cM:=@List.length_take
def cN:=@List.append_nil
def cO:=@Array.getD_eq_getD_getElem?
def cR:=@Bool.not_false
def cS:=@Array.getElem?_eq_getElem
def cU:=@Nat.le_trans
def cV:=@Prod.mk.injEq
def cc:=@Option.map_some
def cg:=@List.eq_nil_of_length_eq_zero
def cj:=@beq_iff_eq
def ck:=@List.getElem?_eq_none
def cm:=@List.map_take
def cq:=@List.getElem?_of_mem
def cr:=@Nat.zero_add
def cy:=@beq_self_eq_true
def dB:=@List.map_drop
def dH:=@beq_eq_false_iff_ne
def dK:=@List.foldl_cons
def dM:=@List.all_cons
def dN:=@List.singleton_append
def dO:=@List.flatMap_cons
def dR:=@List.any_eq_true
def dS:=@List.cons_append
def dU:=@List.mem_singleton
def dX:=@List.getElem?_set_self
def dZ:=@Nat.mul_le_mul_right
def dw:=@List.mem_flatten
def e9:=@List.mem_reverse
def eA:=@Nat.add_sub_cancel_left
def eD:=@List.getElem?_drop
def eE:=@Nat.lt_of_lt_of_le
def eP:=@Nat.mul_le_mul_left
def eR:=@Nat.lt_or_ge
def eS:=@List.mem_iff_getElem
def eT:=@Option.isSome_iff_exists
def eV:=@List.flatten_cons
def ew:=@List.getElem?_cons_succ
def fD:=@List.nodup_cons
def fE:=@Nat.min_eq_left
def fO:=@Bool.true_and
def fX:=@List.length_singleton
def fy:=@List.drop_left'
def gA:=@List.mem_filter
def gB:=@Array.getElem?_append_left
def gK:=@List.getElem?_set
def gL:=@bne_self_eq_false
def gP:=@List.mem_of_mem_drop
def gz:=@List.drop_drop
def jF:=@List.take_left'
def jI:=@Array.toList_map
def jX:=@Classical.byContradiction
def kG:=@List.pairwise_cons
def kj:=@Array.toArray_toList
def kn:=@Nat.add_mul
def ko:=@Prod.mk.inj
def lW:=@List.getD_eq_getElem?_getD
def lX:=@Option.mem_toList
def mH:=@Array.toList_append
def mI:=@List.flatten_append
def mJ:=@List.map_congr_left
def mm:=@List.drop_eq_getElem_cons
def mq:=@List.getElem?_toArray
def mr:=@List.set_append_right
def o5:=@List.getLast?_concat
def o6:=@Nat.one_mul
def oC:=@Int.eq_ofNat_of_zero_le
def oD:=@Int.toNat_natCast
def oF:=@List.ext_getElem?
def oG:=@Option.bind_eq_some_iff
def oH:=@decide_eq_false_iff_not
def om:=@Bool.or_eq_true
def pK:=@List.drop_eq_nil_of_le
def pL:=@List.take_of_length_le
def pM:=@Nat.sub_self
def pR:=@Bool.false_or
def pZ:=@List.map_toArray
def qi:=@List.length_filter_le
def qt:=@Array.mapM_eq_mapM_toList
def qw:=@Option.some.inj
def rG:=@Bool.not_eq_true'
def rH:=@List.map_map
def rj:=@List.length_erase_of_mem
def rp:=@Nat.add_assoc
def sN:=@if_true
def sV:=@List.filter_cons_of_neg
def sW:=@List.filter_cons_of_pos
def sX:=@List.not_mem_nil
def u9:=@Array.getElem?_eq_none
def uA:=@Ne.symm
def vD:=@Bool.and_true
def vE:=@Bool.or_false
def vF:=@List.any_cons
def vY:=@Array.getElem?_toList
def wD:=@List.take_take
def wE:=@Nat.pow_le_pow_right
def wF:=@true_and
def wv:=@Array.toList_inj
def wz:=@List.length_drop
def xE:=@List.exists_mem_of_ne_nil
def xK:=@Array.length_toList
def xL:=@List.take_succ_cons
def yB:=@Array.all_eq_true'
def yC:=@List.filter_filter
def yD:=@Nat.lt_or_gt_of_ne
def yg:=@Bool.and_false
def yh:=@List.filter_congr
def yj:=@Nat.lt_trichotomy
def yl:=@Nat.pow_succ
def zF:=@Array.getElem?_modify
def zG:=@List.concat_eq_append
def zH:=@List.eq_nil_or_concat
def zI:=@Nat.le_of_ble_eq_true
def zY:=@Bool.not_eq_true
def zZ:=@List.eq_nil_iff_forall_not_mem
def za:=@Option.getD_some
def zb:=@eq_iff_iff
def zm:=@List.cons.inj
def zy:=@List.Pairwise.filter
def Ae:=@List.cons.injEq
def Af:=@Nat.not_lt_zero
def Ag:=@Option.map_none
def Aw:=@List.filterMap_cons
def Ay:=@List.replicate_succ
def BG:=@Nat.add_zero
def BH:=@Nat.sub_zero
def Bf:=@Array.getElem_append_right
def Bg:=@Bool.false_eq_true
def Bh:=@Nat.add_sub_cancel
def CP:=@Array.getElem_append_left
def CQ:=@List.mem_or_eq_of_mem_set
def Cf:=@List.any_eq_false
def Cg:=@List.size_toArray
def Ch:=@decide_true
def Cw:=@List.eq_of_mem_replicate
def Cy:=@List.getElem?_take_of_lt
def DL:=@List.getElem?_cons_zero
def DM:=@List.getElem_mem
def DN:=@List.nodup_range
def DO:=@Nat.le_mul_of_pos_right
def DP:=@if_false
def EA:=@Int.le_of_lt
def EB:=@Int.le_trans
def EC:=@List.all_map
def ED:=@List.drop_of_length_le
def EE:=@List.getElem_cons_drop
def EF:=@List.length_pos_of_mem
def EG:=@Nat.mul_comm
def EH:=@Option.map_eq_some_iff
def FC:=@Int.ediv_nonneg
def FL:=@Bool.and_eq_false_iff
def FM:=@Int.ediv_lt_of_lt_mul
def FN:=@List.length_replicate
def FO:=@List.pairwise_flatMap
def FP:=@UInt8.lt_iff_toNat_lt
def GJ:=@List.drop_zero
def GK:=@List.mapM_cons
def GL:=@Nat.mul_le_mul
def GM:=@Nat.zero_le
def GN:=@or_false
def KG:=@Nat.mul_assoc
def Ke:=@not_or
def MS:=@List.any_nil
def MT:=@Nat.succ_mul
abbrev Bytes:=List UInt8
inductive D where
 |any
 |nil
 |int (k:IntKind) (n:Int)
 |bool (b:Bool)
 |str (s:Bytes)
 |sl (rows:List (List D))
 |agg (cells:List D)
 |gZ (vs:List D)
 |ep (row:List D) (off:Nat)
 |acc (id:Nat)
 |ptr (id off:Nat)
 |op (id i sz off:Nat)
 |val (v:Value)
 |fr (e:TypeId) (sz:Nat) (rows:List (List D))
 |pt (cells:List D)
 |ifc (b:Bool)
def tv(k:IntKind)(n:Int):Prop:=k.min<=n/\n<=k.max
instance (k:IntKind) (n:Int):Decidable (tv k n):=by unfold tv;infer_instance
theorem tv.wrap(k:IntKind)(n:Int):tv k (k.wrap n):=by
 unfold tv;cases k<;>simp[IntKind.min,IntKind.max,IntKind.wrap,IntKind.bits,IntKind.signed]<;>(try split)<;>omega
theorem tv.i64{n:Int}:tv .i64 n↔ -9223372036854775808<=n/\n<=9223372036854775807:=by
 simp[tv,IntKind.min,IntKind.max,IntKind.bits,IntKind.signed]
theorem tv.u8{n:Int}:tv .u8 n↔0<=n/\n<=255:=by
 simp[tv,IntKind.min,IntKind.max,IntKind.bits,IntKind.signed]
theorem tv.zero(k:IntKind):tv k 0:=by
 unfold tv;cases k<;>simp[IntKind.min,IntKind.max,IntKind.bits,IntKind.signed]
theorem tv.down{k:IntKind}{n m:Int}(h:tv k n)(h0:0<=m)(h1:m<=n):tv k m:=
 ⟨EB (tv.zero k).1 h0,EB h1 h.2⟩
mutual
inductive Rd(w:World):Value->D->List Nat->Prop
 |any (v:Value):Rd w v .any []
 |nil:Rd w (.slice none 0 0) .nil []
 |int (k:IntKind) (n:Int):tv k n->Rd w (.int k n) (.int k n) []
 |bool (b:Bool):Rd w (.bool b) (.bool b) []
 |str (s:ByteArray):s.size<=maxLen->Rd w (.string s) (.str s.data.toList) []
 |val (v:Value):Rd w v (.val v) []
 |BE:Rd w (.slice none 0 0) (.sl []) []
 |pQ (a:Addr) (cap:Nat):cap<=maxLen->Rd w (.slice (some a) 0 cap) (.sl []) []
 |sl (b off cap sz:Nat) (rows:List (List D)) (cs:List Value) (bs:List Nat):b<w.heap.size->rows.length<=cap->cap<=maxLen->
  (∀r∈rows,r.length=sz)->(∀j c,cs[j]?=some c->w.cell? ⟨b,off+j,none⟩=some c)->mZ w cs rows.flatten bs->
  Rd w (.slice (some ⟨b,off,none⟩) rows.length cap) (.sl rows) (b::bs)
 |agg (cs:List Value) (ds:List D) (bs:List Nat):mZ w cs ds bs->Rd w (.agg cs.toArray) (.agg ds) bs
 |ep (b off:Nat) (cs:List Value) (row:List D) (o:Nat) (bs:List Nat):b<w.heap.size->(∀j c,cs[j]?=some c->w.cell? ⟨b,off+j,none⟩=some c)->
  mZ w cs row bs->Rd w (.pointer (some ⟨b,off+o,none⟩)) (.ep row o) (b::bs)
 |Zq:Rd w .nilIface (.ifc false) []
 |Zr (t:TypeId) (v:Value):Rd w (.iface t v) (.ifc true) []
inductive mZ(w:World):List Value->List D->List Nat->Prop
 |nil:mZ w [] [] []
 |cons (v:Value) (vs:List Value) (d:D) (ds:List D) (b1 b2:List Nat):v.oneCell'=true->Rd w v d b1->mZ w vs ds b2->mZ w (v::vs) (d::ds) (b1++b2)
end
section
variable{w w':World}
theorem DU{b o:Nat}(h:w'.heap[b]?=w.heap[b]?):w'.cell? ⟨b,o,none⟩=w.cell? ⟨b,o,none⟩:=World.cell?_of_block (a:=⟨b,o,none⟩) h
theorem No{b:Nat}(hb:b<w.heap.size)(h:w'.heap[b]?=w.heap[b]?):b<w'.heap.size:=by
 rw[cS hb]at h;exact(bL.1 h).1
theorem Sb:
 (∀ {v d bs},Rd w v d bs->(∀b∈bs,w'.heap[b]?=w.heap[b]?)->Rd w' v d bs)/\
 (∀ {vs ds bs},mZ w vs ds bs->(∀b∈bs,w'.heap[b]?=w.heap[b]?)->mZ w' vs ds bs):=by
 have key:∀(m1:∀v d bs,Rd w v d bs->Prop) (m2:∀vs ds bs,mZ w vs ds bs->Prop),
  m1=(fun v d bs _=>(∀b∈bs,w'.heap[b]?=w.heap[b]?)->Rd w' v d bs)->m2=(fun vs ds bs _=>(∀b∈bs,w'.heap[b]?=w.heap[b]?)->mZ w' vs ds bs)->
  (∀v d bs h,m1 v d bs h)/\(∀vs ds bs h,m2 vs ds bs h):=by
  intro m1 m2 e1 e2;subst e1;subst e2;constructor
  all_goals intro v d bs h
  ·refine Rd.rec (motive_1:=fun v d bs _=>(∀b∈bs,w'.heap[b]?=w.heap[b]?)->Rd w' v d bs) (motive_2:=fun vs ds bs _=>(∀b∈bs,w'.heap[b]?=w.heap[b]?)->mZ w' vs ds bs) ?_ ?_ ?_ ?_ ?_ ?_ ?_ ?_ ?_ ?_ ?_ ?_ ?_ ?_ ?_ h
   ·intro v _;exact .any _
   ·intro _;exact .nil
   ·intro k n h _;exact .int _ _ h
   ·intro b _;exact .bool _
   ·intro s h _;exact .str _ h
   ·intro v _;exact .val _
   ·intro _;exact .BE
   ·intro a cap h _;exact .pQ a cap h
   ·intro b off cap sz rows cs bs h0 h1 h2 h3 h4 _ ih hb;exact .sl b off cap sz rows cs bs (No h0 (hb b (by simp))) h1 h2 h3 (fun j c hc=>(DU (hb b (by simp))).trans (h4 j c hc)) (ih (fun x hx=>hb x (by simp[hx])))
   ·intro cs ds bs _ ih hb;exact .agg cs ds bs (ih hb)
   ·intro b off cs row o bs h0 h4 _ ih hb;exact .ep b off cs row o bs (No h0 (hb b (by simp))) (fun j c hc=>(DU (hb b (by simp))).trans (h4 j c hc)) (ih (fun x hx=>hb x (by simp[hx])))
   ·intro _;exact .Zq
   ·intro t v _;exact .Zr t v
   ·intro _;exact .nil
   ·intro v vs d ds b1 b2 h1 _ _ ih1 ih2 hb;exact .cons v vs d ds b1 b2 h1 (ih1 (fun x hx=>hb x (by simp[hx]))) (ih2 (fun x hx=>hb x (by simp[hx])))
  ·refine mZ.rec (motive_1:=fun v d bs _=>(∀b∈bs,w'.heap[b]?=w.heap[b]?)->Rd w' v d bs) (motive_2:=fun vs ds bs _=>(∀b∈bs,w'.heap[b]?=w.heap[b]?)->mZ w' vs ds bs) ?_ ?_ ?_ ?_ ?_ ?_ ?_ ?_ ?_ ?_ ?_ ?_ ?_ ?_ ?_ h
   ·intro v _;exact .any _
   ·intro _;exact .nil
   ·intro k n h _;exact .int _ _ h
   ·intro b _;exact .bool _
   ·intro s h _;exact .str _ h
   ·intro v _;exact .val _
   ·intro _;exact .BE
   ·intro a cap h _;exact .pQ a cap h
   ·intro b off cap sz rows cs bs h0 h1 h2 h3 h4 _ ih hb;exact .sl b off cap sz rows cs bs (No h0 (hb b (by simp))) h1 h2 h3 (fun j c hc=>(DU (hb b (by simp))).trans (h4 j c hc)) (ih (fun x hx=>hb x (by simp[hx])))
   ·intro cs ds bs _ ih hb;exact .agg cs ds bs (ih hb)
   ·intro b off cs row o bs h0 h4 _ ih hb;exact .ep b off cs row o bs (No h0 (hb b (by simp))) (fun j c hc=>(DU (hb b (by simp))).trans (h4 j c hc)) (ih (fun x hx=>hb x (by simp[hx])))
   ·intro _;exact .Zq
   ·intro t v _;exact .Zr t v
   ·intro _;exact .nil
   ·intro v vs d ds b1 b2 h1 _ _ ih1 ih2 hb;exact .cons v vs d ds b1 b2 h1 (ih1 (fun x hx=>hb x (by simp[hx]))) (ih2 (fun x hx=>hb x (by simp[hx])))
 obtain⟨k1,k2⟩:=key _ _ rfl rfl;exact⟨fun h=>k1 _ _ _ h,fun h=>k2 _ _ _ h⟩
theorem Rd.keep{v:Value}{d:D}{bs:List Nat}(h:Rd w v d bs)(hb:∀b∈bs,w'.heap[b]?=w.heap[b]?):Rd w' v d bs:=Sb.1 h hb
theorem mZ.keep{vs:List Value}{ds:List D}{bs:List Nat}(h:mZ w vs ds bs)(hb:∀b∈bs,w'.heap[b]?=w.heap[b]?):mZ w' vs ds bs:=Sb.2 h hb
theorem Rd.lt{v:Value}{d:D}{bs:List Nat}(h:Rd w v d bs):∀b∈bs,b<w.heap.size:=by
 refine Rd.rec (motive_1:=fun v d bs _=>∀b∈bs,b<w.heap.size) (motive_2:=fun vs ds bs _=>∀b∈bs,b<w.heap.size) ?_ ?_ ?_ ?_ ?_ ?_ ?_ ?_ ?_ ?_ ?_ ?_ ?_ ?_ ?_ h
 case refine_9=>
  intro b off cap sz rows cs bs h0 h1 h2 h3 h4 _ ih x hx;rcases bM.1 hx with rfl|hx
  ·exact h0
  ·exact ih x hx
 case refine_10=>intro cs ds bs _ ih;exact ih
 case refine_11=>
  intro b off cs row o bs h0 h4 _ ih x hx;rcases bM.1 hx with rfl|hx
  ·exact h0
  ·exact ih x hx
 case refine_15=>
  intro v vs d ds b1 b2 h1 _ _ ih1 ih2 x hx;rcases au.1 hx with hx|hx
  ·exact ih1 x hx
  ·exact ih2 x hx
 all_goals intros;simp_all
theorem mZ.lt{vs:List Value}{ds:List D}{bs:List Nat}(h:mZ w vs ds bs):∀b∈bs,b<w.heap.size:=by
 induction ds generalizing vs bs with
 |nil=>cases h;simp
 |cons d ds ih=>
  cases h with
  |cons v vs _ _ b1 b2 h1 h2 h3=>
   intro x hx;rcases au.1 hx with hx|hx
   ·exact h2.lt x hx
   ·exact ih h3 x hx
theorem mZ.length{vs:List Value}{ds:List D}{bs:List Nat}(h:mZ w vs ds bs):vs.length=ds.length:=by
 induction ds generalizing vs bs with
 |nil=>cases h;rfl
 |cons d ds ih=>cases h with|cons v vs _ _ b1 b2 h1 h2 h3=>simp[ih h3]
theorem mZ.one{vs:List Value}{ds:List D}{bs:List Nat}(h:mZ w vs ds bs):∀v∈vs,v.oneCell'=true:=by
 induction ds generalizing vs bs with
 |nil=>cases h;simp
 |cons d ds ih=>
  cases h with
  |cons v vs _ _ b1 b2 h1 h2 h3=>
   intro u hu;rcases bM.1 hu with rfl|hu
   ·exact h1
   ·exact ih h3 u hu
theorem mZ.app{vs us:List Value}{ds es:List D}{bs cs:List Nat}(h:mZ w vs ds bs)(k:mZ w us es cs):mZ w (vs++us) (ds++es) (bs++cs):=by
 induction ds generalizing vs bs with
 |nil=>cases h;simpa using k
 |cons d ds ih=>
  cases h with
  |cons v vs _ _ b1 b2 h1 h2 h3=>
   rw[bY];exact .cons _ _ _ _ _ _ h1 h2 (ih h3)
theorem mZ.split{vs:List Value}{ds es:List D}{bs:List Nat}(h:mZ w vs (ds++es) bs):
 ∃v1 v2 b1 b2,vs=v1++v2/\bs=b1++b2/\mZ w v1 ds b1/\mZ w v2 es b2:=by
 induction ds generalizing vs bs with
 |nil=>exact⟨[],vs,[],bs,by simp,by simp,.nil,h⟩
 |cons d ds ih=>
  cases h with
  |cons v vs _ _ b1 b2 h1 h2 h3=>
   obtain⟨v1,v2,c1,c2,rfl,rfl,k1,k2⟩:=ih h3;exact⟨v::v1,v2,b1++c1,c2,by simp,by simp,.cons _ _ _ _ _ _ h1 h2 k1,k2⟩
theorem mZ.mid{vs:List Value}{ds:List D}{bs:List Nat}(h:mZ w vs ds bs)(i n:Nat):
 ∃b,mZ w ((vs.drop i).take n) ((ds.drop i).take n) b/\∀x∈b,x∈bs:=by
 have e:ds=ds.take i++((ds.drop i).take n++(ds.drop i).drop n):=by rw[cD,cD]
 rw[e]at h;obtain⟨v1,v2,b1,b2,rfl,rfl,k1,k2⟩:=h.split;obtain⟨v3,v4,b3,b4,rfl,rfl,k3,k4⟩:=k2.split;refine⟨b3,?_,by intro x hx;simp[hx]⟩;have l1:=k1.length;have l3:=k3.length;by_cases hi:i<=ds.length
 ·have h1:v1.length=i:=by rw[l1];simp[hi]
  rw[fy h1];by_cases hn:n<=(ds.drop i).length
  ·have h3:v3.length=n:=by rw[l3,cM];omega
   rw[jF h3];exact k3
  ·have h4:v4.length=0:=by rw[k4.length];simp at hn⊢;omega
   have h4':v4=[]:=cg h4;subst h4';have h3:v3.length<=n:=by rw[l3,cM];omega
   simp only[cN];rw[pL h3];exact k3
 ·have h5:ds.drop i=[]:=pK (by omega);rw[h5]at k3 k4⊢;simp only[List.take_nil,List.drop_nil]at k3 k4⊢;cases k3;cases k4;have h1:v1.length<=i:=by rw[l1];simp;omega
  simp[ED h1];exact .nil
theorem mZ.at{vs:List Value}{ds:List D}{bs:List Nat}(h:mZ w vs ds bs){i:Nat}{d:D}(hd:ds[i]?=some d):
 ∃v b,vs[i]?=some v/\v.oneCell'=true/\Rd w v d b/\∀x∈b,x∈bs:=by
 induction ds generalizing vs bs i with
 |nil=>simp at hd
 |cons e ds ih=>
  cases h with
  |cons v vs _ _ b1 b2 h1 h2 h3=>
   cases i with
   |zero=>simp at hd;subst hd;exact⟨v,b1,by simp,h1,h2,by intro x hx;simp[hx]⟩
   |succ i=>
    simp at hd;obtain⟨u,b,k1,k2,k3,k4⟩:=ih h3 hd;exact⟨u,b,by simpa using k1,k2,k3,fun x hx=>by simp[k4 x hx]⟩
end
theorem pW{α:Type}{rows:List (List α)}{sz:Nat}(h:∀r∈rows,r.length=sz):rows.flatten.length=rows.length*sz:=by
 induction rows with
 |nil=>simp
 |cons r rows ih=>
  simp only[eV,aX,aK];rw[ih (fun x hx=>h x (by simp[hx])),h r (by simp),kn];omega
theorem Hx{α:Type}{rows:List (List α)}{sz:Nat}(h:∀r∈rows,r.length=sz){i:Nat}{r:List α}(hr:rows[i]?=some r):
 (rows.flatten.drop (i*sz)).take sz=r:=by
 induction rows generalizing i with
 |nil=>simp at hr
 |cons s rows ih=>
  have hs:=h s (by simp);cases i with
  |zero=>
   simp at hr;subst hr;simp only[Nat.zero_mul,GJ,eV];exact jF hs
  |succ i=>
   simp only[ew]at hr;have:=ih (fun x hx=>h x (by simp[hx])) hr;rw[eV,kn,o6,Nat.add_comm,<-gz,fy hs];exact this
abbrev aJ:=List Bytes
abbrev aR:=List D
abbrev af:=List Nat
abbrev bI:=List Int
abbrev br:=List Value
def Aa:List (Nat×(br->Prop)):=[(3,fun cs:br=>cs=[.int .u64 1,.int .u64 10,.int .u64 100,.int .u64 1000,.int .u64 10000,.int .u64 100000,.int .u64 1000000,.int .u64 10000000,.int .u64 100000000,.int .u64 1000000000,.int .u64 10000000000,.int .u64 100000000000,.int .u64 1000000000000,.int .u64 10000000000000,.int .u64 100000000000000,.int .u64 1000000000000000,.int .u64 10000000000000000,.int .u64 100000000000000000,.int .u64 1000000000000000000,.int .u64 10000000000000000000]),(1,fun cs:br=>∃tp p,cs=[Value.iface tp p])]
def VsB(w:World)(B:Nat->Prop):Prop:=∀x∈Aa,B x.1/\∃cs t z,w.heap[x.1]?=some (.cells cs t z)/\x.2 cs.toList
def TB(w:World)(X:Nat->Prop):Prop:=∃B:Nat->Prop,VsB w B/\∀b,B b->b<w.heap.size/\¬X b
def UK:List (Nat×aR):=[]
def a63(g:Nat)(ds:aR):Prop:=∃p,(g,p)∈Aa/\∀cs:br,p cs->∀(o:Nat) d,ds[o]?=some d->∃v,cs[o]?=some v/\∀w,Rd w v d []
theorem Xz:∀x∈UK,a63 x.1 x.2:=by intro x hx;cases hx
def ZA(g o:Nat):Option D:=(UK.find? fun x=>x.1==g).bind fun x=>x.2[o]?
theorem a3o{g o:Nat}{d:D}(h:ZA g o=some d):∃ds,a63 g ds/\ds[o]?=some d:=by
 unfold ZA at h;cases hf:UK.find? fun x=>x.1==g with
 |none=>rw[hf]at h;cases h
 |some x=>
  rw[hf,aA]at h;have h1:=List.find?_some hf;have h2:=List.mem_of_find?_eq_some hf;have e:x.1=g:=by simpa using h1
  exact⟨x.2,by rw[<-e];exact Xz x h2,h⟩
theorem VsB.stays{w w':World}{B:Nat->Prop}(h:VsB w B)(hb:∀b,B b->w'.heap[b]?=w.heap[b]?):VsB w' B:=fun x hx=>by
 obtain⟨h1,cs,t,z,h2,h3⟩:=h x hx;exact⟨h1,cs,t,z,by rw[hb _ h1,h2],h3⟩
theorem TB.cells{w:World}{X:Nat->Prop}(h:TB w X){g:Nat}{p:br->Prop}(hx:(g,p)∈Aa):∃cs t z,w.heap[g]?=some (.cells cs t z)/\p cs.toList:=by
 obtain⟨B,h1,h2⟩:=h;exact(h1 _ hx).2
theorem TB.var{P:Program}{w:World}{X:Nat->Prop}(h:TB w X){g:Nat}{p:br->Prop}{name:String}(hx:(g,p)∈Aa)(hg:P.globalNamed name=some g):∃cs,w.var? P name=some cs/\p cs.toList:=by
 obtain⟨cs,t,z,h1,h2⟩:=h.cells hx;refine⟨cs,?_,h2⟩;unfold World.var?;rw[hg,aA,h1]
theorem TB.a8X{P:Program}{w:World}(hs:∀x∈Aa,∃name cs,P.globalNamed name=some x.1/\w.var? P name=some cs/\x.2 cs.toList):TB w fun _=>False:=by
 refine⟨fun b=>b∈Aa.map Prod.fst,fun x hx=>?_,fun b hb=>?_⟩
 ·obtain⟨name,cs,h1,h2,h3⟩:=hs x hx;unfold World.var? at h2;rw[h1,aA]at h2;refine⟨cJ.2 ⟨x,hx,rfl⟩,?_⟩;split at h2
  ·rename_i cs' t z h4;cases h2;exact⟨_,t,z,h4,h3⟩
  ·cases h2
 ·obtain⟨x,hx,rfl⟩:=cJ.1 hb;obtain⟨name,cs,h1,h2,h3⟩:=hs x hx;unfold World.var? at h2;rw[h1,aA]at h2;refine⟨?_,id⟩;split at h2
  ·rename_i cs' t z h4;exact(bL.1 h4).1
  ·cases h2
structure w5 where
 W0:World
 Θ0:Nat->Nat
 X:Nat->Prop
 nt:Nat
 U:Nat->Prop
 vs:TB W0 X
inductive RK where
 |sh
 |uq
 |cl
 |mv (n:Nat)
def RK.Tt:RK->Bool
 | .cl=>false
 |_=>true
def RK.hand:RK->Bool
 | .sh=>true
 | .uq=>true
 |_=>false
inductive Ob where
 |box (cells:aR)
 |Pr (cells:aR) (v:Value)
 |row (k:RK) (e:TypeId) (sz:Nat) (rows:List aR)
 |fG (sz:Nat) (rows:List aR) (v:Option Value)
 |hole (sz:Nat) (rows:List aR) (v:Option Value) (p n:Nat)
 |mp (kv:List (D×D))
 |tk (rows:List aR)
 |gone
def Ob.ZX:Ob->Option aR
 | .box c=>some c
 | .Pr c _=>some c
 |_=>none
def Ob.re(o:Ob)(c:aR):Ob:=match o with
 | .Pr _ v=>.Pr c v
 |_=>.box c
structure St where
 σ:List (Nat×D)
 H:List Ob
def lk:List (Nat×D)->Nat->D
 | [],_=>.any
 | (t,d)::r,n=>if n=t then d else lk r n
def D.XQ:Value->D
 | .bool b=>.bool b
 | .int k n=>if tv k n then .int k n else .val (.int k n)
 | .string s=>if s.size<=maxLen then .str s.data.toList else .val (.string s)
 | .slice none 0 0=>.nil
 |v=>.val v
def St.ev(st:St):Operand->D
 | .tmp t=>lk st.σ t
 | .const v=>D.XQ v
 | .global g=>.val (.pointer (some ⟨g,0,none⟩))
 | .func f=>.val (.func (.func f) #[] #[])
def St.set(st:St)(t:Nat)(d:D):St:=⟨(t,d)::st.σ,st.H⟩
def St.put(st:St)(t:Option Nat)(d:D):St:=match t with|some t=>st.set t d|none=>st
inductive Ba(w:World)(κ:Nat->Option Value):Value->D->List Nat->Prop
 |pure {v:Value} {d:D} {bs:af}:Rd w v d bs->Ba w κ v d bs
 |acc (id:Nat) (v:Value):κ id=some v->Ba w κ v (.acc id) []
 |ptr (id off b:Nat):κ id=some (.pointer (some ⟨b,0,none⟩))->Ba w κ (.pointer (some ⟨b,off,none⟩)) (.ptr id off) []
 |op (id i sz off b o0 len cap:Nat):κ id=some (.slice (some ⟨b,o0,none⟩) len cap)->Ba w κ (.pointer (some ⟨b,o0+(i*sz+off),none⟩)) (.op id i sz off) []
inductive fP(w:World)(κ:Nat->Option Value):List Value->List D->List Nat->Prop
 |nil:fP w κ [] [] []
 |cons (v:Value) (vs:br) (d:D) (ds:aR) (b1 b2:af):v.oneCell'=true->Ba w κ v d b1->fP w κ vs ds b2->fP w κ (v::vs) (d::ds) (b1++b2)
inductive QK(w:World)(κ:Nat->Option Value):Value->D->List Nat->Prop
 |cell {v:Value} {d:D} {bs:af}:Ba w κ v d bs->QK w κ v d bs
 |agg (cs:br) (ds:aR) (bs:af):fP w κ cs ds bs->QK w κ (.agg cs.toArray) (.agg ds) bs
inductive EK(w:World)(κ:Nat->Option Value):List Value->List D->List Nat->Prop
 |nil:EK w κ [] [] []
 |cons (v:Value) (vs:br) (d:D) (ds:aR) (b1 b2:af):QK w κ v d b1->EK w κ vs ds b2->EK w κ (v::vs) (d::ds) (b1++b2)
inductive uB(w:World)(κ:Nat->Option Value):Value->D->List Nat->Prop
 |v {v:Value} {d:D} {bs:af}:QK w κ v d bs->uB w κ v d bs
 |gZ (vs:br) (ds:aR) (bs:af):EK w κ vs ds bs->uB w κ (.tuple vs.toArray) (.gZ ds) bs
theorem uB.of{w:World}{κ:Nat->Option Value}{v:Value}{d:D}{bs:af}(h:Rd w v d bs):uB w κ v d bs:=.v (.cell (.pure h))
def Wr(w:World)(b:Nat):Prop:=∃cs T,w.heap[b]?=some (.cells cs T (0,0))
def RdH(w:World)(κ:Nat->Option Value)(v:Value)(rows:List aR)(p n:Nat)(bs:af):Prop:=
 ∃b off cap cs ns,v=.slice (some ⟨b,off,none⟩) rows.length cap/\b<w.heap.size/\rows.length<=cap/\cap<=maxLen/\(∀j c,cs[j]?=some c->w.cell? ⟨b,off+j,none⟩=some c)/\mZ w cs rows.flatten ns/\bs=b::ns/\
  ∃c,cs[p]?=some c/\κ n=some c
def Az(w:World)(es:List MapEntry)(kv:List (D×D)):Prop:=
 es.length=kv.length/\∀(j:Nat) e p,es[j]?=some e->kv[j]?=some p->Rd w e.key p.1 []/\Rd w e.val p.2 []
theorem Az.stay{w w':World}{es:List MapEntry}{kv:List (D×D)}(h:Az w es kv):Az w' es kv:=
 ⟨h.1,fun j e p h1 h2=>⟨(h.2 j e p h1 h2).1.keep (by simp),(h.2 j e p h1 h2).2.keep (by simp)⟩⟩
def yo(w:World)(κ:Nat->Option Value)(Θ:Nat->Nat)(id:Nat):Ob->Prop
 | .box cells=>∃g cs T,κ id=some (.pointer (some ⟨g,0,none⟩))/\w.heap[g]?=some (.cells cs T (0,0))/\Θ g=id+2/\
  ∃bs,fP w κ cs.toList cells bs/\∀b∈bs,Θ b=0
 | .Pr cells u=>κ id=some u/\∃g cs T,κ id=some (.pointer (some ⟨g,0,none⟩))/\w.heap[g]?=some (.cells cs T (0,0))/\Θ g=id+2/\
  ∃bs,fP w κ cs.toList cells bs/\∀b∈bs,Θ b=0
 | .row k e sz rows=>0<sz/\(∀r∈rows,r.length=sz)/\∃v cs bs,κ id=some v/\w.ownsRow 0 e sz v rows.length cs/\mZ w cs rows.flatten bs/\
  (∀g,v.ownBlock=some g->Θ g=id+2)/\
  (match k with
   | .cl=>bs.Nodup/\(∀b∈bs,Θ b=id+2/\Wr w b)/\∀g,v.ownBlock=some g->g∉bs
   |_=>∀b∈bs,Θ b=0)
 | .fG sz rows u=>(∀r∈rows,r.length=sz)/\(∀x,u=some x->κ id=some x)/\∃v bs,κ id=some v/\Rd w v (.sl rows) bs/\bs.Nodup/\∀b∈bs,Θ b=id+2/\Wr w b
 | .hole sz rows u p n=>(∀r∈rows,r.length=sz)/\(∀x,u=some x->κ id=some x)/\∃v bs,κ id=some v/\RdH w κ v rows p n bs/\bs.Nodup/\∀b∈bs,Θ b=id+2/\Wr w b
 | .mp kv=>∃g es clock,κ id=some (.map (some g))/\w.heap[g]?=some (.map es clock)/\Θ g=id+2/\Az w es.toList kv
 | .tk rows=>∃v bs,κ id=some v/\Rd w v (.sl rows) bs/\∀b∈bs,Θ b=0
 | .gone=>True
def Cz(Γ:w5)(b:Nat):Prop:=Γ.W0.heap.size<=b\/Γ.X b
def a1D(Γ:w5)(b:Nat):Prop:=Cz Γ b\/Γ.U b
theorem yo.cs{w:World}{κ:Nat->Option Value}{Θ:Nat->Nat}{id:Nat}{o:Ob}{cells:aR}(hc:o.ZX=some cells)(h:yo w κ Θ id o):
 ∃g cs T,κ id=some (.pointer (some ⟨g,0,none⟩))/\w.heap[g]?=some (.cells cs T (0,0))/\Θ g=id+2/\∃bs,fP w κ cs.toList cells bs/\∀b∈bs,Θ b=0:=by
 cases o<;>simp only[Ob.ZX,reduceCtorEq,az]at hc
 ·subst hc;exact h
 ·subst hc;exact h.2
theorem yo.aAx{w w':World}{κ κ':Nat->Option Value}{Θ Θ':Nat->Nat}{id:Nat}{o:Ob}{cells cells':aR}(hc:o.ZX=some cells)(h:yo w κ Θ id o)(hk:∀v,κ id=some v->κ' id=some v)
 (h':∃g cs T,κ' id=some (.pointer (some ⟨g,0,none⟩))/\w'.heap[g]?=some (.cells cs T (0,0))/\Θ' g=id+2/\∃bs,fP w' κ' cs.toList cells' bs/\∀b∈bs,Θ' b=0):yo w' κ' Θ' id (o.re cells'):=by
 cases o<;>simp only[Ob.ZX,reduceCtorEq,az]at hc
 ·exact h'
 ·exact⟨hk _ h.1,h'⟩
structure YA(Γ:w5)(w:World):Prop where
 os:w.os=Γ.W0.os
 tape:w.tape=Γ.W0.tape
 output:w.output=Γ.W0.output
 size:Γ.W0.heap.size<=w.heap.size
 block:∀b,b<Γ.W0.heap.size->¬Γ.X b->w.heap[b]?=Γ.W0.heap[b]?
def PY(w:World)(κ:Nat->Option Value)(ρ:Nat->Nat)(id:Nat):Ob->Prop
 | .row (.mv n) e sz rows=>∃v cs bs,κ id=some v/\w.ownsRow 0 e sz v rows.length cs/\mZ w (cs.drop (n*sz)) (rows.drop n).flatten bs/\bs.Nodup/\∀b∈bs,ρ b=id+1
 | .tk rows=>∃v bs,κ id=some v/\Rd w v (.sl rows) bs/\bs.Nodup/\∀b∈bs,ρ b=id+1
 |_=>True
structure CR(Γ:w5)(H:List Ob)(κ:Nat->Option Value)(Θ:Nat->Nat)(w:World)(ρ:Nat->Nat):Prop where
 free:∀b,ρ b≠0->Θ b=0/\a1D Γ b/\Wr w b
 rows:∀id e sz rows,H[id]?=some (.row .uq e sz rows)->∃v cs bs,κ id=some v/\w.ownsRow 0 e sz v rows.length cs/\mZ w cs rows.flatten bs/\bs.Nodup/\∀b∈bs,ρ b=id+1
 more:∀id o,H[id]?=some o->PY w κ ρ id o
structure eO(Γ:w5)(st:St)(κ:Nat->Option Value)(Θ:Nat->Nat)(a:Act)(w:World):Prop where
 defers:a.defers=[]
 size:a.tmps.size=Γ.nt
 rX:∀id,st.H.length<=id->κ id=none
 qp:∀(id:Nat) u,κ id=some u->u.oneCell'=true
 slot:∀t,∃bs,uB w κ (a.tmps.getD t undef) (lk st.σ t) bs/\∀b∈bs,Θ b=0
 ob:∀id o,st.H[id]?=some o->yo w κ Θ id o
 own:∀b,Θ b≠0->b<w.heap.size
 old:∀b,b<Γ.W0.heap.size->¬Γ.X b->Θ b=Γ.Θ0 b/\Θ b<=1
 mine:∀b,2<=Θ b->Cz Γ b
 stays:YA Γ w
 wq:∃ρ,CR Γ st.H κ Θ w ρ
theorem eO.vsb{Γ:w5}{st:St}{κ:Nat->Option Value}{Θ:Nat->Nat}{a:Act}{w:World}(h:eO Γ st κ Θ a w):∃B:Nat->Prop,VsB w B/\∀b,B b->b<Γ.W0.heap.size/\b<w.heap.size/\¬Γ.X b:=by
 obtain⟨B,h1,h2⟩:=Γ.vs;exact⟨B,h1.stays fun b hb=>h.stays.block b (h2 b hb).1 (h2 b hb).2,fun b hb=>⟨(h2 b hb).1,eE (h2 b hb).1 h.stays.size,(h2 b hb).2⟩⟩
theorem eO.vok{Γ:w5}{st:St}{κ:Nat->Option Value}{Θ:Nat->Nat}{a:Act}{w:World}(h:eO Γ st κ Θ a w):TB w fun _=>False:=by
 obtain⟨B,h1,h2⟩:=h.vsb;exact⟨B,h1,fun b hb=>⟨(h2 b hb).2.1,id⟩⟩
def AW(P:Program)(Γ:w5)(c:Code)(Q:Exit->St->Prop)(st:St):Prop:=
 ∀κ Θ a w,eO Γ st κ Θ a w->c.wp P (fun e a' w'=>∃xw κ' Θ',eO Γ xw κ' Θ' a' w'/\Q e xw) a w
def AO(P:Program)(Γ:w5)(all:Array Oper)(ops:List Oper)(Q:Exit->St->Prop)(st:St):Prop:=
 ∀κ Θ a w,eO Γ st κ Θ a w->wpList P all (fun e a' w'=>∃xw κ' Θ',eO Γ xw κ' Θ' a' w'/\Q e xw) ops a w
section
variable{P:Program}{Γ:w5}{Q:Exit->St->Prop}{st:St}
theorem a4T(h:Q .normal st):AW P Γ .skip Q st:=fun _ _ _ _ hs=>wp_skip ⟨_,_,_,hs,h⟩
theorem a7I(h:Q .ret st):AW P Γ .ret Q st:=fun _ _ _ _ hs=>wp_ret ⟨_,_,_,hs,h⟩
theorem a4S{id:Nat}(h:Q (.exit id) st):AW P Γ (.exit id) Q st:=fun _ _ _ _ hs=>wp_exit ⟨_,_,_,hs,h⟩
def a3i(next:St->Prop)(Q:Exit->St->Prop):Exit->St->Prop
 | .normal,st=>next st
 |e,st=>Q e st
def TF(id:Nat)(Q:Exit->St->Prop):Exit->St->Prop
 | .exit id',st=>if id'=id then Q .normal st else Q (.exit id') st
 |e,st=>Q e st
theorem a7J{x y:Code}(h:AW P Γ x (a3i (AW P Γ y Q) Q) st):AW P Γ (.seq x y) Q st:=by
 intro κ Θ a w hs;refine wp_seq (wp_mono (h κ Θ a w hs) ?_);rintro e a' w' ⟨xw,κ',Θ',hs',hq⟩;cases e with
 |normal=>exact hq κ' Θ' a' w' hs'
 |exit id=>exact⟨_,_,_,hs',hq⟩
 |goto l=>exact⟨_,_,_,hs',hq⟩
 |ret=>exact⟨_,_,_,hs',hq⟩
 |panic c=>exact⟨_,_,_,hs',hq⟩
 |outgrown=>exact⟨_,_,_,hs',hq⟩
theorem a19{id:Nat}{c:Code}(h:AW P Γ c (TF id Q) st):AW P Γ (.block id c) Q st:=by
 intro κ Θ a w hs;refine wp_block (wp_mono (h κ Θ a w hs) ?_);rintro e a' w' ⟨xw,κ',Θ',hs',hq⟩;cases e with
 |exit id'=>
  simp only[Exit.inBlock,TF]at hq⊢;split
  ·rename_i he;rw[bS he]at hq;exact⟨_,_,_,hs',hq⟩
  ·rename_i he;rw[bH he]at hq;exact⟨_,_,_,hs',hq⟩
 |normal=>exact⟨_,_,_,hs',hq⟩
 |goto l=>exact⟨_,_,_,hs',hq⟩
 |ret=>exact⟨_,_,_,hs',hq⟩
 |panic c=>exact⟨_,_,_,hs',hq⟩
 |outgrown=>exact⟨_,_,_,hs',hq⟩
theorem ZH{id:Nat}{l:List Oper}(h:AO P Γ l.toArray l Q st):AW P Γ (.region id l.toArray false) Q st:=
 fun κ Θ a w hs=>wp_region_lit (h κ Θ a w hs)
theorem a7G{all:Array Oper}(h:Q .normal st):AO P Γ all [] Q st:=fun _ _ _ _ hs=>wpList_nil ⟨_,_,_,hs,h⟩
end
section
variable{w:World}{κ:Nat->Option Value}{v:Value}{bs:af}
theorem uB.sU{k:IntKind}{n:Int}(h:uB w κ v (.int k n) bs):v=.int k n:=by
 cases h with|v h=>cases h with|cell h=>cases h with|pure h=>cases h;rfl
theorem uB.Qx{k:IntKind}{n:Int}(h:uB w κ v (.int k n) bs):tv k n:=by
 cases h with|v h=>cases h with|cell h=>cases h with|pure h=>cases h with|int _ _ hr=>exact hr
theorem uB.a3f{s:Bytes}(h:uB w κ v (.str s) bs):s.length<=maxLen:=by
 cases h with|v h=>cases h with|cell h=>cases h with|pure h=>cases h with|str x hx=>simpa using hx
theorem uB.yq{b:Bool}(h:uB w κ v (.bool b) bs):v=.bool b:=by
 cases h with|v h=>cases h with|cell h=>cases h with|pure h=>cases h;rfl
theorem uB.xB{s:Bytes}(h:uB w κ v (.str s) bs):∃x:ByteArray,v=.string x/\x.data.toList=s:=by
 cases h with|v h=>cases h with|cell h=>cases h with|pure h=>cases h;exact⟨_,rfl,rfl⟩
theorem uB.Z9{u:Value}(h:uB w κ v (.val u) bs):v=u:=by
 cases h with|v h=>cases h with|cell h=>cases h with|pure h=>cases h;rfl
theorem uB.Nt(h:uB w κ v .nil bs):v=.slice none 0 0:=by
 cases h with|v h=>cases h with|cell h=>cases h with|pure h=>cases h;rfl
theorem uB.UA{rows:List aR}(h:uB w κ v (.sl rows) bs):Rd w v (.sl rows) bs:=by
 cases h with|v h=>cases h with|cell h=>cases h with|pure h=>exact h
theorem uB.Wn{row:aR}{o:Nat}(h:uB w κ v (.ep row o) bs):Rd w v (.ep row o) bs:=by
 cases h with|v h=>cases h with|cell h=>cases h with|pure h=>exact h
theorem uB.xy{id:Nat}(h:uB w κ v (.acc id) bs):κ id=some v/\bs=[]:=by
 cases h with|v h=>cases h with|cell h=>cases h with|pure h=>cases h|acc _ _ hk=>exact⟨hk,rfl⟩
theorem uB.Cr{id off:Nat}(h:uB w κ v (.ptr id off) bs):∃b,κ id=some (.pointer (some ⟨b,0,none⟩))/\v=.pointer (some ⟨b,off,none⟩):=by
 cases h with|v h=>cases h with|cell h=>cases h with|pure h=>cases h|ptr _ _ b hk=>exact⟨b,hk,rfl⟩
theorem uB.IE{id i sz off:Nat}(h:uB w κ v (.op id i sz off) bs):∃b o0 len cap,κ id=some (.slice (some ⟨b,o0,none⟩) len cap)/\v=.pointer (some ⟨b,o0+(i*sz+off),none⟩):=by
 cases h with|v h=>cases h with|cell h=>cases h with|pure h=>cases h|op _ _ _ _ b o0 len cap hk=>exact⟨b,o0,len,cap,hk,rfl⟩
theorem fP.FH{vs:br}{ds:aR}(h:mZ w vs ds bs):fP w κ vs ds bs:=by
 induction ds generalizing vs bs with
 |nil=>cases h;exact .nil
 |cons d ds ih=>cases h with|cons v vs _ _ b1 b2 h1 h2 h3=>exact .cons _ _ _ _ _ _ h1 (.pure h2) (ih h3)
theorem F2{w:World}{e sz b o0 len cap n:Nat}{cs:br}(h:w.ownsRow 0 e sz (.slice (some ⟨b,o0,none⟩) len cap) n cs):o0=0:=by
 rcases h.2 with⟨h,_⟩|⟨g,cap,cur,h,_⟩
 ·cases h
 ·cases h;rfl
theorem uB.IR{ds:aR}(h:uB w κ v (.agg ds) bs):∃cs:br,v=.agg cs.toArray/\fP w κ cs ds bs:=by
 cases h with
 |v h=>
  cases h with
  |cell h=>cases h with|pure h=>cases h with|agg cs _ _ h=>exact⟨cs,rfl,fP.FH h⟩
  |agg cs _ _ h=>exact⟨cs,rfl,h⟩
theorem fP.length{vs:br}{ds:aR}(h:fP w κ vs ds bs):vs.length=ds.length:=by
 induction ds generalizing vs bs with
 |nil=>cases h;rfl
 |cons d ds ih=>cases h with|cons v vs _ _ b1 b2 h1 h2 h3=>simp[ih h3]
theorem fP.one{vs:br}{ds:aR}(h:fP w κ vs ds bs):∀v∈vs,v.oneCell'=true:=by
 induction ds generalizing vs bs with
 |nil=>cases h;simp
 |cons d ds ih=>
  cases h with
  |cons v vs _ _ b1 b2 h1 h2 h3=>
   intro u hu;rcases bM.1 hu with rfl|hu
   ·exact h1
   ·exact ih h3 u hu
theorem fP.app{vs us:br}{ds es:aR}{cs:af}(h:fP w κ vs ds bs)(k:fP w κ us es cs):fP w κ (vs++us) (ds++es) (bs++cs):=by
 induction ds generalizing vs bs with
 |nil=>cases h;simpa using k
 |cons d ds ih=>
  cases h with
  |cons v vs _ _ b1 b2 h1 h2 h3=>
   rw[bY];exact .cons _ _ _ _ _ _ h1 h2 (ih h3)
theorem fP.split{vs:br}{ds es:aR}(h:fP w κ vs (ds++es) bs):
 ∃v1 v2 b1 b2,vs=v1++v2/\bs=b1++b2/\fP w κ v1 ds b1/\fP w κ v2 es b2:=by
 induction ds generalizing vs bs with
 |nil=>exact⟨[],vs,[],bs,by simp,by simp,.nil,h⟩
 |cons d ds ih=>
  cases h with
  |cons v vs _ _ b1 b2 h1 h2 h3=>
   obtain⟨v1,v2,c1,c2,rfl,rfl,k1,k2⟩:=ih h3;exact⟨v::v1,v2,b1++c1,c2,by simp,by simp,.cons _ _ _ _ _ _ h1 h2 k1,k2⟩
theorem fP.mid{vs:br}{ds:aR}(h:fP w κ vs ds bs)(i n:Nat)(hn:i+n<=ds.length):
 ∃b,fP w κ ((vs.drop i).take n) ((ds.drop i).take n) b/\∀x∈b,x∈bs:=by
 have e:ds=ds.take i++((ds.drop i).take n++(ds.drop i).drop n):=by rw[cD,cD]
 rw[e]at h;obtain⟨v1,v2,b1,b2,rfl,rfl,k1,k2⟩:=h.split;obtain⟨v3,v4,b3,b4,rfl,rfl,k3,k4⟩:=k2.split;refine⟨b3,?_,by intro x hx;simp[hx]⟩;have h1:v1.length=i:=by rw[k1.length];simp;omega
 have h3:v3.length=n:=by rw[k3.length];simp;omega
 rw[fy h1,jF h3];exact k3
theorem fP.at{vs:br}{ds:aR}(h:fP w κ vs ds bs){i:Nat}{d:D}(hd:ds[i]?=some d):
 ∃v b,vs[i]?=some v/\v.oneCell'=true/\Ba w κ v d b/\∀x∈b,x∈bs:=by
 induction ds generalizing vs bs i with
 |nil=>simp at hd
 |cons e ds ih=>
  cases h with
  |cons v vs _ _ b1 b2 h1 h2 h3=>
   cases i with
   |zero=>simp at hd;subst hd;exact⟨v,b1,by simp,h1,h2,by intro x hx;simp[hx]⟩
   |succ i=>
    simp at hd;obtain⟨u,b,k1,k2,k3,k4⟩:=ih h3 hd;exact⟨u,b,by simpa using k1,k2,k3,fun x hx=>by simp[k4 x hx]⟩
theorem XR(v:Value):uB w κ v (D.XQ v) []:=by
 unfold D.XQ;split
 ·exact .of (.bool _)
 ·split
  ·rename_i h;exact .of (.int _ _ h)
  ·exact .of (.val _)
 ·split
  ·rename_i h;exact .of (.str _ h)
  ·exact .of (.val _)
 ·exact .of .nil
 ·exact .of (.val _)
end
section
variable{Γ:w5}{st:St}{κ:Nat->Option Value}{Θ:Nat->Nat}{a:Act}{w:World}
theorem eO.ev(h:eO Γ st κ Θ a w)(x:Operand):∃bs,uB w κ (a.eval x) (st.ev x) bs/\∀b∈bs,Θ b=0:=by
 cases x with
 |tmp t=>exact h.slot t
 |const v=>exact⟨[],XR v,by simp⟩
 |global g=>exact⟨[],.of (.val _),by simp⟩
 |func f=>exact⟨[],.of (.val _),by simp⟩
theorem eO.set(h:eO Γ st κ Θ a w){t:Nat}{v:Value}{d:D}{bs:af}(ht:t<Γ.nt)(hv:uB w κ v d bs)(hb:∀b∈bs,Θ b=0):
 eO Γ (st.set t d) κ Θ (a.put (some t) v) w:=by
 refine⟨h.defers,by simp[Act.put,h.size],h.rX,h.qp,?_,h.ob,h.own,h.old,h.mine,h.stays,h.wq⟩;intro u;show∃bs,uB w κ ((a.tmps.setIfInBounds t v).getD u undef) (if u=t then d else lk st.σ u) bs/\_;have hsz:=h.size;by_cases hu:u=t
 ·subst hu;rw[bS rfl];have:(a.tmps.setIfInBounds u v).getD u undef=v:=by
   simp[cO,hsz,ht]
  rw[this];exact⟨bs,hv,hb⟩
 ·rw[bH hu];have:(a.tmps.setIfInBounds t v).getD u undef=a.tmps.getD u undef:=by
   simp[cO,uA hu]
  rw[this];exact h.slot u
end
abbrev bX:=List Ob
def CL(P:Program)(t:TypeId):Option Bool:=
 match P.underlying t with
 |some (.struct _)=>some true
 |some (.array _ _)=>some true
 |some _=>some false
 |none=>none
def Be(P:Program)(t:TypeId):Nat:=P.cellsOf t
def tfo(P:Program)(t f:Nat):Option Nat:=
 match P.underlying t with
 |some (.struct fs)=>(match fs[f]? with
  |some x=>if(P.info? x.type).isSome/\P.cellsOf x.type≠0 then some x.offset else none
  |none=>none)
 |_=>none
def tft(P:Program)(t f:Nat):Option (Nat×TypeId):=
 match P.underlying t with
 |some (.struct fs)=>(match fs[f]? with|some x=>some (x.offset,x.type)|none=>none)
 |_=>none
def Ia(P:Program)(t:TypeId):Option (TypeId×Nat):=
 match P.underlying t with
 |some (.slice e)=>if(P.info? e).isSome then some (e,P.cellsOf e)else none
 |_=>none
def a92(P:Program)(t:TypeId):Option (Nat×Nat):=
 match P.underlying t with
 |some (.array n e)=>if(P.info? e).isSome then some (P.cellsOf e,n)else none
 |_=>none
def P5(P:Program)(t:TypeId):Bool:=match P.underlying t with|some .string=>true|_=>false
def Xo(P:Program)(t:TypeId):Option IntKind:=match P.underlying t with|some (.int k)=>some k|_=>none
def a6z(P:Program)(t:TypeId):Bool:=match P.underlying t with|some .bool=>true|_=>false
def Z1(P:Program)(t:TypeId):Bool:=match P.underlying t with
 |some (.struct fs)=>match fs.toList with
  | [f,g]=>f.name != "_" &&g.name != "_" &&f.offset==0&&g.offset==1&&P5 P f.type&&P5 P g.type&& !P.stoodInHeld t&& !P.eqGuardType P.depth t
  |_=>false
 |_=>false
def peq(P:Program)(op:BinOp)(t:TypeId):D->D->Option D
 | .bool a,.bool b=>if a6z P t=true then match op with| .eql=>some (.bool (a==b))| .neq=>some (.bool (a != b))|_=>none else none
 | .agg [.str a,.str b],.agg [.str c,.str d]=>if Z1 P t=true then match op with| .eql=>some (.bool (a==c&&b==d))| .neq=>some (.bool (!(a==c&&b==d)))|_=>none else none
 |_,_=>none
def a94(P:Program)(t:TypeId):Bool:=match P.underlying t with|some (.interface _)=>true|_=>false
def a8b(P:Program)(op:BinOp)(t:TypeId)(x:D)(y:Operand):Option D:=match x,y with
 | .ifc b,.const .nilIface=>(match a94 P t,op with|true,.eql=>some (.bool (!b))|true,.neq=>some (.bool b)|_,_=>none)
 |_,_=>none
def a0B(op:BinOp):D->D->Option D
 | .int k a,.int k' b=>
  if k=k' then
   match op with
   | .add=>some (.int k (k.wrap (a+b)))
   | .sub=>some (.int k (k.wrap (a-b)))
   | .mul=>some (.int k (k.wrap (a*b)))
   | .quo=>if 0<=a/\0<b then some (.int k (a/b))else none
   | .rem=>if 0<=a/\0<b then some (.int k (a%b))else none
   | .eql=>some (.bool (a==b))
   | .neq=>some (.bool (a != b))
   | .lss=>some (.bool (a<b))
   | .leq=>some (.bool (a<=b))
   | .gtr=>some (.bool (a>b))
   | .geq=>some (.bool (a>=b))
   |_=>none
  else none
 | .str a,.str b=>
  match op with
  | .add=>if a.length+b.length<=maxLen then some (.str (a++b))else none
  | .eql=>some (.bool (a==b))
  | .neq=>some (.bool (!(a==b)))
  | .lss=>some (.bool (Op.bytesLess a b))
  | .leq=>some (.bool (Op.bytesLess a b||a==b))
  | .gtr=>some (.bool (!(Op.bytesLess a b||a==b)))
  | .geq=>some (.bool (!(Op.bytesLess a b)))
  |_=>none
 |_,_=>none
def KT(ag:Bool)(n:Nat)(row:aR)(off:Nat):Option D:=
 if ag then(if off+n<=row.length then some (.agg ((row.drop off).take n))else none)else row[off]?
def Ps(len:Nat)(lo hi:Option D):Option (Nat×Nat):=
 match(match hi with|none=>some len|some (.int _ h)=>if 0<=h/\h.toNat<=len then some h.toNat else none|_=>none)with
 |none=>none
 |some h=>match(match lo with|none=>some 0|some (.int _ l)=>if 0<=l/\l.toNat<=h then some l.toNat else none|_=>none)with
  |none=>none
  |some l=>some (l,h)
def a55(a b:Int):Int:=if b<a then b else a
def a8a:D->D->Option D
 | .int k m,.int k' n=>if k=k' then some (.int k (a55 m n))else none
 |_,_=>none
def a5Y(P:Program)(st:St)(x:Operand)(t:TypeId):Option D:=
 match st.ev x with
 | .str s=>if P5 P t then some (.int .i64 s.length)else none
 | .sl rows=>if(Ia P t).isSome then some (.int .i64 rows.length)else none
 | .nil=>if(Ia P t).isSome then some (.int .i64 0)else none
 | .acc id=>(match Ia P t,st.H[id]? with|some _,some (.row _ _ _ rows)=>some (.int .i64 rows.length)|_,_=>none)
 |_=>none
def D.cellsOf:D->Option aR
 | .agg ds=>some ds
 | .any=>none
 | .gZ _=>none
 | .val v=>if v.oneCell' then some [.val v]else none
 |d=>some [d]
def tz(P:Program)(t:TypeId):Option aR:=
 match P.info? t with
 |some i=>(match i.zero with
  |some z=>if z.cells.toList.all (fun c=>c.oneCell')&&z.cells.size==i.size then some (z.cells.toList.map D.XQ)else none
  |none=>none)
 |none=>none
def Z2(P:Program)(t:TypeId):Option (List (Nat×Nat)):=
 match P.underlying t with
 |some (.struct fs)=>fs.toList.mapM (fun f=>(P.info? f.type).map fun i=>(f.offset,i.size))
 |_=>none
def AT(places:List (Nat×Nat))(cells:aR):List (Nat×D)->Option aR
 | []=>some cells
 | (i,d)::rest=>match places[i]?,d.cellsOf with
  |some (off,sz),some ds=>if ds.length=sz/\off+sz<=cells.length then AT places (cells.take off++ds++cells.drop (off+sz)) rest else none
  |_,_=>none
def keq:D->D->Option Bool
 | .str a,.str b=>some (a==b)
 | .int k a,.int k' b=>if k=k' then some (a==b)else none
 |_,_=>none
def M9:TypeDesc->D->Bool
 | .string,.str _=>true
 | .int k,.int k' _=>decide (k=k')
 |_,_=>false
def I6(k:D):List (D×D)->Option (Option D)
 | []=>some none
 |p::r=>match keq k p.1 with|some true=>some (some p.2)|some false=>I6 k r|none=>none
def Nl(k v:D):List (D×D)->Option (List (D×D))
 | []=>some [(k,v)]
 |p::r=>match keq k p.1 with|some true=>some ((k,v)::r)|some false=>(Nl k v r).map (p:: ·)|none=>none
def a0T(P:Program)(T:TypeId):Option (TypeDesc×D):=
 match P.underlying T with
 |some (.map kt et)=>(match P.underlying kt,P.info? et with
  |some d,some i=>(match i.zero with|some z=>if z.oneCell'=true then some (d,D.XQ z)else none|none=>none)
  |_,_=>none)
 |_=>none
def plk(P:Program)(T:TypeId)(kv:List (D×D))(k:D)(ok:Bool):Option D:=
 match a0T P T with
 |some (kd,dz)=>(match M9 kd k,I6 k kv with
  |true,some (some d)=>some (bif ok then .gZ [d,.bool true]else d)
  |true,some none=>some (bif ok then .gZ [dz,.bool false]else dz)
  |_,_=>none)
 |none=>none
def a65(k:IntKind)(a b:Int):Int:=k.wrap ((BitVec.ofInt k.bits a&&& BitVec.ofInt k.bits b).toNat)
def a9X(k:IntKind)(a b:Int):Int:=k.wrap ((BitVec.ofInt k.bits a|||BitVec.ofInt k.bits b).toNat)
def a67(k:IntKind)(a b:Int):Int:=k.wrap ((BitVec.ofInt k.bits a^^^BitVec.ofInt k.bits b).toNat)
def a5o(k:IntKind)(a b:Int):Int:=a.fdiv (2^(min b.toNat k.bits))
def a8Z(op:BinOp)(x y:D):Option D:=match x,y with
 | .int k a,.int k' b=>(match op with
  | .and=>if k=k' then some (.int k (a65 k a b))else none
  | .or=>if k=k' then some (.int k (a9X k a b))else none
  | .xor=>if k=k' then some (.int k (a67 k a b))else none
  | .shr=>if 0<=b then some (.int k (a5o k a b))else none
  |_=>none)
 |_,_=>none
theorem tv.shr{k:IntKind}{a:Int}(h:tv k a)(b:Int):tv k (a5o k a b):=by
 have hm:(0:Int)<2^(min b.toNat k.bits):=Int.pow_pos (by decide);unfold a5o;rw[Int.fdiv_eq_ediv_of_nonneg _ (EA hm)];generalize(2:Int)^(min b.toNat k.bits)=m at hm;have hz:=tv.zero k;rcases Int.lt_or_le a 0 with h0|h0
 ·refine⟨EB h.1 (Int.le_ediv_of_mul_le hm ?_),EB (EA (FM (b:=0) hm (by omega))) hz.2⟩;have:a*m<=a*1:=Int.mul_le_mul_of_nonpos_left (EA h0) (by omega);omega
 ·exact h.down (FC h0 (EA hm)) (Int.ediv_le_self m h0)
def pv(P:Program)(st:St):Op->Option D
 | .lookup T x i ok=>match st.ev x with
  | .acc id=>(match st.H[id]? with|some (.mp kv)=>plk P T kv (st.ev i) ok|_=>none)
  |_=>none
 | .build t parts=>match tz P t,Z2 P t with
  |some zs,some ps=>(AT ps zs (parts.toList.map fun p=>(p.1,st.ev p.2))).map D.agg
  |_,_=>none
 | .move x=>some (st.ev x)
 | .assign x=>some (st.ev x)
 | .pick c a b=>match st.ev c with| .bool t=>some (bif t then st.ev a else st.ev b)|_=>none
 | .binOp op t x y _=>match a0B op (st.ev x) (st.ev y)with|some d=>some d|none=>(match peq P op t (st.ev x) (st.ev y)with|some d=>some d|none=>(match a8b P op t (st.ev x) y with|some d=>some d|none=>a8Z op (st.ev x) (st.ev y)))
 | .nilCheck x=>match st.ev x with| .ptr i o=>some (.ptr i o)| .op i a b c=>some (.op i a b c)| .ep r o=>some (.ep r o)|_=>none
 | .unOp .not _ x=>match st.ev x with| .bool b=>some (.bool (!b))|_=>none
 | .unOp .neg _ x=>match st.ev x with| .int k n=>some (.int k (k.wrap (0-n)))|_=>none
 | .convert s d x=>match st.ev x,Xo P s,Xo P d with| .int _ n,some _,some k=>some (.int k (k.wrap n))|_,_,_=>none
 | .field t x f=>match tft P t f,st.ev x with
  |some (off,ft),.agg cells=>(match CL P ft with|some ag=>KT ag (Be P ft) cells off|none=>none)
  |_,_=>none
 | .fieldAddr t x f=>match tfo P t f,st.ev x with
  |some o,.ptr id off=>some (.ptr id (off+o))
  |some o,.ep row off=>some (.ep row (off+o))
  |some o,.op id i sz off=>some (.op id i sz (off+o))
  |_,_=>none
 | .indexAddr t x i=>match Ia P t,st.ev x,st.ev i with
  |some (_,sz),.sl rows,.int _ n=>if 0<=n then(match rows[n.toNat]? with|some row=>if row.length=sz then some (.ep row 0)else none|none=>none)else none
  |some (_,sz),.acc id,.int _ n=>(match st.H[id]? with
   |some (.row _ _ sz' rows)=>if sz=sz'/\0<=n/\n.toNat<rows.length then some (.op id n.toNat sz 0)else none
   |_=>none)
  |_,.val (.pointer (some ⟨g,o,none⟩)),.int _ n=>(match a92 P t with
   |some (sz,len)=>if 0<=n/\n.toNat<len then some (.val (.pointer (some ⟨g,o+n.toNat*sz,none⟩)))else none
   |none=>none)
  |_,_,_=>none
 | .load t x=>match CL P t,st.ev x with
  |some ag,.ep row off=>KT ag (Be P t) row off
  |some ag,.ptr id off=>(match(st.H[id]?).bind Ob.ZX with|some cells=>KT ag (Be P t) cells off|none=>none)
  |some ag,.op id i sz off=>(match st.H[id]? with
   |some (.row k _ sz' rows)=>(match rows[i]? with|some row=>if sz'=sz/\k.Tt=true/\off+(bif ag then Be P t else 1)<=sz then KT ag (Be P t) row off else none|none=>none)
   |_=>none)
  |some ag,.val (.pointer (some ⟨g,o,none⟩))=>(match ag with|false=>ZA g o|true=>none)
  |_,_=>none
 | .extract x i=>match st.ev x with| .gZ vs=>vs[i]? |_=>none
 | .index t x i=>match P5 P t,st.ev x,st.ev i with
  |true,.str s,.int _ n=>if 0<=n then(match s[n.toNat]? with|some b=>some (.int .u8 b.toNat)|none=>none)else none
  |_,_,_=>none
 | .slice t x lo hi none=>match st.ev x with
  | .str s=>if P5 P t then(match Ps s.length (lo.map st.ev) (hi.map st.ev)with|some (l,h)=>some (.str ((s.take h).drop l))|none=>none)else none
  | .sl rows=>(match Ia P t,Ps rows.length (lo.map st.ev) (hi.map st.ev)with
   |some (_,sz),some (l,h)=>if(rows.all (fun r=>r.length==sz))then some (.sl ((rows.take h).drop l))else none
   |_,_=>none)
  |_=>none
 | .call c=>match c.callee,c.args.toList,c.argTypes.toList with
  | .builtin .len,[x],[t]=>a5Y P st x t
  | .builtin .min,[x,y],[_,_]=>a8a (st.ev x) (st.ev y)
  |_,_,_=>none
 |_=>none
section
variable{P:Program}{Γ:w5}{st:St}{κ:Nat->Option Value}{Θ:Nat->Nat}{a:Act}{w:World}
def zJ(P:Program)(κ:Nat->Option Value)(Θ:Nat->Nat)(a:Act)(w:World)(o:Oper)(d:D):Prop:=
 ∃v bs,(execOp a.eval o).run P w=.ok (.value v) w/\uB w κ v d bs/\∀b∈bs,Θ b=0
theorem Tp{n:Nat}(h:n<=maxLen):tv .i64 (n:Int):=by
 rw[tv.i64];unfold maxLen at h;omega
theorem gx{k:IntKind}{n:Int}(h:tv k n):k.wrap n=n:=by
 unfold tv at h;cases k<;>simp[IntKind.min,IntKind.max,IntKind.wrap,IntKind.bits,IntKind.signed]at h⊢ <;>(try split)<;>omega
theorem XU{o:Oper}{op:BinOp}{t t':TypeId}{x y:Operand}{d:D}(hs:eO Γ st κ Θ a w)(ho:o.op=.binOp op t x y t')
 (h:a0B op (st.ev x) (st.ev y)=some d):zJ P κ Θ a w o d:=by
 obtain⟨b1,r1,_⟩:=hs.ev x;obtain⟨b2,r2,_⟩:=hs.ev y;generalize st.ev x=dx at*;generalize st.ev y=dy at*;unfold a0B at h;split at h
 ·rename_i k p k' q;split at h
  ·rename_i hk;subst hk;have e1:=r1.sU;have e2:=r2.sU;cases op<;>simp only[az,reduceCtorEq]at h
   case quo=>
    split at h
    ·rename_i hq;cases h;have hq0:q≠0:=by omega
     have hle:p/q<=p:=Int.ediv_le_self q hq.1;have h0:0<=p/q:=FC hq.1 (by omega);have hin:=r1.Qx.down h0 hle;have hw:k.wrap (p.tdiv q)=p/q:=by
      rw[Int.tdiv_eq_ediv_of_nonneg hq.1];exact gx hin
     exact⟨_,[],by simp[execOp,ho,e1,e2,binOp,eqGuard,Op.intDiv,hq0,hw],.of (.int _ _ hin),by simp⟩
    ·cases h
   case rem=>
    split at h
    ·rename_i hq;cases h;have hq0:q≠0:=by omega
     have h0:0<=p%q:=Int.emod_nonneg p hq0;have hle:p%q<=p:=by
      have h1:=Int.emod_add_mul_ediv p q;have h2:0<=q*(p/q):=Int.mul_nonneg (by omega) (FC hq.1 (by omega));omega
     have hin:=r1.Qx.down h0 hle;have hw:p.tmod q=p%q:=Int.tmod_eq_emod_of_nonneg hq.1;exact⟨_,[],by simp[execOp,ho,e1,e2,binOp,eqGuard,Op.intDiv,hq0,hw],.of (.int _ _ hin),by simp⟩
    ·cases h
   all_goals subst h
   all_goals first
    |exact⟨_,[],by simp[execOp,ho,e1,e2,binOp,eqGuard,Op.intArith],.of (.int _ _ (tv.wrap _ _)),by simp⟩
    |exact⟨_,[],by simp[execOp,ho,e1,e2,binOp,eqGuard,Op.intCmp],.of (.bool _),by simp⟩
  ·cases h
 ·rename_i p q;obtain⟨u,e1,rfl⟩:=r1.xB;obtain⟨v,e2,rfl⟩:=r2.xB;cases op<;>simp only[az,reduceCtorEq]at h
  case add=>
   split at h
   ·rename_i hl;cases h;have hsz:u.size+v.size<=9223372036854775807:=by
     simp only[xK,maxLen]at hl;exact hl
    refine⟨.string (u++v),[],?_,?_,by simp⟩
    ·simp[execOp,ho,e1,e2,binOp,eqGuard,run_string_add_sum w u v hsz]
    ·have:=Rd.str (w:=w) (u++v) (by rw[ByteArray.size_append'];unfold maxLen;omega);simp only[ByteArray.data_append,mH]at this;exact .of this
   ·cases h
  all_goals subst h
  all_goals exact⟨_,[],by simp[execOp,ho,e1,e2,binOp,eqGuard,Op.stringOp,ByteArray.toList_eq],.of (.bool _),by simp⟩
 ·cases h
theorem IX{t:TypeId}{b:Bool}(h:CL P t=some b)(w:World):(isAgg t).run P w=.ok b w:=by
 unfold CL at h;split at h<;>first
  | (rename_i hu;cases h;simp[isAgg,run_underlying hu])
  | (rename_i d _ _ hu;cases h;cases d<;>simp_all [isAgg,run_underlying hu])
  |cases h
theorem info_of_underlying{t:TypeId}{d:TypeDesc}(h:P.underlying t=some d):∃i,P.info? t=some i:=by
 unfold Program.underlying at h;cases hi:P.info? t with
 |none=>simp[hi]at h
 |some i=>exact⟨i,rfl⟩
theorem Nj{t:TypeId}{b:Bool}(h:CL P t=some b):∃i,P.info? t=some i:=by
 unfold CL at h;split at h<;>first
  | (rename_i hu;exact info_of_underlying hu)
  |cases h
theorem xu{t:TypeId}(h:∃i,P.info? t=some i)(w:World):(sizeOf t).run P w=.ok (Be P t) w:=by
 obtain⟨i,hi⟩:=h;simp[sizeOf,typeInfo,hi,Be,Program.cellsOf]
theorem qd{t:TypeId}{ag:Bool}(ht:CL P t=some ag){b off o:Nat}{cs:br}
 (hc:∀j c,cs[j]?=some c->w.cell? ⟨b,off+j,none⟩=some c):
 (ag=true->o+Be P t<=cs.length->(Instr.loadAt t (.pointer (some ⟨b,off+o,none⟩))).run P w=.ok (.agg ((cs.drop o).take (Be P t)).toArray) w)/\
 (ag=false->∀c,cs[o]?=some c->(Instr.loadAt t (.pointer (some ⟨b,off+o,none⟩))).run P w=.ok c w):=by
 constructor
 ·intro e hl;subst e;have hlen:((cs.drop o).take (Be P t)).length=Be P t:=by simp;omega
  have:=run_loadCells_list (P:=P) w ⟨b,off+o,none⟩ ((cs.drop o).take (Be P t)) (by
   intro j v hj;rw[Addr.add_lit];rw[cK]at hj;split at hj
   ·rw[eD]at hj;rw[rp];exact hc _ _ hj
   ·cases hj)
  rw[hlen]at this;simp[Instr.loadAt,Instr.sureAddr,loadVar,IX ht,xu (Nj ht),this]
 ·intro e c hj;subst e;have:=hc o c hj;simp[Instr.loadAt,Instr.sureAddr,loadVar,IX ht,this]
theorem Ba.UI{v:Value}{d:D}{bs:af}(h:Ba w κ v d bs):uB w κ v d bs:=.v (.cell h)
theorem R6{o:Oper}{t:TypeId}{x:Operand}{d:D}(hs:eO Γ st κ Θ a w)(ho:o.op=.load t x)
 (h:pv P st (.load t x)=some d):zJ P κ Θ a w o d:=by
 obtain⟨b1,r1,z1⟩:=hs.ev x;simp only[pv]at h;split at h
 ·rename_i ag row off ht hx;rw[hx]at r1;have hrd:=r1.Wn;generalize Yd:a.eval x=vx at hrd;cases hrd with
  |ep b base cs _ _ bs h0 hc vq=>
   have L:=qd (P:=P) (w:=w) ht (o:=off) hc;unfold KT at h;split at h
   ·rename_i hag;split at h
    ·rename_i hl;cases h;have hl':off+Be P t<=cs.length:=by rw[vq.length];exact hl
     obtain⟨b',hm,hsub⟩:=vq.mid off (Be P t);exact⟨_,b',by simp only[execOp,ho,Yd];simp[L.1 hag hl'],.of (.agg _ _ _ hm),fun y hy=>z1 y (by simp[hsub y hy])⟩
    ·cases h
   ·rename_i hag;simp only[zY]at hag;obtain⟨v,b',hv,_,hr,hsub⟩:=vq.at h;exact⟨v,b',by simp only[execOp,ho,Yd];simp[L.2 hag v hv],.of hr,fun y hy=>z1 y (by simp[hsub y hy])⟩
 ·rename_i ag id off ht hx;rw[hx]at r1;obtain⟨g,hk,hv⟩:=r1.Cr;split at h
  ·rename_i cells hH;obtain⟨ob,hH,CN⟩:=oG.1 hH;obtain⟨g',cs,T,hk',hg,hΘ,bs,vq,hz⟩:=(hs.ob id _ hH).cs CN;rw[hk]at hk';cases hk';have hc:∀j c,cs.toList[j]?=some c->w.cell? ⟨g,0+j,none⟩=some c:=by
    intro j c hj;simp only[cr,World.cell?,hg];simpa using hj
   have L:=qd (P:=P) (w:=w) ht (o:=off) hc;simp only[cr]at L;unfold KT at h;split at h
   ·rename_i hag;split at h
    ·rename_i hl;cases h;have hl':off+Be P t<=cs.toList.length:=by rw[vq.length];exact hl
     obtain⟨b',hm,hsub⟩:=vq.mid off (Be P t) hl;exact⟨_,b',by simp only[execOp,ho,hv];simp[L.1 hag hl'],.v (.agg _ _ _ hm),fun y hy=>hz y (hsub y hy)⟩
    ·cases h
   ·rename_i hag;simp only[zY]at hag;obtain⟨v,b',hv',_,hr,hsub⟩:=vq.at h;exact⟨v,b',by simp only[execOp,ho,hv];simp[L.2 hag v hv'],hr.UI,fun y hy=>hz y (hsub y hy)⟩
  ·cases h
 ·rename_i ag id i sz off ht hx;rw[hx]at r1;obtain⟨g,o0,len,cap,hk,hv⟩:=r1.IE;split at h
  ·rename_i k e sz' rows hH;split at h
   ·rename_i row hrow;split at h
    ·rename_i a9l;obtain⟨rfl,hk0,hoff⟩:=a9l;obtain⟨hsz,hrl,vk,cs,bs,Yc,hown,vq,hΘ,hz⟩:=hs.ob id _ hH;have Ab:∀b∈bs,Θ b=0:=by cases k<;>first|exact hz|simp[RK.Tt]at hk0
     rw[hk]at Yc;cases Yc;have ho0:=F2 hown;subst ho0;rw[cr]at hv;have Yb:row.length=sz':=hrl row (aC hrow);have hcells:∀j c,cs[j]?=some c->w.cell? ⟨g,0+j,none⟩=some c:=by
      intro j c hj;have:=hown.cells (g:=g) (by simp[Value.ownBlock]) j c hj;simpa[Addr.add_lit]using this
     have L:=qd (P:=P) (w:=w) ht (o:=i*sz'+off) hcells;simp only[cr]at L;have aDB:=vq.length;have hmid:=Hx hrl hrow;have hlt:i<rows.length:=(aH.1 hrow).1;have hfl:=pW hrl;have hle:(i+1)*sz'<=rows.length*sz':=dZ _ hlt;rw[kn,o6]at hle;unfold KT at h;split at h
     ·rename_i hag;subst hag;simp only[aV]at hoff;split at h
      ·rename_i hl;cases h;have hl':i*sz'+off+Be P t<=cs.length:=by rw[aDB,hfl];omega
       obtain⟨b',hm,hsub⟩:=vq.mid (i*sz'+off) (Be P t);have e:(rows.flatten.drop (i*sz'+off)).take (Be P t)=(row.drop off).take (Be P t):=by
        rw[<-hmid,List.drop_take,wD,gz,fE (by omega)]
       rw[e]at hm;exact⟨_,b',by simp only[execOp,ho,hv];simp[L.1 rfl hl'],.of (.agg _ _ _ hm),fun y hy=>Ab y (hsub y hy)⟩
      ·cases h
     ·rename_i hag;simp only[zY]at hag;subst hag;simp only[aZ]at hoff;have e:rows.flatten[i*sz'+off]?=some d:=by
       rw[<-hmid,cK,bS (by omega),eD]at h;exact h
      obtain⟨v,b',hv',_,hr,hsub⟩:=vq.at e;exact⟨v,b',by simp only[execOp,ho,hv];simp[L.2 rfl v hv'],.of hr,fun y hy=>Ab y (hsub y hy)⟩
    ·cases h
   ·cases h
  ·cases h
 ·rename_i ag g o' ht hx;rw[hx]at r1;have hv:=r1.Z9;split at h
  ·obtain⟨ds,⟨p,hp,hcs⟩,hd⟩:=a3o h;obtain⟨B,hB,_⟩:=hs.vsb;obtain⟨_,cs,T,z,hg,hpc⟩:=hB _ hp;obtain⟨v,VJ,hrd⟩:=hcs _ hpc _ _ hd;have hc:∀j c,cs.toList[j]?=some c->w.cell? ⟨g,0+j,none⟩=some c:=by
    intro j c hj;simp only[cr,World.cell?,hg];simpa using hj
   have L:=(qd (P:=P) (w:=w) ht (o:=o') hc).2 rfl v VJ;rw[cr]at L;exact⟨v,[],by simp only[execOp,ho,hv];simp[L],.of (hrd w),by simp⟩
  ·cases h
 ·cases h
theorem V7{o:Oper}{t f:Nat}{x:Operand}{d:D}(hs:eO Γ st κ Θ a w)(ho:o.op=.field t x f)
 (h:pv P st (.field t x f)=some d):zJ P κ Θ a w o d:=by
 obtain⟨b1,r1,z1⟩:=hs.ev x;simp only[pv]at h;split at h
 ·rename_i off ft cells ht hx;rw[hx]at r1;obtain⟨cs,hv,vq⟩:=r1.IR;unfold tft at ht;split at ht
  ·rename_i fs hu;split at ht
   ·rename_i fl hfl;cases ht;split at h
    ·rename_i ag hta;unfold KT at h;split at h
     ·rename_i hag;subst hag;split at h
      ·rename_i hl;cases h;obtain⟨b',hm,hsub⟩:=vq.mid fl.offset (Be P fl.type) hl;refine⟨.agg ((cs.drop fl.offset).take (Be P fl.type)).toArray,b',?_,.v (.agg _ _ _ hm),fun y hy=>z1 y (hsub y hy)⟩;have e:cs.toArray.extract fl.offset (fl.offset+Be P fl.type)=((cs.drop fl.offset).take (Be P fl.type)).toArray:=by
        rw[List.extract_toArray,List.extract_eq_take_drop];congr 1;congr 1;omega
       simp only[execOp,ho,hv];simp[Instr.field,run_underlying hu,hfl,asAgg,part,IX hta,xu (Nj hta),e]
      ·cases h
     ·rename_i hag;simp only[zY]at hag;subst hag;obtain⟨v,b',VJ,_,hr,hsub⟩:=vq.at h;refine⟨v,b',?_,.v (.cell hr),fun y hy=>z1 y (hsub y hy)⟩;simp only[execOp,ho,hv];simp[Instr.field,run_underlying hu,hfl,asAgg,part,IX hta,VJ]
    ·cases h
   ·cases ht
  ·cases ht
 ·cases h
theorem Pk{o:Oper}{t f:Nat}{x:Operand}{d:D}(hs:eO Γ st κ Θ a w)(ho:o.op=.fieldAddr t x f)
 (h:pv P st (.fieldAddr t x f)=some d):zJ P κ Θ a w o d:=by
 obtain⟨b1,r1,z1⟩:=hs.ev x;have hf:∀ {o':Nat},tfo P t f=some o'->∀(b off:Nat),(Instr.fieldAt t (.pointer (some ⟨b,off,none⟩)) f).run P w=.ok (.pointer (some ⟨b,off+o',none⟩)) w:=by
  intro o' h b off;unfold tfo at h;split at h
  ·rename_i fs hu;split at h
   ·rename_i fl hfl;split at h
    ·rename_i hc;cases h;obtain⟨i,hi⟩:=eT.1 hc.1;have hsz:=xu (P:=P) ⟨i,hi⟩ w;have h0:Be P fl.type≠0:=hc.2;simp[Instr.fieldAt,run_underlying hu,hfl,Instr.sureAddr,fieldPlace,hsz,h0,Addr.add_lit]
    ·cases h
   ·cases h
  ·cases h
 simp only[pv]at h;split at h
 ·rename_i o' id off ht hx;cases h;rw[hx]at r1;obtain⟨g,hk,hv⟩:=r1.Cr;exact⟨_,[],by simp only[execOp,ho,hv];simp[hf ht g off],(Ba.ptr id (off+o') g hk).UI,by simp⟩
 ·rename_i o' row off ht hx;cases h;rw[hx]at r1;have hrd:=r1.Wn;generalize Yd:a.eval x=vx at hrd;cases hrd with
  |ep b base cs _ _ bs h0 hc vq=>
   refine⟨.pointer (some ⟨b,base+off+o',none⟩),b::bs,by simp only[execOp,ho,Yd];simp[hf ht b (base+off)],?_,z1⟩;rw[rp];exact .of (.ep b base cs row (off+o') bs h0 hc vq)
 ·rename_i o' id i sz off ht hx;cases h;rw[hx]at r1;obtain⟨g,o0,len,cap,hk,hv⟩:=r1.IE;refine⟨.pointer (some ⟨g,o0+(i*sz+off)+o',none⟩),[],by simp only[execOp,ho,hv];simp[hf ht g (o0+(i*sz+off))],?_,by simp⟩;rw[rp,rp];exact(Ba.op id i sz (off+o') g o0 len cap hk).UI
 ·cases h
theorem qJ{t e sz:Nat}(h:Ia P t=some (e,sz)):P.underlying t=some (.slice e)/\(∃i,P.info? e=some i)/\Be P e=sz:=by
 unfold Ia at h;split at h
 ·rename_i e' hu;split at h
  ·rename_i hi;cases h;exact⟨hu,eT.1 hi,rfl⟩
  ·cases h
 ·cases h
theorem Pp{o:Oper}{t:Nat}{x i:Operand}{d:D}(hs:eO Γ st κ Θ a w)(ho:o.op=.indexAddr t x i)
 (h:pv P st (.indexAddr t x i)=some d):zJ P κ Θ a w o d:=by
 obtain⟨b1,r1,z1⟩:=hs.ev x;obtain⟨b2,r2,z2⟩:=hs.ev i;simp only[pv]at h;split at h
 ·rename_i e sz rows k n ht hx hi;rw[hx]at r1;rw[hi]at r2;have hn:=r2.sU;obtain⟨hu,Ol,Nh⟩:=qJ ht;have hsz:=xu (P:=P) Ol w;split at h
  ·rename_i h0;split at h
   ·rename_i row hrow;split at h
    ·rename_i hlen;cases h;have hrd:=r1.UA;have hlt:n.toNat<rows.length:=(aH.1 hrow).1;generalize Yd:a.eval x=vx at hrd;cases hrd with
     |BE=>simp at hrow
     |pQ=>simp at hrow
     |sl b off cap sz' _ cs bs hb hcap DB hrl hc vq=>
      have aDE:sz'=sz:=by rw[<-hrl row (aC hrow)];exact hlen
      subst aDE;obtain⟨b',hm,hsub⟩:=vq.mid (n.toNat*sz') sz';rw[Hx hrl hrow]at hm;have hn':0<=n/\n<(rows.length:Int):=⟨h0,by omega⟩
      refine⟨.pointer (some ⟨b,off+n.toNat*sz',none⟩),b::b',?_,?_,?_⟩
      ·simp only[execOp,ho,Yd,hn];simp[Instr.indexAt,asIntOf,run_underlying hu,hn',hsz,Nh,Addr.add_lit]
      ·have aDC:∀j c,((cs.drop (n.toNat*sz')).take sz')[j]?=some c->w.cell? ⟨b,off+n.toNat*sz'+j,none⟩=some c:=by
        intro j c hj;rw[cK]at hj;split at hj
        ·rw[eD]at hj;rw[rp];exact hc _ _ hj
        ·cases hj
       exact .of (.ep b (off+n.toNat*sz') _ row 0 b' hb aDC hm)
      ·intro y hy;rcases bM.1 hy with rfl|hy
       ·exact z1 _ (by simp)
       ·exact z1 _ (by simp[hsub y hy])
    ·cases h
   ·cases h
  ·cases h
 ·rename_i e sz id k n ht hx hi;rw[hx]at r1;rw[hi]at r2;have hn:=r2.sU;obtain⟨hv,_⟩:=r1.xy;obtain⟨hu,Ol,Nh⟩:=qJ ht;have hsz:=xu (P:=P) Ol w;split at h
  ·rename_i dp e' sz' rows hH;split at h
   ·rename_i hc;cases h;obtain⟨rfl,h0,hlt⟩:=hc;obtain⟨a7r,hrl,vk,cs,bs,Yc,hown,vq,hΘ,hz⟩:=hs.ob id _ hH;rw[hv]at Yc;cases Yc;rcases hown.2 with⟨v8,Ab⟩|⟨g,cap,cur,hkv,_⟩
    ·omega
    ·have hn':0<=n/\n<(rows.length:Int):=⟨h0,by omega⟩
     refine⟨_,[],?_,(Ba.op id n.toNat sz 0 g 0 _ _ (hkv▸hv)).UI,by simp⟩;simp only[execOp,ho,hn,hkv];simp[Instr.indexAt,asIntOf,run_underlying hu,hn',hsz,Nh,Addr.add_lit]
   ·cases h
  ·cases h
 ·rename_i g o' kk n hx hi;rw[hx]at r1;rw[hi]at r2;have hn:=r2.sU;have hv:=r1.Z9;split at h
  ·rename_i sz len hT;split at h
   ·rename_i hc;cases h;obtain⟨h0,hlt⟩:=hc;unfold a92 at hT;split at hT
    ·rename_i len' e hu;split at hT
     ·rename_i Ol;cases hT;have hsz:=xu (P:=P) (eT.1 Ol) w;have hn':0<=n/\n<(len:Int):=⟨h0,by omega⟩
      refine⟨_,[],?_,.of (.val _),by simp⟩;simp only[execOp,ho,hn,hv];simp[Instr.indexAt,Instr.sureAddr,asIntOf,run_underlying hu,hn',hsz,Be,Addr.add_lit]
     ·cases hT
    ·cases hT
   ·cases h
  ·cases h
 ·cases h
theorem a00{o:Oper}{t t':Nat}{x y:Operand}{d:D}(hs:eO Γ st κ Θ a w)(ho:o.op=.call {callee:=.builtin .min,args:= #[x,y],argTypes:= #[t,t']})
 (h:a8a (st.ev x) (st.ev y)=some d):zJ P κ Θ a w o d:=by
 obtain⟨b1,r1,z1⟩:=hs.ev x;obtain⟨b2,r2,z2⟩:=hs.ev y;unfold a8a at h;split at h
 ·rename_i k m k' n hx hy;split at h
  ·rename_i hk;subst hk;cases h;rw[hx]at r1;rw[hy]at r2;have e1:=r1.sU;have e2:=r2.sU;refine⟨.int k (a55 m n),[],?_,.of (.int _ _ ?_),by simp⟩
   ·simp only[execOp,ho,resolve,invoke,builtin,pZ,bG,bW,e1,e2];simp[Builtin.min_,Builtin.min2,a55]
   ·unfold a55;split
    ·exact r2.Qx
    ·exact r1.Qx
  ·cases h
 ·cases h
theorem Zw{o:Oper}{t:Nat}{x:Operand}{d:D}(hs:eO Γ st κ Θ a w)(ho:o.op=.call {callee:=.builtin .len,args:= #[x],argTypes:= #[t]})
 (h:a5Y P st x t=some d):zJ P κ Θ a w o d:=by
 obtain⟨b1,r1,z1⟩:=hs.ev x;unfold a5Y at h;split at h
 ·rename_i s hx;split at h
  ·rename_i ht;cases h;rw[hx]at r1;obtain⟨u,hv,rfl⟩:=r1.xB;have hu:P.underlying t=some .string:=by
    unfold P5 at ht;split at ht
    ·assumption
    ·cases ht
   refine⟨.int .i64 (u.data.toList.length:Nat),[],?_,.of (.int _ _ (Tp r1.a3f)),by simp⟩;simp only[execOp,ho,resolve,invoke,builtin,pZ,bG,bW,hv];simp[Builtin.len_,run_underlying hu,goInt]
  ·cases h
 ·rename_i rows hx;split at h
  ·rename_i ht;cases h;rw[hx]at r1;obtain⟨⟨e,sz⟩,ht⟩:=eT.1 ht;obtain⟨hu,_,_⟩:=qJ ht;have hrd:=r1.UA;generalize Yd:a.eval x=vx at hrd;have hlen:∃q c,vx=.slice q rows.length c:=by
    cases hrd with
    |BE=>exact⟨_,_,rfl⟩
    |pQ=>exact⟨_,_,rfl⟩
    |sl=>exact⟨_,_,rfl⟩
   have DB:rows.length<=maxLen:=by
    cases hrd with
    |BE=>simp
    |pQ=>simp
    |sl b off cap sz _ cs bs hb h1 h2=>omega
   obtain⟨q,c,rfl⟩:=hlen;refine⟨.int .i64 rows.length,[],?_,.of (.int _ _ (Tp DB)),by simp⟩;simp only[execOp,ho,resolve,invoke,builtin,pZ,bG,bW,Yd];simp[Builtin.len_,run_underlying hu,goInt]
  ·cases h
 ·rename_i hx;split at h
  ·rename_i ht;cases h;rw[hx]at r1;obtain⟨⟨e,sz⟩,ht⟩:=eT.1 ht;obtain⟨hu,_,_⟩:=qJ ht;have hv:=r1.Nt;refine⟨.int .i64 0,[],?_,.of (.int _ _ (tv.zero _)),by simp⟩;simp only[execOp,ho,resolve,invoke,builtin,pZ,bG,bW,hv];simp[Builtin.len_,run_underlying hu,goInt]
  ·cases h
 ·rename_i id hx;split at h
  ·rename_i p dp e' sz' rows ht hH;cases h;rw[hx]at r1;obtain⟨hv,_⟩:=r1.xy;obtain⟨e,sz⟩:=p;obtain⟨hu,_,_⟩:=qJ ht;obtain⟨a7r,hrl,vk,cs,bs,Yc,hown,vq,hΘ,hz⟩:=hs.ob id _ hH;rw[hv]at Yc;cases Yc;have hlen:∃q c,a.eval x=.slice q rows.length c:=by
    rcases hown.2 with⟨v8,Ab⟩|⟨g,cap,cur,hkv,_⟩
    ·exact⟨none,0,by rw[v8,Ab]⟩
    ·exact⟨_,_,hkv⟩
   have DB:rows.length<=maxLen:=by
    rcases hown.2 with⟨v8,Ab⟩|⟨g,cap,cur,hkv,_,_,h1,h2,_⟩
    ·omega
    ·omega
   obtain⟨q,c,hk⟩:=hlen;refine⟨.int .i64 rows.length,[],?_,.of (.int _ _ (Tp DB)),by simp⟩;simp only[execOp,ho,resolve,invoke,builtin,pZ,bG,bW,hk];simp[Builtin.len_,run_underlying hu,goInt]
  ·cases h
 ·cases h
theorem EK.at{vs:br}{ds:aR}{bs:af}(h:EK w κ vs ds bs){i:Nat}{d:D}(hd:ds[i]?=some d):
 ∃v b,vs[i]?=some v/\QK w κ v d b/\∀x∈b,x∈bs:=by
 induction ds generalizing vs bs i with
 |nil=>simp at hd
 |cons e ds ih=>
  cases h with
  |cons v vs _ _ b1 b2 h2 h3=>
   cases i with
   |zero=>simp at hd;subst hd;exact⟨v,b1,by simp,h2,by intro x hx;simp[hx]⟩
   |succ i=>
    simp at hd;obtain⟨u,b,k1,k3,k4⟩:=ih h3 hd;exact⟨u,b,by simpa using k1,k3,fun x hx=>by simp[k4 x hx]⟩
theorem uB.a5v{v:Value}{ds:aR}{bs:af}(h:uB w κ v (.gZ ds) bs):∃vs:br,v=.tuple vs.toArray/\EK w κ vs ds bs:=by
 cases h with
 |v h=>cases h with|cell h=>cases h with|pure h=>cases h
 |gZ vs _ _ h=>exact⟨vs,rfl,h⟩
theorem Ru{o:Oper}{i:Nat}{x:Operand}{d:D}(hs:eO Γ st κ Θ a w)(ho:o.op=.extract x i)
 (h:pv P st (.extract x i)=some d):zJ P κ Θ a w o d:=by
 obtain⟨b1,r1,z1⟩:=hs.ev x;simp only[pv]at h;split at h
 ·rename_i vs hx;rw[hx]at r1;obtain⟨us,hv,hr⟩:=r1.a5v;obtain⟨v,b,k1,k2,k3⟩:=hr.at h;exact⟨v,b,by simp only[execOp,ho,hv];simp[Instr.extract,k1],.v k2,fun y hy=>z1 y (k3 y hy)⟩
 ·cases h
theorem zi{t:Nat}(ht:P5 P t=true):P.underlying t=some .string:=by
 unfold P5 at ht;split at ht
 ·assumption
 ·cases ht
theorem VM{o:Oper}{t:Nat}{x i:Operand}{d:D}(hs:eO Γ st κ Θ a w)(ho:o.op=.index t x i)
 (h:pv P st (.index t x i)=some d):zJ P κ Θ a w o d:=by
 obtain⟨b1,r1,z1⟩:=hs.ev x;obtain⟨b2,r2,z2⟩:=hs.ev i;simp only[pv]at h;split at h
 ·rename_i s k n ht hx hi;rw[hx]at r1;rw[hi]at r2;obtain⟨u,hv,rfl⟩:=r1.xB;have hn:=r2.sU;have hu:=zi ht;split at h
  ·rename_i h0;split at h
   ·rename_i b hb;cases h;have hlt:n.toNat<u.size:=by
     have:=(aH.1 hb).1;simpa using this
    have TR:u[n.toNat]?=some b:=by
     have hb':u.data[n.toNat]?=some b:=by simpa using hb
     rw[getElem?_pos u n.toNat hlt];rw[bL]at hb';obtain⟨_,he⟩:=hb';rw[<-he];rfl
    refine⟨.int .u8 b.toNat,[],?_,.of (.int _ _ (tv.u8.2 (by have:=b.toNat_lt;omega))),by simp⟩;simp only[execOp,ho,hv,hn];simp[Instr.index,asIntOf,run_underlying hu,h0,TR]
   ·cases h
  ·cases h
 ·cases h
theorem U1{lo hi:Option Operand}{l h':Nat}{isSlice:Bool}{len cap:Nat}(hs:eO Γ st κ Θ a w)
 (hlc:len<=cap) (h:Ps len (lo.map st.ev) (hi.map st.ev)=some (l,h')):
 (Instr.sliceBounds isSlice len cap (lo.map a.eval) (hi.map a.eval) none).run P w=.ok (l,h',cap) w/\l<=h'/\h'<=len:=by
 have hv:∀ {x:Operand} {k:IntKind} {n:Int},st.ev x=.int k n->a.eval x=.int k n:=by
  intro x k n hx;obtain⟨b,r,_⟩:=hs.ev x;rw[hx]at r;exact r.sU
 unfold Ps at h;cases hi with
 |none=>
  simp only[Ag]at h⊢;cases lo with
  |none=>
   simp only[Ag,az,cV]at h⊢;obtain⟨rfl,rfl⟩:=h;exact⟨by simp[Instr.sliceBounds],by omega,by omega⟩
  |some lo=>
   simp only[cc]at h⊢;cases hlo:st.ev lo<;>simp only[hlo,reduceCtorEq]at h;rename_i k n;split at h
   ·cases h
   ·rename_i l0 hm;split at hm
    ·rename_i hb;cases hm;cases h;have YY:0<=n/\n<=(h':Int):=⟨hb.1,by omega⟩
     exact⟨by simp[Instr.sliceBounds,Instr.sliceBound,hv hlo,asIntOf,YY],hb.2,by omega⟩
    ·cases hm
 |some hi=>
  simp only[cc]at h⊢;cases hhi:st.ev hi<;>simp only[hhi,reduceCtorEq]at h;rename_i k m;split at h
  ·cases h
  ·rename_i h0 hm;split at hm
   ·rename_i hb;cases hm;have YY:0<=m/\m<=(cap:Int):=⟨hb.1,by omega⟩
    cases lo with
    |none=>
     simp only[Ag,az,cV]at h⊢;obtain⟨rfl,rfl⟩:=h;exact⟨by simp[Instr.sliceBounds,Instr.sliceBound,hv hhi,asIntOf,YY],by omega,hb.2⟩
    |some lo=>
     simp only[cc]at h⊢;cases hlo:st.ev lo<;>simp only[hlo,reduceCtorEq]at h;rename_i k' n;split at h
     ·cases h
     ·rename_i l0 hm;split at hm
      ·rename_i hbl;cases hm;cases h;have hb3:0<=n/\n<=max m 0:=⟨hbl.1,by omega⟩
       exact⟨by simp[Instr.sliceBounds,Instr.sliceBound,hv hhi,hv hlo,asIntOf,YY,hb3],hbl.2,hb.2⟩
      ·cases hm
   ·cases hm
theorem a32{rows:List aR}{sz l h':Nat}(hrl:∀r∈rows,r.length=sz)(h1:l<=h')(h2:h'<=rows.length):
 ((rows.take h').drop l).flatten=(rows.flatten.drop (l*sz)).take ((h'-l)*sz):=by
 have e:rows=(rows.take l)++(((rows.take h').drop l)++rows.drop h'):=by
  have hA:rows.take h'=(rows.take h').take l++(rows.take h').drop l:=(cD _ _).symm;have hB:(rows.take h').take l=rows.take l:=by rw[wD,fE h1]
  rw[hB]at hA;rw[<-bY,<-hA,cD]
 have l1:(rows.take l).flatten.length=l*sz:=by
  rw[pW (fun r hr=>hrl r (cH hr)),cM,fE (by omega)]
 have l2:((rows.take h').drop l).flatten.length=(h'-l)*sz:=by
  rw[pW (fun r hr=>hrl r (cH (gP hr))),wz,cM,fE (by omega)]
 have hf:rows.flatten=(rows.take l).flatten++(((rows.take h').drop l).flatten++(rows.drop h').flatten):=by
  rw[<-mI,<-mI,<-e]
 rw[hf,fy l1,jF l2]
theorem Vr{o:Oper}{t:Nat}{x:Operand}{lo hi:Option Operand}{d:D}(hs:eO Γ st κ Θ a w)(ho:o.op=.slice t x lo hi none)
 (h:pv P st (.slice t x lo hi none)=some d):zJ P κ Θ a w o d:=by
 obtain⟨b1,r1,z1⟩:=hs.ev x;simp only[pv]at h;split at h
 ·rename_i s hx;rw[hx]at r1;obtain⟨u,hv,rfl⟩:=r1.xB;split at h
  ·rename_i ht;have hu:=zi ht;split at h
   ·rename_i l h' hc;cases h;obtain⟨hr,hl,hh⟩:=U1 (P:=P) (isSlice:=false) (cap:=u.data.toList.length) hs (bR _) hc;have hsz:u.data.toList.length=u.size:=by simp
    rw[hsz]at hr;refine⟨.string (u.extract l h'),[],?_,?_,by simp⟩
    ·simp only[execOp,ho,hv];simp[Instr.sliceAt,Instr.slice,run_underlying hu,hr]
    ·have:=Rd.str (w:=w) (u.extract l h') (by
      have h1:=r1.a3f;simp at h1⊢;omega)
     have e:(u.extract l h').data.toList=(u.data.toList.take h').drop l:=by
      simp[ByteArray.data_extract,List.drop_take]
     rw[e]at this;exact .of this
   ·cases h
  ·cases h
 ·rename_i rows hx;rw[hx]at r1;have hrd:=r1.UA;split at h
  ·rename_i e sz l h' ht hc;split at h
   ·rename_i hall;cases h;obtain⟨hu,Ol,Nh⟩:=qJ ht;have hsz:=xu (P:=P) Ol w;have hrl:∀r∈rows,r.length=sz:=by
     intro r hr;have:=bB.1 hall r hr;simpa using this
    generalize Yd:a.eval x=vx at hrd;have main:∀(q:Option Addr) (cap:Nat),vx=.slice q rows.length cap->rows.length<=cap->
     (execOp a.eval o).run P w=.ok (.value (.slice (if cap=l then q else q.map (·.add (l*sz))) (h'-l) (cap-l))) w/\l<=h'/\h'<=rows.length:=by
     intro q cap hq hcap;obtain⟨hr,hl,hh⟩:=U1 (P:=P) (isSlice:=true) (cap:=cap) hs hcap hc;refine⟨?_,hl,hh⟩;simp only[execOp,ho,Yd,hq];simp[Instr.sliceAt,Instr.slice,run_underlying hu,hr,hsz,Nh]
    cases hrd with
    |BE=>
     obtain⟨hr,hl,hh⟩:=main none 0 rfl (by simp);simp only[bK]at hh;have e1:h'=0:=by omega
     have e2:l=0:=by omega
     subst e1;subst e2;exact⟨_,[],hr,by simpa using uB.of (κ:=κ) (Rd.BE (w:=w)),by simp⟩
    |pQ ad cap hm=>
     obtain⟨hr,hl,hh⟩:=main (some ad) cap rfl (by simp);simp only[bK]at hh;have e1:h'=0:=by omega
     have e2:l=0:=by omega
     subst e1;subst e2;refine⟨_,[],hr,?_,by simp⟩;have:(if cap=0 then some ad else(some ad).map (·.add (0*sz)))=some ad:=by simp[Addr.add]
     rw[this];exact .of (by simpa using Rd.pQ (w:=w) ad cap hm)
    |sl b off cap sz' _ cs bs hb hcap DB Po hcc vq=>
     obtain⟨hr,hl,hh⟩:=main (some ⟨b,off,none⟩) cap rfl hcap;by_cases he:h'=l
     ·subst he;refine⟨_,[],hr,?_,by simp⟩;have e1:(rows.take h').drop h'=[]:=by simp
      rw[e1,pM];split
      ·exact .of (.pQ _ _ (by omega))
      ·simp only[cc];exact .of (.pQ _ _ (by omega))
     ·have hne:cap≠l:=by omega
      rw[bH hne,cc,Addr.add_lit]at hr;obtain⟨b',hm,hsub⟩:=vq.mid (l*sz) ((h'-l)*sz);rw[<-a32 hrl hl hh]at hm;refine⟨_,b::b',hr,?_,?_⟩
      ·have hlen:((rows.take h').drop l).length=h'-l:=by simp;omega
       rw[<-hlen];refine .of (.sl b (off+l*sz) (cap-l) sz _ _ b' hb (by omega) (by omega) (fun r hr=>hrl r (cH (gP hr))) ?_ hm);intro j c hj;rw[cK]at hj;split at hj
       ·rw[eD]at hj;rw[rp];exact hcc _ _ hj
       ·cases hj
      ·intro y hy;rcases bM.1 hy with rfl|hy
       ·exact z1 _ (by simp)
       ·exact z1 _ (by simp[hsub y hy])
   ·cases h
  ·cases h
 ·cases h
theorem Sk{v:Value}(h:v.oneCell'=true):v.cells.toList=[v]:=by
 cases v<;>first|rfl|cases h
theorem Ba.one{v:Value}{d:D}{bs:af}(h:Ba w κ v d bs)(hk:∀(id:Nat) u,κ id=some u->u.oneCell'=true)(hna:∀es,d≠ .agg es)(hc:d.cellsOf=some [d]):v.oneCell'=true:=by
 cases h with
 |pure h=>
  cases h<;>first
   |rfl
   | (exfalso;exact hna _ rfl)
   | (simp[D.cellsOf]at hc;done)
   | (simp only[D.cellsOf]at hc;split at hc<;>first|assumption|cases hc)
 |acc i v h=>exact hk i v h
 |ptr=>rfl
 |op=>rfl
theorem DV{v:Value}{d:D}{bs:af}{ds:aR}(hk:∀(id:Nat) u,κ id=some u->u.oneCell'=true)(h:uB w κ v d bs)(hc:d.cellsOf=some ds):fP w κ v.cells.toList ds bs:=by
 have single:∀ {v d bs},Ba w κ v d bs->(∀es,d≠ .agg es)->d.cellsOf=some [d]->fP w κ v.cells.toList [d] bs:=by
  intro v d bs h hna hc;have h1:=h.one hk hna hc;rw[Sk h1];have:=fP.cons v [] d [] bs [] h1 h .nil;simpa using this
 cases h with
 |gZ=>simp[D.cellsOf]at hc
 |v h=>
  cases h with
  |agg cs _ _ h=>simp only[D.cellsOf,az]at hc;subst hc;simpa[Value.cells]using h
  |cell h=>
   by_cases wC:∃es,d=.agg es
   ·obtain⟨es,rfl⟩:=wC;simp only[D.cellsOf,az]at hc;subst hc;cases h with
    |pure h=>cases h with|agg cs _ _ h=>simpa[Value.cells]using fP.FH (κ:=κ) h
   ·have e:ds=[d]:=by
     cases d<;>simp only[D.cellsOf,az,reduceCtorEq]at hc<;>first
      |exact hc.symm
      | (exfalso;exact wC ⟨_,rfl⟩)
      | (split at hc<;>first| (simp at hc;exact hc.symm)|cases hc)
    subst e;exact single h (fun es he=>wC ⟨es,he⟩) hc
theorem zl{T:TypeId}{zs:aR}(hz:tz P T=some zs):∃i z,P.info? T=some i/\i.zero=some z/\z.cells.size=i.size/\zs.length=i.size/\(∀c∈z.cells.toList,c.oneCell'=true)/\zs=z.cells.toList.map D.XQ:=by
 unfold tz at hz;split at hz
 ·rename_i i hi;split at hz
  ·rename_i z Rk;split at hz
   ·rename_i hc;cases hz;simp only[aY,bB,cj]at hc;exact⟨i,z,hi,Rk,hc.2,by simp[hc.2],hc.1,rfl⟩
   ·cases hz
  ·cases hz
 ·cases hz
theorem E3(cs:br)(h:∀c∈cs,c.oneCell'=true):fP w κ cs (cs.map D.XQ) []:=by
 induction cs with
 |nil=>exact .nil
 |cons c cs ih=>
  have hrd:Rd w c (D.XQ c) []:=by
   unfold D.XQ;split
   ·exact .bool _
   ·split
    ·rename_i h;exact .int _ _ h
    ·exact .val _
   ·split
    ·rename_i h;exact .str _ h
    ·exact .val _
   ·exact .nil
   ·exact .val _
  have:=fP.cons (κ:=κ) c cs _ _ [] [] (h c (by simp)) (.pure hrd) (ih (fun x hx=>h x (by simp[hx])));simpa using this
theorem foldl_set(off:Nat):∀(vs:br) (k:Nat) (cells:Array Value),off+k+vs.length<=cells.size->
 ((vs.zipIdx k).foldl (fun cs (x:Value×Nat)=>cs.setIfInBounds (off+x.2) x.1) cells).toList=cells.toList.take (off+k)++vs++cells.toList.drop (off+k+vs.length):=by
 intro vs
 induction vs with
 |nil=>intro k cells _;simp
 |cons v vs ih=>
  intro k cells h;simp only[aK]at h;rw[List.zipIdx_cons,dK,ih (k+1) _ (by simp;omega)];simp only[Array.toList_setIfInBounds,aK];have hlt:off+k<cells.toList.length:=by simp;omega
  rw[show off+(k+1)=off+k+1 from by omega,List.take_set,List.drop_set,bS (by omega)];rw[show off+k+1+vs.length=off+k+(vs.length+1)from by omega]
  congr 1
  rw[show v::vs=[v]++vs from rfl,<-bY]
  congr 1
  rw[List.take_succ_eq_append_getElem hlt,mr _ _ (by simp;omega)];have:(List.take (off+k) cells.toList).length=off+k:=by rw[cM];omega
  rw[this,pM];rfl
theorem YQ(hs:eO Γ st κ Θ a w){places:List (Nat×Nat)}:∀(parts:List (Nat×Operand)) (cs:Array Value) (cells ds:aR) (bs:af),
 fP w κ cs.toList cells bs->(∀b∈bs,Θ b=0)->AT places cells (parts.map fun p=>(p.1,st.ev p.2))=some ds->
 ∃arr bs',Instr.fill (places.toArray[·]?) cs (parts.map fun p=>(p.1,a.eval p.2))=some arr/\fP w κ arr.toList ds bs'/\∀b∈bs',Θ b=0:=by
 intro parts
 induction parts with
 |nil=>
  intro cs cells ds bs hr hz hf;simp only[bW,AT,az]at hf;subst hf;exact⟨cs,bs,rfl,hr,hz⟩
 |cons p parts ih=>
  intro cs cells ds bs hr hz hf
  ·obtain⟨i,x⟩:=p;obtain⟨b,hv,hb⟩:=hs.ev x;generalize hvv:a.eval x=v at hv;simp only[bG,AT]at hf;split at hf
   ·rename_i off sz es hpl hes;split at hf
    ·rename_i hc;have hcs:=DV hs.qp hv hes;have hl1:=hcs.length;have Ey:=hr.length;have e:cells=cells.take off++((cells.drop off).take sz++(cells.drop off).drop sz):=by rw[cD,cD]
     rw[e]at hr;obtain⟨v1,v2,c1,c2,Qu,rfl,k1,k2⟩:=hr.split;obtain⟨v3,v4,c3,c4,rfl,rfl,k3,k4⟩:=k2.split;have l1:v1.length=off:=by rw[k1.length];simp;omega
     have l3:v3.length=sz:=by rw[k3.length];simp;omega
     have hvs:v.cells.size=sz:=by rw[<-hc.1,<-hl1];simp
     have hcl:cs.size=cells.length:=by rw[<-Ey];simp
     have a1f:=foldl_set off v.cells.toList 0 cs (by simp;omega);simp only[BG,xK,hvs]at a1f;have e1:cs.toList.take off=v1:=by rw[Qu];exact jF l1
     have e4:cs.toList.drop (off+sz)=v4:=by rw[Qu,<-gz,fy l1];exact fy l3
     rw[e1,e4]at a1f;rw[gz]at k4;have hnew:=(k1.app hcs).app k4;obtain⟨arr,bs',h1,h2,h3⟩:=ih (v.cells.zipIdx.foldl (fun cs (x:Value×Nat)=>cs.setIfInBounds (off+x.2) x.1) cs) _ ds ((c1++b)++c4)
      (by rw[<-Array.foldl_toList,Array.toList_zipIdx,a1f];exact hnew)
      (by
       intro x hx;simp only[au]at hx;rcases hx with(hx|hx)|hx
       ·exact hz x (by simp[hx])
       ·exact hb x hx
       ·exact hz x (by simp[hx])) hf
     refine⟨arr,bs',?_,h2,h3⟩;simp only[bG,Instr.fill,mq,hpl,hvv];rw[bH (by simp;omega)];simpa using h1
    ·cases hf
   ·cases hf
theorem Uu{o:Oper}{t:TypeId}{parts:Array (Nat×Operand)}{d:D}(hs:eO Γ st κ Θ a w)(ho:o.op=.build t parts)
 (h:pv P st (.build t parts)=some d):zJ P κ Θ a w o d:=by
 simp only[pv]at h;split at h
 ·rename_i zs ps hz hp;cases hf:AT ps zs (parts.toList.map fun p=>(p.1,st.ev p.2))with
  |none=>simp[hf]at h
  |some ds=>
   simp only[hf,cc,az]at h;subst h;obtain⟨i,z,hi,Ab,hsz,hlen,hone,rfl⟩:=zl hz;obtain⟨arr,bs',h1,h2,h3⟩:=YQ hs parts.toList z.cells _ ds [] (E3 z.cells.toList hone) (by simp) hf;have hb:P.built t (parts.map fun(i,x)=>(i,a.eval x)).toList=some arr:=by
    unfold Z2 at hp;split at hp
    ·rename_i fs hu;unfold Program.built;simp only[hi,hu,Ab,hp];rw[jI];exact h1
    ·cases hp
   refine⟨.agg arr,bs',?_,?_,h3⟩
   ·simp only[execOp,ho];simp[run_build w t _ arr hb]
   ·have:=QK.agg (w:=w) (κ:=κ) arr.toList ds bs' h2;exact .v (by simpa using this)
 ·cases h
theorem run_equalIn_bool{t:TypeId}{a b:Bool}(h:P.underlying t=some .bool)(d:Nat):(Op.equalIn (d+1) t (.bool a) (.bool b)).run P w=.ok (a==b) w:=by
 simp[Op.equalIn,run_underlying h]
theorem FK{t:TypeId}{a b:ByteArray}(h:P.underlying t=some .string)(d:Nat):(Op.equalIn (d+1) t (.string a) (.string b)).run P w=.ok (a==b) w:=by
 simp[Op.equalIn,run_underlying h]
theorem Nz{t:TypeId}(h:P5 P t=true){xs:Array Value}{off:Nat}{v:Value}(hx:xs[off]?=some v):(part t xs off).run P w=.ok v w:=by
 simp[part,isAgg,run_underlying (zi h),hx]
theorem P0{t:TypeId}{a b c e:ByteArray}(h:Z1 P t=true)(d:Nat):(Op.equalIn (d+2) t (.agg #[.string a,.string b]) (.agg #[.string c,.string e])).run P w=.ok (a==c&&b==e) w:=by
 unfold Z1 at h;split at h
 ·rename_i fs hu;split at h
  ·rename_i f g hfs;simp only[aY,bne_iff_ne,ne_eq,cj,rG]at h;obtain⟨⟨⟨⟨⟨⟨⟨h1,h2⟩,h3⟩,h4⟩,h5⟩,h6⟩,h7⟩,h8⟩:=h;have aCj:fs= #[f,g]:=by apply wv.mp;simpa using hfs
   subst aCj;have p1:=fun(xs:Array Value) (v:Value) (hx:xs[0]?=some v)=>Nz (w:=w) h5 hx
   have p2:=fun(xs:Array Value) (v:Value) (hx:xs[1]?=some v)=>Nz (w:=w) h6 hx
   have q1:=FK (P:=P) (w:=w) (a:=a) (b:=c) (zi h5) d;have q2:=FK (P:=P) (w:=w) (a:=b) (b:=e) (zi h6) d;rw[Op.equalIn];generalize(a==c)=r1 at q1⊢;generalize(b==e)=r2 at q2⊢;cases r1<;>cases r2<;>simp[run_underlying hu,h7,h1,h2,h3,h4,p1,p2,q1,q2]
  ·cases h
 ·cases h
theorem fP.Z4{κ:Nat->Option Value}{cs:br}{p q:Bytes}{bs:af}(h:fP w κ cs [.str p,.str q] bs):∃u v:ByteArray,cs=[.string u,.string v]/\u.data.toList=p/\v.data.toList=q:=by
 cases h with
 |cons v1 vs _ _ b1 b2 _ h1 h2=>
  cases h2 with
  |cons v2 vs' _ _ b3 b4 _ h3 h4=>
   cases h4;obtain⟨u,rfl,hu⟩:=(uB.v (.cell h1):uB w κ _ _ _).xB;obtain⟨v,rfl,hv⟩:=(uB.v (.cell h3):uB w κ _ _ _).xB;exact⟨u,v,rfl,hu,hv⟩
theorem a1J(u v:ByteArray):(u==v)=(u.data==v.data):=by cases u;cases v;rfl
theorem a0C{o:Oper}{op:BinOp}{t t':TypeId}{x y:Operand}{d:D}(hs:eO Γ st κ Θ a w)(ho:o.op=.binOp op t x y t')
 (h:peq P op t (st.ev x) (st.ev y)=some d):zJ P κ Θ a w o d:=by
 obtain⟨b1,r1,_⟩:=hs.ev x;obtain⟨b2,r2,_⟩:=hs.ev y;generalize st.ev x=dx at*;generalize st.ev y=dy at*;unfold peq at h;split at h
 ·rename_i p q;split at h
  ·rename_i hb;have hu:P.underlying t=some .bool:=by
    unfold a6z at hb;split at hb
    ·assumption
    ·cases hb
   have e1:=r1.yq;have e2:=r2.yq;have hq:=run_equalIn_bool (P:=P) (w:=w) (a:=p) (b:=q) hu 9999;have q':(Op.equal t (.bool p) (.bool q)).run P w=.ok (p==q) w:=hq;cases op<;>simp only[az,reduceCtorEq]at h
   all_goals subst h
   all_goals exact⟨_,[],by(simp[execOp,ho,e1,e2,binOp,eqGuard,q'])<;>(cases p<;>cases q<;>rfl),.of (.bool _),by simp⟩
  ·cases h
 ·rename_i p1 p2 q1 q2;split at h
  ·rename_i hb;obtain⟨cs1,e1,k1⟩:=r1.IR;obtain⟨cs2,e2,k2⟩:=r2.IR;obtain⟨u1,u2,rfl,rfl,rfl⟩:=fP.Z4 k1;obtain⟨v1,v2,rfl,rfl,rfl⟩:=fP.Z4 k2;have hg:P.eqGuardType P.depth t=false:=by
    unfold Z1 at hb;split at hb
    ·split at hb
     ·simp only[aY,rG]at hb;exact hb.2
     ·cases hb
    ·cases hb
   have q:=P0 (P:=P) (w:=w) (a:=u1) (b:=u2) (c:=v1) (e:=v2) hb 9998;have q':(Op.equal t (.agg #[.string u1,.string u2]) (.agg #[.string v1,.string v2])).run P w=.ok (u1==v1&&u2==v2) w:=q;cases op<;>simp only[az,reduceCtorEq]at h
   all_goals subst h
   all_goals exact⟨_,[],by(simp[execOp,ho,e1,e2,binOp,eqGuard,hg,q'])<;>(rw[a1J,a1J]),.of (.bool _),by simp⟩
  ·cases h
 ·cases h
theorem uB.a5F{v:Value}{b:Bool}{bs:af}(h:uB w κ v (.ifc b) bs):(b=false/\v=.nilIface)\/(b=true/\∃t u,v=.iface t u):=by
 cases h with|v h=>cases h with|cell h=>cases h with|pure h=>cases h with
  |Zq=>exact .inl ⟨rfl,rfl⟩
  |Zr t u=>exact .inr ⟨rfl,t,u,rfl⟩
theorem Ny{t:TypeId}{ms:Array (String×TypeId)}(hu:P.underlying t=some (.interface ms)):(Op.equal t .nilIface .nilIface).run P w=.ok true w:=by
 unfold Op.equal Op.maxDepth;rw[Op.equalIn];simp[run_underlying hu]
theorem KW{t:TypeId}{ms:Array (String×TypeId)}{t1:TypeId}{v1:Value}(hu:P.underlying t=some (.interface ms)):(Op.equal t (.iface t1 v1) .nilIface).run P w=.ok false w:=by
 unfold Op.equal Op.maxDepth;rw[Op.equalIn];simp[run_underlying hu]
theorem XV{o:Oper}{op:BinOp}{t t':TypeId}{x y:Operand}{d:D}(hs:eO Γ st κ Θ a w)(ho:o.op=.binOp op t x y t')
 (h:a8Z op (st.ev x) (st.ev y)=some d):zJ P κ Θ a w o d:=by
 obtain⟨b1,r1,_⟩:=hs.ev x;obtain⟨b2,r2,_⟩:=hs.ev y;generalize st.ev x=dx at*;generalize st.ev y=dy at*;unfold a8Z at h;split at h
 ·rename_i k p k' q;have e1:=r1.sU;have e2:=r2.sU;cases op<;>simp only[reduceCtorEq]at h
  case shr=>
   split at h
   ·rename_i hq;cases h;exact⟨_,[],by simp[execOp,ho,e1,e2,binOp,eqGuard,Op.shift,show¬q<0 by omega,a5o],.of (.int _ _ (r1.Qx.shr q)),by simp⟩
   ·cases h
  all_goals
   split at h
   ·rename_i hk;subst hk;cases h;exact⟨_,[],by simp[execOp,ho,e1,e2,binOp,eqGuard,Op.intBits,a65,a9X,a67],.of (.int _ _ (tv.wrap _ _)),by simp⟩
   ·cases h
 ·cases h
theorem XW{o:Oper}{op:BinOp}{t t':TypeId}{x y:Operand}{d:D}(hs:eO Γ st κ Θ a w)(ho:o.op=.binOp op t x y t')
 (h:a8b P op t (st.ev x) y=some d):zJ P κ Θ a w o d:=by
 obtain⟨b1,r1,_⟩:=hs.ev x;generalize st.ev x=dx at*;unfold a8b at h;split at h
 ·rename_i b;have hy:a.eval (.const .nilIface)=.nilIface:=rfl;have hT:∀ {op'},a94 P t=true->op=op'->∃ms,P.underlying t=some (.interface ms):=by
   intro _ ht _;unfold a94 at ht;split at ht
   ·rename_i ms hu;exact⟨ms,hu⟩
   ·cases ht
  rcases r1.a5F with⟨rfl,hx⟩|⟨rfl,t1,v1,hx⟩
  ·split at h
   ·rename_i ht;cases h;obtain⟨ms,hu⟩:=hT ht rfl;exact⟨.bool true,[],by simp[execOp,ho,hx,hy,binOp,eqGuard_nil_constR,Ny hu],.of (.bool _),by simp⟩
   ·rename_i ht;cases h;obtain⟨ms,hu⟩:=hT ht rfl;exact⟨.bool false,[],by simp[execOp,ho,hx,hy,binOp,eqGuard_nil_constR,Ny hu],.of (.bool _),by simp⟩
   ·cases h
  ·split at h
   ·rename_i ht;cases h;obtain⟨ms,hu⟩:=hT ht rfl;exact⟨.bool false,[],by simp[execOp,ho,hx,hy,binOp,eqGuard,KW hu],.of (.bool _),by simp⟩
   ·rename_i ht;cases h;obtain⟨ms,hu⟩:=hT ht rfl;exact⟨.bool true,[],by simp[execOp,ho,hx,hy,binOp,eqGuard,KW hu],.of (.bool _),by simp⟩
   ·cases h
 ·cases h
theorem Az.cons{w:World}{e:MapEntry}{es:List MapEntry}{p:D×D}{kv:List (D×D)}(h:Az w (e::es) (p::kv)):Rd w e.key p.1 []/\Rd w e.val p.2 []/\Az w es kv:=
 ⟨(h.2 0 e p rfl rfl).1,(h.2 0 e p rfl rfl).2,by simpa using h.1,fun j e' p' h1 h2=>h.2 (j+1) e' p' (by simpa using h1) (by simpa using h2)⟩
theorem a64{x y:ByteArray}:(x==y)=(x.data.toList==y.data.toList):=by
 rw[bp,MapKept.bytes_beq,cj];constructor
 ·intro h;rw[h]
 ·intro h;obtain⟨a⟩:=x;obtain⟨b⟩:=y;simp only at h;rw[wv]at h;rw[h]
theorem Q8{w:World}{kd:TypeDesc}{k k':D}{u u':Value}{b:Bool}(Ry:M9 kd k=true)(hu:Rd w u k [])(BT:Rd w u' k' [])(h:keq k k'=some b):Instr.sameNow kd u u'=some b/\(b=true->u'=u):=by
 unfold keq at h;split at h
 ·rename_i s s';cases h;cases hu with
  |str x hx=>
   cases BT with
   |str y hy=>
    cases kd<;>simp[M9]at Ry;refine⟨by simp only[Instr.sameNow];rw[a64],fun e=>?_⟩;rw[<-a64,MapKept.bytes_beq]at e;rw[e]
 ·rename_i k1 a k2 b';split at h
  ·rename_i e;subst e;cases h;cases hu with
   |int _ _ hx=>
    cases BT with
    |int _ _ hy=>
     cases kd<;>simp[M9]at Ry;refine⟨by simp[Instr.sameNow],fun e=>?_⟩;have:a=b':=by simpa using e
     rw[this]
  ·cases h
 ·cases h
theorem a5I{w:World}{kd:TypeDesc}{k:D}{u:Value}(Ry:M9 kd k=true)(hu:Rd w u k []):∀ {es:List MapEntry} {kv:List (D×D)} {r:Option D} (i:Nat),Az w es kv->I6 k kv=some r->
 (r=none/\Instr.findNow kd u es i=some none)\/∃d v j,r=some d/\Instr.findNow kd u es i=some (some (j,v))/\Rd w v d []:=by
 intro es
 induction es with
 |nil=>
  intro kv r i hr h;cases kv with
  |nil=>cases h;exact .inl ⟨rfl,rfl⟩
  |cons p kv=>exact absurd hr.1 (by simp)
 |cons e es ih=>
  intro kv r i hr h;cases kv with
  |nil=>exact absurd hr.1 (by simp)
  |cons p kv=>
   obtain⟨r1,r2,r3⟩:=hr.cons;simp only[I6]at h;split at h
   ·rename_i hq;cases h;exact .inr ⟨p.2,e.val,i,rfl,by simp[Instr.findNow,(Q8 Ry hu r1 hq).1],r2⟩
   ·rename_i hq;have:=ih (i+1) r3 h;simpa[Instr.findNow,(Q8 Ry hu r1 hq).1]using this
   ·cases h
theorem VO{w:World}{kd:TypeDesc}{k:D}{u:Value}(Ry:M9 kd k=true)(hu:Rd w u k []):MapKept.IsKey kd u:=by
 cases kd<;>cases k<;>simp[M9]at Ry
 all_goals cases hu
 ·simp[MapKept.IsKey,Ry]
 ·simp[MapKept.IsKey]
theorem Sc{w:World}{κ:Nat->Option Value}{kd:TypeDesc}{k:D}{u:Value}{bs:af}(Ry:M9 kd k=true)(hu:uB w κ u k bs):Rd w u k []:=by
 cases kd<;>cases k<;>simp[M9]at Ry
 all_goals cases hu with|v h=>cases h with|cell h=>cases h with|pure h=>cases h<;>(constructor;assumption)
theorem UJ{t:TypeId}{i:TypeInfo}(h:P.info? t=some i){w:World}:(typeInfo t).run P w=.ok i w:=by
 simp[typeInfo,h]
theorem Re{T:TypeId}{kd:TypeDesc}{dz:D}(h:a0T P T=some (kd,dz)):∃kt et z,P.underlying T=some (.map kt et)/\P.underlying kt=some kd/\dz=D.XQ z/\∀w:World,(zeroValue et).run P w=.ok z w:=by
 unfold a0T at h;split at h
 ·rename_i kt et h1;split at h
  ·rename_i d i h2 h3;split at h
   ·rename_i z h4;split at h
    ·cases h;exact⟨kt,et,z,h1,h2,rfl,fun w=>by simp[zeroValue,UJ h3,h4]⟩
    ·cases h
   ·cases h
  ·cases h
 ·cases h
theorem Tj{o:Oper}{T:Nat}{x i:Operand}{ok:Bool}{d:D}(hs:eO Γ st κ Θ a w)(ho:o.op=.lookup T x i ok)
 (h:pv P st (.lookup T x i ok)=some d):zJ P κ Θ a w o d:=by
 simp only[pv]at h;split at h
 ·rename_i id hx;split at h
  ·rename_i kv hH;obtain⟨g,es,c,q1,q2,q3,q4⟩:=hs.ob id _ hH;obtain⟨bs,r,_⟩:=hs.ev x;rw[hx]at r;obtain⟨hk,_⟩:=r.xy;rw[q1]at hk;have hxv:a.eval x=.map (some g):=(qw hk).symm;obtain⟨bi,ri,_⟩:=hs.ev i;unfold plk at h;split at h
   ·rename_i kd dz hT;obtain⟨kt,et,z,t1,t2,t3,t4⟩:=Re hT;have fin:∀(r:Option D),M9 kd (st.ev i)=true->I6 (st.ev i) kv=some r->d=(match r with|some d=>(bif ok then .gZ [d,.bool true]else d)|none=>(bif ok then .gZ [dz,.bool false]else dz))->zJ P κ Θ a w o d:=by
     intro r Ry hf hd;have hu:=Sc Ry ri;have hck:=MapKept.run_checkKey (P:=P) (w:=w) t2 (VO Ry hu) es.isEmpty 9999;rcases a5I Ry hu 0 q4 hf with⟨rfl,hn⟩|⟨d',v,j,rfl,hn,hv⟩
     ·have hfk:=MapKept.run_findKey (P:=P) (w:=w) t2 hn;subst hd;cases ok with
      |false=>exact⟨z,[],by simp[execOp,ho,hxv,Instr.lookup,run_underlying t1,MapKept.run_getObj_map q2,hck,hfk,t4],by rw[t3];exact XR z,by simp⟩
      |true=>
       refine⟨.tuple #[z,.bool false],[],by simp[execOp,ho,hxv,Instr.lookup,run_underlying t1,MapKept.run_getObj_map q2,hck,hfk,t4],?_,by simp⟩;have hz:QK w κ z dz []:=by
        have:=XR (w:=w) (κ:=κ) z;rw[<-t3]at this;cases this with
        |v h=>exact h
        |gZ vs ds bs h=>exact absurd t3 (by simp[D.XQ])
       exact .gZ [z,.bool false] [dz,.bool false] [] (.cons _ _ _ _ [] [] hz (.cons _ _ _ _ [] [] (.cell (.pure (.bool _))) .nil))
     ·have hfk:=MapKept.run_findKey (P:=P) (w:=w) t2 hn;subst hd;cases ok with
      |false=>exact⟨v,[],by simp[execOp,ho,hxv,Instr.lookup,run_underlying t1,MapKept.run_getObj_map q2,hck,hfk],.of hv,by simp⟩
      |true=>
       refine⟨.tuple #[v,.bool true],[],by simp[execOp,ho,hxv,Instr.lookup,run_underlying t1,MapKept.run_getObj_map q2,hck,hfk],?_,by simp⟩;exact .gZ [v,.bool true] [d',.bool true] [] (.cons _ _ _ _ [] [] (.cell (.pure hv)) (.cons _ _ _ _ [] [] (.cell (.pure (.bool _))) .nil))
    split at h
    ·rename_i d' h1 h2;cases h;exact fin _ h1 h2 rfl
    ·rename_i h1 h2;cases h;exact fin _ h1 h2 rfl
    ·cases h
   ·cases h
  ·cases h
 ·cases h
theorem Rd.a7T{w:World}{v:Value}{row:aR}{o:Nat}{bs:af}(h:Rd w v (.ep row o) bs):∃q,v=.pointer (some q):=by
 cases h;exact⟨_,rfl⟩
theorem IF{o:Oper}{d:D}(hs:eO Γ st κ Θ a w)(h:pv P st o.op=some d):zJ P κ Θ a w o d:=by
 cases ho:o.op
 all_goals rw[ho]at h
 case load t x=>exact R6 hs ho h
 case lookup t x i ok=>exact Tj hs ho h
 case build t parts=>exact Uu hs ho h
 case fieldAddr t x f=>exact Pk hs ho h
 case field t x f=>exact V7 hs ho h
 case indexAddr t x i=>exact Pp hs ho h
 case extract x i=>exact Ru hs ho h
 case index t x i=>exact VM hs ho h
 case binOp op t x y t'=>
  simp only[pv]at h;split at h
  ·rename_i e;cases h;exact XU hs ho e
  ·split at h
   ·rename_i e;cases h;exact a0C hs ho e
   ·split at h
    ·rename_i e;cases h;exact XW hs ho e
    ·exact XV hs ho h
 case nilCheck x=>
  simp only[pv]at h;obtain⟨b,r,z⟩:=hs.ev x;have hnn:∀q,a.eval x=.pointer (some q)->zJ P κ Θ a w o (st.ev x):=fun q hq=>⟨_,b,by simp[execOp,ho,hq],hq▸r,z⟩
  split at h<;>rename_i hx<;>cases h<;>rw[hx]at r hnn
  ·obtain⟨g,_,hv⟩:=r.Cr;exact hnn _ hv
  ·obtain⟨_,_,_,_,_,hv⟩:=r.IE;exact hnn _ hv
  ·obtain⟨_,hv⟩:=Rd.a7T r.Wn;exact hnn _ hv
 case slice t x lo hi mx=>
  cases mx with
  |none=>exact Vr hs ho h
  |some m=>simp[pv]at h
 case move x=>
  simp only[pv,az]at h;subst h;obtain⟨b,r,z⟩:=hs.ev x;exact⟨_,b,by simp[execOp,ho],r,z⟩
 case assign x=>
  simp only[pv,az]at h;subst h;obtain⟨b,r,z⟩:=hs.ev x;exact⟨_,b,by simp[execOp,ho],r,z⟩
 case pick c x y=>
  simp only[pv]at h;split at h
  ·rename_i t hc;cases h;obtain⟨b,r,z⟩:=hs.ev c;rw[hc]at r;have hv:=r.yq;cases t
   ·obtain⟨b,r,z⟩:=hs.ev y;exact⟨_,b,by simp[execOp,ho,hv,asBool],r,z⟩
   ·obtain⟨b,r,z⟩:=hs.ev x;exact⟨_,b,by simp[execOp,ho,hv,asBool],r,z⟩
  ·cases h
 case unOp op t x=>
  obtain⟨b,r,z⟩:=hs.ev x;cases op<;>simp only[pv,reduceCtorEq]at h
  case neg=>
   split at h
   ·rename_i k n hx;cases h;rw[hx]at r;have hv:=r.sU;exact⟨_,[],by simp[execOp,ho,hv,Op.unary,Op.intArith],.of (.int _ _ (tv.wrap _ _)),by simp⟩
   ·cases h
  case not=>
   split at h
   ·rename_i bb hx;cases h;rw[hx]at r;have hv:=r.yq;exact⟨_,[],by simp[execOp,ho,hv,Op.unary],.of (.bool _),by simp⟩
   ·cases h
 case convert s d' x=>
  obtain⟨b,r,z⟩:=hs.ev x;simp only[pv]at h;split at h
  ·rename_i k0 n k1 k hx h1 h2;cases h;rw[hx]at r;have hv:=r.sU;have u1:P.underlying s=some (.int k1):=by
    unfold Xo at h1;split at h1
    ·cases h1;assumption
    ·cases h1
   have u2:P.underlying d'=some (.int k):=by
    unfold Xo at h2;split at h2
    ·cases h2;assumption
    ·cases h2
   exact⟨_,[],by simp[execOp,ho,hv,convert,run_underlying u1,run_underlying u2,Conv.intToInt],.of (.int _ _ (tv.wrap _ _)),by simp⟩
  ·cases h
 case call c=>
  simp only[pv]at h;split at h
  ·rename_i x t h1 h2 h3;refine Zw hs (x:=x) (t:=t) ?_ h;rw[ho];obtain⟨callee,args,argTypes⟩:=c;simp only at h1 h2 h3;subst h1;have e1:args= #[x]:=by cases args;simp_all
   have e2:argTypes= #[t]:=by cases argTypes;simp_all
   subst e1;subst e2;rfl
  ·rename_i x y t t' h1 h2 h3;refine a00 hs (x:=x) (y:=y) (t:=t) (t':=t') ?_ h;rw[ho];obtain⟨callee,args,argTypes⟩:=c;simp only at h1 h2 h3;subst h1;have e1:args= #[x,y]:=by cases args;simp_all
   have e2:argTypes= #[t,t']:=by cases argTypes;simp_all
   subst e1;subst e2;rfl
  ·cases h
 all_goals simp[pv]at h
theorem a61{Q:Exit->St->Prop}{all:Array Oper}{rest:List Oper}{o:Oper}{t:Nat}{d:D}(hd:o.dst=some t)(hg:o.guard=none)(ht:t<Γ.nt)
 (hv:pv P st o.op=some d) (h:AO P Γ all rest Q (st.set t d)):AO P Γ all (o::rest) Q st:=by
 intro κ Θ a w hs;obtain⟨v,bs,hr,hrd,hz⟩:=IF hs hv;refine wpList_plain hg fun K hK=>?_
 unfold Oper.wp;rw[hr,Oper.upon_value,hd];exact hK _ _ (h κ Θ _ w (hs.set ht hrd hz))
end
structure jY(w w':World)(Θ Θ':Nat->Nat)(tag:Nat):Prop where
 two:2<=tag
 os:w'.os=w.os
 tape:w'.tape=w.tape
 output:w'.output=w.output
 size:w.heap.size<=w'.heap.size
 block:∀b,b<w.heap.size->Θ b≠tag->w'.heap[b]?=w.heap[b]?
 owner:∀b,b<w.heap.size->Θ b≠tag->Θ' b=Θ b
 own:∀b,Θ' b≠0->b<w'.heap.size
section
variable{w w':World}{κ κ':Nat->Option Value}{Θ Θ':Nat->Nat}{tag id:Nat}{r:D}
theorem jY.free(k:jY w w' Θ Θ' tag){b:Nat}(hb:b<w.heap.size)(hz:Θ b=0):Θ' b=0:=by
 have:=k.two;rw[k.owner b hb (by omega)];exact hz
theorem Rd.over{v:Value}{d:D}{bs:af}(k:jY w w' Θ Θ' tag)(h:Rd w v d bs)(hz:∀b∈bs,Θ b=0):Rd w' v d bs/\∀b∈bs,Θ' b=0:=by
 have:=k.two;exact⟨h.keep fun b hb=>k.block b (h.lt b hb) (by rw[hz b hb];omega),fun b hb=>k.free (h.lt b hb) (hz b hb)⟩
theorem mZ.over{vs:br}{ds:aR}{bs:af}(k:jY w w' Θ Θ' tag)(h:mZ w vs ds bs)(hz:∀b∈bs,Θ b=0):mZ w' vs ds bs/\∀b∈bs,Θ' b=0:=by
 have:=k.two;exact⟨h.keep fun b hb=>k.block b (h.lt b hb) (by rw[hz b hb];omega),fun b hb=>k.free (h.lt b hb) (hz b hb)⟩
section
variable(hn:∀(j:Nat) v,κ j=some v->κ' j=some v)
include hn
end
theorem RdH.lt{v:Value}{rows:List aR}{p n:Nat}{bs:af}(h:RdH w κ v rows p n bs):∀b∈bs,b<w.heap.size:=by
 obtain⟨b,off,cap,cs,ns,rfl,h1,h2,h3,h4,h5,rfl,_⟩:=h;intro x hx;rcases bM.1 hx with rfl|hx
 ·exact h1
 ·exact h5.lt x hx
section
variable(hn:∀(j:Nat) v,κ j=some v->κ' j=some v)
include hn
theorem RdH.stay{v:Value}{rows:List aR}{p n:Nat}{bs:af}(h:RdH w κ v rows p n bs)(hb:∀b∈bs,w'.heap[b]?=w.heap[b]?):RdH w' κ' v rows p n bs:=by
 obtain⟨b,off,cap,cs,ns,rfl,h1,h2,h3,h4,h5,rfl,c,h6,h7⟩:=h;exact⟨b,off,cap,cs,ns,rfl,No h1 (hb b (by simp)),h2,h3,fun j c hc=>(DU (hb b (by simp))).trans (h4 j c hc),h5.keep (fun x hx=>hb x (by simp[hx])),rfl,c,h6,hn _ _ h7⟩
end
section
variable(k:jY w w' Θ Θ' tag)(hn:∀(j:Nat) v,κ j=some v->κ' j=some v)
include k hn
theorem Ba.stay{v:Value}{d:D}{bs:af}(h:Ba w κ v d bs)(hz:∀b∈bs,Θ b=0):Ba w' κ' v d bs/\∀b∈bs,Θ' b=0:=by
 cases h with
 |pure h=>exact⟨.pure (Rd.over k h hz).1,(Rd.over k h hz).2⟩
 |acc i v hk=>exact⟨.acc i v (hn _ _ hk),by simp⟩
 |ptr i off b hk=>exact⟨.ptr i off b (hn _ _ hk),by simp⟩
 |op i j sz off b o0 len cap hk=>exact⟨.op i j sz off b o0 len cap (hn _ _ hk),by simp⟩
theorem fP.stay{vs:br}{ds:aR}{bs:af}(h:fP w κ vs ds bs)(hz:∀b∈bs,Θ b=0):fP w' κ' vs ds bs/\∀b∈bs,Θ' b=0:=by
 induction ds generalizing vs bs with
 |nil=>cases h;exact⟨.nil,by simp⟩
 |cons d ds ih=>
  cases h with
  |cons v vs _ _ b1 b2 h1 h2 h3=>
   obtain⟨k1,k2⟩:=Ba.stay k hn h2 (fun b hb=>hz b (by simp[hb]));obtain⟨k3,k4⟩:=ih h3 (fun b hb=>hz b (by simp[hb]));refine⟨.cons _ _ _ _ _ _ h1 k1 k3,fun b hb=>?_⟩;rcases au.1 hb with hb|hb
   ·exact k2 b hb
   ·exact k4 b hb
theorem QK.stay{v:Value}{d:D}{bs:af}(h:QK w κ v d bs)(hz:∀b∈bs,Θ b=0):QK w' κ' v d bs/\∀b∈bs,Θ' b=0:=by
 cases h with
 |cell h=>exact⟨.cell (Ba.stay k hn h hz).1,(Ba.stay k hn h hz).2⟩
 |agg cs ds bs h=>exact⟨.agg _ _ _ (fP.stay k hn h hz).1,(fP.stay k hn h hz).2⟩
theorem EK.stay{vs:br}{ds:aR}{bs:af}(h:EK w κ vs ds bs)(hz:∀b∈bs,Θ b=0):EK w' κ' vs ds bs/\∀b∈bs,Θ' b=0:=by
 induction ds generalizing vs bs with
 |nil=>cases h;exact⟨.nil,by simp⟩
 |cons d ds ih=>
  cases h with
  |cons v vs _ _ b1 b2 h2 h3=>
   obtain⟨k1,k2⟩:=QK.stay k hn h2 (fun b hb=>hz b (by simp[hb]));obtain⟨k3,k4⟩:=ih h3 (fun b hb=>hz b (by simp[hb]));refine⟨.cons _ _ _ _ _ _ k1 k3,fun b hb=>?_⟩;rcases au.1 hb with hb|hb
   ·exact k2 b hb
   ·exact k4 b hb
theorem uB.stay{v:Value}{d:D}{bs:af}(h:uB w κ v d bs)(hz:∀b∈bs,Θ b=0):uB w' κ' v d bs/\∀b∈bs,Θ' b=0:=by
 cases h with
 |v h=>exact⟨.v (QK.stay k hn h hz).1,(QK.stay k hn h hz).2⟩
 |gZ vs ds bs h=>exact⟨.gZ _ _ _ (EK.stay k hn h hz).1,(EK.stay k hn h hz).2⟩
theorem yo.stay{j:Nat}{o:Ob}(hj:j+2≠tag)(h:yo w κ Θ j o):yo w' κ' Θ' j o:=by
 cases o with
 |gone=>trivial
 |tk rows=>
  obtain⟨v,bs,hk,hrd,hz⟩:=h;obtain⟨h1,h2⟩:=Rd.over k hrd hz;exact⟨v,bs,hn _ _ hk,h1,h2⟩
 |mp kv=>
  obtain⟨g,es,c,q1,q2,q3,q4⟩:=h;have hlt:g<w.heap.size:=(bL.1 q2).1;have hne:Θ g≠tag:=by rw[q3];exact hj
  exact⟨g,es,c,hn _ _ q1,(k.block g hlt hne).trans q2,by rw[k.owner g hlt hne];exact q3,q4.stay⟩
 |fG sz rows u=>
  obtain⟨hrl,hux,v,bs,hk,hrd,hnd,I2⟩:=h;have hsame:∀b∈bs,w'.heap[b]?=w.heap[b]?:=fun b hb=>k.block b (hrd.lt b hb) (by rw[(I2 b hb).1];exact hj)
  refine⟨hrl,fun x hx=>hn _ _ (hux x hx),v,bs,hn _ _ hk,hrd.keep hsame,hnd,fun b hb=>⟨?_,?_⟩⟩
  ·rw[k.owner b (hrd.lt b hb) (by rw[(I2 b hb).1];exact hj)];exact(I2 b hb).1
  ·obtain⟨x,T,hx⟩:=(I2 b hb).2;exact⟨x,T,(hsame b hb).trans hx⟩
 |hole sz rows u p n=>
  obtain⟨hrl,hux,v,bs,hk,hrd,hnd,I2⟩:=h;have hsame:∀b∈bs,w'.heap[b]?=w.heap[b]?:=fun b hb=>k.block b (hrd.lt b hb) (by rw[(I2 b hb).1];exact hj)
  refine⟨hrl,fun x hx=>hn _ _ (hux x hx),v,bs,hn _ _ hk,RdH.stay hn hrd hsame,hnd,fun b hb=>⟨?_,?_⟩⟩
  ·rw[k.owner b (hrd.lt b hb) (by rw[(I2 b hb).1];exact hj)];exact(I2 b hb).1
  ·obtain⟨x,T,hx⟩:=(I2 b hb).2;exact⟨x,T,(hsame b hb).trans hx⟩
 |box cells=>
  obtain⟨g,cs,T,hk,hg,hΘ,bs,vq,hz⟩:=h;have hlt:g<w.heap.size:=(bL.1 hg).1;have hne:Θ g≠tag:=by rw[hΘ];exact hj
  obtain⟨h1,h2⟩:=fP.stay k hn vq hz;exact⟨g,cs,T,hn _ _ hk,(k.block g hlt hne).trans hg,(k.owner g hlt hne).trans hΘ,bs,h1,h2⟩
 |Pr cells u=>
  obtain⟨hu,g,cs,T,hk,hg,hΘ,bs,vq,hz⟩:=h;have hlt:g<w.heap.size:=(bL.1 hg).1;have hne:Θ g≠tag:=by rw[hΘ];exact hj
  obtain⟨h1,h2⟩:=fP.stay k hn vq hz;exact⟨hn _ _ hu,g,cs,T,hn _ _ hk,(k.block g hlt hne).trans hg,(k.owner g hlt hne).trans hΘ,bs,h1,h2⟩
 |row deep e sz rows=>
  obtain⟨hsz,hrl,v,cs,bs,hk,hown,vq,hΘ,hd⟩:=h;refine⟨hsz,hrl,v,cs,bs,hn _ _ hk,?_,?_,?_,?_⟩
  ·refine⟨hown.1,?_⟩;rcases hown.2 with v8|⟨g,cap,cur,rfl,hb,TS,rest⟩
   ·exact .inl v8
   ·have hlt:g<w.heap.size:=(bL.1 TS).1;have hne:Θ g≠tag:=by rw[hΘ g (by simp[Value.ownBlock])];exact hj
    exact .inr ⟨g,cap,cur,rfl,hb,(k.block g hlt hne).trans TS,rest⟩
  ·refine vq.keep fun b hb=>k.block b (vq.lt b hb) ?_
   have:=k.two;cases deep with
   |cl=>rw[(hd.2.1 b hb).1];exact hj
   |sh=>rw[hd b hb];omega
   |uq=>rw[hd b hb];omega
   |mv n=>rw[hd b hb];omega
  ·intro g hg;have hlt:=(hown.lt g hg).2;have e:=hΘ g hg;rw[k.owner g hlt (by rw[e];exact hj)];exact e
  ·cases deep with
   |cl=>
    refine⟨hd.1,fun b hb=>⟨?_,?_⟩,hd.2.2⟩
    ·rw[k.owner b (vq.lt b hb) (by rw[(hd.2.1 b hb).1];exact hj)];exact(hd.2.1 b hb).1
    ·obtain⟨x,T,hx⟩:=(hd.2.1 b hb).2;exact⟨x,T,(k.block b (vq.lt b hb) (by rw[(hd.2.1 b hb).1];exact hj)).trans hx⟩
   |sh=>exact fun b hb=>k.free (vq.lt b hb) (hd b hb)
   |uq=>exact fun b hb=>k.free (vq.lt b hb) (hd b hb)
   |mv n=>exact fun b hb=>k.free (vq.lt b hb) (hd b hb)
end
end
section
variable{Γ:w5}{st:St}{κ κ':Nat->Option Value}{Θ Θ':Nat->Nat}{a:Act}{w w':World}{tag:Nat}
theorem eO.base(hs:eO Γ st κ Θ a w):Γ.W0.heap.size<=w.heap.size:=hs.stays.size
theorem eO.XE(hs:eO Γ st κ Θ a w)(k:jY w w' Θ Θ' tag):YA Γ w':=by
 refine⟨k.os.trans hs.stays.os,k.tape.trans hs.stays.tape,k.output.trans hs.stays.output,cU hs.stays.size k.size,fun b hb hx=>?_⟩;have:=k.two;have h1:=(hs.old b hb hx).2;exact(k.block b (eE hb hs.base) (by omega)).trans (hs.stays.block b hb hx)
theorem eO.a2S(hs:eO Γ st κ Θ a w)(k:jY w w' Θ Θ' tag):∀b,b<Γ.W0.heap.size->¬Γ.X b->Θ' b=Γ.Θ0 b/\Θ' b<=1:=by
 intro b hb hx;have:=k.two;have h1:=hs.old b hb hx;rw[k.owner b (eE hb hs.base) (by omega)];exact h1
theorem eO.qf(hs:eO Γ st κ Θ a w)(k:jY w w' Θ Θ' tag)(hn:∀(j:Nat) v,κ j=some v->κ' j=some v){ρ:Nat->Nat}(hu:CR Γ st.H κ Θ w ρ):
 (∀b,ρ b≠0->Θ' b=0/\a1D Γ b/\Wr w' b)/\(∀id e sz rows,id+2≠tag->st.H[id]?=some (.row .uq e sz rows)->
  ∃v cs bs,κ' id=some v/\w'.ownsRow 0 e sz v rows.length cs/\mZ w' cs rows.flatten bs/\bs.Nodup/\∀b∈bs,ρ b=id+1)/\
  ∀id o,id+2≠tag->st.H[id]?=some o->PY w' κ' ρ id o:=by
 have h2:=k.two;refine⟨?_,?_,?_⟩
 ·intro b hb;obtain⟨h0,hm,x,T,hx⟩:=hu.free b hb;have hlt:b<w.heap.size:=(bL.1 hx).1;exact⟨k.free hlt h0,hm,x,T,(k.block b hlt (by omega)).trans hx⟩
 ·intro id e sz rows hid hH;obtain⟨v,cs,bs,hk,hown,vq,hnd,hρ⟩:=hu.rows id e sz rows hH;obtain⟨_,_,v2,_,_,hk2,_,_,hΘ,_⟩:=hs.ob id _ hH;rw[hk]at hk2;cases hk2;refine⟨v,cs,bs,hn _ _ hk,⟨hown.1,?_⟩,vq.keep fun b hb=>k.block b (vq.lt b hb) ?_,hnd,hρ⟩
  ·rcases hown.2 with v8|⟨g,cap,cur,rfl,hb,TS,rest⟩
   ·exact .inl v8
   ·have hlt:g<w.heap.size:=(bL.1 TS).1;have hne:Θ g≠tag:=by rw[hΘ g (by simp[Value.ownBlock])];exact hid
    exact .inr ⟨g,cap,cur,rfl,hb,(k.block g hlt hne).trans TS,rest⟩
  ·have:=hρ b hb;have:=(hu.free b (by omega)).1;omega
 ·intro id o hid hH;have hm:=hu.more id o hH;have hb0:∀ {bs:af},(∀b∈bs,ρ b=id+1)->∀b∈bs,Θ b≠tag:=fun hρ b hb=>by
   have:=hρ b hb;have:=(hu.free b (by omega)).1;omega
  cases o with
  |tk rows=>
   obtain⟨v,bs,hk,hrd,hnd,hρ⟩:=hm;exact⟨v,bs,hn _ _ hk,hrd.keep fun b hb=>k.block b (hrd.lt b hb) (hb0 hρ b hb),hnd,hρ⟩
  |row kd e sz rows=>
   cases kd with
   |mv n=>
    obtain⟨v,cs,bs,hk,hown,vq,hnd,hρ⟩:=hm;obtain⟨_,_,v2,_,_,hk2,_,_,hΘ,_⟩:=hs.ob id _ hH;rw[hk]at hk2;cases hk2;refine⟨v,cs,bs,hn _ _ hk,⟨hown.1,?_⟩,vq.keep fun b hb=>k.block b (vq.lt b hb) (hb0 hρ b hb),hnd,hρ⟩;rcases hown.2 with v8|⟨g,cap,cur,rfl,hb,TS,rest⟩
    ·exact .inl v8
    ·have hlt:g<w.heap.size:=(bL.1 TS).1;have hne:Θ g≠tag:=by rw[hΘ g (by simp[Value.ownBlock])];exact hid
     exact .inr ⟨g,cap,cur,rfl,hb,(k.block g hlt hne).trans TS,rest⟩
   |_=>trivial
  |_=>trivial
theorem PY.re{ρ ρ':Nat->Nat}{id:Nat}{o:Ob}(h:PY w κ ρ id o)(hr:∀b,ρ b=id+1->ρ' b=id+1):PY w κ ρ' id o:=by
 cases o with
 |tk rows=>
  obtain⟨v,bs,hk,hrd,hnd,hρ⟩:=h;exact⟨v,bs,hk,hrd,hnd,fun b hb=>hr b (hρ b hb)⟩
 |row kd e sz rows=>
  cases kd with
  |mv n=>
   obtain⟨v,cs,bs,hk,hown,vq,hnd,hρ⟩:=h;exact⟨v,cs,bs,hk,hown,vq,hnd,fun b hb=>hr b (hρ b hb)⟩
  |_=>trivial
 |_=>trivial
theorem eO.step(hs:eO Γ st κ Θ a w){H':bX}(k:jY w w' Θ Θ' tag)(hm:∀b,2<=Θ' b->Cz Γ b)(hn:∀(j:Nat) v,κ j=some v->κ' j=some v)
 (hko:∀id,H'.length<=id->κ' id=none) (hk1:∀(id:Nat) u,κ' id=some u->u.oneCell'=true)
 (CN:∀(j:Nat) o,H'[j]?=some o->o=.gone\/(j+2≠tag/\st.H[j]?=some o)\/yo w' κ' Θ' j o) (hu:∃ρ,CR Γ H' κ' Θ' w' ρ):eO Γ ⟨st.σ,H'⟩ κ' Θ' a w':=by
 refine⟨hs.defers,hs.size,hko,hk1,?_,?_,k.own,hs.a2S k,hm,hs.XE k,hu⟩
 ·intro t;obtain⟨bs,hr,hz⟩:=hs.slot t;exact⟨bs,uB.stay k hn hr hz⟩
 ·intro j o hj;rcases CN j o hj with rfl|⟨hne,hj'⟩|h
  ·trivial
  ·exact yo.stay k hn hne (hs.ob j o hj')
  ·exact h
def Ad(κ:Nat->Option Value)(id:Nat)(v:Option Value):Nat->Option Value:=fun i=>if i=id then v else κ i
theorem mF(κ:Nat->Option Value)(id:Nat)(v:Option Value):Ad κ id v id=v:=by simp[Ad]
theorem zx{κ:Nat->Option Value}{id:Nat}(h:κ id=none)(v:Option Value):∀(j:Nat) u,κ j=some u->Ad κ id v j=some u:=by
 intro j u hj;unfold Ad;rw[bH (fun e=>by subst e;rw[h]at hj;cases hj)];exact hj
def Ob.uqB:Ob->Bool
 | .row .uq _ _ _=>true
 | .row (.mv _) _ _ _=>true
 | .tk _=>true
 |_=>false
def Ob.mvB:Ob->Bool
 | .row (.mv _) _ _ _=>true
 | .tk _=>true
 |_=>false
theorem PY.Aq{ρ:Nat->Nat}{id:Nat}{o:Ob}(h:o.mvB=false):PY w κ ρ id o:=by
 cases o with
 |tk rows=>simp[Ob.mvB]at h
 |row kd e sz rows=>
  cases kd with
  |mv n=>simp[Ob.mvB]at h
  |_=>trivial
 |_=>trivial
theorem PY.plain{ρ:Nat->Nat}{id:Nat}{o:Ob}(h:o.uqB=false):PY w κ ρ id o:=by
 cases o with
 |tk rows=>simp[Ob.uqB]at h
 |row kd e sz rows=>
  cases kd with
  |mv n=>simp[Ob.uqB]at h
  |_=>trivial
 |_=>trivial
theorem eO.push(hs:eO Γ st κ Θ a w){v:Value}{o:Ob}(h1:v.oneCell'=true)(k:jY w w' Θ Θ' (st.H.length+2))(hm:∀b,2<=Θ' b->Cz Γ b)
 (ho:yo w' (Ad κ st.H.length (some v)) Θ' st.H.length o) (hq:o.uqB=false):eO Γ ⟨st.σ,st.H++[o]⟩ (Ad κ st.H.length (some v)) Θ' a w':=by
 have hn:=zx (hs.rX _ (bR _)) (some v);have key:∀(j:Nat) x,(st.H++[o])[j]?=some x->(j=st.H.length/\x=o)\/(j+2≠st.H.length+2/\st.H[j]?=some x):=by
  intro j x hj;by_cases hlt:j<st.H.length
  ·rw[b9 hlt]at hj;exact .inr ⟨by omega,hj⟩
  ·have hj':=(aH.1 hj).1;simp only[aX,aK,bK]at hj';have e:j=st.H.length:=by omega
   subst e;rw[bE (bR _)]at hj;simp at hj;exact .inl ⟨rfl,hj.symm⟩
 obtain⟨ρ,hu⟩:=hs.wq;have xI:=hs.qf k hn hu;refine hs.step k hm hn ?_ ?_ ?_ ⟨ρ,xI.1,?_,?_⟩
 ·intro i hi;simp only[aX,aK,bK]at hi;unfold Ad;rw[bH (by omega)];exact hs.rX i (by omega)
 ·intro i u hu;unfold Ad at hu;split at hu
  ·cases hu;exact h1
  ·exact hs.qp i u hu
 ·intro j x hj;rcases key j x hj with⟨rfl,rfl⟩|h
  ·exact .inr (.inr ho)
  ·exact .inr (.inl h)
 ·intro id e sz rows hj;rcases key id _ hj with⟨rfl,rfl⟩|h
  ·simp[Ob.uqB]at hq
  ·exact xI.2.1 id e sz rows h.1 h.2
 ·intro id x hj;rcases key id _ hj with⟨rfl,rfl⟩|h
  ·exact PY.plain hq
  ·exact xI.2.2 id x h.1 h.2
theorem eO.change(hs:eO Γ st κ Θ a w){id:Nat}{o:Ob}(k:jY w w' Θ Θ' (id+2))(hm:∀b,2<=Θ' b->Cz Γ b)(ho:yo w' κ Θ' id o)(hq:o.uqB=false):
 eO Γ ⟨st.σ,st.H.set id o⟩ κ Θ' a w':=by
 have key:∀(j:Nat) x,(st.H.set id o)[j]?=some x->(j=id/\x=o)\/(j+2≠id+2/\st.H[j]?=some x):=by
  intro j x hj;by_cases e:id=j
  ·subst e;have hlt:id<st.H.length:=by
    have:=(aH.1 hj).1;simpa using this
   rw[dX hlt]at hj;cases hj;exact .inl ⟨rfl,rfl⟩
  ·rw[cG e]at hj;exact .inr ⟨by omega,hj⟩
 obtain⟨ρ,hu⟩:=hs.wq;have xI:=hs.qf k (fun _ _ h=>h) hu;refine hs.step k hm (fun _ _ h=>h) (fun i hi=>hs.rX i (by simpa using hi)) hs.qp ?_ ⟨ρ,xI.1,?_,?_⟩
 ·intro j x hj;rcases key j x hj with⟨rfl,rfl⟩|h
  ·exact .inr (.inr ho)
  ·exact .inr (.inl h)
 ·intro i e sz rows hj;rcases key i _ hj with⟨rfl,rfl⟩|h
  ·simp[Ob.uqB]at hq
  ·exact xI.2.1 i e sz rows h.1 h.2
 ·intro i x hj;rcases key i _ hj with⟨rfl,rfl⟩|h
  ·exact PY.plain hq
  ·exact xI.2.2 i x h.1 h.2
theorem eO.Bc(hs:eO Γ st κ Θ a w)(h:∀b,2<=Θ' b->2<=Θ b\/w.heap.size<=b):∀b,2<=Θ' b->Cz Γ b:=by
 intro b hb;rcases h b hb with h|h
 ·exact hs.mine b h
 ·exact .inl (cU hs.base h)
theorem jY.refl(h:∀b,Θ b≠0->b<w.heap.size)(h2:2<=tag):jY w w Θ Θ tag:=⟨h2,rfl,rfl,rfl,bR _,fun _ _ _=>rfl,fun _ _ _=>rfl,h⟩
theorem jY.a5X(h:∀b,Θ b≠0->b<w.heap.size)(hb:Below w.heap.size w w')(h2:2<=tag):jY w w' Θ Θ tag:=
 ⟨h2,hb.os,hb.tape,hb.output,hb.size,fun b hlt _=>hb.block b hlt,fun _ _ _=>rfl,fun b hn=>eE (h b hn) hb.size⟩
theorem eO.grow(hs:eO Γ st κ Θ a w)(hb:Below w.heap.size w w'):eO Γ st κ Θ a w':=by
 have k:jY w w' Θ Θ (st.H.length+2):=jY.a5X hs.own hb (by omega);obtain⟨ρ,hu⟩:=hs.wq;have xI:=hs.qf k (fun _ _ h=>h) hu;have hlt:∀(j:Nat) o,st.H[j]?=some o->j+2≠st.H.length+2:=fun j o h=>by
  have:=(aH.1 h).1;omega
 exact hs.step k hs.mine (fun _ _ h=>h) hs.rX hs.qp (fun j o h=>.inr (.inl ⟨hlt j o h,h⟩)) ⟨ρ,xI.1,fun id e sz rows h=>xI.2.1 id e sz rows (hlt _ _ h) h,fun id o h=>xI.2.2 id o (hlt _ _ h) h⟩
theorem eO.drew(hs:eO Γ st κ Θ a w):eO Γ st κ Θ a w.drew:=hs.grow ((Below.refl _ _).drew)
def kill(H:bX):af->bX
 | []=>H
 |m::ms=>kill (H.set m .gone) ms
theorem iK(H:bX)(ms:af):(kill H ms).length=H.length:=by
 induction ms generalizing H with
 |nil=>rfl
 |cons m ms ih=>simp[kill,ih]
theorem vA{H:bX}{ms:af}{j:Nat}{o:Ob}(h:(kill H ms)[j]?=some o):o=.gone\/(j∉ms/\H[j]?=some o):=by
 induction ms generalizing H with
 |nil=>exact .inr ⟨by simp,h⟩
 |cons m ms ih=>
  rcases ih h with h|⟨h1,h2⟩
  ·exact .inl h
  ·by_cases e:m=j
   ·subst e;have hlt:=(aH.1 h2).1;rw[dX (by simpa using hlt)]at h2;cases h2;exact .inl rfl
   ·rw[cG e]at h2;exact .inr ⟨by simp[h1,uA e],h2⟩
def Bk(κ:Nat->Option Value)(Θ ρ:Nat->Nat)(w:World)(m:Nat)(k:RK)(rows:List aR):Prop:=
 ∃v bs,κ m=some v/\Rd w v (.sl rows) bs/\(∀b∈bs,Θ b=0)/\(k=.uq->bs.Nodup/\∀b∈bs,ρ b=m+1)
theorem yP{e sz:Nat}{v:Value}{rows:List aR}{cs:br}{bs:af}(hrl:∀r∈rows,r.length=sz)(hown:w.ownsRow 0 e sz v rows.length cs)(vq:mZ w cs rows.flatten bs):
 Rd w v (.sl rows) (v.ownBlock.toList++bs):=by
 rcases hown.2 with⟨rfl,hn⟩|⟨g,cap,cur,rfl,_,hg,hnc,hcm,_,ht⟩
 ·have:rows=[]:=cg hn;subst this;cases vq;exact .BE
 ·have hlt:g<w.heap.size:=(bL.1 hg).1;refine .sl g 0 cap sz rows cs bs hlt hnc hcm hrl (fun j c hc=>?_) vq;have:=hown.cells (g:=g) (by simp[Value.ownBlock]) j c hc;simpa[Addr.add_lit]using this
theorem eO.a8U(hs:eO Γ st κ Θ a w){ρ:Nat->Nat}(hu:CR Γ st.H κ Θ w ρ){m e sz:Nat}{k:RK}{rows:List aR}(hH:st.H[m]?=some (.row k e sz rows))(hk:k.Tt=true):
 ∃Θ' ρ',eO Γ ⟨st.σ,st.H.set m .gone⟩ κ Θ' a w/\CR Γ (st.H.set m .gone) κ Θ' w ρ'/\Bk κ Θ' ρ' w m k rows/\
  (∀b,Θ b=0->Θ' b=0)/\(∀b,ρ b≠0->ρ' b=ρ b):=by
 obtain⟨hsz,hrl,v,cs,bs,hkm,hown,vq,hΘ,hz⟩:=hs.ob m _ hH;have Ab:∀b∈bs,Θ b=0:=by cases k<;>first|exact hz|simp[RK.Tt]at hk
 let Θ':Nat->Nat:=fun b=>if Θ b=m+2 then 0 else Θ b
 let ρ':Nat->Nat:=fun b=>if some b=v.ownBlock then m+1 else ρ b
 have hk':jY w w Θ Θ' (m+2):=⟨by omega,rfl,rfl,rfl,bR _,fun _ _ _=>rfl,fun b _ hne=>bH hne,fun b hb=>hs.own b (fun h0=>hb (by simp only[Θ'];split<;>simp_all))⟩
 have hT0:∀b,Θ b=0->Θ' b=0:=fun b h=>by simp only[Θ'];split<;>omega
 have PF:∀b,2<=Θ' b->Cz Γ b:=fun b hb=>hs.mine b (by simp only[Θ']at hb;split at hb<;>omega)
 have I5:∀g,v.ownBlock=some g->ρ g=0:=by
  intro g hg;cases h:ρ g with
  |zero=>rfl
  |succ n=>have:=(hu.free g (by omega)).1;rw[hΘ g hg]at this;omega
 have hρ:∀b,ρ b≠0->ρ' b=ρ b:=fun b hb=>bH (fun h=>hb (I5 b h.symm))
 have key:∀(j:Nat) x,(st.H.set m .gone)[j]?=some x->x=.gone\/(j+2≠m+2/\st.H[j]?=some x):=by
  intro j x hj;rcases vA (ms:=[m]) hj with h|⟨h1,h2⟩
  ·exact .inl h
  ·exact .inr ⟨by simp at h1;omega,h2⟩
 have xI:=hs.qf hk' (fun _ _ h=>h) hu;have hU:CR Γ (st.H.set m .gone) κ Θ' w ρ':=by
  refine⟨fun b hb=>?_,fun id e sz rows h=>?_,fun id x h=>?_⟩
  ·by_cases hb':some b=v.ownBlock
   ·have e1:=hΘ b hb'.symm;refine⟨by simp only[Θ'];rw[bS e1],.inl (hs.mine b (by omega)),?_⟩;rcases hown.2 with⟨rfl,_⟩|⟨g,cap,cur,rfl,_,hg,_⟩
    ·simp[Value.ownBlock]at hb'
    ·simp[Value.ownBlock]at hb';subst hb';exact⟨_,_,hg⟩
   ·exact xI.1 b (by simp only[ρ']at hb;rwa[bH hb']at hb)
  ·rcases key id _ h with h|⟨h1,h2⟩
   ·cases h
   ·obtain⟨v2,c2,b2,q1,q2,q3,q4,q5⟩:=xI.2.1 id e sz rows h1 h2;exact⟨v2,c2,b2,q1,q2,q3,q4,fun b hb=>by rw[hρ b (by rw[q5 b hb];omega)];exact q5 b hb⟩
  ·rcases key id _ h with h|⟨h1,h2⟩
   ·subst h;trivial
   ·exact(xI.2.2 id x h1 h2).re fun b hb=>(hρ b (by omega)).trans hb
 refine⟨Θ',ρ',?_,hU,?_,hT0,hρ⟩
 ·exact hs.step hk' PF (fun _ _ h=>h) (fun i hi=>hs.rX i (by simpa using hi)) hs.qp (fun j x hj=>by
   rcases key j x hj with h|h
   ·exact .inl h
   ·exact .inr (.inl h)) ⟨ρ',hU⟩
 ·have plain:k≠ .uq->Bk κ Θ' ρ' w m k rows:=fun hne=>by
   refine⟨v,_,hkm,yP hrl hown vq,fun b hb=>?_,fun h=>absurd h hne⟩;rcases au.1 hb with hb|hb
   ·simp only[lX]at hb;simp only[Θ'];rw[bS (hΘ b hb)]
   ·exact hT0 b (Ab b hb)
  cases k with
  |cl=>simp[RK.Tt]at hk
  |sh=>exact plain (by simp)
  |mv n=>exact plain (by simp)
  |uq=>
   obtain⟨v2,c2,b2,q1,q2,q3,q4,q5⟩:=hu.rows m e sz rows hH;rw[hkm]at q1;cases q1;have hfr:∀b∈b2,ρ b≠0:=fun b hb=>by rw[q5 b hb];omega
   refine⟨v,_,hkm,yP hrl q2 q3,fun b hb=>?_,fun _=>⟨?_,fun b hb=>?_⟩⟩
   ·rcases au.1 hb with hb|hb
    ·simp only[lX]at hb;simp only[Θ'];rw[bS (hΘ b hb)]
    ·exact hT0 b (hu.free b (hfr b hb)).1
   ·rw[bO];refine⟨by cases v.ownBlock<;>simp,q4,fun x hx y hy e=>?_⟩;simp only[lX]at hx;subst e;exact hfr x hy (I5 x hx)
   ·rcases au.1 hb with hb|hb
    ·simp only[lX]at hb;simp only[ρ'];rw[bS hb.symm]
    ·rw[hρ b (hfr b hb)];exact q5 b hb
theorem eO.aAk(hs:eO Γ st κ Θ a w){ρ:Nat->Nat}(hu:CR Γ st.H κ Θ w ρ){m:Nat}{rows:List aR}(hH:st.H[m]?=some (.tk rows)):
 eO Γ ⟨st.σ,st.H.set m .gone⟩ κ Θ a w/\CR Γ (st.H.set m .gone) κ Θ w ρ/\Bk κ Θ ρ w m .uq rows:=by
 have key:∀(j:Nat) x,(st.H.set m .gone)[j]?=some x->x=.gone\/(j≠m/\st.H[j]?=some x):=by
  intro j x hj;rcases vA (ms:=[m]) hj with h|⟨h1,h2⟩
  ·exact .inl h
  ·exact .inr ⟨by simpa using h1,h2⟩
 have hU:CR Γ (st.H.set m .gone) κ Θ w ρ:=by
  refine⟨hu.free,fun id e sz rows h=>?_,fun id x h=>?_⟩
  ·rcases key id _ h with h|⟨_,h2⟩
   ·cases h
   ·exact hu.rows id e sz rows h2
  ·rcases key id _ h with h|⟨_,h2⟩
   ·subst h;trivial
   ·exact hu.more id x h2
 obtain⟨v,bs,q1,q2,q3,q4⟩:=hu.more m _ hH;refine⟨⟨hs.defers,hs.size,fun i hi=>hs.rX i (by simpa using hi),hs.qp,hs.slot,fun id o h=>?_,hs.own,hs.old,hs.mine,hs.stays,ρ,hU⟩,hU,v,bs,q1,q2,fun b hb=>(hu.free b (by rw[q4 b hb];omega)).1,fun _=>⟨q3,q4⟩⟩;rcases key id _ h with h|⟨_,h2⟩
 ·subst h;trivial
 ·exact hs.ob id o h2
def Ob.P4:Ob->Option (RK×List aR)
 | .row k _ _ rows=>(match k with| .cl=>none|_=>some (k,rows))
 | .tk rows=>some (.uq,rows)
 |_=>none
theorem Ob.a3W{o:Ob}{k:RK}{rows:List aR}(h:o.P4=some (k,rows)):(∃e sz,o=.row k e sz rows/\k.Tt=true)\/(o=.tk rows/\k=.uq):=by
 cases o with
 |row k' e sz r=>
  cases k' with
  |cl=>simp[Ob.P4]at h
  |_=>simp only[Ob.P4,az,cV]at h;obtain⟨rfl,rfl⟩:=h;exact .inl ⟨e,sz,rfl,rfl⟩
 |tk r=>simp only[Ob.P4,az,cV]at h;obtain⟨rfl,rfl⟩:=h;exact .inr ⟨rfl,rfl⟩
 |_=>simp[Ob.P4]at h
theorem eO.aAj(hs:eO Γ st κ Θ a w){ρ:Nat->Nat}(hu:CR Γ st.H κ Θ w ρ){m:Nat}{o:Ob}{k:RK}{rows:List aR}(hH:st.H[m]?=some o)(ho:o.P4=some (k,rows)):
 ∃Θ' ρ',eO Γ ⟨st.σ,st.H.set m .gone⟩ κ Θ' a w/\CR Γ (st.H.set m .gone) κ Θ' w ρ'/\Bk κ Θ' ρ' w m k rows/\
  (∀b,Θ b=0->Θ' b=0)/\(∀b,ρ b≠0->ρ' b=ρ b):=by
 rcases Ob.a3W ho with⟨e,sz,rfl,hk⟩|⟨rfl,rfl⟩
 ·exact hs.a8U hu hH hk
 ·obtain⟨h1,h2,h3⟩:=hs.aAk hu hH;exact⟨Θ,ρ,h1,h2,h3,fun _ h=>h,fun _ _=>rfl⟩
theorem eO.VY:∀(ms:af) {st:St} {Θ ρ:Nat->Nat},eO Γ st κ Θ a w->CR Γ st.H κ Θ w ρ->ms.Nodup->
 (∀m∈ms,∃o k rows,st.H[m]?=some o/\o.P4=some (k,rows))->
 ∃Θ' ρ',eO Γ ⟨st.σ,kill st.H ms⟩ κ Θ' a w/\CR Γ (kill st.H ms) κ Θ' w ρ'/\(∀m∈ms,∀o k rows,st.H[m]?=some o->o.P4=some (k,rows)->Bk κ Θ' ρ' w m k rows)/\
  (∀b,Θ b=0->Θ' b=0)/\(∀b,ρ b≠0->ρ' b=ρ b):=by
 intro ms
 induction ms with
 |nil=>intro st Θ ρ hs hu _ _;exact⟨Θ,ρ,hs,hu,by simp,fun _ h=>h,fun _ _=>rfl⟩
 |cons m ms ih=>
  intro st Θ ρ hs hu hnd hall;obtain⟨hnm,KA⟩:=fD.1 hnd;obtain⟨o,k,rows,hH,hk⟩:=hall m (by simp);obtain⟨Θ1,ρ1,hs1,hu1,hm1,VK,Zo⟩:=hs.aAj hu hH hk;have TR:∀m'∈ms,(st.H.set m .gone)[m']?=st.H[m']?:=fun m' hm'=>cG (fun e:m=m'=>hnm (by rw[e];exact hm'))
  obtain⟨Θ2,ρ2,hs2,hu2,hm2,hz2,hr2⟩:=ih (st:=⟨st.σ,st.H.set m .gone⟩) hs1 hu1 KA (fun m' hm'=>by
   obtain⟨o',k',dQ,h1,h2⟩:=hall m' (by simp[hm']);exact⟨o',k',dQ,(TR m' hm').trans h1,h2⟩)
  refine⟨Θ2,ρ2,hs2,hu2,?_,fun b h=>hz2 b (VK b h),fun b h=>(hr2 b (by rw[Zo b h];exact h)).trans (Zo b h)⟩;intro m' hm' o' k' dQ M7 ho';rcases bM.1 hm' with rfl|a1l
  ·rw[hH]at M7;cases M7;rw[hk]at ho';cases ho';obtain⟨v,bs,q1,q2,q3,q4⟩:=hm1;refine⟨v,bs,q1,q2,fun b hb=>hz2 b (q3 b hb),fun hq=>?_⟩;obtain⟨q5,q6⟩:=q4 hq;exact⟨q5,fun b hb=>by rw[hr2 b (by rw[q6 b hb];omega)];exact q6 b hb⟩
  ·exact hm2 m' a1l o' k' dQ ((TR m' a1l).trans M7) ho'
theorem eO.Q9:∀(ms:af) {st:St} {Θ ρ:Nat->Nat},eO Γ st κ Θ a w->CR Γ st.H κ Θ w ρ->ms.Nodup->
 (∀m∈ms,∃k e sz rows,st.H[m]?=some (.row k e sz rows)/\k.Tt=true)->
 ∃Θ' ρ',eO Γ ⟨st.σ,kill st.H ms⟩ κ Θ' a w/\CR Γ (kill st.H ms) κ Θ' w ρ'/\(∀m∈ms,∀k e sz rows,st.H[m]?=some (.row k e sz rows)->Bk κ Θ' ρ' w m k rows)/\
  (∀b,Θ b=0->Θ' b=0)/\(∀b,ρ b≠0->ρ' b=ρ b):=by
 intro ms
 induction ms with
 |nil=>intro st Θ ρ hs hu _ _;exact⟨Θ,ρ,hs,hu,by simp,fun _ h=>h,fun _ _=>rfl⟩
 |cons m ms ih=>
  intro st Θ ρ hs hu hnd hall;obtain⟨hnm,KA⟩:=fD.1 hnd;obtain⟨k,e,sz,rows,hH,hk⟩:=hall m (by simp);obtain⟨Θ1,ρ1,hs1,hu1,hm1,VK,Zo⟩:=hs.a8U hu hH hk;have TR:∀m'∈ms,(st.H.set m .gone)[m']?=st.H[m']?:=fun m' hm'=>cG (fun e:m=m'=>hnm (by rw[e];exact hm'))
  obtain⟨Θ2,ρ2,hs2,hu2,hm2,hz2,hr2⟩:=ih (st:=⟨st.σ,st.H.set m .gone⟩) hs1 hu1 KA (fun m' hm'=>by
   obtain⟨k',e',sz',dQ,h1,h2⟩:=hall m' (by simp[hm']);exact⟨k',e',sz',dQ,(TR m' hm').trans h1,h2⟩)
  refine⟨Θ2,ρ2,hs2,hu2,?_,fun b h=>hz2 b (VK b h),fun b h=>(hr2 b (by rw[Zo b h];exact h)).trans (Zo b h)⟩;intro m' hm' k' e' sz' dQ M7;rcases bM.1 hm' with rfl|a1l
  ·rw[hH]at M7;cases M7;obtain⟨v,bs,q1,q2,q3,q4⟩:=hm1;refine⟨v,bs,q1,q2,fun b hb=>hz2 b (q3 b hb),fun hq=>?_⟩;obtain⟨q5,q6⟩:=q4 hq;exact⟨q5,fun b hb=>by rw[hr2 b (by rw[q6 b hb];omega)];exact q6 b hb⟩
  ·exact hm2 m' a1l k' e' sz' dQ ((TR m' a1l).trans M7)
end
section
variable{P:Program}{Γ:w5}{Q:Exit->St->Prop}{st:St}{κ:Nat->Option Value}{Θ:Nat->Nat}{a:Act}{w:World}{all:Array Oper}{rest:List Oper}
theorem a4Q{c:Operand}{x y:Code}{b:Bool}(hc:st.ev c=.bool b)(ht:b=true->AW P Γ x Q st)(hf:b=false->AW P Γ y Q st):AW P Γ (.cond c x y) Q st:=by
 intro κ Θ a w hs;obtain⟨bs,r,_⟩:=hs.ev c;rw[hc]at r;exact wp_cond_split r.yq (fun h=>ht h κ Θ a w hs) (fun h=>hf h κ Θ a w hs)
theorem QG{o:Oper}{j s:Nat}{want b:Bool}(hg:o.guard=some (j,want))(hj:(all[j]?).bind (·.dst)=some s)(hb:lk st.σ s=.bool b)
 (hd:∀t,o.dst=some t->t<Γ.nt)
 (aDN:b=want->AO P Γ all ({o with guard:=none}::rest) Q st) (hno:b≠want->AO P Γ all rest Q (st.put o.dst (.gZ []))):AO P Γ all (o::rest) Q st:=by
 intro κ Θ a w hs;obtain⟨bs,r,_⟩:=hs.slot s;rw[hb]at r;have hv:=r.yq;have hlt:s<a.tmps.size:=by
  rcases eR s a.tmps.size with h|h
  ·exact h
  ·exfalso;rw[cO,u9 h]at hv;simp[undef]at hv
 have hy:yielded all a.tmps j=some b:=by
  have h1:a.tmps[s]?=some (.bool b):=by
   rw[cO,cS hlt]at hv;rw[cS hlt];simpa using hv
  simp[yielded,hj,h1]
 by_cases e:b=want
 ·have:=aDN e κ Θ a w hs;unfold wpList at this⊢;have hw:Region.wanted o (yielded all a.tmps)=true:=by simp[Region.wanted,hg,hy,e]
  have hw':Region.wanted {o with guard:=none} (yielded all a.tmps)=true:=rfl;rw[bS hw];rw[bS hw']at this;exact this
 ·have hw:Region.wanted o (yielded all a.tmps)=false:=by simp[Region.wanted,hg,hy,e]
  unfold wpList;rw[hw,bH (by simp)];refine hno e κ Θ _ w ?_;cases TQ:o.dst with
  |none=>exact hs
  |some t=>exact hs.set (hd t TQ) (.gZ [] [] [] .nil) (by simp)
theorem uB.Sv{w:World}{κ:Nat->Option Value}{v:Value}{bs:af}(h:uB w κ v (.gZ []) bs):v=.tuple #[]:=by
 cases h with
 |v h=>cases h with|cell h=>cases h with|pure h=>cases h
 |gZ vs ds bs h=>cases h;rfl
theorem S8{o:Oper}{j s:Nat}{want:Bool}(hg:o.guard=some (j,want))(hj:(all[j]?).bind (·.dst)=some s)(hb:lk st.σ s=.gZ [])
 (hd:∀t,o.dst=some t->t<Γ.nt) (hno:AO P Γ all rest Q (st.put o.dst (.gZ []))):AO P Γ all (o::rest) Q st:=by
 intro κ Θ a w hs;obtain⟨bs,r,_⟩:=hs.slot s;rw[hb]at r;have hv:=r.Sv;have hy:yielded all a.tmps j=none:=by
  rcases eR s a.tmps.size with hlt|hlt
  ·have h1:a.tmps[s]?=some (.tuple #[]):=by
    rw[cO,cS hlt]at hv;rw[cS hlt];simpa using hv
   simp[yielded,hj,h1]
  ·simp[yielded,hj,u9 hlt]
 have hw:Region.wanted o (yielded all a.tmps)=false:=by simp[Region.wanted,hg,hy]
 unfold wpList;rw[hw,bH (by simp)];refine hno κ Θ _ w ?_;cases TQ:o.dst with
 |none=>exact hs
 |some t=>exact hs.set (hd t TQ) (.gZ [] [] [] .nil) (by simp)
theorem jY.alloc(hs:eO Γ st κ Θ a w)(o:Obj){tag:Nat}(h2:2<=tag):jY w (w.alloc o) Θ (fun b=>if b=w.heap.size then tag else Θ b) tag:=by
 refine⟨h2,rfl,rfl,rfl,by simp,fun b hb _=>Below.heap_alloc w o b hb,fun b hb _=>?_,fun b hb=>?_⟩
 ·rw[bH (by omega)]
 ·by_cases e:b=w.heap.size
  ·subst e;simp
  ·rw[bH e]at hb;have:=hs.own b hb;simp;omega
theorem eO.a2g(hs:eO Γ st κ Θ a w){cs:Array Value}{ds:aR}{bs:af}(T:TypeId)(hr:fP w κ cs.toList ds bs)(hz:∀b∈bs,Θ b=0):
 eO Γ ⟨st.σ,st.H++[.box ds]⟩ (Ad κ st.H.length (some (.pointer (some ⟨w.heap.size,0,none⟩)))) (fun b=>if b=w.heap.size then st.H.length+2 else Θ b) a (w.alloc (.cells cs T)):=by
 have k:=jY.alloc hs (.cells cs T) (tag:=st.H.length+2) (by omega);refine hs.push rfl k (hs.Bc (fun b hb=>by by_cases e:b=w.heap.size<;>simp_all)) ?_ rfl;have hn:=zx (hs.rX _ (bR _)) (some (Value.pointer (some ⟨w.heap.size,0,none⟩)));obtain⟨h1,h2⟩:=fP.stay k hn hr hz;exact⟨w.heap.size,cs,T,by simp[Ad],heap_alloc_new w _,by simp,bs,h1,h2⟩
theorem a7E{o:Oper}{T t:Nat}{x:Operand}{ds:aR}(hop:o.op=.box T x)(hd:o.dst=some t)(hg:o.guard=none)(ht:t<Γ.nt)
 (hc:(st.ev x).cellsOf=some ds) (h:AO P Γ all rest Q ⟨(t,.ptr st.H.length 0)::st.σ,st.H++[.box ds]⟩):AO P Γ all (o::rest) Q st:=by
 intro κ Θ a w hs;obtain⟨bs,r,hz⟩:=hs.ev x;have hcs:=DV hs.qp r hc;have hs':=hs.a2g T hcs hz;refine wpList_plain hg fun K hK=>?_
 unfold Oper.wp;have hrun:(execOp a.eval o).run P w=.ok (.value (.pointer (some ⟨w.heap.size,0,none⟩))) (w.alloc (.cells (a.eval x).cells T)):=by
  simp[execOp,hop,Instr.box,newVar,newRow]
 rw[hrun,Oper.upon_value,hd];refine hK _ _ (h _ _ _ _ (hs'.set (t:=t) (d:=.ptr st.H.length 0) (bs:=[]) ht ?_ (by simp)));exact(Ba.ptr st.H.length 0 w.heap.size (by simp[Ad])).UI
theorem a0w{o:Oper}{T t:Nat}{zs:aR}(hop:o.op=.alloc T)(hd:o.dst=some t)(hg:o.guard=none)(ht:t<Γ.nt)
 (hz:tz P T=some zs) (h:AO P Γ all rest Q ⟨(t,.ptr st.H.length 0)::st.σ,st.H++[.box zs]⟩):AO P Γ all (o::rest) Q st:=by
 intro κ Θ a w hs;obtain⟨i,z,hi,Ab,hsz,hlen,hone,rfl⟩:=zl hz;have hs':=hs.a2g T (cs:=z.cells) (E3 z.cells.toList hone) (by simp);refine wpList_plain hg fun K hK=>?_
 unfold Oper.wp;have hrun:(execOp a.eval o).run P w=.ok (.value (.pointer (some ⟨w.heap.size,0,none⟩))) (w.alloc (.cells z.cells T)):=by
  simp[execOp,hop,Instr.alloc,zeroValue,typeInfo,hi,Ab,newVar,newRow]
 rw[hrun,Oper.upon_value,hd];refine hK _ _ (h _ _ _ _ (hs'.set (t:=t) (d:=.ptr st.H.length 0) (bs:=[]) ht ?_ (by simp)));exact(Ba.ptr st.H.length 0 w.heap.size (by simp[Ad])).UI
theorem jY.setRow(hs:eO Γ st κ Θ a w){g:Nat}{cs:Array Value}{tag:Nat}(h2:2<=tag)(hg:Θ g=tag):jY w (w.setRow g cs) Θ Θ tag:=by
 refine⟨h2,rfl,rfl,rfl,by simp,fun b _ hne=>setRow_other w g b cs (fun e=>hne (e▸hg)),fun b _ _=>rfl,fun b hb=>?_⟩;simpa using hs.own b hb
theorem IG{T g off:Nat}{v:Value}{cur:Array Value}{e:TypeId}(hg:w.heap[g]?=some (.cells cur e (0,0)))(hsz:v.cells.size=Be P T)(Ol:∃i,P.info? T=some i)
 (hfit:off+v.cells.size<=cur.size) (hone:∀c∈v.cells.toList,c.oneCell'=true):
 (Instr.storeAt T (.pointer (some ⟨g,off,none⟩)) v).run P w=.ok () (w.setRow g (cur.toList.take off++v.cells.toList++cur.toList.drop (off+v.cells.toList.length)).toArray):=by
 have:=run_storeCells_at P g off e v.cells.toList 0 cur w hg (by simpa using hfit) hone;simp only[BG]at this;simp[Instr.storeAt,Instr.sureAddr,storeVar,xu Ol,hsz,this]
def UF(P:Program)(t:TypeId):Bool:=(P.info? t).isSome
theorem Sp{o:Oper}{T id off:Nat}{x y:Operand}{cells ds:aR}(hop:o.op=.store T x y)
 (hx:st.ev x=.ptr id off) {ob:Ob} (hH:st.H[id]?=some ob) (CN:ob.ZX=some cells) (hc:(st.ev y).cellsOf=some ds) (hT:UF P T=true) (hl:ds.length=Be P T) (hfit:off+ds.length<=cells.length) (hs:eO Γ st κ Θ a w):
 ∃w',(execOp a.eval o).run P w=.ok .skip w'/\eO Γ ⟨st.σ,st.H.set id (ob.re (cells.take off++ds++cells.drop (off+ds.length)))⟩ κ Θ a w':=by
 obtain⟨b1,r1,_⟩:=hs.ev x;obtain⟨b2,r2,hz2⟩:=hs.ev y;rw[hx]at r1;obtain⟨g,hk,hv⟩:=r1.Cr;obtain⟨g',cs,Tb,hk',hgc,hΘ,bs,vq,hz⟩:=(hs.ob id _ hH).cs CN;rw[hk]at hk';cases hk';have hcs:=DV hs.qp r2 hc;have hl1:=hcs.length;have Ey:=vq.length;have hsz:(a.eval y).cells.size=Be P T:=by rw[<-hl,<-hl1];simp
 have hst:=IG (P:=P) (T:=T) (off:=off) hgc hsz (eT.1 hT) (by
  have:(a.eval y).cells.size=ds.length:=by rw[<-hl1];simp
  have h3:cs.size=cells.length:=by rw[<-Ey];simp
  omega) hcs.one
 have k:=jY.setRow hs (g:=g) (cs:=(cs.toList.take off++(a.eval y).cells.toList++cs.toList.drop (off+(a.eval y).cells.toList.length)).toArray) (tag:=id+2) (by omega) hΘ;have hrun:(execOp a.eval o).run P w=.ok .skip (w.setRow g (cs.toList.take off++(a.eval y).cells.toList++cs.toList.drop (off+(a.eval y).cells.toList.length)).toArray):=by
  simp only[execOp,hop,hv];simp[hst]
 refine⟨_,hrun,hs.change k hs.mine (yo.aAx CN (hs.ob id _ hH) (fun _ h=>h) ?_) (by cases ob<;>rfl)⟩;have e:cells=cells.take off++((cells.drop off).take ds.length++(cells.drop off).drop ds.length):=by rw[cD,cD]
 rw[e]at vq;obtain⟨v1,v2,c1,c2,Qu,rfl,k1,k2⟩:=vq.split;obtain⟨v3,v4,c3,c4,rfl,rfl,k3,k4⟩:=k2.split;have l1:v1.length=off:=by rw[k1.length];simp;omega
 have l3:v3.length=ds.length:=by rw[k3.length];simp;omega
 have e1:cs.toList.take off=v1:=by rw[Qu];exact jF l1
 have e4:cs.toList.drop (off+(a.eval y).cells.toList.length)=v4:=by
  rw[Qu,<-gz,fy l1,hl1];exact fy l3
 have hnew:fP w κ (v1++(a.eval y).cells.toList++v4) (cells.take off++ds++cells.drop (off+ds.length)) ((c1++b2)++c4):=by
  rw[gz]at k4;exact(k1.app hcs).app k4
 have Rk:∀b∈((c1++b2)++c4),Θ b=0:=by
  intro b hb;simp only[au]at hb;rcases hb with(hb|hb)|hb
  ·exact hz b (by simp[hb])
  ·exact hz2 b hb
  ·exact hz b (by simp[hb])
 obtain⟨h1,h2⟩:=fP.stay k (fun _ _ h=>h) hnew Rk;refine⟨g,_,Tb,hk,setRow_heap w g cs _ Tb _ hgc,hΘ,_,?_,h2⟩;rw[e1,e4]at h1⊢;exact h1
theorem a18{o:Oper}{T id off:Nat}{x y:Operand}{cells ds:aR}(hop:o.op=.store T x y)(hd:o.dst=none)(hg:o.guard=none)
 (hx:st.ev x=.ptr id off) {ob:Ob} (hH:st.H[id]?=some ob) (CN:ob.ZX=some cells) (hc:(st.ev y).cellsOf=some ds) (hT:UF P T=true) (hl:ds.length=Be P T) (hfit:off+ds.length<=cells.length)
 (h:AO P Γ all rest Q ⟨st.σ,st.H.set id (ob.re (cells.take off++ds++cells.drop (off+ds.length)))⟩):AO P Γ all (o::rest) Q st:=by
 intro κ Θ a w hs;obtain⟨w',hrun,hs'⟩:=Sp hop hx hH CN hc hT hl hfit hs;refine wpList_plain hg fun K hK=>?_
 unfold Oper.wp;rw[hrun,Oper.upon_skip,hd];exact hK _ _ (h _ _ _ _ hs')
end
def D.UW:D->Bool
 | .acc _=>false
 | .ptr _ _=>false
 | .op _ _ _ _=>false
 |_=>true
def tby(P:Program)(t:TypeId):Nat:=P.bytesOf t
theorem Se{α:Type}{l:List α}{i:Nat}{x:α}(h:l[i]?=some x):∃p q,l=p++x::q/\p.length=i:=by
 have hlt:=(aH.1 h).1;have hx:=(aH.1 h).2;refine⟨l.take i,l.drop (i+1),?_,by simp;omega⟩;rw[<-hx,EE,cD]
theorem Hy{rows:List aR}{sz i off:Nat}{row ds:aR}(hrl:∀r∈rows,r.length=sz)(hr:rows[i]?=some row)(hfit:off+ds.length<=sz):
 (rows.set i (row.take off++ds++row.drop (off+ds.length))).flatten=rows.flatten.take (i*sz+off)++ds++rows.flatten.drop (i*sz+off+ds.length):=by
 obtain⟨p,q,rfl,rfl⟩:=Se hr;have hrow:row.length=sz:=hrl row (by simp);have hp:p.flatten.length=p.length*sz:=pW (fun r hr=>hrl r (by simp[hr]));rw[mr _ _ (bR _),pM,List.set_cons_zero];simp only[mI,eV];rw[<-hp,List.take_length_add_append,rp,List.drop_length_add_append,List.take_append_of_le_length (by omega),List.drop_append_of_le_length (by omega)];simp only[bY]
theorem R8(z:Array Value)(n:Nat):(madeCells z (n*z.size)).toList=(List.replicate n z.toList).flatten:=by
 induction n with
 |zero=>simp[madeCells]
 |succ n ih=>
  rw[List.replicate_succ',mI,<-ih];apply oF;intro j;by_cases hz:z.size=0
  ·have:z= #[]:=Array.size_eq_zero_iff.1 hz;subst this;simp[madeCells]
  ·by_cases h1:j<n*z.size
   ·rw[b9 (by simpa[madeCells]using h1)];have h2:j<(n+1)*z.size:=by rw[kn];omega
    simp[madeCells,h1,h2]
   ·rw[bE (by simpa[madeCells]using h1)];by_cases h2:j<(n+1)*z.size
    ·rw[kn,o6]at h2;have hm:j%z.size=j-n*z.size:=by
      have hmc:=EG z.size n;have e:j=(j-n*z.size)+z.size*n:=by omega
      conv=>lhs;rw[e]
      rw[Nat.add_mul_mod_self_left,Nat.mod_eq_of_lt (by omega)]
     have h3:j-n*z.size<z.size:=by omega
     have h2':j<(n+1)*z.size:=by rw[kn,o6];exact h2
     simp[madeCells,h2',hm,h3]
    ·rw[ck (by simp[madeCells];omega),ck];rw[kn,o6]at h2;simp[madeCells];omega
section
variable{P:Program}{Γ:w5}{Q:Exit->St->Prop}{st:St}{κ:Nat->Option Value}{Θ:Nat->Nat}{a:Act}{w:World}{all:Array Oper}{rest:List Oper}
theorem fP.pure{vs:br}{ds:aR}{bs:af}(h:fP w κ vs ds bs)(hp:ds.all D.UW=true):mZ w vs ds bs:=by
 induction ds generalizing vs bs with
 |nil=>cases h;exact .nil
 |cons d ds ih=>
  simp only[dM,aY]at hp;cases h with
  |cons v vs _ _ b1 b2 h1 h2 h3=>
   refine .cons _ _ _ _ _ _ h1 ?_ (ih h3 hp.2);cases h2 with
   |pure h=>exact h
   |acc=>simp[D.UW]at hp
   |ptr=>simp[D.UW]at hp
   |op=>simp[D.UW]at hp
theorem mZ.rep{vs:br}{ds:aR}(h:mZ w vs ds [])(m:Nat):mZ w (List.replicate m vs).flatten (List.replicate m ds).flatten []:=by
 induction m with
 |zero=>exact .nil
 |succ m ih=>
  simp only[Ay,eV];have:=h.app ih;simpa using this
def D.KX(d:D):D:=match d with
 | .nil=>.sl []
 |d=>d
theorem Rd.soft{v:Value}{d:D}{bs:af}(h:Rd w v d bs):Rd w v d.KX bs:=by
 cases h with
 |nil=>exact .BE
 |any=>exact .any _
 |int _ _ h=>exact .int _ _ h
 |bool=>exact .bool _
 |str _ h=>exact .str _ h
 |val=>exact .val _
 |BE=>exact .BE
 |pQ a cap h=>exact .pQ a cap h
 |sl b off cap sz rows cs bs h0 h1 h2 h3 h4 h5=>exact .sl b off cap sz rows cs bs h0 h1 h2 h3 h4 h5
 |agg cs ds bs h=>exact .agg cs ds bs h
 |ep b off cs row o bs h0 h4 h5=>exact .ep b off cs row o bs h0 h4 h5
 |Zq=>exact .Zq
 |Zr t u=>exact .Zr t u
theorem mZ.soft{vs:br}{ds:aR}{bs:af}(h:mZ w vs ds bs):mZ w vs (ds.map D.KX) bs:=by
 induction ds generalizing vs bs with
 |nil=>cases h;exact .nil
 |cons d ds ih=>cases h with|cons v vs _ _ b1 b2 h1 h2 h3=>exact .cons _ _ _ _ _ _ h1 h2.soft (ih h3)
def D.flat:D->Bool
 | .any=>true
 | .nil=>true
 | .int _ _=>true
 | .bool _=>true
 | .str _=>true
 | .val _=>true
 |_=>false
def ZL(H:bX)(d:D):Option (D×af):=match d with
 | .acc m=>(match(H[m]?).bind Ob.P4 with|some (_,rows)=>some (.sl rows,[m])|none=>none)
 | .ptr _ _=>none
 | .op _ _ _ _=>none
 |d=>some (d.KX,[])
def OH(H:bX):aR->Option (aR×af)
 | []=>some ([],[])
 |d::ds=>match ZL H d,OH H ds with|some (e,m),some (es,ms)=>some (e::es,m++ms)|_,_=>none
def Z7(H:bX)(d:D):Bool:=match d with
 | .acc m=>(match(H[m]?).bind Ob.P4 with|some (k,_)=>(match k with| .uq=>true|_=>false)|none=>false)
 |d=>d.flat
def BV(b:Bool):RK:=match b with|true=>.uq|false=>.sh
theorem Ob.Vb(u:Bool)(e:TypeId)(sz:Nat)(rows:List aR):(Ob.row (BV u) e sz rows).mvB=false:=by cases u<;>rfl
theorem Rd.flat{v:Value}{d:D}{bs:af}(h:Rd w v d bs)(hf:d.flat=true):bs=[]:=by
 cases h<;>first|rfl|simp[D.flat]at hf
theorem Uh{H:bX}{d e:D}{m:af}(h:ZL H d=some (e,m)):
 (∃m0 o k rows,d=.acc m0/\H[m0]?=some o/\o.P4=some (k,rows)/\e=.sl rows/\m=[m0])\/(d.UW=true/\(∀i,d≠ .acc i)/\e=d.KX/\m=[]):=by
 cases d with
 |acc m0=>
  simp only[ZL]at h;split at h
  ·rename_i k rows hH;simp only[az,cV]at h;obtain⟨rfl,rfl⟩:=h;obtain⟨o,hH,ho⟩:=oG.1 hH;exact .inl ⟨m0,o,k,rows,rfl,hH,ho,rfl,rfl⟩
  ·cases h
 |ptr i o=>simp[ZL]at h
 |op i j s o=>simp[ZL]at h
 |_=>simp only[ZL,az,cV]at h;obtain⟨rfl,rfl⟩:=h;exact .inr ⟨rfl,by simp,rfl,rfl⟩
theorem Ui{H:bX}:∀ {ds es:aR} {ms:af},OH H ds=some (es,ms)->∀m∈ms,∃o k rows,H[m]?=some o/\o.P4=some (k,rows):=by
 intro ds
 induction ds with
 |nil=>intro es ms h;simp only[OH,az,cV]at h;obtain⟨rfl,rfl⟩:=h;simp
 |cons d ds ih=>
  intro es ms h;simp only[OH]at h;split at h
  ·rename_i e m es' ms' h1 h2;simp only[az,cV]at h;obtain⟨rfl,rfl⟩:=h;intro x hx;rcases au.1 hx with hx|hx
   ·rcases Uh h1 with⟨m0,o,k,dQ,rfl,hH,hk,rfl,rfl⟩|⟨_,_,_,rfl⟩
    ·simp at hx;subst hx;exact⟨o,k,_,hH,hk⟩
    ·simp at hx
   ·exact ih h2 x hx
  ·cases h
theorem WZ{H:bX}{ρ:Nat->Nat}:∀ {ds es:aR} {ms:af} {vs:br} {b0:af},OH H ds=some (es,ms)->ms.Nodup->fP w κ vs ds b0->(∀b∈b0,Θ b=0)->
 (∀m∈ms,∀o k rows,H[m]?=some o->o.P4=some (k,rows)->Bk κ Θ ρ w m k rows)->
 ∃bs,mZ w vs es bs/\(∀b∈bs,Θ b=0)/\(ds.all (Z7 H)=true->bs.Nodup/\∀b∈bs,∃m∈ms,ρ b=m+1):=by
 intro ds
 induction ds with
 |nil=>
  intro es ms vs b0 h _ hr _ _;simp only[OH,az,cV]at h;obtain⟨rfl,rfl⟩:=h;cases hr;exact⟨[],.nil,by simp,by simp⟩
 |cons d ds ih=>
  intro es ms vs b0 h hnd hr hz hm;simp only[OH]at h;split at h
  ·rename_i e m es' ms' h1 h2;simp only[az,cV]at h;obtain⟨rfl,rfl⟩:=h;obtain⟨n1,n2,n3⟩:=bO.1 hnd;cases hr with
   |cons v vs _ _ b1 b2 hv hc hcs=>
    obtain⟨bs2,q1,q2,q3⟩:=ih h2 n2 hcs (fun b hb=>hz b (by simp[hb])) (fun x hx=>hm x (by simp[hx]));have one:∃bs1,Rd w v e bs1/\(∀b∈bs1,Θ b=0)/\(Z7 H d=true->bs1.Nodup/\∀b∈bs1,∃x∈m,ρ b=x+1):=by
     rcases Uh h1 with⟨m0,o,k,dQ,rfl,hH,hk,rfl,rfl⟩|⟨hp,hna,rfl,rfl⟩
     ·obtain⟨v',bs,r1,r2,r3,r4⟩:=hm m0 (by simp) o k dQ hH hk;cases hc with
      |pure hc=>cases hc
      |acc _ _ hkv=>
       rw[hkv]at r1;cases r1;refine⟨bs,r2,r3,fun hq=>?_⟩;simp only[Z7,hH,aA,hk]at hq;split at hq
       ·obtain⟨r5,r6⟩:=r4 rfl;exact⟨r5,fun b hb=>⟨m0,by simp,r6 b hb⟩⟩
       ·cases hq
     ·have hrd:Rd w v d b1:=by
       cases hc with
       |pure hc=>exact hc
       |acc i _ _=>exact absurd rfl (hna i)
       |ptr i o _ _=>simp[D.UW]at hp
       |op i j s o _ _ _ _ _=>simp[D.UW]at hp
      refine⟨b1,hrd.soft,fun b hb=>hz b (by simp[hb]),fun hq=>?_⟩;have hf:d.flat=true:=by
       unfold Z7 at hq;split at hq
       ·exact absurd rfl (hna _)
       ·exact hq
      rw[hrd.flat hf];exact⟨by simp,by simp⟩
    obtain⟨bs1,p1,p2,p3⟩:=one;refine⟨bs1++bs2,.cons _ _ _ _ _ _ hv p1 q1,fun b hb=>?_,fun hq=>?_⟩
    ·rcases au.1 hb with hb|hb
     ·exact p2 b hb
     ·exact q2 b hb
    ·simp only[dM,aY]at hq;obtain⟨p4,p5⟩:=p3 hq.1;obtain⟨q4,q5⟩:=q3 hq.2;refine⟨bO.2 ⟨p4,q4,fun x hx y hy exy=>?_⟩,fun b hb=>?_⟩
     ·subst exy;obtain⟨m1,hm1,e1⟩:=p5 x hx;obtain⟨m2,hm2,e2⟩:=q5 x hy;exact n3 m1 hm1 m2 hm2 (by omega)
     ·rcases au.1 hb with hb|hb
      ·obtain⟨x,hx,ex⟩:=p5 b hb;exact⟨x,by simp[hx],ex⟩
      ·obtain⟨x,hx,ex⟩:=q5 b hb;exact⟨x,by simp[hx],ex⟩
  ·cases h
theorem eO.put(hs:eO Γ st κ Θ a w){H':bX}{κ':Nat->Option Value}{Θ' ρ:Nat->Nat}{w':World}{id:Nat}{o:Ob}(ms:af)
 (key:∀(j:Nat) x,H'[j]?=some x->(j=id/\x=o)\/(j≠id/\st.H[j]?=some x)) (hn:∀(j:Nat) v,κ j=some v->κ' j=some v)
 (hko:∀i,H'.length<=i->κ' i=none) (hk1:∀(i:Nat) u,κ' i=some u->u.oneCell'=true) (k:jY w w' Θ Θ' (id+2)) (hm:∀b,2<=Θ' b->Cz Γ b) (ho:yo w' κ' Θ' id o)
 (hu:CR Γ st.H κ Θ w ρ) (TT:∀m∈ms,∀x,m≠id->st.H[m]?=some x->x.uqB=false)
 (hq:∀e sz rows,o=.row .uq e sz rows->∃v cs bs,κ' id=some v/\w'.ownsRow 0 e sz v rows.length cs/\mZ w' cs rows.flatten bs/\bs.Nodup/\∀b∈bs,ρ b=id+1\/∃m∈ms,ρ b=m+1)
 (hmv:o.mvB=false:=by first|rfl|exact Ob.Vb _ _ _ _):
 eO Γ ⟨st.σ,H'⟩ κ' Θ' a w':=by
 have xI:=hs.qf k hn hu;let ρ':Nat->Nat:=fun b=>if ms.any (fun m=>ρ b==m+1)then id+1 else ρ b
 have aDQ:∀b,ρ' b≠0->ρ b≠0:=by
  intro b hb h0;simp only[ρ',h0]at hb;split at hb
  ·rename_i h;obtain⟨m,_,hm⟩:=dR.1 h;simp at hm
  ·exact hb rfl
 refine hs.step k hm hn hko hk1 ?_ ⟨ρ',fun b hb=>xI.1 b (aDQ b hb),?_,?_⟩
 ·intro j x hj;rcases key j x hj with⟨rfl,rfl⟩|⟨h1,h2⟩
  ·exact .inr (.inr ho)
  ·exact .inr (.inl ⟨by omega,h2⟩)
 ·intro j e sz rows hj;rcases key j _ hj with⟨rfl,ho'⟩|⟨h1,h2⟩
  ·obtain⟨v,cs,bs,q1,q2,q3,q4,q5⟩:=hq e sz rows ho'.symm;refine⟨v,cs,bs,q1,q2,q3,q4,fun b hb=>?_⟩;simp only[ρ'];split
   ·rfl
   ·rename_i hno;rcases q5 b hb with h|⟨m,hm1,hm2⟩
    ·exact h
    ·exact absurd (dR.2 ⟨m,hm1,by simp[hm2]⟩) hno
  ·obtain⟨v,cs,bs,q1,q2,q3,q4,q5⟩:=xI.2.1 j e sz rows (by omega) h2;refine⟨v,cs,bs,q1,q2,q3,q4,fun b hb=>?_⟩;simp only[ρ'];rw[bH]
   ·exact q5 b hb
   ·intro h;obtain⟨m,hm1,hm2⟩:=dR.1 h;simp only[q5 b hb,cj]at hm2;have:j=m:=by omega
    subst this;have:=TT j hm1 _ h1 h2;simp[Ob.uqB]at this
 ·intro j x hj;rcases key j _ hj with⟨rfl,rfl⟩|⟨h1,h2⟩
  ·exact PY.Aq hmv
  ·by_cases hx:x.uqB=false
   ·exact PY.plain hx
   ·refine(xI.2.2 j x (by omega) h2).re fun b hb=>?_
    simp only[ρ'];rw[bH]
    ·exact hb
    ·intro h;obtain⟨m,hm1,hm2⟩:=dR.1 h;simp only[hb,cj]at hm2;have:j=m:=by omega
     subst this;exact hx (TT j hm1 _ h1 h2)
theorem E5{H:bX}{o:Ob}:∀(j:Nat) x,(H++[o])[j]?=some x->(j=H.length/\x=o)\/(j≠H.length/\H[j]?=some x):=by
 intro j x hj;by_cases hlt:j<H.length
 ·rw[b9 hlt]at hj;exact .inr ⟨by omega,hj⟩
 ·have hj':=(aH.1 hj).1;simp only[aX,aK,bK]at hj';have e:j=H.length:=by omega
  subst e;rw[bE (bR _)]at hj;simp at hj;exact .inl ⟨rfl,hj.symm⟩
theorem BW{H:bX}{o:Ob}{id:Nat}:∀(j:Nat) x,(H.set id o)[j]?=some x->(j=id/\x=o)\/(j≠id/\H[j]?=some x):=by
 intro j x hj;by_cases e:id=j
 ·subst e;have hlt:id<H.length:=by
   have:=(aH.1 hj).1;simpa using this
  rw[dX hlt]at hj;cases hj;exact .inl ⟨rfl,rfl⟩
 ·rw[cG e]at hj;exact .inr ⟨fun h=>e h.symm,hj⟩
theorem eO.newRow(hs:eO Γ st κ Θ a w){ρ:Nat->Nat}(hu:CR Γ st.H κ Θ w ρ){u:Bool}{ms:af}{e sz cap:Nat}{rows:List aR}{bs:af}(cur:Array Value)(hsz:0<sz)(hrl:∀r∈rows,r.length=sz)
 (Qp:cur.size=cap*sz) (hn:rows.length<=cap) (hcap:cap<=maxLen) (hr:mZ w (cur.toList.take (rows.length*sz)) rows.flatten bs) (hz:∀b∈bs,Θ b=0)
 (TT:∀m∈ms,∀x,st.H[m]?=some x->x.uqB=false) (hq:u=true->bs.Nodup/\∀b∈bs,∃m∈ms,ρ b=m+1):
 eO Γ ⟨st.σ,st.H++[.row (BV u) e sz rows]⟩ (Ad κ st.H.length (some (.slice (some ⟨w.heap.size,0,none⟩) rows.length cap))) (fun b=>if b=w.heap.size then st.H.length+2 else Θ b) a (w.alloc (.cells cur e)):=by
 have k:=jY.alloc hs (.cells cur e) (tag:=st.H.length+2) (by omega);obtain⟨h1,h2⟩:=mZ.over k hr hz;have hlen:(cur.toList.take (rows.length*sz)).length=rows.length*sz:=by
  have:rows.length*sz<=cap*sz:=dZ _ hn;have h3:cur.toList.length=cap*sz:=by rw[<-Qp];simp
  rw[cM,h3,fE this]
 have hown:(w.alloc (.cells cur e)).ownsRow 0 e sz (.slice (some ⟨w.heap.size,0,none⟩) rows.length cap) rows.length (cur.toList.take (rows.length*sz)):=
  ⟨hlen,.inr ⟨w.heap.size,cap,cur,rfl,by omega,heap_alloc_new w _,hn,hcap,Qp,rfl⟩⟩
 refine hs.put ms E5 (zx (hs.rX _ (bR _)) _) ?_ ?_ k (hs.Bc (fun b hb=>by by_cases e:b=w.heap.size<;>simp_all)) ?_ hu (fun m hm x _=>TT m hm x) ?_
 ·intro i hi;simp only[aX,aK,bK]at hi;unfold Ad;rw[bH (by omega)];exact hs.rX i (by omega)
 ·intro i x hx;unfold Ad at hx;split at hx
  ·cases hx;rfl
  ·exact hs.qp i x hx
 ·refine⟨hsz,hrl,_,_,bs,by simp[Ad],hown,h1,?_,?_⟩
  ·intro g hg;simp only[Value.ownBlock,az]at hg;subst hg;simp
  ·cases u<;>exact h2
 ·intro e' sz' dQ he;cases u with
  |false=>simp[BV]at he
  |true=>
   simp only[BV,Ob.row.injEq,wF]at he;obtain⟨rfl,rfl,rfl⟩:=he;obtain⟨q1,q2⟩:=hq rfl;exact⟨_,_,bs,by simp[Ad],hown,h1,q1,fun b hb=>.inr (q2 b hb)⟩
theorem T5{o:Oper}{T e sz t:Nat}{x y:Operand}{k k':IntKind}{n:Int}{zs:aR}(hop:o.op=.makeSlice T x y)(hd:o.dst=some t)(hg:o.guard=none)(ht:t<Γ.nt)
 (hT:Ia P T=some (e,sz)) (hz:tz P e=some zs) (hsz:0<sz) (hx:st.ev x=.int k n) (hy:st.ev y=.int k' n) (h0:0<=n) (hroom:tby P e*n.toNat<=281474976710656) (DB:n.toNat<=4611686018427387904)
 (h:AO P Γ all rest Q ⟨(t,.acc st.H.length)::st.σ,st.H++[.row .uq e sz (List.replicate n.toNat (zs.map D.KX))]⟩):AO P Γ all (o::rest) Q st:=by
 intro κ Θ a w hs;obtain⟨b1,r1,_⟩:=hs.ev x;obtain⟨b2,r2,_⟩:=hs.ev y;rw[hx]at r1;rw[hy]at r2;have e1:=r1.sU;have e2:=r2.sU;obtain⟨hu,_,Nh⟩:=qJ hT;obtain⟨i,z,hi,Ab,TW,hlen,hone,rfl⟩:=zl hz;have Ex:i.size=sz:=by rw[<-Nh];simp[Be,Program.cellsOf,hi]
 have hby:i.bytes=tby P e:=by simp[tby,Program.bytesOf,hi]
 obtain⟨m,rfl⟩:=oC h0;simp only[oD]at hroom DB h;have hrun:=run_make (P:=P) w T e i z hu hi Ab k k' m m (by omega) (by omega) (by rw[hby];have:=Int.ofNat_le.2 hroom;rw[Int.natCast_mul]at this;exact this) (by omega);simp only[oD]at hrun;rw[<-TW]at hrun;have a1m:=R8 z.cells m;obtain⟨ρ,huq⟩:=hs.wq;have hs':=hs.newRow huq (u:=true) (ms:=[]) (e:=e) (sz:=sz) (cap:=m) (rows:=List.replicate m ((z.cells.toList.map D.XQ).map D.KX)) (bs:=[]) (madeCells z.cells (m*z.cells.size)) hsz
  (by intro r hr;rw[Cw hr];simp[TW,Ex]) (by rw[size_madeCells,TW,Ex]) (by simp) (by unfold maxLen;omega)
  (by
   rw[FN,pL (by simp[size_madeCells,TW,Ex]),a1m];have hcell:=(E3 (w:=w) (κ:=κ) z.cells.toList hone).pure (by
    rw[EC,bB];intro c _;simp only[Function.comp];unfold D.XQ;split<;>(try split)<;>rfl)
   exact hcell.soft.rep m) (by simp) (by simp) (by simp)
 refine wpList_plain hg fun K hK=>?_
 unfold Oper.wp;have VG:(execOp a.eval o).run P w=.ok (.value (.slice (some ⟨w.heap.size,0,none⟩) m m)) (w.alloc (.cells (madeCells z.cells (m*z.cells.size)) e)):=by
  simp only[execOp,hop,e1,e2];simp[hrun]
 rw[VG,Oper.upon_value,hd];simp only[FN]at hs';refine hK _ _ (h _ _ _ _ (hs'.set (t:=t) (d:=.acc st.H.length) (bs:=[]) ht ?_ (by simp)));exact(Ba.acc st.H.length _ (by simp[Ad])).UI
def vW(len sz:Nat):List (Nat×Nat):=(List.range len).map fun i=>(i*sz,sz)
def chunk(sz:Nat):Nat->aR->List aR
 |0,_=>[]
 |n+1,ds=>ds.take sz::chunk sz n (ds.drop sz)
theorem GS(sz:Nat):∀(n:Nat) (ds:aR),ds.length=n*sz->(chunk sz n ds).length=n/\(chunk sz n ds).flatten=ds/\∀r∈chunk sz n ds,r.length=sz:=by
 intro n
 induction n with
 |zero=>intro ds h;simp at h;subst h;simp[chunk]
 |succ n ih=>
  intro ds h;rw[kn,o6]at h;obtain⟨h1,h2,h3⟩:=ih (ds.drop sz) (by rw[wz];omega);refine⟨by simp[chunk,h1],by simp[chunk,h2],fun r hr=>?_⟩;rcases bM.1 hr with rfl|hr
  ·rw[cM];omega
  ·exact h3 r hr
theorem Ww{len sz:Nat}:∀(parts:List (Nat×Value)) (cs arr:Array Value),Instr.fill ((vW len sz).toArray[·]?) cs parts=some arr->Instr.fill (fun i=>some (i*sz,sz)) cs parts=some arr:=by
 intro parts
 induction parts with
 |nil=>intro cs arr h;exact h
 |cons p parts ih=>
  intro cs arr h;obtain⟨i,v⟩:=p;simp only[Instr.fill]at h⊢;split at h
  ·cases h
  ·rename_i off size hp;have e:(off,size)=(i*sz,sz):=by
    simp only[vW,mq,cA]at hp;cases hr:(List.range len)[i]? with
    |none=>simp[hr]at hp
    |some j=>
     have hj:=(aH.1 hr)
     simp only[hr,cc,az]at hp;have:j=i:=by have:=hj.2;simp at this;omega
     rw[<-hp,this]
   cases e;split at h
   ·cases h
   ·rename_i hc;rw[bH hc];exact ih _ _ h
theorem Tu{places:List (Nat×Nat)}:∀(ps:List (Nat×D)) (cells ds:aR),AT places cells ps=some ds->ds.length=cells.length:=by
 intro ps
 induction ps with
 |nil=>intro cells ds h;simp only[AT,az]at h;rw[h]
 |cons p ps ih=>
  intro cells ds h;obtain⟨i,d⟩:=p;simp only[AT]at h;split at h
  ·split at h
   ·rename_i hc;rw[ih _ _ h];simp;omega
   ·cases h
  ·cases h
theorem Bp{o:Oper}{T e sz len:Nat}{parts:Array (Nat×Operand)}{zs ds:aR}(hop:o.op=.buildSlice T len parts)
 (hT:Ia P T=some (e,sz)) (hz:tz P e=some zs) (hsz:0<sz) (hsmall:len*sz<=16777216)
 (hf:AT (vW len sz) (List.replicate len zs).flatten (parts.toList.map fun p=>(p.1,st.ev p.2))=some ds) (hs:eO Γ st κ Θ a w):
 ∃(arr:Array Value) (b0:af),(execOp a.eval o).run P w=.ok (.value (.slice (some ⟨w.heap.size,0,none⟩) len len)) (w.alloc (.cells arr e))/\fP w κ arr.toList ds b0/\(∀b∈b0,Θ b=0)/\arr.size=len*sz/\ds.length=len*sz:=by
 obtain⟨hu,_,Nh⟩:=qJ hT;obtain⟨i,z,hi,Ab,TW,hlen,hone,rfl⟩:=zl hz;have Ex:i.size=sz:=by rw[<-Nh];simp[Be,Program.cellsOf,hi]
 have a1m:=R8 z.cells len;have hzero:fP w κ (madeCells z.cells (len*z.cells.size)).toList (List.replicate len (z.cells.toList.map D.XQ)).flatten []:=by
  rw[a1m];have hcell:=(E3 (w:=w) (κ:=κ) z.cells.toList hone).pure (by
   rw[EC,bB];intro c _;simp only[Function.comp];unfold D.XQ;split<;>(try split)<;>rfl)
  exact fP.FH (hcell.rep len)
 obtain⟨arr,b0,a9p,Rv,hb0⟩:=YQ hs parts.toList _ _ ds [] hzero (by simp) hf;have X3:=Ww _ _ _ a9p;have hdl:ds.length=len*sz:=by
  rw[Tu _ _ _ hf,pW (sz:=sz) (by intro r hr;rw[Cw hr];simp[TW,Ex])];simp
 have hal:arr.size=len*sz:=by have:=Rv.length;simp at this;omega
 refine⟨arr,b0,?_,Rv,hb0,hal,hdl⟩;simp only[execOp,hop];by_cases h0:len*i.size=0
 ·have hl0:len=0:=by
   rw[Ex]at h0;rcases Nat.mul_eq_zero.1 h0 with h|h
   ·exact h
   ·omega
  subst hl0;have hma:madeCells z.cells (0*z.cells.size)= #[]:=by simp[madeCells]
  rw[hma]at X3;have hpe:(parts.map fun(x:Nat×Operand)=>(x.1,a.eval x.2)).toList=parts.toList.map fun p=>(p.1,a.eval p.2):=by simp
  have hf2:=X3;rw[<-hpe,<-Ex]at hf2;simp at hf2;have hr0:Array.range 0= #[]:=rfl;simp[Instr.buildSlice,run_underlying hu,sizeOf,typeInfo,hi,newRow,hr0,hf2]
 ·have hpe:(parts.map fun(x:Nat×Operand)=>(x.1,a.eval x.2)).toList=parts.toList.map fun p=>(p.1,a.eval p.2):=by simp
  have:=run_buildSlice (P:=P) w T e len (parts.map fun(x:Nat×Operand)=>(x.1,a.eval x.2)) arr i z hu hi Ab (by rw[Ex];omega) h0 (by
   rw[hpe,Ex];have e2:(Array.range (len*sz)).map (z.cells[· %z.cells.size]!)=madeCells z.cells (len*z.cells.size):=by unfold madeCells;rw[TW,Ex]
   rw[e2];exact X3)
  simp[this]
theorem Rm{o:Oper}{T e sz len t:Nat}{parts:Array (Nat×Operand)}{zs ds es:aR}{ms:af}(hop:o.op=.buildSlice T len parts)(hd:o.dst=some t)(hg:o.guard=none)(ht:t<Γ.nt)
 (hT:Ia P T=some (e,sz)) (hz:tz P e=some zs) (hsz:0<sz) (hsmall:len*sz<=16777216)
 (hf:AT (vW len sz) (List.replicate len zs).flatten (parts.toList.map fun p=>(p.1,st.ev p.2))=some ds) (habs:OH st.H ds=some (es,ms)) (hnd:ms.Nodup)
 (h:AO P Γ all rest Q ⟨(t,.acc st.H.length)::st.σ,kill st.H ms++[.row (BV (ds.all (Z7 st.H))) e sz (chunk sz len es)]⟩):AO P Γ all (o::rest) Q st:=by
 intro κ Θ a w hs;obtain⟨arr,b0,hrun,Rv,hb0,hal,hdl⟩:=Bp hop hT hz hsz hsmall hf hs;obtain⟨ρ,huq⟩:=hs.wq;obtain⟨Θ1,ρ1,hs1,hu1,hm1,VK,Zo⟩:=eO.VY ms hs huq hnd (Ui habs);obtain⟨bs,q1,q2,q3⟩:=WZ (H:=st.H) (ρ:=ρ1) habs hnd Rv (fun b hb=>VK b (hb0 b hb)) hm1;have hel:es.length=len*sz:=by rw[<-q1.length,Rv.length,hdl]
 obtain⟨c1,c2,c3⟩:=GS sz len es hel;have hs':=hs1.newRow hu1 (u:=ds.all (Z7 st.H)) (ms:=ms) (e:=e) (sz:=sz) (cap:=len) (rows:=chunk sz len es) (bs:=bs) arr hsz c3 hal (by rw[c1];exact bR _)
  (by unfold maxLen;have:len*1<=len*sz:=eP _ hsz;omega) (by rw[c1,c2,pL (by simp[hal])];exact q1) q2
  (by
   intro m hm x hH;rcases vA hH with h|⟨h,_⟩
   ·subst h;rfl
   ·exact absurd hm h) q3
 refine wpList_plain hg fun K hK=>?_
 unfold Oper.wp;rw[hrun,Oper.upon_value,hd];rw[c1,iK]at hs';refine hK _ _ (h _ _ _ _ (hs'.set (t:=t) (d:=.acc st.H.length) (bs:=[]) ht ?_ (by simp)));exact(Ba.acc st.H.length _ (by simp[Ad])).UI
end
section
variable{P:Program}{Γ:w5}{Q:Exit->St->Prop}{st:St}{κ:Nat->Option Value}{Θ:Nat->Nat}{a:Act}{w:World}{all:Array Oper}{rest:List Oper}
theorem Pv(w:World)(t ty e:TypeId)(i:TypeInfo)(ht:P.underlying t=some (.slice e))(hi:P.info? e=some i)(b:Option Addr)(n cap:Nat)(hn:n<=cap):
 (Builtin.append_ #[t,t] ty #[.slice b n cap,.slice none 0 0]).run P w=.ok (.slice b n cap) w:=by
 cases b<;>simp[Builtin.append_,run_underlying ht,sizeOf,typeInfo,hi,Builtin.lenOf,Builtin.firstCells,hn,storeCells]
structure a1A(w:World)(Θ ρ:Nat->Nat)(e sz:Nat)(v:Value)(rows:List (List D))(u1:Bool)(i1:Nat)(bs:List Nat)(cs:List Value):Prop where
 rl:∀r∈rows,r.length=sz
 own:w.ownsRow 0 e sz v rows.length cs
 rd:mZ w cs rows.flatten bs
 zero:∀b∈bs,Θ b=0
 top:∀g,v.ownBlock=some g->Θ g=i1+2
 uq:u1=true->bs.Nodup/\∀b∈bs,ρ b=i1+1
structure ZI(w:World)(Θ ρ:Nat->Nat)(sz:Nat)(u:Value)(rows:List (List D))(u2:Bool)(i2:Nat)(bs:List Nat)(cs:List Value):Prop where
 rl:∀r∈rows,r.length=sz
 at_:(u=.slice none 0 0/\rows=[])\/∃ad c,u=.slice (some ad) rows.length c/\∀j x,cs[j]?=some x->w.cell? (ad.add j)=some x
 rd:mZ w cs rows.flatten bs
 zero:∀b∈bs,Θ b=0
 uq:u2=true->bs.Nodup/\∀b∈bs,ρ b=i2+1
theorem Wd{T e sz i1 i2:Nat}{v u:Value}{rows fo:List aR}{u1 u2:Bool}{b1 b2:af}{c1 c2:br}{ρ:Nat->Nat}{zs:aR}{ty:TypeId}(hT:Ia P T=some (e,sz))(hz:tz P e=some zs)(hsz:0<sz)
 (hS:a1A w Θ ρ e sz v rows u1 i1 b1 c1) (hX:ZI w Θ ρ sz u fo u2 i2 b2 c2) (h63:rows.length+fo.length<=maxLen) (hby:(rows.length+fo.length)*tby P e<=140737488355328):
 ∃v' w',(Builtin.append_ #[T,T] ty #[v,u]).run P w=.ok v' w'/\w'.ownsRow 0 e sz v' (rows++fo).length (c1++c2)/\w.grownBy w' v.ownBlock/\(v'.ownBlock=v.ownBlock\/v'.ownBlock=some w.heap.size)/\
  mZ w (c1++c2) (rows++fo).flatten (b1++b2):=by
 obtain⟨hu,_,Nh⟩:=qJ hT;obtain⟨i,z,hi,Ab,TW,hlen,hone,rfl⟩:=zl hz;have Ex:i.size=sz:=by rw[<-Nh];simp[Be,Program.cellsOf,hi]
 have hib:i.bytes=tby P e:=by simp[tby,Program.bytesOf,hi]
 have hr:mZ w (c1++c2) (rows++fo).flatten (b1++b2):=by rw[mI];exact hS.rd.app hX.rd
 have hc2:c2.length=fo.length*sz:=by rw[hX.rd.length,pW hX.rl]
 rcases hX.at_ with⟨rfl,rfl⟩|⟨ad,c,rfl,hcell⟩
 ·have hc:c2=[]:=cg (by simpa using hc2);subst hc;have hv:∃b n cap,v=.slice b n cap/\n<=cap:=by
   rcases hS.own.2 with⟨rfl,_⟩|⟨g,cap,cur,rfl,_,_,hn,_⟩
   ·exact⟨_,_,_,rfl,bR _⟩
   ·exact⟨_,_,_,rfl,hn⟩
  obtain⟨b,n,cap,rfl,hn⟩:=hv;exact⟨_,w,Pv w T ty e i hu hi b n cap hn,by simpa using hS.own,⟨rfl,rfl,rfl,bR _,fun _ _ _=>rfl⟩,.inl rfl,hr⟩
 ·obtain⟨v',w',q1,q2,q3,_,q5⟩:=run_append_own_at (P:=P) w 0 T ty e i z sz (tby P e) hu hi Ab Ex hib (by rw[TW,Ex]) hsz v rows.length c1 hS.own ad fo.length c c2 hc2 hcell hX.rd.one h63 hby (GM _);exact⟨v',w',q1,by simpa using q2,q3,q5,hr⟩
theorem ZE{o:Oper}{T e sz t:Nat}{s x:Operand}{rows fo:List aR}{zs:aR}{u:Bool}{ks:af}(hop:o.op=.call {callee:=.builtin .append,args:= #[s,x],argTypes:= #[T,T]})
 (hd:o.dst=some t) (hg:o.guard=none) (ht:t<Γ.nt) (hT:Ia P T=some (e,sz)) (hz:tz P e=some zs) (hsz:0<sz)
 (h63:rows.length+fo.length<=maxLen) (hby:(rows.length+fo.length)*tby P e<=140737488355328)
 (hin:∀κ Θ a w ρ,eO Γ st κ Θ a w->CR Γ st.H κ Θ w ρ->∃u1 u2 i1 i2 b1 b2 c1 c2,a1A w Θ ρ e sz (a.eval s) rows u1 i1 b1 c1/\ZI w Θ ρ sz (a.eval x) fo u2 i2 b2 c2/\
  (i1∈ks\/i1=st.H.length)/\(u=true->u1=true/\u2=true/\(b2=[]\/(i2∈ks/\i1≠i2))))
 (h:AO P Γ all rest Q ⟨(t,.acc st.H.length)::st.σ,kill st.H ks++[.row (BV u) e sz (rows++fo)]⟩):AO P Γ all (o::rest) Q st:=by
 intro κ Θ a w hs;obtain⟨ρ,hu⟩:=hs.wq;obtain⟨u1,u2,i1,i2,b1,b2,c1,c2,hS,hX,hi1,hq⟩:=hin κ Θ a w ρ hs hu;obtain⟨v',w',hrun,hown,hgr,hat,hrd⟩:=Wd (P:=P) (ty:=o.type) hT hz hsz hS hX h63 hby;refine wpList_plain hg fun K hK=>?_
 have VG:(execOp a.eval o).run P w=.ok (.value v') w':=by
  simp only[execOp,hop,resolve,invoke,builtin,Sem.run_bind,Sem.run_pure,Result.andThen_ok,pZ,bG,bW,hrun]
 unfold Oper.wp;rw[VG,Oper.upon_value,hd];let id:=st.H.length
 let Θ':Nat->Nat:=fun b=>if some b=v'.ownBlock then id+2 else Θ b
 have hvt:∀g,v'.ownBlock=some g->Θ g=i1+2\/g=w.heap.size:=by
  intro g Zm;rcases hat with h|h
  ·exact .inl (hS.top g (h▸Zm))
  ·rw[h]at Zm;cases Zm;exact .inr rfl
 have hnew:Θ w.heap.size=0:=by
  cases h0:Θ w.heap.size with
  |zero=>rfl
  |succ n=>exact absurd (hs.own w.heap.size (by omega)) (by omega)
 have k:jY w w' Θ Θ' (i1+2):=by
  refine⟨by omega,hgr.os,hgr.tape,hgr.output,hgr.size,fun b hb hne=>hgr.block b hb (fun e=>hne (hS.top b e.symm)),fun b hb hne=>?_,fun b hb=>?_⟩
  ·simp only[Θ'];rw[bH];intro e;rcases hvt b e.symm with h|h
   ·exact hne h
   ·omega
  ·simp only[Θ']at hb;split at hb
   ·rename_i e;exact(hown.lt b e.symm).2
   ·exact eE (hs.own b hb) hgr.size
 have hm:∀b,2<=Θ' b->Cz Γ b:=by
  intro b hb;simp only[Θ']at hb;split at hb
  ·rename_i e;rcases hvt b e.symm with h|h
   ·exact hs.mine b (by omega)
   ·exact .inl (by rw[h];exact hs.base)
  ·exact hs.mine b hb
 have hn:=zx (hs.rX id (bR _)) (some v');have hv1:v'.oneCell'=true:=by
  rcases hown.2 with⟨rfl,_⟩|⟨g,cap,cur,rfl,_⟩<;>rfl
 have Ab:∀b∈b1++b2,Θ b=0:=by
  intro b hb;rcases au.1 hb with hb|hb
  ·exact hS.zero b hb
  ·exact hX.zero b hb
 obtain⟨Qt,Rk⟩:=mZ.over k hrd Ab;have hrl:∀r∈rows++fo,r.length=sz:=by
  intro r hr;rcases au.1 hr with hr|hr
  ·exact hS.rl r hr
  ·exact hX.rl r hr
 have I5:∀g,v'.ownBlock=some g->Θ' g=id+2:=fun g Zm=>by simp only[Θ'];rw[bS Zm.symm]
 have key:∀(j:Nat) y,(kill st.H ks++[.row (BV u) e sz (rows++fo)])[j]?=some y->(j=id/\y=.row (BV u) e sz (rows++fo))\/(j≠id/\(y=.gone\/(j∉ks/\st.H[j]?=some y))):=by
  intro j y hj;rcases E5 j y hj with⟨h1,h2⟩|⟨h1,h2⟩
  ·rw[iK]at h1;exact .inl ⟨h1,h2⟩
  ·rw[iK]at h1;exact .inr ⟨h1,vA h2⟩
 have hne:∀(j:Nat) y,j∉ks->st.H[j]?=some y->j+2≠i1+2:=by
  intro j y hj hy;have:=(aH.1 hy).1;rcases hi1 with h|h
  ·intro e;exact hj (by
    have:j=i1:=by omega
    rw[this];exact h)
  ·omega
 have xI:=hs.qf k hn hu;let ρ':Nat->Nat:=fun b=>if u=true/\(b∈b1\/b∈b2)then id+1 else ρ b
 have hold:∀(j:Nat) y,j∉ks->st.H[j]?=some y->∀b,ρ b=j+1->ρ' b=j+1:=by
  intro j y hjk hy b hb;simp only[ρ'];rw[bH]
  ·exact hb
  ·rintro⟨BT,hmem⟩;obtain⟨p1,p2,p3⟩:=hq BT;rcases hmem with h|h
   ·have:=(hS.uq p1).2 b h;exact hne j _ hjk hy (by omega)
   ·have:=(hX.uq p2).2 b h;rcases p3 with h0|⟨h0,_⟩
    ·rw[h0]at h;cases h
    ·have:j=i2:=by omega
     subst this;exact hjk h0
 have hU:CR Γ (kill st.H ks++[.row (BV u) e sz (rows++fo)]) (Ad κ id (some v')) Θ' w' ρ':=by
  refine⟨fun b hb=>?_,fun j e' sz' dQ hj=>?_,fun j x hj=>?_⟩
  ·simp only[ρ']at hb;split at hb
   ·rename_i hc;obtain⟨BT,hmem⟩:=hc;obtain⟨q1,q2,q3⟩:=hq BT;rcases hmem with h|h
    ·exact xI.1 b (by rw[(hS.uq q1).2 b h];omega)
    ·exact xI.1 b (by rw[(hX.uq q2).2 b h];omega)
   ·exact xI.1 b hb
  ·rcases key j _ hj with⟨rfl,hy⟩|⟨_,hy|⟨hjk,hy⟩⟩
   ·cases BT:u with
    |false=>rw[BT]at hy;simp[BV]at hy
    |true=>
     rw[BT]at hy;simp only[BV,Ob.row.injEq,wF]at hy;obtain⟨rfl,rfl,rfl⟩:=hy;obtain⟨q1,q2,q3⟩:=hq BT;refine⟨v',c1++c2,b1++b2,mF _ _ _,hown,Qt,?_,fun b hb=>?_⟩
     ·obtain⟨n1,r1⟩:=hS.uq q1;obtain⟨n2,r2⟩:=hX.uq q2;refine bO.2 ⟨n1,n2,fun y hy z hz hyz=>?_⟩;subst hyz;rcases q3 with h|⟨_,h⟩
      ·rw[h]at hz;cases hz
      ·have:=r1 y hy;have:=r2 y hz;omega
     ·simp only[ρ'];rw[bS ⟨BT,au.1 hb⟩]
   ·cases hy
   ·obtain⟨v2,cs,bs,q1,q2,q3,q4,q5⟩:=xI.2.1 j e' sz' dQ (hne j _ hjk hy) hy;exact⟨v2,cs,bs,q1,q2,q3,q4,fun b hb=>hold j _ hjk hy b (q5 b hb)⟩
  ·rcases key j _ hj with⟨rfl,hy⟩|⟨_,hy|⟨hjk,hy⟩⟩
   ·subst hy;exact PY.Aq (Ob.Vb _ _ _ _)
   ·subst hy;trivial
   ·exact(xI.2.2 j x (hne j _ hjk hy) hy).re fun b hb=>hold j _ hjk hy b hb
 have hs':eO Γ ⟨st.σ,kill st.H ks++[.row (BV u) e sz (rows++fo)]⟩ (Ad κ id (some v')) Θ' a w':=by
  refine hs.step k hm hn ?_ ?_ ?_ ⟨ρ',hU⟩
  ·intro i hi;simp only[aX,aK,bK,iK]at hi;unfold Ad;rw[bH (by omega)];exact hs.rX i (by omega)
  ·intro i y hy;unfold Ad at hy;split at hy
   ·cases hy;exact hv1
   ·exact hs.qp i y hy
  ·intro j y hj;rcases key j y hj with⟨rfl,rfl⟩|⟨_,hy|⟨hjk,hy⟩⟩
   ·exact .inr (.inr ⟨hsz,hrl,v',_,_,mF _ _ _,hown,Qt,I5,by cases u<;>exact Rk⟩)
   ·exact .inl hy
   ·exact .inr (.inl ⟨hne j y hjk hy,hy⟩)
 refine hK _ _ (h _ _ _ _ (hs'.set (t:=t) (d:=.acc id) (bs:=[]) ht ?_ (by simp)));exact(Ba.acc id _ (mF _ _ _)).UI
def D.oA(rows:List aR):Bool:=rows.all fun r=>r.all D.flat
theorem mZ.flat{vs:br}{ds:aR}{bs:af}(h:mZ w vs ds bs)(hf:ds.all D.flat=true):bs=[]:=by
 induction ds generalizing vs bs with
 |nil=>cases h;rfl
 |cons d ds ih=>
  simp only[dM,aY]at hf;cases h with
  |cons v vs _ _ b1 b2 h1 h2 h3=>rw[h2.flat hf.1,ih h3 hf.2];rfl
theorem a1H{e sz i1:Nat}{ρ:Nat->Nat}:a1A w Θ ρ e sz (.slice none 0 0) [] true i1 [] []:=
 ⟨by simp,World.ownsRow_nil w 0 e sz,.nil,by simp,by simp[Value.ownBlock],by simp⟩
theorem Mb{ρ:Nat->Nat}(hs:eO Γ st κ Θ a w)(hu:CR Γ st.H κ Θ w ρ){id e sz:Nat}{k:RK}{rows:List aR}{v:Value}(hk:κ id=some v)(hH:st.H[id]?=some (.row k e sz rows))(ho:k.Tt=true):
 ∃bs cs,a1A w Θ ρ e sz v rows (match k with| .uq=>true|_=>false) id bs cs:=by
 obtain⟨_,hrl,v2,cs,bs,hk2,hown,vq,hΘ,hz⟩:=hs.ob id _ hH;rw[hk]at hk2;cases hk2;cases k with
 |cl=>simp[RK.Tt]at ho
 |sh=>exact⟨bs,cs,hrl,hown,vq,hz,hΘ,by simp⟩
 |mv n=>exact⟨bs,cs,hrl,hown,vq,hz,hΘ,by simp⟩
 |uq=>
  obtain⟨v2,c2,b2,q1,q2,q3,q4,q5⟩:=hu.rows id e sz rows hH;rw[hk]at q1;cases q1;exact⟨b2,c2,hrl,q2,q3,fun b hb=>(hu.free b (by rw[q5 b hb];omega)).1,hΘ,fun _=>⟨q4,q5⟩⟩
theorem Ul{ρ:Nat->Nat}(hs:eO Γ st κ Θ a w)(hu:CR Γ st.H κ Θ w ρ){id e sz:Nat}{k:RK}{rows:List aR}{v:Value}(hk:κ id=some v)(hH:st.H[id]?=some (.row k e sz rows))(ho:k.Tt=true):
 ∃bs cs,ZI w Θ ρ sz v rows (match k with| .uq=>true|_=>false) id bs cs:=by
 obtain⟨bs,cs,h⟩:=Mb hs hu hk hH ho;refine⟨bs,cs,h.rl,?_,h.rd,h.zero,h.uq⟩;rcases h.own.2 with⟨rfl,hn⟩|⟨g,cap,cur,rfl,_⟩
 ·exact .inl ⟨rfl,cg hn⟩
 ·exact .inr ⟨_,cap,rfl,h.own.cells (g:=g) (by simp[Value.ownBlock])⟩
theorem a1I{sz i2:Nat}{ρ:Nat->Nat}:ZI w Θ ρ sz (.slice none 0 0) [] true i2 [] []:=
 ⟨by simp,.inl ⟨rfl,rfl⟩,.nil,by simp,by simp⟩
theorem a4W{ρ:Nat->Nat}{v:Value}{rows:List aR}{bs:af}{sz:Nat}(h:Rd w v (.sl rows) bs)(hz:∀b∈bs,Θ b=0)(hrl:∀r∈rows,r.length=sz)(i2:Nat)(fl:Bool)(hf:fl=true->D.oA rows=true):
 ∃b2 cs,ZI w Θ ρ sz v rows fl i2 b2 cs/\(fl=true->b2=[]):=by
 cases h with
 |BE=>exact⟨[],[],⟨by simp,.inl ⟨rfl,rfl⟩,.nil,by simp,by simp⟩,by simp⟩
 |pQ ad cap hc=>exact⟨[],[],⟨by simp,.inr ⟨ad,cap,rfl,by simp⟩,.nil,by simp,by simp⟩,by simp⟩
 |sl b off cap sz' _ cs bs' h0 h1 h2 h3 h4 h5=>
  have hfl:fl=true->bs'=[]:=fun e=>h5.flat (by
   have:=hf e;unfold D.oA at this;rw[bB]at this⊢;intro d hd;obtain⟨r,hr,MO⟩:=dw.1 hd;exact bB.1 (this r hr) d MO)
  refine⟨bs',cs,⟨hrl,.inr ⟨_,cap,rfl,fun j x hj=>?_⟩,h5,fun y hy=>hz y (by simp[hy]),fun e=>by rw[hfl e];simp⟩,hfl⟩;have:=h4 j x hj;simpa[Addr.add_lit]using this
end
section
variable{P:Program}{Γ:w5}{Q:Exit->St->Prop}{st:St}{κ:Nat->Option Value}{Θ:Nat->Nat}{a:Act}{w:World}{all:Array Oper}{rest:List Oper}
theorem ju{H:bX}{ms:af}{j:Nat}(h:j∉ms):(kill H ms)[j]?=H[j]?:=by
 induction ms generalizing H with
 |nil=>rfl
 |cons m ms ih=>
  simp only[bM,Ke]at h;simp only[kill];rw[ih h.2,cG (fun e=>h.1 e.symm)]
def RK.after(k:RK)(b:Bool):RK:=match k with
 | .uq=>BV b
 | .mv _=>.sh
 |k=>k
theorem RK.ZM(k:RK)(b:Bool)(e:TypeId)(sz:Nat)(rows:List aR):(Ob.row (k.after b) e sz rows).mvB=false:=by cases k<;>cases b<;>rfl
theorem UX{o:Oper}{T id i sz off e:Nat}{k0:RK}{x y:Operand}{rows:List aR}{row ds es:aR}{ms:af}(hop:o.op=.store T x y)(hd:o.dst=none)(hg:o.guard=none)
 (hx:st.ev x=.op id i sz off) (hH:st.H[id]?=some (.row k0 e sz rows)) (hk0:k0.Tt=true) (hrow:rows[i]?=some row) (hc:(st.ev y).cellsOf=some ds) (habs:OH st.H ds=some (es,ms)) (hnd:ms.Nodup) (hid:id∉ms)
 (hT:UF P T=true) (hl:ds.length=Be P T) (hfit:off+ds.length<=sz)
 (h:AO P Γ all rest Q ⟨st.σ,(kill st.H ms).set id (.row (k0.after (ds.all (Z7 st.H))) e sz (rows.set i (row.take off++es++row.drop (off+ds.length))))⟩):AO P Γ all (o::rest) Q st:=by
 intro κ Θ0 a w hs0;obtain⟨b1,r1,_⟩:=hs0.ev x;obtain⟨b20,r2,aDO⟩:=hs0.ev y;rw[hx]at r1;obtain⟨g,o0,len,cap,hk,hv⟩:=r1.IE;have hcv:=DV hs0.qp r2 hc;obtain⟨ρ0,hu0⟩:=hs0.wq;obtain⟨Θ,ρ,hs,hu,hm1,VK,Zo⟩:=eO.VY ms hs0 hu0 hnd (Ui habs);obtain⟨b2,hcp,hz2,MP⟩:=WZ (H:=st.H) (ρ:=ρ) habs hnd hcv (fun b hb=>VK b (aDO b hb)) hm1;have WL:(kill st.H ms)[id]?=some (.row k0 e sz rows):=by rw[ju hid];exact hH
 obtain⟨bs,cs,hA⟩:=Mb hs hu hk WL hk0;have hrl:=hA.rl;have hown:=hA.own;have ho0:=F2 hown;subst ho0;rw[cr]at hv;have vq:=hA.rd;have hsz:0<sz:=by
  obtain⟨hsz,_⟩:=hs.ob id _ WL;exact hsz
 rcases hown.2 with⟨v8,_⟩|⟨g',cap2,cur,hkv,hb,TS,hnc,hcm,hcs,VI⟩
 ·cases v8
 ·cases hkv;have TX:=hA.top g (by simp[Value.ownBlock]);have hl1:=hcv.length;have hle:es.length=ds.length:=by rw[<-hcp.length,hl1]
  have hilt:i<rows.length:=(aH.1 hrow).1;have a7e:(i+1)*sz<=rows.length*sz:=dZ _ hilt;have aFU:rows.length*sz<=cap*sz:=dZ _ hnc;rw[kn,o6]at a7e;have a7s:(a.eval y).cells.size=Be P T:=by rw[<-hl,<-hl1];simp
  have aFc:(a.eval y).cells.size=ds.length:=by rw[<-hl1];simp
  have hst:=IG (P:=P) (T:=T) (off:=i*sz+off) TS a7s (eT.1 hT) (by omega) hcv.one;have k:=jY.setRow hs (g:=g) (cs:=(cur.toList.take (i*sz+off)++(a.eval y).cells.toList++cur.toList.drop (i*sz+off+(a.eval y).cells.toList.length)).toArray) (tag:=id+2) (by omega) TX;refine wpList_plain hg fun K hK=>?_
  unfold Oper.wp;have hrun:(execOp a.eval o).run P w=.ok .skip (w.setRow g (cur.toList.take (i*sz+off)++(a.eval y).cells.toList++cur.toList.drop (i*sz+off+(a.eval y).cells.toList.length)).toArray):=by
   simp only[execOp,hop,hv];simp[hst]
  rw[hrun,Oper.upon_skip,hd];have hfl:=pW hrl;have e0:rows.flatten=rows.flatten.take (i*sz+off)++((rows.flatten.drop (i*sz+off)).take ds.length++(rows.flatten.drop (i*sz+off)).drop ds.length):=by rw[cD,cD]
  rw[e0]at vq;obtain⟨v1,v2,c1,c2,Qu,I2,k1,k2⟩:=vq.split;obtain⟨v3,v4,c3,c4,rfl,rfl,k3,k4⟩:=k2.split;have l1:v1.length=i*sz+off:=by rw[k1.length,cM];omega
  have l3:v3.length=ds.length:=by rw[k3.length,cM,wz];omega
  rw[gz]at k4;have hnew:=(k1.app hcp).app k4;have Rk:∀b∈((c1++b2)++c4),Θ b=0:=by
   intro b hb;simp only[au]at hb;rcases hb with(hb|hb)|hb
   ·exact hA.zero b (by rw[I2];simp[hb])
   ·exact hz2 b hb
   ·exact hA.zero b (by rw[I2];simp[hb])
  obtain⟨n1,n2⟩:=mZ.over k hnew Rk;have hfs:=Hy (ds:=es) (off:=off) hrl hrow (by omega);rw[hle]at hfs;rw[<-hfs]at n1;have a1c:cs.length=rows.length*sz:=hown.1;have a9n:cur.toList=v1++(v3++(v4++cur.toList.drop (rows.length*sz))):=by
   have:cur.toList=cs++cur.toList.drop (rows.length*sz):=by rw[<-VI,cD]
   rw[Qu]at this;simpa using this
  have t1:cur.toList.take (i*sz+off)=v1:=by rw[a9n];exact jF l1
  have t2:cur.toList.drop (i*sz+off+(a.eval y).cells.toList.length)=v4++cur.toList.drop (rows.length*sz):=by
   rw[hl1,<-gz]
   conv=>lhs;rw[a9n]
   rw[fy l1,fy l3]
  have hl4:(v1++(a.eval y).cells.toList++v4).length=rows.length*sz:=by
   have:=a1c;rw[Qu]at this;simp only[aX]at this⊢;omega
  have Nd:(w.setRow g (cur.toList.take (i*sz+off)++(a.eval y).cells.toList++cur.toList.drop (i*sz+off+(a.eval y).cells.toList.length)).toArray).ownsRow 0 e sz (.slice (some ⟨g,0,none⟩) rows.length cap)
   (rows.set i (row.take off++es++row.drop (off+ds.length))).length (v1++(a.eval y).cells.toList++v4):=by
   refine⟨by simpa using hl4,.inr ⟨g,cap,_,by simp,hb,setRow_heap w g cur _ e _ TS,by simpa using hnc,hcm,?_,?_⟩⟩
   ·simp only[Cg,aX,cM,wz,xK];omega
   ·rw[t1,t2];simp only[bf];rw[<-bY];exact jF hl4
  have Po:∀r∈rows.set i (row.take off++es++row.drop (off+ds.length)),r.length=sz:=by
   intro r hr;rcases CQ hr with hr|rfl
   ·exact hrl r hr
   ·have:=hrl row (aC hrow);simp;omega
  have I5:∀g2,(Value.slice (some ⟨g,0,none⟩) rows.length cap).ownBlock=some g2->Θ g2=id+2:=by
   intro g2 hg2;simp only[Value.ownBlock,az]at hg2;subst hg2;exact TX
  refine hK _ _ (h _ _ _ _ (hs.put ms BW (fun _ _ h=>h) (fun i hi=>hs.rX i (by simpa using hi)) hs.qp k hs.mine ?_ hu ?_ ?_ (RK.ZM _ _ _ _ _)))
  ·refine⟨hsz,Po,_,_,_,hk,Nd,n1,I5,?_⟩;cases k0 with
   |cl=>simp[RK.Tt]at hk0
   |sh=>exact n2
   |mv n=>exact n2
   |uq=>simp only[RK.after];cases(ds.all (Z7 st.H))<;>exact n2
  ·intro m hm x _ M7;rcases vA M7 with h|⟨h,_⟩
   ·subst h;rfl
   ·exact absurd hm h
  ·intro e' sz' dQ he;cases k0 with
   |cl=>simp[RK.Tt]at hk0
   |sh=>simp[RK.after]at he
   |mv n=>simp[RK.after]at he
   |uq=>
    simp only[RK.after]at he;cases hq:ds.all (Z7 st.H)with
    |false=>rw[hq]at he;simp[BV]at he
    |true=>
     rw[hq]at he;simp only[BV,Ob.row.injEq,wF]at he;obtain⟨rfl,rfl,rfl⟩:=he;obtain⟨q1,q2⟩:=MP hq;obtain⟨p1,p2⟩:=hA.uq rfl;rw[I2]at p1 p2;obtain⟨m1,m2,m3⟩:=bO.1 p1;obtain⟨m4,m5,m6⟩:=bO.1 m2;refine⟨_,_,_,hk,Nd,n1,?_,fun b hb=>?_⟩
     ·refine bO.2 ⟨bO.2 ⟨m1,q1,fun x hx y hy e=>?_⟩,m5,fun x hx y hy e=>?_⟩
      ·subst e;obtain⟨m,hm,he⟩:=q2 x hy;have:=p2 x (by simp[hx]);exact hid (by
        have:id=m:=by omega
        rw[this];exact hm)
      ·subst e;rcases au.1 hx with hx|hx
       ·exact m3 x hx x (by simp[hy]) rfl
       ·obtain⟨m,hm,he⟩:=q2 x hx;have:=p2 x (by simp[hy]);exact hid (by
         have:id=m:=by omega
         rw[this];exact hm)
     ·simp only[au]at hb;rcases hb with(hb|hb)|hb
      ·exact .inl (p2 b (by simp[hb]))
      ·exact .inr (q2 b hb)
      ·exact .inl (p2 b (by simp[hb]))
end
inductive Y8(w:World):List Value->List D->List Nat->Prop
 |nil:Y8 w [] [] []
 |cons (v:Value) (vs:br) (d:D) (ds:aR) (b1 b2:af):Rd w v d b1->Y8 w vs ds b2->Y8 w (v::vs) (d::ds) (b1++b2)
inductive Ib(w:World):Value->D->List Nat->List Nat->List Nat->Prop
 |pure {v:Value} {d:D} {bs:af}:Rd w v d bs->Ib w v d bs [] []
 |fr (v:Value) (e sz:Nat) (rows:List aR) (cs:br) (ns:af):0<sz->(∀r∈rows,r.length=sz)->w.ownsRow 0 e sz v rows.length cs->mZ w cs rows.flatten ns->v.oneCell'=true->
  Ib w v (.fr e sz rows) [] v.ownBlock.toList (v.ownBlock.toList++ns)
inductive wH(w:World):List Value->List D->List Nat->List Nat->List Nat->Prop
 |nil:wH w [] [] [] [] []
 |cons (v:Value) (vs:br) (d:D) (ds:aR) (b1 b2 t1 t2 u1 u2:af):v.oneCell'=true->Ib w v d b1 t1 u1->wH w vs ds b2 t2 u2->wH w (v::vs) (d::ds) (b1++b2) (t1++t2) (u1++u2)
inductive Ic(w:World):Value->D->List Nat->List Nat->List Nat->Prop
 |cell {v:Value} {d:D} {bs ts us:af}:Ib w v d bs ts us->Ic w v d bs ts us
 |agg (cs:br) (ds:aR) (bs ts us:af):wH w cs ds bs ts us->Ic w (.agg cs.toArray) (.agg ds) bs ts us
inductive DQ(w:World):List Value->List D->List Nat->List Nat->List Nat->Prop
 |nil:DQ w [] [] [] [] []
 |cons (v:Value) (vs:br) (d:D) (ds:aR) (b1 b2 t1 t2 u1 u2:af):Ic w v d b1 t1 u1->DQ w vs ds b2 t2 u2->DQ w (v::vs) (d::ds) (b1++b2) (t1++t2) (u1++u2)
inductive EL(w:World):Value->D->List Nat->List Nat->List Nat->Prop
 |v {v:Value} {d:D} {bs ts us:af}:Ic w v d bs ts us->EL w v d bs ts us
 |gZ (vs:br) (ds:aR) (bs ts us:af):DQ w vs ds bs ts us->EL w (.tuple vs.toArray) (.gZ ds) bs ts us
def Good(P:Program)(f:FuncId)(ds:aR)(d:D):Prop:=
 (∃fn,P.funcs[f]?=some fn/\fn.body.isSome=true/\(fn.name== "runtime.NumGoroutine")=false)/\
 ∀(w:World) (Θ:Nat->Nat) (args:br) (bs:af),TB w (fun _=>False)->Y8 w args ds bs->(∀b∈bs,Θ b=0)->(∀b,Θ b≠0->b<w.heap.size)->(∀b,Θ b<=1)->
  Calls P f args.toArray w (fun e w'=>∃v bs' ts us,e=.returned v/\Below w.heap.size w w'/\EL w' v d bs' ts us/\(∀b∈bs',b<w.heap.size->Θ b=0)/\(∀b∈bs',b∉ts)/\us.Nodup/\
   (∀b∈us,w.heap.size<=b/\Wr w' b)/\∀b∈ts,b∈us)
def FF(n:Nat)(d:D):D×bX:=match d with
 | .fr e sz rows=>(.acc n,[.row .uq e sz rows])
 |d=>(d,[])
def oB(n:Nat):aR->aR×bX
 | []=>([],[])
 |d::ds=>((FF n d).1::(oB (n+(FF n d).2.length) ds).1,(FF n d).2++(oB (n+(FF n d).2.length) ds).2)
def E0(n:Nat)(d:D):D×bX:=match d with
 | .agg cs=>(.agg (oB n cs).1,(oB n cs).2)
 |d=>FF n d
def Ez(n:Nat):aR->aR×bX
 | []=>([],[])
 |d::ds=>((E0 n d).1::(Ez (n+(E0 n d).2.length) ds).1,(E0 n d).2++(Ez (n+(E0 n d).2.length) ds).2)
def rW(n:Nat)(d:D):D×bX:=match d with
 | .gZ vs=>(.gZ (Ez n vs).1,(Ez n vs).2)
 |d=>E0 n d
structure Fs where
 v:Value
 e:Nat
 sz:Nat
 rows:List aR
 cs:br
 ns:af
def Fs.ob(x:Fs):Ob:=.row .uq x.e x.sz x.rows
def Fs.ok(w:World)(x:Fs):Prop:=0<x.sz/\(∀r∈x.rows,r.length=x.sz)/\w.ownsRow 0 x.e x.sz x.v x.rows.length x.cs/\mZ w x.cs x.rows.flatten x.ns/\x.v.oneCell'=true
def Fs.bl(x:Fs):af:=x.v.ownBlock.toList++x.ns
def Fs.ts(x:Fs):af:=x.v.ownBlock.toList
section
variable{P:Program}{Γ:w5}{Q:Exit->St->Prop}{st:St}{κ κ':Nat->Option Value}{Θ Θ':Nat->Nat}{a:Act}{w w':World}{all:Array Oper}{rest:List Oper}
def Names(κ:Nat->Option Value)(n:Nat)(L:List Fs):Prop:=∀(i:Nat) x,L[i]?=some x->κ (n+i)=some x.v
theorem Names.left{n:Nat}{L1 L2:List Fs}(h:Names κ n (L1++L2)):Names κ n L1:=fun i x hx=>h i x (by
 rw[b9 (aH.1 hx).1];exact hx)
theorem Names.right{n:Nat}{L1 L2:List Fs}(h:Names κ n (L1++L2)):Names κ (n+L1.length) L2:=fun i x hx=>by
 have:=h (L1.length+i) x (by rw[bE (by omega)];simpa using hx);rw[<-this];congr 1;omega
theorem Ib.inst{v:Value}{d:D}{bs ts us:af}(h:Ib w v d bs ts us)(n:Nat):
 ∃L:List Fs,L.map Fs.ob=(FF n d).2/\(∀x∈L,x.ok w)/\us=L.flatMap Fs.bl/\ts=L.flatMap Fs.ts/\∀κ,Names κ n L->Ba w κ v (FF n d).1 bs:=by
 cases h with
 |pure h=>
  have e:FF n d=(d,[]):=by cases h<;>rfl
  rw[e];exact⟨[],rfl,by simp,rfl,rfl,fun κ _=>.pure h⟩
 |fr e sz rows cs ns h1 h2 h3 h4 h5=>
  refine⟨[⟨v,e,sz,rows,cs,ns⟩],rfl,?_,by simp[Fs.bl],by simp[Fs.ts],fun κ hk=>?_⟩
  ·intro x hx;simp at hx;subst hx;exact⟨h1,h2,h3,h4,h5⟩
  ·exact .acc n v (by simpa using hk 0 _ rfl)
theorem wH.inst{vs:br}{ds:aR}{bs ts us:af}(h:wH w vs ds bs ts us)(n:Nat):
 ∃L:List Fs,L.map Fs.ob=(oB n ds).2/\(∀x∈L,x.ok w)/\us=L.flatMap Fs.bl/\ts=L.flatMap Fs.ts/\∀κ,Names κ n L->fP w κ vs (oB n ds).1 bs:=by
 induction h generalizing n with
 |nil=>exact⟨[],rfl,by simp,rfl,rfl,fun κ _=>.nil⟩
 |cons v vs d ds b1 b2 t1 t2 u1 u2 h1 h2 _ ih=>
  obtain⟨L1,q1,q2,q3,q4,q5⟩:=h2.inst n;obtain⟨L2,p1,p2,p3,p4,p5⟩:=ih (n+(FF n d).2.length);have hl:L1.length=(FF n d).2.length:=by rw[<-q1];simp
  refine⟨L1++L2,by simp[oB,q1,p1],?_,by simp[q3,p3],by simp[q4,p4],fun κ hk=>?_⟩
  ·intro x hx;rcases au.1 hx with hx|hx
   ·exact q2 x hx
   ·exact p2 x hx
  ·refine .cons _ _ _ _ _ _ h1 (q5 κ hk.left) (p5 κ ?_);rw[<-hl];exact hk.right
theorem Ic.inst{v:Value}{d:D}{bs ts us:af}(h:Ic w v d bs ts us)(n:Nat):
 ∃L:List Fs,L.map Fs.ob=(E0 n d).2/\(∀x∈L,x.ok w)/\us=L.flatMap Fs.bl/\ts=L.flatMap Fs.ts/\∀κ,Names κ n L->QK w κ v (E0 n d).1 bs:=by
 cases h with
 |cell h=>
  by_cases wC:∃ds,d=.agg ds
  ·obtain⟨ds,rfl⟩:=wC;cases h with
   |pure h=>
    cases h with
    |agg cs _ _ h=>
     have:∀(vs:br) (es:aR) (b:af),mZ w vs es b->∀n,(oB n es).1=es/\(oB n es).2=[]:=by
      intro vs es
      induction es generalizing vs with
      |nil=>intro b _ n;exact⟨rfl,rfl⟩
      |cons e es ih=>
       intro b hh n;cases hh with
       |cons v vs _ _ b1 b2 _ h2 h3=>
        have e1:FF n e=(e,[]):=by cases h2<;>rfl
        have:=ih vs b2 h3 n;simp[oB,e1,this]
     obtain⟨e1,e2⟩:=this _ _ _ h n;refine⟨[],by simp[E0,e2],by simp,rfl,rfl,fun κ _=>?_⟩;simp only[E0,e1];exact .agg _ _ _ (fP.FH h)
  ·have e:E0 n d=FF n d:=by cases d<;>first|rfl|exact absurd ⟨_,rfl⟩ wC
   rw[e];obtain⟨L,q1,q2,q3,q4,q5⟩:=h.inst n;exact⟨L,q1,q2,q3,q4,fun κ hk=>.cell (q5 κ hk)⟩
 |agg cs ds bs ts us h=>
  obtain⟨L,q1,q2,q3,q4,q5⟩:=h.inst n;exact⟨L,q1,q2,q3,q4,fun κ hk=>.agg _ _ _ (q5 κ hk)⟩
theorem DQ.inst{vs:br}{ds:aR}{bs ts us:af}(h:DQ w vs ds bs ts us)(n:Nat):
 ∃L:List Fs,L.map Fs.ob=(Ez n ds).2/\(∀x∈L,x.ok w)/\us=L.flatMap Fs.bl/\ts=L.flatMap Fs.ts/\∀κ,Names κ n L->EK w κ vs (Ez n ds).1 bs:=by
 induction h generalizing n with
 |nil=>exact⟨[],rfl,by simp,rfl,rfl,fun κ _=>.nil⟩
 |cons v vs d ds b1 b2 t1 t2 u1 u2 h2 _ ih=>
  obtain⟨L1,q1,q2,q3,q4,q5⟩:=h2.inst n;obtain⟨L2,p1,p2,p3,p4,p5⟩:=ih (n+(E0 n d).2.length);have hl:L1.length=(E0 n d).2.length:=by rw[<-q1];simp
  refine⟨L1++L2,by simp[Ez,q1,p1],?_,by simp[q3,p3],by simp[q4,p4],fun κ hk=>?_⟩
  ·intro x hx;rcases au.1 hx with hx|hx
   ·exact q2 x hx
   ·exact p2 x hx
  ·refine .cons _ _ _ _ _ _ (q5 κ hk.left) (p5 κ ?_);rw[<-hl];exact hk.right
theorem EL.inst{v:Value}{d:D}{bs ts us:af}(h:EL w v d bs ts us)(n:Nat):
 ∃L:List Fs,L.map Fs.ob=(rW n d).2/\(∀x∈L,x.ok w)/\us=L.flatMap Fs.bl/\ts=L.flatMap Fs.ts/\∀κ,Names κ n L->uB w κ v (rW n d).1 bs:=by
 cases h with
 |v h=>
  have hnt:∀vs,d≠ .gZ vs:=by
   intro vs e;subst e;cases h with
   |cell h=>cases h with|pure h=>cases h
  have e:rW n d=E0 n d:=by cases d<;>first|rfl|exact absurd rfl (hnt _)
  rw[e];obtain⟨L,q1,q2,q3,q4,q5⟩:=h.inst n;exact⟨L,q1,q2,q3,q4,fun κ hk=>.v (q5 κ hk)⟩
 |gZ vs ds bs ts us h=>
  obtain⟨L,q1,q2,q3,q4,q5⟩:=h.inst n;exact⟨L,q1,q2,q3,q4,fun κ hk=>.gZ _ _ _ (q5 κ hk)⟩
theorem Uc{v:Value}{d:D}{bs ts us:af}(h:Ib w v d bs ts us):∀b∈ts,Wr w b:=by
 cases h with
 |pure=>simp
 |fr e sz rows cs ns h1 h2 h3 h4 h5=>
  intro b hb;simp only[lX]at hb;rcases h3.2 with⟨rfl,_⟩|⟨g,cap,cur,rfl,_,hg,_⟩
  ·simp[Value.ownBlock]at hb
  ·simp[Value.ownBlock]at hb;subst hb;exact⟨_,_,hg⟩
theorem ZJ{vs:br}{ds:aR}{bs ts us:af}(h:wH w vs ds bs ts us):∀b∈ts,Wr w b:=by
 induction h with
 |nil=>simp
 |cons v vs d ds b1 b2 t1 t2 u1 u2 h1 h2 _ ih=>
  intro b hb;rcases au.1 hb with hb|hb
  ·exact Uc h2 b hb
  ·exact ih b hb
theorem QL{v:Value}{d:D}{bs ts us:af}(h:Ic w v d bs ts us):∀b∈ts,Wr w b:=by
 cases h with
 |cell h=>exact Uc h
 |agg cs ds bs ts us h=>exact ZJ h
theorem SB{vs:br}{ds:aR}{bs ts us:af}(h:DQ w vs ds bs ts us):∀b∈ts,Wr w b:=by
 induction h with
 |nil=>simp
 |cons v vs d ds b1 b2 t1 t2 u1 u2 h2 _ ih=>
  intro b hb;rcases au.1 hb with hb|hb
  ·exact QL h2 b hb
  ·exact ih b hb
theorem Ud{v:Value}{d:D}{bs ts us:af}(h:EL w v d bs ts us):∀b∈ts,Wr w b:=by
 cases h with
 |v h=>exact QL h
 |gZ vs ds bs ts us h=>exact SB h
def ix{α:Type}(p:α->Bool):List α->Option Nat
 | []=>none
 |x::r=>if p x then some 0 else(ix p r).map (· +1)
theorem zv{α:Type}{p:α->Bool}:∀ {l:List α} {i:Nat},ix p l=some i->∃x,l[i]?=some x/\p x=true:=by
 intro l
 induction l with
 |nil=>intro i h;cases h
 |cons x r ih=>
  intro i h;simp only[ix]at h;split at h
  ·cases h;exact⟨x,rfl,by assumption⟩
  ·cases hr:ix p r with
   |none=>simp[hr]at h
   |some j=>simp[hr]at h;subst h;simpa using ih hr
theorem F0{α:Type}{p:α->Bool}:∀ {l:List α} {i:Nat} {x:α},l[i]?=some x->p x=true->(∀(j:Nat) y,l[j]?=some y->p y=true->j=i)->ix p l=some i:=by
 intro l
 induction l with
 |nil=>intro i x h;simp at h
 |cons y r ih=>
  intro i x h hp hu;simp only[ix];split
  ·rename_i hy;rw[hu 0 y rfl hy]
  ·rename_i hy;cases i with
   |zero=>simp at h;subst h;exact absurd hp hy
   |succ i=>
    rw[ih (by simpa using h) hp (fun j z hz hpz=>by have:=hu (j+1) z (by simpa using hz) hpz;omega)];rfl
theorem yZ{α:Type}{f:α->af}:∀ {l:List α},(l.flatMap f).Nodup->∀(i j:Nat) x y b,l[i]?=some x->l[j]?=some y->b∈f x->b∈f y->i=j:=by
 intro l
 induction l with
 |nil=>intro _ i j x y b hi;simp at hi
 |cons z r ih=>
  intro hnd i j x y b hi hj I3 hby;simp only[dO]at hnd;obtain⟨n1,n2,n3⟩:=bO.1 hnd;cases i with
  |zero=>
   simp at hi;subst hi;cases j with
   |zero=>rfl
   |succ j=>
    simp at hj;exact absurd rfl (n3 b I3 b (cE.2 ⟨y,aC hj,hby⟩))
  |succ i=>
   simp at hi;cases j with
   |zero=>
    simp at hj;subst hj;exact absurd rfl (n3 b hby b (cE.2 ⟨x,aC hi,I3⟩))
   |succ j=>simp at hj;rw[ih n2 i j x y b hi hj I3 hby]
theorem eO.SZ(hs:eO Γ st κ Θ a w)(hb:Below w.heap.size w w')(L:List Fs)(hL:∀x∈L,x.ok w')(hnd:(L.flatMap Fs.bl).Nodup)(hfr:∀b∈L.flatMap Fs.bl,w.heap.size<=b/\Wr w' b)
 (n:Nat) (H':bX) (hfree:∀i,i<L.length->κ (n+i)=none) (hlen':st.H.length<=H'.length) (hin:n+L.length<=H'.length)
 (key:∀(j:Nat) y,H'[j]?=some y->(∃i x,j=n+i/\L[i]?=some x/\y=x.ob)\/((j<n\/n+L.length<=j)/\(y=.gone\/st.H[j]?=some y))):
 ∃κ' Θ',eO Γ ⟨st.σ,H'⟩ κ' Θ' a w'/\Names κ' n L/\(∀(j:Nat) v,κ j=some v->κ' j=some v)/\(∀b,b∉L.flatMap Fs.ts->Θ' b=Θ b)/\(∀j,(j<n\/n+L.length<=j)->κ' j=κ j):=by
 let κ':Nat->Option Value:=fun j=>if j<n\/n+L.length<=j then κ j else(L[j-n]?).map Fs.v
 let Θ':Nat->Nat:=fun b=>match ix (fun x:Fs=>x.v.ownBlock==some b) L with|some i=>n+i+2|none=>Θ b
 have hu1:∀(i j:Nat) x y b,L[i]?=some x->L[j]?=some y->b∈x.bl->b∈y.bl->i=j:=fun i j x y b=>yZ hnd i j x y b
 have hts:∀(i:Nat) x b,L[i]?=some x->x.v.ownBlock=some b->Θ' b=n+i+2:=by
  intro i x b hi hxb;have:ix (fun x:Fs=>x.v.ownBlock==some b) L=some i:=F0 hi (by simp[hxb]) (fun j y hj hy=>by
   simp only[cj]at hy;exact hu1 j i y x b hj hi (by simp[Fs.bl,hy]) (by simp[Fs.bl,hxb]))
  simp only[Θ',this]
 have hno:∀b,b∉L.flatMap Fs.ts->Θ' b=Θ b:=by
  intro b hb';simp only[Θ'];cases h:ix (fun x:Fs=>x.v.ownBlock==some b) L with
  |none=>rfl
  |some i=>
   obtain⟨x,hx,hp⟩:=zv h;exact absurd (cE.2 ⟨x,aC hx,by simp only[cj]at hp;simp[Fs.ts,hp]⟩) hb'
 have hsub:∀b,b∈L.flatMap Fs.ts->b∈L.flatMap Fs.bl:=by
  intro b h;obtain⟨x,hx,I3⟩:=cE.1 h;exact cE.2 ⟨x,hx,by simp only[Fs.bl,Fs.ts]at I3⊢;exact au.2 (.inl I3)⟩
 have hold:∀b,b<w.heap.size->Θ' b=Θ b:=fun b hlt=>hno b (fun h=>by have:=(hfr b (hsub b h)).1;omega)
 have hzero:∀b,w.heap.size<=b->Θ b=0:=fun b hge=>by
  cases h:Θ b with
  |zero=>rfl
  |succ m=>exact absurd (hs.own b (by omega)) (by omega)
 have hn:∀(j:Nat) v,κ j=some v->κ' j=some v:=by
  intro j v hj;have:j<n\/n+L.length<=j:=by
   rcases eR j n with h|h
   ·exact .inl h
   ·rcases eR j (n+L.length)with h2|h2
    ·have:=hfree (j-n) (by omega);rw[show n+(j-n)=j from by omega,hj]at this;cases this
    ·exact .inr h2
  simp only[κ'];rw[bS this];exact hj
 have CD:Names κ' n L:=by
  intro i x hx;have hlt:=(aH.1 hx).1;simp only[κ'];rw[bH (by omega),eA,hx];rfl
 have hTb:∀b,Θ' b≠0->Θ b≠0\/b∈L.flatMap Fs.bl:=by
  intro b h;by_cases hbt:b∈L.flatMap Fs.ts
  ·exact .inr (hsub b hbt)
  ·rw[hno b hbt]at h;exact .inl h
 have k:jY w w' Θ Θ' (H'.length+2):=by
  refine⟨by omega,hb.os,hb.tape,hb.output,hb.size,fun b hlt _=>hb.block b hlt,fun b hlt _=>hold b hlt,fun b h=>?_⟩;rcases hTb b h with h|h
  ·exact eE (hs.own b h) hb.size
  ·obtain⟨cs,T,hx⟩:=(hfr b h).2;exact(bL.1 hx).1
 have hm:∀b,2<=Θ' b->Cz Γ b:=by
  intro b h;by_cases hbt:b∈L.flatMap Fs.ts
  ·exact .inl (cU hs.base (hfr b (hsub b hbt)).1)
  ·rw[hno b hbt]at h;exact hs.mine b h
 obtain⟨ρ,hu⟩:=hs.wq;have xI:=hs.qf k hn hu;let ρ':Nat->Nat:=fun b=>match ix (fun x:Fs=>x.ns.contains b) L with|some i=>n+i+1|none=>ρ b
 have hns:∀(i:Nat) x b,L[i]?=some x->b∈x.ns->ρ' b=n+i+1:=by
  intro i x b hi hxb;have:ix (fun x:Fs=>x.ns.contains b) L=some i:=F0 hi (by simpa using hxb) (fun j y hj hy=>by
   exact hu1 j i y x b hj hi (by simp only[Fs.bl];exact au.2 (.inr (by simpa using hy))) (by simp only[Fs.bl];exact au.2 (.inr hxb)))
  simp only[ρ',this]
 have Ab:∀(i:Nat) x b,L[i]?=some x->b∈x.ns->Θ' b=0:=by
  intro i x b hi hxb;have hmem:b∈L.flatMap Fs.bl:=cE.2 ⟨x,aC hi,by simp only[Fs.bl];exact au.2 (.inr hxb)⟩;rw[hno b ?_]
  ·exact hzero b (hfr b hmem).1
  ·intro h;obtain⟨y,hy,hby⟩:=cE.1 h;obtain⟨j,hj⟩:=cq hy;have:=hu1 j i y x b hj hi (by simp only[Fs.bl,Fs.ts]at hby⊢;exact au.2 (.inl hby)) (by simp only[Fs.bl];exact au.2 (.inr hxb));subst this;rw[hj]at hi;cases hi;have On:x.bl.Nodup:=by
    have:∀(l:List Fs),(l.flatMap Fs.bl).Nodup->∀x∈l,x.bl.Nodup:=by
     intro l
     induction l with
     |nil=>intro _ x hx;cases hx
     |cons z r ih=>
      intro hnd x hx;simp only[dO]at hnd;obtain⟨n1,n2,_⟩:=bO.1 hnd;rcases bM.1 hx with rfl|hx
      ·exact n1
      ·exact ih n2 x hx
    exact this L hnd x hy
   simp only[Fs.bl]at On;exact(bO.1 On).2.2 b hby b hxb rfl
 have hlen:∀i,H'.length<=i->κ' i=none:=by
  intro i hi;simp only[κ'];rw[bS (by omega)];exact hs.rX i (by omega)
 have Qq:∀(j:Nat) y,H'[j]?=some y->j+2≠H'.length+2:=fun j y hj=>by
  have:=(aH.1 hj).1;omega
 refine⟨κ',Θ',?_,CD,hn,hno,fun j hj=>bS hj⟩;have VH:∀b,b<w.heap.size->ρ' b=ρ b:=by
  intro b hlt';simp only[ρ'];cases hi:ix (fun x:Fs=>x.ns.contains b) L with
  |none=>rfl
  |some i=>
   obtain⟨x,hx,hp⟩:=zv hi;have:=(hfr b (cE.2 ⟨x,aC hx,by simp only[Fs.bl];exact au.2 (.inr (by simpa using hp))⟩)).1;omega
 have a6H:∀b,ρ b≠0->b<w.heap.size:=fun b hb'=>by
  obtain⟨_,_,cs',T,hx⟩:=hu.free b hb';exact(bL.1 hx).1
 refine hs.step k hm hn hlen ?_ ?_ ⟨ρ',?_,?_,?_⟩
 ·intro i u BT;simp only[κ']at BT;split at BT
  ·exact hs.qp i u BT
  ·cases hx:L[i-n]? with
   |none=>simp[hx]at BT
   |some x=>simp[hx]at BT;subst BT;exact(hL x (aC hx)).2.2.2.2
 ·intro j y hj;have hjl:=Qq j y hj;rcases key j y hj with⟨i,x,rfl,hx,rfl⟩|⟨hlt,hy|hy⟩
  ·obtain⟨q1,q2,q3,q4,_⟩:=hL x (aC hx);exact .inr (.inr ⟨q1,q2,x.v,x.cs,x.ns,CD i x hx,q3,q4,fun g hg=>hts i x g hx hg,fun b hb'=>Ab i x b hx hb'⟩)
  ·exact .inl hy
  ·exact .inr (.inl ⟨hjl,hy⟩)
 ·intro b hb';by_cases h:∃(i:Nat) (x:Fs),L[i]?=some x/\b∈x.ns
  ·obtain⟨i,x,hx,I3⟩:=h;have hmem:b∈L.flatMap Fs.bl:=cE.2 ⟨x,aC hx,by simp only[Fs.bl];exact au.2 (.inr I3)⟩;exact⟨Ab i x b hx I3,.inl (.inl (cU hs.base (hfr b hmem).1)),(hfr b hmem).2⟩
  ·have:ρ' b=ρ b:=by
    simp only[ρ'];cases hi:ix (fun x:Fs=>x.ns.contains b) L with
    |none=>rfl
    |some i=>
     obtain⟨x,hx,hp⟩:=zv hi;exact absurd ⟨i,x,hx,by simpa using hp⟩ h
   rw[this]at hb';exact xI.1 b hb'
 ·intro j e sz rows hj;have hjl:=Qq j _ hj;rcases key j _ hj with⟨i,x,rfl,hx,hy⟩|⟨hlt,hy|hy⟩
  ·simp only[Fs.ob,Ob.row.injEq,wF]at hy;obtain⟨rfl,rfl,rfl⟩:=hy;obtain⟨q1,q2,q3,q4,_⟩:=hL x (aC hx);have On:x.ns.Nodup:=by
    have:∀(l:List Fs),(l.flatMap Fs.bl).Nodup->∀x∈l,x.bl.Nodup:=by
     intro l
     induction l with
     |nil=>intro _ x hx;cases hx
     |cons z r ih=>
      intro hnd x hx;simp only[dO]at hnd;obtain⟨n1,n2,_⟩:=bO.1 hnd;rcases bM.1 hx with rfl|hx
      ·exact n1
      ·exact ih n2 x hx
    exact(bO.1 (this L hnd x (aC hx))).2.1
   exact⟨x.v,x.cs,x.ns,CD i x hx,q3,q4,On,fun b hb'=>hns i x b hx hb'⟩
  ·cases hy
  ·obtain⟨v,cs,bs,q1,q2,q3,q4,q5⟩:=xI.2.1 j e sz rows hjl hy;exact⟨v,cs,bs,q1,q2,q3,q4,fun b hb'=>(VH b (a6H b (by rw[q5 b hb'];omega))).trans (q5 b hb')⟩
 ·intro j y hj;have hjl:=Qq j _ hj;rcases key j _ hj with⟨i,x,rfl,hx,hy⟩|⟨hlt,hy|hy⟩
  ·subst hy;exact PY.Aq rfl
  ·subst hy;trivial
  ·exact(xI.2.2 j y hjl hy).re fun b hb'=>(VH b (a6H b (by omega))).trans hb'
theorem eO.a5G(hs:eO Γ st κ Θ a w)(hb:Below w.heap.size w w')(L:List Fs)(hL:∀x∈L,x.ok w')(hnd:(L.flatMap Fs.bl).Nodup)(hfr:∀b∈L.flatMap Fs.bl,w.heap.size<=b/\Wr w' b):
 ∃κ' Θ',eO Γ ⟨st.σ,st.H++L.map Fs.ob⟩ κ' Θ' a w'/\Names κ' st.H.length L/\(∀(j:Nat) v,κ j=some v->κ' j=some v)/\(∀b,b∉L.flatMap Fs.ts->Θ' b=Θ b):=by
 obtain⟨κ',Θ',h1,h2,h3,h4,_⟩:=hs.SZ hb L hL hnd hfr st.H.length (st.H++L.map Fs.ob) (fun i _=>hs.rX _ (by omega)) (by simp) (by simp) (by
  intro j y hj;by_cases hlt:j<st.H.length
  ·rw[b9 hlt]at hj;exact .inr ⟨.inl hlt,.inr hj⟩
  ·rw[bE (by omega),cA]at hj;cases hx:L[j-st.H.length]? with
   |none=>simp[hx]at hj
   |some x=>simp[hx]at hj;exact .inl ⟨j-st.H.length,x,by omega,hx,hj.symm⟩)
 exact⟨κ',Θ',h1,h2,h3,h4⟩
def vwC(H:bX)(d:D):Option (D×af):=match d with
 | .acc m=>(match H[m]? with|some (.row _ _ _ rows)=>some (.sl rows,[m])|some (.fG _ rows _)=>some (.sl rows,[m])|some (.tk rows)=>some (.sl rows,[])|_=>none)
 | .ptr _ _=>none
 | .op _ _ _ _=>none
 |d=>some (d.KX,[])
def WD(H:bX):aR->Option (aR×af)
 | []=>some ([],[])
 |d::ds=>match vwC H d,WD H ds with|some (e,m),some (es,ms)=>some (e::es,m++ms)|_,_=>none
def vwV(H:bX)(d:D):Option (D×af):=match d with
 | .agg cs=>(match WD H cs with|some (es,ms)=>some (.agg es,ms)|none=>none)
 | .gZ _=>none
 |d=>vwC H d
def MM(H:bX):aR->Option (aR×af)
 | []=>some ([],[])
 |d::ds=>match vwV H d,MM H ds with|some (e,m),some (es,ms)=>some (e::es,m++ms)|_,_=>none
def Seen(Θ:Nat->Nat)(ms:af)(b:Nat):Prop:=Θ b=0\/∃m∈ms,Θ b=m+2
theorem Seen.mono{ms ns:af}{b:Nat}(h:Seen Θ ms b)(hs:∀m∈ms,m∈ns):Seen Θ ns b:=by
 rcases h with h|⟨m,h1,h2⟩
 ·exact .inl h
 ·exact .inr ⟨m,hs m h1,h2⟩
theorem a3q(hs:eO Γ st κ Θ a w){v:Value}{d e:D}{bs:af}{ms:af}(h:vwC st.H d=some (e,ms))(hr:Ba w κ v d bs)(hz:∀b∈bs,Θ b=0):∃b',Rd w v e b'/\∀b∈b',Seen Θ ms b:=by
 cases hr with
 |pure hr=>
  have:vwC st.H d=some (d.KX,[]):=by cases hr<;>rfl
  rw[this]at h;cases h;exact⟨bs,hr.soft,fun b hb=>.inl (hz b hb)⟩
 |acc m _ hk=>
  simp only[vwC]at h;split at h
  ·rename_i k e' sz rows hH;cases h;obtain⟨_,hrl,v2,cs,b2,hk2,hown,vq,hΘ,hd⟩:=hs.ob m _ hH;rw[hk]at hk2;cases hk2;refine⟨_,yP hrl hown vq,fun b hb=>?_⟩;rcases au.1 hb with hb|hb
   ·simp only[lX]at hb;exact .inr ⟨m,by simp,hΘ b hb⟩
   ·cases k with
    |cl=>exact .inr ⟨m,by simp,(hd.2.1 b hb).1⟩
    |sh=>exact .inl (hd b hb)
    |uq=>exact .inl (hd b hb)
    |mv n=>exact .inl (hd b hb)
  ·rename_i sz rows u hH;cases h;obtain⟨_,_,v2,b2,hk2,hrd,_,I2⟩:=hs.ob m _ hH;rw[hk]at hk2;cases hk2;exact⟨b2,hrd,fun b hb=>.inr ⟨m,by simp,(I2 b hb).1⟩⟩
  ·rename_i rows hH;cases h;obtain⟨v2,b2,hk2,hrd,hz2⟩:=hs.ob m _ hH;rw[hk]at hk2;cases hk2;exact⟨b2,hrd,fun b hb=>.inl (hz2 b hb)⟩
  ·cases h
 |ptr=>simp[vwC]at h
 |op=>simp[vwC]at h
theorem a5x(hs:eO Γ st κ Θ a w):∀ {ds es:aR} {vs:br} {bs ms:af},WD st.H ds=some (es,ms)->fP w κ vs ds bs->(∀b∈bs,Θ b=0)->∃b',mZ w vs es b'/\∀b∈b',Seen Θ ms b:=by
 intro ds
 induction ds with
 |nil=>
  intro es vs bs ms h hr _;simp only[WD,az,cV]at h;obtain⟨rfl,rfl⟩:=h;cases hr;exact⟨[],.nil,by simp⟩
 |cons d ds ih=>
  intro es vs bs ms h hr hz;simp only[WD]at h;split at h
  ·rename_i e m es' ms' h1 h2;cases h;cases hr with
   |cons v vs _ _ b1 b2 hv hc hcs=>
    obtain⟨c1,q1,q2⟩:=a3q hs h1 hc (fun b hb=>hz b (by simp[hb]));obtain⟨c2,p1,p2⟩:=ih h2 hcs (fun b hb=>hz b (by simp[hb]));refine⟨c1++c2,.cons _ _ _ _ _ _ hv q1 p1,fun b hb=>?_⟩;rcases au.1 hb with hb|hb
    ·exact(q2 b hb).mono (fun m hm=>by simp[hm])
    ·exact(p2 b hb).mono (fun m hm=>by simp[hm])
  ·cases h
theorem a95(hs:eO Γ st κ Θ a w){v:Value}{d e:D}{bs ms:af}(h:vwV st.H d=some (e,ms))(hr:uB w κ v d bs)(hz:∀b∈bs,Θ b=0):∃b',Rd w v e b'/\∀b∈b',Seen Θ ms b:=by
 by_cases wC:∃ds,d=.agg ds
 ·obtain⟨ds,rfl⟩:=wC;obtain⟨cs,rfl,hcs⟩:=hr.IR;simp only[vwV]at h;split at h
  ·rename_i es ms' h1;cases h;obtain⟨b',q1,q2⟩:=a5x hs h1 hcs hz;exact⟨b',.agg _ _ _ q1,q2⟩
  ·cases h
 ·have hc:Ba w κ v d bs:=by
   cases hr with
   |v hr=>cases hr with
    |cell hr=>exact hr
    |agg=>exact absurd ⟨_,rfl⟩ wC
   |gZ=>simp[vwV]at h
  have e1:vwV st.H d=vwC st.H d:=by
   cases d<;>first|rfl|exact absurd ⟨_,rfl⟩ wC|simp[vwV]at h
  rw[e1]at h;exact a3q hs h hc hz
theorem QD(hs:eO Γ st κ Θ a w):∀ {xs:List Operand} {es:aR} {ms:af},MM st.H (xs.map st.ev)=some (es,ms)->∃b',Y8 w (xs.map a.eval) es b'/\∀b∈b',Seen Θ ms b:=by
 intro xs
 induction xs with
 |nil=>
  intro es ms h;simp only[bW,MM,az,cV]at h;obtain⟨rfl,rfl⟩:=h;exact⟨[],.nil,by simp⟩
 |cons x xs ih=>
  intro es ms h;simp only[bG,MM]at h;split at h
  ·rename_i e m es' ms' h1 h2;cases h;obtain⟨b0,r0,z0⟩:=hs.ev x;obtain⟨c1,q1,q2⟩:=a95 hs h1 r0 z0;obtain⟨c2,p1,p2⟩:=ih h2;refine⟨c1++c2,.cons _ _ _ _ _ _ q1 p1,fun b hb=>?_⟩;rcases au.1 hb with hb|hb
   ·exact(q2 b hb).mono (fun m hm=>by simp[hm])
   ·exact(p2 b hb).mono (fun m hm=>by simp[hm])
  ·cases h
def D.shC(d:D):D:=match d with
 | .fr _ _ rows=>.sl rows
 |d=>d
def D.shV(d:D):D:=match d with
 | .agg cs=>.agg (cs.map D.shC)
 |d=>d.shC
theorem wH.FH{w:World}:∀ {ds:aR} {vs:br} {bs:af},mZ w vs ds bs->wH w vs ds bs [] []:=by
 intro ds
 induction ds with
 |nil=>intro vs bs h;cases h;exact .nil
 |cons d ds ih=>
  intro vs bs h;cases h with
  |cons v vs _ _ b1 b2 h1 h2 h3=>exact .cons _ _ _ _ _ _ [] [] [] [] h1 (.pure h2) (ih h3)
theorem Ib.F3{w:World}{v:Value}{d:D}{bs ts us:af}(h:Ib w v d bs ts us):∃b,Rd w v d.shC b/\∀x∈b,x∈bs\/x∈us:=by
 cases h with
 |pure h=>
  have e:d.shC=d:=by cases h<;>rfl
  exact⟨_,e.symm▸h,fun x hx=>.inl hx⟩
 |fr e sz rows cs ns h1 h2 h3 h4 h5=>exact⟨_,yP h2 h3 h4,fun x hx=>.inr hx⟩
theorem wH.F3{w:World}{vs:br}{ds:aR}{bs ts us:af}(h:wH w vs ds bs ts us):∃b,mZ w vs (ds.map D.shC) b/\∀x∈b,x∈bs\/x∈us:=by
 induction h with
 |nil=>exact⟨_,.nil,by simp⟩
 |cons v vs d ds b1 b2 t1 t2 u1 u2 h1 h2 _ ih=>
  obtain⟨b,q,s⟩:=h2.F3;obtain⟨b',q',s'⟩:=ih;refine⟨_,.cons _ _ _ _ _ _ h1 q q',fun x hx=>?_⟩;rcases au.1 hx with h|h
  ·rcases s x h with h|h<;>simp[h]
  ·rcases s' x h with h|h<;>simp[h]
theorem Ic.F3{w:World}{v:Value}{d:D}{bs ts us:af}(h:Ic w v d bs ts us):∃b,Rd w v d.shV b/\∀x∈b,x∈bs\/x∈us:=by
 cases h with
 |cell h=>
  by_cases wC:∃ds,d=.agg ds
  ·obtain⟨ds,rfl⟩:=wC;cases h with
   |pure h=>cases h with
    |agg cs _ _ h=>
     obtain⟨b,q,s⟩:=(wH.FH h).F3;exact⟨_,.agg _ _ _ q,s⟩
  ·have e:d.shV=d.shC:=by cases d<;>first|rfl|exact absurd ⟨_,rfl⟩ wC
   rw[e];exact h.F3
 |agg cs ds bs ts us h=>
  obtain⟨b,q,s⟩:=h.F3;exact⟨_,.agg _ _ _ q,s⟩
def D.a0A(d:D):Bool:=match d with
 | .fr _ _ _=>true
 |d=>d.flat
def D.Vf(d:D):Bool:=match d with
 | .agg cs=>cs.all D.a0A
 |d=>d.a0A
def D.RN(d:D):Bool:=match d with
 | .gZ vs=>vs.all D.Vf
 |d=>d.Vf
def D.a8Y(d:D):Bool:=match d with
 | .gZ _=>false
 |d=>d.Vf
theorem Ib.own{v:Value}{d:D}{bs ts us:af}(h:Ib w v d bs ts us)(ho:d.a0A=true):bs=[]:=by
 cases h with
 |pure h=>exact h.flat (by cases h<;>exact ho)
 |fr=>rfl
theorem wH.own{vs:br}{ds:aR}{bs ts us:af}(h:wH w vs ds bs ts us)(ho:ds.all D.a0A=true):bs=[]:=by
 induction h with
 |nil=>rfl
 |cons v vs d ds b1 b2 t1 t2 u1 u2 h1 h2 _ ih=>
  simp only[dM,aY]at ho;rw[h2.own ho.1,ih ho.2];rfl
theorem Ic.own{v:Value}{d:D}{bs ts us:af}(h:Ic w v d bs ts us)(ho:d.Vf=true):bs=[]:=by
 cases h with
 |cell h=>
  by_cases wC:∃ds,d=.agg ds
  ·obtain⟨ds,rfl⟩:=wC;cases h with
   |pure h=>
    cases h with
    |agg cs _ _ h=>
     simp only[D.Vf]at ho;have:∀(es:aR) (vs:br) (b:af),mZ w vs es b->es.all D.a0A=true->es.all D.flat=true:=by
      intro es
      induction es with
      |nil=>intros;rfl
      |cons e es ih=>
       intro vs b hh ho;simp only[dM,aY]at ho⊢;cases hh with
       |cons v vs _ _ b1 b2 _ h2 h3=>exact⟨by cases h2<;>exact ho.1,ih _ _ h3 ho.2⟩
     exact mZ.flat h (this _ _ _ h ho)
  ·have e:d.Vf=d.a0A:=by cases d<;>first|rfl|exact absurd ⟨_,rfl⟩ wC
   exact h.own (e▸ho)
 |agg cs ds bs ts us h=>exact h.own ho
theorem DQ.own{vs:br}{ds:aR}{bs ts us:af}(h:DQ w vs ds bs ts us)(ho:ds.all D.Vf=true):bs=[]:=by
 induction h with
 |nil=>rfl
 |cons v vs d ds b1 b2 t1 t2 u1 u2 h2 _ ih=>
  simp only[dM,aY]at ho;rw[h2.own ho.1,ih ho.2];rfl
theorem EL.own{v:Value}{d:D}{bs ts us:af}(h:EL w v d bs ts us)(ho:d.RN=true):bs=[]:=by
 cases h with
 |v h=>
  have hnt:∀vs,d≠ .gZ vs:=by
   intro vs e;subst e;cases h with
   |cell h=>cases h with|pure h=>cases h
  have e:d.RN=d.Vf:=by cases d<;>first|rfl|exact absurd rfl (hnt _)
  exact h.own (e▸ho)
 |gZ vs ds bs ts us h=>exact h.own ho
theorem AV{o:Oper}{f:FuncId}{xs:Array Operand}{ts:Array TypeId}(hop:o.op=.call {callee:=.value (.func f),args:=xs,argTypes:=ts})
 (hf:∃fn,P.funcs[f]?=some fn/\fn.body.isSome=true/\(fn.name== "runtime.NumGoroutine")=false):
 (execOp a.eval o).run P w=.ok (.enter f (xs.map a.eval)) w:=by
 obtain⟨fn,h1,h2,h3⟩:=hf;have h2':¬fn.body=none:=by intro hb;simp[hb]at h2
 simp only[dH,ne_eq]at h3;simp[execOp,hop,resolve,Deferred.ofValue,Act.eval,invoke,callFunc,h1,h2',h3]
theorem Uw{Q':Exit->Act->World->Prop}{K:Act->World->Prop}{o:Oper}{f t:Nat}{xs:Array Operand}{ts:Array TypeId}{ds:aR}{ms:af}{d:D}(hs:eO Γ st κ Θ a w)
 (hop:o.op=.call {callee:=.value (.func f),args:=xs,argTypes:=ts}) (hd:o.dst=some t) (ht:t<Γ.nt) (hds:∃bs,Y8 w (xs.toList.map a.eval) ds bs/\∀b∈bs,Seen Θ ms b) (hsh:ms=[]\/d.RN=true)
 (pX:Good P f ds d) (hK:∀κ' Θ' a' w',eO Γ ⟨(t,(rW st.H.length d).1)::st.σ,st.H++(rW st.H.length d).2⟩ κ' Θ' a' w'->K a' w'):o.wp P a w K Q':=by
 obtain⟨bs,hargs,hz⟩:=hds;let Θc:Nat->Nat:=fun b=>if Θ b=0\/ms.any (fun m=>Θ b==m+2)then 0 else 1
 have PI:∀b,Seen Θ ms b->Θc b=0:=by
  intro b h;simp only[Θc];rw[bS];rcases h with h|⟨m,h1,h2⟩
  ·exact .inl h
  ·exact .inr (dR.2 ⟨m,h1,by simp[h2]⟩)
 have hc:=pX.2 w Θc _ bs hs.vok hargs (fun b hb=>PI b (hz b hb)) (fun b hb=>hs.own b (fun e=>hb (PI b (.inl e)))) (fun b=>by simp only[Θc];split<;>omega);unfold Oper.wp;rw[AV hop pX.1,Oper.upon_enter];have e:xs.map a.eval=(xs.toList.map a.eval).toArray:=by rw[<-jI,kj]
 rw[e];refine hc.mono ?_;rintro e w' ⟨v,bs',tb,ub,rfl,hb,hr,Rk,htb,hnd,hfr,hsub⟩;show K (a.put o.dst v) w';rw[hd];obtain⟨L,q1,q2,q3,q4,q5⟩:=hr.inst st.H.length;obtain⟨κ',Θ',hs',hnm,_,hno⟩:=hs.a5G hb L q2 (q3▸hnd) (fun b hb'=>hfr b (q3▸hb'));rw[q1]at hs';refine hK κ' Θ' _ w' (hs'.set (t:=t) ht (q5 κ' hnm) fun b hb'=>?_);rw[hno b (q4▸htb b hb')];rcases hsh with TT|hown
 ·by_cases hlt:b<w.heap.size
  ·have h0:=Rk b hb' hlt;simp only[Θc,TT,MS]at h0;by_cases h1:Θ b=0
   ·exact h1
   ·simp[h1]at h0
  ·by_cases h0:Θ b=0
   ·exact h0
   ·exact absurd (hs.own b h0) hlt
 ·rw[hr.own hown]at hb';cases hb'
theorem a4Z{Q':Exit->Act->World->Prop}{K:Act->World->Prop}{o:Oper}{f t:Nat}{xs:Array Operand}{ts:Array TypeId}{ds:aR}{ms:af}{d:D}(hs:eO Γ st κ Θ a w)
 (hop:o.op=.call {callee:=.value (.func f),args:=xs,argTypes:=ts}) (hd:o.dst=some t) (ht:t<Γ.nt) (hds:MM st.H (xs.toList.map st.ev)=some (ds,ms)) (hsh:ms=[]\/d.RN=true)
 (pX:Good P f ds d) (hK:∀κ' Θ' a' w',eO Γ ⟨(t,(rW st.H.length d).1)::st.σ,st.H++(rW st.H.length d).2⟩ κ' Θ' a' w'->K a' w'):o.wp P a w K Q':=
 Uw hs hop hd ht (QD hs hds) hsh pX hK
def PK(d:D):Bool:=match d with
 | .agg cs=>cs.all D.UW
 | .gZ _=>false
 |d=>d.UW
theorem a2R{v:Value}{d:D}{bs:af}(hr:uB w κ v d bs)(h:PK d=true):Rd w v d bs:=by
 by_cases wC:∃ds,d=.agg ds
 ·obtain⟨ds,rfl⟩:=wC;obtain⟨cs,rfl,hcs⟩:=hr.IR;exact .agg _ _ _ (hcs.pure h)
 ·have hp:d.UW=true:=by
   cases d<;>first|exact h|exact absurd ⟨_,rfl⟩ wC|simp[PK]at h
  cases hr with
  |v hr=>cases hr with
   |cell hr=>cases hr with
    |pure hr=>exact hr
    |acc=>simp[D.UW]at hp
    |ptr=>simp[D.UW]at hp
    |op=>simp[D.UW]at hp
   |agg=>exact absurd ⟨_,rfl⟩ wC
  |gZ=>simp[PK]at h
theorem Sa(hs:eO Γ st κ Θ a w):∀ {xs:List Operand},(xs.map st.ev).all PK=true->∃b',Y8 w (xs.map a.eval) (xs.map st.ev) b'/\∀b∈b',Seen Θ [] b:=by
 intro xs
 induction xs with
 |nil=>intro _;exact⟨[],.nil,by simp⟩
 |cons x xs ih=>
  intro h;simp only[bG,dM,aY]at h;obtain⟨b0,r0,z0⟩:=hs.ev x;obtain⟨c2,p1,p2⟩:=ih h.2;refine⟨b0++c2,.cons _ _ _ _ _ _ (a2R r0 h.1) p1,fun b hb=>?_⟩;rcases au.1 hb with hb|hb
  ·exact .inl (z0 b hb)
  ·exact p2 b hb
theorem a0y{o:Oper}{f t:Nat}{xs:Array Operand}{ts:Array TypeId}{d:D}(hop:o.op=.call {callee:=.value (.func f),args:=xs,argTypes:=ts})(hd:o.dst=some t)(hg:o.guard=none)
 (ht:t<Γ.nt) (hk:(xs.toList.map st.ev).all PK=true) (pX:Good P f (xs.toList.map st.ev) d)
 (h:AO P Γ all rest Q ⟨(t,(rW st.H.length d).1)::st.σ,st.H++(rW st.H.length d).2⟩):AO P Γ all (o::rest) Q st:=by
 intro κ Θ a w hs;exact wpList_plain hg fun K hK=>Uw hs hop hd ht (Sa hs hk) (.inl rfl) pX fun κ' Θ' a' w' hs'=>hK _ _ (h κ' Θ' a' w' hs')
theorem a4L{o:Oper}{f t:Nat}{xs:Array Operand}{ts:Array TypeId}{ds:aR}{ms:af}{d:D}(hop:o.op=.call {callee:=.value (.func f),args:=xs,argTypes:=ts})(hd:o.dst=some t)(hg:o.guard=none)
 (ht:t<Γ.nt) (hds:MM st.H (xs.toList.map st.ev)=some (ds,ms)) (hsh:ms=[]\/d.RN=true) (pX:Good P f ds d)
 (h:AO P Γ all rest Q ⟨(t,(rW st.H.length d).1)::st.σ,st.H++(rW st.H.length d).2⟩):AO P Γ all (o::rest) Q st:=by
 intro κ Θ a w hs;exact wpList_plain hg fun K hK=>a4Z hs hop hd ht hds hsh pX fun κ' Θ' a' w' hs'=>hK _ _ (h κ' Θ' a' w' hs')
def a2v(P:Program)(st:St):ResultVar->Option D
 | .tmp t=>some (lk st.σ t)
 | .cell x T=>match CL P T,lk st.σ x with
  |some ag,.ptr id off=>(match(st.H[id]?).bind Ob.ZX with|some cells=>KT ag (Be P T) cells off|none=>none)
  |_,_=>none
def FI(P:Program)(st:St):List ResultVar->Option aR
 | []=>some []
 |r::rs=>match a2v P st r,FI P st rs with|some d,some ds=>some (d::ds)|_,_=>none
def a2x(tmps:Array Value):ResultVar->Sem Value
 | .tmp t=>pure (tmps.getD t undef)
 | .cell a t=>do loadVar t (<-asAddr (tmps.getD a undef))
theorem results_eq(fn:Func)(tmps:Array Value):results fn tmps=(do let vs<-fn.results.mapM (a2x tmps);pure (if h:vs.size=1 then vs[0]else .tuple vs)):=by
 unfold results
 congr 1
theorem a2w(hs:eO Γ st κ Θ a w){r:ResultVar}{d:D}(h:a2v P st r=some d):
 ∃v bs,(a2x a.tmps r).run P w=.ok v w/\uB w κ v d bs/\∀b∈bs,Θ b=0:=by
 cases r with
 |tmp t=>
  simp only[a2v,az]at h;subst h;obtain⟨bs,hr,hz⟩:=hs.slot t;exact⟨_,bs,by simp[a2x],hr,hz⟩
 |cell x T=>
  have hp:pv P st (.load T (.tmp x))=some d:=by
   simp only[a2v]at h;split at h
   ·rename_i ag id off h1 h2;simp only[pv,h1,St.ev,h2];exact h
   ·cases h
  obtain⟨v,bs,hrun,hr,hz⟩:=R6 (o:= {(default:Oper)with op:=.load T (.tmp x)}) hs rfl hp;refine⟨v,bs,?_,hr,hz⟩;simp only[execOp,Act.eval]at hrun;have aD5:∃b off,a.tmps.getD x undef=.pointer (some ⟨b,off,none⟩):=by
   simp only[a2v]at h;split at h
   ·rename_i ag id off h1 h2;obtain⟨b0,r0,_⟩:=hs.slot x;rw[h2]at r0;obtain⟨g,_,hv⟩:=r0.Cr;exact⟨g,off,hv⟩
   ·cases h
  obtain⟨b,off,hv⟩:=aD5;simp only[a2x,hv]at hrun⊢;simp only[Instr.loadAt,Instr.sureAddr,Sem.run_bind,Sem.run_pure,Result.andThen_ok]at hrun;simp only[asAddr,Sem.run_bind,Sem.run_pure,Result.andThen_ok];cases hl:(loadVar T ⟨b,off,none⟩).run P w with
  |ok u w1=>simp only[hl,Result.andThen_ok,Result.ok.injEq,Next.value.injEq]at hrun;rw[hrun.1,hrun.2]
  |halt u w1=>simp[hl]at hrun
theorem IV(hs:eO Γ st κ Θ a w):∀ {rs:List ResultVar} {ds:aR},FI P st rs=some ds->
 ∃(vs:br) (bs:af),(rs.mapM (a2x a.tmps)).run P w=.ok vs w/\
  vs.length=rs.length/\ds.length=rs.length/\(∀(i:Nat) d,ds[i]?=some d->∃v b,vs[i]?=some v/\uB w κ v d b/\∀x∈b,x∈bs)/\∀b∈bs,Θ b=0:=by
 intro rs
 induction rs with
 |nil=>
  intro ds h;simp only[FI,az]at h;subst h;exact⟨[],[],by simp,rfl,rfl,by simp,by simp⟩
 |cons r rs ih=>
  intro ds h;simp only[FI]at h;split at h
  ·rename_i d ds' h1 h2;cases h;obtain⟨v,b,k1,k2,k3⟩:=a2w hs h1;obtain⟨vs,bs,m1,m2,m3,m4,m5⟩:=ih h2;refine⟨v::vs,b++bs,?_,by simp[m2],by simp[m3],?_,?_⟩
   ·simp only[GK,Sem.run_bind,k1,Result.andThen_ok,m1,Sem.run_pure]
   ·intro i x hx;cases i with
    |zero=>simp at hx;subst hx;exact⟨v,b,by simp,k2,by intro y hy;simp[hy]⟩
    |succ i=>
     simp at hx;obtain⟨u,b',q1,q2,q3⟩:=m4 i x hx;exact⟨u,b',by simpa using q1,q2,fun y hy=>by simp[q3 y hy]⟩
   ·intro y hy;rcases au.1 hy with hy|hy
    ·exact k3 y hy
    ·exact m5 y hy
  ·cases h
def CG:aR->D
 | [d]=>d
 |ds=>.gZ ds
def Cj:Nat->aR->List (Nat×D)
 |_,[]=>[]
 |k,d::ds=>(k,d)::Cj (k+1) ds
theorem Nn:∀(ds:aR) (k t:Nat),lk (Cj k ds) t=if t<k then .any else(ds[t-k]?).getD .any:=by
 intro ds
 induction ds with
 |nil=>intro k t;simp[Cj,lk]
 |cons d ds ih=>
  intro k t;simp only[Cj,lk];by_cases h:t=k
  ·subst h;simp
  ·rw[bH h,ih];by_cases h1:t<k
   ·rw[bS (by omega),bS h1]
   ·rw[bH (by omega),bH h1];have:t-k=(t-(k+1))+1:=by omega
    rw[this,ew]
theorem Y8.at{vs:br}{ds:aR}{bs:af}(h:Y8 w vs ds bs):vs.length=ds.length/\∀(i:Nat) d,ds[i]?=some d->∃v b,vs[i]?=some v/\Rd w v d b/\∀x∈b,x∈bs:=by
 induction ds generalizing vs bs with
 |nil=>cases h;exact⟨rfl,by simp⟩
 |cons e ds ih=>
  cases h with
  |cons v vs _ _ b1 b2 h2 h3=>
   obtain⟨l,hi⟩:=ih h3;refine⟨by simp[l],fun i d hd=>?_⟩;cases i with
   |zero=>simp at hd;subst hd;exact⟨v,b1,by simp,h2,by intro x hx;simp[hx]⟩
   |succ i=>
    simp at hd;obtain⟨u,b,k1,k3,k4⟩:=hi i d hd;exact⟨u,b,by simpa using k1,k3,fun x hx=>by simp[k4 x hx]⟩
def dY(d:D):Prop:=∃w v bs,Rd w v d bs
theorem dY.str{s:Bytes}(h:dY (.str s)):s.length<=maxLen:=by
 obtain⟨w,v,bs,h⟩:=h;cases h with|str x hx=>simpa using hx
theorem mZ.rdb{vs:br}{ds:aR}{bs:af}(h:mZ w vs ds bs):∀d∈ds,dY d:=by
 intro d hd;obtain⟨i,hi,rfl⟩:=eS.1 hd;obtain⟨v,b,_,_,hr,_⟩:=h.at (ai hi);exact⟨w,v,b,hr⟩
theorem dY.agg{ds:aR}(h:dY (.agg ds)):∀d∈ds,dY d:=by
 obtain⟨w,v,bs,h⟩:=h;cases h with|agg cs _ _ hx=>exact hx.rdb
theorem dY.sl{rows:List aR}(h:dY (.sl rows)):rows.length<=maxLen/\∀r∈rows,∀d∈r,dY d:=by
 obtain⟨w,v,bs,h⟩:=h;cases h with
 |BE=>simp
 |pQ=>simp
 |sl b off cap sz _ cs bs hb h1 h2 h3 h4 h5=>
  exact⟨by omega,fun r hr d hd=>h5.rdb d (dw.2 ⟨r,hr,hd⟩)⟩
theorem Y8.rdb{vs:br}{ds:aR}{bs:af}(h:Y8 w vs ds bs):∀d∈ds,dY d:=by
 intro d hd;obtain⟨i,hi,rfl⟩:=eS.1 hd;obtain⟨v,b,_,hr,_⟩:=h.at.2 i _ (ai hi);exact⟨w,v,b,hr⟩
def a2k(z:Option (Nat×Nat))(d:D):D:=match d,z with
 | .nil,some (e,sz+1)=>.fr e (sz+1) []
 |d,_=>d.KX
def GG(H:bX)(z:Option (Nat×Nat))(d:D):Option (D×af×af):=match d with
 | .acc m=>(match H[m]? with|some (.row k e sz rows)=>(match k with| .uq=>some (.fr e sz rows,[],[m])| .sh=>some (.sl rows,[m],[])| .cl=>none| .mv _=>none)|_=>none)
 | .ptr _ _=>none
 | .op _ _ _ _=>none
 | .agg _=>none
 | .gZ _=>none
 |d=>some (a2k z d,[],[])
def PT(H:bX):List (Option (Nat×Nat))->aR->Option (aR×af×af)
 |_,[]=>some ([],[],[])
 |zs,d::ds=>match GG H zs.head?.join d,PT H zs.tail ds with|some (e,m,q),some (es,ms,qs)=>some (e::es,m++ms,q++qs)|_,_=>none
def XY(H:bX)(zs:List (Option (Nat×Nat)))(d:D):Option (D×af×af):=match d with
 | .agg cs=>(match PT H zs cs with|some (es,ms,qs)=>some (.agg es,ms,qs)|none=>none)
 |d=>GG H zs.head?.join d
def E7(H:bX):List (List (Option (Nat×Nat)))->aR->Option (aR×af×af)
 |_,[]=>some ([],[],[])
 |zs,d::ds=>match XY H (zs.head?.getD []) d,E7 H zs.tail ds with|some (e,m,q),some (es,ms,qs)=>some (e::es,m++ms,q++qs)|_,_=>none
def WV(P:Program)(fn:Func)(d:D)(e:Exit)(st:St):Prop:=
 (e=.ret\/e=.normal)/\∃nz ds es ms qs,FI P st fn.results.toList=some ds/\E7 st.H nz ds=some (es,ms,qs)/\ms.Nodup/\qs.Nodup/\CG es=d
structure RP(Θ ρ:Nat->Nat)(qs bs ts us:List Nat):Prop where
 zero:∀b∈bs,Θ b=0
 top:∀b∈ts,(∃m∈qs,Θ b=m+2)/\b∈us
 mem:∀b∈us,b∈ts\/∃m∈qs,ρ b=m+1
 nd:us.Nodup
theorem RP.nil{ρ:Nat->Nat}{bs:af}(h:∀b∈bs,Θ b=0):RP Θ ρ [] bs [] []:=⟨h,by simp,by simp,by simp⟩
theorem RP.app{ρ:Nat->Nat}{q1 q2 b1 b2 t1 t2 u1 u2:af}(hf:∀b,ρ b≠0->Θ b=0)(hq:(q1++q2).Nodup)(h1:RP Θ ρ q1 b1 t1 u1)(h2:RP Θ ρ q2 b2 t2 u2):RP Θ ρ (q1++q2) (b1++b2) (t1++t2) (u1++u2):=by
 refine⟨fun b hb=>?_,fun b hb=>?_,fun b hb=>?_,bO.2 ⟨h1.nd,h2.nd,fun x hx y hy e=>?_⟩⟩
 ·rcases au.1 hb with hb|hb
  ·exact h1.zero b hb
  ·exact h2.zero b hb
 ·rcases au.1 hb with hb|hb
  ·obtain⟨⟨m,p,q⟩,r⟩:=h1.top b hb;exact⟨⟨m,by simp[p],q⟩,by simp[r]⟩
  ·obtain⟨⟨m,p,q⟩,r⟩:=h2.top b hb;exact⟨⟨m,by simp[p],q⟩,by simp[r]⟩
 ·rcases au.1 hb with hb|hb
  ·rcases h1.mem b hb with h|⟨m,p,q⟩
   ·exact .inl (by simp[h])
   ·exact .inr ⟨m,by simp[p],q⟩
  ·rcases h2.mem b hb with h|⟨m,p,q⟩
   ·exact .inl (by simp[h])
   ·exact .inr ⟨m,by simp[p],q⟩
 ·subst e;have hd:=(bO.1 hq).2.2;rcases h1.mem x hx with hx|⟨m,p,q⟩
  ·obtain⟨⟨m,p,q⟩,_⟩:=h1.top x hx;rcases h2.mem x hy with hy|⟨m',p',q'⟩
   ·obtain⟨⟨m',p',q'⟩,_⟩:=h2.top x hy;exact hd m p m' p' (by omega)
   ·have:=hf x (by omega);omega
  ·rcases h2.mem x hy with hy|⟨m',p',q'⟩
   ·obtain⟨⟨m',p',q'⟩,_⟩:=h2.top x hy;have:=hf x (by omega);omega
   ·exact hd m p m' p' (by omega)
theorem Vd(z:Option (Nat×Nat)){v:Value}{d:D}{b0:af}(hr:Rd w v d b0):∃bs,Ib w v (a2k z d) bs [] []/\∀b∈bs,b∈b0:=by
 unfold a2k;split
 ·rename_i e sz;cases hr;refine⟨[],?_,by simp⟩;have:=Ib.fr (w:=w) (.slice none 0 0) e (sz+1) [] [] [] (Nat.succ_pos _) (by simp) (World.ownsRow_nil w 0 e (sz+1)) .nil rfl;simpa[Value.ownBlock]using this
 ·exact⟨b0,.pure hr.soft,fun _ h=>h⟩
section
variable{H:bX}{ρ:Nat->Nat}(hf:∀b,ρ b≠0->Θ b=0)
 (hq:∀m e sz rows,H[m]?=some (.row .uq e sz rows)->∃v cs ns,κ m=some v/\0<sz/\(∀r∈rows,r.length=sz)/\w.ownsRow 0 e sz v rows.length cs/\mZ w cs rows.flatten ns/\ns.Nodup/\(∀b∈ns,ρ b=m+1)/\∀g,v.ownBlock=some g->Θ g=m+2)
include hf hq
theorem Vj{z:Option (Nat×Nat)}{d e:D}{ms qs:af}{v:Value}{b0:af}(h:GG H z d=some (e,ms,qs))(hone:v.oneCell'=true)(hr:Ba w κ v d b0)(hz:∀b∈b0,Θ b=0)
 (hm:∀m∈ms,∀k e sz rows,H[m]?=some (.row k e sz rows)->Bk κ Θ ρ w m k rows):∃bs ts us,Ib w v e bs ts us/\RP Θ ρ qs bs ts us:=by
 cases hr with
 |pure hr=>
  have:GG H z d=some (a2k z d,[],[]):=by cases hr<;>first|rfl|simp[GG]at h
  rw[this]at h;cases h;obtain⟨bs,hb,Rk⟩:=Vd z hr;exact⟨bs,[],[],hb,RP.nil (fun b hb'=>hz b (Rk b hb'))⟩
 |acc m _ hk=>
  simp only[GG]at h;split at h
  ·rename_i k e' sz rows hH;split at h
   ·cases h;obtain⟨v2,cs,ns,r1,r2,r3,r4,r5,r6,r7,r8⟩:=hq m _ _ _ hH;rw[hk]at r1;cases r1;refine⟨[],_,_,.fr v _ _ _ cs ns r2 r3 r4 r5 hone,by simp,fun b hb=>?_,fun b hb=>?_,?_⟩
    ·simp only[lX]at hb;exact⟨⟨m,by simp,r8 b hb⟩,by simp[hb]⟩
    ·rcases au.1 hb with hb|hb
     ·exact .inl hb
     ·exact .inr ⟨m,by simp,r7 b hb⟩
    ·refine bO.2 ⟨by cases v.ownBlock<;>simp,r6,fun x hx y hy exy=>?_⟩;subst exy;simp only[lX]at hx;have h1:=r8 x hx;have h2:=hf x (by rw[r7 x hy];omega);omega
   ·cases h;obtain⟨v2,bs,r1,r2,r3,_⟩:=hm m (by simp) _ _ _ _ hH;rw[hk]at r1;cases r1;exact⟨bs,[],[],.pure r2,RP.nil r3⟩
   ·cases h
   ·cases h
  ·cases h
 |ptr=>simp[GG]at h
 |op=>simp[GG]at h
theorem a0F:∀ {ds es:aR} {zs:List (Option (Nat×Nat))} {ms qs:af} {vs:br} {b0:af},PT H zs ds=some (es,ms,qs)->qs.Nodup->fP w κ vs ds b0->(∀b∈b0,Θ b=0)->
 (∀m∈ms,∀k e sz rows,H[m]?=some (.row k e sz rows)->Bk κ Θ ρ w m k rows)->∃bs ts us,wH w vs es bs ts us/\RP Θ ρ qs bs ts us:=by
 intro ds
 induction ds with
 |nil=>
  intro es zs ms qs vs b0 h _ hr _ _;simp only[PT,az,cV]at h;obtain⟨rfl,rfl,rfl⟩:=h;cases hr;exact⟨[],[],[],.nil,RP.nil (by simp)⟩
 |cons d ds ih=>
  intro es zs ms qs vs b0 h hnd hr hz hm;simp only[PT]at h;split at h
  ·rename_i e m q es' ms' qs' h1 h2;cases h;cases hr with
   |cons v vs _ _ b1 b2 hv hc hcs=>
    obtain⟨c1,t1,u1,q1,q2⟩:=Vj hf hq h1 hv hc (fun b hb=>hz b (by simp[hb])) (fun x hx=>hm x (by simp[hx]));obtain⟨c2,t2,u2,p1,p2⟩:=ih h2 (bO.1 hnd).2.1 hcs (fun b hb=>hz b (by simp[hb])) (fun x hx=>hm x (by simp[hx]));exact⟨_,_,_,.cons _ _ _ _ _ _ _ _ _ _ hv q1 p1,RP.app hf hnd q2 p2⟩
  ·cases h
theorem a2z(hk1:∀(i:Nat) u,κ i=some u->u.oneCell'=true){zs:List (Option (Nat×Nat))}{d e:D}{ms qs:af}{v:Value}{b0:af}(h:XY H zs d=some (e,ms,qs))(hnd:qs.Nodup)(hr:uB w κ v d b0)(hz:∀b∈b0,Θ b=0)
 (hm:∀m∈ms,∀k e sz rows,H[m]?=some (.row k e sz rows)->Bk κ Θ ρ w m k rows):∃bs ts us,Ic w v e bs ts us/\RP Θ ρ qs bs ts us:=by
 by_cases wC:∃ds,d=.agg ds
 ·obtain⟨ds,rfl⟩:=wC;obtain⟨cs,rfl,hcs⟩:=hr.IR;simp only[XY]at h;split at h
  ·rename_i es ms' qs' h1;cases h;obtain⟨bs,ts,us,q1,q2⟩:=a0F hf hq h1 hnd hcs hz hm;exact⟨bs,ts,us,.agg _ _ _ _ _ q1,q2⟩
  ·cases h
 ·have e1:XY H zs d=GG H zs.head?.join d:=by cases d<;>first|rfl|exact absurd ⟨_,rfl⟩ wC
  rw[e1]at h;have hc:Ba w κ v d b0:=by
   cases hr with
   |v hr=>cases hr with
    |cell hr=>exact hr
    |agg=>exact absurd ⟨_,rfl⟩ wC
   |gZ=>simp[GG]at h
  cases hc with
  |pure hr=>
   have:GG H zs.head?.join d=some (a2k zs.head?.join d,[],[]):=by cases hr<;>first|rfl|simp[GG]at h
   rw[this]at h;cases h;obtain⟨bs,hb,Rk⟩:=Vd zs.head?.join hr;exact⟨bs,[],[],.cell hb,RP.nil (fun b hb'=>hz b (Rk b hb'))⟩
  |acc m _ hk=>
   obtain⟨bs,ts,us,q1,q2⟩:=Vj hf hq h (hk1 _ _ hk) (.acc m _ hk) (by simp) hm;exact⟨bs,ts,us,.cell q1,q2⟩
  |ptr=>simp[GG]at h
  |op=>simp[GG]at h
theorem IW(hk1:∀(i:Nat) u,κ i=some u->u.oneCell'=true):∀ {ds es:aR} {zs:List (List (Option (Nat×Nat)))} {ms qs:af} {vs:br},E7 H zs ds=some (es,ms,qs)->qs.Nodup->vs.length=ds.length->
 (∀(i:Nat) d,ds[i]?=some d->∃v b,vs[i]?=some v/\uB w κ v d b/\∀x∈b,Θ x=0)->
 (∀m∈ms,∀k e sz rows,H[m]?=some (.row k e sz rows)->Bk κ Θ ρ w m k rows)->∃bs ts us,DQ w vs es bs ts us/\RP Θ ρ qs bs ts us:=by
 intro ds
 induction ds with
 |nil=>
  intro es zs ms qs vs h _ hl _ _;simp only[E7,az,cV]at h;obtain⟨rfl,rfl,rfl⟩:=h;cases vs with
  |nil=>exact⟨[],[],[],.nil,RP.nil (by simp)⟩
  |cons=>simp at hl
 |cons d ds ih=>
  intro es zs ms qs vs h hnd hl hr hm;simp only[E7]at h;split at h
  ·rename_i e m q es' ms' qs' h1 h2;cases h;cases vs with
   |nil=>simp at hl
   |cons v vs=>
    obtain⟨v',b0,hv',hr0,Ab⟩:=hr 0 d rfl;simp at hv';subst hv';obtain⟨c1,t1,u1,q1,q2⟩:=a2z hf hq hk1 h1 (bO.1 hnd).1 hr0 Ab (fun x hx=>hm x (by simp[hx]));obtain⟨c2,t2,u2,p1,p2⟩:=ih h2 (bO.1 hnd).2.1 (by simpa using hl) (fun i d' MO=>by
     obtain⟨v',b,k1,k2⟩:=hr (i+1) d' (by simpa using MO);exact⟨v',b,by simpa using k1,k2⟩) (fun x hx=>hm x (by simp[hx]))
    exact⟨_,_,_,.cons _ _ _ _ _ _ _ _ _ _ q1 p1,RP.app hf hnd q2 p2⟩
  ·cases h
end
theorem RW{H:bX}{z:Option (Nat×Nat)}{d e:D}{ms qs:af}(h:GG H z d=some (e,ms,qs)):(∀m∈ms,∃e sz rows,H[m]?=some (.row .sh e sz rows))/\∀m∈qs,∃e sz rows,H[m]?=some (.row .uq e sz rows):=by
 cases d with
 |acc m=>
  simp only[GG]at h;split at h
  ·rename_i k e' sz rows hH;split at h
   ·cases h;exact⟨by simp,fun m' hm'=>by simp at hm';subst hm';exact⟨_,_,_,hH⟩⟩
   ·cases h;exact⟨fun m' hm'=>by simp at hm';subst hm';exact⟨_,_,_,hH⟩,by simp⟩
   ·cases h
   ·cases h
  ·cases h
 |_=>simp[GG]at h<;>(try(obtain⟨_,rfl,rfl⟩:=h;simp))
theorem Vk{H:bX}:∀ {ds es:aR} {zs:List (Option (Nat×Nat))} {ms qs:af},PT H zs ds=some (es,ms,qs)->(∀m∈ms,∃e sz rows,H[m]?=some (.row .sh e sz rows))/\∀m∈qs,∃e sz rows,H[m]?=some (.row .uq e sz rows):=by
 intro ds
 induction ds with
 |nil=>intro es zs ms qs h;simp only[PT,az,cV]at h;obtain⟨rfl,rfl,rfl⟩:=h;simp
 |cons d ds ih=>
  intro es zs ms qs h;simp only[PT]at h;split at h
  ·rename_i e m q es' ms' qs' h1 h2;cases h;have a1:=RW h1;have a2:=ih h2;refine⟨fun x hx=>?_,fun x hx=>?_⟩<;>rcases au.1 hx with hx|hx
   ·exact a1.1 x hx
   ·exact a2.1 x hx
   ·exact a1.2 x hx
   ·exact a2.2 x hx
  ·cases h
theorem XZ{H:bX}{zs:List (Option (Nat×Nat))}{d e:D}{ms qs:af}(h:XY H zs d=some (e,ms,qs)):(∀m∈ms,∃e sz rows,H[m]?=some (.row .sh e sz rows))/\∀m∈qs,∃e sz rows,H[m]?=some (.row .uq e sz rows):=by
 by_cases wC:∃ds,d=.agg ds
 ·obtain⟨ds,rfl⟩:=wC;simp only[XY]at h;split at h
  ·rename_i es ms' qs' h1;cases h;exact Vk h1
  ·cases h
 ·have e1:XY H zs d=GG H zs.head?.join d:=by cases d<;>first|rfl|exact absurd ⟨_,rfl⟩ wC
  rw[e1]at h;exact RW h
theorem Cs{H:bX}:∀ {ds es:aR} {zs:List (List (Option (Nat×Nat)))} {ms qs:af},E7 H zs ds=some (es,ms,qs)->(∀m∈ms,∃e sz rows,H[m]?=some (.row .sh e sz rows))/\∀m∈qs,∃e sz rows,H[m]?=some (.row .uq e sz rows):=by
 intro ds
 induction ds with
 |nil=>intro es zs ms qs h;simp only[E7,az,cV]at h;obtain⟨rfl,rfl,rfl⟩:=h;simp
 |cons d ds ih=>
  intro es zs ms qs h;simp only[E7]at h;split at h
  ·rename_i e m q es' ms' qs' h1 h2;cases h;have a1:=XZ h1;have a2:=ih h2;refine⟨fun x hx=>?_,fun x hx=>?_⟩<;>rcases au.1 hx with hx|hx
   ·exact a1.1 x hx
   ·exact a2.1 x hx
   ·exact a1.2 x hx
   ·exact a2.2 x hx
  ·cases h
theorem Good.of{f:FuncId}{fn:Func}{c:Code}{ds:aR}{d:D}(hf:P.funcs[f]?=some fn)(hb:fn.body=some c)(hn:(fn.name== "runtime.NumGoroutine")=false)
 (hl:ds.length<=fn.ntmps) (h:(∀d∈ds,dY d)->∀Γ:w5,Γ.nt=fn.ntmps->AW P Γ c (WV P fn d) ⟨Cj 0 ds,[]⟩):Good P f ds d:=by
 refine⟨⟨fn,hf,by simp[hb],hn⟩,?_⟩;intro w Θ args bs hvs hargs hz hown h1;obtain⟨hlen,hat⟩:=hargs.at;refine calls_of_wp hf hb ?_;let Γ:w5:=⟨w,Θ,fun _=>False,fn.ntmps,fun _=>False,hvs⟩
 have hs:eO Γ ⟨Cj 0 ds,[]⟩ (fun _=>none) Θ {tmps:=args.toArray++Array.replicate (fn.ntmps-args.toArray.size) undef,defers:=[]} w:=by
  refine⟨rfl,?_,fun _ _=>rfl,by simp,?_,by simp,hown,fun b _ _=>⟨rfl,h1 b⟩,fun b hb=>by have:=h1 b;omega,⟨rfl,rfl,rfl,bR _,fun _ _ _=>rfl⟩,⟨fun _=>0,by simp,by simp,by simp⟩⟩
  ·simp[Γ];omega
  ·intro t;rw[Nn];simp only[Af,DP,BH];cases hd:ds[t]? with
   |none=>exact⟨[],.of (.any _),by simp⟩
   |some x=>
    obtain⟨v,b,k1,k2,k3⟩:=hat t x hd;refine⟨b,?_,fun y hy=>hz y (k3 y hy)⟩;have hlt:t<args.length:=(aH.1 k1).1;have:(args.toArray++Array.replicate (fn.ntmps-args.toArray.size) undef).getD t undef=v:=by
     rw[cO,gB (by simpa using hlt)];simp[k1]
    rw[this];exact .of k2
 refine wp_mono (h hargs.rdb Γ rfl _ _ _ _ hs) ?_;rintro e a' w' ⟨WR,κ0,Θ0,hs0,Nf,nz,ds0,es,ms,qs,hres,hrv,TT,Qs,rfl⟩;obtain⟨ρ0,hu0⟩:=hs0.wq;have K9:=Cs hrv;obtain⟨Θ1,ρ1,hs1,hu1,hm1,VK,Zo⟩:=eO.Q9 ms hs0 hu0 TT (fun m hm=>by
  obtain⟨e,sz,rows,hH⟩:=K9.1 m hm;exact⟨_,e,sz,rows,hH,rfl⟩)
 obtain⟨vs,bs',m1,m2,m3,m4,m5⟩:=IV hs0 hres;have hq:∀m e sz rows,WR.H[m]?=some (.row .uq e sz rows)->∃v cs ns,κ0 m=some v/\0<sz/\(∀r∈rows,r.length=sz)/\w'.ownsRow 0 e sz v rows.length cs/\mZ w' cs rows.flatten ns/\ns.Nodup/\(∀b∈ns,ρ1 b=m+1)/\∀g,v.ownBlock=some g->Θ1 g=m+2:=by
  intro m e sz rows hH;have hnm:m∉ms:=fun hm=>by
   obtain⟨e',sz',dQ,M7⟩:=K9.1 m hm;rw[hH]at M7;cases M7
  have WL:(kill WR.H ms)[m]?=some (.row .uq e sz rows):=by rw[ju hnm];exact hH
  obtain⟨v,cs,ns,r1,r2,r3,r4,r5⟩:=hu1.rows m e sz rows WL;obtain⟨p1,p2,v2,_,_,p3,_,_,p4,_⟩:=hs1.ob m _ WL;rw[r1]at p3;cases p3;exact⟨v,cs,ns,r1,p1,p2,r2,r3,r4,r5,p4⟩
 obtain⟨c,ts,us,PG,Ng⟩:=IW (w:=w') (vs:=vs) (fun b hb=>(hu1.free b hb).1) hq hs0.qp hrv Qs (by omega) (fun i d hd=>by
  obtain⟨v,b,k1,k2,k3⟩:=m4 i d hd;exact⟨v,b,k1,k2,fun x hx=>VK x (m5 x (k3 x hx))⟩) hm1
 have Oj:∃v,(results fn a'.tmps).run P w'=.ok v w'/\EL w' v (CG es) c ts us:=by
  have hrun:(results fn a'.tmps).run P w'=.ok (if h:vs.toArray.size=1 then vs.toArray[0]else .tuple vs.toArray) w':=by
   rw[results_eq,qt];simp[m1]
  cases PG with
  |nil=>exact⟨.tuple #[],by simpa using hrun,.gZ [] [] [] [] [] .nil⟩
  |cons v vs d es b1 b2 t1 t2 u1 u2 hv xp=>
   cases xp with
   |nil=>
    simp only[cN];exact⟨v,by simpa using hrun,.v hv⟩
   |cons v2 vs d2 es b3 b4 t3 t4 u3 u4 VJ xp=>exact⟨.tuple (v::v2::vs).toArray,by simpa using hrun,.gZ _ _ _ _ _ (.cons _ _ _ _ _ _ _ _ _ _ hv (.cons _ _ _ _ _ _ _ _ _ _ VJ xp))⟩
 obtain⟨v,a1q,XA⟩:=Oj;have Wz:Below w.heap.size w w':=⟨hs1.stays.os,hs1.stays.tape,hs1.stays.output,hs1.stays.size,fun b hb=>hs1.stays.block b hb (fun h=>h)⟩
 have PF:∀b,Cz Γ b->w.heap.size<=b:=fun b h=>by
  rcases h with h|h
  ·exact h
  ·exact h.elim
 have hwr:∀b∈us,w.heap.size<=b/\Wr w' b:=by
  intro b hb';rcases Ng.mem b hb' with h|⟨m,hm,hρ⟩
  ·obtain⟨⟨m,hm,hΘ⟩,_⟩:=Ng.top b h;refine⟨PF b (hs1.mine b (by omega)),?_⟩;obtain⟨e,sz,rows,hH⟩:=K9.2 m hm;have:=Ng;exact Ud XA b h
  ·have:=hu1.free b (by omega);exact⟨this.2.1.elim (PF b) False.elim,this.2.2⟩
 have post:a'.defers=[]/\∃v,(results fn a'.tmps).run P w'=.ok v w'/\∃u bs' ts us,Ending.returned v=.returned u/\Below w.heap.size w w'/\EL w' u (CG es) bs' ts us/\(∀b∈bs',b<w.heap.size->Θ b=0)/\(∀b∈bs',b∉ts)/\us.Nodup/\
  (∀b∈us,w.heap.size<=b/\Wr w' b)/\∀b∈ts,b∈us:=by
  refine⟨hs0.defers,v,a1q,v,c,ts,us,rfl,Wz,XA,fun b hb' hlt=>?_,fun b hb' ht=>?_,Ng.nd,hwr,fun b hb'=>(Ng.top b hb').2⟩
  ·have he:Θ1 b=Θ b:=(hs1.old b hlt (fun h=>h)).1;rw[<-he];exact Ng.zero b hb'
  ·obtain⟨⟨m,_,hΘ⟩,_⟩:=Ng.top b ht;have:=Ng.zero b hb';omega
 rcases Nf with rfl|rfl
 ·exact post
 ·exact post
end
end Go.Cx
