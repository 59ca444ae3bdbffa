/- The core of an abstract reading of Go's data: what a value shows in memory (D), which blocks it uses, and that this stays where those blocks stay. No condition; plain lemmas. -/
import Derived.WalkKit
import Derived.ProofKit
import Derived.Deep.LoopGhost
import Derived.MapKept
import Derived.Great.BuildSlice
import Derived.Maps.AppendAt
import Derived.StillTail
set_option linter.unusedVariables false
set_option linter.unusedSimpArgs false
namespace Go.Cx
open Go.RowKit
set_option linter.defProp false
def aA:=@Option.bind_some
def aE:=@List.mem_of_getElem?
def aF:=@cond_true
def aL:=@cond_false
def aN:=@List.getElem?_eq_some_iff
def aQ:=@List.length_cons
def aS:=@Bool.and_eq_true
def aW:=@List.mem_append
def aj:=@List.length_map
def au:=@decide_eq_true
def av:=@List.getElem?_eq_getElem
def ax:=@decide_eq_false
def b8:=@List.all_eq_true
def bA:=@List.map_cons
def bB:=@List.length_append
def bC:=@Option.some.injEq
def bE:=@if_neg
def bH:=@decide_eq_true_eq
def bI:=@List.map_append
def bJ:=@List.getElem?_append_left
def bP:=@if_pos
def bS:=@Array.getElem?_eq_some_iff
def bU:=@Bool.not_true
def bV:=@List.mem_cons
def bW:=@List.getElem?_append_right
def bh:=@of_decide_eq_true
def br:=@Nat.le_refl
def bt:=@Bool.not_false
def cB:=@List.mem_flatMap
def cC:=@List.nodup_append
def cD:=@List.map_drop
def cE:=@List.length_nil
def cF:=@List.map_nil
def cH:=@List.mem_singleton
def cI:=@List.map_take
def cJ:=@List.mem_map
def cK:=@Bool.eq_iff_iff
def cO:=@List.mem_of_mem_take
def cR:=@List.getElem?_map
def cT:=@List.mem_range
def cU:=@List.length_take
def cW:=@Array.getD_eq_getD_getElem?
def cY:=@Nat.zero_add
def cc:=@List.take_append_drop
def cr:=@beq_iff_eq
def cw:=@List.flatMap_cons
def cy:=@List.foldl_cons
def cz:=@List.getElem?_set_ne
def dA:=@beq_eq_false_iff_ne
def dB:=@Array.getElem?_eq_getElem
def dG:=@Prod.mk.injEq
def dH:=@List.append_assoc
def dJ:=@List.eq_nil_of_length_eq_zero
def dK:=@Classical.byContradiction
def dM:=@Option.map_some
def dP:=@List.getElem?_take
def dQ:=@List.mem_filterMap
def dU:=@List.getElem?_eq_none
def dV:=@List.append_nil
def dY:=@Nat.mul_le_mul_left
def dw:=@List.length_singleton
def eD:=@List.all_cons
def eM:=@List.nil_append
def eR:=@Nat.lt_of_lt_of_le
def eX:=@List.getElem?_set_self
def eY:=@Nat.le_trans
def ed:=@List.any_eq_true
def fL:=@Bool.true_and
def fM:=@List.mem_of_mem_drop
def fN:=@Nat.mul_le_mul_right
def fU:=@Array.getElem?_append_left
def gO:=@List.getElem?_drop
def gP:=@Option.isSome_iff_exists
def gj:=@Nat.lt_or_ge
def gu:=@List.mem_filter
def gw:=@List.nodup_cons
def gy:=@List.filter_cons_of_neg
def gz:=@List.filter_cons_of_pos
def hG:=@List.getElem?_cons_succ
def iJ:=@List.flatten_cons
def iK:=@List.getElem?_set
def iN:=@List.getElem?_of_mem
def j5:=@List.getElem_mem
def jI:=@Option.mem_toList
def jN:=@Nat.add_sub_cancel_left
def jR:=@List.drop_drop
def jS:=@List.mem_iff_getElem
def jr:=@List.drop_left'
def js:=@List.length_set
def jt:=@Nat.min_eq_left
def k6:=@List.eq_nil_iff_forall_not_mem
def k7:=@List.mem_reverse
def k8:=@List.take_of_length_le
def kR:=@List.flatten_append
def kw:=@Bool.not_eq_true'
def kx:=@Int.toNat_natCast
def kz:=@Prod.mk.inj
def lC:=@Array.getElem?_toList
def lD:=@List.getElem?_toArray
def lE:=@List.length_filter_le
def lF:=@Nat.le_of_ble_eq_true
def lP:=@List.take_left'
def lQ:=@Option.some.inj
def lY:=@List.pairwise_cons
def mL:=@Array.toList_map
def mM:=@List.length_drop
def nG:=@List.cons.inj
def nH:=@Nat.add_assoc
def nK:=@List.drop_eq_nil_of_le
def nL:=@List.getD_eq_getElem?_getD
def nM:=@if_true
def nk:=@Array.toList_append
def nq:=@List.map_congr_left
def oA:=@Nat.add_mul
def oL:=@Array.mapM_eq_mapM_toList
def oM:=@List.drop_eq_getElem_cons
def oO:=@List.set_append_right
def oT:=@beq_self_eq_true
def pQ:=@List.getLast?_concat
def qB:=@Int.eq_ofNat_of_zero_le
def qC:=@List.ext_getElem?
def qD:=@Option.bind_eq_some_iff
def qE:=@decide_eq_false_iff_not
def qS:=@Bool.or_eq_true
def qt:=@Nat.sub_self
def r9:=@Bool.false_or
def rA:=@Nat.one_mul
def rJ:=@List.mem_flatten
def rq:=@Ne.symm
def sG:=@List.mem_or_eq_of_mem_set
def sR:=@Array.toArray_toList
def sS:=@List.map_map
def tL:=@List.any_cons
def td:=@List.take_succ_cons
def tu:=@Array.toList_inj
def tv:=@List.cons_append
def u7:=@List.map_toArray
def uf:=@Array.getElem?_eq_none
def w9:=@Bool.and_false
def wA:=@Nat.pow_le_pow_right
def wB:=@eq_iff_iff
def wW:=@Nat.add_zero
def wX:=@Option.getD_some
def xD:=@Array.length_toList
def xP:=@Bool.and_true
def xQ:=@List.getElem?_take_of_lt
def xR:=@List.length_erase_of_mem
def xh:=@Nat.not_lt_zero
def xo:=@Array.all_eq_true'
def xp:=@Bool.false_eq_true
def yc:=@List.any_eq_false
def yd:=@List.size_toArray
def ye:=@List.take_take
def yf:=@Nat.pow_succ
def yg:=@Nat.sub_zero
def zN:=@Array.getElem?_modify
def zO:=@List.concat_eq_append
def zP:=@List.eq_nil_or_concat
def zQ:=@List.pairwise_flatMap
def zf:=@Bool.not_eq_true
def zg:=@List.take_length
def A6:=@Bool.or_false
def AF:=@if_false
def AG:=@true_and
def Am:=@Option.map_none
def B8:=@List.filterMap_cons
def Bq:=@List.drop_zero
def Br:=@List.filter_append
def Bs:=@List.filter_filter
def Bt:=@Nat.add_sub_cancel
def Cj:=@List.exists_mem_of_ne_nil
def Ck:=@List.mem_of_find?_eq_some
def Cl:=@List.pairwise_iff_getElem
def Cm:=@Option.isNone_iff_eq_none
def Cw:=@List.filter_congr
def Cy:=@Nat.lt_trichotomy
def Cz:=@decide_true
def DJ:=@Array.setIfInBounds_comm
def DK:=@List.eq_of_mem_replicate
def Dn:=@List.filter_cons
def Dp:=@List.getElem?_cons_zero
def Dq:=@Nat.le_mul_of_pos_right
def Ea:=@Int.le_of_lt
def Eb:=@Int.le_trans
def Ec:=@List.all_map
def Ed:=@List.drop_of_length_le
def Ee:=@List.getElem_cons_drop
def Ef:=@List.length_pos_of_mem
def Eg:=@Nat.mul_comm
def Eh:=@Option.map_eq_some_iff
def FQ:=@Int.ediv_nonneg
def Fk:=@Bool.and_eq_false_iff
def Fl:=@List.length_replicate
def Fm:=@List.singleton_append
def Fo:=@UInt8.lt_iff_toNat_lt
def Gf:=@List.mapM_cons
def Gg:=@Nat.mul_le_mul
def Gh:=@Nat.zero_le
def Gi:=@not_or
def Jd:=@Nat.mul_assoc
def L8:=@List.any_nil
def L9:=@Nat.succ_mul
def LA:=@and_self
def LB:=@decide_false
abbrev Bytes:=List UInt8
inductive D where
 |any
 |nil
 |int (k:IntKind) (n:Int)
 |bool (b:Bool)
 |str (s:Bytes)
 |sl (rows:List (List D))
 |agg (cells:List D)
 |iw (vs:List D)
 |ep (row:List D) (off:Nat)
 |acc (id:Nat)
 |ptr (id off:Nat)
 |op (id i sz off:Nat)
 |val (v:Value)
 |fr (e:TypeId) (sz:Nat) (rows:List (List D))
 |fs (e:TypeId) (sz:Nat) (rows:List (List D))
 |pt (cells:List D)
 |ifc (b:Bool)
def qu(k:IntKind)(n:Int):Prop:=k.min<=n/\n<=k.max
instance (k:IntKind) (n:Int):Decidable (qu k n):=by unfold qu;infer_instance
theorem qu.wrap(k:IntKind)(n:Int):qu k (k.wrap n):=by
 unfold qu;cases k<;>simp[IntKind.min,IntKind.max,IntKind.wrap,IntKind.bits,IntKind.signed]<;>(try split)<;>omega
theorem qu.i64{n:Int}:qu .i64 n↔ -9223372036854775808<=n/\n<=9223372036854775807:=by
 simp[qu,IntKind.min,IntKind.max,IntKind.bits,IntKind.signed]
theorem qu.u8{n:Int}:qu .u8 n↔0<=n/\n<=255:=by
 simp[qu,IntKind.min,IntKind.max,IntKind.bits,IntKind.signed]
theorem qu.zero(k:IntKind):qu k 0:=by
 unfold qu;cases k<;>simp[IntKind.min,IntKind.max,IntKind.bits,IntKind.signed]
theorem qu.down{k:IntKind}{n m:Int}(h:qu k n)(h0:0<=m)(h1:m<=n):qu k m:=
 ⟨Eb (qu.zero k).1 h0,Eb h1 h.2⟩
mutual
inductive Rd(w:World):Value->D->List Nat->Prop
 |any (v:Value):Rd w v .any []
 |nil:Rd w (.slice none 0 0) .nil []
 |int (k:IntKind) (n:Int):qu k n->Rd w (.int k n) (.int k n) []
 |bool (b:Bool):Rd w (.bool b) (.bool b) []
 |str (s:ByteArray):s.size<=maxLen->Rd w (.string s) (.str s.data.toList) []
 |val (v:Value):Rd w v (.val v) []
 |Af:Rd w (.slice none 0 0) (.sl []) []
 |sA (a:Addr) (cap:Nat):cap<=maxLen->Rd w (.slice (some a) 0 cap) (.sl []) []
 |sl (b off cap sz:Nat) (rows:List (List D)) (cs:List Value) (bs:List Nat):b<w.heap.size->rows.length<=cap->cap<=maxLen->
  (∀r∈rows,r.length=sz)->(∀j c,cs[j]?=some c->w.cell? ⟨b,off+j,none⟩=some c)->oH w cs rows.flatten bs->
  Rd w (.slice (some ⟨b,off,none⟩) rows.length cap) (.sl rows) (b::bs)
 |agg (cs:List Value) (ds:List D) (bs:List Nat):oH w cs ds bs->Rd w (.agg cs.toArray) (.agg ds) bs
 |ep (b off:Nat) (cs:List Value) (row:List D) (o:Nat) (bs:List Nat):b<w.heap.size->(∀j c,cs[j]?=some c->w.cell? ⟨b,off+j,none⟩=some c)->
  oH w cs row bs->Rd w (.pointer (some ⟨b,off+o,none⟩)) (.ep row o) (b::bs)
 |ZG:Rd w .nilIface (.ifc false) []
 |ZH (t:TypeId) (v:Value):Rd w (.iface t v) (.ifc true) []
inductive oH(w:World):List Value->List D->List Nat->Prop
 |nil:oH w [] [] []
 |cons (v:Value) (vs:List Value) (d:D) (ds:List D) (b1 b2:List Nat):v.oneCell'=true->Rd w v d b1->oH w vs ds b2->oH w (v::vs) (d::ds) (b1++b2)
end
section
variable{w w':World}
theorem Dt{b o:Nat}(h:w'.heap[b]?=w.heap[b]?):w'.cell? ⟨b,o,none⟩=w.cell? ⟨b,o,none⟩:=World.cell?_of_block (a:=⟨b,o,none⟩) h
theorem MP{b:Nat}(hb:b<w.heap.size)(h:w'.heap[b]?=w.heap[b]?):b<w'.heap.size:=by
 rw[dB hb]at h;exact(bS.1 h).1
theorem Rz:
 (∀ {v d bs},Rd w v d bs->(∀b∈bs,w'.heap[b]?=w.heap[b]?)->Rd w' v d bs)/\
 (∀ {vs ds bs},oH w vs ds bs->(∀b∈bs,w'.heap[b]?=w.heap[b]?)->oH w' vs ds bs):=by
 have key:∀(m1:∀v d bs,Rd w v d bs->Prop) (m2:∀vs ds bs,oH w vs ds bs->Prop),
  m1=(fun v d bs _=>(∀b∈bs,w'.heap[b]?=w.heap[b]?)->Rd w' v d bs)->m2=(fun vs ds bs _=>(∀b∈bs,w'.heap[b]?=w.heap[b]?)->oH w' vs ds bs)->
  (∀v d bs h,m1 v d bs h)/\(∀vs ds bs h,m2 vs ds bs h):=by
  intro m1 m2 e1 e2;subst e1;subst e2;constructor
  all_goals intro v d bs h
  ·refine Rd.rec (motive_1:=fun v d bs _=>(∀b∈bs,w'.heap[b]?=w.heap[b]?)->Rd w' v d bs) (motive_2:=fun vs ds bs _=>(∀b∈bs,w'.heap[b]?=w.heap[b]?)->oH w' vs ds bs) ?_ ?_ ?_ ?_ ?_ ?_ ?_ ?_ ?_ ?_ ?_ ?_ ?_ ?_ ?_ h
   ·intro v _;exact .any _
   ·intro _;exact .nil
   ·intro k n h _;exact .int _ _ h
   ·intro b _;exact .bool _
   ·intro s h _;exact .str _ h
   ·intro v _;exact .val _
   ·intro _;exact .Af
   ·intro a cap h _;exact .sA a cap h
   ·intro b off cap sz rows cs bs h0 h1 h2 h3 h4 _ ih hb;exact .sl b off cap sz rows cs bs (MP h0 (hb b (by simp))) h1 h2 h3 (fun j c hc=>(Dt (hb b (by simp))).trans (h4 j c hc)) (ih (fun x hx=>hb x (by simp[hx])))
   ·intro cs ds bs _ ih hb;exact .agg cs ds bs (ih hb)
   ·intro b off cs row o bs h0 h4 _ ih hb;exact .ep b off cs row o bs (MP h0 (hb b (by simp))) (fun j c hc=>(Dt (hb b (by simp))).trans (h4 j c hc)) (ih (fun x hx=>hb x (by simp[hx])))
   ·intro _;exact .ZG
   ·intro t v _;exact .ZH t v
   ·intro _;exact .nil
   ·intro v vs d ds b1 b2 h1 _ _ ih1 ih2 hb;exact .cons v vs d ds b1 b2 h1 (ih1 (fun x hx=>hb x (by simp[hx]))) (ih2 (fun x hx=>hb x (by simp[hx])))
  ·refine oH.rec (motive_1:=fun v d bs _=>(∀b∈bs,w'.heap[b]?=w.heap[b]?)->Rd w' v d bs) (motive_2:=fun vs ds bs _=>(∀b∈bs,w'.heap[b]?=w.heap[b]?)->oH w' vs ds bs) ?_ ?_ ?_ ?_ ?_ ?_ ?_ ?_ ?_ ?_ ?_ ?_ ?_ ?_ ?_ h
   ·intro v _;exact .any _
   ·intro _;exact .nil
   ·intro k n h _;exact .int _ _ h
   ·intro b _;exact .bool _
   ·intro s h _;exact .str _ h
   ·intro v _;exact .val _
   ·intro _;exact .Af
   ·intro a cap h _;exact .sA a cap h
   ·intro b off cap sz rows cs bs h0 h1 h2 h3 h4 _ ih hb;exact .sl b off cap sz rows cs bs (MP h0 (hb b (by simp))) h1 h2 h3 (fun j c hc=>(Dt (hb b (by simp))).trans (h4 j c hc)) (ih (fun x hx=>hb x (by simp[hx])))
   ·intro cs ds bs _ ih hb;exact .agg cs ds bs (ih hb)
   ·intro b off cs row o bs h0 h4 _ ih hb;exact .ep b off cs row o bs (MP h0 (hb b (by simp))) (fun j c hc=>(Dt (hb b (by simp))).trans (h4 j c hc)) (ih (fun x hx=>hb x (by simp[hx])))
   ·intro _;exact .ZG
   ·intro t v _;exact .ZH t v
   ·intro _;exact .nil
   ·intro v vs d ds b1 b2 h1 _ _ ih1 ih2 hb;exact .cons v vs d ds b1 b2 h1 (ih1 (fun x hx=>hb x (by simp[hx]))) (ih2 (fun x hx=>hb x (by simp[hx])))
 obtain⟨k1,k2⟩:=key _ _ rfl rfl;exact⟨fun h=>k1 _ _ _ h,fun h=>k2 _ _ _ h⟩
theorem Rd.keep{v:Value}{d:D}{bs:List Nat}(h:Rd w v d bs)(hb:∀b∈bs,w'.heap[b]?=w.heap[b]?):Rd w' v d bs:=Rz.1 h hb
theorem oH.keep{vs:List Value}{ds:List D}{bs:List Nat}(h:oH w vs ds bs)(hb:∀b∈bs,w'.heap[b]?=w.heap[b]?):oH w' vs ds bs:=Rz.2 h hb
theorem Rd.lt{v:Value}{d:D}{bs:List Nat}(h:Rd w v d bs):∀b∈bs,b<w.heap.size:=by
 refine Rd.rec (motive_1:=fun v d bs _=>∀b∈bs,b<w.heap.size) (motive_2:=fun vs ds bs _=>∀b∈bs,b<w.heap.size) ?_ ?_ ?_ ?_ ?_ ?_ ?_ ?_ ?_ ?_ ?_ ?_ ?_ ?_ ?_ h
 case refine_9=>
  intro b off cap sz rows cs bs h0 h1 h2 h3 h4 _ ih x hx;rcases bV.1 hx with rfl|hx
  ·exact h0
  ·exact ih x hx
 case refine_10=>intro cs ds bs _ ih;exact ih
 case refine_11=>
  intro b off cs row o bs h0 h4 _ ih x hx;rcases bV.1 hx with rfl|hx
  ·exact h0
  ·exact ih x hx
 case refine_15=>
  intro v vs d ds b1 b2 h1 _ _ ih1 ih2 x hx;rcases aW.1 hx with hx|hx
  ·exact ih1 x hx
  ·exact ih2 x hx
 all_goals intros;simp_all
theorem oH.lt{vs:List Value}{ds:List D}{bs:List Nat}(h:oH w vs ds bs):∀b∈bs,b<w.heap.size:=by
 induction ds generalizing vs bs with
 |nil=>cases h;simp
 |cons d ds ih=>
  cases h with
  |cons v vs _ _ b1 b2 h1 h2 h3=>
   intro x hx;rcases aW.1 hx with hx|hx
   ·exact h2.lt x hx
   ·exact ih h3 x hx
theorem oH.length{vs:List Value}{ds:List D}{bs:List Nat}(h:oH w vs ds bs):vs.length=ds.length:=by
 induction ds generalizing vs bs with
 |nil=>cases h;rfl
 |cons d ds ih=>cases h with|cons v vs _ _ b1 b2 h1 h2 h3=>simp[ih h3]
theorem oH.one{vs:List Value}{ds:List D}{bs:List Nat}(h:oH w vs ds bs):∀v∈vs,v.oneCell'=true:=by
 induction ds generalizing vs bs with
 |nil=>cases h;simp
 |cons d ds ih=>
  cases h with
  |cons v vs _ _ b1 b2 h1 h2 h3=>
   intro u hu;rcases bV.1 hu with rfl|hu
   ·exact h1
   ·exact ih h3 u hu
theorem oH.app{vs us:List Value}{ds es:List D}{bs cs:List Nat}(h:oH w vs ds bs)(k:oH w us es cs):oH w (vs++us) (ds++es) (bs++cs):=by
 induction ds generalizing vs bs with
 |nil=>cases h;simpa using k
 |cons d ds ih=>
  cases h with
  |cons v vs _ _ b1 b2 h1 h2 h3=>
   rw[dH];exact .cons _ _ _ _ _ _ h1 h2 (ih h3)
theorem oH.split{vs:List Value}{ds es:List D}{bs:List Nat}(h:oH w vs (ds++es) bs):
 ∃v1 v2 b1 b2,vs=v1++v2/\bs=b1++b2/\oH w v1 ds b1/\oH w v2 es b2:=by
 induction ds generalizing vs bs with
 |nil=>exact⟨[],vs,[],bs,by simp,by simp,.nil,h⟩
 |cons d ds ih=>
  cases h with
  |cons v vs _ _ b1 b2 h1 h2 h3=>
   obtain⟨v1,v2,c1,c2,rfl,rfl,k1,k2⟩:=ih h3;exact⟨v::v1,v2,b1++c1,c2,by simp,by simp,.cons _ _ _ _ _ _ h1 h2 k1,k2⟩
theorem oH.mid{vs:List Value}{ds:List D}{bs:List Nat}(h:oH w vs ds bs)(i n:Nat):
 ∃b,oH w ((vs.drop i).take n) ((ds.drop i).take n) b/\∀x∈b,x∈bs:=by
 have e:ds=ds.take i++((ds.drop i).take n++(ds.drop i).drop n):=by rw[cc,cc]
 rw[e]at h;obtain⟨v1,v2,b1,b2,rfl,rfl,k1,k2⟩:=h.split;obtain⟨v3,v4,b3,b4,rfl,rfl,k3,k4⟩:=k2.split;refine⟨b3,?_,by intro x hx;simp[hx]⟩;have l1:=k1.length;have l3:=k3.length;by_cases hi:i<=ds.length
 ·have h1:v1.length=i:=by rw[l1];simp[hi]
  rw[jr h1];by_cases hn:n<=(ds.drop i).length
  ·have h3:v3.length=n:=by rw[l3,cU];omega
   rw[lP h3];exact k3
  ·have h4:v4.length=0:=by rw[k4.length];simp at hn⊢;omega
   have h4':v4=[]:=dJ h4;subst h4';have h3:v3.length<=n:=by rw[l3,cU];omega
   simp only[dV];rw[k8 h3];exact k3
 ·have h5:ds.drop i=[]:=nK (by omega);rw[h5]at k3 k4⊢;simp only[List.take_nil,List.drop_nil]at k3 k4⊢;cases k3;cases k4;have h1:v1.length<=i:=by rw[l1];simp;omega
  simp[Ed h1];exact .nil
theorem oH.at{vs:List Value}{ds:List D}{bs:List Nat}(h:oH w vs ds bs){i:Nat}{d:D}(hd:ds[i]?=some d):
 ∃v b,vs[i]?=some v/\v.oneCell'=true/\Rd w v d b/\∀x∈b,x∈bs:=by
 induction ds generalizing vs bs i with
 |nil=>simp at hd
 |cons e ds ih=>
  cases h with
  |cons v vs _ _ b1 b2 h1 h2 h3=>
   cases i with
   |zero=>simp at hd;subst hd;exact⟨v,b1,by simp,h1,h2,by intro x hx;simp[hx]⟩
   |succ i=>
    simp at hd;obtain⟨u,b,k1,k2,k3,k4⟩:=ih h3 hd;exact⟨u,b,by simpa using k1,k2,k3,fun x hx=>by simp[k4 x hx]⟩
end
theorem rI{G:Type}{rows:List (List G)}{sz:Nat}(h:∀r∈rows,r.length=sz):rows.flatten.length=rows.length*sz:=by
 induction rows with
 |nil=>simp
 |cons r rows ih=>
  simp only[iJ,bB,aQ];rw[ih (fun x hx=>h x (by simp[hx])),h r (by simp),oA];omega
theorem Ht{G:Type}{rows:List (List G)}{sz:Nat}(h:∀r∈rows,r.length=sz){i:Nat}{r:List G}(hr:rows[i]?=some r):
 (rows.flatten.drop (i*sz)).take sz=r:=by
 induction rows generalizing i with
 |nil=>simp at hr
 |cons s rows ih=>
  have hs:=h s (by simp);cases i with
  |zero=>
   simp at hr;subst hr;simp only[Nat.zero_mul,Bq,iJ];exact lP hs
  |succ i=>
   simp only[hG]at hr;have:=ih (fun x hx=>h x (by simp[hx])) hr;rw[iJ,oA,rA,Nat.add_comm,<-jR,jr hs];exact this
def OE(e:TypeId):Option (Nat×Nat×TypeId×Nat):=if e=74 then some (8,7,77,2)else none
def vz(e:TypeId)(i:Nat):Option (TypeId×Nat):=match OE e with
 |some (m,off,t)=>if i%m=off then some t else none
 |none=>none
def Z2(e:TypeId)(sz:Nat):Bool:=match OE e with
 |some (m,_,_)=>m==sz
 |none=>true
theorem zj{e:TypeId}(h:OE e=none)(i:Nat):vz e i=none:=by simp[vz,h]
theorem Ps{e:TypeId}{sz:Nat}(h:Z2 e sz=true)(i n:Nat):vz e (i+n*sz)=vz e i:=by
 unfold vz;unfold Z2 at h;cases hf:OE e with
 |none=>rfl
 |some x=>
  obtain⟨m,off,t⟩:=x;rw[hf]at h;have e1:m=sz:=by simpa using h
  subst e1;simp only[Nat.add_mul_mod_self_right]
section
variable{w w':World}
def Je(w:World)(t:TypeId×Nat)(v:Value)(d:D)(bs:List Nat):Prop:=
 (d=.any/\bs=[])\/∃rows cs ns,d=.sl rows/\0<t.2/\(∀r∈rows,r.length=t.2)/\w.ownsRow 0 t.1 t.2 v rows.length cs/\oH w cs rows.flatten ns/\bs=v.ownBlock.toList++ns
theorem Mc{e:TypeId}{sz n:Nat}{v:Value}{cs:List Value}(h:w.ownsRow 0 e sz v n cs)(hb:∀g,v.ownBlock=some g->w'.heap[g]?=w.heap[g]?):w'.ownsRow 0 e sz v n cs:=by
 refine⟨h.1,?_⟩;rcases h.2 with hn|⟨g,cap,cur,rfl,h1,h2,rest⟩
 ·exact .inl hn
 ·exact .inr ⟨g,cap,cur,rfl,h1,(hb g (by simp[Value.ownBlock])).trans h2,rest⟩
theorem Je.keep{t:TypeId×Nat}{v:Value}{d:D}{bs:List Nat}(h:Je w t v d bs)(hb:∀b∈bs,w'.heap[b]?=w.heap[b]?):Je w' t v d bs:=by
 rcases h with h|⟨rows,cs,ns,rfl,h1,h2,h3,h4,rfl⟩
 ·exact .inl h
 ·exact .inr ⟨rows,cs,ns,rfl,h1,h2,Mc h3 (fun g hg=>hb g (by simp[hg])),h4.keep (fun b hx=>hb b (by simp[hx])),rfl⟩
inductive yl(w:World)(f:Nat->Option (TypeId×Nat)):Nat->List Value->List D->List Nat->Prop
 |nil (i:Nat):yl w f i [] [] []
 |cons (i:Nat) (v:Value) (vs:List Value) (d:D) (ds:List D) (b1 b2:List Nat):v.oneCell'=true->Rd w v d b1->(∀t,f i=some t->Je w t v d b1)->yl w f (i+1) vs ds b2->yl w f i (v::vs) (d::ds) (b1++b2)
variable{f:Nat->Option (TypeId×Nat)}
theorem yl.rd{i:Nat}{vs:List Value}{ds:List D}{bs:List Nat}(h:yl w f i vs ds bs):oH w vs ds bs:=by
 induction ds generalizing vs bs i with
 |nil=>cases h;exact .nil
 |cons d ds ih=>cases h with|cons _ v vs _ _ b1 b2 h1 h2 _ h3=>exact .cons _ _ _ _ _ _ h1 h2 (ih h3)
theorem yl.of{i:Nat}{vs:List Value}{ds:List D}{bs:List Nat}(h:oH w vs ds bs)(hf:∀j,f j=none):yl w f i vs ds bs:=by
 induction ds generalizing vs bs i with
 |nil=>cases h;exact .nil _
 |cons d ds ih=>cases h with|cons v vs _ _ b1 b2 h1 h2 h3=>exact .cons _ _ _ _ _ _ _ h1 h2 (fun t ht=>by rw[hf]at ht;cases ht) (ih h3)
theorem yl.keep{i:Nat}{vs:List Value}{ds:List D}{bs:List Nat}(h:yl w f i vs ds bs)(hb:∀b∈bs,w'.heap[b]?=w.heap[b]?):yl w' f i vs ds bs:=by
 induction ds generalizing vs bs i with
 |nil=>cases h;exact .nil _
 |cons d ds ih=>
  cases h with
  |cons _ v vs _ _ b1 b2 h1 h2 h4 h3=>
   exact .cons _ _ _ _ _ _ _ h1 (h2.keep (fun b hx=>hb b (by simp[hx]))) (fun t ht=>(h4 t ht).keep (fun b hx=>hb b (by simp[hx]))) (ih h3 (fun b hx=>hb b (by simp[hx])))
theorem yl.lt{i:Nat}{vs:List Value}{ds:List D}{bs:List Nat}(h:yl w f i vs ds bs):∀b∈bs,b<w.heap.size:=h.rd.lt
theorem yl.length{i:Nat}{vs:List Value}{ds:List D}{bs:List Nat}(h:yl w f i vs ds bs):vs.length=ds.length:=h.rd.length
theorem yl.app{i:Nat}{vs us:List Value}{ds es:List D}{bs cs:List Nat}(h:yl w f i vs ds bs)(k:yl w f (i+ds.length) us es cs):yl w f i (vs++us) (ds++es) (bs++cs):=by
 induction ds generalizing vs bs i with
 |nil=>cases h;simpa using k
 |cons d ds ih=>
  cases h with
  |cons _ v vs _ _ b1 b2 h1 h2 h4 h3=>
   rw[dH];exact .cons _ _ _ _ _ _ _ h1 h2 h4 (ih h3 (by rw[aQ]at k;rwa[show i+1+ds.length=i+(ds.length+1)by omega]))
theorem yl.split{i:Nat}{vs:List Value}{ds es:List D}{bs:List Nat}(h:yl w f i vs (ds++es) bs):
 ∃v1 v2 b1 b2,vs=v1++v2/\bs=b1++b2/\yl w f i v1 ds b1/\yl w f (i+ds.length) v2 es b2:=by
 induction ds generalizing vs bs i with
 |nil=>exact⟨[],vs,[],bs,by simp,by simp,.nil _,h⟩
 |cons d ds ih=>
  cases h with
  |cons _ v vs _ _ b1 b2 h1 h2 h4 h3=>
   obtain⟨v1,v2,c1,c2,rfl,rfl,k1,k2⟩:=ih h3;exact⟨v::v1,v2,b1++c1,c2,by simp,by simp,.cons _ _ _ _ _ _ _ h1 h2 h4 k1,by rw[aQ];rwa[show i+(ds.length+1)=i+1+ds.length by omega]⟩
theorem yl.at_{i k:Nat}{vs:List Value}{ds:List D}{bs:List Nat}(h:yl w f i vs ds bs)(hf:∀j,f (k+j)=f (i+j)):yl w f k vs ds bs:=by
 induction ds generalizing vs bs i k with
 |nil=>cases h;exact .nil _
 |cons d ds ih=>
  cases h with
  |cons _ v vs _ _ b1 b2 h1 h2 h4 h3=>
   exact .cons _ _ _ _ _ _ _ h1 h2 (fun t ht=>h4 t ((hf 0).symm.trans ht)) (ih h3 fun j=>by rw[nH,nH];exact hf (1+j))
theorem yl.rows{e:TypeId}{sz i n:Nat}{vs:List Value}{ds:List D}{bs:List Nat}(hk:Z2 e sz=true)(h:yl w (vz e) i vs ds bs):yl w (vz e) (i+n*sz) vs ds bs:=
 h.at_ fun j=>by rw[show i+n*sz+j=(i+j)+n*sz by omega];exact Ps hk _ _
end
abbrev aI:=List Bytes
abbrev aR:=List D
abbrev ah:=List Nat
abbrev bM:=List Int
abbrev cG:=List Value
def Ah:List (Nat×(cG->Prop)):=[(3,fun cs:cG=>cs=[.int .u64 1,.int .u64 10,.int .u64 100,.int .u64 1000,.int .u64 10000,.int .u64 100000,.int .u64 1000000,.int .u64 10000000,.int .u64 100000000,.int .u64 1000000000,.int .u64 10000000000,.int .u64 100000000000,.int .u64 1000000000000,.int .u64 10000000000000,.int .u64 100000000000000,.int .u64 1000000000000000,.int .u64 10000000000000000,.int .u64 100000000000000000,.int .u64 1000000000000000000,.int .u64 10000000000000000000]),(1,fun cs:cG=>∃tp p,cs=[Value.iface tp p])]
def VsB(w:World)(B:Nat->Prop):Prop:=∀x∈Ah,B x.1/\∃cs t z,w.heap[x.1]?=some (.cells cs t z)/\x.2 cs.toList
def SZ(w:World)(X:Nat->Prop):Prop:=∃B:Nat->Prop,VsB w B/\∀b,B b->b<w.heap.size/\¬X b
def PM:List (Nat×aR):=[]
def a6J(g:Nat)(ds:aR):Prop:=∃p,(g,p)∈Ah/\∀cs:cG,p cs->∀(o:Nat) d,ds[o]?=some d->∃v,cs[o]?=some v/\∀w,Rd w v d []
theorem Qy:∀x∈PM,a6J x.1 x.2:=by intro x hx;cases hx
def Yc(g o:Nat):Option D:=(PM.find? fun x=>x.1==g).bind fun x=>x.2[o]?
theorem a3Y{g o:Nat}{d:D}(h:Yc g o=some d):∃ds,a6J g ds/\ds[o]?=some d:=by
 unfold Yc at h;cases hf:PM.find? fun x=>x.1==g with
 |none=>rw[hf]at h;cases h
 |some x=>
  rw[hf,aA]at h;have h1:=List.find?_some hf;have h2:=Ck hf;have e:x.1=g:=by simpa using h1
  exact⟨x.2,by rw[<-e];exact Qy x h2,h⟩
def D.isStr:D->Bool| .str _=>true|_=>false
def X5(g o n:Nat):Option D:=match PM.find? fun x=>x.1==g with
 |some x=>if(x.2.all D.isStr&&o==0&&n==x.2.length)=true then some (.agg x.2)else none
 |none=>none
theorem VQ{w:World}:∀ {ds:aR} {cs:cG},(∀d∈ds,d.isStr=true)->(∀(o:Nat) d,ds[o]?=some d->∃v,cs[o]?=some v/\Rd w v d [])->ds.length<=cs.length/\oH w (cs.take ds.length) ds []
 | [],cs,_,_=>⟨by simp,by simpa using oH.nil⟩
 |d::ds,cs,h1,h2=>by
  obtain⟨v,hv,hr⟩:=h2 0 d rfl;cases cs with
  |nil=>cases hv
  |cons c cs=>
   have e:c=v:=by simpa using hv
   subst e;obtain⟨i1,i2⟩:=VQ (ds:=ds) (cs:=cs) (fun x hx=>h1 x (by simp[hx])) (fun o x hx=>h2 (o+1) x hx);have hd:=h1 d (by simp);refine⟨by simpa using i1,?_⟩;rw[aQ,td];have h1c:c.oneCell'=true:=by
    cases d<;>first|cases hd|skip
    cases hr;rfl
   exact .cons c _ d ds [] [] h1c hr i2
theorem VsB.stays{w w':World}{B:Nat->Prop}(h:VsB w B)(hb:∀b,B b->w'.heap[b]?=w.heap[b]?):VsB w' B:=fun x hx=>by
 obtain⟨h1,cs,t,z,h2,h3⟩:=h x hx;exact⟨h1,cs,t,z,by rw[hb _ h1,h2],h3⟩
theorem SZ.cells{w:World}{X:Nat->Prop}(h:SZ w X){g:Nat}{p:cG->Prop}(hx:(g,p)∈Ah):∃cs t z,w.heap[g]?=some (.cells cs t z)/\p cs.toList:=by
 obtain⟨B,h1,h2⟩:=h;exact(h1 _ hx).2
theorem SZ.var{P:Program}{w:World}{X:Nat->Prop}(h:SZ w X){g:Nat}{p:cG->Prop}{name:String}(hx:(g,p)∈Ah)(hg:P.globalNamed name=some g):∃cs,w.var? P name=some cs/\p cs.toList:=by
 obtain⟨cs,t,z,h1,h2⟩:=h.cells hx;refine⟨cs,?_,h2⟩;unfold World.var?;rw[hg,aA,h1]
theorem SZ.a99{P:Program}{w:World}(hs:∀x∈Ah,∃name cs,P.globalNamed name=some x.1/\w.var? P name=some cs/\x.2 cs.toList):SZ w fun _=>False:=by
 refine⟨fun b=>b∈Ah.map Prod.fst,fun x hx=>?_,fun b hb=>?_⟩
 ·obtain⟨name,cs,h1,h2,h3⟩:=hs x hx;unfold World.var? at h2;rw[h1,aA]at h2;refine⟨cJ.2 ⟨x,hx,rfl⟩,?_⟩;split at h2
  ·rename_i cs' t z h4;cases h2;exact⟨_,t,z,h4,h3⟩
  ·cases h2
 ·obtain⟨x,hx,rfl⟩:=cJ.1 hb;obtain⟨name,cs,h1,h2,h3⟩:=hs x hx;unfold World.var? at h2;rw[h1,aA]at h2;refine⟨?_,id⟩;split at h2
  ·rename_i cs' t z h4;exact(bS.1 h4).1
  ·cases h2
structure wV where
 W0:World
 Θ0:Nat->Nat
 X:Nat->Prop
 nt:Nat
 U:Nat->Prop
 vs:SZ W0 X
inductive RK where
 |sh
 |uq
 |cl
 |mv (n:Nat)
 |ho (p n:Nat)
def RK.TQ:RK->Bool
 | .cl=>false
 |_=>true
def RK.ub:RK->Bool
 | .uq=>true
 | .ho _ _=>true
 |_=>false
def RK.hand:RK->Bool
 | .sh=>true
 | .uq=>true
 |_=>false
inductive Ob where
 |box (cells:aR)
 |CW (cells:aR) (v:Value)
 |row (k:RK) (e:TypeId) (sz:Nat) (rows:List aR)
 |RQ (sz:Nat) (rows:List aR) (v:Option Value)
 |hole (sz:Nat) (rows:List aR) (v:Option Value) (p n:Nat)
 |mp (kv:List (D×D))
 |tk (rows:List aR)
 |tf (e:TypeId) (sz:Nat) (rows:List aR)
 |gone
def Ob.Xe:Ob->Option aR
 | .box c=>some c
 | .CW c _=>some c
 |_=>none
def Ob.re(o:Ob)(c:aR):Ob:=match o with
 | .CW _ v=>.CW c v
 |_=>.box c
def YG(u:Value):Value:=match u with
 | .tuple ⟨[p,_]⟩=>p
 |u=>u
def I2(u:Value):Option Value:=match u with
 | .tuple ⟨[_,c]⟩=>some c
 |_=>none
def Ob.Y2(o:Ob)(off:Nat):Bool:=match o with
 | .CW cells _=> !(cells.length==3)||Nat.ble 1 off
 |_=>true
structure St where
 σ:List (Nat×D)
 H:List Ob
def lk:List (Nat×D)->Nat->D
 | [],_=>.any
 | (t,d)::r,n=>if n=t then d else lk r n
def D.V7:Value->D
 | .bool b=>.bool b
 | .int k n=>if qu k n then .int k n else .val (.int k n)
 | .string s=>if s.size<=maxLen then .str s.data.toList else .val (.string s)
 | .slice none 0 0=>.nil
 |v=>.val v
def St.ev(st:St):Operand->D
 | .tmp t=>lk st.σ t
 | .const v=>D.V7 v
 | .global g=>.val (.pointer (some ⟨g,0,none⟩))
 | .func f=>.val (.func (.func f) #[] #[])
def St.set(st:St)(t:Nat)(d:D):St:=⟨(t,d)::st.σ,st.H⟩
def St.put(st:St)(t:Option Nat)(d:D):St:=match t with|some t=>st.set t d|none=>st
inductive Bf(w:World)(κ:Nat->Option Value):Value->D->List Nat->Prop
 |pure {v:Value} {d:D} {bs:ah}:Rd w v d bs->Bf w κ v d bs
 |acc (id:Nat) (v:Value):κ id=some v->Bf w κ v (.acc id) []
 |ptr (id off b:Nat):κ id=some (.pointer (some ⟨b,0,none⟩))->Bf w κ (.pointer (some ⟨b,off,none⟩)) (.ptr id off) []
 |op (id i sz off b o0 len cap:Nat):κ id=some (.slice (some ⟨b,o0,none⟩) len cap)->Bf w κ (.pointer (some ⟨b,o0+(i*sz+off),none⟩)) (.op id i sz off) []
inductive gH(w:World)(κ:Nat->Option Value):List Value->List D->List Nat->Prop
 |nil:gH w κ [] [] []
 |cons (v:Value) (vs:cG) (d:D) (ds:aR) (b1 b2:ah):v.oneCell'=true->Bf w κ v d b1->gH w κ vs ds b2->gH w κ (v::vs) (d::ds) (b1++b2)
inductive PV(w:World)(κ:Nat->Option Value):Value->D->List Nat->Prop
 |cell {v:Value} {d:D} {bs:ah}:Bf w κ v d bs->PV w κ v d bs
 |agg (cs:cG) (ds:aR) (bs:ah):gH w κ cs ds bs->PV w κ (.agg cs.toArray) (.agg ds) bs
inductive Ej(w:World)(κ:Nat->Option Value):List Value->List D->List Nat->Prop
 |nil:Ej w κ [] [] []
 |cons (v:Value) (vs:cG) (d:D) (ds:aR) (b1 b2:ah):PV w κ v d b1->Ej w κ vs ds b2->Ej w κ (v::vs) (d::ds) (b1++b2)
inductive vR(w:World)(κ:Nat->Option Value):Value->D->List Nat->Prop
 |v {v:Value} {d:D} {bs:ah}:PV w κ v d bs->vR w κ v d bs
 |iw (vs:cG) (ds:aR) (bs:ah):Ej w κ vs ds bs->vR w κ (.tuple vs.toArray) (.iw ds) bs
theorem vR.of{w:World}{κ:Nat->Option Value}{v:Value}{d:D}{bs:ah}(h:Rd w v d bs):vR w κ v d bs:=.v (.cell (.pure h))
def Wr(w:World)(b:Nat):Prop:=∃cs T,w.heap[b]?=some (.cells cs T (0,0))
def RdH(w:World)(κ:Nat->Option Value)(v:Value)(rows:List aR)(p n:Nat)(bs:ah):Prop:=
 ∃b off cap cs ns,v=.slice (some ⟨b,off,none⟩) rows.length cap/\b<w.heap.size/\rows.length<=cap/\cap<=maxLen/\(∀j c,cs[j]?=some c->w.cell? ⟨b,off+j,none⟩=some c)/\oH w cs rows.flatten ns/\bs=b::ns/\
  ∃c,cs[p]?=some c/\κ n=some c
def BA(w:World)(es:List MapEntry)(kv:List (D×D)):Prop:=
 es.length=kv.length/\∀(j:Nat) e p,es[j]?=some e->kv[j]?=some p->Rd w e.key p.1 []/\Rd w e.val p.2 []
theorem BA.stay{w w':World}{es:List MapEntry}{kv:List (D×D)}(h:BA w es kv):BA w' es kv:=
 ⟨h.1,fun j e p h1 h2=>⟨(h.2 j e p h1 h2).1.keep (by simp),(h.2 j e p h1 h2).2.keep (by simp)⟩⟩
def Kept(w:World)(κ:Nat->Option Value)(id:Nat)(u:Value):Prop:=
 ∀c,I2 u=some c->∀g cs T,κ id=some (.pointer (some ⟨g,0,none⟩))->w.heap[g]?=some (.cells cs T (0,0))->cs.size=3/\cs[0]?=some c
theorem Kept.same{w w':World}{κ κ':Nat->Option Value}{id id':Nat}{u:Value}{g:Nat}{cs:Array Value}{T:TypeId}(h:Kept w κ id u)(hk:κ id=some (.pointer (some ⟨g,0,none⟩)))(hg:w.heap[g]?=some (.cells cs T (0,0)))
 (hk':κ' id'=some (.pointer (some ⟨g,0,none⟩))) (hg':w'.heap[g]?=some (.cells cs T (0,0))):Kept w' κ' id' u:=by
 intro c hc g2 cs2 T2 h2 h3;rw[hk']at h2;cases h2;rw[hg']at h3;cases h3;exact h c hc g cs T hk hg
def yj(w:World)(κ:Nat->Option Value)(Θ:Nat->Nat)(id:Nat):Ob->Prop
 | .box cells=>∃g cs T,κ id=some (.pointer (some ⟨g,0,none⟩))/\w.heap[g]?=some (.cells cs T (0,0))/\Θ g=id+2/\
  ∃bs,gH w κ cs.toList cells bs/\∀b∈bs,Θ b=0
 | .CW cells u=>(κ id=some (YG u)/\Kept w κ id u)/\∃g cs T,κ id=some (.pointer (some ⟨g,0,none⟩))/\w.heap[g]?=some (.cells cs T (0,0))/\Θ g=id+2/\
  ∃bs,gH w κ cs.toList cells bs/\∀b∈bs,Θ b=0
 | .row k e sz rows=>0<sz/\(∀r∈rows,r.length=sz)/\∃v cs bs,κ id=some v/\w.ownsRow 0 e sz v rows.length cs/\oH w cs rows.flatten bs/\
  (∀g,v.ownBlock=some g->Θ g=id+2)/\
  (match k with
   | .cl=>bs.Nodup/\(∀b∈bs,Θ b=id+2/\Wr w b)/\(∀g,v.ownBlock=some g->g∉bs)/\yl w (vz e) 0 cs rows.flatten bs
   |_=>∀b∈bs,Θ b=0)
 | .RQ sz rows u=>(∀r∈rows,r.length=sz)/\(∀x,u=some x->κ id=some x)/\∃v bs,κ id=some v/\Rd w v (.sl rows) bs/\bs.Nodup/\∀b∈bs,Θ b=id+2/\Wr w b
 | .hole sz rows u p n=>(∀r∈rows,r.length=sz)/\(∀x,u=some x->κ id=some x)/\∃v bs,κ id=some v/\RdH w κ v rows p n bs/\bs.Nodup/\∀b∈bs,Θ b=id+2/\Wr w b
 | .mp kv=>∃g es clock,κ id=some (.map (some g))/\w.heap[g]?=some (.map es clock)/\Θ g=id+2/\BA w es.toList kv
 | .tk rows=>∃v bs,κ id=some v/\Rd w v (.sl rows) bs/\∀b∈bs,Θ b=0
 | .tf e sz rows=>∃v bs,κ id=some v/\Rd w v (.sl rows) bs/\∀b∈bs,Θ b=0
 | .gone=>True
def Bu(Z:wV)(b:Nat):Prop:=Z.W0.heap.size<=b\/Z.X b
def XI(Z:wV)(b:Nat):Prop:=Bu Z b\/Z.U b
theorem yj.cs{w:World}{κ:Nat->Option Value}{Θ:Nat->Nat}{id:Nat}{o:Ob}{cells:aR}(hc:o.Xe=some cells)(h:yj w κ Θ id o):
 ∃g cs T,κ id=some (.pointer (some ⟨g,0,none⟩))/\w.heap[g]?=some (.cells cs T (0,0))/\Θ g=id+2/\∃bs,gH w κ cs.toList cells bs/\∀b∈bs,Θ b=0:=by
 cases o<;>simp only[Ob.Xe,reduceCtorEq,bC]at hc
 ·subst hc;exact h
 ·subst hc;exact h.2
theorem yj.aCW{w w':World}{κ κ':Nat->Option Value}{Θ Θ':Nat->Nat}{id:Nat}{o:Ob}{cells cells':aR}(hc:o.Xe=some cells)(h:yj w κ Θ id o)(hk:∀v,κ id=some v->κ' id=some v)
 (hK:∀c u,o=.CW c u->Kept w' κ' id u)
 (h':∃g cs T,κ' id=some (.pointer (some ⟨g,0,none⟩))/\w'.heap[g]?=some (.cells cs T (0,0))/\Θ' g=id+2/\∃bs,gH w' κ' cs.toList cells' bs/\∀b∈bs,Θ' b=0):yj w' κ' Θ' id (o.re cells'):=by
 cases o<;>simp only[Ob.Xe,reduceCtorEq,bC]at hc
 ·exact h'
 ·exact⟨⟨hk _ h.1.1,hK _ _ rfl⟩,h'⟩
structure U4(Z:wV)(w:World):Prop where
 os:w.os=Z.W0.os
 tape:w.tape=Z.W0.tape
 output:w.output=Z.W0.output
 size:Z.W0.heap.size<=w.heap.size
 block:∀b,b<Z.W0.heap.size->¬Z.X b->w.heap[b]?=Z.W0.heap[b]?
def R8(w:World)(κ:Nat->Option Value)(ρ:Nat->Nat)(id:Nat):Ob->Prop
 | .row (.mv n) e sz rows=>∃v cs bs,κ id=some v/\w.ownsRow 0 e sz v rows.length cs/\oH w (cs.drop (n*sz)) (rows.drop n).flatten bs/\bs.Nodup/\∀b∈bs,ρ b=id+1
 | .row (.ho p n) e sz rows=>∃v cs bs,κ id=some v/\w.ownsRow 0 e sz v rows.length cs/\yl w (vz e) 0 cs rows.flatten bs/\bs.Nodup/\(∀b∈bs,ρ b=id+1)/\∃c,cs[p]?=some c/\κ n=some c
 | .tk rows=>∃v bs,κ id=some v/\Rd w v (.sl rows) bs/\bs.Nodup/\∀b∈bs,ρ b=id+1
 | .tf e sz rows=>∃v bs,κ id=some v/\Je w (e,sz) v (.sl rows) bs/\(∀b∈bs,b<w.heap.size)/\bs.Nodup/\∀b∈bs,ρ b=id+1
 |_=>True
structure Bw(Z:wV)(H:List Ob)(κ:Nat->Option Value)(Θ:Nat->Nat)(w:World)(ρ:Nat->Nat):Prop where
 free:∀b,ρ b≠0->Θ b=0/\XI Z b/\Wr w b
 rows:∀id e sz rows,H[id]?=some (.row .uq e sz rows)->∃v cs bs,κ id=some v/\w.ownsRow 0 e sz v rows.length cs/\yl w (vz e) 0 cs rows.flatten bs/\bs.Nodup/\∀b∈bs,ρ b=id+1
 more:∀id o,H[id]?=some o->R8 w κ ρ id o
structure fE(Z:wV)(st:St)(κ:Nat->Option Value)(Θ:Nat->Nat)(a:Act)(w:World):Prop where
 defers:a.defers=[]
 size:a.tmps.size=Z.nt
 uY:∀id,st.H.length<=id->κ id=none
 tF:∀(id:Nat) u,κ id=some u->u.oneCell'=true
 slot:∀t,∃bs,vR w κ (a.tmps.getD t undef) (lk st.σ t) bs/\∀b∈bs,Θ b=0
 ob:∀id o,st.H[id]?=some o->yj w κ Θ id o
 own:∀b,Θ b≠0->b<w.heap.size
 old:∀b,b<Z.W0.heap.size->¬Z.X b->Θ b=Z.Θ0 b/\Θ b<=1
 mine:∀b,2<=Θ b->Bu Z b
 stays:U4 Z w
 vo:∃ρ,Bw Z st.H κ Θ w ρ
theorem fE.vsb{Z:wV}{st:St}{κ:Nat->Option Value}{Θ:Nat->Nat}{a:Act}{w:World}(h:fE Z st κ Θ a w):∃B:Nat->Prop,VsB w B/\∀b,B b->b<Z.W0.heap.size/\b<w.heap.size/\¬Z.X b:=by
 obtain⟨B,h1,h2⟩:=Z.vs;exact⟨B,h1.stays fun b hb=>h.stays.block b (h2 b hb).1 (h2 b hb).2,fun b hb=>⟨(h2 b hb).1,eR (h2 b hb).1 h.stays.size,(h2 b hb).2⟩⟩
theorem fE.vok{Z:wV}{st:St}{κ:Nat->Option Value}{Θ:Nat->Nat}{a:Act}{w:World}(h:fE Z st κ Θ a w):SZ w fun _=>False:=by
 obtain⟨B,h1,h2⟩:=h.vsb;exact⟨B,h1,fun b hb=>⟨(h2 b hb).2.1,id⟩⟩
def AW(P:Program)(Z:wV)(c:Code)(Q:Exit->St->Prop)(st:St):Prop:=
 ∀κ Θ a w,fE Z st κ Θ a w->c.wp P (fun e a' w'=>∃xO κ' Θ',fE Z xO κ' Θ' a' w'/\Q e xO) a w
def AO(P:Program)(Z:wV)(all:Array Oper)(ops:List Oper)(Q:Exit->St->Prop)(st:St):Prop:=
 ∀κ Θ a w,fE Z st κ Θ a w->wpList P all (fun e a' w'=>∃xO κ' Θ',fE Z xO κ' Θ' a' w'/\Q e xO) ops a w
section
variable{P:Program}{Z:wV}{Q:Exit->St->Prop}{st:St}
theorem a4F(h:Q .normal st):AW P Z .skip Q st:=fun _ _ _ _ hs=>wp_skip ⟨_,_,_,hs,h⟩
theorem a7u(h:Q .ret st):AW P Z .ret Q st:=fun _ _ _ _ hs=>wp_ret ⟨_,_,_,hs,h⟩
theorem a4D{id:Nat}(h:Q (.exit id) st):AW P Z (.exit id) Q st:=fun _ _ _ _ hs=>wp_exit ⟨_,_,_,hs,h⟩
def a3S(next:St->Prop)(Q:Exit->St->Prop):Exit->St->Prop
 | .normal,st=>next st
 |e,st=>Q e st
def Sf(id:Nat)(Q:Exit->St->Prop):Exit->St->Prop
 | .exit id',st=>if id'=id then Q .normal st else Q (.exit id') st
 |e,st=>Q e st
theorem a0T{x y:Code}(h:AW P Z x (a3S (AW P Z y Q) Q) st):AW P Z (.seq x y) Q st:=by
 intro κ Θ a w hs;refine wp_seq (wp_mono (h κ Θ a w hs) ?_);rintro e a' w' ⟨xO,κ',Θ',hs',hq⟩;cases e with
 |normal=>exact hq κ' Θ' a' w' hs'
 |exit id=>exact⟨_,_,_,hs',hq⟩
 |goto l=>exact⟨_,_,_,hs',hq⟩
 |ret=>exact⟨_,_,_,hs',hq⟩
 |panic c=>exact⟨_,_,_,hs',hq⟩
 |outgrown=>exact⟨_,_,_,hs',hq⟩
theorem a0S{id:Nat}{c:Code}(h:AW P Z c (Sf id Q) st):AW P Z (.block id c) Q st:=by
 intro κ Θ a w hs;refine wp_block (wp_mono (h κ Θ a w hs) ?_);rintro e a' w' ⟨xO,κ',Θ',hs',hq⟩;cases e with
 |exit id'=>
  simp only[Exit.inBlock,Sf]at hq⊢;split
  ·rename_i he;rw[bP he]at hq;exact⟨_,_,_,hs',hq⟩
  ·rename_i he;rw[bE he]at hq;exact⟨_,_,_,hs',hq⟩
 |normal=>exact⟨_,_,_,hs',hq⟩
 |goto l=>exact⟨_,_,_,hs',hq⟩
 |ret=>exact⟨_,_,_,hs',hq⟩
 |panic c=>exact⟨_,_,_,hs',hq⟩
 |outgrown=>exact⟨_,_,_,hs',hq⟩
theorem Yg{id:Nat}{l:List Oper}(h:AO P Z l.toArray l Q st):AW P Z (.region id l.toArray false) Q st:=
 fun κ Θ a w hs=>wp_region_lit (h κ Θ a w hs)
theorem a7r{all:Array Oper}(h:Q .normal st):AO P Z all [] Q st:=fun _ _ _ _ hs=>wpList_nil ⟨_,_,_,hs,h⟩
end
section
variable{w:World}{κ:Nat->Option Value}{v:Value}{bs:ah}
theorem vR.tr{k:IntKind}{n:Int}(h:vR w κ v (.int k n) bs):v=.int k n:=by
 cases h with|v h=>cases h with|cell h=>cases h with|pure h=>cases h;rfl
theorem vR.QE{k:IntKind}{n:Int}(h:vR w κ v (.int k n) bs):qu k n:=by
 cases h with|v h=>cases h with|cell h=>cases h with|pure h=>cases h with|int _ _ hr=>exact hr
theorem vR.a3O{s:Bytes}(h:vR w κ v (.str s) bs):s.length<=maxLen:=by
 cases h with|v h=>cases h with|cell h=>cases h with|pure h=>cases h with|str x hx=>simpa using hx
theorem vR.yt{b:Bool}(h:vR w κ v (.bool b) bs):v=.bool b:=by
 cases h with|v h=>cases h with|cell h=>cases h with|pure h=>cases h;rfl
theorem vR.wu{s:Bytes}(h:vR w κ v (.str s) bs):∃x:ByteArray,v=.string x/\x.data.toList=s:=by
 cases h with|v h=>cases h with|cell h=>cases h with|pure h=>cases h;exact⟨_,rfl,rfl⟩
theorem vR.Yb{u:Value}(h:vR w κ v (.val u) bs):v=u:=by
 cases h with|v h=>cases h with|cell h=>cases h with|pure h=>cases h;rfl
theorem vR.MV(h:vR w κ v .nil bs):v=.slice none 0 0:=by
 cases h with|v h=>cases h with|cell h=>cases h with|pure h=>cases h;rfl
theorem vR.Th{rows:List aR}(h:vR w κ v (.sl rows) bs):Rd w v (.sl rows) bs:=by
 cases h with|v h=>cases h with|cell h=>cases h with|pure h=>exact h
theorem vR.Vu{row:aR}{o:Nat}(h:vR w κ v (.ep row o) bs):Rd w v (.ep row o) bs:=by
 cases h with|v h=>cases h with|cell h=>cases h with|pure h=>exact h
theorem vR.A7{id:Nat}(h:vR w κ v (.acc id) bs):κ id=some v/\bs=[]:=by
 cases h with|v h=>cases h with|cell h=>cases h with|pure h=>cases h|acc _ _ hk=>exact⟨hk,rfl⟩
theorem vR.DD{id off:Nat}(h:vR w κ v (.ptr id off) bs):∃b,κ id=some (.pointer (some ⟨b,0,none⟩))/\v=.pointer (some ⟨b,off,none⟩):=by
 cases h with|v h=>cases h with|cell h=>cases h with|pure h=>cases h|ptr _ _ b hk=>exact⟨b,hk,rfl⟩
theorem vR.Qb{id i sz off:Nat}(h:vR w κ v (.op id i sz off) bs):∃b o0 len cap,κ id=some (.slice (some ⟨b,o0,none⟩) len cap)/\v=.pointer (some ⟨b,o0+(i*sz+off),none⟩):=by
 cases h with|v h=>cases h with|cell h=>cases h with|pure h=>cases h|op _ _ _ _ b o0 len cap hk=>exact⟨b,o0,len,cap,hk,rfl⟩
theorem gH.Fc{vs:cG}{ds:aR}(h:oH w vs ds bs):gH w κ vs ds bs:=by
 induction ds generalizing vs bs with
 |nil=>cases h;exact .nil
 |cons d ds ih=>cases h with|cons v vs _ _ b1 b2 h1 h2 h3=>exact .cons _ _ _ _ _ _ h1 (.pure h2) (ih h3)
theorem Bb{w:World}{e sz b o0 len cap n:Nat}{cs:cG}(h:w.ownsRow 0 e sz (.slice (some ⟨b,o0,none⟩) len cap) n cs):o0=0:=by
 rcases h.2 with⟨h,_⟩|⟨g,cap,cur,h,_⟩
 ·cases h
 ·cases h;rfl
theorem vR.El{ds:aR}(h:vR w κ v (.agg ds) bs):∃cs:cG,v=.agg cs.toArray/\gH w κ cs ds bs:=by
 cases h with
 |v h=>
  cases h with
  |cell h=>cases h with|pure h=>cases h with|agg cs _ _ h=>exact⟨cs,rfl,gH.Fc h⟩
  |agg cs _ _ h=>exact⟨cs,rfl,h⟩
theorem gH.length{vs:cG}{ds:aR}(h:gH w κ vs ds bs):vs.length=ds.length:=by
 induction ds generalizing vs bs with
 |nil=>cases h;rfl
 |cons d ds ih=>cases h with|cons v vs _ _ b1 b2 h1 h2 h3=>simp[ih h3]
theorem gH.one{vs:cG}{ds:aR}(h:gH w κ vs ds bs):∀v∈vs,v.oneCell'=true:=by
 induction ds generalizing vs bs with
 |nil=>cases h;simp
 |cons d ds ih=>
  cases h with
  |cons v vs _ _ b1 b2 h1 h2 h3=>
   intro u hu;rcases bV.1 hu with rfl|hu
   ·exact h1
   ·exact ih h3 u hu
theorem gH.app{vs us:cG}{ds es:aR}{cs:ah}(h:gH w κ vs ds bs)(k:gH w κ us es cs):gH w κ (vs++us) (ds++es) (bs++cs):=by
 induction ds generalizing vs bs with
 |nil=>cases h;simpa using k
 |cons d ds ih=>
  cases h with
  |cons v vs _ _ b1 b2 h1 h2 h3=>
   rw[dH];exact .cons _ _ _ _ _ _ h1 h2 (ih h3)
theorem gH.split{vs:cG}{ds es:aR}(h:gH w κ vs (ds++es) bs):
 ∃v1 v2 b1 b2,vs=v1++v2/\bs=b1++b2/\gH w κ v1 ds b1/\gH w κ v2 es b2:=by
 induction ds generalizing vs bs with
 |nil=>exact⟨[],vs,[],bs,by simp,by simp,.nil,h⟩
 |cons d ds ih=>
  cases h with
  |cons v vs _ _ b1 b2 h1 h2 h3=>
   obtain⟨v1,v2,c1,c2,rfl,rfl,k1,k2⟩:=ih h3;exact⟨v::v1,v2,b1++c1,c2,by simp,by simp,.cons _ _ _ _ _ _ h1 h2 k1,k2⟩
theorem gH.mid{vs:cG}{ds:aR}(h:gH w κ vs ds bs)(i n:Nat)(hn:i+n<=ds.length):
 ∃b,gH w κ ((vs.drop i).take n) ((ds.drop i).take n) b/\∀x∈b,x∈bs:=by
 have e:ds=ds.take i++((ds.drop i).take n++(ds.drop i).drop n):=by rw[cc,cc]
 rw[e]at h;obtain⟨v1,v2,b1,b2,rfl,rfl,k1,k2⟩:=h.split;obtain⟨v3,v4,b3,b4,rfl,rfl,k3,k4⟩:=k2.split;refine⟨b3,?_,by intro x hx;simp[hx]⟩;have h1:v1.length=i:=by rw[k1.length];simp;omega
 have h3:v3.length=n:=by rw[k3.length];simp;omega
 rw[jr h1,lP h3];exact k3
theorem gH.at{vs:cG}{ds:aR}(h:gH w κ vs ds bs){i:Nat}{d:D}(hd:ds[i]?=some d):
 ∃v b,vs[i]?=some v/\v.oneCell'=true/\Bf w κ v d b/\∀x∈b,x∈bs:=by
 induction ds generalizing vs bs i with
 |nil=>simp at hd
 |cons e ds ih=>
  cases h with
  |cons v vs _ _ b1 b2 h1 h2 h3=>
   cases i with
   |zero=>simp at hd;subst hd;exact⟨v,b1,by simp,h1,h2,by intro x hx;simp[hx]⟩
   |succ i=>
    simp at hd;obtain⟨u,b,k1,k2,k3,k4⟩:=ih h3 hd;exact⟨u,b,by simpa using k1,k2,k3,fun x hx=>by simp[k4 x hx]⟩
theorem Wb(v:Value):vR w κ v (D.V7 v) []:=by
 unfold D.V7;split
 ·exact .of (.bool _)
 ·split
  ·rename_i h;exact .of (.int _ _ h)
  ·exact .of (.val _)
 ·split
  ·rename_i h;exact .of (.str _ h)
  ·exact .of (.val _)
 ·exact .of .nil
 ·exact .of (.val _)
end
section
variable{Z:wV}{st:St}{κ:Nat->Option Value}{Θ:Nat->Nat}{a:Act}{w:World}
theorem fE.ev(h:fE Z st κ Θ a w)(x:Operand):∃bs,vR w κ (a.eval x) (st.ev x) bs/\∀b∈bs,Θ b=0:=by
 cases x with
 |tmp t=>exact h.slot t
 |const v=>exact⟨[],Wb v,by simp⟩
 |global g=>exact⟨[],.of (.val _),by simp⟩
 |func f=>exact⟨[],.of (.val _),by simp⟩
theorem fE.set(h:fE Z st κ Θ a w){t:Nat}{v:Value}{d:D}{bs:ah}(ht:t<Z.nt)(hv:vR w κ v d bs)(hb:∀b∈bs,Θ b=0):
 fE Z (st.set t d) κ Θ (a.put (some t) v) w:=by
 refine⟨h.defers,by simp[Act.put,h.size],h.uY,h.tF,?_,h.ob,h.own,h.old,h.mine,h.stays,h.vo⟩;intro u;show∃bs,vR w κ ((a.tmps.setIfInBounds t v).getD u undef) (if u=t then d else lk st.σ u) bs/\_;have hsz:=h.size;by_cases hu:u=t
 ·subst hu;rw[bP rfl];have:(a.tmps.setIfInBounds u v).getD u undef=v:=by
   simp[cW,hsz,ht]
  rw[this];exact⟨bs,hv,hb⟩
 ·rw[bE hu];have:(a.tmps.setIfInBounds t v).getD u undef=a.tmps.getD u undef:=by
   simp[cW,rq hu]
  rw[this];exact h.slot u
end
abbrev bz:=List Ob
def Dd(P:Program)(t:TypeId):Option Bool:=
 match P.underlying t with
 |some (.struct _)=>some true
 |some (.array _ _)=>some true
 |some _=>some false
 |none=>none
def Bp(P:Program)(t:TypeId):Nat:=P.cellsOf t
def tfo(P:Program)(t f:Nat):Option Nat:=
 match P.underlying t with
 |some (.struct fs)=>(match fs[f]? with
  |some x=>if(P.info? x.type).isSome/\P.cellsOf x.type≠0 then some x.offset else none
  |none=>none)
 |_=>none
def tft(P:Program)(t f:Nat):Option (Nat×TypeId):=
 match P.underlying t with
 |some (.struct fs)=>(match fs[f]? with|some x=>some (x.offset,x.type)|none=>none)
 |_=>none
def Mm(P:Program)(t:TypeId):Option (TypeId×Nat):=
 match P.underlying t with
 |some (.slice e)=>if(P.info? e).isSome then some (e,P.cellsOf e)else none
 |_=>none
def a9g(P:Program)(t:TypeId):Option (Nat×Nat):=
 match P.underlying t with
 |some (.array n e)=>if(P.info? e).isSome then some (P.cellsOf e,n)else none
 |_=>none
def a9h(P:Program)(t:TypeId):Option Nat:=match P.underlying t with
 |some (.array n e)=>(match Dd P e with|some false=>if Bp P e=1 then some n else none|_=>none)
 |_=>none
def O0(P:Program)(t:TypeId):Bool:=match P.underlying t with|some .string=>true|_=>false
def X0(P:Program)(t:TypeId):Option IntKind:=match P.underlying t with|some (.int k)=>some k|_=>none
def YR(P:Program)(t:TypeId):Bool:=match P.underlying t with|some .bool=>true|_=>false
def YT(P:Program)(t:TypeId):Bool:=match P.underlying t with
 |some (.struct fs)=>match fs.toList with
  | [f,g]=>f.name != "_" &&g.name != "_" &&f.offset==0&&g.offset==1&&O0 P f.type&&O0 P g.type&& !P.stoodInHeld t&& !P.eqGuardType P.depth t
  |_=>false
 |_=>false
def peq(P:Program)(op:BinOp)(t:TypeId):D->D->Option D
 | .bool a,.bool b=>if YR P t=true then match op with| .eql=>some (.bool (a==b))| .neq=>some (.bool (a != b))|_=>none else none
 | .agg [.str a,.str b],.agg [.str c,.str d]=>if YT P t=true then match op with| .eql=>some (.bool (a==c&&b==d))| .neq=>some (.bool (!(a==c&&b==d)))|_=>none else none
 |_,_=>none
def a9i(P:Program)(t:TypeId):Bool:=match P.underlying t with|some (.interface _)=>true|_=>false
def a9D(P:Program)(op:BinOp)(t:TypeId)(x:D)(y:Operand):Option D:=match x,y with
 | .ifc b,.const .nilIface=>(match a9i P t,op with|true,.eql=>some (.bool (!b))|true,.neq=>some (.bool b)|_,_=>none)
 |_,_=>none
def Zb(op:BinOp):D->D->Option D
 | .int k a,.int k' b=>
  if k=k' then
   match op with
   | .add=>some (.int k (k.wrap (a+b)))
   | .sub=>some (.int k (k.wrap (a-b)))
   | .mul=>some (.int k (k.wrap (a*b)))
   | .quo=>if 0<=a/\0<b then some (.int k (a/b))else none
   | .rem=>if 0<=a/\0<b then some (.int k (a%b))else none
   | .eql=>some (.bool (a==b))
   | .neq=>some (.bool (a != b))
   | .lss=>some (.bool (a<b))
   | .leq=>some (.bool (a<=b))
   | .gtr=>some (.bool (a>b))
   | .geq=>some (.bool (a>=b))
   |_=>none
  else none
 | .str a,.str b=>
  match op with
  | .add=>if a.length+b.length<=maxLen then some (.str (a++b))else none
  | .eql=>some (.bool (a==b))
  | .neq=>some (.bool (!(a==b)))
  | .lss=>some (.bool (Op.bytesLess a b))
  | .leq=>some (.bool (Op.bytesLess a b||a==b))
  | .gtr=>some (.bool (!(Op.bytesLess a b||a==b)))
  | .geq=>some (.bool (!(Op.bytesLess a b)))
  |_=>none
 |_,_=>none
def Jm(ag:Bool)(n:Nat)(row:aR)(off:Nat):Option D:=
 if ag then(if off+n<=row.length then some (.agg ((row.drop off).take n))else none)else row[off]?
def yF(len:Nat)(lo hi:Option D):Option (Nat×Nat):=
 match(match hi with|none=>some len|some (.int _ h)=>if 0<=h/\h.toNat<=len then some h.toNat else none|_=>none)with
 |none=>none
 |some h=>match(match lo with|none=>some 0|some (.int _ l)=>if 0<=l/\l.toNat<=h then some l.toNat else none|_=>none)with
  |none=>none
  |some l=>some (l,h)
def T9(a b:Int):Int:=if b<a then b else a
def a9C:D->D->Option D
 | .int k m,.int k' n=>if k=k' then some (.int k (T9 m n))else none
 |_,_=>none
def a5Y(P:Program)(st:St)(x:Operand)(t:TypeId):Option D:=
 match st.ev x with
 | .str s=>if O0 P t then some (.int .i64 s.length)else none
 | .sl rows=>if(Mm P t).isSome then some (.int .i64 rows.length)else none
 | .nil=>if(Mm P t).isSome then some (.int .i64 0)else none
 | .acc id=>(match Mm P t,st.H[id]? with|some _,some (.row _ _ _ rows)=>some (.int .i64 rows.length)|_,_=>none)
 |_=>none
def D.cellsOf:D->Option aR
 | .agg ds=>some ds
 | .any=>none
 | .iw _=>none
 | .val v=>if v.oneCell' then some [.val v]else none
 |d=>some [d]
def tz(P:Program)(t:TypeId):Option aR:=
 match P.info? t with
 |some i=>(match i.zero with
  |some z=>if z.cells.toList.all (fun c=>c.oneCell')&&z.cells.size==i.size then some (z.cells.toList.map D.V7)else none
  |none=>none)
 |none=>none
def YU(P:Program)(t:TypeId):Option (List (Nat×Nat)):=
 match P.underlying t with
 |some (.struct fs)=>fs.toList.mapM (fun f=>(P.info? f.type).map fun i=>(f.offset,i.size))
 |_=>none
def Ad(places:List (Nat×Nat))(cells:aR):List (Nat×D)->Option aR
 | []=>some cells
 | (i,d)::rest=>match places[i]?,d.cellsOf with
  |some (off,sz),some ds=>if ds.length=sz/\off+sz<=cells.length then Ad places (cells.take off++ds++cells.drop (off+sz)) rest else none
  |_,_=>none
def keq:D->D->Option Bool
 | .str a,.str b=>some (a==b)
 | .int k a,.int k' b=>if k=k' then some (a==b)else none
 |_,_=>none
def Ko:TypeDesc->D->Bool
 | .string,.str _=>true
 | .int k,.int k' _=>decide (k=k')
 |_,_=>false
def I3(k:D):List (D×D)->Option (Option D)
 | []=>some none
 |p::r=>match keq k p.1 with|some true=>some (some p.2)|some false=>I3 k r|none=>none
def MO(k v:D):List (D×D)->Option (List (D×D))
 | []=>some [(k,v)]
 |p::r=>match keq k p.1 with|some true=>some ((k,v)::r)|some false=>(MO k v r).map (p:: ·)|none=>none
def Zr(P:Program)(T:TypeId):Option (TypeDesc×D):=
 match P.underlying T with
 |some (.map kt et)=>(match P.underlying kt,P.info? et with
  |some d,some i=>(match i.zero with|some z=>if z.oneCell'=true then some (d,D.V7 z)else none|none=>none)
  |_,_=>none)
 |_=>none
def plk(P:Program)(T:TypeId)(kv:List (D×D))(k:D)(ok:Bool):Option D:=
 match Zr P T with
 |some (kd,dz)=>(match Ko kd k,I3 k kv with
  |true,some (some d)=>some (bif ok then .iw [d,.bool true]else d)
  |true,some none=>some (bif ok then .iw [dz,.bool false]else dz)
  |_,_=>none)
 |none=>none
def Jh(k:IntKind)(a b:Int):Int:=k.wrap ((BitVec.ofInt k.bits a&&& BitVec.ofInt k.bits b).toNat)
def aAN(k:IntKind)(a b:Int):Int:=k.wrap ((BitVec.ofInt k.bits a|||BitVec.ofInt k.bits b).toNat)
def XY(k:IntKind)(a b:Int):Int:=k.wrap ((BitVec.ofInt k.bits a^^^BitVec.ofInt k.bits b).toNat)
def VL(k:IntKind)(a b:Int):Int:=a.fdiv (2^(min b.toNat k.bits))
def a9B(op:BinOp)(x y:D):Option D:=match x,y with
 | .int k a,.int k' b=>(match op with
  | .and=>if k=k' then some (.int k (Jh k a b))else none
  | .or=>if k=k' then some (.int k (aAN k a b))else none
  | .xor=>if k=k' then some (.int k (XY k a b))else none
  | .shr=>if 0<=b then some (.int k (VL k a b))else none
  |_=>none)
 |_,_=>none
theorem qu.shr{k:IntKind}{a:Int}(h:qu k a)(b:Int):qu k (VL k a b):=by
 have hm:(0:Int)<2^(min b.toNat k.bits):=Int.pow_pos (by decide);unfold VL;rw[Int.fdiv_eq_ediv_of_nonneg _ (Ea hm)];generalize(2:Int)^(min b.toNat k.bits)=m at hm;have hz:=qu.zero k;rcases Int.lt_or_le a 0 with h0|h0
 ·refine⟨Eb h.1 (Int.le_ediv_of_mul_le hm ?_),Eb (Ea (Int.ediv_lt_of_lt_mul (b:=0) hm (by omega))) hz.2⟩;have:a*m<=a*1:=Int.mul_le_mul_of_nonpos_left (Ea h0) (by omega);omega
 ·exact h.down (FQ h0 (Ea hm)) (Int.ediv_le_self m h0)
def pv(P:Program)(st:St):Op->Option D
 | .lookup T x i ok=>match st.ev x with
  | .acc id=>(match st.H[id]? with|some (.mp kv)=>plk P T kv (st.ev i) ok|_=>none)
  |_=>none
 | .build t parts=>match tz P t,YU P t with
  |some zs,some ps=>(Ad ps zs (parts.toList.map fun p=>(p.1,st.ev p.2))).map D.agg
  |_,_=>none
 | .move x=>some (st.ev x)
 | .assign x=>some (st.ev x)
 | .pick c a b=>match st.ev c with| .bool t=>some (bif t then st.ev a else st.ev b)|_=>none
 | .binOp op t x y _=>match Zb op (st.ev x) (st.ev y)with|some d=>some d|none=>(match peq P op t (st.ev x) (st.ev y)with|some d=>some d|none=>(match a9D P op t (st.ev x) y with|some d=>some d|none=>a9B op (st.ev x) (st.ev y)))
 | .nilCheck x=>match st.ev x with| .ptr i o=>some (.ptr i o)| .op i a b c=>some (.op i a b c)| .ep r o=>some (.ep r o)|_=>none
 | .unOp .not _ x=>match st.ev x with| .bool b=>some (.bool (!b))|_=>none
 | .unOp .neg _ x=>match st.ev x with| .int k n=>some (.int k (k.wrap (0-n)))|_=>none
 | .convert s d x=>match st.ev x,X0 P s,X0 P d with| .int _ n,some _,some k=>some (.int k (k.wrap n))|_,_,_=>none
 | .field t x f=>match tft P t f,st.ev x with
  |some (off,ft),.agg cells=>(match Dd P ft with|some ag=>Jm ag (Bp P ft) cells off|none=>none)
  |_,_=>none
 | .fieldAddr t x f=>match tfo P t f,st.ev x with
  |some o,.ptr id off=>some (.ptr id (off+o))
  |some o,.ep row off=>some (.ep row (off+o))
  |some o,.op id i sz off=>some (.op id i sz (off+o))
  |_,_=>none
 | .indexAddr t x i=>match Mm P t,st.ev x,st.ev i with
  |some (_,sz),.sl rows,.int _ n=>if 0<=n then(match rows[n.toNat]? with|some row=>if row.length=sz then some (.ep row 0)else none|none=>none)else none
  |some (_,sz),.acc id,.int _ n=>(match st.H[id]? with
   |some (.row _ _ sz' rows)=>if sz=sz'/\0<=n/\n.toNat<rows.length then some (.op id n.toNat sz 0)else none
   |_=>none)
  |_,.val (.pointer (some ⟨g,o,none⟩)),.int _ n=>(match a9g P t with
   |some (sz,len)=>if 0<=n/\n.toNat<len then some (.val (.pointer (some ⟨g,o+n.toNat*sz,none⟩)))else none
   |none=>none)
  |_,_,_=>none
 | .load t x=>match Dd P t,st.ev x with
  |some ag,.ep row off=>Jm ag (Bp P t) row off
  |some ag,.ptr id off=>(match(st.H[id]?).bind Ob.Xe with|some cells=>Jm ag (Bp P t) cells off|none=>none)
  |some ag,.op id i sz off=>(match st.H[id]? with
   |some (.row (.ho p n) _ sz' _)=>(match ag with|false=>if sz'=sz/\i*sz+off=p then some (.acc n)else none|true=>none)
   |some (.row k _ sz' rows)=>(match rows[i]? with|some row=>if sz'=sz/\k.TQ=true/\off+(bif ag then Bp P t else 1)<=sz then Jm ag (Bp P t) row off else none|none=>none)
   |_=>none)
  |some ag,.val (.pointer (some ⟨g,o,none⟩))=>(match ag with|false=>Yc g o|true=>X5 g o (Bp P t))
  |_,_=>none
 | .extract x i=>match st.ev x with| .iw vs=>vs[i]? |_=>none
 | .index t x i=>match O0 P t,st.ev x,st.ev i with
  |true,.str s,.int _ n=>if 0<=n then(match s[n.toNat]? with|some b=>some (.int .u8 b.toNat)|none=>none)else none
  |false,.agg cells,.int _ n=>(match a9h P t with|some len=>if 0<=n/\n<(len:Int)then cells[n.toNat]? else none|none=>none)
  |_,_,_=>none
 | .slice t x lo hi none=>match st.ev x with
  | .str s=>if O0 P t then(match yF s.length (lo.map st.ev) (hi.map st.ev)with|some (l,h)=>some (.str ((s.take h).drop l))|none=>none)else none
  | .sl rows=>(match Mm P t,yF rows.length (lo.map st.ev) (hi.map st.ev)with
   |some (_,sz),some (l,h)=>if(rows.all (fun r=>r.length==sz))then some (.sl ((rows.take h).drop l))else none
   |_,_=>none)
  |_=>none
 | .call c=>match c.callee,c.args.toList,c.argTypes.toList with
  | .builtin .len,[x],[t]=>a5Y P st x t
  | .builtin .min,[x,y],[_,_]=>a9C (st.ev x) (st.ev y)
  |_,_,_=>none
 |_=>none
section
variable{P:Program}{Z:wV}{st:St}{κ:Nat->Option Value}{Θ:Nat->Nat}{a:Act}{w:World}
def zR(P:Program)(κ:Nat->Option Value)(Θ:Nat->Nat)(a:Act)(w:World)(o:Oper)(d:D):Prop:=
 ∃v bs,(execOp a.eval o).run P w=.ok (.value v) w/\vR w κ v d bs/\∀b∈bs,Θ b=0
theorem WY{n:Nat}(h:n<=maxLen):qu .i64 (n:Int):=by
 rw[qu.i64];unfold maxLen at h;omega
theorem eC{k:IntKind}{n:Int}(h:qu k n):k.wrap n=n:=by
 unfold qu at h;cases k<;>simp[IntKind.min,IntKind.max,IntKind.wrap,IntKind.bits,IntKind.signed]at h⊢ <;>(try split)<;>omega
theorem We{o:Oper}{op:BinOp}{t t':TypeId}{x y:Operand}{d:D}(hs:fE Z st κ Θ a w)(ho:o.op=.binOp op t x y t')
 (h:Zb op (st.ev x) (st.ev y)=some d):zR P κ Θ a w o d:=by
 obtain⟨b1,r1,_⟩:=hs.ev x;obtain⟨b2,r2,_⟩:=hs.ev y;generalize st.ev x=dx at*;generalize st.ev y=dy at*;unfold Zb at h;split at h
 ·rename_i k p k' q;split at h
  ·rename_i hk;subst hk;have e1:=r1.tr;have e2:=r2.tr;cases op<;>simp only[bC,reduceCtorEq]at h
   case quo=>
    split at h
    ·rename_i hq;cases h;have hq0:q≠0:=by omega
     have hle:p/q<=p:=Int.ediv_le_self q hq.1;have h0:0<=p/q:=FQ hq.1 (by omega);have hin:=r1.QE.down h0 hle;have hw:k.wrap (p.tdiv q)=p/q:=by
      rw[Int.tdiv_eq_ediv_of_nonneg hq.1];exact eC hin
     exact⟨_,[],by simp[execOp,ho,e1,e2,binOp,eqGuard,Op.intDiv,hq0,hw],.of (.int _ _ hin),by simp⟩
    ·cases h
   case rem=>
    split at h
    ·rename_i hq;cases h;have hq0:q≠0:=by omega
     have h0:0<=p%q:=Int.emod_nonneg p hq0;have hle:p%q<=p:=by
      have h1:=Int.emod_add_mul_ediv p q;have h2:0<=q*(p/q):=Int.mul_nonneg (by omega) (FQ hq.1 (by omega));omega
     have hin:=r1.QE.down h0 hle;have hw:p.tmod q=p%q:=Int.tmod_eq_emod_of_nonneg hq.1;exact⟨_,[],by simp[execOp,ho,e1,e2,binOp,eqGuard,Op.intDiv,hq0,hw],.of (.int _ _ hin),by simp⟩
    ·cases h
   all_goals subst h
   all_goals first
    |exact⟨_,[],by simp[execOp,ho,e1,e2,binOp,eqGuard,Op.intArith],.of (.int _ _ (qu.wrap _ _)),by simp⟩
    |exact⟨_,[],by simp[execOp,ho,e1,e2,binOp,eqGuard,Op.intCmp],.of (.bool _),by simp⟩
  ·cases h
 ·rename_i p q;obtain⟨u,e1,rfl⟩:=r1.wu;obtain⟨v,e2,rfl⟩:=r2.wu;cases op<;>simp only[bC,reduceCtorEq]at h
  case add=>
   split at h
   ·rename_i hl;cases h;have hsz:u.size+v.size<=9223372036854775807:=by
     simp only[xD,maxLen]at hl;exact hl
    refine⟨.string (u++v),[],?_,?_,by simp⟩
    ·simp[execOp,ho,e1,e2,binOp,eqGuard,run_string_add_sum w u v hsz]
    ·have:=Rd.str (w:=w) (u++v) (by rw[ByteArray.size_append'];unfold maxLen;omega);simp only[ByteArray.data_append,nk]at this;exact .of this
   ·cases h
  all_goals subst h
  all_goals exact⟨_,[],by simp[execOp,ho,e1,e2,binOp,eqGuard,Op.stringOp,ByteArray.toList_eq],.of (.bool _),by simp⟩
 ·cases h
theorem EU{t:TypeId}{b:Bool}(h:Dd P t=some b)(w:World):(isAgg t).run P w=.ok b w:=by
 unfold Dd at h;split at h<;>first
  | (rename_i hu;cases h;simp[isAgg,run_underlying hu])
  | (rename_i d _ _ hu;cases h;cases d<;>simp_all [isAgg,run_underlying hu])
  |cases h
theorem info_of_underlying{t:TypeId}{d:TypeDesc}(h:P.underlying t=some d):∃i,P.info? t=some i:=by
 unfold Program.underlying at h;cases hi:P.info? t with
 |none=>simp[hi]at h
 |some i=>exact⟨i,rfl⟩
theorem FI{t:TypeId}{b:Bool}(h:Dd P t=some b):∃i,P.info? t=some i:=by
 unfold Dd at h;split at h<;>first
  | (rename_i hu;exact info_of_underlying hu)
  |cases h
theorem xg{t:TypeId}(h:∃i,P.info? t=some i)(w:World):(sizeOf t).run P w=.ok (Bp P t) w:=by
 obtain⟨i,hi⟩:=h;simp[sizeOf,typeInfo,hi,Bp,Program.cellsOf]
theorem rj{t:TypeId}{ag:Bool}(ht:Dd P t=some ag){b off o:Nat}{cs:cG}
 (hc:∀j c,cs[j]?=some c->w.cell? ⟨b,off+j,none⟩=some c):
 (ag=true->o+Bp P t<=cs.length->(Instr.loadAt t (.pointer (some ⟨b,off+o,none⟩))).run P w=.ok (.agg ((cs.drop o).take (Bp P t)).toArray) w)/\
 (ag=false->∀c,cs[o]?=some c->(Instr.loadAt t (.pointer (some ⟨b,off+o,none⟩))).run P w=.ok c w):=by
 constructor
 ·intro e hl;subst e;have hlen:((cs.drop o).take (Bp P t)).length=Bp P t:=by simp;omega
  have:=run_loadCells_list (P:=P) w ⟨b,off+o,none⟩ ((cs.drop o).take (Bp P t)) (by
   intro j v hj;rw[Addr.add_lit];rw[dP]at hj;split at hj
   ·rw[gO]at hj;rw[nH];exact hc _ _ hj
   ·cases hj)
  rw[hlen]at this;simp[Instr.loadAt,Instr.sureAddr,loadVar,EU ht,xg (FI ht),this]
 ·intro e c hj;subst e;have:=hc o c hj;simp[Instr.loadAt,Instr.sureAddr,loadVar,EU ht,this]
theorem Bf.Tv{v:Value}{d:D}{bs:ah}(h:Bf w κ v d bs):vR w κ v d bs:=.v (.cell h)
theorem QM{o:Oper}{t:TypeId}{x:Operand}{d:D}(hs:fE Z st κ Θ a w)(ho:o.op=.load t x)
 (h:pv P st (.load t x)=some d):zR P κ Θ a w o d:=by
 obtain⟨b1,r1,z1⟩:=hs.ev x;simp only[pv]at h;split at h
 ·rename_i ag row off ht hx;rw[hx]at r1;have hrd:=r1.Vu;generalize hvx:a.eval x=vx at hrd;cases hrd with
  |ep b base cs _ _ bs h0 hc uz=>
   have L:=rj (P:=P) (w:=w) ht (o:=off) hc;unfold Jm at h;split at h
   ·rename_i hag;split at h
    ·rename_i hl;cases h;have hl':off+Bp P t<=cs.length:=by rw[uz.length];exact hl
     obtain⟨b',hm,hsub⟩:=uz.mid off (Bp P t);exact⟨_,b',by simp only[execOp,ho,hvx];simp[L.1 hag hl'],.of (.agg _ _ _ hm),fun y hy=>z1 y (by simp[hsub y hy])⟩
    ·cases h
   ·rename_i hag;simp only[zf]at hag;obtain⟨v,b',hv,_,hr,hsub⟩:=uz.at h;exact⟨v,b',by simp only[execOp,ho,hvx];simp[L.2 hag v hv],.of hr,fun y hy=>z1 y (by simp[hsub y hy])⟩
 ·rename_i ag id off ht hx;rw[hx]at r1;obtain⟨g,hk,hv⟩:=r1.DD;split at h
  ·rename_i cells hH;obtain⟨ob,hH,Dj⟩:=qD.1 hH;obtain⟨g',cs,T,hk',hg,hΘ,bs,uz,hz⟩:=(hs.ob id _ hH).cs Dj;rw[hk]at hk';cases hk';have hc:∀j c,cs.toList[j]?=some c->w.cell? ⟨g,0+j,none⟩=some c:=by
    intro j c hj;simp only[cY,World.cell?,hg];simpa using hj
   have L:=rj (P:=P) (w:=w) ht (o:=off) hc;simp only[cY]at L;unfold Jm at h;split at h
   ·rename_i hag;split at h
    ·rename_i hl;cases h;have hl':off+Bp P t<=cs.toList.length:=by rw[uz.length];exact hl
     obtain⟨b',hm,hsub⟩:=uz.mid off (Bp P t) hl;exact⟨_,b',by simp only[execOp,ho,hv];simp[L.1 hag hl'],.v (.agg _ _ _ hm),fun y hy=>hz y (hsub y hy)⟩
    ·cases h
   ·rename_i hag;simp only[zf]at hag;obtain⟨v,b',hv',_,hr,hsub⟩:=uz.at h;exact⟨v,b',by simp only[execOp,ho,hv];simp[L.2 hag v hv'],hr.Tv,fun y hy=>hz y (hsub y hy)⟩
  ·cases h
 ·rename_i ag id i sz off ht hx;rw[hx]at r1;obtain⟨g,o0,len,cap,hk,hv⟩:=r1.Qb;split at h
  ·rename_i p n e sz' rows hH;split at h
   ·split at h
    ·rename_i Rs;obtain⟨rfl,rfl⟩:=Rs;cases h;obtain⟨ρ,hu⟩:=hs.vo;obtain⟨vk,cs,bs,Xu,hown,_,_,_,c,hc,hkc⟩:=hu.more id _ hH;rw[hk]at Xu;cases Xu;have Xq:=Bb hown;subst Xq;rw[cY]at hv;have hcells:∀j c,cs[j]?=some c->w.cell? ⟨g,0+j,none⟩=some c:=by
      intro j c hj;have:=hown.cells (g:=g) (by simp[Value.ownBlock]) j c hj;simpa[Addr.add_lit]using this
     have L:=rj (P:=P) (w:=w) ht (o:=i*sz'+off) hcells;simp only[cY]at L;exact⟨c,[],by simp only[execOp,ho,hv];simp[L.2 trivial c hc],(Bf.acc n c hkc).Tv,by simp⟩
    ·cases h
   ·cases h
  ·rename_i k e sz' rows hnh hH;split at h
   ·rename_i row hrow;split at h
    ·rename_i Rs;obtain⟨rfl,hk0,hoff⟩:=Rs;obtain⟨hsz,hrl,vk,cs,bs,Xu,hown,uz,hΘ,hz⟩:=hs.ob id _ hH;have Aj:∀b∈bs,Θ b=0:=by cases k<;>first|exact hz|simp[RK.TQ]at hk0
     rw[hk]at Xu;cases Xu;have Xq:=Bb hown;subst Xq;rw[cY]at hv;have Xt:row.length=sz':=hrl row (aE hrow);have hcells:∀j c,cs[j]?=some c->w.cell? ⟨g,0+j,none⟩=some c:=by
      intro j c hj;have:=hown.cells (g:=g) (by simp[Value.ownBlock]) j c hj;simpa[Addr.add_lit]using this
     have L:=rj (P:=P) (w:=w) ht (o:=i*sz'+off) hcells;simp only[cY]at L;have aFT:=uz.length;have hmid:=Ht hrl hrow;have hlt:i<rows.length:=(aN.1 hrow).1;have hfl:=rI hrl;have hle:(i+1)*sz'<=rows.length*sz':=fN _ hlt;rw[oA,rA]at hle;unfold Jm at h;split at h
     ·rename_i hag;subst hag;simp only[aF]at hoff;split at h
      ·rename_i hl;cases h;have hl':i*sz'+off+Bp P t<=cs.length:=by rw[aFT,hfl];omega
       obtain⟨b',hm,hsub⟩:=uz.mid (i*sz'+off) (Bp P t);have e:(rows.flatten.drop (i*sz'+off)).take (Bp P t)=(row.drop off).take (Bp P t):=by
        rw[<-hmid,List.drop_take,ye,jR,jt (by omega)]
       rw[e]at hm;exact⟨_,b',by simp only[execOp,ho,hv];simp[L.1 rfl hl'],.of (.agg _ _ _ hm),fun y hy=>Aj y (hsub y hy)⟩
      ·cases h
     ·rename_i hag;simp only[zf]at hag;subst hag;simp only[aL]at hoff;have e:rows.flatten[i*sz'+off]?=some d:=by
       rw[<-hmid,dP,bP (by omega),gO]at h;exact h
      obtain⟨v,b',hv',_,hr,hsub⟩:=uz.at e;exact⟨v,b',by simp only[execOp,ho,hv];simp[L.2 rfl v hv'],.of hr,fun y hy=>Aj y (hsub y hy)⟩
    ·cases h
   ·cases h
  ·cases h
 ·rename_i ag g o' ht hx;rw[hx]at r1;have hv:=r1.Yb;split at h
  ·obtain⟨ds,⟨p,hp,hcs⟩,hd⟩:=a3Y h;obtain⟨B,hB,_⟩:=hs.vsb;obtain⟨_,cs,T,z,hg,hpc⟩:=hB _ hp;obtain⟨v,Gc,hrd⟩:=hcs _ hpc _ _ hd;have hc:∀j c,cs.toList[j]?=some c->w.cell? ⟨g,0+j,none⟩=some c:=by
    intro j c hj;simp only[cY,World.cell?,hg];simpa using hj
   have L:=(rj (P:=P) (w:=w) ht (o:=o') hc).2 rfl v Gc;rw[cY]at L;exact⟨v,[],by simp only[execOp,ho,hv];simp[L],.of (hrd w),by simp⟩
  ·unfold X5 at h;split at h
   ·rename_i x hf;split at h
    ·rename_i Rs;cases h;simp only[aS,cr]at Rs;obtain⟨⟨hal,Xq⟩,hsz⟩:=Rs;subst Xq;have h1:=List.find?_some hf;have h2:=Ck hf;have e:x.1=g:=by simpa using h1
     obtain⟨p,hp,hcs⟩:=Qy x h2;rw[e]at hp;obtain⟨B,hB,_⟩:=hs.vsb;obtain⟨_,cs,T,z,hg,hpc⟩:=hB _ hp;have hc:∀j c,cs.toList[j]?=some c->w.cell? ⟨g,0+j,none⟩=some c:=by
      intro j c hj;simp only[cY,World.cell?,hg];simpa using hj
     obtain⟨hle,uz⟩:=VQ (w:=w) (ds:=x.2) (cs:=cs.toList) (fun d hd=>b8.1 hal d hd) (fun o d hd=>by obtain⟨v,Gc,hr⟩:=hcs _ hpc o d hd;exact⟨v,Gc,hr w⟩);have L:=(rj (P:=P) (w:=w) ht (o:=0) hc).1 rfl (by rw[cY,hsz];exact hle);rw[cY,Bq,hsz]at L;exact⟨_,[],by simp only[execOp,ho,hv];simp[L],.of (.agg _ _ _ uz),by simp⟩
    ·cases h
   ·cases h
 ·cases h
theorem UU{o:Oper}{t f:Nat}{x:Operand}{d:D}(hs:fE Z st κ Θ a w)(ho:o.op=.field t x f)
 (h:pv P st (.field t x f)=some d):zR P κ Θ a w o d:=by
 obtain⟨b1,r1,z1⟩:=hs.ev x;simp only[pv]at h;split at h
 ·rename_i off ft cells ht hx;rw[hx]at r1;obtain⟨cs,hv,uz⟩:=r1.El;unfold tft at ht;split at ht
  ·rename_i fs hu;split at ht
   ·rename_i fl hfl;cases ht;split at h
    ·rename_i ag hta;unfold Jm at h;split at h
     ·rename_i hag;subst hag;split at h
      ·rename_i hl;cases h;obtain⟨b',hm,hsub⟩:=uz.mid fl.offset (Bp P fl.type) hl;refine⟨.agg ((cs.drop fl.offset).take (Bp P fl.type)).toArray,b',?_,.v (.agg _ _ _ hm),fun y hy=>z1 y (hsub y hy)⟩;have e:cs.toArray.extract fl.offset (fl.offset+Bp P fl.type)=((cs.drop fl.offset).take (Bp P fl.type)).toArray:=by
        rw[List.extract_toArray,List.extract_eq_take_drop];congr 1;congr 1;omega
       simp only[execOp,ho,hv];simp[Instr.field,run_underlying hu,hfl,asAgg,part,EU hta,xg (FI hta),e]
      ·cases h
     ·rename_i hag;simp only[zf]at hag;subst hag;obtain⟨v,b',Gc,_,hr,hsub⟩:=uz.at h;refine⟨v,b',?_,.v (.cell hr),fun y hy=>z1 y (hsub y hy)⟩;simp only[execOp,ho,hv];simp[Instr.field,run_underlying hu,hfl,asAgg,part,EU hta,Gc]
    ·cases h
   ·cases ht
  ·cases ht
 ·cases h
theorem Oj{o:Oper}{t f:Nat}{x:Operand}{d:D}(hs:fE Z st κ Θ a w)(ho:o.op=.fieldAddr t x f)
 (h:pv P st (.fieldAddr t x f)=some d):zR P κ Θ a w o d:=by
 obtain⟨b1,r1,z1⟩:=hs.ev x;have hf:∀ {o':Nat},tfo P t f=some o'->∀(b off:Nat),(Instr.fieldAt t (.pointer (some ⟨b,off,none⟩)) f).run P w=.ok (.pointer (some ⟨b,off+o',none⟩)) w:=by
  intro o' h b off;unfold tfo at h;split at h
  ·rename_i fs hu;split at h
   ·rename_i fl hfl;split at h
    ·rename_i hc;cases h;obtain⟨i,hi⟩:=gP.1 hc.1;have hsz:=xg (P:=P) ⟨i,hi⟩ w;have h0:Bp P fl.type≠0:=hc.2;simp[Instr.fieldAt,run_underlying hu,hfl,Instr.sureAddr,fieldPlace,hsz,h0,Addr.add_lit]
    ·cases h
   ·cases h
  ·cases h
 simp only[pv]at h;split at h
 ·rename_i o' id off ht hx;cases h;rw[hx]at r1;obtain⟨g,hk,hv⟩:=r1.DD;exact⟨_,[],by simp only[execOp,ho,hv];simp[hf ht g off],(Bf.ptr id (off+o') g hk).Tv,by simp⟩
 ·rename_i o' row off ht hx;cases h;rw[hx]at r1;have hrd:=r1.Vu;generalize hvx:a.eval x=vx at hrd;cases hrd with
  |ep b base cs _ _ bs h0 hc uz=>
   refine⟨.pointer (some ⟨b,base+off+o',none⟩),b::bs,by simp only[execOp,ho,hvx];simp[hf ht b (base+off)],?_,z1⟩;rw[nH];exact .of (.ep b base cs row (off+o') bs h0 hc uz)
 ·rename_i o' id i sz off ht hx;cases h;rw[hx]at r1;obtain⟨g,o0,len,cap,hk,hv⟩:=r1.Qb;refine⟨.pointer (some ⟨g,o0+(i*sz+off)+o',none⟩),[],by simp only[execOp,ho,hv];simp[hf ht g (o0+(i*sz+off))],?_,by simp⟩;rw[nH,nH];exact(Bf.op id i sz (off+o') g o0 len cap hk).Tv
 ·cases h
theorem uV{t e sz:Nat}(h:Mm P t=some (e,sz)):P.underlying t=some (.slice e)/\(∃i,P.info? e=some i)/\Bp P e=sz:=by
 unfold Mm at h;split at h
 ·rename_i e' hu;split at h
  ·rename_i hi;cases h;exact⟨hu,gP.1 hi,rfl⟩
  ·cases h
 ·cases h
theorem Ot{o:Oper}{t:Nat}{x i:Operand}{d:D}(hs:fE Z st κ Θ a w)(ho:o.op=.indexAddr t x i)
 (h:pv P st (.indexAddr t x i)=some d):zR P κ Θ a w o d:=by
 obtain⟨b1,r1,z1⟩:=hs.ev x;obtain⟨b2,r2,z2⟩:=hs.ev i;simp only[pv]at h;split at h
 ·rename_i e sz rows k n ht hx hi;rw[hx]at r1;rw[hi]at r2;have hn:=r2.tr;obtain⟨hu,Q4,Oo⟩:=uV ht;have hsz:=xg (P:=P) Q4 w;split at h
  ·rename_i h0;split at h
   ·rename_i row hrow;split at h
    ·rename_i hlen;cases h;have hrd:=r1.Th;have hlt:n.toNat<rows.length:=(aN.1 hrow).1;generalize hvx:a.eval x=vx at hrd;cases hrd with
     |Af=>simp at hrow
     |sA=>simp at hrow
     |sl b off cap sz' _ cs bs hb hcap Q6 hrl hc uz=>
      have aFW:sz'=sz:=by rw[<-hrl row (aE hrow)];exact hlen
      subst aFW;obtain⟨b',hm,hsub⟩:=uz.mid (n.toNat*sz') sz';rw[Ht hrl hrow]at hm;have hn':0<=n/\n<(rows.length:Int):=⟨h0,by omega⟩
      refine⟨.pointer (some ⟨b,off+n.toNat*sz',none⟩),b::b',?_,?_,?_⟩
      ·simp only[execOp,ho,hvx,hn];simp[Instr.indexAt,asIntOf,run_underlying hu,hn',hsz,Oo,Addr.add_lit]
      ·have aFU:∀j c,((cs.drop (n.toNat*sz')).take sz')[j]?=some c->w.cell? ⟨b,off+n.toNat*sz'+j,none⟩=some c:=by
        intro j c hj;rw[dP]at hj;split at hj
        ·rw[gO]at hj;rw[nH];exact hc _ _ hj
        ·cases hj
       exact .of (.ep b (off+n.toNat*sz') _ row 0 b' hb aFU hm)
      ·intro y hy;rcases bV.1 hy with rfl|hy
       ·exact z1 _ (by simp)
       ·exact z1 _ (by simp[hsub y hy])
    ·cases h
   ·cases h
  ·cases h
 ·rename_i e sz id k n ht hx hi;rw[hx]at r1;rw[hi]at r2;have hn:=r2.tr;obtain⟨hv,_⟩:=r1.A7;obtain⟨hu,Q4,Oo⟩:=uV ht;have hsz:=xg (P:=P) Q4 w;split at h
  ·rename_i dp e' sz' rows hH;split at h
   ·rename_i hc;cases h;obtain⟨rfl,h0,hlt⟩:=hc;obtain⟨a8Z,hrl,vk,cs,bs,Xu,hown,uz,hΘ,hz⟩:=hs.ob id _ hH;rw[hv]at Xu;cases Xu;rcases hown.2 with⟨wm,Aj⟩|⟨g,cap,cur,hkv,_⟩
    ·omega
    ·have hn':0<=n/\n<(rows.length:Int):=⟨h0,by omega⟩
     refine⟨_,[],?_,(Bf.op id n.toNat sz 0 g 0 _ _ (hkv▸hv)).Tv,by simp⟩;simp only[execOp,ho,hn,hkv];simp[Instr.indexAt,asIntOf,run_underlying hu,hn',hsz,Oo,Addr.add_lit]
   ·cases h
  ·cases h
 ·rename_i g o' kk n hx hi;rw[hx]at r1;rw[hi]at r2;have hn:=r2.tr;have hv:=r1.Yb;split at h
  ·rename_i sz len hT;split at h
   ·rename_i hc;cases h;obtain⟨h0,hlt⟩:=hc;unfold a9g at hT;split at hT
    ·rename_i len' e hu;split at hT
     ·rename_i Q4;cases hT;have hsz:=xg (P:=P) (gP.1 Q4) w;have hn':0<=n/\n<(len:Int):=⟨h0,by omega⟩
      refine⟨_,[],?_,.of (.val _),by simp⟩;simp only[execOp,ho,hn,hv];simp[Instr.indexAt,Instr.sureAddr,asIntOf,run_underlying hu,hn',hsz,Bp,Addr.add_lit]
     ·cases hT
    ·cases hT
   ·cases h
  ·cases h
 ·cases h
theorem ZP{o:Oper}{t t':Nat}{x y:Operand}{d:D}(hs:fE Z st κ Θ a w)(ho:o.op=.call {callee:=.builtin .min,args:= #[x,y],argTypes:= #[t,t']})
 (h:a9C (st.ev x) (st.ev y)=some d):zR P κ Θ a w o d:=by
 obtain⟨b1,r1,z1⟩:=hs.ev x;obtain⟨b2,r2,z2⟩:=hs.ev y;unfold a9C at h;split at h
 ·rename_i k m k' n hx hy;split at h
  ·rename_i hk;subst hk;cases h;rw[hx]at r1;rw[hy]at r2;have e1:=r1.tr;have e2:=r2.tr;refine⟨.int k (T9 m n),[],?_,.of (.int _ _ ?_),by simp⟩
   ·simp only[execOp,ho,resolve,invoke,builtin,u7,bA,cF,e1,e2];simp[Builtin.min_,Builtin.min2,T9]
   ·unfold T9;split
    ·exact r2.QE
    ·exact r1.QE
  ·cases h
 ·cases h
theorem ZL{o:Oper}{t:Nat}{x:Operand}{d:D}(hs:fE Z st κ Θ a w)(ho:o.op=.call {callee:=.builtin .len,args:= #[x],argTypes:= #[t]})
 (h:a5Y P st x t=some d):zR P κ Θ a w o d:=by
 obtain⟨b1,r1,z1⟩:=hs.ev x;unfold a5Y at h;split at h
 ·rename_i s hx;split at h
  ·rename_i ht;cases h;rw[hx]at r1;obtain⟨u,hv,rfl⟩:=r1.wu;have hu:P.underlying t=some .string:=by
    unfold O0 at ht;split at ht
    ·assumption
    ·cases ht
   refine⟨.int .i64 (u.data.toList.length:Nat),[],?_,.of (.int _ _ (WY r1.a3O)),by simp⟩;simp only[execOp,ho,resolve,invoke,builtin,u7,bA,cF,hv];simp[Builtin.len_,run_underlying hu,goInt]
  ·cases h
 ·rename_i rows hx;split at h
  ·rename_i ht;cases h;rw[hx]at r1;obtain⟨⟨e,sz⟩,ht⟩:=gP.1 ht;obtain⟨hu,_,_⟩:=uV ht;have hrd:=r1.Th;generalize hvx:a.eval x=vx at hrd;have hlen:∃q c,vx=.slice q rows.length c:=by
    cases hrd with
    |Af=>exact⟨_,_,rfl⟩
    |sA=>exact⟨_,_,rfl⟩
    |sl=>exact⟨_,_,rfl⟩
   have Q6:rows.length<=maxLen:=by
    cases hrd with
    |Af=>simp
    |sA=>simp
    |sl b off cap sz _ cs bs hb h1 h2=>omega
   obtain⟨q,c,rfl⟩:=hlen;refine⟨.int .i64 rows.length,[],?_,.of (.int _ _ (WY Q6)),by simp⟩;simp only[execOp,ho,resolve,invoke,builtin,u7,bA,cF,hvx];simp[Builtin.len_,run_underlying hu,goInt]
  ·cases h
 ·rename_i hx;split at h
  ·rename_i ht;cases h;rw[hx]at r1;obtain⟨⟨e,sz⟩,ht⟩:=gP.1 ht;obtain⟨hu,_,_⟩:=uV ht;have hv:=r1.MV;refine⟨.int .i64 0,[],?_,.of (.int _ _ (qu.zero _)),by simp⟩;simp only[execOp,ho,resolve,invoke,builtin,u7,bA,cF,hv];simp[Builtin.len_,run_underlying hu,goInt]
  ·cases h
 ·rename_i id hx;split at h
  ·rename_i p dp e' sz' rows ht hH;cases h;rw[hx]at r1;obtain⟨hv,_⟩:=r1.A7;obtain⟨e,sz⟩:=p;obtain⟨hu,_,_⟩:=uV ht;obtain⟨a8Z,hrl,vk,cs,bs,Xu,hown,uz,hΘ,hz⟩:=hs.ob id _ hH;rw[hv]at Xu;cases Xu;have hlen:∃q c,a.eval x=.slice q rows.length c:=by
    rcases hown.2 with⟨wm,Aj⟩|⟨g,cap,cur,hkv,_⟩
    ·exact⟨none,0,by rw[wm,Aj]⟩
    ·exact⟨_,_,hkv⟩
   have Q6:rows.length<=maxLen:=by
    rcases hown.2 with⟨wm,Aj⟩|⟨g,cap,cur,hkv,_,_,h1,h2,_⟩
    ·omega
    ·omega
   obtain⟨q,c,hk⟩:=hlen;refine⟨.int .i64 rows.length,[],?_,.of (.int _ _ (WY Q6)),by simp⟩;simp only[execOp,ho,resolve,invoke,builtin,u7,bA,cF,hk];simp[Builtin.len_,run_underlying hu,goInt]
  ·cases h
 ·cases h
theorem Ej.at{vs:cG}{ds:aR}{bs:ah}(h:Ej w κ vs ds bs){i:Nat}{d:D}(hd:ds[i]?=some d):
 ∃v b,vs[i]?=some v/\PV w κ v d b/\∀x∈b,x∈bs:=by
 induction ds generalizing vs bs i with
 |nil=>simp at hd
 |cons e ds ih=>
  cases h with
  |cons v vs _ _ b1 b2 h2 h3=>
   cases i with
   |zero=>simp at hd;subst hd;exact⟨v,b1,by simp,h2,by intro x hx;simp[hx]⟩
   |succ i=>
    simp at hd;obtain⟨u,b,k1,k3,k4⟩:=ih h3 hd;exact⟨u,b,by simpa using k1,k3,fun x hx=>by simp[k4 x hx]⟩
theorem vR.a64{v:Value}{ds:aR}{bs:ah}(h:vR w κ v (.iw ds) bs):∃vs:cG,v=.tuple vs.toArray/\Ej w κ vs ds bs:=by
 cases h with
 |v h=>cases h with|cell h=>cases h with|pure h=>cases h
 |iw vs _ _ h=>exact⟨vs,rfl,h⟩
theorem RF{o:Oper}{i:Nat}{x:Operand}{d:D}(hs:fE Z st κ Θ a w)(ho:o.op=.extract x i)
 (h:pv P st (.extract x i)=some d):zR P κ Θ a w o d:=by
 obtain⟨b1,r1,z1⟩:=hs.ev x;simp only[pv]at h;split at h
 ·rename_i vs hx;rw[hx]at r1;obtain⟨us,hv,hr⟩:=r1.a64;obtain⟨v,b,k1,k2,k3⟩:=hr.at h;exact⟨v,b,by simp only[execOp,ho,hv];simp[Instr.extract,k1],.v k2,fun y hy=>z1 y (k3 y hy)⟩
 ·cases h
theorem zx{t:Nat}(ht:O0 P t=true):P.underlying t=some .string:=by
 unfold O0 at ht;split at ht
 ·assumption
 ·cases ht
theorem Un{o:Oper}{t:Nat}{x i:Operand}{d:D}(hs:fE Z st κ Θ a w)(ho:o.op=.index t x i)
 (h:pv P st (.index t x i)=some d):zR P κ Θ a w o d:=by
 obtain⟨b1,r1,z1⟩:=hs.ev x;obtain⟨b2,r2,z2⟩:=hs.ev i;simp only[pv]at h;split at h
 ·rename_i s k n ht hx hi;rw[hx]at r1;rw[hi]at r2;obtain⟨u,hv,rfl⟩:=r1.wu;have hn:=r2.tr;have hu:=zx ht;split at h
  ·rename_i h0;split at h
   ·rename_i b hb;cases h;have hlt:n.toNat<u.size:=by
     have:=(aN.1 hb).1;simpa using this
    have Q3:u[n.toNat]?=some b:=by
     have hb':u.data[n.toNat]?=some b:=by simpa using hb
     rw[getElem?_pos u n.toNat hlt];rw[bS]at hb';obtain⟨_,he⟩:=hb';rw[<-he];rfl
    refine⟨.int .u8 b.toNat,[],?_,.of (.int _ _ (qu.u8.2 (by have:=b.toNat_lt;omega))),by simp⟩;simp only[execOp,ho,hv,hn];simp[Instr.index,asIntOf,run_underlying hu,h0,Q3]
   ·cases h
  ·cases h
 ·rename_i cells k n ht hx hi;rw[hx]at r1;rw[hi]at r2;obtain⟨cs,hv,uz⟩:=r1.El;have hn:=r2.tr;unfold a9h at h;split at h
  ·rename_i len hT;split at hT
   ·rename_i len' e hu;split at hT
    ·rename_i hag;split at hT
     ·rename_i hsz;cases hT;split at h
      ·rename_i hb;obtain⟨v,b',Gc,_,hr,hsub⟩:=uz.at h;refine⟨v,b',?_,.v (.cell hr),fun y hy=>z1 y (hsub y hy)⟩;simp only[execOp,ho,hv,hn];simp[Instr.index,asIntOf,run_underlying hu,hb,part,EU hag,xg (FI hag),hsz,Gc]
      ·cases h
     ·cases hT
    ·cases hT
   ·cases hT
  ·cases h
 ·cases h
theorem TX{lo hi:Option Operand}{l h':Nat}{isSlice:Bool}{len cap:Nat}(hs:fE Z st κ Θ a w)
 (hlc:len<=cap) (h:yF len (lo.map st.ev) (hi.map st.ev)=some (l,h')):
 (Instr.sliceBounds isSlice len cap (lo.map a.eval) (hi.map a.eval) none).run P w=.ok (l,h',cap) w/\l<=h'/\h'<=len:=by
 have hv:∀ {x:Operand} {k:IntKind} {n:Int},st.ev x=.int k n->a.eval x=.int k n:=by
  intro x k n hx;obtain⟨b,r,_⟩:=hs.ev x;rw[hx]at r;exact r.tr
 unfold yF at h;cases hi with
 |none=>
  simp only[Am]at h⊢;cases lo with
  |none=>
   simp only[Am,bC,dG]at h⊢;obtain⟨rfl,rfl⟩:=h;exact⟨by simp[Instr.sliceBounds],by omega,by omega⟩
  |some lo=>
   simp only[dM]at h⊢;cases hlo:st.ev lo<;>simp only[hlo,reduceCtorEq]at h;rename_i k n;split at h
   ·cases h
   ·rename_i l0 hm;split at hm
    ·rename_i hb;cases hm;cases h;have Om:0<=n/\n<=(h':Int):=⟨hb.1,by omega⟩
     exact⟨by simp[Instr.sliceBounds,Instr.sliceBound,hv hlo,asIntOf,Om],hb.2,by omega⟩
    ·cases hm
 |some hi=>
  simp only[dM]at h⊢;cases hhi:st.ev hi<;>simp only[hhi,reduceCtorEq]at h;rename_i k m;split at h
  ·cases h
  ·rename_i h0 hm;split at hm
   ·rename_i hb;cases hm;have Om:0<=m/\m<=(cap:Int):=⟨hb.1,by omega⟩
    cases lo with
    |none=>
     simp only[Am,bC,dG]at h⊢;obtain⟨rfl,rfl⟩:=h;exact⟨by simp[Instr.sliceBounds,Instr.sliceBound,hv hhi,asIntOf,Om],by omega,hb.2⟩
    |some lo=>
     simp only[dM]at h⊢;cases hlo:st.ev lo<;>simp only[hlo,reduceCtorEq]at h;rename_i k' n;split at h
     ·cases h
     ·rename_i l0 hm;split at hm
      ·rename_i hbl;cases hm;cases h;have hb3:0<=n/\n<=max m 0:=⟨hbl.1,by omega⟩
       exact⟨by simp[Instr.sliceBounds,Instr.sliceBound,hv hhi,hv hlo,asIntOf,Om,hb3],hbl.2,hb.2⟩
      ·cases hm
   ·cases hm
theorem a2f{rows:List aR}{sz l h':Nat}(hrl:∀r∈rows,r.length=sz)(h1:l<=h')(h2:h'<=rows.length):
 ((rows.take h').drop l).flatten=(rows.flatten.drop (l*sz)).take ((h'-l)*sz):=by
 have e:rows=(rows.take l)++(((rows.take h').drop l)++rows.drop h'):=by
  have hA:rows.take h'=(rows.take h').take l++(rows.take h').drop l:=(cc _ _).symm;have hB:(rows.take h').take l=rows.take l:=by rw[ye,jt h1]
  rw[hB]at hA;rw[<-dH,<-hA,cc]
 have l1:(rows.take l).flatten.length=l*sz:=by
  rw[rI (fun r hr=>hrl r (cO hr)),cU,jt (by omega)]
 have l2:((rows.take h').drop l).flatten.length=(h'-l)*sz:=by
  rw[rI (fun r hr=>hrl r (cO (fM hr))),mM,cU,jt (by omega)]
 have hf:rows.flatten=(rows.take l).flatten++(((rows.take h').drop l).flatten++(rows.drop h').flatten):=by
  rw[<-kR,<-kR,<-e]
 rw[hf,jr l1,lP l2]
theorem VM{o:Oper}{t:Nat}{x:Operand}{lo hi:Option Operand}{d:D}(hs:fE Z st κ Θ a w)(ho:o.op=.slice t x lo hi none)
 (h:pv P st (.slice t x lo hi none)=some d):zR P κ Θ a w o d:=by
 obtain⟨b1,r1,z1⟩:=hs.ev x;simp only[pv]at h;split at h
 ·rename_i s hx;rw[hx]at r1;obtain⟨u,hv,rfl⟩:=r1.wu;split at h
  ·rename_i ht;have hu:=zx ht;split at h
   ·rename_i l h' hc;cases h;obtain⟨hr,hl,hh⟩:=TX (P:=P) (isSlice:=false) (cap:=u.data.toList.length) hs (br _) hc;have hsz:u.data.toList.length=u.size:=by simp
    rw[hsz]at hr;refine⟨.string (u.extract l h'),[],?_,?_,by simp⟩
    ·simp only[execOp,ho,hv];simp[Instr.sliceAt,Instr.slice,run_underlying hu,hr]
    ·have:=Rd.str (w:=w) (u.extract l h') (by
      have h1:=r1.a3O;simp at h1⊢;omega)
     have e:(u.extract l h').data.toList=(u.data.toList.take h').drop l:=by
      simp[ByteArray.data_extract,List.drop_take]
     rw[e]at this;exact .of this
   ·cases h
  ·cases h
 ·rename_i rows hx;rw[hx]at r1;have hrd:=r1.Th;split at h
  ·rename_i e sz l h' ht hc;split at h
   ·rename_i hall;cases h;obtain⟨hu,Q4,Oo⟩:=uV ht;have hsz:=xg (P:=P) Q4 w;have hrl:∀r∈rows,r.length=sz:=by
     intro r hr;have:=b8.1 hall r hr;simpa using this
    generalize hvx:a.eval x=vx at hrd;have main:∀(q:Option Addr) (cap:Nat),vx=.slice q rows.length cap->rows.length<=cap->
     (execOp a.eval o).run P w=.ok (.value (.slice (if cap=l then q else q.map (·.add (l*sz))) (h'-l) (cap-l))) w/\l<=h'/\h'<=rows.length:=by
     intro q cap hq hcap;obtain⟨hr,hl,hh⟩:=TX (P:=P) (isSlice:=true) (cap:=cap) hs hcap hc;refine⟨?_,hl,hh⟩;simp only[execOp,ho,hvx,hq];simp[Instr.sliceAt,Instr.slice,run_underlying hu,hr,hsz,Oo]
    cases hrd with
    |Af=>
     obtain⟨hr,hl,hh⟩:=main none 0 rfl (by simp);simp only[cE]at hh;have e1:h'=0:=by omega
     have e2:l=0:=by omega
     subst e1;subst e2;exact⟨_,[],hr,by simpa using vR.of (κ:=κ) (Rd.Af (w:=w)),by simp⟩
    |sA ad cap hm=>
     obtain⟨hr,hl,hh⟩:=main (some ad) cap rfl (by simp);simp only[cE]at hh;have e1:h'=0:=by omega
     have e2:l=0:=by omega
     subst e1;subst e2;refine⟨_,[],hr,?_,by simp⟩;have:(if cap=0 then some ad else(some ad).map (·.add (0*sz)))=some ad:=by simp[Addr.add]
     rw[this];exact .of (by simpa using Rd.sA (w:=w) ad cap hm)
    |sl b off cap sz' _ cs bs hb hcap Q6 Q9 hcc uz=>
     obtain⟨hr,hl,hh⟩:=main (some ⟨b,off,none⟩) cap rfl hcap;by_cases he:h'=l
     ·subst he;refine⟨_,[],hr,?_,by simp⟩;have e1:(rows.take h').drop h'=[]:=by simp
      rw[e1,qt];split
      ·exact .of (.sA _ _ (by omega))
      ·simp only[dM];exact .of (.sA _ _ (by omega))
     ·have hne:cap≠l:=by omega
      rw[bE hne,dM,Addr.add_lit]at hr;obtain⟨b',hm,hsub⟩:=uz.mid (l*sz) ((h'-l)*sz);rw[<-a2f hrl hl hh]at hm;refine⟨_,b::b',hr,?_,?_⟩
      ·have hlen:((rows.take h').drop l).length=h'-l:=by simp;omega
       rw[<-hlen];refine .of (.sl b (off+l*sz) (cap-l) sz _ _ b' hb (by omega) (by omega) (fun r hr=>hrl r (cO (fM hr))) ?_ hm);intro j c hj;rw[dP]at hj;split at hj
       ·rw[gO]at hj;rw[nH];exact hcc _ _ hj
       ·cases hj
      ·intro y hy;rcases bV.1 hy with rfl|hy
       ·exact z1 _ (by simp)
       ·exact z1 _ (by simp[hsub y hy])
   ·cases h
  ·cases h
 ·cases h
theorem S5{v:Value}(h:v.oneCell'=true):v.cells.toList=[v]:=by
 cases v<;>first|rfl|cases h
theorem Bf.one{v:Value}{d:D}{bs:ah}(h:Bf w κ v d bs)(hk:∀(id:Nat) u,κ id=some u->u.oneCell'=true)(hna:∀es,d≠ .agg es)(hc:d.cellsOf=some [d]):v.oneCell'=true:=by
 cases h with
 |pure h=>
  cases h<;>first
   |rfl
   | (exfalso;exact hna _ rfl)
   | (simp[D.cellsOf]at hc;done)
   | (simp only[D.cellsOf]at hc;split at hc<;>first|assumption|cases hc)
 |acc i v h=>exact hk i v h
 |ptr=>rfl
 |op=>rfl
theorem Gp{v:Value}{d:D}{bs:ah}{ds:aR}(hk:∀(id:Nat) u,κ id=some u->u.oneCell'=true)(h:vR w κ v d bs)(hc:d.cellsOf=some ds):gH w κ v.cells.toList ds bs:=by
 have single:∀ {v d bs},Bf w κ v d bs->(∀es,d≠ .agg es)->d.cellsOf=some [d]->gH w κ v.cells.toList [d] bs:=by
  intro v d bs h hna hc;have h1:=h.one hk hna hc;rw[S5 h1];have:=gH.cons v [] d [] bs [] h1 h .nil;simpa using this
 cases h with
 |iw=>simp[D.cellsOf]at hc
 |v h=>
  cases h with
  |agg cs _ _ h=>simp only[D.cellsOf,bC]at hc;subst hc;simpa[Value.cells]using h
  |cell h=>
   by_cases w5:∃es,d=.agg es
   ·obtain⟨es,rfl⟩:=w5;simp only[D.cellsOf,bC]at hc;subst hc;cases h with
    |pure h=>cases h with|agg cs _ _ h=>simpa[Value.cells]using gH.Fc (κ:=κ) h
   ·have e:ds=[d]:=by
     cases d<;>simp only[D.cellsOf,bC,reduceCtorEq]at hc<;>first
      |exact hc.symm
      | (exfalso;exact w5 ⟨_,rfl⟩)
      | (split at hc<;>first| (simp at hc;exact hc.symm)|cases hc)
    subst e;exact single h (fun es he=>w5 ⟨es,he⟩) hc
theorem A5{T:TypeId}{zs:aR}(hz:tz P T=some zs):∃i z,P.info? T=some i/\i.zero=some z/\z.cells.size=i.size/\zs.length=i.size/\(∀c∈z.cells.toList,c.oneCell'=true)/\zs=z.cells.toList.map D.V7:=by
 unfold tz at hz;split at hz
 ·rename_i i hi;split at hz
  ·rename_i z RN;split at hz
   ·rename_i hc;cases hz;simp only[aS,b8,cr]at hc;exact⟨i,z,hi,RN,hc.2,by simp[hc.2],hc.1,rfl⟩
   ·cases hz
  ·cases hz
 ·cases hz
theorem EQ(cs:cG)(h:∀c∈cs,c.oneCell'=true):gH w κ cs (cs.map D.V7) []:=by
 induction cs with
 |nil=>exact .nil
 |cons c cs ih=>
  have hrd:Rd w c (D.V7 c) []:=by
   unfold D.V7;split
   ·exact .bool _
   ·split
    ·rename_i h;exact .int _ _ h
    ·exact .val _
   ·split
    ·rename_i h;exact .str _ h
    ·exact .val _
   ·exact .nil
   ·exact .val _
  have:=gH.cons (κ:=κ) c cs _ _ [] [] (h c (by simp)) (.pure hrd) (ih (fun x hx=>h x (by simp[hx])));simpa using this
theorem foldl_set(off:Nat):∀(vs:cG) (k:Nat) (cells:Array Value),off+k+vs.length<=cells.size->
 ((vs.zipIdx k).foldl (fun cs (x:Value×Nat)=>cs.setIfInBounds (off+x.2) x.1) cells).toList=cells.toList.take (off+k)++vs++cells.toList.drop (off+k+vs.length):=by
 intro vs
 induction vs with
 |nil=>intro k cells _;simp
 |cons v vs ih=>
  intro k cells h;simp only[aQ]at h;rw[List.zipIdx_cons,cy,ih (k+1) _ (by simp;omega)];simp only[Array.toList_setIfInBounds,aQ];have hlt:off+k<cells.toList.length:=by simp;omega
  rw[show off+(k+1)=off+k+1 from by omega,List.take_set,List.drop_set,bP (by omega)];rw[show off+k+1+vs.length=off+k+(vs.length+1)from by omega]
  congr 1
  rw[show v::vs=[v]++vs from rfl,<-dH]
  congr 1
  rw[List.take_succ_eq_append_getElem hlt,oO _ _ (by simp;omega)];have:(List.take (off+k) cells.toList).length=off+k:=by rw[cU];omega
  rw[this,qt];rfl
theorem Xi(hs:fE Z st κ Θ a w){places:List (Nat×Nat)}:∀(parts:List (Nat×Operand)) (cs:Array Value) (cells ds:aR) (bs:ah),
 gH w κ cs.toList cells bs->(∀b∈bs,Θ b=0)->Ad places cells (parts.map fun p=>(p.1,st.ev p.2))=some ds->
 ∃arr bs',Instr.fill (places.toArray[·]?) cs (parts.map fun p=>(p.1,a.eval p.2))=some arr/\gH w κ arr.toList ds bs'/\∀b∈bs',Θ b=0:=by
 intro parts
 induction parts with
 |nil=>
  intro cs cells ds bs hr hz hf;simp only[cF,Ad,bC]at hf;subst hf;exact⟨cs,bs,rfl,hr,hz⟩
 |cons p parts ih=>
  intro cs cells ds bs hr hz hf
  ·obtain⟨i,x⟩:=p;obtain⟨b,hv,hb⟩:=hs.ev x;generalize hvv:a.eval x=v at hv;simp only[bA,Ad]at hf;split at hf
   ·rename_i off sz es hpl hes;split at hf
    ·rename_i hc;have hcs:=Gp hs.tF hv hes;have hl1:=hcs.length;have PE:=hr.length;have e:cells=cells.take off++((cells.drop off).take sz++(cells.drop off).drop sz):=by rw[cc,cc]
     rw[e]at hr;obtain⟨v1,v2,c1,c2,Oq,rfl,k1,k2⟩:=hr.split;obtain⟨v3,v4,c3,c4,rfl,rfl,k3,k4⟩:=k2.split;have l1:v1.length=off:=by rw[k1.length];simp;omega
     have l3:v3.length=sz:=by rw[k3.length];simp;omega
     have hvs:v.cells.size=sz:=by rw[<-hc.1,<-hl1];simp
     have hcl:cs.size=cells.length:=by rw[<-PE];simp
     have a19:=foldl_set off v.cells.toList 0 cs (by simp;omega);simp only[wW,xD,hvs]at a19;have e1:cs.toList.take off=v1:=by rw[Oq];exact lP l1
     have e4:cs.toList.drop (off+sz)=v4:=by rw[Oq,<-jR,jr l1];exact jr l3
     rw[e1,e4]at a19;rw[jR]at k4;have hnew:=(k1.app hcs).app k4;obtain⟨arr,bs',h1,h2,h3⟩:=ih (v.cells.zipIdx.foldl (fun cs (x:Value×Nat)=>cs.setIfInBounds (off+x.2) x.1) cs) _ ds ((c1++b)++c4)
      (by rw[<-Array.foldl_toList,Array.toList_zipIdx,a19];exact hnew)
      (by
       intro x hx;simp only[aW]at hx;rcases hx with(hx|hx)|hx
       ·exact hz x (by simp[hx])
       ·exact hb x hx
       ·exact hz x (by simp[hx])) hf
     refine⟨arr,bs',?_,h2,h3⟩;simp only[bA,Instr.fill,lD,hpl,hvv];rw[bE (by simp;omega)];simpa using h1
    ·cases hf
   ·cases hf
theorem UI{o:Oper}{t:TypeId}{parts:Array (Nat×Operand)}{d:D}(hs:fE Z st κ Θ a w)(ho:o.op=.build t parts)
 (h:pv P st (.build t parts)=some d):zR P κ Θ a w o d:=by
 simp only[pv]at h;split at h
 ·rename_i zs ps hz hp;cases hf:Ad ps zs (parts.toList.map fun p=>(p.1,st.ev p.2))with
  |none=>simp[hf]at h
  |some ds=>
   simp only[hf,dM,bC]at h;subst h;obtain⟨i,z,hi,Aj,hsz,hlen,hone,rfl⟩:=A5 hz;obtain⟨arr,bs',h1,h2,h3⟩:=Xi hs parts.toList z.cells _ ds [] (EQ z.cells.toList hone) (by simp) hf;have hb:P.built t (parts.map fun(i,x)=>(i,a.eval x)).toList=some arr:=by
    unfold YU at hp;split at hp
    ·rename_i fs hu;unfold Program.built;simp only[hi,hu,Aj,hp];rw[mL];exact h1
    ·cases hp
   refine⟨.agg arr,bs',?_,?_,h3⟩
   ·simp only[execOp,ho];simp[run_build w t _ arr hb]
   ·have:=PV.agg (w:=w) (κ:=κ) arr.toList ds bs' h2;exact .v (by simpa using this)
 ·cases h
theorem run_equalIn_bool{t:TypeId}{a b:Bool}(h:P.underlying t=some .bool)(d:Nat):(Op.equalIn (d+1) t (.bool a) (.bool b)).run P w=.ok (a==b) w:=by
 simp[Op.equalIn,run_underlying h]
theorem Fg{t:TypeId}{a b:ByteArray}(h:P.underlying t=some .string)(d:Nat):(Op.equalIn (d+1) t (.string a) (.string b)).run P w=.ok (a==b) w:=by
 simp[Op.equalIn,run_underlying h]
theorem Mi{t:TypeId}(h:O0 P t=true){xs:Array Value}{off:Nat}{v:Value}(hx:xs[off]?=some v):(part t xs off).run P w=.ok v w:=by
 simp[part,isAgg,run_underlying (zx h),hx]
theorem Ny{t:TypeId}{a b c e:ByteArray}(h:YT P t=true)(d:Nat):(Op.equalIn (d+2) t (.agg #[.string a,.string b]) (.agg #[.string c,.string e])).run P w=.ok (a==c&&b==e) w:=by
 unfold YT at h;split at h
 ·rename_i fs hu;split at h
  ·rename_i f g hfs;simp only[aS,bne_iff_ne,ne_eq,cr,kw]at h;obtain⟨⟨⟨⟨⟨⟨⟨h1,h2⟩,h3⟩,h4⟩,h5⟩,h6⟩,h7⟩,h8⟩:=h;have aEy:fs= #[f,g]:=by apply tu.mp;simpa using hfs
   subst aEy;have p1:=fun(xs:Array Value) (v:Value) (hx:xs[0]?=some v)=>Mi (w:=w) h5 hx
   have p2:=fun(xs:Array Value) (v:Value) (hx:xs[1]?=some v)=>Mi (w:=w) h6 hx
   have q1:=Fg (P:=P) (w:=w) (a:=a) (b:=c) (zx h5) d;have q2:=Fg (P:=P) (w:=w) (a:=b) (b:=e) (zx h6) d;rw[Op.equalIn];generalize(a==c)=r1 at q1⊢;generalize(b==e)=r2 at q2⊢;cases r1<;>cases r2<;>simp[run_underlying hu,h7,h1,h2,h3,h4,p1,p2,q1,q2]
  ·cases h
 ·cases h
theorem gH.YW{κ:Nat->Option Value}{cs:cG}{p q:Bytes}{bs:ah}(h:gH w κ cs [.str p,.str q] bs):∃u v:ByteArray,cs=[.string u,.string v]/\u.data.toList=p/\v.data.toList=q:=by
 cases h with
 |cons v1 vs _ _ b1 b2 _ h1 h2=>
  cases h2 with
  |cons v2 vs' _ _ b3 b4 _ h3 h4=>
   cases h4;obtain⟨u,rfl,hu⟩:=(vR.v (.cell h1):vR w κ _ _ _).wu;obtain⟨v,rfl,hv⟩:=(vR.v (.cell h3):vR w κ _ _ _).wu;exact⟨u,v,rfl,hu,hv⟩
theorem a0f(u v:ByteArray):(u==v)=(u.data==v.data):=by cases u;cases v;rfl
theorem Zc{o:Oper}{op:BinOp}{t t':TypeId}{x y:Operand}{d:D}(hs:fE Z st κ Θ a w)(ho:o.op=.binOp op t x y t')
 (h:peq P op t (st.ev x) (st.ev y)=some d):zR P κ Θ a w o d:=by
 obtain⟨b1,r1,_⟩:=hs.ev x;obtain⟨b2,r2,_⟩:=hs.ev y;generalize st.ev x=dx at*;generalize st.ev y=dy at*;unfold peq at h;split at h
 ·rename_i p q;split at h
  ·rename_i hb;have hu:P.underlying t=some .bool:=by
    unfold YR at hb;split at hb
    ·assumption
    ·cases hb
   have e1:=r1.yt;have e2:=r2.yt;have hq:=run_equalIn_bool (P:=P) (w:=w) (a:=p) (b:=q) hu 9999;have q':(Op.equal t (.bool p) (.bool q)).run P w=.ok (p==q) w:=hq;cases op<;>simp only[bC,reduceCtorEq]at h
   all_goals subst h
   all_goals exact⟨_,[],by(simp[execOp,ho,e1,e2,binOp,eqGuard,q'])<;>(cases p<;>cases q<;>rfl),.of (.bool _),by simp⟩
  ·cases h
 ·rename_i p1 p2 q1 q2;split at h
  ·rename_i hb;obtain⟨cs1,e1,k1⟩:=r1.El;obtain⟨cs2,e2,k2⟩:=r2.El;obtain⟨u1,u2,rfl,rfl,rfl⟩:=gH.YW k1;obtain⟨v1,v2,rfl,rfl,rfl⟩:=gH.YW k2;have hg:P.eqGuardType P.depth t=false:=by
    unfold YT at hb;split at hb
    ·split at hb
     ·simp only[aS,kw]at hb;exact hb.2
     ·cases hb
    ·cases hb
   have q:=Ny (P:=P) (w:=w) (a:=u1) (b:=u2) (c:=v1) (e:=v2) hb 9998;have q':(Op.equal t (.agg #[.string u1,.string u2]) (.agg #[.string v1,.string v2])).run P w=.ok (u1==v1&&u2==v2) w:=q;cases op<;>simp only[bC,reduceCtorEq]at h
   all_goals subst h
   all_goals exact⟨_,[],by(simp[execOp,ho,e1,e2,binOp,eqGuard,hg,q'])<;>(rw[a0f,a0f]),.of (.bool _),by simp⟩
  ·cases h
 ·cases h
theorem vR.a5E{v:Value}{b:Bool}{bs:ah}(h:vR w κ v (.ifc b) bs):(b=false/\v=.nilIface)\/(b=true/\∃t u,v=.iface t u):=by
 cases h with|v h=>cases h with|cell h=>cases h with|pure h=>cases h with
  |ZG=>exact .inl ⟨rfl,rfl⟩
  |ZH t u=>exact .inr ⟨rfl,t,u,rfl⟩
theorem Mh{t:TypeId}{ms:Array (String×TypeId)}(hu:P.underlying t=some (.interface ms)):(Op.equal t .nilIface .nilIface).run P w=.ok true w:=by
 unfold Op.equal Op.maxDepth;rw[Op.equalIn];simp[run_underlying hu]
theorem Jo{t:TypeId}{ms:Array (String×TypeId)}{t1:TypeId}{v1:Value}(hu:P.underlying t=some (.interface ms)):(Op.equal t (.iface t1 v1) .nilIface).run P w=.ok false w:=by
 unfold Op.equal Op.maxDepth;rw[Op.equalIn];simp[run_underlying hu]
theorem Wf{o:Oper}{op:BinOp}{t t':TypeId}{x y:Operand}{d:D}(hs:fE Z st κ Θ a w)(ho:o.op=.binOp op t x y t')
 (h:a9B op (st.ev x) (st.ev y)=some d):zR P κ Θ a w o d:=by
 obtain⟨b1,r1,_⟩:=hs.ev x;obtain⟨b2,r2,_⟩:=hs.ev y;generalize st.ev x=dx at*;generalize st.ev y=dy at*;unfold a9B at h;split at h
 ·rename_i k p k' q;have e1:=r1.tr;have e2:=r2.tr;cases op<;>simp only[reduceCtorEq]at h
  case shr=>
   split at h
   ·rename_i hq;cases h;exact⟨_,[],by simp[execOp,ho,e1,e2,binOp,eqGuard,Op.shift,show¬q<0 by omega,VL],.of (.int _ _ (r1.QE.shr q)),by simp⟩
   ·cases h
  all_goals
   split at h
   ·rename_i hk;subst hk;cases h;exact⟨_,[],by simp[execOp,ho,e1,e2,binOp,eqGuard,Op.intBits,Jh,aAN,XY],.of (.int _ _ (qu.wrap _ _)),by simp⟩
   ·cases h
 ·cases h
theorem Wg{o:Oper}{op:BinOp}{t t':TypeId}{x y:Operand}{d:D}(hs:fE Z st κ Θ a w)(ho:o.op=.binOp op t x y t')
 (h:a9D P op t (st.ev x) y=some d):zR P κ Θ a w o d:=by
 obtain⟨b1,r1,_⟩:=hs.ev x;generalize st.ev x=dx at*;unfold a9D at h;split at h
 ·rename_i b;have hy:a.eval (.const .nilIface)=.nilIface:=rfl;have hT:∀ {op'},a9i P t=true->op=op'->∃ms,P.underlying t=some (.interface ms):=by
   intro _ ht _;unfold a9i at ht;split at ht
   ·rename_i ms hu;exact⟨ms,hu⟩
   ·cases ht
  rcases r1.a5E with⟨rfl,hx⟩|⟨rfl,t1,v1,hx⟩
  ·split at h
   ·rename_i ht;cases h;obtain⟨ms,hu⟩:=hT ht rfl;exact⟨.bool true,[],by simp[execOp,ho,hx,hy,binOp,eqGuard_nil_constR,Mh hu],.of (.bool _),by simp⟩
   ·rename_i ht;cases h;obtain⟨ms,hu⟩:=hT ht rfl;exact⟨.bool false,[],by simp[execOp,ho,hx,hy,binOp,eqGuard_nil_constR,Mh hu],.of (.bool _),by simp⟩
   ·cases h
  ·split at h
   ·rename_i ht;cases h;obtain⟨ms,hu⟩:=hT ht rfl;exact⟨.bool false,[],by simp[execOp,ho,hx,hy,binOp,eqGuard,Jo hu],.of (.bool _),by simp⟩
   ·rename_i ht;cases h;obtain⟨ms,hu⟩:=hT ht rfl;exact⟨.bool true,[],by simp[execOp,ho,hx,hy,binOp,eqGuard,Jo hu],.of (.bool _),by simp⟩
   ·cases h
 ·cases h
theorem BA.cons{w:World}{e:MapEntry}{es:List MapEntry}{p:D×D}{kv:List (D×D)}(h:BA w (e::es) (p::kv)):Rd w e.key p.1 []/\Rd w e.val p.2 []/\BA w es kv:=
 ⟨(h.2 0 e p rfl rfl).1,(h.2 0 e p rfl rfl).2,by simpa using h.1,fun j e' p' h1 h2=>h.2 (j+1) e' p' (by simpa using h1) (by simpa using h2)⟩
theorem a6K{x y:ByteArray}:(x==y)=(x.data.toList==y.data.toList):=by
 rw[cK,MapKept.bytes_beq,cr];constructor
 ·intro h;rw[h]
 ·intro h;obtain⟨a⟩:=x;obtain⟨b⟩:=y;simp only at h;rw[tu]at h;rw[h]
theorem PF{w:World}{kd:TypeDesc}{k k':D}{u u':Value}{b:Bool}(RI:Ko kd k=true)(hu:Rd w u k [])(ze:Rd w u' k' [])(h:keq k k'=some b):Instr.sameNow kd u u'=some b/\(b=true->u'=u):=by
 unfold keq at h;split at h
 ·rename_i s s';cases h;cases hu with
  |str x hx=>
   cases ze with
   |str y hy=>
    cases kd<;>simp[Ko]at RI;refine⟨by simp only[Instr.sameNow];rw[a6K],fun e=>?_⟩;rw[<-a6K,MapKept.bytes_beq]at e;rw[e]
 ·rename_i k1 a k2 b';split at h
  ·rename_i e;subst e;cases h;cases hu with
   |int _ _ hx=>
    cases ze with
    |int _ _ hy=>
     cases kd<;>simp[Ko]at RI;refine⟨by simp[Instr.sameNow],fun e=>?_⟩;have:a=b':=by simpa using e
     rw[this]
  ·cases h
 ·cases h
theorem a5H{w:World}{kd:TypeDesc}{k:D}{u:Value}(RI:Ko kd k=true)(hu:Rd w u k []):∀ {es:List MapEntry} {kv:List (D×D)} {r:Option D} (i:Nat),BA w es kv->I3 k kv=some r->
 (r=none/\Instr.findNow kd u es i=some none)\/∃d v j,r=some d/\Instr.findNow kd u es i=some (some (j,v))/\Rd w v d []:=by
 intro es
 induction es with
 |nil=>
  intro kv r i hr h;cases kv with
  |nil=>cases h;exact .inl ⟨rfl,rfl⟩
  |cons p kv=>exact absurd hr.1 (by simp)
 |cons e es ih=>
  intro kv r i hr h;cases kv with
  |nil=>exact absurd hr.1 (by simp)
  |cons p kv=>
   obtain⟨r1,r2,r3⟩:=hr.cons;simp only[I3]at h;split at h
   ·rename_i hq;cases h;exact .inr ⟨p.2,e.val,i,rfl,by simp[Instr.findNow,(PF RI hu r1 hq).1],r2⟩
   ·rename_i hq;have:=ih (i+1) r3 h;simpa[Instr.findNow,(PF RI hu r1 hq).1]using this
   ·cases h
theorem Uo{w:World}{kd:TypeDesc}{k:D}{u:Value}(RI:Ko kd k=true)(hu:Rd w u k []):MapKept.IsKey kd u:=by
 cases kd<;>cases k<;>simp[Ko]at RI
 all_goals cases hu
 ·simp[MapKept.IsKey,RI]
 ·simp[MapKept.IsKey]
theorem S0{w:World}{κ:Nat->Option Value}{kd:TypeDesc}{k:D}{u:Value}{bs:ah}(RI:Ko kd k=true)(hu:vR w κ u k bs):Rd w u k []:=by
 cases kd<;>cases k<;>simp[Ko]at RI
 all_goals cases hu with|v h=>cases h with|cell h=>cases h with|pure h=>cases h<;>(constructor;assumption)
theorem Tn{t:TypeId}{i:TypeInfo}(h:P.info? t=some i){w:World}:(typeInfo t).run P w=.ok i w:=by
 simp[typeInfo,h]
theorem Qu{T:TypeId}{kd:TypeDesc}{dz:D}(h:Zr P T=some (kd,dz)):∃kt et z,P.underlying T=some (.map kt et)/\P.underlying kt=some kd/\dz=D.V7 z/\∀w:World,(zeroValue et).run P w=.ok z w:=by
 unfold Zr at h;split at h
 ·rename_i kt et h1;split at h
  ·rename_i d i h2 h3;split at h
   ·rename_i z h4;split at h
    ·cases h;exact⟨kt,et,z,h1,h2,rfl,fun w=>by simp[zeroValue,Tn h3,h4]⟩
    ·cases h
   ·cases h
  ·cases h
 ·cases h
theorem TH{o:Oper}{T:Nat}{x i:Operand}{ok:Bool}{d:D}(hs:fE Z st κ Θ a w)(ho:o.op=.lookup T x i ok)
 (h:pv P st (.lookup T x i ok)=some d):zR P κ Θ a w o d:=by
 simp only[pv]at h;split at h
 ·rename_i id hx;split at h
  ·rename_i kv hH;obtain⟨g,es,c,q1,q2,q3,q4⟩:=hs.ob id _ hH;obtain⟨bs,r,_⟩:=hs.ev x;rw[hx]at r;obtain⟨hk,_⟩:=r.A7;rw[q1]at hk;have Xw:a.eval x=.map (some g):=(lQ hk).symm;obtain⟨bi,ri,_⟩:=hs.ev i;unfold plk at h;split at h
   ·rename_i kd dz hT;obtain⟨kt,et,z,t1,t2,t3,t4⟩:=Qu hT;have fin:∀(r:Option D),Ko kd (st.ev i)=true->I3 (st.ev i) kv=some r->d=(match r with|some d=>(bif ok then .iw [d,.bool true]else d)|none=>(bif ok then .iw [dz,.bool false]else dz))->zR P κ Θ a w o d:=by
     intro r RI hf hd;have hu:=S0 RI ri;have hck:=MapKept.run_checkKey (P:=P) (w:=w) t2 (Uo RI hu) es.isEmpty 9999;rcases a5H RI hu 0 q4 hf with⟨rfl,hn⟩|⟨d',v,j,rfl,hn,hv⟩
     ·have WA:=MapKept.run_findKey (P:=P) (w:=w) t2 hn;subst hd;cases ok with
      |false=>exact⟨z,[],by simp[execOp,ho,Xw,Instr.lookup,run_underlying t1,MapKept.run_getObj_map q2,hck,WA,t4],by rw[t3];exact Wb z,by simp⟩
      |true=>
       refine⟨.tuple #[z,.bool false],[],by simp[execOp,ho,Xw,Instr.lookup,run_underlying t1,MapKept.run_getObj_map q2,hck,WA,t4],?_,by simp⟩;have hz:PV w κ z dz []:=by
        have:=Wb (w:=w) (κ:=κ) z;rw[<-t3]at this;cases this with
        |v h=>exact h
        |iw vs ds bs h=>exact absurd t3 (by simp[D.V7])
       exact .iw [z,.bool false] [dz,.bool false] [] (.cons _ _ _ _ [] [] hz (.cons _ _ _ _ [] [] (.cell (.pure (.bool _))) .nil))
     ·have WA:=MapKept.run_findKey (P:=P) (w:=w) t2 hn;subst hd;cases ok with
      |false=>exact⟨v,[],by simp[execOp,ho,Xw,Instr.lookup,run_underlying t1,MapKept.run_getObj_map q2,hck,WA],.of hv,by simp⟩
      |true=>
       refine⟨.tuple #[v,.bool true],[],by simp[execOp,ho,Xw,Instr.lookup,run_underlying t1,MapKept.run_getObj_map q2,hck,WA],?_,by simp⟩;exact .iw [v,.bool true] [d',.bool true] [] (.cons _ _ _ _ [] [] (.cell (.pure hv)) (.cons _ _ _ _ [] [] (.cell (.pure (.bool _))) .nil))
    split at h
    ·rename_i d' h1 h2;cases h;exact fin _ h1 h2 rfl
    ·rename_i h1 h2;cases h;exact fin _ h1 h2 rfl
    ·cases h
   ·cases h
  ·cases h
 ·cases h
theorem Rd.a89{w:World}{v:Value}{row:aR}{o:Nat}{bs:ah}(h:Rd w v (.ep row o) bs):∃q,v=.pointer (some q):=by
 cases h;exact⟨_,rfl⟩
theorem IA{o:Oper}{d:D}(hs:fE Z st κ Θ a w)(h:pv P st o.op=some d):zR P κ Θ a w o d:=by
 cases ho:o.op
 all_goals rw[ho]at h
 case load t x=>exact QM hs ho h
 case lookup t x i ok=>exact TH hs ho h
 case build t parts=>exact UI hs ho h
 case fieldAddr t x f=>exact Oj hs ho h
 case field t x f=>exact UU hs ho h
 case indexAddr t x i=>exact Ot hs ho h
 case extract x i=>exact RF hs ho h
 case index t x i=>exact Un hs ho h
 case binOp op t x y t'=>
  simp only[pv]at h;split at h
  ·rename_i e;cases h;exact We hs ho e
  ·split at h
   ·rename_i e;cases h;exact Zc hs ho e
   ·split at h
    ·rename_i e;cases h;exact Wg hs ho e
    ·exact Wf hs ho h
 case nilCheck x=>
  simp only[pv]at h;obtain⟨b,r,z⟩:=hs.ev x;have hnn:∀q,a.eval x=.pointer (some q)->zR P κ Θ a w o (st.ev x):=fun q hq=>⟨_,b,by simp[execOp,ho,hq],hq▸r,z⟩
  split at h<;>rename_i hx<;>cases h<;>rw[hx]at r hnn
  ·obtain⟨g,_,hv⟩:=r.DD;exact hnn _ hv
  ·obtain⟨_,_,_,_,_,hv⟩:=r.Qb;exact hnn _ hv
  ·obtain⟨_,hv⟩:=Rd.a89 r.Vu;exact hnn _ hv
 case slice t x lo hi mx=>
  cases mx with
  |none=>exact VM hs ho h
  |some m=>simp[pv]at h
 case move x=>
  simp only[pv,bC]at h;subst h;obtain⟨b,r,z⟩:=hs.ev x;exact⟨_,b,by simp[execOp,ho],r,z⟩
 case assign x=>
  simp only[pv,bC]at h;subst h;obtain⟨b,r,z⟩:=hs.ev x;exact⟨_,b,by simp[execOp,ho],r,z⟩
 case pick c x y=>
  simp only[pv]at h;split at h
  ·rename_i t hc;cases h;obtain⟨b,r,z⟩:=hs.ev c;rw[hc]at r;have hv:=r.yt;cases t
   ·obtain⟨b,r,z⟩:=hs.ev y;exact⟨_,b,by simp[execOp,ho,hv,asBool],r,z⟩
   ·obtain⟨b,r,z⟩:=hs.ev x;exact⟨_,b,by simp[execOp,ho,hv,asBool],r,z⟩
  ·cases h
 case unOp op t x=>
  obtain⟨b,r,z⟩:=hs.ev x;cases op<;>simp only[pv,reduceCtorEq]at h
  case neg=>
   split at h
   ·rename_i k n hx;cases h;rw[hx]at r;have hv:=r.tr;exact⟨_,[],by simp[execOp,ho,hv,Op.unary,Op.intArith],.of (.int _ _ (qu.wrap _ _)),by simp⟩
   ·cases h
  case not=>
   split at h
   ·rename_i bb hx;cases h;rw[hx]at r;have hv:=r.yt;exact⟨_,[],by simp[execOp,ho,hv,Op.unary],.of (.bool _),by simp⟩
   ·cases h
 case convert s d' x=>
  obtain⟨b,r,z⟩:=hs.ev x;simp only[pv]at h;split at h
  ·rename_i k0 n k1 k hx h1 h2;cases h;rw[hx]at r;have hv:=r.tr;have u1:P.underlying s=some (.int k1):=by
    unfold X0 at h1;split at h1
    ·cases h1;assumption
    ·cases h1
   have u2:P.underlying d'=some (.int k):=by
    unfold X0 at h2;split at h2
    ·cases h2;assumption
    ·cases h2
   exact⟨_,[],by simp[execOp,ho,hv,convert,run_underlying u1,run_underlying u2,Conv.intToInt],.of (.int _ _ (qu.wrap _ _)),by simp⟩
  ·cases h
 case call c=>
  simp only[pv]at h;split at h
  ·rename_i x t h1 h2 h3;refine ZL hs (x:=x) (t:=t) ?_ h;rw[ho];obtain⟨callee,args,argTypes⟩:=c;simp only at h1 h2 h3;subst h1;have e1:args= #[x]:=by cases args;simp_all
   have e2:argTypes= #[t]:=by cases argTypes;simp_all
   subst e1;subst e2;rfl
  ·rename_i x y t t' h1 h2 h3;refine ZP hs (x:=x) (y:=y) (t:=t) (t':=t') ?_ h;rw[ho];obtain⟨callee,args,argTypes⟩:=c;simp only at h1 h2 h3;subst h1;have e1:args= #[x,y]:=by cases args;simp_all
   have e2:argTypes= #[t,t']:=by cases argTypes;simp_all
   subst e1;subst e2;rfl
  ·cases h
 all_goals simp[pv]at h
theorem a6I{Q:Exit->St->Prop}{all:Array Oper}{rest:List Oper}{o:Oper}{t:Nat}{d:D}(hd:o.dst=some t)(hg:o.guard=none)(ht:t<Z.nt)
 (hv:pv P st o.op=some d) (h:AO P Z all rest Q (st.set t d)):AO P Z all (o::rest) Q st:=by
 intro κ Θ a w hs;obtain⟨v,bs,hr,hrd,hz⟩:=IA hs hv;refine wpList_plain hg fun K hK=>?_
 unfold Oper.wp;rw[hr,Oper.upon_value,hd];exact hK _ _ (h κ Θ _ w (hs.set ht hrd hz))
end
structure jy(w w':World)(Θ Θ':Nat->Nat)(tag:Nat):Prop where
 two:2<=tag
 os:w'.os=w.os
 tape:w'.tape=w.tape
 output:w'.output=w.output
 size:w.heap.size<=w'.heap.size
 block:∀b,b<w.heap.size->Θ b≠tag->w'.heap[b]?=w.heap[b]?
 owner:∀b,b<w.heap.size->Θ b≠tag->Θ' b=Θ b
 own:∀b,Θ' b≠0->b<w'.heap.size
section
variable{w w':World}{κ κ':Nat->Option Value}{Θ Θ':Nat->Nat}{tag id:Nat}{r:D}
theorem jy.free(k:jy w w' Θ Θ' tag){b:Nat}(hb:b<w.heap.size)(hz:Θ b=0):Θ' b=0:=by
 have:=k.two;rw[k.owner b hb (by omega)];exact hz
theorem Rd.over{v:Value}{d:D}{bs:ah}(k:jy w w' Θ Θ' tag)(h:Rd w v d bs)(hz:∀b∈bs,Θ b=0):Rd w' v d bs/\∀b∈bs,Θ' b=0:=by
 have:=k.two;exact⟨h.keep fun b hb=>k.block b (h.lt b hb) (by rw[hz b hb];omega),fun b hb=>k.free (h.lt b hb) (hz b hb)⟩
theorem oH.over{vs:cG}{ds:aR}{bs:ah}(k:jy w w' Θ Θ' tag)(h:oH w vs ds bs)(hz:∀b∈bs,Θ b=0):oH w' vs ds bs/\∀b∈bs,Θ' b=0:=by
 have:=k.two;exact⟨h.keep fun b hb=>k.block b (h.lt b hb) (by rw[hz b hb];omega),fun b hb=>k.free (h.lt b hb) (hz b hb)⟩
section
variable(hn:∀(j:Nat) v,κ j=some v->κ' j=some v)
include hn
end
theorem RdH.lt{v:Value}{rows:List aR}{p n:Nat}{bs:ah}(h:RdH w κ v rows p n bs):∀b∈bs,b<w.heap.size:=by
 obtain⟨b,off,cap,cs,ns,rfl,h1,h2,h3,h4,h5,rfl,_⟩:=h;intro x hx;rcases bV.1 hx with rfl|hx
 ·exact h1
 ·exact h5.lt x hx
section
variable(hn:∀(j:Nat) v,κ j=some v->κ' j=some v)
include hn
theorem RdH.stay{v:Value}{rows:List aR}{p n:Nat}{bs:ah}(h:RdH w κ v rows p n bs)(hb:∀b∈bs,w'.heap[b]?=w.heap[b]?):RdH w' κ' v rows p n bs:=by
 obtain⟨b,off,cap,cs,ns,rfl,h1,h2,h3,h4,h5,rfl,c,h6,h7⟩:=h;exact⟨b,off,cap,cs,ns,rfl,MP h1 (hb b (by simp)),h2,h3,fun j c hc=>(Dt (hb b (by simp))).trans (h4 j c hc),h5.keep (fun x hx=>hb x (by simp[hx])),rfl,c,h6,hn _ _ h7⟩
end
section
variable(k:jy w w' Θ Θ' tag)(hn:∀(j:Nat) v,κ j=some v->κ' j=some v)
include k hn
theorem Bf.stay{v:Value}{d:D}{bs:ah}(h:Bf w κ v d bs)(hz:∀b∈bs,Θ b=0):Bf w' κ' v d bs/\∀b∈bs,Θ' b=0:=by
 cases h with
 |pure h=>exact⟨.pure (Rd.over k h hz).1,(Rd.over k h hz).2⟩
 |acc i v hk=>exact⟨.acc i v (hn _ _ hk),by simp⟩
 |ptr i off b hk=>exact⟨.ptr i off b (hn _ _ hk),by simp⟩
 |op i j sz off b o0 len cap hk=>exact⟨.op i j sz off b o0 len cap (hn _ _ hk),by simp⟩
theorem gH.stay{vs:cG}{ds:aR}{bs:ah}(h:gH w κ vs ds bs)(hz:∀b∈bs,Θ b=0):gH w' κ' vs ds bs/\∀b∈bs,Θ' b=0:=by
 induction ds generalizing vs bs with
 |nil=>cases h;exact⟨.nil,by simp⟩
 |cons d ds ih=>
  cases h with
  |cons v vs _ _ b1 b2 h1 h2 h3=>
   obtain⟨k1,k2⟩:=Bf.stay k hn h2 (fun b hb=>hz b (by simp[hb]));obtain⟨k3,k4⟩:=ih h3 (fun b hb=>hz b (by simp[hb]));refine⟨.cons _ _ _ _ _ _ h1 k1 k3,fun b hb=>?_⟩;rcases aW.1 hb with hb|hb
   ·exact k2 b hb
   ·exact k4 b hb
theorem PV.stay{v:Value}{d:D}{bs:ah}(h:PV w κ v d bs)(hz:∀b∈bs,Θ b=0):PV w' κ' v d bs/\∀b∈bs,Θ' b=0:=by
 cases h with
 |cell h=>exact⟨.cell (Bf.stay k hn h hz).1,(Bf.stay k hn h hz).2⟩
 |agg cs ds bs h=>exact⟨.agg _ _ _ (gH.stay k hn h hz).1,(gH.stay k hn h hz).2⟩
theorem Ej.stay{vs:cG}{ds:aR}{bs:ah}(h:Ej w κ vs ds bs)(hz:∀b∈bs,Θ b=0):Ej w' κ' vs ds bs/\∀b∈bs,Θ' b=0:=by
 induction ds generalizing vs bs with
 |nil=>cases h;exact⟨.nil,by simp⟩
 |cons d ds ih=>
  cases h with
  |cons v vs _ _ b1 b2 h2 h3=>
   obtain⟨k1,k2⟩:=PV.stay k hn h2 (fun b hb=>hz b (by simp[hb]));obtain⟨k3,k4⟩:=ih h3 (fun b hb=>hz b (by simp[hb]));refine⟨.cons _ _ _ _ _ _ k1 k3,fun b hb=>?_⟩;rcases aW.1 hb with hb|hb
   ·exact k2 b hb
   ·exact k4 b hb
theorem vR.stay{v:Value}{d:D}{bs:ah}(h:vR w κ v d bs)(hz:∀b∈bs,Θ b=0):vR w' κ' v d bs/\∀b∈bs,Θ' b=0:=by
 cases h with
 |v h=>exact⟨.v (PV.stay k hn h hz).1,(PV.stay k hn h hz).2⟩
 |iw vs ds bs h=>exact⟨.iw _ _ _ (Ej.stay k hn h hz).1,(Ej.stay k hn h hz).2⟩
theorem yj.stay{j:Nat}{o:Ob}(hj:j+2≠tag)(h:yj w κ Θ j o):yj w' κ' Θ' j o:=by
 cases o with
 |gone=>trivial
 |tk rows=>
  obtain⟨v,bs,hk,hrd,hz⟩:=h;obtain⟨h1,h2⟩:=Rd.over k hrd hz;exact⟨v,bs,hn _ _ hk,h1,h2⟩
 |tf e sz rows=>
  obtain⟨v,bs,hk,hrd,hz⟩:=h;obtain⟨h1,h2⟩:=Rd.over k hrd hz;exact⟨v,bs,hn _ _ hk,h1,h2⟩
 |mp kv=>
  obtain⟨g,es,c,q1,q2,q3,q4⟩:=h;have hlt:g<w.heap.size:=(bS.1 q2).1;have hne:Θ g≠tag:=by rw[q3];exact hj
  exact⟨g,es,c,hn _ _ q1,(k.block g hlt hne).trans q2,by rw[k.owner g hlt hne];exact q3,q4.stay⟩
 |RQ sz rows u=>
  obtain⟨hrl,hux,v,bs,hk,hrd,hnd,PD⟩:=h;have hsame:∀b∈bs,w'.heap[b]?=w.heap[b]?:=fun b hb=>k.block b (hrd.lt b hb) (by rw[(PD b hb).1];exact hj)
  refine⟨hrl,fun x hx=>hn _ _ (hux x hx),v,bs,hn _ _ hk,hrd.keep hsame,hnd,fun b hb=>⟨?_,?_⟩⟩
  ·rw[k.owner b (hrd.lt b hb) (by rw[(PD b hb).1];exact hj)];exact(PD b hb).1
  ·obtain⟨x,T,hx⟩:=(PD b hb).2;exact⟨x,T,(hsame b hb).trans hx⟩
 |hole sz rows u p n=>
  obtain⟨hrl,hux,v,bs,hk,hrd,hnd,PD⟩:=h;have hsame:∀b∈bs,w'.heap[b]?=w.heap[b]?:=fun b hb=>k.block b (hrd.lt b hb) (by rw[(PD b hb).1];exact hj)
  refine⟨hrl,fun x hx=>hn _ _ (hux x hx),v,bs,hn _ _ hk,RdH.stay hn hrd hsame,hnd,fun b hb=>⟨?_,?_⟩⟩
  ·rw[k.owner b (hrd.lt b hb) (by rw[(PD b hb).1];exact hj)];exact(PD b hb).1
  ·obtain⟨x,T,hx⟩:=(PD b hb).2;exact⟨x,T,(hsame b hb).trans hx⟩
 |box cells=>
  obtain⟨g,cs,T,hk,hg,hΘ,bs,uz,hz⟩:=h;have hlt:g<w.heap.size:=(bS.1 hg).1;have hne:Θ g≠tag:=by rw[hΘ];exact hj
  obtain⟨h1,h2⟩:=gH.stay k hn uz hz;exact⟨g,cs,T,hn _ _ hk,(k.block g hlt hne).trans hg,(k.owner g hlt hne).trans hΘ,bs,h1,h2⟩
 |CW cells u=>
  obtain⟨hu,g,cs,T,hk,hg,hΘ,bs,uz,hz⟩:=h;have hlt:g<w.heap.size:=(bS.1 hg).1;have hne:Θ g≠tag:=by rw[hΘ];exact hj
  obtain⟨h1,h2⟩:=gH.stay k hn uz hz;exact⟨⟨hn _ _ hu.1,hu.2.same hk hg (hn _ _ hk) ((k.block g hlt hne).trans hg)⟩,g,cs,T,hn _ _ hk,(k.block g hlt hne).trans hg,(k.owner g hlt hne).trans hΘ,bs,h1,h2⟩
 |row deep e sz rows=>
  obtain⟨hsz,hrl,v,cs,bs,hk,hown,uz,hΘ,hd⟩:=h;refine⟨hsz,hrl,v,cs,bs,hn _ _ hk,?_,?_,?_,?_⟩
  ·refine⟨hown.1,?_⟩;rcases hown.2 with wm|⟨g,cap,cur,rfl,hb,Sw,rest⟩
   ·exact .inl wm
   ·have hlt:g<w.heap.size:=(bS.1 Sw).1;have hne:Θ g≠tag:=by rw[hΘ g (by simp[Value.ownBlock])];exact hj
    exact .inr ⟨g,cap,cur,rfl,hb,(k.block g hlt hne).trans Sw,rest⟩
  ·refine uz.keep fun b hb=>k.block b (uz.lt b hb) ?_
   have:=k.two;cases deep with
   |cl=>rw[(hd.2.1 b hb).1];exact hj
   |sh=>rw[hd b hb];omega
   |uq=>rw[hd b hb];omega
   |mv n=>rw[hd b hb];omega
   |ho p n=>rw[hd b hb];omega
  ·intro g hg;have hlt:=(hown.lt g hg).2;have e:=hΘ g hg;rw[k.owner g hlt (by rw[e];exact hj)];exact e
  ·cases deep with
   |cl=>
    refine⟨hd.1,fun b hb=>⟨?_,?_⟩,hd.2.2.1,hd.2.2.2.keep fun b hb=>k.block b (uz.lt b hb) (by rw[(hd.2.1 b hb).1];exact hj)⟩
    ·rw[k.owner b (uz.lt b hb) (by rw[(hd.2.1 b hb).1];exact hj)];exact(hd.2.1 b hb).1
    ·obtain⟨x,T,hx⟩:=(hd.2.1 b hb).2;exact⟨x,T,(k.block b (uz.lt b hb) (by rw[(hd.2.1 b hb).1];exact hj)).trans hx⟩
   |sh=>exact fun b hb=>k.free (uz.lt b hb) (hd b hb)
   |uq=>exact fun b hb=>k.free (uz.lt b hb) (hd b hb)
   |mv n=>exact fun b hb=>k.free (uz.lt b hb) (hd b hb)
   |ho p n=>exact fun b hb=>k.free (uz.lt b hb) (hd b hb)
end
end
section
variable{Z:wV}{st:St}{κ κ':Nat->Option Value}{Θ Θ':Nat->Nat}{a:Act}{w w':World}{tag:Nat}
theorem fE.base(hs:fE Z st κ Θ a w):Z.W0.heap.size<=w.heap.size:=hs.stays.size
theorem fE.WS(hs:fE Z st κ Θ a w)(k:jy w w' Θ Θ' tag):U4 Z w':=by
 refine⟨k.os.trans hs.stays.os,k.tape.trans hs.stays.tape,k.output.trans hs.stays.output,eY hs.stays.size k.size,fun b hb hx=>?_⟩;have:=k.two;have h1:=(hs.old b hb hx).2;exact(k.block b (eR hb hs.base) (by omega)).trans (hs.stays.block b hb hx)
theorem fE.a1n(hs:fE Z st κ Θ a w)(k:jy w w' Θ Θ' tag):∀b,b<Z.W0.heap.size->¬Z.X b->Θ' b=Z.Θ0 b/\Θ' b<=1:=by
 intro b hb hx;have:=k.two;have h1:=hs.old b hb hx;rw[k.owner b (eR hb hs.base) (by omega)];exact h1
theorem fE.tH(hs:fE Z st κ Θ a w)(k:jy w w' Θ Θ' tag)(hn:∀(j:Nat) v,κ j=some v->κ' j=some v){ρ:Nat->Nat}(hu:Bw Z st.H κ Θ w ρ):
 (∀b,ρ b≠0->Θ' b=0/\XI Z b/\Wr w' b)/\(∀id e sz rows,id+2≠tag->st.H[id]?=some (.row .uq e sz rows)->
  ∃v cs bs,κ' id=some v/\w'.ownsRow 0 e sz v rows.length cs/\yl w' (vz e) 0 cs rows.flatten bs/\bs.Nodup/\∀b∈bs,ρ b=id+1)/\
  ∀id o,id+2≠tag->st.H[id]?=some o->R8 w' κ' ρ id o:=by
 have h2:=k.two;refine⟨?_,?_,?_⟩
 ·intro b hb;obtain⟨h0,hm,x,T,hx⟩:=hu.free b hb;have hlt:b<w.heap.size:=(bS.1 hx).1;exact⟨k.free hlt h0,hm,x,T,(k.block b hlt (by omega)).trans hx⟩
 ·intro id e sz rows hid hH;obtain⟨v,cs,bs,hk,hown,uz,hnd,hρ⟩:=hu.rows id e sz rows hH;obtain⟨_,_,v2,_,_,hk2,_,_,hΘ,_⟩:=hs.ob id _ hH;rw[hk]at hk2;cases hk2;refine⟨v,cs,bs,hn _ _ hk,⟨hown.1,?_⟩,uz.keep fun b hb=>k.block b (uz.lt b hb) ?_,hnd,hρ⟩
  ·rcases hown.2 with wm|⟨g,cap,cur,rfl,hb,Sw,rest⟩
   ·exact .inl wm
   ·have hlt:g<w.heap.size:=(bS.1 Sw).1;have hne:Θ g≠tag:=by rw[hΘ g (by simp[Value.ownBlock])];exact hid
    exact .inr ⟨g,cap,cur,rfl,hb,(k.block g hlt hne).trans Sw,rest⟩
  ·have:=hρ b hb;have:=(hu.free b (by omega)).1;omega
 ·intro id o hid hH;have hm:=hu.more id o hH;have hb0:∀ {bs:ah},(∀b∈bs,ρ b=id+1)->∀b∈bs,Θ b≠tag:=fun hρ b hb=>by
   have:=hρ b hb;have:=(hu.free b (by omega)).1;omega
  cases o with
  |tk rows=>
   obtain⟨v,bs,hk,hrd,hnd,hρ⟩:=hm;exact⟨v,bs,hn _ _ hk,hrd.keep fun b hb=>k.block b (hrd.lt b hb) (hb0 hρ b hb),hnd,hρ⟩
  |tf e sz rows=>
   obtain⟨v,bs,hk,hrd,hlt,hnd,hρ⟩:=hm;exact⟨v,bs,hn _ _ hk,hrd.keep fun b hb=>k.block b (hlt b hb) (hb0 hρ b hb),fun b hb=>eR (hlt b hb) k.size,hnd,hρ⟩
  |row kd e sz rows=>
   cases kd with
   |mv n=>
    obtain⟨v,cs,bs,hk,hown,uz,hnd,hρ⟩:=hm;obtain⟨_,_,v2,_,_,hk2,_,_,hΘ,_⟩:=hs.ob id _ hH;rw[hk]at hk2;cases hk2;refine⟨v,cs,bs,hn _ _ hk,⟨hown.1,?_⟩,uz.keep fun b hb=>k.block b (uz.lt b hb) (hb0 hρ b hb),hnd,hρ⟩;rcases hown.2 with wm|⟨g,cap,cur,rfl,hb,Sw,rest⟩
    ·exact .inl wm
    ·have hlt:g<w.heap.size:=(bS.1 Sw).1;have hne:Θ g≠tag:=by rw[hΘ g (by simp[Value.ownBlock])];exact hid
     exact .inr ⟨g,cap,cur,rfl,hb,(k.block g hlt hne).trans Sw,rest⟩
   |ho p n=>
    obtain⟨v,cs,bs,hk,hown,uz,hnd,hρ,c,hc,hkc⟩:=hm;obtain⟨_,_,v2,_,_,hk2,_,_,hΘ,_⟩:=hs.ob id _ hH;rw[hk]at hk2;cases hk2;exact⟨v,cs,bs,hn _ _ hk,Mc hown (fun g hg=>k.block g (hown.lt g hg).2 (by rw[hΘ g hg];exact hid)),uz.keep fun b hb=>k.block b (uz.lt b hb) (hb0 hρ b hb),hnd,hρ,c,hc,hn _ _ hkc⟩
   |_=>trivial
  |_=>trivial
theorem R8.re{ρ ρ':Nat->Nat}{id:Nat}{o:Ob}(h:R8 w κ ρ id o)(hr:∀b,ρ b=id+1->ρ' b=id+1):R8 w κ ρ' id o:=by
 cases o with
 |tk rows=>
  obtain⟨v,bs,hk,hrd,hnd,hρ⟩:=h;exact⟨v,bs,hk,hrd,hnd,fun b hb=>hr b (hρ b hb)⟩
 |tf e sz rows=>
  obtain⟨v,bs,hk,hrd,hlt,hnd,hρ⟩:=h;exact⟨v,bs,hk,hrd,hlt,hnd,fun b hb=>hr b (hρ b hb)⟩
 |row kd e sz rows=>
  cases kd with
  |mv n=>
   obtain⟨v,cs,bs,hk,hown,uz,hnd,hρ⟩:=h;exact⟨v,cs,bs,hk,hown,uz,hnd,fun b hb=>hr b (hρ b hb)⟩
  |ho p n=>
   obtain⟨v,cs,bs,hk,hown,uz,hnd,hρ,hc⟩:=h;exact⟨v,cs,bs,hk,hown,uz,hnd,fun b hb=>hr b (hρ b hb),hc⟩
  |_=>trivial
 |_=>trivial
theorem fE.step(hs:fE Z st κ Θ a w){H':bz}(k:jy w w' Θ Θ' tag)(hm:∀b,2<=Θ' b->Bu Z b)(hn:∀(j:Nat) v,κ j=some v->κ' j=some v)
 (hko:∀id,H'.length<=id->κ' id=none) (hk1:∀(id:Nat) u,κ' id=some u->u.oneCell'=true)
 (Dj:∀(j:Nat) o,H'[j]?=some o->o=.gone\/(j+2≠tag/\st.H[j]?=some o)\/yj w' κ' Θ' j o) (hu:∃ρ,Bw Z H' κ' Θ' w' ρ):fE Z ⟨st.σ,H'⟩ κ' Θ' a w':=by
 refine⟨hs.defers,hs.size,hko,hk1,?_,?_,k.own,hs.a1n k,hm,hs.WS k,hu⟩
 ·intro t;obtain⟨bs,hr,hz⟩:=hs.slot t;exact⟨bs,vR.stay k hn hr hz⟩
 ·intro j o hj;rcases Dj j o hj with rfl|⟨hne,hj'⟩|h
  ·trivial
  ·exact yj.stay k hn hne (hs.ob j o hj')
  ·exact h
def Al(κ:Nat->Option Value)(id:Nat)(v:Option Value):Nat->Option Value:=fun i=>if i=id then v else κ i
theorem ng(κ:Nat->Option Value)(id:Nat)(v:Option Value):Al κ id v id=v:=by simp[Al]
theorem AD{κ:Nat->Option Value}{id:Nat}(h:κ id=none)(v:Option Value):∀(j:Nat) u,κ j=some u->Al κ id v j=some u:=by
 intro j u hj;unfold Al;rw[bE (fun e=>by subst e;rw[h]at hj;cases hj)];exact hj
def Ob.Zw:Ob->Bool
 | .row .uq _ _ _=>true
 | .row (.mv _) _ _ _=>true
 | .row (.ho _ _) _ _ _=>true
 | .tk _=>true
 | .tf _ _ _=>true
 |_=>false
def Ob.mvB:Ob->Bool
 | .row (.mv _) _ _ _=>true
 | .row (.ho _ _) _ _ _=>true
 | .tk _=>true
 | .tf _ _ _=>true
 |_=>false
theorem R8.I8{ρ:Nat->Nat}{id:Nat}{o:Ob}(h:o.mvB=false):R8 w κ ρ id o:=by
 cases o with
 |tk rows=>simp[Ob.mvB]at h
 |tf e sz rows=>simp[Ob.mvB]at h
 |row kd e sz rows=>
  cases kd with
  |mv n=>simp[Ob.mvB]at h
  |ho p n=>simp[Ob.mvB]at h
  |_=>trivial
 |_=>trivial
theorem R8.plain{ρ:Nat->Nat}{id:Nat}{o:Ob}(h:o.Zw=false):R8 w κ ρ id o:=by
 cases o with
 |tk rows=>simp[Ob.Zw]at h
 |tf e sz rows=>simp[Ob.Zw]at h
 |row kd e sz rows=>
  cases kd with
  |mv n=>simp[Ob.Zw]at h
  |ho p n=>simp[Ob.Zw]at h
  |_=>trivial
 |_=>trivial
theorem fE.push(hs:fE Z st κ Θ a w){v:Value}{o:Ob}(h1:v.oneCell'=true)(k:jy w w' Θ Θ' (st.H.length+2))(hm:∀b,2<=Θ' b->Bu Z b)
 (ho:yj w' (Al κ st.H.length (some v)) Θ' st.H.length o) (hq:o.Zw=false):fE Z ⟨st.σ,st.H++[o]⟩ (Al κ st.H.length (some v)) Θ' a w':=by
 have hn:=AD (hs.uY _ (br _)) (some v);have key:∀(j:Nat) x,(st.H++[o])[j]?=some x->(j=st.H.length/\x=o)\/(j+2≠st.H.length+2/\st.H[j]?=some x):=by
  intro j x hj;by_cases hlt:j<st.H.length
  ·rw[bJ hlt]at hj;exact .inr ⟨by omega,hj⟩
  ·have hj':=(aN.1 hj).1;simp only[bB,aQ,cE]at hj';have e:j=st.H.length:=by omega
   subst e;rw[bW (br _)]at hj;simp at hj;exact .inl ⟨rfl,hj.symm⟩
 obtain⟨ρ,hu⟩:=hs.vo;have wo:=hs.tH k hn hu;refine hs.step k hm hn ?_ ?_ ?_ ⟨ρ,wo.1,?_,?_⟩
 ·intro i hi;simp only[bB,aQ,cE]at hi;unfold Al;rw[bE (by omega)];exact hs.uY i (by omega)
 ·intro i u hu;unfold Al at hu;split at hu
  ·cases hu;exact h1
  ·exact hs.tF i u hu
 ·intro j x hj;rcases key j x hj with⟨rfl,rfl⟩|h
  ·exact .inr (.inr ho)
  ·exact .inr (.inl h)
 ·intro id e sz rows hj;rcases key id _ hj with⟨rfl,rfl⟩|h
  ·simp[Ob.Zw]at hq
  ·exact wo.2.1 id e sz rows h.1 h.2
 ·intro id x hj;rcases key id _ hj with⟨rfl,rfl⟩|h
  ·exact R8.plain hq
  ·exact wo.2.2 id x h.1 h.2
theorem fE.change(hs:fE Z st κ Θ a w){id:Nat}{o:Ob}(k:jy w w' Θ Θ' (id+2))(hm:∀b,2<=Θ' b->Bu Z b)(ho:yj w' κ Θ' id o)(hq:o.Zw=false):
 fE Z ⟨st.σ,st.H.set id o⟩ κ Θ' a w':=by
 have key:∀(j:Nat) x,(st.H.set id o)[j]?=some x->(j=id/\x=o)\/(j+2≠id+2/\st.H[j]?=some x):=by
  intro j x hj;by_cases e:id=j
  ·subst e;have hlt:id<st.H.length:=by
    have:=(aN.1 hj).1;simpa using this
   rw[eX hlt]at hj;cases hj;exact .inl ⟨rfl,rfl⟩
  ·rw[cz e]at hj;exact .inr ⟨by omega,hj⟩
 obtain⟨ρ,hu⟩:=hs.vo;have wo:=hs.tH k (fun _ _ h=>h) hu;refine hs.step k hm (fun _ _ h=>h) (fun i hi=>hs.uY i (by simpa using hi)) hs.tF ?_ ⟨ρ,wo.1,?_,?_⟩
 ·intro j x hj;rcases key j x hj with⟨rfl,rfl⟩|h
  ·exact .inr (.inr ho)
  ·exact .inr (.inl h)
 ·intro i e sz rows hj;rcases key i _ hj with⟨rfl,rfl⟩|h
  ·simp[Ob.Zw]at hq
  ·exact wo.2.1 i e sz rows h.1 h.2
 ·intro i x hj;rcases key i _ hj with⟨rfl,rfl⟩|h
  ·exact R8.plain hq
  ·exact wo.2.2 i x h.1 h.2
theorem fE.Bl(hs:fE Z st κ Θ a w)(h:∀b,2<=Θ' b->2<=Θ b\/w.heap.size<=b):∀b,2<=Θ' b->Bu Z b:=by
 intro b hb;rcases h b hb with h|h
 ·exact hs.mine b h
 ·exact .inl (eY hs.base h)
theorem jy.refl(h:∀b,Θ b≠0->b<w.heap.size)(h2:2<=tag):jy w w Θ Θ tag:=⟨h2,rfl,rfl,rfl,br _,fun _ _ _=>rfl,fun _ _ _=>rfl,h⟩
theorem jy.a5X(h:∀b,Θ b≠0->b<w.heap.size)(hb:Below w.heap.size w w')(h2:2<=tag):jy w w' Θ Θ tag:=
 ⟨h2,hb.os,hb.tape,hb.output,hb.size,fun b hlt _=>hb.block b hlt,fun _ _ _=>rfl,fun b hn=>eR (h b hn) hb.size⟩
theorem fE.grow(hs:fE Z st κ Θ a w)(hb:Below w.heap.size w w'):fE Z st κ Θ a w':=by
 have k:jy w w' Θ Θ (st.H.length+2):=jy.a5X hs.own hb (by omega);obtain⟨ρ,hu⟩:=hs.vo;have wo:=hs.tH k (fun _ _ h=>h) hu;have hlt:∀(j:Nat) o,st.H[j]?=some o->j+2≠st.H.length+2:=fun j o h=>by
  have:=(aN.1 h).1;omega
 exact hs.step k hs.mine (fun _ _ h=>h) hs.uY hs.tF (fun j o h=>.inr (.inl ⟨hlt j o h,h⟩)) ⟨ρ,wo.1,fun id e sz rows h=>wo.2.1 id e sz rows (hlt _ _ h) h,fun id o h=>wo.2.2 id o (hlt _ _ h) h⟩
theorem fE.drew(hs:fE Z st κ Θ a w):fE Z st κ Θ a w.drew:=hs.grow ((Below.refl _ _).drew)
def kill(H:bz):ah->bz
 | []=>H
 |m::ms=>kill (H.set m .gone) ms
theorem iU(H:bz)(ms:ah):(kill H ms).length=H.length:=by
 induction ms generalizing H with
 |nil=>rfl
 |cons m ms ih=>simp[kill,ih]
theorem qo{H:bz}{ms:ah}{j:Nat}{o:Ob}(h:(kill H ms)[j]?=some o):o=.gone\/(j∉ms/\H[j]?=some o):=by
 induction ms generalizing H with
 |nil=>exact .inr ⟨by simp,h⟩
 |cons m ms ih=>
  rcases ih h with h|⟨h1,h2⟩
  ·exact .inl h
  ·by_cases e:m=j
   ·subst e;have hlt:=(aN.1 h2).1;rw[eX (by simpa using hlt)]at h2;cases h2;exact .inl rfl
   ·rw[cz e]at h2;exact .inr ⟨by simp[h1,rq e],h2⟩
def Aq(κ:Nat->Option Value)(Θ ρ:Nat->Nat)(w:World)(m:Nat)(k:RK)(rows:List aR)(t:Option (TypeId×Nat):=none):Prop:=
 ∃v bs,κ m=some v/\Rd w v (.sl rows) bs/\(∀b∈bs,Θ b=0)/\(k=.uq->bs.Nodup/\∀b∈bs,ρ b=m+1)/\(∀t',t=some t'->Je w t' v (.sl rows) bs)
def Ob.tOf:Ob->Option (TypeId×Nat)
 | .row _ e sz _=>some (e,sz)
 |_=>Option.none
theorem wP{e sz:Nat}{v:Value}{rows:List aR}{cs:cG}{bs:ah}(hrl:∀r∈rows,r.length=sz)(hown:w.ownsRow 0 e sz v rows.length cs)(uz:oH w cs rows.flatten bs):
 Rd w v (.sl rows) (v.ownBlock.toList++bs):=by
 rcases hown.2 with⟨rfl,hn⟩|⟨g,cap,cur,rfl,_,hg,hnc,hcm,_,ht⟩
 ·have:rows=[]:=dJ hn;subst this;cases uz;exact .Af
 ·have hlt:g<w.heap.size:=(bS.1 hg).1;refine .sl g 0 cap sz rows cs bs hlt hnc hcm hrl (fun j c hc=>?_) uz;have:=hown.cells (g:=g) (by simp[Value.ownBlock]) j c hc;simpa[Addr.add_lit]using this
theorem fE.a94(hs:fE Z st κ Θ a w){ρ:Nat->Nat}(hu:Bw Z st.H κ Θ w ρ){m e sz:Nat}{k:RK}{rows:List aR}(hH:st.H[m]?=some (.row k e sz rows))(hk:k.TQ=true):
 ∃Θ' ρ',fE Z ⟨st.σ,st.H.set m .gone⟩ κ Θ' a w/\Bw Z (st.H.set m .gone) κ Θ' w ρ'/\Aq κ Θ' ρ' w m k rows (some (e,sz))/\
  (∀b,Θ b=0->Θ' b=0)/\(∀b,ρ b≠0->ρ' b=ρ b):=by
 obtain⟨hsz,hrl,v,cs,bs,hkm,hown,uz,hΘ,hz⟩:=hs.ob m _ hH;have Aj:∀b∈bs,Θ b=0:=by cases k<;>first|exact hz|simp[RK.TQ]at hk
 let Θ':Nat->Nat:=fun b=>if Θ b=m+2 then 0 else Θ b
 let ρ':Nat->Nat:=fun b=>if some b=v.ownBlock then m+1 else ρ b
 have hk':jy w w Θ Θ' (m+2):=⟨by omega,rfl,rfl,rfl,br _,fun _ _ _=>rfl,fun b _ hne=>bE hne,fun b hb=>hs.own b (fun h0=>hb (by simp only[Θ'];split<;>simp_all))⟩
 have hT0:∀b,Θ b=0->Θ' b=0:=fun b h=>by simp only[Θ'];split<;>omega
 have Rt:∀b,2<=Θ' b->Bu Z b:=fun b hb=>hs.mine b (by simp only[Θ']at hb;split at hb<;>omega)
 have Hz:∀g,v.ownBlock=some g->ρ g=0:=by
  intro g hg;cases h:ρ g with
  |zero=>rfl
  |succ n=>have:=(hu.free g (by omega)).1;rw[hΘ g hg]at this;omega
 have hρ:∀b,ρ b≠0->ρ' b=ρ b:=fun b hb=>bE (fun h=>hb (Hz b h.symm))
 have key:∀(j:Nat) x,(st.H.set m .gone)[j]?=some x->x=.gone\/(j+2≠m+2/\st.H[j]?=some x):=by
  intro j x hj;rcases qo (ms:=[m]) hj with h|⟨h1,h2⟩
  ·exact .inl h
  ·exact .inr ⟨by simp at h1;omega,h2⟩
 have wo:=hs.tH hk' (fun _ _ h=>h) hu;have hU:Bw Z (st.H.set m .gone) κ Θ' w ρ':=by
  refine⟨fun b hb=>?_,fun id e sz rows h=>?_,fun id x h=>?_⟩
  ·by_cases hb':some b=v.ownBlock
   ·have e1:=hΘ b hb'.symm;refine⟨by simp only[Θ'];rw[bP e1],.inl (hs.mine b (by omega)),?_⟩;rcases hown.2 with⟨rfl,_⟩|⟨g,cap,cur,rfl,_,hg,_⟩
    ·simp[Value.ownBlock]at hb'
    ·simp[Value.ownBlock]at hb';subst hb';exact⟨_,_,hg⟩
   ·exact wo.1 b (by simp only[ρ']at hb;rwa[bE hb']at hb)
  ·rcases key id _ h with h|⟨h1,h2⟩
   ·cases h
   ·obtain⟨v2,c2,b2,q1,q2,q3,q4,q5⟩:=wo.2.1 id e sz rows h1 h2;exact⟨v2,c2,b2,q1,q2,q3,q4,fun b hb=>by rw[hρ b (by rw[q5 b hb];omega)];exact q5 b hb⟩
  ·rcases key id _ h with h|⟨h1,h2⟩
   ·subst h;trivial
   ·exact(wo.2.2 id x h1 h2).re fun b hb=>(hρ b (by omega)).trans hb
 refine⟨Θ',ρ',?_,hU,?_,hT0,hρ⟩
 ·exact hs.step hk' Rt (fun _ _ h=>h) (fun i hi=>hs.uY i (by simpa using hi)) hs.tF (fun j x hj=>by
   rcases key j x hj with h|h
   ·exact .inl h
   ·exact .inr (.inl h)) ⟨ρ',hU⟩
 ·have plain:k≠ .uq->Aq κ Θ' ρ' w m k rows (some (e,sz)):=fun hne=>by
   refine⟨v,_,hkm,wP hrl hown uz,fun b hb=>?_,fun h=>absurd h hne,fun t ht=>by cases ht;exact .inr ⟨rows,cs,bs,rfl,hsz,hrl,hown,uz,rfl⟩⟩;rcases aW.1 hb with hb|hb
   ·simp only[jI]at hb;simp only[Θ'];rw[bP (hΘ b hb)]
   ·exact hT0 b (Aj b hb)
  cases k with
  |cl=>simp[RK.TQ]at hk
  |sh=>exact plain (by simp)
  |mv n=>exact plain (by simp)
  |ho p n=>exact plain (by simp)
  |uq=>
   obtain⟨v2,c2,b2,q1,q2,q3,q4,q5⟩:=hu.rows m e sz rows hH;rw[hkm]at q1;cases q1;have hfr:∀b∈b2,ρ b≠0:=fun b hb=>by rw[q5 b hb];omega
   refine⟨v,_,hkm,wP hrl q2 q3.rd,fun b hb=>?_,fun _=>⟨?_,fun b hb=>?_⟩,fun t ht=>by cases ht;exact .inr ⟨rows,c2,b2,rfl,hsz,hrl,q2,q3.rd,rfl⟩⟩
   ·rcases aW.1 hb with hb|hb
    ·simp only[jI]at hb;simp only[Θ'];rw[bP (hΘ b hb)]
    ·exact hT0 b (hu.free b (hfr b hb)).1
   ·rw[cC];refine⟨by cases v.ownBlock<;>simp,q4,fun x hx y hy e=>?_⟩;simp only[jI]at hx;subst e;exact hfr x hy (Hz x hx)
   ·rcases aW.1 hb with hb|hb
    ·simp only[jI]at hb;simp only[ρ'];rw[bP hb.symm]
    ·rw[hρ b (hfr b hb)];exact q5 b hb
theorem fE.aBc(hs:fE Z st κ Θ a w){ρ:Nat->Nat}(hu:Bw Z st.H κ Θ w ρ){m:Nat}{rows:List aR}(hH:st.H[m]?=some (.tk rows)):
 fE Z ⟨st.σ,st.H.set m .gone⟩ κ Θ a w/\Bw Z (st.H.set m .gone) κ Θ w ρ/\Aq κ Θ ρ w m .uq rows:=by
 have key:∀(j:Nat) x,(st.H.set m .gone)[j]?=some x->x=.gone\/(j≠m/\st.H[j]?=some x):=by
  intro j x hj;rcases qo (ms:=[m]) hj with h|⟨h1,h2⟩
  ·exact .inl h
  ·exact .inr ⟨by simpa using h1,h2⟩
 have hU:Bw Z (st.H.set m .gone) κ Θ w ρ:=by
  refine⟨hu.free,fun id e sz rows h=>?_,fun id x h=>?_⟩
  ·rcases key id _ h with h|⟨_,h2⟩
   ·cases h
   ·exact hu.rows id e sz rows h2
  ·rcases key id _ h with h|⟨_,h2⟩
   ·subst h;trivial
   ·exact hu.more id x h2
 obtain⟨v,bs,q1,q2,q3,q4⟩:=hu.more m _ hH;refine⟨⟨hs.defers,hs.size,fun i hi=>hs.uY i (by simpa using hi),hs.tF,hs.slot,fun id o h=>?_,hs.own,hs.old,hs.mine,hs.stays,ρ,hU⟩,hU,v,bs,q1,q2,fun b hb=>(hu.free b (by rw[q4 b hb];omega)).1,fun _=>⟨q3,q4⟩,fun _ h=>by cases h⟩;rcases key id _ h with h|⟨_,h2⟩
 ·subst h;trivial
 ·exact hs.ob id o h2
def Ob.Mk:Ob->Option (RK×List aR)
 | .row k _ _ rows=>(match k with| .cl=>none|_=>some (k,rows))
 | .tk rows=>some (.uq,rows)
 |_=>none
theorem Ob.a3E{o:Ob}{k:RK}{rows:List aR}(h:o.Mk=some (k,rows)):(∃e sz,o=.row k e sz rows/\k.TQ=true)\/(o=.tk rows/\k=.uq):=by
 cases o with
 |row k' e sz r=>
  cases k' with
  |cl=>simp[Ob.Mk]at h
  |_=>simp only[Ob.Mk,bC,dG]at h;obtain⟨rfl,rfl⟩:=h;exact .inl ⟨e,sz,rfl,rfl⟩
 |tk r=>simp only[Ob.Mk,bC,dG]at h;obtain⟨rfl,rfl⟩:=h;exact .inr ⟨rfl,rfl⟩
 |_=>simp[Ob.Mk]at h
theorem fE.aBb(hs:fE Z st κ Θ a w){ρ:Nat->Nat}(hu:Bw Z st.H κ Θ w ρ){m:Nat}{o:Ob}{k:RK}{rows:List aR}(hH:st.H[m]?=some o)(ho:o.Mk=some (k,rows)):
 ∃Θ' ρ',fE Z ⟨st.σ,st.H.set m .gone⟩ κ Θ' a w/\Bw Z (st.H.set m .gone) κ Θ' w ρ'/\Aq κ Θ' ρ' w m k rows o.tOf/\
  (∀b,Θ b=0->Θ' b=0)/\(∀b,ρ b≠0->ρ' b=ρ b):=by
 rcases Ob.a3E ho with⟨e,sz,rfl,hk⟩|⟨rfl,rfl⟩
 ·exact hs.a94 hu hH hk
 ·obtain⟨h1,h2,h3⟩:=hs.aBc hu hH;exact⟨Θ,ρ,h1,h2,h3,fun _ h=>h,fun _ _=>rfl⟩
theorem fE.Ux:∀(ms:ah) {st:St} {Θ ρ:Nat->Nat},fE Z st κ Θ a w->Bw Z st.H κ Θ w ρ->ms.Nodup->
 (∀m∈ms,∃o k rows,st.H[m]?=some o/\o.Mk=some (k,rows))->
 ∃Θ' ρ',fE Z ⟨st.σ,kill st.H ms⟩ κ Θ' a w/\Bw Z (kill st.H ms) κ Θ' w ρ'/\(∀m∈ms,∀o k rows,st.H[m]?=some o->o.Mk=some (k,rows)->Aq κ Θ' ρ' w m k rows o.tOf)/\
  (∀b,Θ b=0->Θ' b=0)/\(∀b,ρ b≠0->ρ' b=ρ b):=by
 intro ms
 induction ms with
 |nil=>intro st Θ ρ hs hu _ _;exact⟨Θ,ρ,hs,hu,by simp,fun _ h=>h,fun _ _=>rfl⟩
 |cons m ms ih=>
  intro st Θ ρ hs hu hnd hall;obtain⟨hnm,Sx⟩:=gw.1 hnd;obtain⟨o,k,rows,hH,hk⟩:=hall m (by simp);obtain⟨Θ1,ρ1,hs1,hu1,hm1,RO,ZC⟩:=hs.aBb hu hH hk;have Q3:∀m'∈ms,(st.H.set m .gone)[m']?=st.H[m']?:=fun m' hm'=>cz (fun e:m=m'=>hnm (by rw[e];exact hm'))
  obtain⟨Θ2,ρ2,hs2,hu2,hm2,WM,hr2⟩:=ih (st:=⟨st.σ,st.H.set m .gone⟩) hs1 hu1 Sx (fun m' hm'=>by
   obtain⟨o',k',eO,h1,h2⟩:=hall m' (by simp[hm']);exact⟨o',k',eO,(Q3 m' hm').trans h1,h2⟩)
  refine⟨Θ2,ρ2,hs2,hu2,?_,fun b h=>WM b (RO b h),fun b h=>(hr2 b (by rw[ZC b h];exact h)).trans (ZC b h)⟩;intro m' hm' o' k' eO GV ho';rcases bV.1 hm' with rfl|a1C
  ·rw[hH]at GV;cases GV;rw[hk]at ho';cases ho';obtain⟨v,bs,q1,q2,q3,q4,q7⟩:=hm1;refine⟨v,bs,q1,q2,fun b hb=>WM b (q3 b hb),fun hq=>?_,fun _ h=>q7 _ h⟩;obtain⟨q5,q6⟩:=q4 hq;exact⟨q5,fun b hb=>by rw[hr2 b (by rw[q6 b hb];omega)];exact q6 b hb⟩
  ·exact hm2 m' a1C o' k' eO ((Q3 m' a1C).trans GV) ho'
theorem fE.IP:∀(ms:ah) {st:St} {Θ ρ:Nat->Nat},fE Z st κ Θ a w->Bw Z st.H κ Θ w ρ->ms.Nodup->
 (∀m∈ms,∃k e sz rows,st.H[m]?=some (.row k e sz rows)/\k.TQ=true)->
 ∃Θ' ρ',fE Z ⟨st.σ,kill st.H ms⟩ κ Θ' a w/\Bw Z (kill st.H ms) κ Θ' w ρ'/\(∀m∈ms,∀k e sz rows,st.H[m]?=some (.row k e sz rows)->Aq κ Θ' ρ' w m k rows)/\
  (∀b,Θ b=0->Θ' b=0)/\(∀b,ρ b≠0->ρ' b=ρ b):=by
 intro ms
 induction ms with
 |nil=>intro st Θ ρ hs hu _ _;exact⟨Θ,ρ,hs,hu,by simp,fun _ h=>h,fun _ _=>rfl⟩
 |cons m ms ih=>
  intro st Θ ρ hs hu hnd hall;obtain⟨hnm,Sx⟩:=gw.1 hnd;obtain⟨k,e,sz,rows,hH,hk⟩:=hall m (by simp);obtain⟨Θ1,ρ1,hs1,hu1,hm1,RO,ZC⟩:=hs.a94 hu hH hk;have Q3:∀m'∈ms,(st.H.set m .gone)[m']?=st.H[m']?:=fun m' hm'=>cz (fun e:m=m'=>hnm (by rw[e];exact hm'))
  obtain⟨Θ2,ρ2,hs2,hu2,hm2,WM,hr2⟩:=ih (st:=⟨st.σ,st.H.set m .gone⟩) hs1 hu1 Sx (fun m' hm'=>by
   obtain⟨k',e',sz',eO,h1,h2⟩:=hall m' (by simp[hm']);exact⟨k',e',sz',eO,(Q3 m' hm').trans h1,h2⟩)
  refine⟨Θ2,ρ2,hs2,hu2,?_,fun b h=>WM b (RO b h),fun b h=>(hr2 b (by rw[ZC b h];exact h)).trans (ZC b h)⟩;intro m' hm' k' e' sz' eO GV;rcases bV.1 hm' with rfl|a1C
  ·rw[hH]at GV;cases GV;obtain⟨v,bs,q1,q2,q3,q4,q7⟩:=hm1;refine⟨v,bs,q1,q2,fun b hb=>WM b (q3 b hb),fun hq=>?_,fun _ h=>by cases h⟩;obtain⟨q5,q6⟩:=q4 hq;exact⟨q5,fun b hb=>by rw[hr2 b (by rw[q6 b hb];omega)];exact q6 b hb⟩
  ·exact hm2 m' a1C k' e' sz' eO ((Q3 m' a1C).trans GV)
end
section
variable{P:Program}{Z:wV}{Q:Exit->St->Prop}{st:St}{κ:Nat->Option Value}{Θ:Nat->Nat}{a:Act}{w:World}{all:Array Oper}{rest:List Oper}
theorem a4B{c:Operand}{x y:Code}{b:Bool}(hc:st.ev c=.bool b)(ht:b=true->AW P Z x Q st)(hf:b=false->AW P Z y Q st):AW P Z (.cond c x y) Q st:=by
 intro κ Θ a w hs;obtain⟨bs,r,_⟩:=hs.ev c;rw[hc]at r;exact wp_cond_split r.yt (fun h=>ht h κ Θ a w hs) (fun h=>hf h κ Θ a w hs)
theorem PS{o:Oper}{j s:Nat}{want b:Bool}(hg:o.guard=some (j,want))(hj:(all[j]?).bind (·.dst)=some s)(hb:lk st.σ s=.bool b)
 (hd:∀t,o.dst=some t->t<Z.nt)
 (aFg:b=want->AO P Z all ({o with guard:=none}::rest) Q st) (hno:b≠want->AO P Z all rest Q (st.put o.dst (.iw []))):AO P Z all (o::rest) Q st:=by
 intro κ Θ a w hs;obtain⟨bs,r,_⟩:=hs.slot s;rw[hb]at r;have hv:=r.yt;have hlt:s<a.tmps.size:=by
  rcases gj s a.tmps.size with h|h
  ·exact h
  ·exfalso;rw[cW,uf h]at hv;simp[undef]at hv
 have hy:yielded all a.tmps j=some b:=by
  have h1:a.tmps[s]?=some (.bool b):=by
   rw[cW,dB hlt]at hv;rw[dB hlt];simpa using hv
  simp[yielded,hj,h1]
 by_cases e:b=want
 ·have:=aFg e κ Θ a w hs;unfold wpList at this⊢;have hw:Region.wanted o (yielded all a.tmps)=true:=by simp[Region.wanted,hg,hy,e]
  have hw':Region.wanted {o with guard:=none} (yielded all a.tmps)=true:=rfl;rw[bP hw];rw[bP hw']at this;exact this
 ·have hw:Region.wanted o (yielded all a.tmps)=false:=by simp[Region.wanted,hg,hy,e]
  unfold wpList;rw[hw,bE (by simp)];refine hno e κ Θ _ w ?_;cases Ss:o.dst with
  |none=>exact hs
  |some t=>exact hs.set (hd t Ss) (.iw [] [] [] .nil) (by simp)
theorem vR.SF{w:World}{κ:Nat->Option Value}{v:Value}{bs:ah}(h:vR w κ v (.iw []) bs):v=.tuple #[]:=by
 cases h with
 |v h=>cases h with|cell h=>cases h with|pure h=>cases h
 |iw vs ds bs h=>cases h;rfl
theorem RW{o:Oper}{j s:Nat}{want:Bool}(hg:o.guard=some (j,want))(hj:(all[j]?).bind (·.dst)=some s)(hb:lk st.σ s=.iw [])
 (hd:∀t,o.dst=some t->t<Z.nt) (hno:AO P Z all rest Q (st.put o.dst (.iw []))):AO P Z all (o::rest) Q st:=by
 intro κ Θ a w hs;obtain⟨bs,r,_⟩:=hs.slot s;rw[hb]at r;have hv:=r.SF;have hy:yielded all a.tmps j=none:=by
  rcases gj s a.tmps.size with hlt|hlt
  ·have h1:a.tmps[s]?=some (.tuple #[]):=by
    rw[cW,dB hlt]at hv;rw[dB hlt];simpa using hv
   simp[yielded,hj,h1]
  ·simp[yielded,hj,uf hlt]
 have hw:Region.wanted o (yielded all a.tmps)=false:=by simp[Region.wanted,hg,hy]
 unfold wpList;rw[hw,bE (by simp)];refine hno κ Θ _ w ?_;cases Ss:o.dst with
 |none=>exact hs
 |some t=>exact hs.set (hd t Ss) (.iw [] [] [] .nil) (by simp)
theorem jy.alloc(hs:fE Z st κ Θ a w)(o:Obj){tag:Nat}(h2:2<=tag):jy w (w.alloc o) Θ (fun b=>if b=w.heap.size then tag else Θ b) tag:=by
 refine⟨h2,rfl,rfl,rfl,by simp,fun b hb _=>Below.heap_alloc w o b hb,fun b hb _=>?_,fun b hb=>?_⟩
 ·rw[bE (by omega)]
 ·by_cases e:b=w.heap.size
  ·subst e;simp
  ·rw[bE e]at hb;have:=hs.own b hb;simp;omega
theorem fE.a2B(hs:fE Z st κ Θ a w){cs:Array Value}{ds:aR}{bs:ah}(T:TypeId)(hr:gH w κ cs.toList ds bs)(hz:∀b∈bs,Θ b=0):
 fE Z ⟨st.σ,st.H++[.box ds]⟩ (Al κ st.H.length (some (.pointer (some ⟨w.heap.size,0,none⟩)))) (fun b=>if b=w.heap.size then st.H.length+2 else Θ b) a (w.alloc (.cells cs T)):=by
 have k:=jy.alloc hs (.cells cs T) (tag:=st.H.length+2) (by omega);refine hs.push rfl k (hs.Bl (fun b hb=>by by_cases e:b=w.heap.size<;>simp_all)) ?_ rfl;have hn:=AD (hs.uY _ (br _)) (some (Value.pointer (some ⟨w.heap.size,0,none⟩)));obtain⟨h1,h2⟩:=gH.stay k hn hr hz;exact⟨w.heap.size,cs,T,by simp[Al],heap_alloc_new w _,by simp,bs,h1,h2⟩
theorem a7q{o:Oper}{T t:Nat}{x:Operand}{ds:aR}(hop:o.op=.box T x)(hd:o.dst=some t)(hg:o.guard=none)(ht:t<Z.nt)
 (hc:(st.ev x).cellsOf=some ds) (h:AO P Z all rest Q ⟨(t,.ptr st.H.length 0)::st.σ,st.H++[.box ds]⟩):AO P Z all (o::rest) Q st:=by
 intro κ Θ a w hs;obtain⟨bs,r,hz⟩:=hs.ev x;have hcs:=Gp hs.tF r hc;have hs':=hs.a2B T hcs hz;refine wpList_plain hg fun K hK=>?_
 unfold Oper.wp;have hrun:(execOp a.eval o).run P w=.ok (.value (.pointer (some ⟨w.heap.size,0,none⟩))) (w.alloc (.cells (a.eval x).cells T)):=by
  simp[execOp,hop,Instr.box,newVar,newRow]
 rw[hrun,Oper.upon_value,hd];refine hK _ _ (h _ _ _ _ (hs'.set (t:=t) (d:=.ptr st.H.length 0) (bs:=[]) ht ?_ (by simp)));exact(Bf.ptr st.H.length 0 w.heap.size (by simp[Al])).Tv
theorem a0K{o:Oper}{T t:Nat}{zs:aR}(hop:o.op=.alloc T)(hd:o.dst=some t)(hg:o.guard=none)(ht:t<Z.nt)
 (hz:tz P T=some zs) (h:AO P Z all rest Q ⟨(t,.ptr st.H.length 0)::st.σ,st.H++[.box zs]⟩):AO P Z all (o::rest) Q st:=by
 intro κ Θ a w hs;obtain⟨i,z,hi,Aj,hsz,hlen,hone,rfl⟩:=A5 hz;have hs':=hs.a2B T (cs:=z.cells) (EQ z.cells.toList hone) (by simp);refine wpList_plain hg fun K hK=>?_
 unfold Oper.wp;have hrun:(execOp a.eval o).run P w=.ok (.value (.pointer (some ⟨w.heap.size,0,none⟩))) (w.alloc (.cells z.cells T)):=by
  simp[execOp,hop,Instr.alloc,zeroValue,typeInfo,hi,Aj,newVar,newRow]
 rw[hrun,Oper.upon_value,hd];refine hK _ _ (h _ _ _ _ (hs'.set (t:=t) (d:=.ptr st.H.length 0) (bs:=[]) ht ?_ (by simp)));exact(Bf.ptr st.H.length 0 w.heap.size (by simp[Al])).Tv
theorem jy.setRow(hs:fE Z st κ Θ a w){g:Nat}{cs:Array Value}{tag:Nat}(h2:2<=tag)(hg:Θ g=tag):jy w (w.setRow g cs) Θ Θ tag:=by
 refine⟨h2,rfl,rfl,rfl,by simp,fun b _ hne=>setRow_other w g b cs (fun e=>hne (e▸hg)),fun b _ _=>rfl,fun b hb=>?_⟩;simpa using hs.own b hb
theorem OU{T g off:Nat}{v:Value}{cur:Array Value}{e:TypeId}(hg:w.heap[g]?=some (.cells cur e (0,0)))(hsz:v.cells.size=Bp P T)(Q4:∃i,P.info? T=some i)
 (hfit:off+v.cells.size<=cur.size) (hone:∀c∈v.cells.toList,c.oneCell'=true):
 (Instr.storeAt T (.pointer (some ⟨g,off,none⟩)) v).run P w=.ok () (w.setRow g (cur.toList.take off++v.cells.toList++cur.toList.drop (off+v.cells.toList.length)).toArray):=by
 have:=run_storeCells_at P g off e v.cells.toList 0 cur w hg (by simpa using hfit) hone;simp only[wW]at this;simp[Instr.storeAt,Instr.sureAddr,storeVar,xg Q4,hsz,this]
def Wz(P:Program)(t:TypeId):Bool:=(P.info? t).isSome
theorem SB{o:Oper}{T id off:Nat}{x y:Operand}{cells ds:aR}(hop:o.op=.store T x y)
 (hx:st.ev x=.ptr id off) {ob:Ob} (hH:st.H[id]?=some ob) (Dj:ob.Xe=some cells) (hc:(st.ev y).cellsOf=some ds) (hT:Wz P T=true) (hl:ds.length=Bp P T) (hfit:off+ds.length<=cells.length) (hkp:ob.Y2 off=true) (hs:fE Z st κ Θ a w):
 ∃w',(execOp a.eval o).run P w=.ok .skip w'/\fE Z ⟨st.σ,st.H.set id (ob.re (cells.take off++ds++cells.drop (off+ds.length)))⟩ κ Θ a w':=by
 obtain⟨b1,r1,_⟩:=hs.ev x;obtain⟨b2,r2,WM⟩:=hs.ev y;rw[hx]at r1;obtain⟨g,hk,hv⟩:=r1.DD;obtain⟨g',cs,Tb,hk',hgc,hΘ,bs,uz,hz⟩:=(hs.ob id _ hH).cs Dj;rw[hk]at hk';cases hk';have hcs:=Gp hs.tF r2 hc;have hl1:=hcs.length;have PE:=uz.length;have hsz:(a.eval y).cells.size=Bp P T:=by rw[<-hl,<-hl1];simp
 have hst:=OU (P:=P) (T:=T) (off:=off) hgc hsz (gP.1 hT) (by
  have:(a.eval y).cells.size=ds.length:=by rw[<-hl1];simp
  have h3:cs.size=cells.length:=by rw[<-PE];simp
  omega) hcs.one
 have k:=jy.setRow hs (g:=g) (cs:=(cs.toList.take off++(a.eval y).cells.toList++cs.toList.drop (off+(a.eval y).cells.toList.length)).toArray) (tag:=id+2) (by omega) hΘ;have hrun:(execOp a.eval o).run P w=.ok .skip (w.setRow g (cs.toList.take off++(a.eval y).cells.toList++cs.toList.drop (off+(a.eval y).cells.toList.length)).toArray):=by
  simp only[execOp,hop,hv];simp[hst]
 refine⟨_,hrun,hs.change k hs.mine (yj.aCW Dj (hs.ob id _ hH) (fun _ h=>h) (fun c0 u0 e0=>?_) ?_) (by cases ob<;>rfl)⟩
 ·subst e0;intro c hc' g2 cs2 T2 hk2 Sv;rw[hk]at hk2;cases hk2;rw[setRow_heap w g cs _ Tb _ hgc]at Sv;cases Sv;obtain⟨z1,z2⟩:=(hs.ob id _ hH).1.2 c hc' g cs Tb hk hgc;simp only[Ob.Xe,bC]at Dj;subst Dj;have h3:c0.length=3:=by rw[<-PE];simpa using z1
  have hoff:1<=off:=by
   simp only[Ob.Y2,h3,oT,bU,r9]at hkp;exact lF hkp
  have aHs:cs.toList.length=3:=by simpa using z1
  have hel:(a.eval y).cells.toList.length=ds.length:=hl1;refine⟨by simp only[yd,bB,cU,mM];omega,?_⟩;rw[lD,dH,bJ (by rw[cU];omega),xQ (by omega)];simpa using z2
 have e:cells=cells.take off++((cells.drop off).take ds.length++(cells.drop off).drop ds.length):=by rw[cc,cc]
 rw[e]at uz;obtain⟨v1,v2,c1,c2,Oq,rfl,k1,k2⟩:=uz.split;obtain⟨v3,v4,c3,c4,rfl,rfl,k3,k4⟩:=k2.split;have l1:v1.length=off:=by rw[k1.length];simp;omega
 have l3:v3.length=ds.length:=by rw[k3.length];simp;omega
 have e1:cs.toList.take off=v1:=by rw[Oq];exact lP l1
 have e4:cs.toList.drop (off+(a.eval y).cells.toList.length)=v4:=by
  rw[Oq,<-jR,jr l1,hl1];exact jr l3
 have hnew:gH w κ (v1++(a.eval y).cells.toList++v4) (cells.take off++ds++cells.drop (off+ds.length)) ((c1++b2)++c4):=by
  rw[jR]at k4;exact(k1.app hcs).app k4
 have RN:∀b∈((c1++b2)++c4),Θ b=0:=by
  intro b hb;simp only[aW]at hb;rcases hb with(hb|hb)|hb
  ·exact hz b (by simp[hb])
  ·exact WM b hb
  ·exact hz b (by simp[hb])
 obtain⟨h1,h2⟩:=gH.stay k (fun _ _ h=>h) hnew RN;refine⟨g,_,Tb,hk,setRow_heap w g cs _ Tb _ hgc,hΘ,_,?_,h2⟩;rw[e1,e4]at h1⊢;exact h1
theorem a0R{o:Oper}{T id off:Nat}{x y:Operand}{cells ds:aR}(hop:o.op=.store T x y)(hd:o.dst=none)(hg:o.guard=none)
 (hx:st.ev x=.ptr id off) {ob:Ob} (hH:st.H[id]?=some ob) (Dj:ob.Xe=some cells) (hc:(st.ev y).cellsOf=some ds) (hT:Wz P T=true) (hl:ds.length=Bp P T) (hfit:off+ds.length<=cells.length) (hkp:ob.Y2 off=true)
 (h:AO P Z all rest Q ⟨st.σ,st.H.set id (ob.re (cells.take off++ds++cells.drop (off+ds.length)))⟩):AO P Z all (o::rest) Q st:=by
 intro κ Θ a w hs;obtain⟨w',hrun,hs'⟩:=SB hop hx hH Dj hc hT hl hfit hkp hs;refine wpList_plain hg fun K hK=>?_
 unfold Oper.wp;rw[hrun,Oper.upon_skip,hd];exact hK _ _ (h _ _ _ _ hs')
end
def D.Up:D->Bool
 | .acc _=>false
 | .ptr _ _=>false
 | .op _ _ _ _=>false
 |_=>true
def tby(P:Program)(t:TypeId):Nat:=P.bytesOf t
theorem Ni{G:Type}{l:List G}{i:Nat}{x:G}(h:l[i]?=some x):∃p q,l=p++x::q/\p.length=i:=by
 have hlt:=(aN.1 h).1;have hx:=(aN.1 h).2;refine⟨l.take i,l.drop (i+1),?_,by simp;omega⟩;rw[<-hx,Ee,cc]
theorem OD{rows:List aR}{sz i off:Nat}{row ds:aR}(hrl:∀r∈rows,r.length=sz)(hr:rows[i]?=some row)(hfit:off+ds.length<=sz):
 (rows.set i (row.take off++ds++row.drop (off+ds.length))).flatten=rows.flatten.take (i*sz+off)++ds++rows.flatten.drop (i*sz+off+ds.length):=by
 obtain⟨p,q,rfl,rfl⟩:=Ni hr;have hrow:row.length=sz:=hrl row (by simp);have hp:p.flatten.length=p.length*sz:=rI (fun r hr=>hrl r (by simp[hr]));rw[oO _ _ (br _),qt,List.set_cons_zero];simp only[kR,iJ];rw[<-hp,List.take_length_add_append,nH,List.drop_length_add_append,List.take_append_of_le_length (by omega),List.drop_append_of_le_length (by omega)];simp only[dH]
theorem QO(z:Array Value)(n:Nat):(madeCells z (n*z.size)).toList=(List.replicate n z.toList).flatten:=by
 induction n with
 |zero=>simp[madeCells]
 |succ n ih=>
  rw[List.replicate_succ',kR,<-ih];apply qC;intro j;by_cases hz:z.size=0
  ·have:z= #[]:=Array.size_eq_zero_iff.1 hz;subst this;simp[madeCells]
  ·by_cases h1:j<n*z.size
   ·rw[bJ (by simpa[madeCells]using h1)];have h2:j<(n+1)*z.size:=by rw[oA];omega
    simp[madeCells,h1,h2]
   ·rw[bW (by simpa[madeCells]using h1)];by_cases h2:j<(n+1)*z.size
    ·rw[oA,rA]at h2;have hm:j%z.size=j-n*z.size:=by
      have hmc:=Eg z.size n;have e:j=(j-n*z.size)+z.size*n:=by omega
      conv=>lhs;rw[e]
      rw[Nat.add_mul_mod_self_left,Nat.mod_eq_of_lt (by omega)]
     have h3:j-n*z.size<z.size:=by omega
     have h2':j<(n+1)*z.size:=by rw[oA,rA];exact h2
     simp[madeCells,h2',hm,h3]
    ·rw[dU (by simp[madeCells];omega),dU];rw[oA,rA]at h2;simp[madeCells];omega
section
variable{P:Program}{Z:wV}{Q:Exit->St->Prop}{st:St}{κ:Nat->Option Value}{Θ:Nat->Nat}{a:Act}{w:World}{all:Array Oper}{rest:List Oper}
theorem gH.pure{vs:cG}{ds:aR}{bs:ah}(h:gH w κ vs ds bs)(hp:ds.all D.Up=true):oH w vs ds bs:=by
 induction ds generalizing vs bs with
 |nil=>cases h;exact .nil
 |cons d ds ih=>
  simp only[eD,aS]at hp;cases h with
  |cons v vs _ _ b1 b2 h1 h2 h3=>
   refine .cons _ _ _ _ _ _ h1 ?_ (ih h3 hp.2);cases h2 with
   |pure h=>exact h
   |acc=>simp[D.Up]at hp
   |ptr=>simp[D.Up]at hp
   |op=>simp[D.Up]at hp
theorem oH.rep{vs:cG}{ds:aR}(h:oH w vs ds [])(m:Nat):oH w (List.replicate m vs).flatten (List.replicate m ds).flatten []:=by
 induction m with
 |zero=>exact .nil
 |succ m ih=>
  simp only[List.replicate_succ,iJ];have:=h.app ih;simpa using this
def D.EV(d:D):D:=match d with
 | .nil=>.sl []
 |d=>d
theorem Rd.soft{v:Value}{d:D}{bs:ah}(h:Rd w v d bs):Rd w v d.EV bs:=by
 cases h with
 |nil=>exact .Af
 |any=>exact .any _
 |int _ _ h=>exact .int _ _ h
 |bool=>exact .bool _
 |str _ h=>exact .str _ h
 |val=>exact .val _
 |Af=>exact .Af
 |sA a cap h=>exact .sA a cap h
 |sl b off cap sz rows cs bs h0 h1 h2 h3 h4 h5=>exact .sl b off cap sz rows cs bs h0 h1 h2 h3 h4 h5
 |agg cs ds bs h=>exact .agg cs ds bs h
 |ep b off cs row o bs h0 h4 h5=>exact .ep b off cs row o bs h0 h4 h5
 |ZG=>exact .ZG
 |ZH t u=>exact .ZH t u
theorem oH.soft{vs:cG}{ds:aR}{bs:ah}(h:oH w vs ds bs):oH w vs (ds.map D.EV) bs:=by
 induction ds generalizing vs bs with
 |nil=>cases h;exact .nil
 |cons d ds ih=>cases h with|cons v vs _ _ b1 b2 h1 h2 h3=>exact .cons _ _ _ _ _ _ h1 h2.soft (ih h3)
def D.flat:D->Bool
 | .any=>true
 | .nil=>true
 | .int _ _=>true
 | .bool _=>true
 | .str _=>true
 | .val _=>true
 |_=>false
def Yj(H:bz)(d:D):Option (D×ah):=match d with
 | .acc m=>(match(H[m]?).bind Ob.Mk with|some (_,rows)=>some (.sl rows,[m])|none=>none)
 | .ptr _ _=>none
 | .op _ _ _ _=>none
 |d=>some (d.EV,[])
def LG(H:bz):aR->Option (aR×ah)
 | []=>some ([],[])
 |d::ds=>match Yj H d,LG H ds with|some (e,m),some (es,ms)=>some (e::es,m++ms)|_,_=>none
def uqC(H:bz)(d:D):Bool:=match d with
 | .acc m=>(match(H[m]?).bind Ob.Mk with|some (k,_)=>(match k with| .uq=>true|_=>false)|none=>false)
 |d=>d.flat
def zu(b:Bool):RK:=match b with|true=>.uq|false=>.sh
def Vy(H:bz)(t:Option (TypeId×Nat))(d:D):Bool:=match t with
 |none=>true
 |some t'=>(match d with
  | .acc m=>(match(H[m]?).bind Ob.tOf with|some t2=>t2.1==t'.1&&t2.2==t'.2|none=>false)
  | .nil=>Nat.blt 0 t'.2
  | .any=>true
  |_=>false)
def a4o(H:bz)(f:Nat->Option (TypeId×Nat)):Nat->aR->Bool
 |_,[]=>true
 |i,d::ds=>Vy H (f i) d&&a4o H f (i+1) ds
def YZ(e:Nat):Bool:=match OE e with|none=>true|some _=>false
theorem EW{e:Nat}(h:YZ e=true):OE e=none:=by
 unfold YZ at h;split at h
 ·assumption
 ·cases h
def Zx(H:bz)(e i:Nat)(ds:aR):Bool:=ds.all (uqC H)&&(match OE e with|none=>true|some _=>a4o H (vz e) i ds)
theorem Ob.Uy(u:Bool)(e:TypeId)(sz:Nat)(rows:List aR):(Ob.row (zu u) e sz rows).mvB=false:=by cases u<;>rfl
theorem Rd.flat{v:Value}{d:D}{bs:ah}(h:Rd w v d bs)(hf:d.flat=true):bs=[]:=by
 cases h<;>first|rfl|simp[D.flat]at hf
theorem U5{H:bz}{d e:D}{m:ah}(h:Yj H d=some (e,m)):
 (∃m0 o k rows,d=.acc m0/\H[m0]?=some o/\o.Mk=some (k,rows)/\e=.sl rows/\m=[m0])\/(d.Up=true/\(∀i,d≠ .acc i)/\e=d.EV/\m=[]):=by
 cases d with
 |acc m0=>
  simp only[Yj]at h;split at h
  ·rename_i k rows hH;simp only[bC,dG]at h;obtain⟨rfl,rfl⟩:=h;obtain⟨o,hH,ho⟩:=qD.1 hH;exact .inl ⟨m0,o,k,rows,rfl,hH,ho,rfl,rfl⟩
  ·cases h
 |ptr i o=>simp[Yj]at h
 |op i j s o=>simp[Yj]at h
 |_=>simp only[Yj,bC,dG]at h;obtain⟨rfl,rfl⟩:=h;exact .inr ⟨rfl,by simp,rfl,rfl⟩
theorem U6{H:bz}:∀ {ds es:aR} {ms:ah},LG H ds=some (es,ms)->∀m∈ms,∃o k rows,H[m]?=some o/\o.Mk=some (k,rows):=by
 intro ds
 induction ds with
 |nil=>intro es ms h;simp only[LG,bC,dG]at h;obtain⟨rfl,rfl⟩:=h;simp
 |cons d ds ih=>
  intro es ms h;simp only[LG]at h;split at h
  ·rename_i e m es' ms' h1 h2;simp only[bC,dG]at h;obtain⟨rfl,rfl⟩:=h;intro x hx;rcases aW.1 hx with hx|hx
   ·rcases U5 h1 with⟨m0,o,k,eO,rfl,hH,hk,rfl,rfl⟩|⟨_,_,_,rfl⟩
    ·simp at hx;subst hx;exact⟨o,k,_,hH,hk⟩
    ·simp at hx
   ·exact ih h2 x hx
  ·cases h
theorem a10{H:bz}{t':TypeId×Nat}{m:Nat}{o:Ob}(h:Vy H (some t') (.acc m)=true)(hH:H[m]?=some o):o.tOf=some t':=by
 simp only[Vy,hH,aA]at h;split at h
 ·rename_i t2 e;rw[e];simp only[aS,cr]at h;obtain⟨h1,h2⟩:=h;obtain⟨a1,a2⟩:=t2;obtain⟨c1,c2⟩:=t';simp only at h1 h2;rw[h1,h2]
 ·cases h
theorem a4n{H:bz}{t':TypeId×Nat}{d:D}{v:Value}{bs:ah}(h:Vy H (some t') d=true)(hna:∀i,d≠ .acc i)(hr:Rd w v d bs):Je w t' v d.EV bs:=by
 cases d with
 |acc i=>exact absurd rfl (hna i)
 |nil=>
  simp only[Vy]at h;cases hr;exact .inr ⟨[],[],[],rfl,eR Nat.zero_lt_one (by simpa[Nat.blt]using h),by simp,World.ownsRow_nil w 0 _ _,.nil,by simp[Value.ownBlock]⟩
 |any=>cases hr;exact .inl ⟨rfl,rfl⟩
 |_=>simp[Vy]at h
theorem a4L{H:bz}{ρ:Nat->Nat}{f:Nat->Option (TypeId×Nat)}:∀ {ds es:aR} {ms:ah} {vs:cG} {b0:ah} (i:Nat),LG H ds=some (es,ms)->ms.Nodup->gH w κ vs ds b0->(∀b∈b0,Θ b=0)->
 (∀m∈ms,∀o k rows,H[m]?=some o->o.Mk=some (k,rows)->Aq κ Θ ρ w m k rows o.tOf)->
 ∃bs,oH w vs es bs/\(∀b∈bs,Θ b=0)/\(ds.all (uqC H)=true->bs.Nodup/\∀b∈bs,∃m∈ms,ρ b=m+1)/\(a4o H f i ds=true->yl w f i vs es bs):=by
 intro ds
 induction ds with
 |nil=>
  intro es ms vs b0 i h _ hr _ _;simp only[LG,bC,dG]at h;obtain⟨rfl,rfl⟩:=h;cases hr;exact⟨[],.nil,by simp,by simp,fun _=>.nil _⟩
 |cons d ds ih=>
  intro es ms vs b0 i h hnd hr hz hm;simp only[LG]at h;split at h
  ·rename_i e m es' ms' h1 h2;simp only[bC,dG]at h;obtain⟨rfl,rfl⟩:=h;obtain⟨n1,n2,n3⟩:=cC.1 hnd;cases hr with
   |cons v vs _ _ b1 b2 hv hc hcs=>
    obtain⟨bs2,q1,q2,q3,q7⟩:=ih (i+1) h2 n2 hcs (fun b hb=>hz b (by simp[hb])) (fun x hx=>hm x (by simp[hx]));have one:∃bs1,Rd w v e bs1/\(∀b∈bs1,Θ b=0)/\(uqC H d=true->bs1.Nodup/\∀b∈bs1,∃x∈m,ρ b=x+1)/\(∀t,f i=some t->Vy H (f i) d=true->Je w t v e bs1):=by
     rcases U5 h1 with⟨m0,o,k,eO,rfl,hH,hk,rfl,rfl⟩|⟨hp,hna,rfl,rfl⟩
     ·obtain⟨v',bs,r1,r2,r3,r4,r7⟩:=hm m0 (by simp) o k eO hH hk;cases hc with
      |pure hc=>cases hc
      |acc _ _ hkv=>
       rw[hkv]at r1;cases r1;refine⟨bs,r2,r3,fun hq=>?_,fun t ht hf=>r7 t (a10 (by rwa[ht]at hf) hH)⟩;simp only[uqC,hH,aA,hk]at hq;split at hq
       ·obtain⟨r5,r6⟩:=r4 rfl;exact⟨r5,fun b hb=>⟨m0,by simp,r6 b hb⟩⟩
       ·cases hq
     ·have hrd:Rd w v d b1:=by
       cases hc with
       |pure hc=>exact hc
       |acc i _ _=>exact absurd rfl (hna i)
       |ptr i o _ _=>simp[D.Up]at hp
       |op i j s o _ _ _ _ _=>simp[D.Up]at hp
      refine⟨b1,hrd.soft,fun b hb=>hz b (by simp[hb]),fun hq=>?_,fun t ht hf=>a4n (by rwa[ht]at hf) hna hrd⟩;have hf:d.flat=true:=by
       unfold uqC at hq;split at hq
       ·exact absurd rfl (hna _)
       ·exact hq
      rw[hrd.flat hf];exact⟨by simp,by simp⟩
    obtain⟨bs1,p1,p2,p3,p7⟩:=one;refine⟨bs1++bs2,.cons _ _ _ _ _ _ hv p1 q1,fun b hb=>?_,fun hq=>?_,fun hf=>?_⟩
    ·rcases aW.1 hb with hb|hb
     ·exact p2 b hb
     ·exact q2 b hb
    ·simp only[eD,aS]at hq;obtain⟨p4,p5⟩:=p3 hq.1;obtain⟨q4,q5⟩:=q3 hq.2;refine⟨cC.2 ⟨p4,q4,fun x hx y hy exy=>?_⟩,fun b hb=>?_⟩
     ·subst exy;obtain⟨m1,hm1,e1⟩:=p5 x hx;obtain⟨m2,hm2,e2⟩:=q5 x hy;exact n3 m1 hm1 m2 hm2 (by omega)
     ·rcases aW.1 hb with hb|hb
      ·obtain⟨x,hx,ex⟩:=p5 b hb;exact⟨x,by simp[hx],ex⟩
      ·obtain⟨x,hx,ex⟩:=q5 b hb;exact⟨x,by simp[hx],ex⟩
    ·simp only[a4o,aS]at hf;exact .cons _ _ _ _ _ _ _ hv p1 (fun t ht=>p7 t ht hf.1) (q7 hf.2)
  ·cases h
theorem Vi{H:bz}{ρ:Nat->Nat}{ds es:aR}{ms:ah}{vs:cG}{b0:ah}(h:LG H ds=some (es,ms))(hnd:ms.Nodup)(hr:gH w κ vs ds b0)(hz:∀b∈b0,Θ b=0)
 (hm:∀m∈ms,∀o k rows,H[m]?=some o->o.Mk=some (k,rows)->Aq κ Θ ρ w m k rows o.tOf) (e i:Nat:=0):
 ∃bs,oH w vs es bs/\(∀b∈bs,Θ b=0)/\(Zx H e i ds=true->bs.Nodup/\(∀b∈bs,∃m∈ms,ρ b=m+1)/\yl w (vz e) i vs es bs):=by
 obtain⟨bs,q1,q2,q3,q4⟩:=a4L (f:=vz e) i h hnd hr hz hm;refine⟨bs,q1,q2,fun hq=>?_⟩;simp only[Zx,aS]at hq;obtain⟨p1,p2⟩:=q3 hq.1;refine⟨p1,p2,?_⟩;have h2:=hq.2;split at h2
 ·rename_i hn;exact .of q1 (zj hn)
 ·exact q4 h2
theorem yl.over{w':World}{Θ':Nat->Nat}{tag i:Nat}{f:Nat->Option (TypeId×Nat)}{vs:cG}{ds:aR}{bs:ah}(h:yl w f i vs ds bs)(k:jy w w' Θ Θ' tag)(hz:∀b∈bs,Θ b=0):yl w' f i vs ds bs:=by
 have:=k.two;exact h.keep fun b hb=>k.block b (h.lt b hb) (by rw[hz b hb];omega)
theorem fE.put(hs:fE Z st κ Θ a w){H':bz}{κ':Nat->Option Value}{Θ' ρ:Nat->Nat}{w':World}{id:Nat}{o:Ob}(ms:ah)
 (key:∀(j:Nat) x,H'[j]?=some x->(j=id/\x=o)\/(j≠id/\st.H[j]?=some x)) (hn:∀(j:Nat) v,κ j=some v->κ' j=some v)
 (hko:∀i,H'.length<=i->κ' i=none) (hk1:∀(i:Nat) u,κ' i=some u->u.oneCell'=true) (k:jy w w' Θ Θ' (id+2)) (hm:∀b,2<=Θ' b->Bu Z b) (ho:yj w' κ' Θ' id o)
 (hu:Bw Z st.H κ Θ w ρ) (Q7:∀m∈ms,∀x,m≠id->st.H[m]?=some x->x.Zw=false)
 (hq:∀e sz rows,o=.row .uq e sz rows->∃v cs bs,κ' id=some v/\w'.ownsRow 0 e sz v rows.length cs/\yl w' (vz e) 0 cs rows.flatten bs/\bs.Nodup/\∀b∈bs,ρ b=id+1\/∃m∈ms,ρ b=m+1)
 (hmv:o.mvB=false:=by first|rfl|exact Ob.Uy _ _ _ _):
 fE Z ⟨st.σ,H'⟩ κ' Θ' a w':=by
 have wo:=hs.tH k hn hu;let ρ':Nat->Nat:=fun b=>if ms.any (fun m=>ρ b==m+1)then id+1 else ρ b
 have aFj:∀b,ρ' b≠0->ρ b≠0:=by
  intro b hb h0;simp only[ρ',h0]at hb;split at hb
  ·rename_i h;obtain⟨m,_,hm⟩:=ed.1 h;simp at hm
  ·exact hb rfl
 refine hs.step k hm hn hko hk1 ?_ ⟨ρ',fun b hb=>wo.1 b (aFj b hb),?_,?_⟩
 ·intro j x hj;rcases key j x hj with⟨rfl,rfl⟩|⟨h1,h2⟩
  ·exact .inr (.inr ho)
  ·exact .inr (.inl ⟨by omega,h2⟩)
 ·intro j e sz rows hj;rcases key j _ hj with⟨rfl,ho'⟩|⟨h1,h2⟩
  ·obtain⟨v,cs,bs,q1,q2,q3,q4,q5⟩:=hq e sz rows ho'.symm;refine⟨v,cs,bs,q1,q2,q3,q4,fun b hb=>?_⟩;simp only[ρ'];split
   ·rfl
   ·rename_i hno;rcases q5 b hb with h|⟨m,hm1,hm2⟩
    ·exact h
    ·exact absurd (ed.2 ⟨m,hm1,by simp[hm2]⟩) hno
  ·obtain⟨v,cs,bs,q1,q2,q3,q4,q5⟩:=wo.2.1 j e sz rows (by omega) h2;refine⟨v,cs,bs,q1,q2,q3,q4,fun b hb=>?_⟩;simp only[ρ'];rw[bE]
   ·exact q5 b hb
   ·intro h;obtain⟨m,hm1,hm2⟩:=ed.1 h;simp only[q5 b hb,cr]at hm2;have:j=m:=by omega
    subst this;have:=Q7 j hm1 _ h1 h2;simp[Ob.Zw]at this
 ·intro j x hj;rcases key j _ hj with⟨rfl,rfl⟩|⟨h1,h2⟩
  ·exact R8.I8 hmv
  ·by_cases hx:x.Zw=false
   ·exact R8.plain hx
   ·refine(wo.2.2 j x (by omega) h2).re fun b hb=>?_
    simp only[ρ'];rw[bE]
    ·exact hb
    ·intro h;obtain⟨m,hm1,hm2⟩:=ed.1 h;simp only[hb,cr]at hm2;have:j=m:=by omega
     subst this;exact hx (Q7 j hm1 _ h1 h2)
theorem ER{H:bz}{o:Ob}:∀(j:Nat) x,(H++[o])[j]?=some x->(j=H.length/\x=o)\/(j≠H.length/\H[j]?=some x):=by
 intro j x hj;by_cases hlt:j<H.length
 ·rw[bJ hlt]at hj;exact .inr ⟨by omega,hj⟩
 ·have hj':=(aN.1 hj).1;simp only[bB,aQ,cE]at hj';have e:j=H.length:=by omega
  subst e;rw[bW (br _)]at hj;simp at hj;exact .inl ⟨rfl,hj.symm⟩
theorem IS{H:bz}{o:Ob}{id:Nat}:∀(j:Nat) x,(H.set id o)[j]?=some x->(j=id/\x=o)\/(j≠id/\H[j]?=some x):=by
 intro j x hj;by_cases e:id=j
 ·subst e;have hlt:id<H.length:=by
   have:=(aN.1 hj).1;simpa using this
  rw[eX hlt]at hj;cases hj;exact .inl ⟨rfl,rfl⟩
 ·rw[cz e]at hj;exact .inr ⟨fun h=>e h.symm,hj⟩
theorem fE.newRow(hs:fE Z st κ Θ a w){ρ:Nat->Nat}(hu:Bw Z st.H κ Θ w ρ){u:Bool}{ms:ah}{e sz cap:Nat}{rows:List aR}{bs:ah}(cur:Array Value)(hsz:0<sz)(hrl:∀r∈rows,r.length=sz)
 (W8:cur.size=cap*sz) (hn:rows.length<=cap) (hcap:cap<=maxLen) (hr:oH w (cur.toList.take (rows.length*sz)) rows.flatten bs) (hz:∀b∈bs,Θ b=0)
 (Q7:∀m∈ms,∀x,st.H[m]?=some x->x.Zw=false) (hq:u=true->bs.Nodup/\(∀b∈bs,∃m∈ms,ρ b=m+1)/\yl w (vz e) 0 (cur.toList.take (rows.length*sz)) rows.flatten bs):
 fE Z ⟨st.σ,st.H++[.row (zu u) e sz rows]⟩ (Al κ st.H.length (some (.slice (some ⟨w.heap.size,0,none⟩) rows.length cap))) (fun b=>if b=w.heap.size then st.H.length+2 else Θ b) a (w.alloc (.cells cur e)):=by
 have k:=jy.alloc hs (.cells cur e) (tag:=st.H.length+2) (by omega);obtain⟨h1,h2⟩:=oH.over k hr hz;have hlen:(cur.toList.take (rows.length*sz)).length=rows.length*sz:=by
  have:rows.length*sz<=cap*sz:=fN _ hn;have h3:cur.toList.length=cap*sz:=by rw[<-W8];simp
  rw[cU,h3,jt this]
 have hown:(w.alloc (.cells cur e)).ownsRow 0 e sz (.slice (some ⟨w.heap.size,0,none⟩) rows.length cap) rows.length (cur.toList.take (rows.length*sz)):=
  ⟨hlen,.inr ⟨w.heap.size,cap,cur,rfl,by omega,heap_alloc_new w _,hn,hcap,W8,rfl⟩⟩
 refine hs.put ms ER (AD (hs.uY _ (br _)) _) ?_ ?_ k (hs.Bl (fun b hb=>by by_cases e:b=w.heap.size<;>simp_all)) ?_ hu (fun m hm x _=>Q7 m hm x) ?_
 ·intro i hi;simp only[bB,aQ,cE]at hi;unfold Al;rw[bE (by omega)];exact hs.uY i (by omega)
 ·intro i x hx;unfold Al at hx;split at hx
  ·cases hx;rfl
  ·exact hs.tF i x hx
 ·refine⟨hsz,hrl,_,_,bs,by simp[Al],hown,h1,?_,?_⟩
  ·intro g hg;simp only[Value.ownBlock,bC]at hg;subst hg;simp
  ·cases u<;>exact h2
 ·intro e' sz' eO he;cases u with
  |false=>simp[zu]at he
  |true=>
   simp only[zu,Ob.row.injEq,AG]at he;obtain⟨rfl,rfl,rfl⟩:=he;obtain⟨q1,q2,q3⟩:=hq rfl;exact⟨_,_,bs,by simp[Al],hown,q3.over k hz,q1,fun b hb=>.inr (q2 b hb)⟩
theorem SO{o:Oper}{T e sz t:Nat}{x y:Operand}{k k':IntKind}{n:Int}{zs:aR}(hop:o.op=.makeSlice T x y)(hd:o.dst=some t)(hg:o.guard=none)(ht:t<Z.nt)
 (hT:Mm P T=some (e,sz)) (hz:tz P e=some zs) (hsz:0<sz) (hx:st.ev x=.int k n) (hy:st.ev y=.int k' n) (h0:0<=n) (hroom:tby P e*n.toNat<=281474976710656) (Q6:n.toNat<=4611686018427387904)
 (h:AO P Z all rest Q ⟨(t,.acc st.H.length)::st.σ,st.H++[.row (zu (YZ e)) e sz (List.replicate n.toNat (zs.map D.EV))]⟩):AO P Z all (o::rest) Q st:=by
 intro κ Θ a w hs;obtain⟨b1,r1,_⟩:=hs.ev x;obtain⟨b2,r2,_⟩:=hs.ev y;rw[hx]at r1;rw[hy]at r2;have e1:=r1.tr;have e2:=r2.tr;obtain⟨hu,_,Oo⟩:=uV hT;obtain⟨i,z,hi,Aj,T0,hlen,hone,rfl⟩:=A5 hz;have FG:i.size=sz:=by rw[<-Oo];simp[Bp,Program.cellsOf,hi]
 have hby:i.bytes=tby P e:=by simp[tby,Program.bytesOf,hi]
 obtain⟨m,rfl⟩:=qB h0;simp only[kx]at hroom Q6 h;have hrun:=run_make (P:=P) w T e i z hu hi Aj k k' m m (by omega) (by omega) (by rw[hby];have:=Int.ofNat_le.2 hroom;rw[Int.natCast_mul]at this;exact this) (by omega);simp only[kx]at hrun;rw[<-T0]at hrun;have a1E:=QO z.cells m;obtain⟨ρ,huq⟩:=hs.vo;have hrr:oH w ((madeCells z.cells (m*z.cells.size)).toList.take ((List.replicate m ((z.cells.toList.map D.V7).map D.EV)).length*sz)) (List.replicate m ((z.cells.toList.map D.V7).map D.EV)).flatten []:=by
  rw[Fl,k8 (by simp[size_madeCells,T0,FG]),a1E];have hcell:=(EQ (w:=w) (κ:=κ) z.cells.toList hone).pure (by
   rw[Ec,b8];intro c _;simp only[Function.comp];unfold D.V7;split<;>(try split)<;>rfl)
  exact hcell.soft.rep m
 have hs':=hs.newRow huq (u:=YZ e) (ms:=[]) (e:=e) (sz:=sz) (cap:=m) (rows:=List.replicate m ((z.cells.toList.map D.V7).map D.EV)) (bs:=[]) (madeCells z.cells (m*z.cells.size)) hsz
  (by intro r hr;rw[DK hr];simp[T0,FG]) (by rw[size_madeCells,T0,FG]) (by simp) (by unfold maxLen;omega)
  hrr (by simp) (by simp) (fun hq=>⟨by simp,by simp,.of hrr (zj (EW hq))⟩)
 refine wpList_plain hg fun K hK=>?_
 unfold Oper.wp;have Uh:(execOp a.eval o).run P w=.ok (.value (.slice (some ⟨w.heap.size,0,none⟩) m m)) (w.alloc (.cells (madeCells z.cells (m*z.cells.size)) e)):=by
  simp only[execOp,hop,e1,e2];simp[hrun]
 rw[Uh,Oper.upon_value,hd];simp only[Fl]at hs';refine hK _ _ (h _ _ _ _ (hs'.set (t:=t) (d:=.acc st.H.length) (bs:=[]) ht ?_ (by simp)));exact(Bf.acc st.H.length _ (by simp[Al])).Tv
def vY(len sz:Nat):List (Nat×Nat):=(List.range len).map fun i=>(i*sz,sz)
def chunk(sz:Nat):Nat->aR->List aR
 |0,_=>[]
 |n+1,ds=>ds.take sz::chunk sz n (ds.drop sz)
theorem Gq(sz:Nat):∀(n:Nat) (ds:aR),ds.length=n*sz->(chunk sz n ds).length=n/\(chunk sz n ds).flatten=ds/\∀r∈chunk sz n ds,r.length=sz:=by
 intro n
 induction n with
 |zero=>intro ds h;simp at h;subst h;simp[chunk]
 |succ n ih=>
  intro ds h;rw[oA,rA]at h;obtain⟨h1,h2,h3⟩:=ih (ds.drop sz) (by rw[mM];omega);refine⟨by simp[chunk,h1],by simp[chunk,h2],fun r hr=>?_⟩;rcases bV.1 hr with rfl|hr
  ·rw[cU];omega
  ·exact h3 r hr
theorem Vx{len sz:Nat}:∀(parts:List (Nat×Value)) (cs arr:Array Value),Instr.fill ((vY len sz).toArray[·]?) cs parts=some arr->Instr.fill (fun i=>some (i*sz,sz)) cs parts=some arr:=by
 intro parts
 induction parts with
 |nil=>intro cs arr h;exact h
 |cons p parts ih=>
  intro cs arr h;obtain⟨i,v⟩:=p;simp only[Instr.fill]at h⊢;split at h
  ·cases h
  ·rename_i off size hp;have e:(off,size)=(i*sz,sz):=by
    simp only[vY,lD,cR]at hp;cases hr:(List.range len)[i]? with
    |none=>simp[hr]at hp
    |some j=>
     have hj:=(aN.1 hr)
     simp only[hr,dM,bC]at hp;have:j=i:=by have:=hj.2;simp at this;omega
     rw[<-hp,this]
   cases e;split at h
   ·cases h
   ·rename_i hc;rw[bE hc];exact ih _ _ h
theorem TS{places:List (Nat×Nat)}:∀(ps:List (Nat×D)) (cells ds:aR),Ad places cells ps=some ds->ds.length=cells.length:=by
 intro ps
 induction ps with
 |nil=>intro cells ds h;simp only[Ad,bC]at h;rw[h]
 |cons p ps ih=>
  intro cells ds h;obtain⟨i,d⟩:=p;simp only[Ad]at h;split at h
  ·split at h
   ·rename_i hc;rw[ih _ _ h];simp;omega
   ·cases h
  ·cases h
theorem By{o:Oper}{T e sz len:Nat}{parts:Array (Nat×Operand)}{zs ds:aR}(hop:o.op=.buildSlice T len parts)
 (hT:Mm P T=some (e,sz)) (hz:tz P e=some zs) (hsz:0<sz) (hsmall:len*sz<=16777216)
 (hf:Ad (vY len sz) (List.replicate len zs).flatten (parts.toList.map fun p=>(p.1,st.ev p.2))=some ds) (hs:fE Z st κ Θ a w):
 ∃(arr:Array Value) (b0:ah),(execOp a.eval o).run P w=.ok (.value (.slice (some ⟨w.heap.size,0,none⟩) len len)) (w.alloc (.cells arr e))/\gH w κ arr.toList ds b0/\(∀b∈b0,Θ b=0)/\arr.size=len*sz/\ds.length=len*sz:=by
 obtain⟨hu,_,Oo⟩:=uV hT;obtain⟨i,z,hi,Aj,T0,hlen,hone,rfl⟩:=A5 hz;have FG:i.size=sz:=by rw[<-Oo];simp[Bp,Program.cellsOf,hi]
 have a1E:=QO z.cells len;have hzero:gH w κ (madeCells z.cells (len*z.cells.size)).toList (List.replicate len (z.cells.toList.map D.V7)).flatten []:=by
  rw[a1E];have hcell:=(EQ (w:=w) (κ:=κ) z.cells.toList hone).pure (by
   rw[Ec,b8];intro c _;simp only[Function.comp];unfold D.V7;split<;>(try split)<;>rfl)
  exact gH.Fc (hcell.rep len)
 obtain⟨arr,b0,aAc,RG,hb0⟩:=Xi hs parts.toList _ _ ds [] hzero (by simp) hf;have W9:=Vx _ _ _ aAc;have hdl:ds.length=len*sz:=by
  rw[TS _ _ _ hf,rI (sz:=sz) (by intro r hr;rw[DK hr];simp[T0,FG])];simp
 have hal:arr.size=len*sz:=by have:=RG.length;simp at this;omega
 refine⟨arr,b0,?_,RG,hb0,hal,hdl⟩;simp only[execOp,hop];by_cases h0:len*i.size=0
 ·have hl0:len=0:=by
   rw[FG]at h0;rcases Nat.mul_eq_zero.1 h0 with h|h
   ·exact h
   ·omega
  subst hl0;have hma:madeCells z.cells (0*z.cells.size)= #[]:=by simp[madeCells]
  rw[hma]at W9;have hpe:(parts.map fun(x:Nat×Operand)=>(x.1,a.eval x.2)).toList=parts.toList.map fun p=>(p.1,a.eval p.2):=by simp
  have hf2:=W9;rw[<-hpe,<-FG]at hf2;simp at hf2;have hr0:Array.range 0= #[]:=rfl;simp[Instr.buildSlice,run_underlying hu,sizeOf,typeInfo,hi,newRow,hr0,hf2]
 ·have hpe:(parts.map fun(x:Nat×Operand)=>(x.1,a.eval x.2)).toList=parts.toList.map fun p=>(p.1,a.eval p.2):=by simp
  have:=run_buildSlice (P:=P) w T e len (parts.map fun(x:Nat×Operand)=>(x.1,a.eval x.2)) arr i z hu hi Aj (by rw[FG];omega) h0 (by
   rw[hpe,FG];have e2:(Array.range (len*sz)).map (z.cells[· %z.cells.size]!)=madeCells z.cells (len*z.cells.size):=by unfold madeCells;rw[T0,FG]
   rw[e2];exact W9)
  simp[this]
theorem R5{o:Oper}{T e sz len t:Nat}{parts:Array (Nat×Operand)}{zs ds es:aR}{ms:ah}(hop:o.op=.buildSlice T len parts)(hd:o.dst=some t)(hg:o.guard=none)(ht:t<Z.nt)
 (hT:Mm P T=some (e,sz)) (hz:tz P e=some zs) (hsz:0<sz) (hsmall:len*sz<=16777216)
 (hf:Ad (vY len sz) (List.replicate len zs).flatten (parts.toList.map fun p=>(p.1,st.ev p.2))=some ds) (habs:LG st.H ds=some (es,ms)) (hnd:ms.Nodup)
 (h:AO P Z all rest Q ⟨(t,.acc st.H.length)::st.σ,kill st.H ms++[.row (zu (Zx st.H e 0 ds)) e sz (chunk sz len es)]⟩):AO P Z all (o::rest) Q st:=by
 intro κ Θ a w hs;obtain⟨arr,b0,hrun,RG,hb0,hal,hdl⟩:=By hop hT hz hsz hsmall hf hs;obtain⟨ρ,huq⟩:=hs.vo;obtain⟨Θ1,ρ1,hs1,hu1,hm1,RO,ZC⟩:=fE.Ux ms hs huq hnd (U6 habs);obtain⟨bs,q1,q2,q3⟩:=Vi (H:=st.H) (ρ:=ρ1) habs hnd RG (fun b hb=>RO b (hb0 b hb)) hm1 e 0;have hel:es.length=len*sz:=by rw[<-q1.length,RG.length,hdl]
 obtain⟨c1,c2,c3⟩:=Gq sz len es hel;have hs':=hs1.newRow hu1 (u:=Zx st.H e 0 ds) (ms:=ms) (e:=e) (sz:=sz) (cap:=len) (rows:=chunk sz len es) (bs:=bs) arr hsz c3 hal (by rw[c1];exact br _)
  (by unfold maxLen;have:len*1<=len*sz:=dY _ hsz;omega) (by rw[c1,c2,k8 (by simp[hal])];exact q1) q2
  (by
   intro m hm x hH;rcases qo hH with h|⟨h,_⟩
   ·subst h;rfl
   ·exact absurd hm h) (fun hq=>⟨(q3 hq).1,(q3 hq).2.1,by rw[c1,c2,k8 (by simp[hal])];exact(q3 hq).2.2⟩)
 refine wpList_plain hg fun K hK=>?_
 unfold Oper.wp;rw[hrun,Oper.upon_value,hd];rw[c1,iU]at hs';refine hK _ _ (h _ _ _ _ (hs'.set (t:=t) (d:=.acc st.H.length) (bs:=[]) ht ?_ (by simp)));exact(Bf.acc st.H.length _ (by simp[Al])).Tv
end
section
variable{P:Program}{Z:wV}{Q:Exit->St->Prop}{st:St}{κ:Nat->Option Value}{Θ:Nat->Nat}{a:Act}{w:World}{all:Array Oper}{rest:List Oper}
theorem Ow(w:World)(t ty e:TypeId)(i:TypeInfo)(ht:P.underlying t=some (.slice e))(hi:P.info? e=some i)(b:Option Addr)(n cap:Nat)(hn:n<=cap):
 (Builtin.append_ #[t,t] ty #[.slice b n cap,.slice none 0 0]).run P w=.ok (.slice b n cap) w:=by
 cases b<;>simp[Builtin.append_,run_underlying ht,sizeOf,typeInfo,hi,Builtin.lenOf,Builtin.firstCells,hn,storeCells]
structure a0U(w:World)(Θ ρ:Nat->Nat)(e sz:Nat)(v:Value)(rows:List (List D))(u1:Bool)(i1:Nat)(bs:List Nat)(cs:List Value):Prop where
 rl:∀r∈rows,r.length=sz
 own:w.ownsRow 0 e sz v rows.length cs
 rd:oH w cs rows.flatten bs
 zero:∀b∈bs,Θ b=0
 top:∀g,v.ownBlock=some g->Θ g=i1+2
 uq:u1=true->bs.Nodup/\∀b∈bs,ρ b=i1+1
 ful:u1=true->yl w (vz e) 0 cs rows.flatten bs
structure SR(w:World)(Θ ρ:Nat->Nat)(e sz:Nat)(u:Value)(rows:List (List D))(u2:Bool)(i2:Nat)(bs:List Nat)(cs:List Value):Prop where
 rl:∀r∈rows,r.length=sz
 at_:(u=.slice none 0 0/\rows=[])\/∃ad c,u=.slice (some ad) rows.length c/\∀j x,cs[j]?=some x->w.cell? (ad.add j)=some x
 rd:oH w cs rows.flatten bs
 zero:∀b∈bs,Θ b=0
 uq:u2=true->bs.Nodup/\∀b∈bs,ρ b=i2+1
 ful:u2=true->yl w (vz e) 0 cs rows.flatten bs
theorem Vl{T e sz i1 i2:Nat}{v u:Value}{rows gA:List aR}{u1 u2:Bool}{b1 b2:ah}{c1 c2:cG}{ρ:Nat->Nat}{zs:aR}{ty:TypeId}(hT:Mm P T=some (e,sz))(hz:tz P e=some zs)(hsz:0<sz)
 (hS:a0U w Θ ρ e sz v rows u1 i1 b1 c1) (hX:SR w Θ ρ e sz u gA u2 i2 b2 c2) (h63:rows.length+gA.length<=maxLen) (hby:(rows.length+gA.length)*tby P e<=140737488355328):
 ∃v' w',(Builtin.append_ #[T,T] ty #[v,u]).run P w=.ok v' w'/\w'.ownsRow 0 e sz v' (rows++gA).length (c1++c2)/\w.grownBy w' v.ownBlock/\(v'.ownBlock=v.ownBlock\/v'.ownBlock=some w.heap.size)/\
  oH w (c1++c2) (rows++gA).flatten (b1++b2):=by
 obtain⟨hu,_,Oo⟩:=uV hT;obtain⟨i,z,hi,Aj,T0,hlen,hone,rfl⟩:=A5 hz;have FG:i.size=sz:=by rw[<-Oo];simp[Bp,Program.cellsOf,hi]
 have hib:i.bytes=tby P e:=by simp[tby,Program.bytesOf,hi]
 have hr:oH w (c1++c2) (rows++gA).flatten (b1++b2):=by rw[kR];exact hS.rd.app hX.rd
 have CP:c2.length=gA.length*sz:=by rw[hX.rd.length,rI hX.rl]
 rcases hX.at_ with⟨rfl,rfl⟩|⟨ad,c,rfl,hcell⟩
 ·have hc:c2=[]:=dJ (by simpa using CP);subst hc;have hv:∃b n cap,v=.slice b n cap/\n<=cap:=by
   rcases hS.own.2 with⟨rfl,_⟩|⟨g,cap,cur,rfl,_,_,hn,_⟩
   ·exact⟨_,_,_,rfl,br _⟩
   ·exact⟨_,_,_,rfl,hn⟩
  obtain⟨b,n,cap,rfl,hn⟩:=hv;exact⟨_,w,Ow w T ty e i hu hi b n cap hn,by simpa using hS.own,⟨rfl,rfl,rfl,br _,fun _ _ _=>rfl⟩,.inl rfl,hr⟩
 ·obtain⟨v',w',q1,q2,q3,_,q5⟩:=run_append_own_at (P:=P) w 0 T ty e i z sz (tby P e) hu hi Aj FG hib (by rw[T0,FG]) hsz v rows.length c1 hS.own ad gA.length c c2 CP hcell hX.rd.one h63 hby (Gh _);exact⟨v',w',q1,by simpa using q2,q3,q5,hr⟩
theorem Ye{o:Oper}{T e sz t:Nat}{s x:Operand}{rows gA:List aR}{zs:aR}{u:Bool}{ks:ah}(hop:o.op=.call {callee:=.builtin .append,args:= #[s,x],argTypes:= #[T,T]})
 (hd:o.dst=some t) (hg:o.guard=none) (ht:t<Z.nt) (hT:Mm P T=some (e,sz)) (hz:tz P e=some zs) (hsz:0<sz)
 (h63:rows.length+gA.length<=maxLen) (hby:(rows.length+gA.length)*tby P e<=140737488355328)
 (hin:∀κ Θ a w ρ,fE Z st κ Θ a w->Bw Z st.H κ Θ w ρ->∃u1 u2 i1 i2 b1 b2 c1 c2,a0U w Θ ρ e sz (a.eval s) rows u1 i1 b1 c1/\SR w Θ ρ e sz (a.eval x) gA u2 i2 b2 c2/\
  (i1∈ks\/i1=st.H.length)/\(u=true->u1=true/\u2=true/\(b2=[]\/(i2∈ks/\i1≠i2))/\Z2 e sz=true))
 (h:AO P Z all rest Q ⟨(t,.acc st.H.length)::st.σ,kill st.H ks++[.row (zu u) e sz (rows++gA)]⟩):AO P Z all (o::rest) Q st:=by
 intro κ Θ a w hs;obtain⟨ρ,hu⟩:=hs.vo;obtain⟨u1,u2,i1,i2,b1,b2,c1,c2,hS,hX,hi1,hq⟩:=hin κ Θ a w ρ hs hu;obtain⟨v',w',hrun,hown,hgr,PC,hrd⟩:=Vl (P:=P) (ty:=o.type) hT hz hsz hS hX h63 hby;refine wpList_plain hg fun K hK=>?_
 have Uh:(execOp a.eval o).run P w=.ok (.value v') w':=by
  simp only[execOp,hop,resolve,invoke,builtin,Sem.run_bind,Sem.run_pure,Result.andThen_ok,u7,bA,cF,hrun]
 unfold Oper.wp;rw[Uh,Oper.upon_value,hd];let id:=st.H.length
 let Θ':Nat->Nat:=fun b=>if some b=v'.ownBlock then id+2 else Θ b
 have hvt:∀g,v'.ownBlock=some g->Θ g=i1+2\/g=w.heap.size:=by
  intro g Z6;rcases PC with h|h
  ·exact .inl (hS.top g (h▸Z6))
  ·rw[h]at Z6;cases Z6;exact .inr rfl
 have hnew:Θ w.heap.size=0:=by
  cases h0:Θ w.heap.size with
  |zero=>rfl
  |succ n=>exact absurd (hs.own w.heap.size (by omega)) (by omega)
 have k:jy w w' Θ Θ' (i1+2):=by
  refine⟨by omega,hgr.os,hgr.tape,hgr.output,hgr.size,fun b hb hne=>hgr.block b hb (fun e=>hne (hS.top b e.symm)),fun b hb hne=>?_,fun b hb=>?_⟩
  ·simp only[Θ'];rw[bE];intro e;rcases hvt b e.symm with h|h
   ·exact hne h
   ·omega
  ·simp only[Θ']at hb;split at hb
   ·rename_i e;exact(hown.lt b e.symm).2
   ·exact eR (hs.own b hb) hgr.size
 have hm:∀b,2<=Θ' b->Bu Z b:=by
  intro b hb;simp only[Θ']at hb;split at hb
  ·rename_i e;rcases hvt b e.symm with h|h
   ·exact hs.mine b (by omega)
   ·exact .inl (by rw[h];exact hs.base)
  ·exact hs.mine b hb
 have hn:=AD (hs.uY id (br _)) (some v');have hv1:v'.oneCell'=true:=by
  rcases hown.2 with⟨rfl,_⟩|⟨g,cap,cur,rfl,_⟩<;>rfl
 have Aj:∀b∈b1++b2,Θ b=0:=by
  intro b hb;rcases aW.1 hb with hb|hb
  ·exact hS.zero b hb
  ·exact hX.zero b hb
 obtain⟨RM,RN⟩:=oH.over k hrd Aj;have hrl:∀r∈rows++gA,r.length=sz:=by
  intro r hr;rcases aW.1 hr with hr|hr
  ·exact hS.rl r hr
  ·exact hX.rl r hr
 have Hz:∀g,v'.ownBlock=some g->Θ' g=id+2:=fun g Z6=>by simp only[Θ'];rw[bP Z6.symm]
 have key:∀(j:Nat) y,(kill st.H ks++[.row (zu u) e sz (rows++gA)])[j]?=some y->(j=id/\y=.row (zu u) e sz (rows++gA))\/(j≠id/\(y=.gone\/(j∉ks/\st.H[j]?=some y))):=by
  intro j y hj;rcases ER j y hj with⟨h1,h2⟩|⟨h1,h2⟩
  ·rw[iU]at h1;exact .inl ⟨h1,h2⟩
  ·rw[iU]at h1;exact .inr ⟨h1,qo h2⟩
 have hne:∀(j:Nat) y,j∉ks->st.H[j]?=some y->j+2≠i1+2:=by
  intro j y hj hy;have:=(aN.1 hy).1;rcases hi1 with h|h
  ·intro e;exact hj (by
    have:j=i1:=by omega
    rw[this];exact h)
  ·omega
 have wo:=hs.tH k hn hu;let ρ':Nat->Nat:=fun b=>if u=true/\(b∈b1\/b∈b2)then id+1 else ρ b
 have hold:∀(j:Nat) y,j∉ks->st.H[j]?=some y->∀b,ρ b=j+1->ρ' b=j+1:=by
  intro j y hjk hy b hb;simp only[ρ'];rw[bE]
  ·exact hb
  ·rintro⟨ze,hmem⟩;obtain⟨p1,p2,p3,_⟩:=hq ze;rcases hmem with h|h
   ·have:=(hS.uq p1).2 b h;exact hne j _ hjk hy (by omega)
   ·have:=(hX.uq p2).2 b h;rcases p3 with h0|⟨h0,_⟩
    ·rw[h0]at h;cases h
    ·have:j=i2:=by omega
     subst this;exact hjk h0
 have hU:Bw Z (kill st.H ks++[.row (zu u) e sz (rows++gA)]) (Al κ id (some v')) Θ' w' ρ':=by
  refine⟨fun b hb=>?_,fun j e' sz' eO hj=>?_,fun j x hj=>?_⟩
  ·simp only[ρ']at hb;split at hb
   ·rename_i hc;obtain⟨ze,hmem⟩:=hc;obtain⟨q1,q2,q3,_⟩:=hq ze;rcases hmem with h|h
    ·exact wo.1 b (by rw[(hS.uq q1).2 b h];omega)
    ·exact wo.1 b (by rw[(hX.uq q2).2 b h];omega)
   ·exact wo.1 b hb
  ·rcases key j _ hj with⟨rfl,hy⟩|⟨_,hy|⟨hjk,hy⟩⟩
   ·cases ze:u with
    |false=>rw[ze]at hy;simp[zu]at hy
    |true=>
     rw[ze]at hy;simp only[zu,Ob.row.injEq,AG]at hy;obtain⟨rfl,rfl,rfl⟩:=hy;obtain⟨q1,q2,q3,q8⟩:=hq ze;have hF:yl w (vz e') 0 (c1++c2) (rows++gA).flatten (b1++b2):=by
      rw[kR];refine(hS.ful q1).app ?_;rw[rI hS.rl];exact(hX.ful q2).rows q8
     refine⟨v',c1++c2,b1++b2,ng _ _ _,hown,hF.over k Aj,?_,fun b hb=>?_⟩
     ·obtain⟨n1,r1⟩:=hS.uq q1;obtain⟨n2,r2⟩:=hX.uq q2;refine cC.2 ⟨n1,n2,fun y hy z hz hyz=>?_⟩;subst hyz;rcases q3 with h|⟨_,h⟩
      ·rw[h]at hz;cases hz
      ·have:=r1 y hy;have:=r2 y hz;omega
     ·simp only[ρ'];rw[bP ⟨ze,aW.1 hb⟩]
   ·cases hy
   ·obtain⟨v2,cs,bs,q1,q2,q3,q4,q5⟩:=wo.2.1 j e' sz' eO (hne j _ hjk hy) hy;exact⟨v2,cs,bs,q1,q2,q3,q4,fun b hb=>hold j _ hjk hy b (q5 b hb)⟩
  ·rcases key j _ hj with⟨rfl,hy⟩|⟨_,hy|⟨hjk,hy⟩⟩
   ·subst hy;exact R8.I8 (Ob.Uy _ _ _ _)
   ·subst hy;trivial
   ·exact(wo.2.2 j x (hne j _ hjk hy) hy).re fun b hb=>hold j _ hjk hy b hb
 have hs':fE Z ⟨st.σ,kill st.H ks++[.row (zu u) e sz (rows++gA)]⟩ (Al κ id (some v')) Θ' a w':=by
  refine hs.step k hm hn ?_ ?_ ?_ ⟨ρ',hU⟩
  ·intro i hi;simp only[bB,aQ,cE,iU]at hi;unfold Al;rw[bE (by omega)];exact hs.uY i (by omega)
  ·intro i y hy;unfold Al at hy;split at hy
   ·cases hy;exact hv1
   ·exact hs.tF i y hy
  ·intro j y hj;rcases key j y hj with⟨rfl,rfl⟩|⟨_,hy|⟨hjk,hy⟩⟩
   ·exact .inr (.inr ⟨hsz,hrl,v',_,_,ng _ _ _,hown,RM,Hz,by cases u<;>exact RN⟩)
   ·exact .inl hy
   ·exact .inr (.inl ⟨hne j y hjk hy,hy⟩)
 refine hK _ _ (h _ _ _ _ (hs'.set (t:=t) (d:=.acc id) (bs:=[]) ht ?_ (by simp)));exact(Bf.acc id _ (ng _ _ _)).Tv
def D.jq(rows:List aR):Bool:=rows.all fun r=>r.all D.flat
theorem oH.flat{vs:cG}{ds:aR}{bs:ah}(h:oH w vs ds bs)(hf:ds.all D.flat=true):bs=[]:=by
 induction ds generalizing vs bs with
 |nil=>cases h;rfl
 |cons d ds ih=>
  simp only[eD,aS]at hf;cases h with
  |cons v vs _ _ b1 b2 h1 h2 h3=>rw[h2.flat hf.1,ih h3 hf.2];rfl
theorem a0d{e sz i1:Nat}{ρ:Nat->Nat}:a0U w Θ ρ e sz (.slice none 0 0) [] true i1 [] []:=
 ⟨by simp,World.ownsRow_nil w 0 e sz,.nil,by simp,by simp[Value.ownBlock],by simp,fun _=>.nil _⟩
theorem LI{ρ:Nat->Nat}(hs:fE Z st κ Θ a w)(hu:Bw Z st.H κ Θ w ρ){id e sz:Nat}{k:RK}{rows:List aR}{v:Value}(hk:κ id=some v)(hH:st.H[id]?=some (.row k e sz rows))(ho:k.TQ=true):
 ∃bs cs,a0U w Θ ρ e sz v rows k.ub id bs cs:=by
 obtain⟨_,hrl,v2,cs,bs,hk2,hown,uz,hΘ,hz⟩:=hs.ob id _ hH;rw[hk]at hk2;cases hk2;cases k with
 |cl=>simp[RK.TQ]at ho
 |sh=>exact⟨bs,cs,hrl,hown,uz,hz,hΘ,by simp[RK.ub],by simp[RK.ub]⟩
 |mv n=>exact⟨bs,cs,hrl,hown,uz,hz,hΘ,by simp[RK.ub],by simp[RK.ub]⟩
 |ho p n=>
  obtain⟨v2,c2,b2,q1,q2,q3,q4,q5,_⟩:=hu.more id _ hH;rw[hk]at q1;cases q1;exact⟨b2,c2,hrl,q2,q3.rd,fun b hb=>(hu.free b (by rw[q5 b hb];omega)).1,hΘ,fun _=>⟨q4,q5⟩,fun _=>q3⟩
 |uq=>
  obtain⟨v2,c2,b2,q1,q2,q3,q4,q5⟩:=hu.rows id e sz rows hH;rw[hk]at q1;cases q1;exact⟨b2,c2,hrl,q2,q3.rd,fun b hb=>(hu.free b (by rw[q5 b hb];omega)).1,hΘ,fun _=>⟨q4,q5⟩,fun _=>q3⟩
theorem UB{ρ:Nat->Nat}(hs:fE Z st κ Θ a w)(hu:Bw Z st.H κ Θ w ρ){id e sz:Nat}{k:RK}{rows:List aR}{v:Value}(hk:κ id=some v)(hH:st.H[id]?=some (.row k e sz rows))(ho:k.TQ=true):
 ∃bs cs,SR w Θ ρ e sz v rows k.ub id bs cs:=by
 obtain⟨bs,cs,h⟩:=LI hs hu hk hH ho;refine⟨bs,cs,h.rl,?_,h.rd,h.zero,h.uq,h.ful⟩;rcases h.own.2 with⟨rfl,hn⟩|⟨g,cap,cur,rfl,_⟩
 ·exact .inl ⟨rfl,dJ hn⟩
 ·exact .inr ⟨_,cap,rfl,h.own.cells (g:=g) (by simp[Value.ownBlock])⟩
theorem SR.sh{e e' sz:Nat}{ρ:Nat->Nat}{u:Value}{rows:List aR}{i:Nat}{bs:ah}{cs:cG}(h:SR w Θ ρ e' sz u rows false i bs cs):SR w Θ ρ e sz u rows false i bs cs:=
 ⟨h.rl,h.at_,h.rd,h.zero,h.uq,by simp⟩
theorem a0e{e sz i2:Nat}{ρ:Nat->Nat}:SR w Θ ρ e sz (.slice none 0 0) [] true i2 [] []:=
 ⟨by simp,.inl ⟨rfl,rfl⟩,.nil,by simp,by simp,fun _=>.nil _⟩
theorem a4P{ρ:Nat->Nat}{v:Value}{rows:List aR}{bs:ah}{sz:Nat}(h:Rd w v (.sl rows) bs)(hz:∀b∈bs,Θ b=0)(hrl:∀r∈rows,r.length=sz)(i2:Nat)(fl:Bool)(hf:fl=true->D.jq rows=true)(e:Nat)(he:fl=true->OE e=none):
 ∃b2 cs,SR w Θ ρ e sz v rows fl i2 b2 cs/\(fl=true->b2=[]):=by
 cases h with
 |Af=>exact⟨[],[],⟨by simp,.inl ⟨rfl,rfl⟩,.nil,by simp,by simp,fun _=>.nil _⟩,by simp⟩
 |sA ad cap hc=>exact⟨[],[],⟨by simp,.inr ⟨ad,cap,rfl,by simp⟩,.nil,by simp,by simp,fun _=>.nil _⟩,by simp⟩
 |sl b off cap sz' _ cs bs' h0 h1 h2 h3 h4 h5=>
  have hfl:fl=true->bs'=[]:=fun e=>h5.flat (by
   have:=hf e;unfold D.jq at this;rw[b8]at this⊢;intro d hd;obtain⟨r,hr,Pz⟩:=rJ.1 hd;exact b8.1 (this r hr) d Pz)
  refine⟨bs',cs,⟨hrl,.inr ⟨_,cap,rfl,fun j x hj=>?_⟩,h5,fun y hy=>hz y (by simp[hy]),fun e=>by rw[hfl e];simp,fun e=>.of h5 (zj (he e))⟩,hfl⟩;have:=h4 j x hj;simpa[Addr.add_lit]using this
end
section
variable{P:Program}{Z:wV}{Q:Exit->St->Prop}{st:St}{κ:Nat->Option Value}{Θ:Nat->Nat}{a:Act}{w:World}{all:Array Oper}{rest:List Oper}
theorem gD{H:bz}{ms:ah}{j:Nat}(h:j∉ms):(kill H ms)[j]?=H[j]?:=by
 induction ms generalizing H with
 |nil=>rfl
 |cons m ms ih=>
  simp only[bV,Gi]at h;simp only[kill];rw[ih h.2,cz (fun e=>h.1 e.symm)]
def RK.after(k:RK)(b:Bool):RK:=match k with
 | .uq=>zu b
 | .mv _=>.sh
 | .ho _ _=>zu b
 |k=>k
theorem RK.Yl(k:RK)(b:Bool)(e:TypeId)(sz:Nat)(rows:List aR):(Ob.row (k.after b) e sz rows).mvB=false:=by cases k<;>cases b<;>rfl
theorem Tx{o:Oper}{T id i sz off e:Nat}{k0:RK}{x y:Operand}{rows:List aR}{row ds es:aR}{ms:ah}(hop:o.op=.store T x y)(hd:o.dst=none)(hg:o.guard=none)
 (hx:st.ev x=.op id i sz off) (hH:st.H[id]?=some (.row k0 e sz rows)) (hk0:k0.TQ=true) (hrow:rows[i]?=some row) (hc:(st.ev y).cellsOf=some ds) (habs:LG st.H ds=some (es,ms)) (hnd:ms.Nodup) (hid:id∉ms)
 (hT:Wz P T=true) (hl:ds.length=Bp P T) (hfit:off+ds.length<=sz)
 (h:AO P Z all rest Q ⟨st.σ,(kill st.H ms).set id (.row (k0.after (Zx st.H e off ds&&Z2 e sz)) e sz (rows.set i (row.take off++es++row.drop (off+ds.length))))⟩):AO P Z all (o::rest) Q st:=by
 intro κ Θ0 a w hs0;obtain⟨b1,r1,_⟩:=hs0.ev x;obtain⟨b20,r2,aFi⟩:=hs0.ev y;rw[hx]at r1;obtain⟨g,o0,len,cap,hk,hv⟩:=r1.Qb;have hcv:=Gp hs0.tF r2 hc;obtain⟨ρ0,hu0⟩:=hs0.vo;obtain⟨Θ,ρ,hs,hu,hm1,RO,ZC⟩:=fE.Ux ms hs0 hu0 hnd (U6 habs);obtain⟨b2,hcp,WM,Dk⟩:=Vi (H:=st.H) (ρ:=ρ) habs hnd hcv (fun b hb=>RO b (aFi b hb)) hm1 e off;have R4:(kill st.H ms)[id]?=some (.row k0 e sz rows):=by rw[gD hid];exact hH
 obtain⟨bs,cs,hA⟩:=LI hs hu hk R4 hk0;have hrl:=hA.rl;have hown:=hA.own;have Xq:=Bb hown;subst Xq;rw[cY]at hv;have uz:=hA.rd;have hsz:0<sz:=by
  obtain⟨hsz,_⟩:=hs.ob id _ R4;exact hsz
 rcases hown.2 with⟨wm,_⟩|⟨g',cap2,cur,hkv,hb,Sw,hnc,hcm,hcs,Uk⟩
 ·cases wm
 ·cases hkv;have T4:=hA.top g (by simp[Value.ownBlock]);have hl1:=hcv.length;have hle:es.length=ds.length:=by rw[<-hcp.length,hl1]
  have hilt:i<rows.length:=(aN.1 hrow).1;have aF4:(i+1)*sz<=rows.length*sz:=fN _ hilt;have aIA:rows.length*sz<=cap*sz:=fN _ hnc;rw[oA,rA]at aF4;have aFX:(a.eval y).cells.size=Bp P T:=by rw[<-hl,<-hl1];simp
  have aIM:(a.eval y).cells.size=ds.length:=by rw[<-hl1];simp
  have hst:=OU (P:=P) (T:=T) (off:=i*sz+off) Sw aFX (gP.1 hT) (by omega) hcv.one;have k:=jy.setRow hs (g:=g) (cs:=(cur.toList.take (i*sz+off)++(a.eval y).cells.toList++cur.toList.drop (i*sz+off+(a.eval y).cells.toList.length)).toArray) (tag:=id+2) (by omega) T4;refine wpList_plain hg fun K hK=>?_
  unfold Oper.wp;have hrun:(execOp a.eval o).run P w=.ok .skip (w.setRow g (cur.toList.take (i*sz+off)++(a.eval y).cells.toList++cur.toList.drop (i*sz+off+(a.eval y).cells.toList.length)).toArray):=by
   simp only[execOp,hop,hv];simp[hst]
  rw[hrun,Oper.upon_skip,hd];have hfl:=rI hrl;have e0:rows.flatten=rows.flatten.take (i*sz+off)++((rows.flatten.drop (i*sz+off)).take ds.length++(rows.flatten.drop (i*sz+off)).drop ds.length):=by rw[cc,cc]
  rw[e0]at uz;obtain⟨v1,v2,c1,c2,Oq,PD,k1,k2⟩:=uz.split;obtain⟨v3,v4,c3,c4,rfl,rfl,k3,k4⟩:=k2.split;have l1:v1.length=i*sz+off:=by rw[k1.length,cU];omega
  have l3:v3.length=ds.length:=by rw[k3.length,cU,mM];omega
  rw[jR]at k4;have hnew:=(k1.app hcp).app k4;have RN:∀b∈((c1++b2)++c4),Θ b=0:=by
   intro b hb;simp only[aW]at hb;rcases hb with(hb|hb)|hb
   ·exact hA.zero b (by rw[PD];simp[hb])
   ·exact WM b hb
   ·exact hA.zero b (by rw[PD];simp[hb])
  obtain⟨n1,n2⟩:=oH.over k hnew RN;have hfs:=OD (ds:=es) (off:=off) hrl hrow (by omega);rw[hle]at hfs;rw[<-hfs]at n1;have a16:cs.length=rows.length*sz:=hown.1;have aAZ:cur.toList=v1++(v3++(v4++cur.toList.drop (rows.length*sz))):=by
   have:cur.toList=cs++cur.toList.drop (rows.length*sz):=by rw[<-Uk,cc]
   rw[Oq]at this;simpa using this
  have t1:cur.toList.take (i*sz+off)=v1:=by rw[aAZ];exact lP l1
  have t2:cur.toList.drop (i*sz+off+(a.eval y).cells.toList.length)=v4++cur.toList.drop (rows.length*sz):=by
   rw[hl1,<-jR]
   conv=>lhs;rw[aAZ]
   rw[jr l1,jr l3]
  have hl4:(v1++(a.eval y).cells.toList++v4).length=rows.length*sz:=by
   have:=a16;rw[Oq]at this;simp only[bB]at this⊢;omega
  have FZ:(w.setRow g (cur.toList.take (i*sz+off)++(a.eval y).cells.toList++cur.toList.drop (i*sz+off+(a.eval y).cells.toList.length)).toArray).ownsRow 0 e sz (.slice (some ⟨g,0,none⟩) rows.length cap)
   (rows.set i (row.take off++es++row.drop (off+ds.length))).length (v1++(a.eval y).cells.toList++v4):=by
   refine⟨by simpa using hl4,.inr ⟨g,cap,_,by simp,hb,setRow_heap w g cur _ e _ Sw,by simpa using hnc,hcm,?_,?_⟩⟩
   ·simp only[yd,bB,cU,mM,xD];omega
   ·rw[t1,t2];simp only[js];rw[<-dH];exact lP hl4
  have Q9:∀r∈rows.set i (row.take off++es++row.drop (off+ds.length)),r.length=sz:=by
   intro r hr;rcases sG hr with hr|rfl
   ·exact hrl r hr
   ·have:=hrl row (aE hrow);simp;omega
  have Hz:∀g2,(Value.slice (some ⟨g,0,none⟩) rows.length cap).ownBlock=some g2->Θ g2=id+2:=by
   intro g2 Sv;simp only[Value.ownBlock,bC]at Sv;subst Sv;exact T4
  refine hK _ _ (h _ _ _ _ (hs.put ms IS (fun _ _ h=>h) (fun i hi=>hs.uY i (by simpa using hi)) hs.tF k hs.mine ?_ hu ?_ ?_ (RK.Yl _ _ _ _ _)))
  ·refine⟨hsz,Q9,_,_,_,hk,FZ,n1,Hz,?_⟩;cases k0 with
   |cl=>simp[RK.TQ]at hk0
   |sh=>exact n2
   |mv n=>exact n2
   |ho p n=>simp only[RK.after];cases(Zx st.H e off ds&&Z2 e sz)<;>exact n2
   |uq=>simp only[RK.after];cases(Zx st.H e off ds&&Z2 e sz)<;>exact n2
  ·intro m hm x _ GV;rcases qo GV with h|⟨h,_⟩
   ·subst h;rfl
   ·exact absurd hm h
  ·intro e' sz' eO he;cases k0
   case cl=>simp[RK.TQ]at hk0
   case sh=>simp[RK.after]at he
   case mv n=>simp[RK.after]at he
   all_goals
    simp only[RK.after]at he;cases hq:(Zx st.H e off ds&&Z2 e sz)with
    |false=>rw[hq]at he;simp[zu]at he
    |true=>
     rw[hq]at he;simp only[zu,Ob.row.injEq,AG]at he;obtain⟨rfl,rfl,rfl⟩:=he;rw[aS]at hq;obtain⟨q1,q2,q7⟩:=Dk hq.1;obtain⟨p1,p2⟩:=hA.uq rfl;have hA7:=hA.ful rfl;rw[e0]at hA7;obtain⟨x1,x2,y1,y2,ex,ey,s1,s2⟩:=hA7.split;obtain⟨x3,x4,y3,y4,rfl,rfl,s3,s4⟩:=s2.split;rw[Oq]at ex;obtain⟨rfl,ex2⟩:=List.append_inj ex (by rw[s1.length,k1.length]);obtain⟨rfl,rfl⟩:=List.append_inj ex2 (by rw[s3.length,k3.length]);have t1':(rows.flatten.take (i*sz+off)).length=i*sz+off:=by rw[<-k1.length];exact l1
     have t3':((rows.flatten.drop (i*sz+off)).take ds.length).length=ds.length:=by rw[<-k3.length];exact l3
     rw[jR]at s4;have q8:=q7.rows (n:=i) hq.2;have hF:=(s1.app (by rw[t1'];rwa[show 0+(i*sz+off)=off+i*sz by omega])).app (us:=v4) (es:=rows.flatten.drop (i*sz+off+ds.length)) (cs:=y4) (by rw[bB,t1',hle];rwa[t1',t3',nH]at s4);rw[<-hfs]at hF;have hz7:∀b∈((y1++b2)++y4),Θ b=0:=by
      intro b hb;simp only[aW]at hb;rcases hb with(hb|hb)|hb
      ·exact hA.zero b (by rw[ey];simp[hb])
      ·exact WM b hb
      ·exact hA.zero b (by rw[ey];simp[hb])
     refine⟨_,_,_,hk,FZ,hF.over k hz7,?_,fun b hb=>?_⟩
     all_goals rw[ey]at p1 p2
     all_goals obtain⟨m1,m2,m3⟩:=cC.1 p1
     all_goals obtain⟨m4,m5,m6⟩:=cC.1 m2
     ·refine cC.2 ⟨cC.2 ⟨m1,q1,fun x hx y hy e=>?_⟩,m5,fun x hx y hy e=>?_⟩
      ·subst e;obtain⟨m,hm,he⟩:=q2 x hy;have:=p2 x (by simp[hx]);exact hid (by
        have:id=m:=by omega
        rw[this];exact hm)
      ·subst e;rcases aW.1 hx with hx|hx
       ·exact m3 x hx x (by simp[hy]) rfl
       ·obtain⟨m,hm,he⟩:=q2 x hx;have:=p2 x (by simp[hy]);exact hid (by
         have:id=m:=by omega
         rw[this];exact hm)
     ·simp only[aW]at hb;rcases hb with(hb|hb)|hb
      ·exact .inl (p2 b (by simp[hb]))
      ·exact .inr (q2 b hb)
      ·exact .inl (p2 b (by simp[hb]))
end
inductive XJ(w:World):List Value->List D->List Nat->Prop
 |nil:XJ w [] [] []
 |cons (v:Value) (vs:cG) (d:D) (ds:aR) (b1 b2:ah):Rd w v d b1->XJ w vs ds b2->XJ w (v::vs) (d::ds) (b1++b2)
inductive Gj(w:World):Value->D->List Nat->List Nat->List Nat->Prop
 |pure {v:Value} {d:D} {bs:ah}:Rd w v d bs->Gj w v d bs [] []
 |fr (v:Value) (e sz:Nat) (rows:List aR) (cs:cG) (ns:ah):0<sz->(∀r∈rows,r.length=sz)->w.ownsRow 0 e sz v rows.length cs->yl w (vz e) 0 cs rows.flatten ns->v.oneCell'=true->
  Gj w v (.fr e sz rows) [] v.ownBlock.toList (v.ownBlock.toList++ns)
 |fs (v:Value) (e sz:Nat) (rows:List aR) (cs:cG) (ns:ah):0<sz->(∀r∈rows,r.length=sz)->w.ownsRow 0 e sz v rows.length cs->oH w cs rows.flatten ns->v.oneCell'=true->
  Gj w v (.fs e sz rows) ns v.ownBlock.toList v.ownBlock.toList
inductive wC(w:World):List Value->List D->List Nat->List Nat->List Nat->Prop
 |nil:wC w [] [] [] [] []
 |cons (v:Value) (vs:cG) (d:D) (ds:aR) (b1 b2 t1 t2 u1 u2:ah):v.oneCell'=true->Gj w v d b1 t1 u1->wC w vs ds b2 t2 u2->wC w (v::vs) (d::ds) (b1++b2) (t1++t2) (u1++u2)
inductive IW(w:World):Value->D->List Nat->List Nat->List Nat->Prop
 |cell {v:Value} {d:D} {bs ts us:ah}:Gj w v d bs ts us->IW w v d bs ts us
 |agg (cs:cG) (ds:aR) (bs ts us:ah):wC w cs ds bs ts us->IW w (.agg cs.toArray) (.agg ds) bs ts us
inductive D2(w:World):List Value->List D->List Nat->List Nat->List Nat->Prop
 |nil:D2 w [] [] [] [] []
 |cons (v:Value) (vs:cG) (d:D) (ds:aR) (b1 b2 t1 t2 u1 u2:ah):IW w v d b1 t1 u1->D2 w vs ds b2 t2 u2->D2 w (v::vs) (d::ds) (b1++b2) (t1++t2) (u1++u2)
inductive Bv(w:World):Value->D->List Nat->List Nat->List Nat->Prop
 |v {v:Value} {d:D} {bs ts us:ah}:IW w v d bs ts us->Bv w v d bs ts us
 |iw (vs:cG) (ds:aR) (bs ts us:ah):D2 w vs ds bs ts us->Bv w (.tuple vs.toArray) (.iw ds) bs ts us
def Good(P:Program)(f:FuncId)(ds:aR)(d:D):Prop:=
 (∃fn,P.funcs[f]?=some fn/\fn.body.isSome=true/\(fn.name== "runtime.NumGoroutine")=false)/\
 ∀(w:World) (Θ:Nat->Nat) (args:cG) (bs:ah),SZ w (fun _=>False)->XJ w args ds bs->(∀b∈bs,Θ b=0)->(∀b,Θ b≠0->b<w.heap.size)->(∀b,Θ b<=1)->
  Calls P f args.toArray w (fun e w'=>∃v bs' ts us,e=.returned v/\Below w.heap.size w w'/\Bv w' v d bs' ts us/\(∀b∈bs',b<w.heap.size->Θ b=0)/\(∀b∈bs',b∉ts)/\us.Nodup/\
   (∀b∈us,w.heap.size<=b/\Wr w' b)/\∀b∈ts,b∈us)
def Fa(n:Nat)(d:D):D×bz:=match d with
 | .fr e sz rows=>(.acc n,[.row .uq e sz rows])
 | .fs e sz rows=>(.acc n,[.row .sh e sz rows])
 |d=>(d,[])
def pu(n:Nat):aR->aR×bz
 | []=>([],[])
 |d::ds=>((Fa n d).1::(pu (n+(Fa n d).2.length) ds).1,(Fa n d).2++(pu (n+(Fa n d).2.length) ds).2)
def EM(n:Nat)(d:D):D×bz:=match d with
 | .agg cs=>(.agg (pu n cs).1,(pu n cs).2)
 |d=>Fa n d
def B1(n:Nat):aR->aR×bz
 | []=>([],[])
 |d::ds=>((EM n d).1::(B1 (n+(EM n d).2.length) ds).1,(EM n d).2++(B1 (n+(EM n d).2.length) ds).2)
def tE(n:Nat)(d:D):D×bz:=match d with
 | .iw vs=>(.iw (B1 n vs).1,(B1 n vs).2)
 |d=>EM n d
structure Fs where
 v:Value
 e:Nat
 sz:Nat
 rows:List aR
 cs:cG
 ns:ah
 sh:Bool
 vs:ah
def Fs.ob(x:Fs):Ob:=.row (bif x.sh then .sh else .uq) x.e x.sz x.rows
def Fs.rs(x:Fs):ah:=bif x.sh then x.vs else x.ns
def Fs.ok(w:World)(x:Fs):Prop:=0<x.sz/\(∀r∈x.rows,r.length=x.sz)/\w.ownsRow 0 x.e x.sz x.v x.rows.length x.cs/\yl w (bif x.sh then(fun _=>none)else vz x.e) 0 x.cs x.rows.flatten x.rs/\x.v.oneCell'=true
theorem Fs.ok.uq{w:World}{x:Fs}(h:x.ok w)(hs:x.sh=false):yl w (vz x.e) 0 x.cs x.rows.flatten x.ns:=by
 have:=h.2.2.2.1;unfold Fs.rs at this;rw[hs]at this;exact this
theorem Fs.Qx{x:Fs}{e sz:Nat}{rows:List aR}(h:x.ob=.row .uq e sz rows):x.sh=false/\x.e=e/\x.sz=sz/\x.rows=rows:=by
 unfold Fs.ob at h;cases hs:x.sh with
 |true=>rw[hs]at h;cases h
 |false=>rw[hs]at h;cases h;exact⟨rfl,rfl,rfl,rfl⟩
theorem Fs.rel{w:World}{κ:Nat->Option Value}{Θ:Nat->Nat}{id:Nat}{x:Fs}(h:x.ok w)(hk:κ id=some x.v)(ht:∀g,x.v.ownBlock=some g->Θ g=id+2)(hz:∀b∈x.ns,Θ b=0)(hv:x.sh=true->∀b∈x.vs,Θ b=0):yj w κ Θ id x.ob:=by
 obtain⟨q1,q2,q3,q4,_⟩:=h;unfold Fs.ob;unfold Fs.rs at q4;cases hs:x.sh with
 |true=>rw[hs]at q4;exact⟨q1,q2,x.v,x.cs,x.vs,hk,q3,q4.rd,ht,hv hs⟩
 |false=>rw[hs]at q4;exact⟨q1,q2,x.v,x.cs,x.ns,hk,q3,q4.rd,ht,hz⟩
theorem Fs.plain{w:World}{κ:Nat->Option Value}{ρ:Nat->Nat}{id:Nat}(x:Fs):R8 w κ ρ id x.ob:=by
 unfold Fs.ob;cases x.sh<;>exact R8.I8 rfl
def Fs.bl(x:Fs):ah:=x.v.ownBlock.toList++x.ns
def Fs.ts(x:Fs):ah:=x.v.ownBlock.toList
section
variable{P:Program}{Z:wV}{Q:Exit->St->Prop}{st:St}{κ κ':Nat->Option Value}{Θ Θ':Nat->Nat}{a:Act}{w w':World}{all:Array Oper}{rest:List Oper}
def Names(κ:Nat->Option Value)(n:Nat)(L:List Fs):Prop:=∀(i:Nat) x,L[i]?=some x->κ (n+i)=some x.v
theorem Names.left{n:Nat}{L1 L2:List Fs}(h:Names κ n (L1++L2)):Names κ n L1:=fun i x hx=>h i x (by
 rw[bJ (aN.1 hx).1];exact hx)
theorem Names.right{n:Nat}{L1 L2:List Fs}(h:Names κ n (L1++L2)):Names κ (n+L1.length) L2:=fun i x hx=>by
 have:=h (L1.length+i) x (by rw[bW (by omega)];simpa using hx);rw[<-this];congr 1;omega
theorem Gj.inst{v:Value}{d:D}{bs ts us:ah}(h:Gj w v d bs ts us)(n:Nat):
 ∃L:List Fs,L.map Fs.ob=(Fa n d).2/\(∀x∈L,x.ok w)/\us=L.flatMap Fs.bl/\ts=L.flatMap Fs.ts/\(∀x∈L,x.sh=true->∀b∈x.vs,b∈bs)/\∀κ,Names κ n L->∃b0,Bf w κ v (Fa n d).1 b0/\∀b∈b0,b∈bs:=by
 cases h with
 |pure h=>
  have e:Fa n d=(d,[]):=by cases h<;>rfl
  rw[e];exact⟨[],rfl,by simp,rfl,rfl,by simp,fun κ _=>⟨_,.pure h,fun _ h=>h⟩⟩
 |fr e sz rows cs ns h1 h2 h3 h4 h5=>
  refine⟨[⟨v,e,sz,rows,cs,ns,false,[]⟩],rfl,?_,by simp[Fs.bl],by simp[Fs.ts],by simp,fun κ hk=>⟨[],?_,by simp⟩⟩
  ·intro x hx;simp at hx;subst hx;exact⟨h1,h2,h3,h4,h5⟩
  ·exact .acc n v (by simpa using hk 0 _ rfl)
 |fs e sz rows cs ns h1 h2 h3 h4 h5=>
  refine⟨[⟨v,e,sz,rows,cs,[],true,bs⟩],rfl,?_,by simp[Fs.bl],by simp[Fs.ts],fun x hx _ b hb=>?_,fun κ hk=>⟨[],?_,by simp⟩⟩
  ·intro x hx;simp at hx;subst hx;exact⟨h1,h2,h3,.of h4 (fun _=>rfl),h5⟩
  ·simp at hx;subst hx;exact hb
  ·exact .acc n v (by simpa using hk 0 _ rfl)
theorem wC.inst{vs:cG}{ds:aR}{bs ts us:ah}(h:wC w vs ds bs ts us)(n:Nat):
 ∃L:List Fs,L.map Fs.ob=(pu n ds).2/\(∀x∈L,x.ok w)/\us=L.flatMap Fs.bl/\ts=L.flatMap Fs.ts/\(∀x∈L,x.sh=true->∀b∈x.vs,b∈bs)/\∀κ,Names κ n L->∃b0,gH w κ vs (pu n ds).1 b0/\∀b∈b0,b∈bs:=by
 induction h generalizing n with
 |nil=>exact⟨[],rfl,by simp,rfl,rfl,by simp,fun κ _=>⟨_,.nil,fun _ h=>h⟩⟩
 |cons v vs d ds b1 b2 t1 t2 u1 u2 h1 h2 _ ih=>
  obtain⟨L1,q1,q2,q3,q4,q6,q5⟩:=h2.inst n;obtain⟨L2,p1,p2,p3,p4,p6,p5⟩:=ih (n+(Fa n d).2.length);have hl:L1.length=(Fa n d).2.length:=by rw[<-q1];simp
  refine⟨L1++L2,by simp[pu,q1,p1],?_,by simp[q3,p3],by simp[q4,p4],fun x hx hs b hb=>?_,fun κ hk=>?_⟩
  ·intro x hx;rcases aW.1 hx with hx|hx
   ·exact q2 x hx
   ·exact p2 x hx
  ·rcases aW.1 hx with hx|hx
   ·exact aW.2 (.inl (q6 x hx hs b hb))
   ·exact aW.2 (.inr (p6 x hx hs b hb))
  ·obtain⟨c1,r1,s1⟩:=q5 κ hk.left;obtain⟨c2,r2,s2⟩:=p5 κ (by rw[<-hl];exact hk.right);refine⟨_,.cons _ _ _ _ _ _ h1 r1 r2,fun b hb=>?_⟩;rcases aW.1 hb with hb|hb
   ·exact aW.2 (.inl (s1 b hb))
   ·exact aW.2 (.inr (s2 b hb))
theorem IW.inst{v:Value}{d:D}{bs ts us:ah}(h:IW w v d bs ts us)(n:Nat):
 ∃L:List Fs,L.map Fs.ob=(EM n d).2/\(∀x∈L,x.ok w)/\us=L.flatMap Fs.bl/\ts=L.flatMap Fs.ts/\(∀x∈L,x.sh=true->∀b∈x.vs,b∈bs)/\∀κ,Names κ n L->∃b0,PV w κ v (EM n d).1 b0/\∀b∈b0,b∈bs:=by
 cases h with
 |cell h=>
  by_cases w5:∃ds,d=.agg ds
  ·obtain⟨ds,rfl⟩:=w5;cases h with
   |pure h=>
    cases h with
    |agg cs _ _ h=>
     have:∀(vs:cG) (es:aR) (b:ah),oH w vs es b->∀n,(pu n es).1=es/\(pu n es).2=[]:=by
      intro vs es
      induction es generalizing vs with
      |nil=>intro b _ n;exact⟨rfl,rfl⟩
      |cons e es ih=>
       intro b hh n;cases hh with
       |cons v vs _ _ b1 b2 _ h2 h3=>
        have e1:Fa n e=(e,[]):=by cases h2<;>rfl
        have:=ih vs b2 h3 n;simp[pu,e1,this]
     obtain⟨e1,e2⟩:=this _ _ _ h n;refine⟨[],by simp[EM,e2],by simp,rfl,rfl,by simp,fun κ _=>⟨_,?_,fun _ h=>h⟩⟩;simp only[EM,e1];exact .agg _ _ _ (gH.Fc h)
  ·have e:EM n d=Fa n d:=by cases d<;>first|rfl|exact absurd ⟨_,rfl⟩ w5
   rw[e];obtain⟨L,q1,q2,q3,q4,q6,q5⟩:=h.inst n;exact⟨L,q1,q2,q3,q4,q6,fun κ hk=>by obtain⟨c,r,s⟩:=q5 κ hk;exact⟨c,.cell r,s⟩⟩
 |agg cs ds bs ts us h=>
  obtain⟨L,q1,q2,q3,q4,q6,q5⟩:=h.inst n;exact⟨L,q1,q2,q3,q4,q6,fun κ hk=>by obtain⟨c,r,s⟩:=q5 κ hk;exact⟨c,.agg _ _ _ r,s⟩⟩
theorem D2.inst{vs:cG}{ds:aR}{bs ts us:ah}(h:D2 w vs ds bs ts us)(n:Nat):
 ∃L:List Fs,L.map Fs.ob=(B1 n ds).2/\(∀x∈L,x.ok w)/\us=L.flatMap Fs.bl/\ts=L.flatMap Fs.ts/\(∀x∈L,x.sh=true->∀b∈x.vs,b∈bs)/\∀κ,Names κ n L->∃b0,Ej w κ vs (B1 n ds).1 b0/\∀b∈b0,b∈bs:=by
 induction h generalizing n with
 |nil=>exact⟨[],rfl,by simp,rfl,rfl,by simp,fun κ _=>⟨_,.nil,fun _ h=>h⟩⟩
 |cons v vs d ds b1 b2 t1 t2 u1 u2 h2 _ ih=>
  obtain⟨L1,q1,q2,q3,q4,q6,q5⟩:=h2.inst n;obtain⟨L2,p1,p2,p3,p4,p6,p5⟩:=ih (n+(EM n d).2.length);have hl:L1.length=(EM n d).2.length:=by rw[<-q1];simp
  refine⟨L1++L2,by simp[B1,q1,p1],?_,by simp[q3,p3],by simp[q4,p4],fun x hx hs b hb=>?_,fun κ hk=>?_⟩
  ·intro x hx;rcases aW.1 hx with hx|hx
   ·exact q2 x hx
   ·exact p2 x hx
  ·rcases aW.1 hx with hx|hx
   ·exact aW.2 (.inl (q6 x hx hs b hb))
   ·exact aW.2 (.inr (p6 x hx hs b hb))
  ·obtain⟨c1,r1,s1⟩:=q5 κ hk.left;obtain⟨c2,r2,s2⟩:=p5 κ (by rw[<-hl];exact hk.right);refine⟨_,.cons _ _ _ _ _ _ r1 r2,fun b hb=>?_⟩;rcases aW.1 hb with hb|hb
   ·exact aW.2 (.inl (s1 b hb))
   ·exact aW.2 (.inr (s2 b hb))
theorem Bv.inst{v:Value}{d:D}{bs ts us:ah}(h:Bv w v d bs ts us)(n:Nat):
 ∃L:List Fs,L.map Fs.ob=(tE n d).2/\(∀x∈L,x.ok w)/\us=L.flatMap Fs.bl/\ts=L.flatMap Fs.ts/\(∀x∈L,x.sh=true->∀b∈x.vs,b∈bs)/\∀κ,Names κ n L->∃b0,vR w κ v (tE n d).1 b0/\∀b∈b0,b∈bs:=by
 cases h with
 |v h=>
  have hnt:∀vs,d≠ .iw vs:=by
   intro vs e;subst e;cases h with
   |cell h=>cases h with|pure h=>cases h
  have e:tE n d=EM n d:=by cases d<;>first|rfl|exact absurd rfl (hnt _)
  rw[e];obtain⟨L,q1,q2,q3,q4,q6,q5⟩:=h.inst n;exact⟨L,q1,q2,q3,q4,q6,fun κ hk=>by obtain⟨c,r,s⟩:=q5 κ hk;exact⟨c,.v r,s⟩⟩
 |iw vs ds bs ts us h=>
  obtain⟨L,q1,q2,q3,q4,q6,q5⟩:=h.inst n;exact⟨L,q1,q2,q3,q4,q6,fun κ hk=>by obtain⟨c,r,s⟩:=q5 κ hk;exact⟨c,.iw _ _ _ r,s⟩⟩
theorem U3{v:Value}{d:D}{bs ts us:ah}(h:Gj w v d bs ts us):∀b∈ts,Wr w b:=by
 cases h with
 |pure=>simp
 |fr e sz rows cs ns h1 h2 h3 h4 h5=>
  intro b hb;simp only[jI]at hb;rcases h3.2 with⟨rfl,_⟩|⟨g,cap,cur,rfl,_,hg,_⟩
  ·simp[Value.ownBlock]at hb
  ·simp[Value.ownBlock]at hb;subst hb;exact⟨_,_,hg⟩
 |fs e sz rows cs ns h1 h2 h3 h4 h5=>
  intro b hb;simp only[jI]at hb;rcases h3.2 with⟨rfl,_⟩|⟨g,cap,cur,rfl,_,hg,_⟩
  ·simp[Value.ownBlock]at hb
  ·simp[Value.ownBlock]at hb;subst hb;exact⟨_,_,hg⟩
theorem Yi{vs:cG}{ds:aR}{bs ts us:ah}(h:wC w vs ds bs ts us):∀b∈ts,Wr w b:=by
 induction h with
 |nil=>simp
 |cons v vs d ds b1 b2 t1 t2 u1 u2 h1 h2 _ ih=>
  intro b hb;rcases aW.1 hb with hb|hb
  ·exact U3 h2 b hb
  ·exact ih b hb
theorem PX{v:Value}{d:D}{bs ts us:ah}(h:IW w v d bs ts us):∀b∈ts,Wr w b:=by
 cases h with
 |cell h=>exact U3 h
 |agg cs ds bs ts us h=>exact Yi h
theorem My{vs:cG}{ds:aR}{bs ts us:ah}(h:D2 w vs ds bs ts us):∀b∈ts,Wr w b:=by
 induction h with
 |nil=>simp
 |cons v vs d ds b1 b2 t1 t2 u1 u2 h2 _ ih=>
  intro b hb;rcases aW.1 hb with hb|hb
  ·exact PX h2 b hb
  ·exact ih b hb
theorem PW{v:Value}{d:D}{bs ts us:ah}(h:Bv w v d bs ts us):∀b∈ts,Wr w b:=by
 cases h with
 |v h=>exact PX h
 |iw vs ds bs ts us h=>exact My h
def ix{G:Type}(p:G->Bool):List G->Option Nat
 | []=>none
 |x::r=>if p x then some 0 else(ix p r).map (· +1)
theorem FJ{G:Type}{p:G->Bool}:∀ {l:List G} {i:Nat},ix p l=some i->∃x,l[i]?=some x/\p x=true:=by
 intro l
 induction l with
 |nil=>intro i h;cases h
 |cons x r ih=>
  intro i h;simp only[ix]at h;split at h
  ·cases h;exact⟨x,rfl,by assumption⟩
  ·cases hr:ix p r with
   |none=>simp[hr]at h
   |some j=>simp[hr]at h;subst h;simpa using ih hr
theorem Nf{G:Type}{p:G->Bool}:∀ {l:List G} {i:Nat} {x:G},l[i]?=some x->p x=true->(∀(j:Nat) y,l[j]?=some y->p y=true->j=i)->ix p l=some i:=by
 intro l
 induction l with
 |nil=>intro i x h;simp at h
 |cons y r ih=>
  intro i x h hp hu;simp only[ix];split
  ·rename_i hy;rw[hu 0 y rfl hy]
  ·rename_i hy;cases i with
   |zero=>simp at h;subst h;exact absurd hp hy
   |succ i=>
    rw[ih (by simpa using h) hp (fun j z hz hpz=>by have:=hu (j+1) z (by simpa using hz) hpz;omega)];rfl
theorem D9{G:Type}{f:G->ah}:∀ {l:List G},(l.flatMap f).Nodup->∀(i j:Nat) x y b,l[i]?=some x->l[j]?=some y->b∈f x->b∈f y->i=j:=by
 intro l
 induction l with
 |nil=>intro _ i j x y b hi;simp at hi
 |cons z r ih=>
  intro hnd i j x y b hi hj IM hby;simp only[cw]at hnd;obtain⟨n1,n2,n3⟩:=cC.1 hnd;cases i with
  |zero=>
   simp at hi;subst hi;cases j with
   |zero=>rfl
   |succ j=>
    simp at hj;exact absurd rfl (n3 b IM b (cB.2 ⟨y,aE hj,hby⟩))
  |succ i=>
   simp at hi;cases j with
   |zero=>
    simp at hj;subst hj;exact absurd rfl (n3 b hby b (cB.2 ⟨x,aE hi,IM⟩))
   |succ j=>simp at hj;rw[ih n2 i j x y b hi hj IM hby]
theorem fE.Rx(hs:fE Z st κ Θ a w)(hb:Below w.heap.size w w')(L:List Fs)(hL:∀x∈L,x.ok w')(hnd:(L.flatMap Fs.bl).Nodup)(hfr:∀b∈L.flatMap Fs.bl,w.heap.size<=b/\Wr w' b)(hvs:∀x∈L,x.sh=true->∀b∈x.vs,Θ b=0/\b∉L.flatMap Fs.ts)
 (n:Nat) (H':bz) (hfree:∀i,i<L.length->κ (n+i)=none) (hlen':st.H.length<=H'.length) (hin:n+L.length<=H'.length)
 (key:∀(j:Nat) y,H'[j]?=some y->(∃i x,j=n+i/\L[i]?=some x/\y=x.ob)\/((j<n\/n+L.length<=j)/\(y=.gone\/st.H[j]?=some y))):
 ∃κ' Θ',fE Z ⟨st.σ,H'⟩ κ' Θ' a w'/\Names κ' n L/\(∀(j:Nat) v,κ j=some v->κ' j=some v)/\(∀b,b∉L.flatMap Fs.ts->Θ' b=Θ b)/\(∀j,(j<n\/n+L.length<=j)->κ' j=κ j):=by
 let κ':Nat->Option Value:=fun j=>if j<n\/n+L.length<=j then κ j else(L[j-n]?).map Fs.v
 let Θ':Nat->Nat:=fun b=>match ix (fun x:Fs=>x.v.ownBlock==some b) L with|some i=>n+i+2|none=>Θ b
 have hu1:∀(i j:Nat) x y b,L[i]?=some x->L[j]?=some y->b∈x.bl->b∈y.bl->i=j:=fun i j x y b=>D9 hnd i j x y b
 have hts:∀(i:Nat) x b,L[i]?=some x->x.v.ownBlock=some b->Θ' b=n+i+2:=by
  intro i x b hi hxb;have:ix (fun x:Fs=>x.v.ownBlock==some b) L=some i:=Nf hi (by simp[hxb]) (fun j y hj hy=>by
   simp only[cr]at hy;exact hu1 j i y x b hj hi (by simp[Fs.bl,hy]) (by simp[Fs.bl,hxb]))
  simp only[Θ',this]
 have hno:∀b,b∉L.flatMap Fs.ts->Θ' b=Θ b:=by
  intro b hb';simp only[Θ'];cases h:ix (fun x:Fs=>x.v.ownBlock==some b) L with
  |none=>rfl
  |some i=>
   obtain⟨x,hx,hp⟩:=FJ h;exact absurd (cB.2 ⟨x,aE hx,by simp only[cr]at hp;simp[Fs.ts,hp]⟩) hb'
 have hsub:∀b,b∈L.flatMap Fs.ts->b∈L.flatMap Fs.bl:=by
  intro b h;obtain⟨x,hx,IM⟩:=cB.1 h;exact cB.2 ⟨x,hx,by simp only[Fs.bl,Fs.ts]at IM⊢;exact aW.2 (.inl IM)⟩
 have hold:∀b,b<w.heap.size->Θ' b=Θ b:=fun b hlt=>hno b (fun h=>by have:=(hfr b (hsub b h)).1;omega)
 have hzero:∀b,w.heap.size<=b->Θ b=0:=fun b hge=>by
  cases h:Θ b with
  |zero=>rfl
  |succ m=>exact absurd (hs.own b (by omega)) (by omega)
 have hn:∀(j:Nat) v,κ j=some v->κ' j=some v:=by
  intro j v hj;have:j<n\/n+L.length<=j:=by
   rcases gj j n with h|h
   ·exact .inl h
   ·rcases gj j (n+L.length)with h2|h2
    ·have:=hfree (j-n) (by omega);rw[show n+(j-n)=j from by omega,hj]at this;cases this
    ·exact .inr h2
  simp only[κ'];rw[bP this];exact hj
 have B0:Names κ' n L:=by
  intro i x hx;have hlt:=(aN.1 hx).1;simp only[κ'];rw[bE (by omega),jN,hx];rfl
 have hTb:∀b,Θ' b≠0->Θ b≠0\/b∈L.flatMap Fs.bl:=by
  intro b h;by_cases hbt:b∈L.flatMap Fs.ts
  ·exact .inr (hsub b hbt)
  ·rw[hno b hbt]at h;exact .inl h
 have k:jy w w' Θ Θ' (H'.length+2):=by
  refine⟨by omega,hb.os,hb.tape,hb.output,hb.size,fun b hlt _=>hb.block b hlt,fun b hlt _=>hold b hlt,fun b h=>?_⟩;rcases hTb b h with h|h
  ·exact eR (hs.own b h) hb.size
  ·obtain⟨cs,T,hx⟩:=(hfr b h).2;exact(bS.1 hx).1
 have hm:∀b,2<=Θ' b->Bu Z b:=by
  intro b h;by_cases hbt:b∈L.flatMap Fs.ts
  ·exact .inl (eY hs.base (hfr b (hsub b hbt)).1)
  ·rw[hno b hbt]at h;exact hs.mine b h
 obtain⟨ρ,hu⟩:=hs.vo;have wo:=hs.tH k hn hu;let ρ':Nat->Nat:=fun b=>match ix (fun x:Fs=>x.ns.contains b) L with|some i=>n+i+1|none=>ρ b
 have hns:∀(i:Nat) x b,L[i]?=some x->b∈x.ns->ρ' b=n+i+1:=by
  intro i x b hi hxb;have:ix (fun x:Fs=>x.ns.contains b) L=some i:=Nf hi (by simpa using hxb) (fun j y hj hy=>by
   exact hu1 j i y x b hj hi (by simp only[Fs.bl];exact aW.2 (.inr (by simpa using hy))) (by simp only[Fs.bl];exact aW.2 (.inr hxb)))
  simp only[ρ',this]
 have Aj:∀(i:Nat) x b,L[i]?=some x->b∈x.ns->Θ' b=0:=by
  intro i x b hi hxb;have hmem:b∈L.flatMap Fs.bl:=cB.2 ⟨x,aE hi,by simp only[Fs.bl];exact aW.2 (.inr hxb)⟩;rw[hno b ?_]
  ·exact hzero b (hfr b hmem).1
  ·intro h;obtain⟨y,hy,hby⟩:=cB.1 h;obtain⟨j,hj⟩:=iN hy;have:=hu1 j i y x b hj hi (by simp only[Fs.bl,Fs.ts]at hby⊢;exact aW.2 (.inl hby)) (by simp only[Fs.bl];exact aW.2 (.inr hxb));subst this;rw[hj]at hi;cases hi;have Ug:x.bl.Nodup:=by
    have:∀(l:List Fs),(l.flatMap Fs.bl).Nodup->∀x∈l,x.bl.Nodup:=by
     intro l
     induction l with
     |nil=>intro _ x hx;cases hx
     |cons z r ih=>
      intro hnd x hx;simp only[cw]at hnd;obtain⟨n1,n2,_⟩:=cC.1 hnd;rcases bV.1 hx with rfl|hx
      ·exact n1
      ·exact ih n2 x hx
    exact this L hnd x hy
   simp only[Fs.bl]at Ug;exact(cC.1 Ug).2.2 b hby b hxb rfl
 have hlen:∀i,H'.length<=i->κ' i=none:=by
  intro i hi;simp only[κ'];rw[bP (by omega)];exact hs.uY i (by omega)
 have a8O:∀(j:Nat) y,H'[j]?=some y->j+2≠H'.length+2:=fun j y hj=>by
  have:=(aN.1 hj).1;omega
 refine⟨κ',Θ',?_,B0,hn,hno,fun j hj=>bP hj⟩;have OF:∀b,b<w.heap.size->ρ' b=ρ b:=by
  intro b hlt';simp only[ρ'];cases hi:ix (fun x:Fs=>x.ns.contains b) L with
  |none=>rfl
  |some i=>
   obtain⟨x,hx,hp⟩:=FJ hi;have:=(hfr b (cB.2 ⟨x,aE hx,by simp only[Fs.bl];exact aW.2 (.inr (by simpa using hp))⟩)).1;omega
 have a6a:∀b,ρ b≠0->b<w.heap.size:=fun b hb'=>by
  obtain⟨_,_,cs',T,hx⟩:=hu.free b hb';exact(bS.1 hx).1
 refine hs.step k hm hn hlen ?_ ?_ ⟨ρ',?_,?_,?_⟩
 ·intro i u ze;simp only[κ']at ze;split at ze
  ·exact hs.tF i u ze
  ·cases hx:L[i-n]? with
   |none=>simp[hx]at ze
   |some x=>simp[hx]at ze;subst ze;exact(hL x (aE hx)).2.2.2.2
 ·intro j y hj;have hjl:=a8O j y hj;rcases key j y hj with⟨i,x,rfl,hx,rfl⟩|⟨hlt,hy|hy⟩
  ·refine .inr (.inr (Fs.rel (hL x (aE hx)) (B0 i x hx) (fun g hg=>hts i x g hx hg) (fun b hb'=>Aj i x b hx hb') fun hs' b hb'=>?_));obtain⟨e1,e2⟩:=hvs x (aE hx) hs' b hb';rw[hno b e2];exact e1
  ·exact .inl hy
  ·exact .inr (.inl ⟨hjl,hy⟩)
 ·intro b hb';by_cases h:∃(i:Nat) (x:Fs),L[i]?=some x/\b∈x.ns
  ·obtain⟨i,x,hx,IM⟩:=h;have hmem:b∈L.flatMap Fs.bl:=cB.2 ⟨x,aE hx,by simp only[Fs.bl];exact aW.2 (.inr IM)⟩;exact⟨Aj i x b hx IM,.inl (.inl (eY hs.base (hfr b hmem).1)),(hfr b hmem).2⟩
  ·have:ρ' b=ρ b:=by
    simp only[ρ'];cases hi:ix (fun x:Fs=>x.ns.contains b) L with
    |none=>rfl
    |some i=>
     obtain⟨x,hx,hp⟩:=FJ hi;exact absurd ⟨i,x,hx,by simpa using hp⟩ h
   rw[this]at hb';exact wo.1 b hb'
 ·intro j e sz rows hj;have hjl:=a8O j _ hj;rcases key j _ hj with⟨i,x,rfl,hx,hy⟩|⟨hlt,hy|hy⟩
  ·obtain⟨hsh,rfl,rfl,rfl⟩:=Fs.Qx hy.symm;have hok:=hL x (aE hx);have q4:=hok.uq hsh;obtain⟨q1,q2,q3,_,_⟩:=hok;have Ug:x.ns.Nodup:=by
    have:∀(l:List Fs),(l.flatMap Fs.bl).Nodup->∀x∈l,x.bl.Nodup:=by
     intro l
     induction l with
     |nil=>intro _ x hx;cases hx
     |cons z r ih=>
      intro hnd x hx;simp only[cw]at hnd;obtain⟨n1,n2,_⟩:=cC.1 hnd;rcases bV.1 hx with rfl|hx
      ·exact n1
      ·exact ih n2 x hx
    exact(cC.1 (this L hnd x (aE hx))).2.1
   exact⟨x.v,x.cs,x.ns,B0 i x hx,q3,q4,Ug,fun b hb'=>hns i x b hx hb'⟩
  ·cases hy
  ·obtain⟨v,cs,bs,q1,q2,q3,q4,q5⟩:=wo.2.1 j e sz rows hjl hy;exact⟨v,cs,bs,q1,q2,q3,q4,fun b hb'=>(OF b (a6a b (by rw[q5 b hb'];omega))).trans (q5 b hb')⟩
 ·intro j y hj;have hjl:=a8O j _ hj;rcases key j _ hj with⟨i,x,rfl,hx,hy⟩|⟨hlt,hy|hy⟩
  ·subst hy;exact Fs.plain x
  ·subst hy;trivial
  ·exact(wo.2.2 j y hjl hy).re fun b hb'=>(OF b (a6a b (by omega))).trans hb'
theorem fE.a5F(hs:fE Z st κ Θ a w)(hb:Below w.heap.size w w')(L:List Fs)(hL:∀x∈L,x.ok w')(hnd:(L.flatMap Fs.bl).Nodup)(hfr:∀b∈L.flatMap Fs.bl,w.heap.size<=b/\Wr w' b)(hvs:∀x∈L,x.sh=true->∀b∈x.vs,Θ b=0/\b∉L.flatMap Fs.ts):
 ∃κ' Θ',fE Z ⟨st.σ,st.H++L.map Fs.ob⟩ κ' Θ' a w'/\Names κ' st.H.length L/\(∀(j:Nat) v,κ j=some v->κ' j=some v)/\(∀b,b∉L.flatMap Fs.ts->Θ' b=Θ b):=by
 obtain⟨κ',Θ',h1,h2,h3,h4,_⟩:=hs.Rx hb L hL hnd hfr hvs st.H.length (st.H++L.map Fs.ob) (fun i _=>hs.uY _ (by omega)) (by simp) (by simp) (by
  intro j y hj;by_cases hlt:j<st.H.length
  ·rw[bJ hlt]at hj;exact .inr ⟨.inl hlt,.inr hj⟩
  ·rw[bW (by omega),cR]at hj;cases hx:L[j-st.H.length]? with
   |none=>simp[hx]at hj
   |some x=>simp[hx]at hj;exact .inl ⟨j-st.H.length,x,by omega,hx,hj.symm⟩)
 exact⟨κ',Θ',h1,h2,h3,h4⟩
def vwC(H:bz)(d:D):Option (D×ah):=match d with
 | .acc m=>(match H[m]? with|some (.row _ _ _ rows)=>some (.sl rows,[m])|some (.RQ _ rows _)=>some (.sl rows,[m])|some (.tk rows)=>some (.sl rows,[])|_=>none)
 | .ptr _ _=>none
 | .op _ _ _ _=>none
 |d=>some (d.EV,[])
def VV(H:bz):aR->Option (aR×ah)
 | []=>some ([],[])
 |d::ds=>match vwC H d,VV H ds with|some (e,m),some (es,ms)=>some (e::es,m++ms)|_,_=>none
def vwV(H:bz)(d:D):Option (D×ah):=match d with
 | .agg cs=>(match VV H cs with|some (es,ms)=>some (.agg es,ms)|none=>none)
 | .iw _=>none
 |d=>vwC H d
def Kx(H:bz):aR->Option (aR×ah)
 | []=>some ([],[])
 |d::ds=>match vwV H d,Kx H ds with|some (e,m),some (es,ms)=>some (e::es,m++ms)|_,_=>none
def Seen(Θ:Nat->Nat)(ms:ah)(b:Nat):Prop:=Θ b=0\/∃m∈ms,Θ b=m+2
theorem Seen.mono{ms ns:ah}{b:Nat}(h:Seen Θ ms b)(hs:∀m∈ms,m∈ns):Seen Θ ns b:=by
 rcases h with h|⟨m,h1,h2⟩
 ·exact .inl h
 ·exact .inr ⟨m,hs m h1,h2⟩
theorem a3Z(hs:fE Z st κ Θ a w){v:Value}{d e:D}{bs:ah}{ms:ah}(h:vwC st.H d=some (e,ms))(hr:Bf w κ v d bs)(hz:∀b∈bs,Θ b=0):∃b',Rd w v e b'/\∀b∈b',Seen Θ ms b:=by
 cases hr with
 |pure hr=>
  have:vwC st.H d=some (d.EV,[]):=by cases hr<;>rfl
  rw[this]at h;cases h;exact⟨bs,hr.soft,fun b hb=>.inl (hz b hb)⟩
 |acc m _ hk=>
  simp only[vwC]at h;split at h
  ·rename_i k e' sz rows hH;cases h;obtain⟨_,hrl,v2,cs,b2,hk2,hown,uz,hΘ,hd⟩:=hs.ob m _ hH;rw[hk]at hk2;cases hk2;refine⟨_,wP hrl hown uz,fun b hb=>?_⟩;rcases aW.1 hb with hb|hb
   ·simp only[jI]at hb;exact .inr ⟨m,by simp,hΘ b hb⟩
   ·cases k with
    |cl=>exact .inr ⟨m,by simp,(hd.2.1 b hb).1⟩
    |sh=>exact .inl (hd b hb)
    |uq=>exact .inl (hd b hb)
    |mv n=>exact .inl (hd b hb)
    |ho p n=>exact .inl (hd b hb)
  ·rename_i sz rows u hH;cases h;obtain⟨_,_,v2,b2,hk2,hrd,_,PD⟩:=hs.ob m _ hH;rw[hk]at hk2;cases hk2;exact⟨b2,hrd,fun b hb=>.inr ⟨m,by simp,(PD b hb).1⟩⟩
  ·rename_i rows hH;cases h;obtain⟨v2,b2,hk2,hrd,WM⟩:=hs.ob m _ hH;rw[hk]at hk2;cases hk2;exact⟨b2,hrd,fun b hb=>.inl (WM b hb)⟩
  ·cases h
 |ptr=>simp[vwC]at h
 |op=>simp[vwC]at h
theorem a66(hs:fE Z st κ Θ a w):∀ {ds es:aR} {vs:cG} {bs ms:ah},VV st.H ds=some (es,ms)->gH w κ vs ds bs->(∀b∈bs,Θ b=0)->∃b',oH w vs es b'/\∀b∈b',Seen Θ ms b:=by
 intro ds
 induction ds with
 |nil=>
  intro es vs bs ms h hr _;simp only[VV,bC,dG]at h;obtain⟨rfl,rfl⟩:=h;cases hr;exact⟨[],.nil,by simp⟩
 |cons d ds ih=>
  intro es vs bs ms h hr hz;simp only[VV]at h;split at h
  ·rename_i e m es' ms' h1 h2;cases h;cases hr with
   |cons v vs _ _ b1 b2 hv hc hcs=>
    obtain⟨c1,q1,q2⟩:=a3Z hs h1 hc (fun b hb=>hz b (by simp[hb]));obtain⟨c2,p1,p2⟩:=ih h2 hcs (fun b hb=>hz b (by simp[hb]));refine⟨c1++c2,.cons _ _ _ _ _ _ hv q1 p1,fun b hb=>?_⟩;rcases aW.1 hb with hb|hb
    ·exact(q2 b hb).mono (fun m hm=>by simp[hm])
    ·exact(p2 b hb).mono (fun m hm=>by simp[hm])
  ·cases h
theorem a9k(hs:fE Z st κ Θ a w){v:Value}{d e:D}{bs ms:ah}(h:vwV st.H d=some (e,ms))(hr:vR w κ v d bs)(hz:∀b∈bs,Θ b=0):∃b',Rd w v e b'/\∀b∈b',Seen Θ ms b:=by
 by_cases w5:∃ds,d=.agg ds
 ·obtain⟨ds,rfl⟩:=w5;obtain⟨cs,rfl,hcs⟩:=hr.El;simp only[vwV]at h;split at h
  ·rename_i es ms' h1;cases h;obtain⟨b',q1,q2⟩:=a66 hs h1 hcs hz;exact⟨b',.agg _ _ _ q1,q2⟩
  ·cases h
 ·have hc:Bf w κ v d bs:=by
   cases hr with
   |v hr=>cases hr with
    |cell hr=>exact hr
    |agg=>exact absurd ⟨_,rfl⟩ w5
   |iw=>simp[vwV]at h
  have e1:vwV st.H d=vwC st.H d:=by
   cases d<;>first|rfl|exact absurd ⟨_,rfl⟩ w5|simp[vwV]at h
  rw[e1]at h;exact a3Z hs h hc hz
theorem To(hs:fE Z st κ Θ a w):∀ {xs:List Operand} {es:aR} {ms:ah},Kx st.H (xs.map st.ev)=some (es,ms)->∃b',XJ w (xs.map a.eval) es b'/\∀b∈b',Seen Θ ms b:=by
 intro xs
 induction xs with
 |nil=>
  intro es ms h;simp only[cF,Kx,bC,dG]at h;obtain⟨rfl,rfl⟩:=h;exact⟨[],.nil,by simp⟩
 |cons x xs ih=>
  intro es ms h;simp only[bA,Kx]at h;split at h
  ·rename_i e m es' ms' h1 h2;cases h;obtain⟨b0,r0,z0⟩:=hs.ev x;obtain⟨c1,q1,q2⟩:=a9k hs h1 r0 z0;obtain⟨c2,p1,p2⟩:=ih h2;refine⟨c1++c2,.cons _ _ _ _ _ _ q1 p1,fun b hb=>?_⟩;rcases aW.1 hb with hb|hb
   ·exact(q2 b hb).mono (fun m hm=>by simp[hm])
   ·exact(p2 b hb).mono (fun m hm=>by simp[hm])
  ·cases h
def D.shC(d:D):D:=match d with
 | .fr _ _ rows=>.sl rows
 | .fs _ _ rows=>.sl rows
 |d=>d
def D.shV(d:D):D:=match d with
 | .agg cs=>.agg (cs.map D.shC)
 |d=>d.shC
theorem wC.Fc{w:World}:∀ {ds:aR} {vs:cG} {bs:ah},oH w vs ds bs->wC w vs ds bs [] []:=by
 intro ds
 induction ds with
 |nil=>intro vs bs h;cases h;exact .nil
 |cons d ds ih=>
  intro vs bs h;cases h with
  |cons v vs _ _ b1 b2 h1 h2 h3=>exact .cons _ _ _ _ _ _ [] [] [] [] h1 (.pure h2) (ih h3)
theorem Gj.FM{w:World}{v:Value}{d:D}{bs ts us:ah}(h:Gj w v d bs ts us):∃b,Rd w v d.shC b/\∀x∈b,x∈bs\/x∈us:=by
 cases h with
 |pure h=>
  have e:d.shC=d:=by cases h<;>rfl
  exact⟨_,e.symm▸h,fun x hx=>.inl hx⟩
 |fr e sz rows cs ns h1 h2 h3 h4 h5=>exact⟨_,wP h2 h3 h4.rd,fun x hx=>.inr hx⟩
 |fs e sz rows cs ns h1 h2 h3 h4 h5=>exact⟨_,wP h2 h3 h4,fun x hx=>(aW.1 hx).symm⟩
theorem wC.FM{w:World}{vs:cG}{ds:aR}{bs ts us:ah}(h:wC w vs ds bs ts us):∃b,oH w vs (ds.map D.shC) b/\∀x∈b,x∈bs\/x∈us:=by
 induction h with
 |nil=>exact⟨_,.nil,by simp⟩
 |cons v vs d ds b1 b2 t1 t2 u1 u2 h1 h2 _ ih=>
  obtain⟨b,q,s⟩:=h2.FM;obtain⟨b',q',s'⟩:=ih;refine⟨_,.cons _ _ _ _ _ _ h1 q q',fun x hx=>?_⟩;rcases aW.1 hx with h|h
  ·rcases s x h with h|h<;>simp[h]
  ·rcases s' x h with h|h<;>simp[h]
theorem IW.FM{w:World}{v:Value}{d:D}{bs ts us:ah}(h:IW w v d bs ts us):∃b,Rd w v d.shV b/\∀x∈b,x∈bs\/x∈us:=by
 cases h with
 |cell h=>
  by_cases w5:∃ds,d=.agg ds
  ·obtain⟨ds,rfl⟩:=w5;cases h with
   |pure h=>cases h with
    |agg cs _ _ h=>
     obtain⟨b,q,s⟩:=(wC.Fc h).FM;exact⟨_,.agg _ _ _ q,s⟩
  ·have e:d.shV=d.shC:=by cases d<;>first|rfl|exact absurd ⟨_,rfl⟩ w5
   rw[e];exact h.FM
 |agg cs ds bs ts us h=>
  obtain⟨b,q,s⟩:=h.FM;exact⟨_,.agg _ _ _ q,s⟩
def D.Za(d:D):Bool:=match d with
 | .fr _ _ _=>true
 |d=>d.flat
def D.V8(d:D):Bool:=match d with
 | .agg cs=>cs.all D.Za
 |d=>d.Za
def D.TR(d:D):Bool:=match d with
 | .iw vs=>vs.all D.V8
 |d=>d.V8
def D.a9A(d:D):Bool:=match d with
 | .iw _=>false
 |d=>d.V8
theorem Gj.own{v:Value}{d:D}{bs ts us:ah}(h:Gj w v d bs ts us)(ho:d.Za=true):bs=[]:=by
 cases h with
 |pure h=>exact h.flat (by cases h<;>exact ho)
 |fr=>rfl
 |fs=>cases ho
theorem wC.own{vs:cG}{ds:aR}{bs ts us:ah}(h:wC w vs ds bs ts us)(ho:ds.all D.Za=true):bs=[]:=by
 induction h with
 |nil=>rfl
 |cons v vs d ds b1 b2 t1 t2 u1 u2 h1 h2 _ ih=>
  simp only[eD,aS]at ho;rw[h2.own ho.1,ih ho.2];rfl
theorem IW.own{v:Value}{d:D}{bs ts us:ah}(h:IW w v d bs ts us)(ho:d.V8=true):bs=[]:=by
 cases h with
 |cell h=>
  by_cases w5:∃ds,d=.agg ds
  ·obtain⟨ds,rfl⟩:=w5;cases h with
   |pure h=>
    cases h with
    |agg cs _ _ h=>
     simp only[D.V8]at ho;have:∀(es:aR) (vs:cG) (b:ah),oH w vs es b->es.all D.Za=true->es.all D.flat=true:=by
      intro es
      induction es with
      |nil=>intros;rfl
      |cons e es ih=>
       intro vs b hh ho;simp only[eD,aS]at ho⊢;cases hh with
       |cons v vs _ _ b1 b2 _ h2 h3=>exact⟨by cases h2<;>exact ho.1,ih _ _ h3 ho.2⟩
     exact oH.flat h (this _ _ _ h ho)
  ·have e:d.V8=d.Za:=by cases d<;>first|rfl|exact absurd ⟨_,rfl⟩ w5
   exact h.own (e▸ho)
 |agg cs ds bs ts us h=>exact h.own ho
theorem D2.own{vs:cG}{ds:aR}{bs ts us:ah}(h:D2 w vs ds bs ts us)(ho:ds.all D.V8=true):bs=[]:=by
 induction h with
 |nil=>rfl
 |cons v vs d ds b1 b2 t1 t2 u1 u2 h2 _ ih=>
  simp only[eD,aS]at ho;rw[h2.own ho.1,ih ho.2];rfl
theorem Bv.own{v:Value}{d:D}{bs ts us:ah}(h:Bv w v d bs ts us)(ho:d.TR=true):bs=[]:=by
 cases h with
 |v h=>
  have hnt:∀vs,d≠ .iw vs:=by
   intro vs e;subst e;cases h with
   |cell h=>cases h with|pure h=>cases h
  have e:d.TR=d.V8:=by cases d<;>first|rfl|exact absurd rfl (hnt _)
  exact h.own (e▸ho)
 |iw vs ds bs ts us h=>exact h.own ho
theorem CY{o:Oper}{f:FuncId}{xs:Array Operand}{ts:Array TypeId}(hop:o.op=.call {callee:=.value (.func f),args:=xs,argTypes:=ts})
 (hf:∃fn,P.funcs[f]?=some fn/\fn.body.isSome=true/\(fn.name== "runtime.NumGoroutine")=false):
 (execOp a.eval o).run P w=.ok (.enter f (xs.map a.eval)) w:=by
 obtain⟨fn,h1,h2,h3⟩:=hf;have h2':¬fn.body=none:=by intro hb;simp[hb]at h2
 simp only[dA,ne_eq]at h3;simp[execOp,hop,resolve,Deferred.ofValue,Act.eval,invoke,callFunc,h1,h2',h3]
theorem UK{Q':Exit->Act->World->Prop}{K:Act->World->Prop}{o:Oper}{f t:Nat}{xs:Array Operand}{ts:Array TypeId}{ds:aR}{ms:ah}{d:D}(hs:fE Z st κ Θ a w)
 (hop:o.op=.call {callee:=.value (.func f),args:=xs,argTypes:=ts}) (hd:o.dst=some t) (ht:t<Z.nt) (hds:∃bs,XJ w (xs.toList.map a.eval) ds bs/\∀b∈bs,Seen Θ ms b) (hsh:ms=[]\/d.TR=true)
 (sD:Good P f ds d) (hK:∀κ' Θ' a' w',fE Z ⟨(t,(tE st.H.length d).1)::st.σ,st.H++(tE st.H.length d).2⟩ κ' Θ' a' w'->K a' w'):o.wp P a w K Q':=by
 obtain⟨bs,hargs,hz⟩:=hds;let Θc:Nat->Nat:=fun b=>if Θ b=0\/ms.any (fun m=>Θ b==m+2)then 0 else 1
 have Ui:∀b,Seen Θ ms b->Θc b=0:=by
  intro b h;simp only[Θc];rw[bP];rcases h with h|⟨m,h1,h2⟩
  ·exact .inl h
  ·exact .inr (ed.2 ⟨m,h1,by simp[h2]⟩)
 have hc:=sD.2 w Θc _ bs hs.vok hargs (fun b hb=>Ui b (hz b hb)) (fun b hb=>hs.own b (fun e=>hb (Ui b (.inl e)))) (fun b=>by simp only[Θc];split<;>omega);unfold Oper.wp;rw[CY hop sD.1,Oper.upon_enter];have e:xs.map a.eval=(xs.toList.map a.eval).toArray:=by rw[<-mL,sR]
 rw[e];refine hc.mono ?_;rintro e w' ⟨v,bs',tb,ub,rfl,hb,hr,RN,htb,hnd,hfr,hsub⟩;show K (a.put o.dst v) w';rw[hd];obtain⟨L,q1,q2,q3,q4,q6,q5⟩:=hr.inst st.H.length;have hbz:∀b∈bs',Θ b=0:=fun b hb'=>?_
 obtain⟨κ',Θ',hs',hnm,_,hno⟩:=hs.a5F hb L q2 (q3▸hnd) (fun b hb'=>hfr b (q3▸hb')) (fun x hx hx' b hb'=>⟨hbz b (q6 x hx hx' b hb'),q4▸htb b (q6 x hx hx' b hb')⟩);rw[q1]at hs';obtain⟨b0,hr0,Uj⟩:=q5 κ' hnm;refine hK κ' Θ' _ w' (hs'.set (t:=t) ht hr0 fun b hb'=>?_)
 ·rw[hno b (q4▸htb b (Uj b hb'))];exact hbz b (Uj b hb')
 rcases hsh with Q7|hown
 ·by_cases hlt:b<w.heap.size
  ·have h0:=RN b hb' hlt;simp only[Θc,Q7,L8]at h0;by_cases h1:Θ b=0
   ·exact h1
   ·simp[h1]at h0
  ·by_cases h0:Θ b=0
   ·exact h0
   ·exact absurd (hs.own b h0) hlt
 ·rw[hr.own hown]at hb';cases hb'
theorem a4V{Q':Exit->Act->World->Prop}{K:Act->World->Prop}{o:Oper}{f t:Nat}{xs:Array Operand}{ts:Array TypeId}{ds:aR}{ms:ah}{d:D}(hs:fE Z st κ Θ a w)
 (hop:o.op=.call {callee:=.value (.func f),args:=xs,argTypes:=ts}) (hd:o.dst=some t) (ht:t<Z.nt) (hds:Kx st.H (xs.toList.map st.ev)=some (ds,ms)) (hsh:ms=[]\/d.TR=true)
 (sD:Good P f ds d) (hK:∀κ' Θ' a' w',fE Z ⟨(t,(tE st.H.length d).1)::st.σ,st.H++(tE st.H.length d).2⟩ κ' Θ' a' w'->K a' w'):o.wp P a w K Q':=
 UK hs hop hd ht (To hs hds) hsh sD hK
def OH(d:D):Bool:=match d with
 | .agg cs=>cs.all D.Up
 | .iw _=>false
 |d=>d.Up
theorem a1m{v:Value}{d:D}{bs:ah}(hr:vR w κ v d bs)(h:OH d=true):Rd w v d bs:=by
 by_cases w5:∃ds,d=.agg ds
 ·obtain⟨ds,rfl⟩:=w5;obtain⟨cs,rfl,hcs⟩:=hr.El;exact .agg _ _ _ (hcs.pure h)
 ·have hp:d.Up=true:=by
   cases d<;>first|exact h|exact absurd ⟨_,rfl⟩ w5|simp[OH]at h
  cases hr with
  |v hr=>cases hr with
   |cell hr=>cases hr with
    |pure hr=>exact hr
    |acc=>simp[D.Up]at hp
    |ptr=>simp[D.Up]at hp
    |op=>simp[D.Up]at hp
   |agg=>exact absurd ⟨_,rfl⟩ w5
  |iw=>simp[OH]at h
theorem Ry(hs:fE Z st κ Θ a w):∀ {xs:List Operand},(xs.map st.ev).all OH=true->∃b',XJ w (xs.map a.eval) (xs.map st.ev) b'/\∀b∈b',Seen Θ [] b:=by
 intro xs
 induction xs with
 |nil=>intro _;exact⟨[],.nil,by simp⟩
 |cons x xs ih=>
  intro h;simp only[bA,eD,aS]at h;obtain⟨b0,r0,z0⟩:=hs.ev x;obtain⟨c2,p1,p2⟩:=ih h.2;refine⟨b0++c2,.cons _ _ _ _ _ _ (a1m r0 h.1) p1,fun b hb=>?_⟩;rcases aW.1 hb with hb|hb
  ·exact .inl (z0 b hb)
  ·exact p2 b hb
theorem a0M{o:Oper}{f t:Nat}{xs:Array Operand}{ts:Array TypeId}{d:D}(hop:o.op=.call {callee:=.value (.func f),args:=xs,argTypes:=ts})(hd:o.dst=some t)(hg:o.guard=none)
 (ht:t<Z.nt) (hk:(xs.toList.map st.ev).all OH=true) (sD:Good P f (xs.toList.map st.ev) d)
 (h:AO P Z all rest Q ⟨(t,(tE st.H.length d).1)::st.σ,st.H++(tE st.H.length d).2⟩):AO P Z all (o::rest) Q st:=by
 intro κ Θ a w hs;exact wpList_plain hg fun K hK=>UK hs hop hd ht (Ry hs hk) (.inl rfl) sD fun κ' Θ' a' w' hs'=>hK _ _ (h κ' Θ' a' w' hs')
theorem a45{o:Oper}{f t:Nat}{xs:Array Operand}{ts:Array TypeId}{ds:aR}{ms:ah}{d:D}(hop:o.op=.call {callee:=.value (.func f),args:=xs,argTypes:=ts})(hd:o.dst=some t)(hg:o.guard=none)
 (ht:t<Z.nt) (hds:Kx st.H (xs.toList.map st.ev)=some (ds,ms)) (hsh:ms=[]\/d.TR=true) (sD:Good P f ds d)
 (h:AO P Z all rest Q ⟨(t,(tE st.H.length d).1)::st.σ,st.H++(tE st.H.length d).2⟩):AO P Z all (o::rest) Q st:=by
 intro κ Θ a w hs;exact wpList_plain hg fun K hK=>a4V hs hop hd ht hds hsh sD fun κ' Θ' a' w' hs'=>hK _ _ (h κ' Θ' a' w' hs')
def a2X(P:Program)(st:St):ResultVar->Option D
 | .tmp t=>some (lk st.σ t)
 | .cell x T=>match Dd P T,lk st.σ x with
  |some ag,.ptr id off=>(match(st.H[id]?).bind Ob.Xe with|some cells=>Jm ag (Bp P T) cells off|none=>none)
  |_,_=>none
def Jn(P:Program)(st:St):List ResultVar->Option aR
 | []=>some []
 |r::rs=>match a2X P st r,Jn P st rs with|some d,some ds=>some (d::ds)|_,_=>none
def a2Z(tmps:Array Value):ResultVar->Sem Value
 | .tmp t=>pure (tmps.getD t undef)
 | .cell a t=>do loadVar t (<-asAddr (tmps.getD a undef))
theorem results_eq(fn:Func)(tmps:Array Value):results fn tmps=(do let vs<-fn.results.mapM (a2Z tmps);pure (if h:vs.size=1 then vs[0]else .tuple vs)):=by
 unfold results
 congr 1
theorem a2Y(hs:fE Z st κ Θ a w){r:ResultVar}{d:D}(h:a2X P st r=some d):
 ∃v bs,(a2Z a.tmps r).run P w=.ok v w/\vR w κ v d bs/\∀b∈bs,Θ b=0:=by
 cases r with
 |tmp t=>
  simp only[a2X,bC]at h;subst h;obtain⟨bs,hr,hz⟩:=hs.slot t;exact⟨_,bs,by simp[a2Z],hr,hz⟩
 |cell x T=>
  have hp:pv P st (.load T (.tmp x))=some d:=by
   simp only[a2X]at h;split at h
   ·rename_i ag id off h1 h2;simp only[pv,h1,St.ev,h2];exact h
   ·cases h
  obtain⟨v,bs,hrun,hr,hz⟩:=QM (o:= {(default:Oper)with op:=.load T (.tmp x)}) hs rfl hp;refine⟨v,bs,?_,hr,hz⟩;simp only[execOp,Act.eval]at hrun;have aFN:∃b off,a.tmps.getD x undef=.pointer (some ⟨b,off,none⟩):=by
   simp only[a2X]at h;split at h
   ·rename_i ag id off h1 h2;obtain⟨b0,r0,_⟩:=hs.slot x;rw[h2]at r0;obtain⟨g,_,hv⟩:=r0.DD;exact⟨g,off,hv⟩
   ·cases h
  obtain⟨b,off,hv⟩:=aFN;simp only[a2Z,hv]at hrun⊢;simp only[Instr.loadAt,Instr.sureAddr,Sem.run_bind,Sem.run_pure,Result.andThen_ok]at hrun;simp only[asAddr,Sem.run_bind,Sem.run_pure,Result.andThen_ok];cases hl:(loadVar T ⟨b,off,none⟩).run P w with
  |ok u w1=>simp only[hl,Result.andThen_ok,Result.ok.injEq,Next.value.injEq]at hrun;rw[hrun.1,hrun.2]
  |halt u w1=>simp[hl]at hrun
theorem ET(hs:fE Z st κ Θ a w):∀ {rs:List ResultVar} {ds:aR},Jn P st rs=some ds->
 ∃(vs:cG) (bs:ah),(rs.mapM (a2Z a.tmps)).run P w=.ok vs w/\
  vs.length=rs.length/\ds.length=rs.length/\(∀(i:Nat) d,ds[i]?=some d->∃v b,vs[i]?=some v/\vR w κ v d b/\∀x∈b,x∈bs)/\∀b∈bs,Θ b=0:=by
 intro rs
 induction rs with
 |nil=>
  intro ds h;simp only[Jn,bC]at h;subst h;exact⟨[],[],by simp,rfl,rfl,by simp,by simp⟩
 |cons r rs ih=>
  intro ds h;simp only[Jn]at h;split at h
  ·rename_i d ds' h1 h2;cases h;obtain⟨v,b,k1,k2,k3⟩:=a2Y hs h1;obtain⟨vs,bs,m1,m2,m3,m4,m5⟩:=ih h2;refine⟨v::vs,b++bs,?_,by simp[m2],by simp[m3],?_,?_⟩
   ·simp only[Gf,Sem.run_bind,k1,Result.andThen_ok,m1,Sem.run_pure]
   ·intro i x hx;cases i with
    |zero=>simp at hx;subst hx;exact⟨v,b,by simp,k2,by intro y hy;simp[hy]⟩
    |succ i=>
     simp at hx;obtain⟨u,b',q1,q2,q3⟩:=m4 i x hx;exact⟨u,b',by simpa using q1,q2,fun y hy=>by simp[q3 y hy]⟩
   ·intro y hy;rcases aW.1 hy with hy|hy
    ·exact k3 y hy
    ·exact m5 y hy
  ·cases h
def Md:aR->D
 | [d]=>d
 |ds=>.iw ds
def yp:Nat->aR->List (Nat×D)
 |_,[]=>[]
 |k,d::ds=>(k,d)::yp (k+1) ds
theorem I6:∀(ds:aR) (k t:Nat),lk (yp k ds) t=if t<k then .any else(ds[t-k]?).getD .any:=by
 intro ds
 induction ds with
 |nil=>intro k t;simp[yp,lk]
 |cons d ds ih=>
  intro k t;simp only[yp,lk];by_cases h:t=k
  ·subst h;simp
  ·rw[bE h,ih];by_cases h1:t<k
   ·rw[bP (by omega),bP h1]
   ·rw[bE (by omega),bE h1];have:t-k=(t-(k+1))+1:=by omega
    rw[this,hG]
theorem XJ.at{vs:cG}{ds:aR}{bs:ah}(h:XJ w vs ds bs):vs.length=ds.length/\∀(i:Nat) d,ds[i]?=some d->∃v b,vs[i]?=some v/\Rd w v d b/\∀x∈b,x∈bs:=by
 induction ds generalizing vs bs with
 |nil=>cases h;exact⟨rfl,by simp⟩
 |cons e ds ih=>
  cases h with
  |cons v vs _ _ b1 b2 h2 h3=>
   obtain⟨l,hi⟩:=ih h3;refine⟨by simp[l],fun i d hd=>?_⟩;cases i with
   |zero=>simp at hd;subst hd;exact⟨v,b1,by simp,h2,by intro x hx;simp[hx]⟩
   |succ i=>
    simp at hd;obtain⟨u,b,k1,k3,k4⟩:=hi i d hd;exact⟨u,b,by simpa using k1,k3,fun x hx=>by simp[k4 x hx]⟩
def gX(d:D):Prop:=∃w v bs,Rd w v d bs
theorem oH.rdb{vs:cG}{ds:aR}{bs:ah}(h:oH w vs ds bs):∀d∈ds,gX d:=by
 intro d hd;obtain⟨i,hi,rfl⟩:=jS.1 hd;obtain⟨v,b,_,_,hr,_⟩:=h.at (av hi);exact⟨w,v,b,hr⟩
theorem gX.agg{ds:aR}(h:gX (.agg ds)):∀d∈ds,gX d:=by
 obtain⟨w,v,bs,h⟩:=h;cases h with|agg cs _ _ hx=>exact hx.rdb
theorem gX.sl{rows:List aR}(h:gX (.sl rows)):rows.length<=maxLen/\∀r∈rows,∀d∈r,gX d:=by
 obtain⟨w,v,bs,h⟩:=h;cases h with
 |Af=>simp
 |sA=>simp
 |sl b off cap sz _ cs bs hb h1 h2 h3 h4 h5=>
  exact⟨by omega,fun r hr d hd=>h5.rdb d (rJ.2 ⟨r,hr,hd⟩)⟩
theorem XJ.rdb{vs:cG}{ds:aR}{bs:ah}(h:XJ w vs ds bs):∀d∈ds,gX d:=by
 intro d hd;obtain⟨i,hi,rfl⟩:=jS.1 hd;obtain⟨v,b,_,hr,_⟩:=h.at.2 i _ (av hi);exact⟨w,v,b,hr⟩
def a2G(z:Option (Nat×Nat))(d:D):D:=match d,z with
 | .nil,some (e,sz+1)=>.fr e (sz+1) []
 |d,_=>d.EV
def GX(H:bz)(z:Option (Nat×Nat))(d:D):Option (D×ah×ah):=match d with
 | .acc m=>(match H[m]? with|some (.row k e sz rows)=>(match k with| .uq=>some (.fr e sz rows,[],[m])| .sh=>(match z with|some (_,0)=>some (.fs e sz rows,[],[m])|_=>some (.sl rows,[m],[]))| .cl=>none| .mv _=>none| .ho _ _=>none)|_=>none)
 | .ptr _ _=>none
 | .op _ _ _ _=>none
 | .agg _=>none
 | .iw _=>none
 |d=>some (a2G z d,[],[])
def OS(H:bz):List (Option (Nat×Nat))->aR->Option (aR×ah×ah)
 |_,[]=>some ([],[],[])
 |zs,d::ds=>match GX H zs.head?.join d,OS H zs.tail ds with|some (e,m,q),some (es,ms,qs)=>some (e::es,m++ms,q++qs)|_,_=>none
def Wi(H:bz)(zs:List (Option (Nat×Nat)))(d:D):Option (D×ah×ah):=match d with
 | .agg cs=>(match OS H zs cs with|some (es,ms,qs)=>some (.agg es,ms,qs)|none=>none)
 |d=>GX H zs.head?.join d
def CX(H:bz):List (List (Option (Nat×Nat)))->aR->Option (aR×ah×ah)
 |_,[]=>some ([],[],[])
 |zs,d::ds=>match Wi H (zs.head?.getD []) d,CX H zs.tail ds with|some (e,m,q),some (es,ms,qs)=>some (e::es,m++ms,q++qs)|_,_=>none
def SX(P:Program)(fn:Func)(d:D)(e:Exit)(st:St):Prop:=
 (e=.ret\/e=.normal)/\∃nz ds es ms qs,Jn P st fn.results.toList=some ds/\CX st.H nz ds=some (es,ms,qs)/\ms.Nodup/\qs.Nodup/\(∀m∈qs,m∉ms)/\Md es=d
structure RP(Θ ρ:Nat->Nat)(qs bs ts us:List Nat):Prop where
 zero:∀b∈bs,Θ b=0
 top:∀b∈ts,(∃m∈qs,Θ b=m+2)/\b∈us
 mem:∀b∈us,b∈ts\/∃m∈qs,ρ b=m+1
 nd:us.Nodup
theorem RP.nil{ρ:Nat->Nat}{bs:ah}(h:∀b∈bs,Θ b=0):RP Θ ρ [] bs [] []:=⟨h,by simp,by simp,by simp⟩
theorem RP.app{ρ:Nat->Nat}{q1 q2 b1 b2 t1 t2 u1 u2:ah}(hf:∀b,ρ b≠0->Θ b=0)(hq:(q1++q2).Nodup)(h1:RP Θ ρ q1 b1 t1 u1)(h2:RP Θ ρ q2 b2 t2 u2):RP Θ ρ (q1++q2) (b1++b2) (t1++t2) (u1++u2):=by
 refine⟨fun b hb=>?_,fun b hb=>?_,fun b hb=>?_,cC.2 ⟨h1.nd,h2.nd,fun x hx y hy e=>?_⟩⟩
 ·rcases aW.1 hb with hb|hb
  ·exact h1.zero b hb
  ·exact h2.zero b hb
 ·rcases aW.1 hb with hb|hb
  ·obtain⟨⟨m,p,q⟩,r⟩:=h1.top b hb;exact⟨⟨m,by simp[p],q⟩,by simp[r]⟩
  ·obtain⟨⟨m,p,q⟩,r⟩:=h2.top b hb;exact⟨⟨m,by simp[p],q⟩,by simp[r]⟩
 ·rcases aW.1 hb with hb|hb
  ·rcases h1.mem b hb with h|⟨m,p,q⟩
   ·exact .inl (by simp[h])
   ·exact .inr ⟨m,by simp[p],q⟩
  ·rcases h2.mem b hb with h|⟨m,p,q⟩
   ·exact .inl (by simp[h])
   ·exact .inr ⟨m,by simp[p],q⟩
 ·subst e;have hd:=(cC.1 hq).2.2;rcases h1.mem x hx with hx|⟨m,p,q⟩
  ·obtain⟨⟨m,p,q⟩,_⟩:=h1.top x hx;rcases h2.mem x hy with hy|⟨m',p',q'⟩
   ·obtain⟨⟨m',p',q'⟩,_⟩:=h2.top x hy;exact hd m p m' p' (by omega)
   ·have:=hf x (by omega);omega
  ·rcases h2.mem x hy with hy|⟨m',p',q'⟩
   ·obtain⟨⟨m',p',q'⟩,_⟩:=h2.top x hy;have:=hf x (by omega);omega
   ·exact hd m p m' p' (by omega)
theorem V1(z:Option (Nat×Nat)){v:Value}{d:D}{b0:ah}(hr:Rd w v d b0):∃bs,Gj w v (a2G z d) bs [] []/\∀b∈bs,b∈b0:=by
 unfold a2G;split
 ·rename_i e sz;cases hr;refine⟨[],?_,by simp⟩;have:=Gj.fr (w:=w) (.slice none 0 0) e (sz+1) [] [] [] (Nat.succ_pos _) (by simp) (World.ownsRow_nil w 0 e (sz+1)) (.nil _) rfl;simpa[Value.ownBlock]using this
 ·exact⟨b0,.pure hr.soft,fun _ h=>h⟩
section
variable{H:bz}{ρ:Nat->Nat}(hf:∀b,ρ b≠0->Θ b=0)
 (hq:∀m e sz rows,H[m]?=some (.row .uq e sz rows)->∃v cs ns,κ m=some v/\0<sz/\(∀r∈rows,r.length=sz)/\w.ownsRow 0 e sz v rows.length cs/\yl w (vz e) 0 cs rows.flatten ns/\ns.Nodup/\(∀b∈ns,ρ b=m+1)/\∀g,v.ownBlock=some g->Θ g=m+2)
 {M:ah} (Dk:∀m e sz rows,m∉M->H[m]?=some (.row .sh e sz rows)->∃v cs ns,κ m=some v/\0<sz/\(∀r∈rows,r.length=sz)/\w.ownsRow 0 e sz v rows.length cs/\oH w cs rows.flatten ns/\(∀b∈ns,Θ b=0)/\∀g,v.ownBlock=some g->Θ g=m+2)
include hf hq Dk
theorem VE{z:Option (Nat×Nat)}{d e:D}{ms qs:ah}{v:Value}{b0:ah}(h:GX H z d=some (e,ms,qs))(hM:∀m∈qs,m∉M)(hone:v.oneCell'=true)(hr:Bf w κ v d b0)(hz:∀b∈b0,Θ b=0)
 (hm:∀m∈ms,∀k e sz rows,H[m]?=some (.row k e sz rows)->Aq κ Θ ρ w m k rows):∃bs ts us,Gj w v e bs ts us/\RP Θ ρ qs bs ts us:=by
 cases hr with
 |pure hr=>
  have:GX H z d=some (a2G z d,[],[]):=by cases hr<;>first|rfl|simp[GX]at h
  rw[this]at h;cases h;obtain⟨bs,hb,RN⟩:=V1 z hr;exact⟨bs,[],[],hb,RP.nil (fun b hb'=>hz b (RN b hb'))⟩
 |acc m _ hk=>
  simp only[GX]at h;split at h
  ·rename_i k e' sz rows hH;split at h
   ·cases h;obtain⟨v2,cs,ns,r1,r2,r3,r4,r5,r6,r7,r8⟩:=hq m _ _ _ hH;rw[hk]at r1;cases r1;refine⟨[],_,_,.fr v _ _ _ cs ns r2 r3 r4 r5 hone,by simp,fun b hb=>?_,fun b hb=>?_,?_⟩
    ·simp only[jI]at hb;exact⟨⟨m,by simp,r8 b hb⟩,by simp[hb]⟩
    ·rcases aW.1 hb with hb|hb
     ·exact .inl hb
     ·exact .inr ⟨m,by simp,r7 b hb⟩
    ·refine cC.2 ⟨by cases v.ownBlock<;>simp,r6,fun x hx y hy exy=>?_⟩;subst exy;simp only[jI]at hx;have h1:=r8 x hx;have h2:=hf x (by rw[r7 x hy];omega);omega
   ·split at h
    ·cases h;obtain⟨v2,cs,ns,r1,r2,r3,r4,r5,r6,r7⟩:=Dk m _ _ _ (hM m (by simp)) hH;rw[hk]at r1;cases r1;refine⟨_,_,_,.fs v _ _ _ cs ns r2 r3 r4 r5 hone,r6,fun b hb=>?_,fun b hb=>.inl hb,by cases v.ownBlock<;>simp⟩;simp only[jI]at hb;exact⟨⟨m,by simp,r7 b hb⟩,by simp[hb]⟩
    ·cases h;obtain⟨v2,bs,r1,r2,r3,_⟩:=hm m (by simp) _ _ _ _ hH;rw[hk]at r1;cases r1;exact⟨bs,[],[],.pure r2,RP.nil r3⟩
   ·cases h
   ·cases h
   ·cases h
  ·cases h
 |ptr=>simp[GX]at h
 |op=>simp[GX]at h
theorem Zi:∀ {ds es:aR} {zs:List (Option (Nat×Nat))} {ms qs:ah} {vs:cG} {b0:ah},OS H zs ds=some (es,ms,qs)->(∀m∈qs,m∉M)->qs.Nodup->gH w κ vs ds b0->(∀b∈b0,Θ b=0)->
 (∀m∈ms,∀k e sz rows,H[m]?=some (.row k e sz rows)->Aq κ Θ ρ w m k rows)->∃bs ts us,wC w vs es bs ts us/\RP Θ ρ qs bs ts us:=by
 intro ds
 induction ds with
 |nil=>
  intro es zs ms qs vs b0 h _ _ hr _ _;simp only[OS,bC,dG]at h;obtain⟨rfl,rfl,rfl⟩:=h;cases hr;exact⟨[],[],[],.nil,RP.nil (by simp)⟩
 |cons d ds ih=>
  intro es zs ms qs vs b0 h hM hnd hr hz hm;simp only[OS]at h;split at h
  ·rename_i e m q es' ms' qs' h1 h2;cases h;cases hr with
   |cons v vs _ _ b1 b2 hv hc hcs=>
    obtain⟨c1,t1,u1,q1,q2⟩:=VE hf hq Dk h1 (fun x hx=>hM x (by simp[hx])) hv hc (fun b hb=>hz b (by simp[hb])) (fun x hx=>hm x (by simp[hx]));obtain⟨c2,t2,u2,p1,p2⟩:=ih h2 (fun x hx=>hM x (by simp[hx])) (cC.1 hnd).2.1 hcs (fun b hb=>hz b (by simp[hb])) (fun x hx=>hm x (by simp[hx]));exact⟨_,_,_,.cons _ _ _ _ _ _ _ _ _ _ hv q1 p1,RP.app hf hnd q2 p2⟩
  ·cases h
theorem a2a(hk1:∀(i:Nat) u,κ i=some u->u.oneCell'=true){zs:List (Option (Nat×Nat))}{d e:D}{ms qs:ah}{v:Value}{b0:ah}(h:Wi H zs d=some (e,ms,qs))(hM:∀m∈qs,m∉M)(hnd:qs.Nodup)(hr:vR w κ v d b0)(hz:∀b∈b0,Θ b=0)
 (hm:∀m∈ms,∀k e sz rows,H[m]?=some (.row k e sz rows)->Aq κ Θ ρ w m k rows):∃bs ts us,IW w v e bs ts us/\RP Θ ρ qs bs ts us:=by
 by_cases w5:∃ds,d=.agg ds
 ·obtain⟨ds,rfl⟩:=w5;obtain⟨cs,rfl,hcs⟩:=hr.El;simp only[Wi]at h;split at h
  ·rename_i es ms' qs' h1;cases h;obtain⟨bs,ts,us,q1,q2⟩:=Zi hf hq Dk h1 hM hnd hcs hz hm;exact⟨bs,ts,us,.agg _ _ _ _ _ q1,q2⟩
  ·cases h
 ·have e1:Wi H zs d=GX H zs.head?.join d:=by cases d<;>first|rfl|exact absurd ⟨_,rfl⟩ w5
  rw[e1]at h;have hc:Bf w κ v d b0:=by
   cases hr with
   |v hr=>cases hr with
    |cell hr=>exact hr
    |agg=>exact absurd ⟨_,rfl⟩ w5
   |iw=>simp[GX]at h
  cases hc with
  |pure hr=>
   have:GX H zs.head?.join d=some (a2G zs.head?.join d,[],[]):=by cases hr<;>first|rfl|simp[GX]at h
   rw[this]at h;cases h;obtain⟨bs,hb,RN⟩:=V1 zs.head?.join hr;exact⟨bs,[],[],.cell hb,RP.nil (fun b hb'=>hz b (RN b hb'))⟩
  |acc m _ hk=>
   obtain⟨bs,ts,us,q1,q2⟩:=VE hf hq Dk h hM (hk1 _ _ hk) (.acc m _ hk) (by simp) hm;exact⟨bs,ts,us,.cell q1,q2⟩
  |ptr=>simp[GX]at h
  |op=>simp[GX]at h
theorem Bo(hk1:∀(i:Nat) u,κ i=some u->u.oneCell'=true):∀ {ds es:aR} {zs:List (List (Option (Nat×Nat)))} {ms qs:ah} {vs:cG},CX H zs ds=some (es,ms,qs)->(∀m∈qs,m∉M)->qs.Nodup->vs.length=ds.length->
 (∀(i:Nat) d,ds[i]?=some d->∃v b,vs[i]?=some v/\vR w κ v d b/\∀x∈b,Θ x=0)->
 (∀m∈ms,∀k e sz rows,H[m]?=some (.row k e sz rows)->Aq κ Θ ρ w m k rows)->∃bs ts us,D2 w vs es bs ts us/\RP Θ ρ qs bs ts us:=by
 intro ds
 induction ds with
 |nil=>
  intro es zs ms qs vs h _ _ hl _ _;simp only[CX,bC,dG]at h;obtain⟨rfl,rfl,rfl⟩:=h;cases vs with
  |nil=>exact⟨[],[],[],.nil,RP.nil (by simp)⟩
  |cons=>simp at hl
 |cons d ds ih=>
  intro es zs ms qs vs h hM hnd hl hr hm;simp only[CX]at h;split at h
  ·rename_i e m q es' ms' qs' h1 h2;cases h;cases vs with
   |nil=>simp at hl
   |cons v vs=>
    obtain⟨v',b0,hv',hr0,Aj⟩:=hr 0 d rfl;simp at hv';subst hv';obtain⟨c1,t1,u1,q1,q2⟩:=a2a hf hq Dk hk1 h1 (fun x hx=>hM x (by simp[hx])) (cC.1 hnd).1 hr0 Aj (fun x hx=>hm x (by simp[hx]));obtain⟨c2,t2,u2,p1,p2⟩:=ih h2 (fun x hx=>hM x (by simp[hx])) (cC.1 hnd).2.1 (by simpa using hl) (fun i d' Pz=>by
     obtain⟨v',b,k1,k2⟩:=hr (i+1) d' (by simpa using Pz);exact⟨v',b,by simpa using k1,k2⟩) (fun x hx=>hm x (by simp[hx]))
    exact⟨_,_,_,.cons _ _ _ _ _ _ _ _ _ _ q1 p1,RP.app hf hnd q2 p2⟩
  ·cases h
end
theorem Qj{H:bz}{z:Option (Nat×Nat)}{d e:D}{ms qs:ah}(h:GX H z d=some (e,ms,qs)):(∀m∈ms,∃e sz rows,H[m]?=some (.row .sh e sz rows))/\∀m∈qs,∃k e sz rows,H[m]?=some (.row k e sz rows):=by
 cases d with
 |acc m=>
  simp only[GX]at h;split at h
  ·rename_i k e' sz rows hH;split at h
   ·cases h;exact⟨by simp,fun m' hm'=>by simp at hm';subst hm';exact⟨_,_,_,_,hH⟩⟩
   ·split at h
    ·cases h;exact⟨by simp,fun m' hm'=>by simp at hm';subst hm';exact⟨_,_,_,_,hH⟩⟩
    ·cases h;exact⟨fun m' hm'=>by simp at hm';subst hm';exact⟨_,_,_,hH⟩,by simp⟩
   ·cases h
   ·cases h
   ·cases h
  ·cases h
 |_=>simp[GX]at h<;>(try(obtain⟨_,rfl,rfl⟩:=h;simp))
theorem VF{H:bz}:∀ {ds es:aR} {zs:List (Option (Nat×Nat))} {ms qs:ah},OS H zs ds=some (es,ms,qs)->(∀m∈ms,∃e sz rows,H[m]?=some (.row .sh e sz rows))/\∀m∈qs,∃k e sz rows,H[m]?=some (.row k e sz rows):=by
 intro ds
 induction ds with
 |nil=>intro es zs ms qs h;simp only[OS,bC,dG]at h;obtain⟨rfl,rfl,rfl⟩:=h;simp
 |cons d ds ih=>
  intro es zs ms qs h;simp only[OS]at h;split at h
  ·rename_i e m q es' ms' qs' h1 h2;cases h;have a1:=Qj h1;have a2:=ih h2;refine⟨fun x hx=>?_,fun x hx=>?_⟩<;>rcases aW.1 hx with hx|hx
   ·exact a1.1 x hx
   ·exact a2.1 x hx
   ·exact a1.2 x hx
   ·exact a2.2 x hx
  ·cases h
theorem Wj{H:bz}{zs:List (Option (Nat×Nat))}{d e:D}{ms qs:ah}(h:Wi H zs d=some (e,ms,qs)):(∀m∈ms,∃e sz rows,H[m]?=some (.row .sh e sz rows))/\∀m∈qs,∃k e sz rows,H[m]?=some (.row k e sz rows):=by
 by_cases w5:∃ds,d=.agg ds
 ·obtain⟨ds,rfl⟩:=w5;simp only[Wi]at h;split at h
  ·rename_i es ms' qs' h1;cases h;exact VF h1
  ·cases h
 ·have e1:Wi H zs d=GX H zs.head?.join d:=by cases d<;>first|rfl|exact absurd ⟨_,rfl⟩ w5
  rw[e1]at h;exact Qj h
theorem yW{H:bz}:∀ {ds es:aR} {zs:List (List (Option (Nat×Nat)))} {ms qs:ah},CX H zs ds=some (es,ms,qs)->(∀m∈ms,∃e sz rows,H[m]?=some (.row .sh e sz rows))/\∀m∈qs,∃k e sz rows,H[m]?=some (.row k e sz rows):=by
 intro ds
 induction ds with
 |nil=>intro es zs ms qs h;simp only[CX,bC,dG]at h;obtain⟨rfl,rfl,rfl⟩:=h;simp
 |cons d ds ih=>
  intro es zs ms qs h;simp only[CX]at h;split at h
  ·rename_i e m q es' ms' qs' h1 h2;cases h;have a1:=Wj h1;have a2:=ih h2;refine⟨fun x hx=>?_,fun x hx=>?_⟩<;>rcases aW.1 hx with hx|hx
   ·exact a1.1 x hx
   ·exact a2.1 x hx
   ·exact a1.2 x hx
   ·exact a2.2 x hx
  ·cases h
theorem Good.of{f:FuncId}{fn:Func}{c:Code}{ds:aR}{d:D}(hf:P.funcs[f]?=some fn)(hb:fn.body=some c)(hn:(fn.name== "runtime.NumGoroutine")=false)
 (hl:ds.length<=fn.ntmps) (h:(∀d∈ds,gX d)->∀Z:wV,Z.nt=fn.ntmps->AW P Z c (SX P fn d) ⟨yp 0 ds,[]⟩):Good P f ds d:=by
 refine⟨⟨fn,hf,by simp[hb],hn⟩,?_⟩;intro w Θ args bs hvs hargs hz hown h1;obtain⟨hlen,PC⟩:=hargs.at;refine calls_of_wp hf hb ?_;let Z:wV:=⟨w,Θ,fun _=>False,fn.ntmps,fun _=>False,hvs⟩
 have hs:fE Z ⟨yp 0 ds,[]⟩ (fun _=>none) Θ {tmps:=args.toArray++Array.replicate (fn.ntmps-args.toArray.size) undef,defers:=[]} w:=by
  refine⟨rfl,?_,fun _ _=>rfl,by simp,?_,by simp,hown,fun b _ _=>⟨rfl,h1 b⟩,fun b hb=>by have:=h1 b;omega,⟨rfl,rfl,rfl,br _,fun _ _ _=>rfl⟩,⟨fun _=>0,by simp,by simp,by simp⟩⟩
  ·simp[Z];omega
  ·intro t;rw[I6];simp only[xh,AF,yg];cases hd:ds[t]? with
   |none=>exact⟨[],.of (.any _),by simp⟩
   |some x=>
    obtain⟨v,b,k1,k2,k3⟩:=PC t x hd;refine⟨b,?_,fun y hy=>hz y (k3 y hy)⟩;have hlt:t<args.length:=(aN.1 k1).1;have:(args.toArray++Array.replicate (fn.ntmps-args.toArray.size) undef).getD t undef=v:=by
     rw[cW,fU (by simpa using hlt)];simp[k1]
    rw[this];exact .of k2
 refine wp_mono (h hargs.rdb Z rfl _ _ _ _ hs) ?_;rintro e a' w' ⟨L6,κ0,Θ0,hs0,Da,nz,ds0,es,ms,qs,hres,hrv,Q7,Ru,hqm,rfl⟩;obtain⟨ρ0,hu0⟩:=hs0.vo;have DZ:=yW hrv;obtain⟨Θ1,ρ1,hs1,hu1,hm1,RO,ZC⟩:=fE.IP ms hs0 hu0 Q7 (fun m hm=>by
  obtain⟨e,sz,rows,hH⟩:=DZ.1 m hm;exact⟨_,e,sz,rows,hH,rfl⟩)
 obtain⟨vs,bs',m1,m2,m3,m4,m5⟩:=ET hs0 hres;have hq:∀m e sz rows,L6.H[m]?=some (.row .uq e sz rows)->∃v cs ns,κ0 m=some v/\0<sz/\(∀r∈rows,r.length=sz)/\w'.ownsRow 0 e sz v rows.length cs/\yl w' (vz e) 0 cs rows.flatten ns/\ns.Nodup/\(∀b∈ns,ρ1 b=m+1)/\∀g,v.ownBlock=some g->Θ1 g=m+2:=by
  intro m e sz rows hH;have hnm:m∉ms:=fun hm=>by
   obtain⟨e',sz',eO,GV⟩:=DZ.1 m hm;rw[hH]at GV;cases GV
  have R4:(kill L6.H ms)[m]?=some (.row .uq e sz rows):=by rw[gD hnm];exact hH
  obtain⟨v,cs,ns,r1,r2,r3,r4,r5⟩:=hu1.rows m e sz rows R4;obtain⟨p1,p2,v2,_,_,p3,_,_,p4,_⟩:=hs1.ob m _ R4;rw[r1]at p3;cases p3;exact⟨v,cs,ns,r1,p1,p2,r2,r3,r4,r5,p4⟩
 have Dk:∀m e sz rows,m∉ms->L6.H[m]?=some (.row .sh e sz rows)->∃v cs ns,κ0 m=some v/\0<sz/\(∀r∈rows,r.length=sz)/\w'.ownsRow 0 e sz v rows.length cs/\oH w' cs rows.flatten ns/\(∀b∈ns,Θ1 b=0)/\∀g,v.ownBlock=some g->Θ1 g=m+2:=by
  intro m e sz rows hnm hH;obtain⟨p1,p2,v2,cs,ns,p3,p4,p5,p6,p7⟩:=hs1.ob m _ (show(kill L6.H ms)[m]?=_ by rw[gD hnm];exact hH);exact⟨v2,cs,ns,p3,p1,p2,p4,p5,p7,p6⟩
 obtain⟨c,ts,us,EL,Ch⟩:=Bo (w:=w') (vs:=vs) (fun b hb=>(hu1.free b hb).1) hq Dk hs0.tF hrv hqm Ru (by omega) (fun i d hd=>by
  obtain⟨v,b,k1,k2,k3⟩:=m4 i d hd;exact⟨v,b,k1,k2,fun x hx=>RO x (m5 x (k3 x hx))⟩) hm1
 have Q0:∃v,(results fn a'.tmps).run P w'=.ok v w'/\Bv w' v (Md es) c ts us:=by
  have hrun:(results fn a'.tmps).run P w'=.ok (if h:vs.toArray.size=1 then vs.toArray[0]else .tuple vs.toArray) w':=by
   rw[results_eq,oL];simp[m1]
  cases EL with
  |nil=>exact⟨.tuple #[],by simpa using hrun,.iw [] [] [] [] [] .nil⟩
  |cons v vs d es b1 b2 t1 t2 u1 u2 hv ua=>
   cases ua with
   |nil=>
    simp only[dV];exact⟨v,by simpa using hrun,.v hv⟩
   |cons v2 vs d2 es b3 b4 t3 t4 u3 u4 Gc ua=>exact⟨.tuple (v::v2::vs).toArray,by simpa using hrun,.iw _ _ _ _ _ (.cons _ _ _ _ _ _ _ _ _ _ hv (.cons _ _ _ _ _ _ _ _ _ _ Gc ua))⟩
 obtain⟨v,WH,RJ⟩:=Q0;have Py:Below w.heap.size w w':=⟨hs1.stays.os,hs1.stays.tape,hs1.stays.output,hs1.stays.size,fun b hb=>hs1.stays.block b hb (fun h=>h)⟩
 have Rt:∀b,Bu Z b->w.heap.size<=b:=fun b h=>by
  rcases h with h|h
  ·exact h
  ·exact h.elim
 have hwr:∀b∈us,w.heap.size<=b/\Wr w' b:=by
  intro b hb';rcases Ch.mem b hb' with h|⟨m,hm,hρ⟩
  ·obtain⟨⟨m,hm,hΘ⟩,_⟩:=Ch.top b h;refine⟨Rt b (hs1.mine b (by omega)),?_⟩;exact PW RJ b h
  ·have:=hu1.free b (by omega);exact⟨this.2.1.elim (Rt b) False.elim,this.2.2⟩
 have post:a'.defers=[]/\∃v,(results fn a'.tmps).run P w'=.ok v w'/\∃u bs' ts us,Ending.returned v=.returned u/\Below w.heap.size w w'/\Bv w' u (Md es) bs' ts us/\(∀b∈bs',b<w.heap.size->Θ b=0)/\(∀b∈bs',b∉ts)/\us.Nodup/\
  (∀b∈us,w.heap.size<=b/\Wr w' b)/\∀b∈ts,b∈us:=by
  refine⟨hs0.defers,v,WH,v,c,ts,us,rfl,Py,RJ,fun b hb' hlt=>?_,fun b hb' ht=>?_,Ch.nd,hwr,fun b hb'=>(Ch.top b hb').2⟩
  ·have he:Θ1 b=Θ b:=(hs1.old b hlt (fun h=>h)).1;rw[<-he];exact Ch.zero b hb'
  ·obtain⟨⟨m,_,hΘ⟩,_⟩:=Ch.top b ht;have:=Ch.zero b hb';omega
 rcases Da with rfl|rfl
 ·exact post
 ·exact post
end
abbrev rp:=List Fs
section
variable{P:Program}{Z:wV}{Q:Exit->St->Prop}{st:St}{κ:Nat->Option Value}{Θ:Nat->Nat}{a:Act}{w:World}{all:Array Oper}
def Ext(H H':bz):Prop:=∀(i:Nat) o,H[i]?=some o->H'[i]?=some o
theorem Vw(σ:List (Nat×D))(H H':bz)(x:Operand):St.ev ⟨σ,H⟩ x=St.ev ⟨σ,H'⟩ x:=by cases x<;>rfl
theorem TT{σ σ':List (Nat×D)}{H H':bz}{op:Op}{d:D}(hx:Ext H H')(he:∀x∈op.operands.toList,St.ev ⟨σ,H⟩ x=St.ev ⟨σ',H'⟩ x)(h:pv P ⟨σ,H⟩ op=some d):pv P ⟨σ',H'⟩ op=some d:=by
 have hm:∀(o:Option Operand),(∀x∈o.toArray.toList,St.ev ⟨σ,H⟩ x=St.ev ⟨σ',H'⟩ x)->o.map (St.ev ⟨σ,H⟩)=o.map (St.ev ⟨σ',H'⟩):=by
  intro o h;cases o with
  |none=>rfl
  |some x=>simp[h x (by simp)]
 cases op<;>simp only[pv]at h⊢ <;>(try cases h)
 case move x=>rw[he x (by simp[Op.operands])]at*
 case assign x=>rw[he x (by simp[Op.operands])]at*
 case nilCheck x=>rw[he x (by simp[Op.operands])]at h;exact h
 case pick c x y=>rw[he c (by simp[Op.operands]),he x (by simp[Op.operands]),he y (by simp[Op.operands])]at h;exact h
 case binOp op t x y t'=>rw[he x (by simp[Op.operands]),he y (by simp[Op.operands])]at h;exact h
 case unOp op t x=>cases op<;>simp only[pv]at h⊢ <;>(try cases h)<;>(rw[he x (by simp[Op.operands])]at h;exact h)
 case convert s d x=>rw[he x (by simp[Op.operands])]at h;exact h
 case field t x f=>rw[he x (by simp[Op.operands])]at h;exact h
 case fieldAddr t x f=>rw[he x (by simp[Op.operands])]at h;exact h
 case indexAddr t x i=>
  rw[he x (by simp[Op.operands]),he i (by simp[Op.operands])]at h;split at h
  ·rename_i e sz rows kk n h1 h2 h3
   (try simp only[h1,h2,h3]);exact h
  ·rename_i e sz id kk n h1 h2 h3
   (try simp only[h1,h2,h3])
   split at h
   ·rename_i k e' sz' rows hH;simp only[hx id _ hH];exact h
   ·cases h
  ·rename_i g o' kk n h1 h2
   (try simp only[h1,h2])
   generalize Mm P t=q at h⊢;cases q<;>exact h
  ·cases h
 case load t x=>
  rw[he x (by simp[Op.operands])]at h;split at h
  ·rename_i ag row off h1 h2
   (try simp only[h1,h2]);exact h
  ·rename_i ag id off h1 h2
   (try simp only[h1,h2])
   split at h
   ·rename_i cells hH;obtain⟨ob,hH,Dj⟩:=qD.1 hH;simp only[hx id _ hH,aA,Dj];exact h
   ·cases h
  ·rename_i ag id i sz off h1 h2
   (try simp only[h1,h2])
   split at h
   ·rename_i p n e' sz' rows hH;simp only[hx id _ hH];exact h
   ·rename_i k e' sz' rows hnh hH;simp only[hx id _ hH];cases k with
    |ho p n=>exact(hnh _ _ rfl).elim
    |_=>exact h
   ·cases h
  ·rename_i ag g o' h1 h2
   (try simp only[h1,h2]);exact h
  ·cases h
 case lookup T x i ok=>
  rw[he x (by simp[Op.operands]),he i (by simp[Op.operands])]at h;split at h
  ·rename_i id h1
   (try simp only[h1])
   split at h
   ·rename_i kv hH;simp only[hx id _ hH];exact h
   ·cases h
  ·cases h
 case extract x i=>rw[he x (by simp[Op.operands])]at h;exact h
 case index t x i=>rw[he x (by simp[Op.operands]),he i (by simp[Op.operands])]at h;exact h
 case slice t x lo hi mx=>
  cases mx with
  |none=>
   simp only[pv]at h⊢;rw[he x (by simp[Op.operands]),hm lo (fun y hy=>he y (by simp only[Op.operands,nk,aW];exact .inl (.inl (.inr hy)))),
    hm hi (fun y hy=>he y (by simp only[Op.operands,nk,aW];exact .inl (.inr hy)))]at h
   exact h
  |some m=>simp only[pv]at h;cases h
 case build t parts=>
  have:(parts.toList.map fun p=>(p.1,St.ev ⟨σ,H⟩ p.2))=parts.toList.map fun p=>(p.1,St.ev ⟨σ',H'⟩ p.2):=by
   apply nq;intro p hp;rw[he p.2 (by simp only[Op.operands];simp;exact⟨p.1,by simpa using hp⟩)]
  rw[this]at h;exact h
 case call c=>
  split at h
  ·rename_i x t h1 h2 h3;have WL:x∈(Op.call c).operands.toList:=by
    simp only[Op.operands,Call.operands,nk,aW,h2];exact .inr (by simp)
   (try simp only[h1,h2,h3])
   unfold a5Y at h⊢;rw[he x WL]at h;split at h
   ·rename_i s hs;(try simp only[hs]);exact h
   ·rename_i rows hs;(try simp only[hs]);exact h
   ·rename_i hs;(try simp only[hs]);exact h
   ·rename_i id hs
    (try simp only[hs])
    split at h
    ·rename_i kk k e sz rows h4 h5;simp only[h4,hx id _ h5];exact h
    ·cases h
   ·cases h
  ·rename_i x y t t' h1 h2 h3;have WL:x∈(Op.call c).operands.toList:=by
    simp only[Op.operands,Call.operands,nk,aW,h2];exact .inr (by simp)
   have hym:y∈(Op.call c).operands.toList:=by
    simp only[Op.operands,Call.operands,nk,aW,h2];exact .inr (by simp)
   (try simp only[h1,h2,h3])
   rw[he x WL,he y hym]at h;exact h
  ·cases h
theorem VU{H H':bz}(hx:Ext H H'){d e:D}{ms:ah}(h:vwC H d=some (e,ms)):vwC H' d=some (e,ms):=by
 cases d<;>simp only[vwC]at h⊢ <;>(try exact h)
 split at h
 ·rename_i k e' sz rows hH;simp only[hx _ _ hH];exact h
 ·rename_i sz rows u hH;simp only[hx _ _ hH];exact h
 ·rename_i rows hH;simp only[hx _ _ hH];exact h
 ·cases h
theorem Zy{H H':bz}(hx:Ext H H'):∀ {ds es:aR} {ms:ah},VV H ds=some (es,ms)->VV H' ds=some (es,ms):=by
 intro ds
 induction ds with
 |nil=>intro es ms h;exact h
 |cons d ds ih=>
  intro es ms h;simp only[VV]at h⊢;split at h
  ·rename_i e m es' ms' h1 h2;rw[VU hx h1,ih h2];exact h
  ·cases h
theorem a3b{H H':bz}(hx:Ext H H'){d e:D}{ms:ah}(h:vwV H d=some (e,ms)):vwV H' d=some (e,ms):=by
 by_cases w5:∃ds,d=.agg ds
 ·obtain⟨ds,rfl⟩:=w5;simp only[vwV]at h⊢;split at h
  ·rename_i es ms' h1;rw[Zy hx h1];exact h
  ·cases h
 ·by_cases ht:∃vs,d=.iw vs
  ·obtain⟨vs,rfl⟩:=ht;simp[vwV]at h
  ·have e1:∀H,vwV H d=vwC H d:=by intro H;cases d<;>first|rfl|exact absurd ⟨_,rfl⟩ w5|exact absurd ⟨_,rfl⟩ ht
   rw[e1]at h⊢;exact VU hx h
theorem Zz{H H':bz}(hx:Ext H H'):∀ {ds es:aR} {ms:ah},Kx H ds=some (es,ms)->Kx H' ds=some (es,ms):=by
 intro ds
 induction ds with
 |nil=>intro es ms h;exact h
 |cons d ds ih=>
  intro es ms h;simp only[Kx]at h⊢;split at h
  ·rename_i e m es' ms' h1 h2;rw[a3b hx h1,ih h2];exact h
  ·cases h
structure Cp where
 t:Option Nat
 d:D
 r:Nat
 obs:bz
 up:Option (Nat×Ob)
def Looks(H:bz)(vs ds:aR)(ms:ah):Prop:=Kx H vs=some (ds,ms)\/(vs.all OH=true/\ds=vs/\ms=[])
def Mx(P:Program)(H:bz)(σ:List (Nat×D))(o:Oper)(p:Cp):Prop:=
 (pv P ⟨σ,H⟩ o.op=some p.d/\p.obs=[])\/∃(f:FuncId) (xs:Array Operand) (ts:Array TypeId) (ds:aR) (ms:ah) (d:D),o.op=.call {callee:=.value (.func f),args:=xs,argTypes:=ts}/\
  Looks H (xs.toList.map (St.ev ⟨σ,H⟩)) ds ms/\(ms=[]\/d.TR=true)/\Good P f ds d/\(tE p.r d=(p.d,p.obs)\/(d.a9A=true/\p.d=d.shV/\p.obs=[]))
def SU(P:Program)(H:bz)(σ:List (Nat×D))(o:Oper)(p:Cp):Prop:=
 (∃T zs,o.op=.alloc T/\tz P T=some zs/\p.d=.ptr p.r 0/\p.obs=[.box zs])\/∃T x ds,o.op=.box T x/\(St.ev ⟨σ,H⟩ x).cellsOf=some ds/\p.d=.ptr p.r 0/\p.obs=[.box ds]
def SW(P:Program)(H:bz)(σ:List (Nat×D))(o:Oper)(p:Cp):Prop:=
 ∃T e sz len parts zs ds es,o.op=.buildSlice T len parts/\Mm P T=some (e,sz)/\tz P e=some zs/\0<sz/\len*sz<=16777216/\
  Ad (vY len sz) (List.replicate len zs).flatten (parts.toList.map fun q=>(q.1,St.ev ⟨σ,H⟩ q.2))=some ds/\LG H ds=some (es,[])/\p.d=.acc p.r/\p.obs=[.row (zu (Zx H e 0 ds)) e sz (chunk sz len es)]
def SV(P:Program)(H:bz)(σ:List (Nat×D))(o:Oper)(p:Cp):Prop:=
 ∃T e sz len parts zs ds,o.op=.buildSlice T len parts/\Mm P T=some (e,sz)/\tz P e=some zs/\0<sz/\len*sz<=16777216/\
  Ad (vY len sz) (List.replicate len zs).flatten (parts.toList.map fun q=>(q.1,St.ev ⟨σ,H⟩ q.2))=some ds/\ds.all D.Up=true/\ds.all D.flat=true/\p.d=.sl (chunk sz len ds)/\p.obs=[]
def LC(P:Program)(H:bz)(σ:List (Nat×D))(o:Oper)(p:Cp):Prop:=Mx P H σ o p\/SU P H σ o p\/SW P H σ o p\/SV P H σ o p
def aAD(P:Program)(Z:wV)(all:Array Oper)(H:bz)(σ:List (Nat×D))(o:Oper)(p:Cp):Prop:=
 ∃t,p.t=some t/\p.up=none/\o.dst=some t/\t<Z.nt/\((o.guard=none/\LC P H σ o p)\/
  (∃(j s:Nat) (want b:Bool),o.guard=some (j,want)/\(all[j]?).bind (·.dst)=some s/\lk σ s=.bool b/\((b=want/\LC P H σ o p)\/(b≠want/\p.d=.iw []/\p.obs=[])))\/
  ∃(j s:Nat) (want:Bool),o.guard=some (j,want)/\(all[j]?).bind (·.dst)=some s/\lk σ s=.iw []/\p.d=.iw []/\p.obs=[])
def aAC(P:Program)(H:bz)(σ:List (Nat×D))(o:Oper)(p:Cp):Prop:=
 p.t=none/\p.obs=[]/\o.dst=none/\o.guard=none/\∃T x y id ds,o.op=.store T x y/\St.ev ⟨σ,H⟩ x=.ptr id 0/\H.length<=id/\(St.ev ⟨σ,H⟩ y).cellsOf=some ds/\Wz P T=true/\ds.length=Bp P T/\p.up=some (id,.box ds)
def yh(P:Program)(Z:wV)(all:Array Oper)(H:bz)(σ:List (Nat×D))(o:Oper)(p:Cp):Prop:=aAD P Z all H σ o p\/aAC P H σ o p
def Cp.slot(p:Cp)(σ:List (Nat×D)):List (Nat×D):=match p.t with|some t=>(t,p.d)::σ|none=>σ
def Cp.fill(n:Nat)(p:Cp)(acc:bz):bz:=match p.up with|some (id,ob)=>acc.set (id-n) ob|none=>acc++p.obs
def Cp.aDE(n:Nat)(p:Cp)(U:ah)(acc:bz):Prop:=match p.up with|some (id,ob)=>id∉U/\n<=id/\∃zs ds,acc[id-n]?=some (.box zs)/\ob=.box ds/\zs.length=ds.length|none=>True
def Cp.ups(p:Cp)(U:ah):ah:=match p.up with|some (id,_)=>id::U|none=>U
def FR(P:Program)(Z:wV)(all:Array Oper)(H:bz)(K:List (Nat×D)->bz->Prop):List Oper->List (Nat×D)->bz->ah->Prop
 | [],σ,acc,_=>K σ acc
 |o::os,σ,acc,U=>∃p:Cp,p.r=H.length+acc.length/\yh P Z all H σ o p/\p.aDE H.length U acc/\FR P Z all H K os (p.slot σ) (p.fill H.length acc) (p.ups U)
theorem yK{Q':Exit->Act->World->Prop}{ops:Array Oper}{i:Nat}{o:Oper}{K:Act->World->Prop}(hi:ops[i]?=some o)(hw:Region.wanted o (yielded ops a.tmps)=true)(h:o.wp P a w K Q'):wpOp P ops Q' i K a w:=by
 unfold wpOp;simp only[hi,hw,nM];exact .inl h
theorem fE.a9t(hs:fE Z st κ Θ a w){ops:Array Oper}{j s:Nat}{b:Bool}(hj:(ops[j]?).bind (·.dst)=some s)(hb:lk st.σ s=.bool b):yielded ops a.tmps j=some b:=by
 obtain⟨bs,r,_⟩:=hs.slot s;rw[hb]at r;have hv:=r.yt;have hlt:s<a.tmps.size:=by
  rcases gj s a.tmps.size with h|h
  ·exact h
  ·exfalso;rw[cW,uf h]at hv;simp[undef]at hv
 have h1:a.tmps[s]?=some (.bool b):=by
  rw[cW,dB hlt]at hv;rw[dB hlt];simpa using hv
 simp[yielded,hj,h1]
theorem Po{st xO:St}{ops:Array Oper}{o:Oper}(h:∀t∈o.looksAt ops,lk st.σ t=lk xO.σ t):∀x∈o.op.operands.toList,st.ev x=xO.ev x:=by
 intro x hx;cases x with
 |tmp t=>
  refine h t ?_;unfold Oper.looksAt;exact aW.2 (.inl (dQ.2 ⟨.tmp t,hx,rfl⟩))
 |const v=>rfl
 |global g=>rfl
 |func f=>rfl
theorem Ng(l:List (Nat×D))(σ:List (Nat×D))(t:Nat):(∀p∈l,p.1≠t)->lk (l++σ) t=lk σ t:=by
 induction l with
 |nil=>intro _;rfl
 |cons q l ih=>
  intro h;obtain⟨u,d⟩:=q;simp only[tv,lk];rw[bE (fun e=>h (u,d) (by simp) e.symm)];exact ih (fun p hp=>h p (by simp[hp]))
theorem QL(l:List (Nat×D))(σ:List (Nat×D))(p:Nat×D)(hp:p∈l)(hd:∀q∈l,q.1=p.1->q=p):lk (l++σ) p.1=p.2:=by
 induction l with
 |nil=>cases hp
 |cons q l ih=>
  obtain⟨u,d⟩:=q;simp only[tv,lk];by_cases e:p.1=u
  ·rw[bP e];have:=hd (u,d) (by simp) e.symm;rw[<-this]
  ·rw[bE e];rcases bV.1 hp with rfl|hp
   ·exact absurd rfl e
   ·exact ih hp (fun q hq=>hd q (by simp[hq]))
def place(H:bz)(r:Nat)(obs:bz):bz:=H.take r++(obs++H.drop (r+obs.length))
theorem Bm{H:bz}{r:Nat}{obs:bz}(h:r+obs.length<=H.length)(j:Nat):(place H r obs)[j]?=if j<r then H[j]? else if j<r+obs.length then obs[j-r]? else H[j]?:=by
 unfold place;have hl:(H.take r).length=r:=by rw[cU];omega
 by_cases h1:j<r
 ·rw[bP h1,bJ (by omega),dP,bP h1]
 ·rw[bE h1,bW (by omega),hl];by_cases h2:j<r+obs.length
  ·rw[bP h2,bJ (by omega)]
  ·rw[bE h2,bW (by omega),gO]
   congr 1;omega
theorem zI{H:bz}{r:Nat}{obs:bz}(h:r+obs.length<=H.length):(place H r obs).length=H.length:=by
 unfold place;simp;omega
theorem Mx.wp{Q':Exit->Act->World->Prop}{σ:List (Nat×D)}{H H':bz}{o:Oper}{p:Cp}{K:Act->World->Prop}(hs:fE Z ⟨σ,H'⟩ κ Θ a w)(hx:Ext H H'){t:Nat}(hd:o.dst=some t)(ht:t<Z.nt)(h:Mx P H σ o p)
 (hr:p.r+p.obs.length<=H'.length) (hfree:∀i,i<p.obs.length->κ (p.r+i)=none)
 (hK:∀κ' Θ' a' w',fE Z ⟨(t,p.d)::σ,place H' p.r p.obs⟩ κ' Θ' a' w'->(∀j,(j<p.r\/p.r+p.obs.length<=j)->κ' j=κ j)->K a' w'):o.wp P a w K Q':=by
 rcases h with⟨h,hno⟩|⟨f,xs,ts,ds,ms,d,hop,hds,hsh,sD,hi⟩
 ·have h':=TT (σ:=σ) (σ':=σ) hx (fun x _=>Vw σ H H' x) h;obtain⟨v,bs,hrun,hrd,hz⟩:=IA hs h';unfold Oper.wp;rw[hrun,Oper.upon_value,hd];have hp:place H' p.r p.obs=H':=by rw[hno];simp[place]
  exact hK κ Θ _ _ (by rw[hp];exact hs.set ht hrd hz) (fun _ _=>rfl)
 ·have hev:xs.toList.map (St.ev ⟨σ,H⟩)=xs.toList.map (St.ev ⟨σ,H'⟩):=nq (fun x _=>Vw σ H H' x);have a8H:∃bs,XJ w (xs.toList.map a.eval) ds bs/\∀b∈bs,Seen Θ ms b:=by
   rcases hds with hds|⟨hk,rfl,rfl⟩
   ·have:=Zz hx hds;rw[hev]at this;exact To hs this
   ·rw[hev]at hk⊢;exact Ry hs hk
  obtain⟨bs,hargs,hz⟩:=a8H;let Θc:Nat->Nat:=fun b=>if Θ b=0\/ms.any (fun m=>Θ b==m+2)then 0 else 1
  have Ui:∀b,Seen Θ ms b->Θc b=0:=by
   intro b h;simp only[Θc];rw[bP];rcases h with h|⟨m,h1,h2⟩
   ·exact .inl h
   ·exact .inr (ed.2 ⟨m,h1,by simp[h2]⟩)
  have hc:=sD.2 w Θc _ bs hs.vok hargs (fun b hb=>Ui b (hz b hb)) (fun b hb=>hs.own b (fun e=>hb (Ui b (.inl e)))) (fun b=>by simp only[Θc];split<;>omega);unfold Oper.wp;rw[CY hop sD.1,Oper.upon_enter];have e:xs.map a.eval=(xs.toList.map a.eval).toArray:=by rw[<-mL,sR]
  rw[e];refine hc.mono ?_;rintro e w' ⟨v,bs',tb,ub,rfl,hb,hr',RN,htb,hnd,hfr,hsub⟩;show K (a.put o.dst v) w';rw[hd];rcases hi with hi|⟨hown,WE,Tu⟩
  rotate_left
  ·cases hr' with
   |iw=>cases hown
   |v hv=>
    have PD:bs'=[]:=hv.own (by
     unfold D.a9A at hown;split at hown
     ·cases hown
     ·exact hown)
    obtain⟨b,q,s⟩:=hv.FM;have hp:place H' p.r p.obs=H':=by rw[Tu];simp[place]
    refine hK κ Θ _ w' ?_ (fun _ _=>rfl);rw[hp,WE];refine(hs.grow hb).set ht (.v (.cell (.pure q))) fun x hx'=>?_
    rcases s x hx' with h|h
    ·rw[PD]at h;cases h
    ·by_cases h0:Θ x=0
     ·exact h0
     ·have:=hs.own x h0;have:=(hfr x h).1;omega
  obtain⟨L,q1,q2,q3,q4,q6,q5⟩:=hr'.inst p.r;rw[hi]at q1 q5;simp only at q1 q5;have hbz:∀b∈bs',Θ b=0:=by
   intro b hb';rcases hsh with Q7|hown
   ·by_cases hlt:b<w.heap.size
    ·have h0:=RN b hb' hlt;simp only[Θc,Q7,L8]at h0;by_cases h1:Θ b=0
     ·exact h1
     ·simp[h1]at h0
    ·by_cases h0:Θ b=0
     ·exact h0
     ·exact absurd (hs.own b h0) hlt
   ·rw[hr'.own hown]at hb';cases hb'
  have hLl:L.length=p.obs.length:=by have:=congrArg List.length q1;simpa using this
  obtain⟨κ',Θ',hs',hnm,_,hno,hsame⟩:=hs.Rx hb L q2 (q3▸hnd) (fun b hb'=>hfr b (q3▸hb')) (fun x hx hx' b hb'=>⟨hbz b (q6 x hx hx' b hb'),q4▸htb b (q6 x hx hx' b hb')⟩) p.r (place H' p.r p.obs) (fun i hi'=>hfree i (by omega)) (by rw[zI hr];exact br _) (by rw[zI hr];omega) (by
   intro j y hj;rw[Bm hr]at hj;split at hj
   ·rename_i h1;exact .inr ⟨.inl h1,.inr hj⟩
   ·rename_i h1;split at hj
    ·rename_i h2;rw[<-q1,cR]at hj;cases hx':L[j-p.r]? with
     |none=>simp[hx']at hj
     |some x=>simp[hx']at hj;exact .inl ⟨j-p.r,x,by omega,hx',hj.symm⟩
    ·exact .inr ⟨.inr (by omega),.inr hj⟩)
  obtain⟨b0,hr0,Uj⟩:=q5 κ' hnm;refine hK κ' Θ' _ w' (hs'.set (t:=t) ht hr0 fun b hb'=>?_) (fun j hj=>hsame j (by omega));rw[hno b (q4▸htb b (Uj b hb'))];exact hbz b (Uj b hb')
theorem fE.Uz{σ:List (Nat×D)}{H':bz}(hs:fE Z ⟨σ,H'⟩ κ Θ a w){r:Nat}(hr:r+1<=H'.length)(hfree:κ r=none){cs:Array Value}{ds:aR}{bs:ah}(T:TypeId)(hrd:gH w κ cs.toList ds bs)(hz:∀b∈bs,Θ b=0):
 fE Z ⟨σ,place H' r [.box ds]⟩ (Al κ r (some (.pointer (some ⟨w.heap.size,0,none⟩)))) (fun b=>if b=w.heap.size then r+2 else Θ b) a (w.alloc (.cells cs T)):=by
 have k:=jy.alloc hs (.cells cs T) (tag:=r+2) (by omega);have hn:=AD hfree (some (Value.pointer (some ⟨w.heap.size,0,none⟩)));obtain⟨h1,h2⟩:=gH.stay k hn hrd hz;obtain⟨ρ,hu⟩:=hs.vo;refine hs.put (id:=r) (o:=.box ds) [] ?_ hn ?_ ?_ k (hs.Bl (fun b hb=>by by_cases e:b=w.heap.size<;>simp_all)) ?_ hu (by simp) (by intro e sz rows h;cases h)
 ·intro j y hj;rw[Bm (by simpa using hr)]at hj;split at hj
  ·exact .inr ⟨by omega,hj⟩
  ·split at hj
   ·rename_i h2;simp only[aQ,cE]at h2;have e:j=r:=by omega
    subst e;simp at hj;exact .inl ⟨rfl,hj.symm⟩
   ·rename_i h2;simp only[aQ,cE]at h2;exact .inr ⟨by omega,hj⟩
 ·intro i hi;rw[zI (by simpa using hr)]at hi;unfold Al;rw[bE (by omega)];exact hs.uY i hi
 ·intro i x hx;unfold Al at hx;split at hx
  ·cases hx;rfl
  ·exact hs.tF i x hx
 ·exact⟨w.heap.size,cs,T,by simp[Al],heap_alloc_new w _,by simp,bs,h1,h2⟩
theorem SU.wp{Q':Exit->Act->World->Prop}{σ:List (Nat×D)}{H H':bz}{o:Oper}{p:Cp}{K:Act->World->Prop}(hs:fE Z ⟨σ,H'⟩ κ Θ a w){t:Nat}(hd:o.dst=some t)(ht:t<Z.nt)(h:SU P H σ o p)
 (hr:p.r+p.obs.length<=H'.length) (hfree:∀i,i<p.obs.length->κ (p.r+i)=none)
 (hK:∀κ' Θ' a' w',fE Z ⟨(t,p.d)::σ,place H' p.r p.obs⟩ κ' Θ' a' w'->(∀j,(j<p.r\/p.r+p.obs.length<=j)->κ' j=κ j)->K a' w'):o.wp P a w K Q':=by
 rcases h with⟨T,zs,hop,hz,WE,Tu⟩|⟨T,x,ds,hop,hc,WE,Tu⟩
 ·rw[Tu]at hr hfree hK;rw[WE]at hK;obtain⟨i,z,hi,Aj,hsz,hlen,hone,rfl⟩:=A5 hz;have hs':=hs.Uz (r:=p.r) hr (by simpa using hfree 0 (by simp)) T (cs:=z.cells) (EQ z.cells.toList hone) (by simp);unfold Oper.wp;have hrun:(execOp a.eval o).run P w=.ok (.value (.pointer (some ⟨w.heap.size,0,none⟩))) (w.alloc (.cells z.cells T)):=by
   simp[execOp,hop,Instr.alloc,zeroValue,typeInfo,hi,Aj,newVar,newRow]
  rw[hrun,Oper.upon_value,hd];refine hK _ _ _ _ (hs'.set (t:=t) (d:=.ptr p.r 0) (bs:=[]) ht ?_ (by simp)) (fun j hj=>?_)
  ·exact(Bf.ptr p.r 0 w.heap.size (by simp[Al])).Tv
  ·unfold Al;simp only[aQ,cE]at hj;rw[bE (by omega)]
 ·rw[Tu]at hr hfree hK;rw[WE]at hK;obtain⟨bs,rr,hz⟩:=hs.ev x;rw[Vw σ H' H x]at rr;have hcs:=Gp hs.tF rr hc;have hs':=hs.Uz (r:=p.r) hr (by simpa using hfree 0 (by simp)) T hcs hz;unfold Oper.wp;have hrun:(execOp a.eval o).run P w=.ok (.value (.pointer (some ⟨w.heap.size,0,none⟩))) (w.alloc (.cells (a.eval x).cells T)):=by
   simp[execOp,hop,Instr.box,newVar,newRow]
  rw[hrun,Oper.upon_value,hd];refine hK _ _ _ _ (hs'.set (t:=t) (d:=.ptr p.r 0) (bs:=[]) ht ?_ (by simp)) (fun j hj=>?_)
  ·exact(Bf.ptr p.r 0 w.heap.size (by simp[Al])).Tv
  ·unfold Al;simp only[aQ,cE]at hj;rw[bE (by omega)]
theorem fE.a2D{σ:List (Nat×D)}{H':bz}(hs:fE Z ⟨σ,H'⟩ κ Θ a w){r:Nat}(hr:r+1<=H'.length)(hfree:κ r=none){u:Bool}{e sz cap:Nat}{rows:List aR}{bs:ah}(cur:Array Value)(hsz:0<sz)(hrl:∀x∈rows,x.length=sz)
 (W8:cur.size=cap*sz) (hn:rows.length<=cap) (hcap:cap<=maxLen) (hrd:oH w (cur.toList.take (rows.length*sz)) rows.flatten bs) (hz:∀b∈bs,Θ b=0) (hq:u=true->bs=[]/\yl w (vz e) 0 (cur.toList.take (rows.length*sz)) rows.flatten bs):
 fE Z ⟨σ,place H' r [.row (zu u) e sz rows]⟩ (Al κ r (some (.slice (some ⟨w.heap.size,0,none⟩) rows.length cap))) (fun b=>if b=w.heap.size then r+2 else Θ b) a (w.alloc (.cells cur e)):=by
 have k:=jy.alloc hs (.cells cur e) (tag:=r+2) (by omega);have hkn:=AD hfree (some (Value.slice (some ⟨w.heap.size,0,none⟩) rows.length cap));obtain⟨h1,h2⟩:=oH.over k hrd hz;have hlen:(cur.toList.take (rows.length*sz)).length=rows.length*sz:=by
  have:rows.length*sz<=cap*sz:=fN _ hn;have h3:cur.toList.length=cap*sz:=by rw[<-W8];simp
  rw[cU,h3,jt this]
 have hown:(w.alloc (.cells cur e)).ownsRow 0 e sz (.slice (some ⟨w.heap.size,0,none⟩) rows.length cap) rows.length (cur.toList.take (rows.length*sz)):=
  ⟨hlen,.inr ⟨w.heap.size,cap,cur,rfl,by omega,heap_alloc_new w _,hn,hcap,W8,rfl⟩⟩
 obtain⟨ρ,hu⟩:=hs.vo;refine hs.put (id:=r) (o:=.row (zu u) e sz rows) [] ?_ hkn ?_ ?_ k (hs.Bl (fun b hb=>by by_cases e:b=w.heap.size<;>simp_all)) ?_ hu (by simp) ?_
 ·intro j y hj;rw[Bm (by simpa using hr)]at hj;split at hj
  ·exact .inr ⟨by omega,hj⟩
  ·split at hj
   ·rename_i h2;simp only[aQ,cE]at h2;have e:j=r:=by omega
    subst e;simp at hj;exact .inl ⟨rfl,hj.symm⟩
   ·rename_i h2;simp only[aQ,cE]at h2;exact .inr ⟨by omega,hj⟩
 ·intro i hi;rw[zI (by simpa using hr)]at hi;unfold Al;rw[bE (by omega)];exact hs.uY i hi
 ·intro i x hx;unfold Al at hx;split at hx
  ·cases hx;rfl
  ·exact hs.tF i x hx
 ·refine⟨hsz,hrl,_,_,bs,by simp[Al],hown,h1,?_,?_⟩
  ·intro g hg;simp only[Value.ownBlock,bC]at hg;subst hg;simp
  ·cases u<;>exact h2
 ·intro e' sz' eO he;cases u with
  |false=>simp[zu]at he
  |true=>
   simp only[zu,Ob.row.injEq,AG]at he;obtain⟨rfl,rfl,rfl⟩:=he;obtain⟨h0,hF⟩:=hq rfl;subst h0;exact⟨_,_,[],by simp[Al],hown,hF.over k hz,by simp,by simp⟩
theorem SW.wp{Q':Exit->Act->World->Prop}{σ:List (Nat×D)}{H H':bz}{o:Oper}{p:Cp}{K:Act->World->Prop}(hs:fE Z ⟨σ,H'⟩ κ Θ a w)(hx:Ext H H'){t:Nat}(hd:o.dst=some t)(ht:t<Z.nt)(h:SW P H σ o p)
 (hr:p.r+p.obs.length<=H'.length) (hfree:∀i,i<p.obs.length->κ (p.r+i)=none)
 (hK:∀κ' Θ' a' w',fE Z ⟨(t,p.d)::σ,place H' p.r p.obs⟩ κ' Θ' a' w'->(∀j,(j<p.r\/p.r+p.obs.length<=j)->κ' j=κ j)->K a' w'):o.wp P a w K Q':=by
 obtain⟨T,e,sz,len,parts,zs,ds,es,hop,hT,hz,hsz,hsmall,hf,habs,WE,Tu⟩:=h;rw[Tu]at hr hfree hK;rw[WE]at hK;have hf':Ad (vY len sz) (List.replicate len zs).flatten (parts.toList.map fun q=>(q.1,St.ev ⟨σ,H'⟩ q.2))=some ds:=by
  rw[<-hf];congr 1
 obtain⟨arr,b0,hrun,RG,hb0,hal,hdl⟩:=By (st:=⟨σ,H'⟩) hop hT hz hsz hsmall hf' hs;obtain⟨ρ,hu⟩:=hs.vo;obtain⟨bs,q1,q2,q3⟩:=Vi (H:=H) (ρ:=ρ) habs (by simp) RG hb0 (by simp) e 0;have hel:es.length=len*sz:=by rw[<-q1.length,RG.length,hdl]
 obtain⟨c1,c2,c3⟩:=Gq sz len es hel;have hs':=hs.a2D (r:=p.r) hr (by simpa using hfree 0 (by simp)) (u:=Zx H e 0 ds) (e:=e) (sz:=sz) (cap:=len) (rows:=chunk sz len es) (bs:=bs) arr hsz c3 hal (by rw[c1];exact br _)
  (by unfold maxLen;have:len*1<=len*sz:=dY _ hsz;omega) (by rw[c1,c2,k8 (by simp[hal])];exact q1) q2
  (fun hq=>by
   obtain⟨_,h2,h3⟩:=q3 hq;refine⟨?_,by rw[c1,c2,k8 (by simp[hal])];exact h3⟩;cases bs with
   |nil=>rfl
   |cons b bs=>obtain⟨m,hm,_⟩:=h2 b (by simp);cases hm)
 unfold Oper.wp;rw[hrun,Oper.upon_value,hd];rw[c1]at hs';refine hK _ _ _ _ (hs'.set (t:=t) (d:=.acc p.r) (bs:=[]) ht ?_ (by simp)) (fun j hj=>?_)
 ·exact(Bf.acc p.r _ (by simp[Al])).Tv
 ·unfold Al;simp only[aQ,cE]at hj;rw[bE (by omega)]
theorem SV.wp{Q':Exit->Act->World->Prop}{σ:List (Nat×D)}{H H':bz}{o:Oper}{p:Cp}{K:Act->World->Prop}(hs:fE Z ⟨σ,H'⟩ κ Θ a w){t:Nat}(hd:o.dst=some t)(ht:t<Z.nt)(h:SV P H σ o p)
 (hK:∀κ' Θ' a' w',fE Z ⟨(t,p.d)::σ,place H' p.r p.obs⟩ κ' Θ' a' w'->(∀j,(j<p.r\/p.r+p.obs.length<=j)->κ' j=κ j)->K a' w'):o.wp P a w K Q':=by
 obtain⟨T,e,sz,len,parts,zs,ds,hop,hT,hz,hsz,hsmall,hf,aF5,aAd,WE,Tu⟩:=h;rw[Tu]at hK;rw[WE]at hK;have hf':Ad (vY len sz) (List.replicate len zs).flatten (parts.toList.map fun q=>(q.1,St.ev ⟨σ,H'⟩ q.2))=some ds:=by
  rw[<-hf];congr 1
 obtain⟨arr,b0,hrun,RG,hb0,hal,hdl⟩:=By (st:=⟨σ,H'⟩) hop hT hz hsz hsmall hf' hs;have hrd:=RG.pure aF5;have aEm:b0=[]:=hrd.flat aAd;subst aEm;obtain⟨c1,c2,c3⟩:=Gq sz len ds hdl;have Py:Below w.heap.size w (w.alloc (.cells arr e)):=by
  have k:=jy.alloc hs (.cells arr e) (tag:=2) (by omega);refine⟨k.os,k.tape,k.output,k.size,fun b hlt=>?_⟩;simp only[World.alloc];rw[Array.getElem?_push,bE (by omega)]
 have hs':=hs.grow Py;unfold Oper.wp;rw[hrun,Oper.upon_value,hd];have hpl:place H' p.r ([]:bz)=H':=by simp[place]
 rw[hpl]at hK;refine hK _ _ _ _ (hs'.set (t:=t) (d:=.sl (chunk sz len ds)) (bs:=[w.heap.size]) ht ?_ ?_) (fun j hj=>rfl)
 ·have hcell:∀j c,arr.toList[j]?=some c->(w.alloc (.cells arr e)).cell? ⟨w.heap.size,0+j,none⟩=some c:=by
   intro j c hj;simp only[cY,World.cell?,heap_alloc_new w _];simpa using hj
  have hlt:w.heap.size<(w.alloc (.cells arr e)).heap.size:=(bS.1 (heap_alloc_new w _)).1;have:=Rd.sl (w:=w.alloc (.cells arr e)) w.heap.size 0 len sz (chunk sz len ds) arr.toList [] hlt (by rw[c1];exact br _) (by unfold maxLen;have:len*1<=len*sz:=dY _ hsz;omega) c3 hcell (by rw[c2];exact hrd.keep (by simp));rw[c1]at this;exact .of this
 ·intro b hb;simp only[cH]at hb;subst hb;cases h:Θ w.heap.size with
  |zero=>rfl
  |succ m=>exact absurd (hs.own w.heap.size (by omega)) (by omega)
theorem LC.wp{Q':Exit->Act->World->Prop}{σ:List (Nat×D)}{H H':bz}{o:Oper}{p:Cp}{K:Act->World->Prop}(hs:fE Z ⟨σ,H'⟩ κ Θ a w)(hx:Ext H H'){t:Nat}(hd:o.dst=some t)(ht:t<Z.nt)(h:LC P H σ o p)
 (hr:p.r+p.obs.length<=H'.length) (hfree:∀i,i<p.obs.length->κ (p.r+i)=none)
 (hK:∀κ' Θ' a' w',fE Z ⟨(t,p.d)::σ,place H' p.r p.obs⟩ κ' Θ' a' w'->(∀j,(j<p.r\/p.r+p.obs.length<=j)->κ' j=κ j)->K a' w'):o.wp P a w K Q':=by
 rcases h with h|h|h|h
 ·exact h.wp hs hx hd ht hr hfree hK
 ·exact h.wp hs hd ht hr hfree hK
 ·exact h.wp hs hx hd ht hr hfree hK
 ·exact h.wp hs hd ht hK
theorem fE.a3W(hs:fE Z st κ Θ a w){ops:Array Oper}{j s:Nat}(hj:(ops[j]?).bind (·.dst)=some s)(hb:lk st.σ s=.iw []):yielded ops a.tmps j=none:=by
 obtain⟨bs,r,_⟩:=hs.slot s;rw[hb]at r;have hv:=r.SF;rcases gj s a.tmps.size with hlt|hlt
 ·have h1:a.tmps[s]?=some (.tuple #[]):=by
   rw[cW,dB hlt]at hv;rw[dB hlt];simpa using hv
  simp[yielded,hj,h1]
 ·simp[yielded,hj,uf hlt]
def Cp.Np(p:Cp)(H':bz):bz:=match p.up with|some (id,ob)=>H'.set id ob|none=>place H' p.r p.obs
theorem yh.wp{Q':Exit->Act->World->Prop}{σ:List (Nat×D)}{H H':bz}{ops:Array Oper}{i:Nat}{o:Oper}{p:Cp}{K:Act->World->Prop}(hs:fE Z ⟨σ,H'⟩ κ Θ a w)(hx:Ext H H')(hi:ops[i]?=some o)(h:yh P Z ops H σ o p)
 (hr:p.r+p.obs.length<=H'.length) (hfree:∀i,i<p.obs.length->κ (p.r+i)=none) (Vd:∀id ob,p.up=some (id,ob)->∃zs ds,H'[id]?=some (.box zs)/\ob=.box ds/\zs.length=ds.length)
 (hK:∀κ' Θ' a' w',fE Z ⟨p.slot σ,p.Np H'⟩ κ' Θ' a' w'->(∀j,(j<p.r\/p.r+p.obs.length<=j)->κ' j=κ j)->K a' w'):wpOp P ops Q' i K a w:=by
 rcases h with⟨t,hpt,hpu,hd,ht,h⟩|⟨hpt,Tu,hd,hg,T,x,y,id,ds,hop,hev,hlen,hc,hT,hl,hpu⟩
 ·have e1:p.slot σ=(t,p.d)::σ:=by simp[Cp.slot,hpt]
  have e2:p.Np H'=place H' p.r p.obs:=by simp[Cp.Np,hpu]
  rw[e1,e2]at hK;rcases h with⟨hg,hc⟩|⟨j,s,want,b,hg,hj,hb,hc⟩|⟨j,s,want,hg,hj,hb,a8G,hno⟩
  ·exact yK hi (by simp[Region.wanted,hg]) (hc.wp hs hx hd ht hr hfree hK)
  ·have hy:=hs.a9t hj hb;rcases hc with⟨rfl,hc⟩|⟨hne,a8G,hno⟩
   ·exact yK hi (by simp[Region.wanted,hg,hy]) (hc.wp hs hx hd ht hr hfree hK)
   ·unfold wpOp;have hw:Region.wanted o (yielded ops a.tmps)=false:=by simp[Region.wanted,hg,hy,hne]
    simp only[hi,hw,xp,AF,hd];have hp:place H' p.r p.obs=H':=by rw[hno];simp[place]
    exact hK κ Θ _ _ (by rw[hp,a8G];exact hs.set ht (.iw [] [] [] .nil) (by simp)) (fun _ _=>rfl)
  ·have hy:=hs.a3W hj hb;unfold wpOp;have hw:Region.wanted o (yielded ops a.tmps)=false:=by simp[Region.wanted,hg,hy]
   simp only[hi,hw,xp,AF,hd];have hp:place H' p.r p.obs=H':=by rw[hno];simp[place]
   exact hK κ Θ _ _ (by rw[hp,a8G];exact hs.set ht (.iw [] [] [] .nil) (by simp)) (fun _ _=>rfl)
 ·have e1:p.slot σ=σ:=by simp[Cp.slot,hpt]
  have e2:p.Np H'=H'.set id (.box ds):=by simp[Cp.Np,hpu]
  rw[e1,e2]at hK;obtain⟨zs,ds',hz,he,hzl⟩:=Vd id _ hpu;cases he;obtain⟨w',hrun,hs'⟩:=SB (st:=⟨σ,H'⟩) hop (by rw[Vw σ H' H x];exact hev) hz rfl (by rw[Vw σ H' H y];exact hc) hT hl (by omega) rfl hs;refine yK hi (by simp[Region.wanted,hg]) ?_;unfold Oper.wp;rw[hrun,Oper.upon_skip,hd];have e3:zs.take 0++ds++zs.drop (0+ds.length)=ds:=by
   rw[Ed (by omega)];simp
  rw[e3]at hs';exact hK κ Θ _ _ hs' (fun _ _=>rfl)
theorem Mx.congr{H:bz}{σ σ':List (Nat×D)}{o:Oper}{p:Cp}(he:∀x∈o.op.operands.toList,St.ev ⟨σ,H⟩ x=St.ev ⟨σ',H⟩ x)(h:Mx P H σ o p):Mx P H σ' o p:=by
 rcases h with⟨h,hno⟩|⟨f,xs,ts,ds,ms,d,hop,hds,hsh,sD,hi⟩
 ·exact .inl ⟨TT (fun _ _ h=>h) he h,hno⟩
 ·have hm:xs.toList.map (St.ev ⟨σ,H⟩)=xs.toList.map (St.ev ⟨σ',H⟩):=by
   apply nq;intro x hx;refine he x ?_;rw[hop];simp only[Op.operands,Call.operands,nk,aW];exact .inr hx
  rw[hm]at hds;exact .inr ⟨f,xs,ts,ds,ms,d,hop,hds,hsh,sD,hi⟩
theorem LC.congr{H:bz}{σ σ':List (Nat×D)}{o:Oper}{p:Cp}(he:∀x∈o.op.operands.toList,St.ev ⟨σ,H⟩ x=St.ev ⟨σ',H⟩ x)(h:LC P H σ o p):LC P H σ' o p:=by
 rcases h with h| (h|⟨T,x,ds,hop,hc,WE,Tu⟩)|⟨T,e,sz,len,parts,zs,ds,es,hop,hT,hz,hsz,hsmall,hf,habs,WE,Tu⟩|⟨T,e,sz,len,parts,zs,ds,hop,hT,hz,hsz,hsmall,hf,habs,hfl,WE,Tu⟩
 ·exact .inl (h.congr he)
 ·exact .inr (.inl (.inl h))
 ·exact .inr (.inl (.inr ⟨T,x,ds,hop,by rw[<-he x (by rw[hop];simp[Op.operands])];exact hc,WE,Tu⟩))
 ·refine .inr (.inr (.inl ⟨T,e,sz,len,parts,zs,ds,es,hop,hT,hz,hsz,hsmall,?_,habs,WE,Tu⟩));rw[<-hf]
  congr 1
  apply nq;intro q hq;rw[he q.2 ?_];rw[hop];simp only[Op.operands,mL];exact cJ.2 ⟨q,hq,rfl⟩
 ·refine .inr (.inr (.inr ⟨T,e,sz,len,parts,zs,ds,hop,hT,hz,hsz,hsmall,?_,habs,hfl,WE,Tu⟩));rw[<-hf]
  congr 1
  apply nq;intro q hq;rw[he q.2 ?_];rw[hop];simp only[Op.operands,mL];exact cJ.2 ⟨q,hq,rfl⟩
theorem yh.congr{H:bz}{σ σ':List (Nat×D)}{ops:Array Oper}{o:Oper}{p:Cp}(he:∀t∈o.looksAt ops,lk σ t=lk σ' t)(h:yh P Z ops H σ o p):yh P Z ops H σ' o p:=by
 have hev:=Po (st:=⟨σ,H⟩) (xO:=⟨σ',H⟩) he;have hgu:∀ {j s:Nat} {want:Bool},o.guard=some (j,want)->(ops[j]?).bind (·.dst)=some s->lk σ s=lk σ' s:=by
  intro j s want hg hj;refine he s ?_;unfold Oper.looksAt;refine aW.2 (.inr ?_);simp[hg,hj]
 rcases h with⟨t,hpt,hpu,hd,ht,h⟩|⟨hpt,Tu,hd,hg,T,x,y,id,ds,hop,hx,hlen,hc,hT,hl,hpu⟩
 ·refine .inl ⟨t,hpt,hpu,hd,ht,?_⟩;rcases h with⟨hg,hc⟩|⟨j,s,want,b,hg,hj,hb,hc⟩|⟨j,s,want,hg,hj,hb,hc⟩
  ·exact .inl ⟨hg,hc.congr hev⟩
  ·refine .inr (.inl ⟨j,s,want,b,hg,hj,by rw[<-hgu hg hj];exact hb,?_⟩);rcases hc with⟨h1,hc⟩|hc
   ·exact .inl ⟨h1,hc.congr hev⟩
   ·exact .inr hc
  ·exact .inr (.inr ⟨j,s,want,hg,hj,by rw[<-hgu hg hj];exact hb,hc⟩)
 ·refine .inr ⟨hpt,Tu,hd,hg,T,x,y,id,ds,hop,?_,hlen,?_,hT,hl,hpu⟩
  ·rw[<-hev x (by rw[hop];simp[Op.operands])];exact hx
  ·rw[<-hev y (by rw[hop];simp[Op.operands])];exact hc
def Cp.sl(p:Cp):Option (Nat×D):=p.t.map fun t=>(t,p.d)
theorem Cp.a5w(p:Cp)(σ:List (Nat×D)):p.slot σ=p.sl.toList++σ:=by
 unfold Cp.slot Cp.sl;cases p.t<;>rfl
theorem PA(p:Cp)(ps:List Cp)(σ:List (Nat×D)):((p::ps).filterMap Cp.sl).reverse++σ=(ps.filterMap Cp.sl).reverse++p.slot σ:=by
 rw[Cp.a5w,B8];cases p.sl<;>simp
theorem yh.a7i{H:bz}{σ:List (Nat×D)}{o:Oper}{p:Cp}(h:yh P Z all H σ o p):p.up=none\/p.obs=[]:=by
 rcases h with⟨_,_,h,_⟩|⟨_,h,_⟩
 ·exact .inl h
 ·exact .inr h
theorem yh.slots{H:bz}{σ:List (Nat×D)}{o:Oper}{p:Cp}(h:yh P Z all H σ o p):o.dst=p.t:=by
 rcases h with⟨t,h1,_,h2,_⟩|⟨h1,_,h2,_⟩
 ·rw[h1,h2]
 ·rw[h1,h2]
theorem FR.unfold{H:bz}{K:List (Nat×D)->bz->Prop}:∀(l:List Oper) (σ:List (Nat×D)) (acc:bz) (U:ah),FR P Z all H K l σ acc U->
 ∃(ps:List Cp) (R9:bz),ps.length=l.length/\(∀(i:Nat) o p,l[i]?=some o->ps[i]?=some p->yh P Z all H (((ps.take i).filterMap Cp.sl).reverse++σ) o p/\p.r=H.length+acc.length+((ps.take i).flatMap Cp.obs).length/\
  ∀id ob,p.up=some (id,ob)->id∉U/\H.length<=id/\(∃zs ds,ob=.box ds/\zs.length=ds.length/\(acc++(ps.take i).flatMap Cp.obs)[id-H.length]?=some (.box zs))/\∀(i2:Nat) q Nn,i2<i->ps[i2]?=some q->q.up≠some (id,Nn))/\
  K ((ps.filterMap Cp.sl).reverse++σ) R9/\R9.length=acc.length+(ps.flatMap Cp.obs).length/\
  (∀k,(∀(i:Nat) q ob,ps[i]?=some q->q.up≠some (H.length+k,ob))->R9[k]?=(acc++ps.flatMap Cp.obs)[k]?)/\
  ∀(i:Nat) q id ob,ps[i]?=some q->q.up=some (id,ob)->R9[id-H.length]?=some ob:=by
 intro l
 induction l with
 |nil=>
  intro σ acc U h;have h:K σ acc:=h;exact⟨[],acc,rfl,by simp,by simpa using h,by simp,by simp,by simp⟩
 |cons o l ih=>
  intro σ acc U h;obtain⟨p,hr,hc,hok,ua⟩:=h;obtain⟨ps,R9,h1,h2,h3,h4,h5,h6⟩:=ih _ _ _ ua;cases Vd:p.up with
  |none=>
   have ef:p.fill H.length acc=acc++p.obs:=by simp[Cp.fill,Vd]
   have eu:p.ups U=U:=by simp[Cp.ups,Vd]
   rw[ef]at h2 h4 h5;rw[eu]at h2;refine⟨p::ps,R9,by simp[h1],?_,by rw[PA];exact h3,by rw[h4];simp;omega,?_,?_⟩
   ·intro i o' p' ho hp;cases i with
    |zero=>
     simp at ho hp;subst ho;subst hp;refine⟨by simpa using hc,by simpa using hr,?_⟩;intro id ob he;rw[Vd]at he;cases he
    |succ i=>
     simp at ho hp;obtain⟨q1,q2,q3⟩:=h2 i o' p' ho hp;refine⟨by rw[td,PA];exact q1,by rw[q2];simp;omega,?_⟩;intro id ob he;obtain⟨r1,r2,⟨zs,ds,r3,r4,r5⟩,r6⟩:=q3 id ob he;refine⟨r1,r2,⟨zs,ds,r3,r4,by rw[<-r5];simp⟩,?_⟩;intro i2 q Nn hlt hq;cases i2 with
     |zero=>simp at hq;subst hq;rw[Vd];simp
     |succ i2=>exact r6 i2 q Nn (by omega) (by simpa using hq)
   ·intro k hk;rw[h5 k (fun i q ob hq=>hk (i+1) q ob (by simpa using hq))];simp
   ·intro i q id ob hq he;cases i with
    |zero=>simp at hq;subst hq;rw[Vd]at he;cases he
    |succ i=>exact h6 i q id ob (by simpa using hq) he
  |some x=>
   obtain⟨Y0,ob0⟩:=x;have ef:p.fill H.length acc=acc.set (Y0-H.length) ob0:=by simp[Cp.fill,Vd]
   have eu:p.ups U=Y0::U:=by simp[Cp.ups,Vd]
   have Xq:p.obs=[]:=by
    rcases hc.a7i with h|h
    ·rw[h]at Vd;cases Vd
    ·exact h
   rw[ef]at h2 h4 h5;rw[eu]at h2;simp only[Cp.aDE,Vd]at hok;obtain⟨u1,u2,zs0,ds0,u3,u4,u5⟩:=hok;have xI:∀(X:bz) (k:Nat),k≠Y0-H.length->(acc.set (Y0-H.length) ob0++X)[k]?=(acc++X)[k]?:=by
    intro X k hk;by_cases hl:k<acc.length
    ·rw[bJ (by simpa using hl),bJ hl,cz (rq hk)]
    ·rw[bW (by simpa using hl),bW (by omega)];simp
   have hno:∀(i:Nat) q Nn,ps[i]?=some q->q.up≠some (Y0,Nn):=by
    intro i q Nn hq he;have hlt:i<l.length:=by have:=(aN.1 hq).1;omega
    have:=(h2 i l[i] q (av hlt) hq).2.2 Y0 Nn he;exact this.1 (by simp)
   refine⟨p::ps,R9,by simp[h1],?_,by rw[PA];exact h3,by rw[h4];simp[Xq],?_,?_⟩
   ·intro i o' p' ho hp;cases i with
    |zero=>
     simp at ho hp;subst ho;subst hp;refine⟨by simpa using hc,by simpa using hr,?_⟩;intro id ob he;rw[Vd]at he;cases he;exact⟨u1,u2,⟨zs0,ds0,u4,u5,by simpa using u3⟩,by intro i2 q Nn hlt;omega⟩
    |succ i=>
     simp at ho hp;obtain⟨q1,q2,q3⟩:=h2 i o' p' ho hp;refine⟨by rw[td,PA];exact q1,by rw[q2];simp[Xq],?_⟩;intro id ob he;obtain⟨r1,r2,⟨zs,ds,r3,r4,r5⟩,r6⟩:=q3 id ob he;have hne:id≠Y0:=fun e=>r1 (by simp[e])
     refine⟨fun h=>r1 (by simp[h]),r2,⟨zs,ds,r3,r4,?_⟩,?_⟩
     ·rw[<-r5,xI _ _ (by omega)];simp[Xq]
     ·intro i2 q Nn hlt hq;cases i2 with
      |zero=>simp at hq;subst hq;rw[Vd];intro e;cases e;exact hne rfl
      |succ i2=>exact r6 i2 q Nn (by omega) (by simpa using hq)
   ·intro k hk;rw[h5 k (fun i q ob hq=>hk (i+1) q ob (by simpa using hq))];have hne:k≠Y0-H.length:=fun e=>hk 0 p ob0 rfl (by rw[Vd,e,show H.length+(Y0-H.length)=Y0 from by omega])
    rw[xI _ _ hne];simp[Xq]
   ·intro i q id ob hq he;cases i with
    |zero=>
     simp at hq;subst hq;rw[Vd]at he;cases he;rw[h5 (Y0-H.length) (fun i q Nn hq=>by rw[show H.length+(Y0-H.length)=Y0 from by omega];exact hno i q Nn hq)];have hl:Y0-H.length<acc.length:=(aN.1 u3).1;rw[bJ (by simpa using hl),eX hl]
    |succ i=>exact h6 i q id ob (by simpa using hq) he
theorem fE.same{σ':List (Nat×D)}(h:∀t,lk st.σ t=lk σ' t)(hs:fE Z st κ Θ a w):fE Z ⟨σ',st.H⟩ κ Θ a w:=
 ⟨hs.defers,hs.size,hs.uY,hs.tF,fun t=>by show∃bs,vR w κ _ (lk σ' t) bs/\_;rw[<-h t];exact hs.slot t,hs.ob,hs.own,hs.old,hs.mine,hs.stays,hs.vo⟩
theorem fE.room(hs:fE Z st κ Θ a w)(m:Nat):fE Z ⟨st.σ,st.H++List.replicate m .gone⟩ κ Θ a w:=by
 have key:∀(j:Nat) y,(st.H++List.replicate m .gone)[j]?=some y->y=.gone\/st.H[j]?=some y:=by
  intro j y hj;by_cases hlt:j<st.H.length
  ·rw[bJ hlt]at hj;exact .inr hj
  ·rw[bW (by omega)]at hj;rw[List.getElem?_replicate]at hj;split at hj
   ·cases hj;exact .inl rfl
   ·cases hj
 obtain⟨ρ,hu⟩:=hs.vo;refine⟨hs.defers,hs.size,fun i hi=>hs.uY i (by simp at hi;omega),hs.tF,hs.slot,?_,hs.own,hs.old,hs.mine,hs.stays,ρ,hu.free,?_,?_⟩
 ·intro j o hj;rcases key j o hj with rfl|h
  ·trivial
  ·exact hs.ob j o h
 ·intro id e sz rows hj;rcases key id _ hj with h|h
  ·cases h
  ·exact hu.rows id e sz rows h
 ·intro id o hj;rcases key id _ hj with h|h
  ·subst h;trivial
  ·exact hu.more id o h
theorem A9{ps:List Cp}{i:Nat}{p:Cp}(h:ps[i]?=some p):ps.flatMap Cp.obs=(ps.take i).flatMap Cp.obs++(p.obs++(ps.drop (i+1)).flatMap Cp.obs):=by
 have e:ps=ps.take i++(p::ps.drop (i+1)):=by
  obtain⟨hlt,rfl⟩:=aN.1 h;rw[Ee,cc]
 conv=>lhs;rw[e]
 simp
theorem MH{ps:List Cp}:∀ {k:Nat},k<(ps.flatMap Cp.obs).length->∃(i:Nat) (p:Cp) (j:Nat),ps[i]?=some p/\j<p.obs.length/\k=((ps.take i).flatMap Cp.obs).length+j:=by
 induction ps with
 |nil=>intro k h;simp at h
 |cons p ps ih=>
  intro k h;by_cases hk:k<p.obs.length
  ·exact⟨0,p,k,rfl,hk,by simp⟩
  ·simp only[cw,bB]at h;obtain⟨i,q,j,h1,h2,h3⟩:=ih (k:=k-p.obs.length) (by omega);refine⟨i+1,q,j,by simpa using h1,h2,?_⟩;rw[td,cw,bB];omega
theorem Zd{ps:List Cp}{i j:Nat}{p:Cp}(hp:ps[i]?=some p)(hij:i<j):((ps.take i).flatMap Cp.obs).length+p.obs.length<=((ps.take j).flatMap Cp.obs).length:=by
 have h:(ps.take j)[i]?=some p:=by rw[dP,bP hij];exact hp
 have:=A9 h;rw[this];have e:(ps.take j).take i=ps.take i:=by rw[ye,jt (by omega)]
 rw[e];simp only[bB];omega
end
end Go.Cx
