/- The core of an abstract reading of Go's data: what a value shows in memory (D), which blocks it uses, and that this stays where those blocks stay. No condition; plain lemmas. -/
import Derived.WalkKit
import Derived.ProofKit
import Derived.Deep.LoopGhost
import Derived.MapKept
import Derived.Great.BuildSlice
import Derived.Maps.AppendAt
set_option linter.unusedVariables false
set_option linter.unusedSimpArgs false
namespace Go.Cx
open Go.RowKit
set_option linter.defProp false
def aA:=@Option.bind_some
def aE:=@List.mem_of_getElem?
def aF:=@List.getElem?_eq_some_iff
def aH:=@cond_true
def aQ:=@cond_false
def aS:=@Bool.and_eq_true
def aV:=@List.length_cons
def aa:=@List.getElem?_eq_getElem
def af:=@List.mem_append
def aj:=@List.all_eq_true
def aq:=@Option.some.injEq
def au:=@List.getElem?_append_left
def av:=@List.map_cons
def ax:=@List.length_map
def ay:=@decide_eq_true
def az:=@if_neg
def b9:=@Option.bind_eq_some_iff
def bA:=@List.getElem?_append_right
def bB:=@List.mem_cons
def bC:=@List.length_append
def bD:=@decide_eq_true_eq
def bG:=@List.map_append
def bH:=@decide_eq_false
def bI:=@Array.getElem?_eq_some_iff
def bK:=@if_pos
def bM:=@List.nodup_append
def bQ:=@Bool.not_true
def bR:=@Nat.le_refl
def bY:=@of_decide_eq_true
def bZ:=@List.map_nil
def bf:=@List.mem_range
def bg:=@List.mem_flatMap
def bh:=@List.map_drop
def bn:=@List.map_take
def bp:=@Bool.eq_iff_iff
def br:=@List.length_nil
def bt:=@List.getElem?_map
def bu:=@List.mem_map
def bz:=@Bool.not_false
def cA:=@List.mem_singleton
def cC:=@List.mem_filterMap
def cD:=@List.take_append_drop
def cE:=@List.getElem?_set_ne
def cF:=@Array.getD_eq_getD_getElem?
def cH:=@List.flatMap_cons
def cI:=@List.mem_of_mem_take
def cJ:=@List.foldl_cons
def cM:=@List.getElem?_eq_none
def cP:=@Array.getElem?_eq_getElem
def cQ:=@List.length_take
def cR:=@List.getElem?_take
def cU:=@Option.map_some
def cW:=@Prod.mk.injEq
def cY:=@Nat.zero_add
def cZ:=@List.eq_nil_of_length_eq_zero
def cq:=@beq_iff_eq
def cu:=@List.append_assoc
def cv:=@List.any_eq_true
def cw:=@List.nil_append
def cy:=@beq_eq_false_iff_ne
def dA:=@List.append_nil
def dB:=@List.nodup_cons
def dM:=@Nat.add_sub_cancel_left
def dO:=@Classical.byContradiction
def dS:=@Nat.lt_of_lt_of_le
def dW:=@List.all_cons
def dX:=@List.getElem?_set_self
def dY:=@Nat.le_trans
def dZ:=@List.getElem?_of_mem
def dh:=@Nat.mul_le_mul_right
def dw:=@List.mem_reverse
def eN:=@Nat.mul_le_mul_left
def eO:=@Nat.lt_or_ge
def eS:=@List.mem_iff_getElem
def eT:=@Option.isSome_iff_exists
def eW:=@List.flatten_cons
def eZ:=@Array.getElem?_append_left
def eb:=@List.getElem?_drop
def ey:=@List.length_singleton
def fC:=@Bool.true_and
def fJ:=@Nat.min_eq_left
def fy:=@List.drop_left'
def gA:=@List.mem_filter
def gB:=@List.getElem?_cons_succ
def gC:=@List.mem_flatten
def gO:=@List.getElem?_set
def gm:=@List.drop_drop
def gu:=@Array.toList_map
def iJ:=@List.mem_of_mem_drop
def ig:=@List.take_left'
def jS:=@Prod.mk.inj
def jW:=@List.getElem?_toArray
def k8:=@Array.toArray_toList
def k9:=@Nat.add_mul
def kr:=@List.cons.inj
def kw:=@List.ext_getElem?
def kx:=@List.getD_eq_getElem?_getD
def kz:=@Option.mem_toList
def lR:=@Array.toList_append
def lS:=@List.flatten_append
def mL:=@Array.mapM_eq_mapM_toList
def mS:=@List.pairwise_cons
def nD:=@List.getLast?_concat
def nE:=@Nat.one_mul
def nR:=@Bool.not_eq_true'
def nS:=@Int.eq_ofNat_of_zero_le
def nT:=@List.filter_cons_of_neg
def nU:=@decide_eq_false_iff_not
def nk:=@Bool.or_eq_true
def o9:=@List.map_congr_left
def oY:=@List.getElem_mem
def oZ:=@List.map_toArray
def pF:=@Nat.le_of_ble_eq_true
def pL:=@List.length_set
def pM:=@Option.some.inj
def pX:=@Int.toNat_natCast
def pY:=@Nat.sub_self
def qL:=@List.length_erase_of_mem
def qM:=@Nat.add_assoc
def qd:=@if_true
def ql:=@Array.toList_inj
def qm:=@List.cons_append
def qn:=@List.filter_cons_of_pos
def qo:=@beq_self_eq_true
def rR:=@Array.getElem?_eq_none
def rS:=@List.drop_eq_nil_of_le
def rT:=@List.take_of_length_le
def rU:=@Nat.add_zero
def rV:=@Ne.symm
def sA:=@true_and
def sX:=@Bool.false_or
def sY:=@Bool.or_false
def sx:=@Array.getElem?_toList
def sy:=@List.length_filter_le
def tA:=@List.set_append_right
def tS:=@List.take_take
def tT:=@Nat.pow_le_pow_right
def tU:=@eq_iff_iff
def uC:=@Option.getD_some
def uU:=@List.drop_eq_getElem_cons
def uV:=@List.exists_mem_of_ne_nil
def uW:=@List.mem_or_eq_of_mem_set
def uc:=@Array.length_toList
def ud:=@List.take_succ_cons
def vC:=@Nat.not_lt_zero
def vJ:=@Array.all_eq_true'
def vK:=@Nat.lt_or_gt_of_ne
def w8:=@Bool.and_false
def w9:=@Nat.lt_trichotomy
def wA:=@Nat.pow_succ
def wB:=@Nat.sub_zero
def wU:=@Array.getElem?_modify
def wV:=@List.concat_eq_append
def wW:=@List.eq_nil_or_concat
def wq:=@Bool.not_eq_true
def wu:=@List.eq_nil_iff_forall_not_mem
def wv:=@List.length_drop
def wz:=@List.take_length
def xM:=@Bool.and_true
def xN:=@List.any_cons
def xR:=@List.Pairwise.filter
def yE:=@Option.map_none
def yF:=@not_or
def yW:=@List.filterMap_cons
def yX:=@List.filter_eq_self
def yq:=@List.map_map
def zI:=@Array.getElem_append_right
def zJ:=@Bool.false_eq_true
def zK:=@List.filter_append
def zL:=@List.filter_filter
def zM:=@Nat.add_sub_cancel
def zN:=@if_false
def AG:=@Array.getElem_append_left
def AP:=@List.filter_congr
def AQ:=@List.size_toArray
def Ah:=@List.eq_of_mem_replicate
def Ai:=@List.getElem?_take_of_lt
def BA:=@List.filter_cons
def BB:=@List.getElem?_cons_zero
def BC:=@List.nodup_range
def BD:=@Nat.le_mul_of_pos_right
def Bv:=@Int.le_of_lt
def Bw:=@Int.le_trans
def Bx:=@List.drop_of_length_le
def By:=@List.getElem_cons_drop
def Bz:=@List.length_pos_of_mem
def C0:=@Nat.mul_comm
def C1:=@Option.map_eq_some_iff
def Cg:=@Int.ediv_nonneg
def Cs:=@Bool.and_eq_false_iff
def Ct:=@List.length_replicate
def Cu:=@List.pairwise_flatMap
def Cv:=@List.singleton_append
def Cw:=@UInt8.lt_iff_toNat_lt
def Db:=@List.drop_zero
def Dc:=@List.mapM_cons
def Dd:=@Nat.zero_le
def De:=@decide_true
def GI:=@Nat.mul_assoc
def Ht:=@List.all_map
def Hu:=@List.any_nil
def Hv:=@Nat.succ_mul
abbrev Bytes:=List UInt8
inductive D where
 |any
 |nil
 |int (k:IntKind) (n:Int)
 |bool (b:Bool)
 |str (s:Bytes)
 |sl (rows:List (List D))
 |agg (cells:List D)
 |iE (vs:List D)
 |ep (row:List D) (off:Nat)
 |acc (id:Nat)
 |ptr (id off:Nat)
 |op (id i sz off:Nat)
 |val (v:Value)
 |fr (e:TypeId) (sz:Nat) (rows:List (List D))
 |pt (cells:List D)
 |ifc (b:Bool)
def pN(k:IntKind)(n:Int):Prop:=k.min<=n/\n<=k.max
instance (k:IntKind) (n:Int):Decidable (pN k n):=by unfold pN;infer_instance
theorem pN.wrap(k:IntKind)(n:Int):pN k (k.wrap n):=by
 unfold pN;cases k<;>simp[IntKind.min,IntKind.max,IntKind.wrap,IntKind.bits,IntKind.signed]<;>(try split)<;>omega
theorem pN.i64{n:Int}:pN .i64 n↔ -9223372036854775808<=n/\n<=9223372036854775807:=by
 simp[pN,IntKind.min,IntKind.max,IntKind.bits,IntKind.signed]
theorem pN.u8{n:Int}:pN .u8 n↔0<=n/\n<=255:=by
 simp[pN,IntKind.min,IntKind.max,IntKind.bits,IntKind.signed]
theorem pN.zero(k:IntKind):pN k 0:=by
 unfold pN;cases k<;>simp[IntKind.min,IntKind.max,IntKind.bits,IntKind.signed]
theorem pN.down{k:IntKind}{n m:Int}(h:pN k n)(h0:0<=m)(h1:m<=n):pN k m:=
 ⟨Bw (pN.zero k).1 h0,Bw h1 h.2⟩
mutual
inductive Rd(w:World):Value->D->List Nat->Prop
 |any (v:Value):Rd w v .any []
 |nil:Rd w (.slice none 0 0) .nil []
 |int (k:IntKind) (n:Int):pN k n->Rd w (.int k n) (.int k n) []
 |bool (b:Bool):Rd w (.bool b) (.bool b) []
 |str (s:ByteArray):s.size<=maxLen->Rd w (.string s) (.str s.data.toList) []
 |val (v:Value):Rd w v (.val v) []
 |yp:Rd w (.slice none 0 0) (.sl []) []
 |oO (a:Addr) (cap:Nat):cap<=maxLen->Rd w (.slice (some a) 0 cap) (.sl []) []
 |sl (b off cap sz:Nat) (rows:List (List D)) (cs:List Value) (bs:List Nat):b<w.heap.size->rows.length<=cap->cap<=maxLen->
  (∀r∈rows,r.length=sz)->(∀j c,cs[j]?=some c->w.cell? ⟨b,off+j,none⟩=some c)->l6 w cs rows.flatten bs->
  Rd w (.slice (some ⟨b,off,none⟩) rows.length cap) (.sl rows) (b::bs)
 |agg (cs:List Value) (ds:List D) (bs:List Nat):l6 w cs ds bs->Rd w (.agg cs.toArray) (.agg ds) bs
 |ep (b off:Nat) (cs:List Value) (row:List D) (o:Nat) (bs:List Nat):b<w.heap.size->(∀j c,cs[j]?=some c->w.cell? ⟨b,off+j,none⟩=some c)->
  l6 w cs row bs->Rd w (.pointer (some ⟨b,off+o,none⟩)) (.ep row o) (b::bs)
 |UY:Rd w .nilIface (.ifc false) []
 |UZ (t:TypeId) (v:Value):Rd w (.iface t v) (.ifc true) []
inductive l6(w:World):List Value->List D->List Nat->Prop
 |nil:l6 w [] [] []
 |cons (v:Value) (vs:List Value) (d:D) (ds:List D) (b1 b2:List Nat):v.oneCell'=true->Rd w v d b1->l6 w vs ds b2->l6 w (v::vs) (d::ds) (b1++b2)
end
section
variable{w w':World}
theorem BF{b o:Nat}(h:w'.heap[b]?=w.heap[b]?):w'.cell? ⟨b,o,none⟩=w.cell? ⟨b,o,none⟩:=World.cell?_of_block (a:=⟨b,o,none⟩) h
theorem J1{b:Nat}(hb:b<w.heap.size)(h:w'.heap[b]?=w.heap[b]?):b<w'.heap.size:=by
 rw[cP hb]at h;exact(bI.1 h).1
theorem Nr:
 (∀ {v d bs},Rd w v d bs->(∀b∈bs,w'.heap[b]?=w.heap[b]?)->Rd w' v d bs)/\
 (∀ {vs ds bs},l6 w vs ds bs->(∀b∈bs,w'.heap[b]?=w.heap[b]?)->l6 w' vs ds bs):=by
 have key:∀(m1:∀v d bs,Rd w v d bs->Prop) (m2:∀vs ds bs,l6 w vs ds bs->Prop),
  m1=(fun v d bs _=>(∀b∈bs,w'.heap[b]?=w.heap[b]?)->Rd w' v d bs)->m2=(fun vs ds bs _=>(∀b∈bs,w'.heap[b]?=w.heap[b]?)->l6 w' vs ds bs)->
  (∀v d bs h,m1 v d bs h)/\(∀vs ds bs h,m2 vs ds bs h):=by
  intro m1 m2 e1 e2;subst e1;subst e2;constructor
  all_goals intro v d bs h
  ·refine Rd.rec (motive_1:=fun v d bs _=>(∀b∈bs,w'.heap[b]?=w.heap[b]?)->Rd w' v d bs) (motive_2:=fun vs ds bs _=>(∀b∈bs,w'.heap[b]?=w.heap[b]?)->l6 w' vs ds bs) ?_ ?_ ?_ ?_ ?_ ?_ ?_ ?_ ?_ ?_ ?_ ?_ ?_ ?_ ?_ h
   ·intro v _;exact .any _
   ·intro _;exact .nil
   ·intro k n h _;exact .int _ _ h
   ·intro b _;exact .bool _
   ·intro s h _;exact .str _ h
   ·intro v _;exact .val _
   ·intro _;exact .yp
   ·intro a cap h _;exact .oO a cap h
   ·intro b off cap sz rows cs bs h0 h1 h2 h3 h4 _ ih hb;exact .sl b off cap sz rows cs bs (J1 h0 (hb b (by simp))) h1 h2 h3 (fun j c hc=>(BF (hb b (by simp))).trans (h4 j c hc)) (ih (fun x hx=>hb x (by simp[hx])))
   ·intro cs ds bs _ ih hb;exact .agg cs ds bs (ih hb)
   ·intro b off cs row o bs h0 h4 _ ih hb;exact .ep b off cs row o bs (J1 h0 (hb b (by simp))) (fun j c hc=>(BF (hb b (by simp))).trans (h4 j c hc)) (ih (fun x hx=>hb x (by simp[hx])))
   ·intro _;exact .UY
   ·intro t v _;exact .UZ t v
   ·intro _;exact .nil
   ·intro v vs d ds b1 b2 h1 _ _ ih1 ih2 hb;exact .cons v vs d ds b1 b2 h1 (ih1 (fun x hx=>hb x (by simp[hx]))) (ih2 (fun x hx=>hb x (by simp[hx])))
  ·refine l6.rec (motive_1:=fun v d bs _=>(∀b∈bs,w'.heap[b]?=w.heap[b]?)->Rd w' v d bs) (motive_2:=fun vs ds bs _=>(∀b∈bs,w'.heap[b]?=w.heap[b]?)->l6 w' vs ds bs) ?_ ?_ ?_ ?_ ?_ ?_ ?_ ?_ ?_ ?_ ?_ ?_ ?_ ?_ ?_ h
   ·intro v _;exact .any _
   ·intro _;exact .nil
   ·intro k n h _;exact .int _ _ h
   ·intro b _;exact .bool _
   ·intro s h _;exact .str _ h
   ·intro v _;exact .val _
   ·intro _;exact .yp
   ·intro a cap h _;exact .oO a cap h
   ·intro b off cap sz rows cs bs h0 h1 h2 h3 h4 _ ih hb;exact .sl b off cap sz rows cs bs (J1 h0 (hb b (by simp))) h1 h2 h3 (fun j c hc=>(BF (hb b (by simp))).trans (h4 j c hc)) (ih (fun x hx=>hb x (by simp[hx])))
   ·intro cs ds bs _ ih hb;exact .agg cs ds bs (ih hb)
   ·intro b off cs row o bs h0 h4 _ ih hb;exact .ep b off cs row o bs (J1 h0 (hb b (by simp))) (fun j c hc=>(BF (hb b (by simp))).trans (h4 j c hc)) (ih (fun x hx=>hb x (by simp[hx])))
   ·intro _;exact .UY
   ·intro t v _;exact .UZ t v
   ·intro _;exact .nil
   ·intro v vs d ds b1 b2 h1 _ _ ih1 ih2 hb;exact .cons v vs d ds b1 b2 h1 (ih1 (fun x hx=>hb x (by simp[hx]))) (ih2 (fun x hx=>hb x (by simp[hx])))
 obtain⟨k1,k2⟩:=key _ _ rfl rfl;exact⟨fun h=>k1 _ _ _ h,fun h=>k2 _ _ _ h⟩
theorem Rd.keep{v:Value}{d:D}{bs:List Nat}(h:Rd w v d bs)(hb:∀b∈bs,w'.heap[b]?=w.heap[b]?):Rd w' v d bs:=Nr.1 h hb
theorem l6.keep{vs:List Value}{ds:List D}{bs:List Nat}(h:l6 w vs ds bs)(hb:∀b∈bs,w'.heap[b]?=w.heap[b]?):l6 w' vs ds bs:=Nr.2 h hb
theorem Rd.lt{v:Value}{d:D}{bs:List Nat}(h:Rd w v d bs):∀b∈bs,b<w.heap.size:=by
 refine Rd.rec (motive_1:=fun v d bs _=>∀b∈bs,b<w.heap.size) (motive_2:=fun vs ds bs _=>∀b∈bs,b<w.heap.size) ?_ ?_ ?_ ?_ ?_ ?_ ?_ ?_ ?_ ?_ ?_ ?_ ?_ ?_ ?_ h
 case refine_9=>
  intro b off cap sz rows cs bs h0 h1 h2 h3 h4 _ ih x hx;rcases bB.1 hx with rfl|hx
  ·exact h0
  ·exact ih x hx
 case refine_10=>intro cs ds bs _ ih;exact ih
 case refine_11=>
  intro b off cs row o bs h0 h4 _ ih x hx;rcases bB.1 hx with rfl|hx
  ·exact h0
  ·exact ih x hx
 case refine_15=>
  intro v vs d ds b1 b2 h1 _ _ ih1 ih2 x hx;rcases af.1 hx with hx|hx
  ·exact ih1 x hx
  ·exact ih2 x hx
 all_goals intros;simp_all
theorem l6.lt{vs:List Value}{ds:List D}{bs:List Nat}(h:l6 w vs ds bs):∀b∈bs,b<w.heap.size:=by
 induction ds generalizing vs bs with
 |nil=>cases h;simp
 |cons d ds ih=>
  cases h with
  |cons v vs _ _ b1 b2 h1 h2 h3=>
   intro x hx;rcases af.1 hx with hx|hx
   ·exact h2.lt x hx
   ·exact ih h3 x hx
theorem l6.length{vs:List Value}{ds:List D}{bs:List Nat}(h:l6 w vs ds bs):vs.length=ds.length:=by
 induction ds generalizing vs bs with
 |nil=>cases h;rfl
 |cons d ds ih=>cases h with|cons v vs _ _ b1 b2 h1 h2 h3=>simp[ih h3]
theorem l6.one{vs:List Value}{ds:List D}{bs:List Nat}(h:l6 w vs ds bs):∀v∈vs,v.oneCell'=true:=by
 induction ds generalizing vs bs with
 |nil=>cases h;simp
 |cons d ds ih=>
  cases h with
  |cons v vs _ _ b1 b2 h1 h2 h3=>
   intro u hu;rcases bB.1 hu with rfl|hu
   ·exact h1
   ·exact ih h3 u hu
theorem l6.app{vs us:List Value}{ds es:List D}{bs cs:List Nat}(h:l6 w vs ds bs)(k:l6 w us es cs):l6 w (vs++us) (ds++es) (bs++cs):=by
 induction ds generalizing vs bs with
 |nil=>cases h;simpa using k
 |cons d ds ih=>
  cases h with
  |cons v vs _ _ b1 b2 h1 h2 h3=>
   rw[cu];exact .cons _ _ _ _ _ _ h1 h2 (ih h3)
theorem l6.split{vs:List Value}{ds es:List D}{bs:List Nat}(h:l6 w vs (ds++es) bs):
 ∃v1 v2 b1 b2,vs=v1++v2/\bs=b1++b2/\l6 w v1 ds b1/\l6 w v2 es b2:=by
 induction ds generalizing vs bs with
 |nil=>exact⟨[],vs,[],bs,by simp,by simp,.nil,h⟩
 |cons d ds ih=>
  cases h with
  |cons v vs _ _ b1 b2 h1 h2 h3=>
   obtain⟨v1,v2,c1,c2,rfl,rfl,k1,k2⟩:=ih h3;exact⟨v::v1,v2,b1++c1,c2,by simp,by simp,.cons _ _ _ _ _ _ h1 h2 k1,k2⟩
theorem l6.mid{vs:List Value}{ds:List D}{bs:List Nat}(h:l6 w vs ds bs)(i n:Nat):
 ∃b,l6 w ((vs.drop i).take n) ((ds.drop i).take n) b/\∀x∈b,x∈bs:=by
 have e:ds=ds.take i++((ds.drop i).take n++(ds.drop i).drop n):=by rw[cD,cD]
 rw[e]at h;obtain⟨v1,v2,b1,b2,rfl,rfl,k1,k2⟩:=h.split;obtain⟨v3,v4,b3,b4,rfl,rfl,k3,k4⟩:=k2.split;refine⟨b3,?_,by intro x hx;simp[hx]⟩;have l1:=k1.length;have l3:=k3.length;by_cases hi:i<=ds.length
 ·have h1:v1.length=i:=by rw[l1];simp[hi]
  rw[fy h1];by_cases hn:n<=(ds.drop i).length
  ·have h3:v3.length=n:=by rw[l3,cQ];omega
   rw[ig h3];exact k3
  ·have h4:v4.length=0:=by rw[k4.length];simp at hn⊢;omega
   have h4':v4=[]:=cZ h4;subst h4';have h3:v3.length<=n:=by rw[l3,cQ];omega
   simp only[dA];rw[rT h3];exact k3
 ·have h5:ds.drop i=[]:=rS (by omega);rw[h5]at k3 k4⊢;simp only[List.take_nil,List.drop_nil]at k3 k4⊢;cases k3;cases k4;have h1:v1.length<=i:=by rw[l1];simp;omega
  simp[Bx h1];exact .nil
theorem l6.at{vs:List Value}{ds:List D}{bs:List Nat}(h:l6 w vs ds bs){i:Nat}{d:D}(hd:ds[i]?=some d):
 ∃v b,vs[i]?=some v/\v.oneCell'=true/\Rd w v d b/\∀x∈b,x∈bs:=by
 induction ds generalizing vs bs i with
 |nil=>simp at hd
 |cons e ds ih=>
  cases h with
  |cons v vs _ _ b1 b2 h1 h2 h3=>
   cases i with
   |zero=>simp at hd;subst hd;exact⟨v,b1,by simp,h1,h2,by intro x hx;simp[hx]⟩
   |succ i=>
    simp at hd;obtain⟨u,b,k1,k2,k3,k4⟩:=ih h3 hd;exact⟨u,b,by simpa using k1,k2,k3,fun x hx=>by simp[k4 x hx]⟩
end
theorem oX{α:Type}{rows:List (List α)}{sz:Nat}(h:∀r∈rows,r.length=sz):rows.flatten.length=rows.length*sz:=by
 induction rows with
 |nil=>simp
 |cons r rows ih=>
  simp only[eW,bC,aV];rw[ih (fun x hx=>h x (by simp[hx])),h r (by simp),k9];omega
theorem EW{α:Type}{rows:List (List α)}{sz:Nat}(h:∀r∈rows,r.length=sz){i:Nat}{r:List α}(hr:rows[i]?=some r):
 (rows.flatten.drop (i*sz)).take sz=r:=by
 induction rows generalizing i with
 |nil=>simp at hr
 |cons s rows ih=>
  have hs:=h s (by simp);cases i with
  |zero=>
   simp at hr;subst hr;simp only[Nat.zero_mul,Db,eW];exact ig hs
  |succ i=>
   simp only[gB]at hr;have:=ih (fun x hx=>h x (by simp[hx])) hr;rw[eW,k9,nE,Nat.add_comm,<-gm,fy hs];exact this
end Go.Cx
namespace Go.Cx
open Go.RowKit
abbrev aG:=List Bytes
abbrev aP:=List D
abbrev aX:=List Nat
abbrev bJ:=List Int
abbrev bw:=List Value
def yA:List (Nat×(bw->Prop)):=[(2,fun cs:bw=>cs=[.int .u64 1,.int .u64 10,.int .u64 100,.int .u64 1000,.int .u64 10000,.int .u64 100000,.int .u64 1000000,.int .u64 10000000,.int .u64 100000000,.int .u64 1000000000,.int .u64 10000000000,.int .u64 100000000000,.int .u64 1000000000000,.int .u64 10000000000000,.int .u64 100000000000000,.int .u64 1000000000000000,.int .u64 10000000000000000,.int .u64 100000000000000000,.int .u64 1000000000000000000,.int .u64 10000000000000000000]),(3,fun cs:bw=>∃tp p,cs=[Value.iface tp p])]
def VsB(w:World)(B:Nat->Prop):Prop:=∀x∈yA,B x.1/\∃cs t z,w.heap[x.1]?=some (.cells cs t z)/\x.2 cs.toList
def N9(w:World)(X:Nat->Prop):Prop:=∃B:Nat->Prop,VsB w B/\∀b,B b->b<w.heap.size/\¬X b
def PW:List (Nat×aP):=[]
def a1A(g:Nat)(ds:aP):Prop:=∃p,(g,p)∈yA/\∀cs:bw,p cs->∀(o:Nat) d,ds[o]?=some d->∃v,cs[o]?=some v/\∀w,Rd w v d []
theorem Sr:∀x∈PW,a1A x.1 x.2:=by intro x hx;cases hx
def U6(g o:Nat):Option D:=(PW.find? fun x=>x.1==g).bind fun x=>x.2[o]?
theorem Yj{g o:Nat}{d:D}(h:U6 g o=some d):∃ds,a1A g ds/\ds[o]?=some d:=by
 unfold U6 at h;cases hf:PW.find? fun x=>x.1==g with
 |none=>rw[hf]at h;cases h
 |some x=>
  rw[hf,aA]at h;have h1:=List.find?_some hf;have h2:=List.mem_of_find?_eq_some hf;have e:x.1=g:=by simpa using h1
  exact⟨x.2,by rw[<-e];exact Sr x h2,h⟩
theorem VsB.stays{w w':World}{B:Nat->Prop}(h:VsB w B)(hb:∀b,B b->w'.heap[b]?=w.heap[b]?):VsB w' B:=fun x hx=>by
 obtain⟨h1,cs,t,z,h2,h3⟩:=h x hx;exact⟨h1,cs,t,z,by rw[hb _ h1,h2],h3⟩
theorem N9.cells{w:World}{X:Nat->Prop}(h:N9 w X){g:Nat}{p:bw->Prop}(hx:(g,p)∈yA):∃cs t z,w.heap[g]?=some (.cells cs t z)/\p cs.toList:=by
 obtain⟨B,h1,h2⟩:=h;exact(h1 _ hx).2
theorem N9.var{P:Program}{w:World}{X:Nat->Prop}(h:N9 w X){g:Nat}{p:bw->Prop}{name:String}(hx:(g,p)∈yA)(hg:P.globalNamed name=some g):∃cs,w.var? P name=some cs/\p cs.toList:=by
 obtain⟨cs,t,z,h1,h2⟩:=h.cells hx;refine⟨cs,?_,h2⟩;unfold World.var?;rw[hg,aA,h1]
theorem N9.a3f{P:Program}{w:World}(hs:∀x∈yA,∃name cs,P.globalNamed name=some x.1/\w.var? P name=some cs/\x.2 cs.toList):N9 w fun _=>False:=by
 refine⟨fun b=>b∈yA.map Prod.fst,fun x hx=>?_,fun b hb=>?_⟩
 ·obtain⟨name,cs,h1,h2,h3⟩:=hs x hx;unfold World.var? at h2;rw[h1,aA]at h2;refine⟨bu.2 ⟨x,hx,rfl⟩,?_⟩;split at h2
  ·rename_i cs' t z h4;cases h2;exact⟨_,t,z,h4,h3⟩
  ·cases h2
 ·obtain⟨x,hx,rfl⟩:=bu.1 hb;obtain⟨name,cs,h1,h2,h3⟩:=hs x hx;unfold World.var? at h2;rw[h1,aA]at h2;refine⟨?_,id⟩;split at h2
  ·rename_i cs' t z h4;exact(bI.1 h4).1
  ·cases h2
end Go.Cx
namespace Go.Cx
open Go.RowKit
structure ul where
 W0:World
 Θ0:Nat->Nat
 X:Nat->Prop
 nt:Nat
 U:Nat->Prop
 vs:N9 W0 X
inductive RK where
 |sh
 |uq
 |cl
 |mv (n:Nat)
def RK.P5:RK->Bool
 | .cl=>false
 |_=>true
def RK.hand:RK->Bool
 | .sh=>true
 | .uq=>true
 |_=>false
inductive Ob where
 |box (cells:aP)
 |DU (cells:aP) (v:Value)
 |row (k:RK) (e:TypeId) (sz:Nat) (rows:List aP)
 |wP (sz:Nat) (rows:List aP) (v:Option Value)
 |hole (sz:Nat) (rows:List aP) (v:Option Value) (p n:Nat)
 |mp (kv:List (D×D))
 |tk (rows:List aP)
 |gone
def Ob.UK:Ob->Option aP
 | .box c=>some c
 | .DU c _=>some c
 |_=>none
def Ob.re(o:Ob)(c:aP):Ob:=match o with
 | .DU _ v=>.DU c v
 |_=>.box c
structure St where
 σ:List (Nat×D)
 H:List Ob
def lk:List (Nat×D)->Nat->D
 | [],_=>.any
 | (t,d)::r,n=>if n=t then d else lk r n
def D.SM:Value->D
 | .bool b=>.bool b
 | .int k n=>if pN k n then .int k n else .val (.int k n)
 | .string s=>if s.size<=maxLen then .str s.data.toList else .val (.string s)
 | .slice none 0 0=>.nil
 |v=>.val v
def St.ev(st:St):Operand->D
 | .tmp t=>lk st.σ t
 | .const v=>D.SM v
 | .global g=>.val (.pointer (some ⟨g,0,none⟩))
 | .func f=>.val (.func (.func f) #[] #[])
def St.set(st:St)(t:Nat)(d:D):St:=⟨(t,d)::st.σ,st.H⟩
def St.put(st:St)(t:Option Nat)(d:D):St:=match t with|some t=>st.set t d|none=>st
inductive zC(w:World)(κ:Nat->Option Value):Value->D->List Nat->Prop
 |pure {v:Value} {d:D} {bs:aX}:Rd w v d bs->zC w κ v d bs
 |acc (id:Nat) (v:Value):κ id=some v->zC w κ v (.acc id) []
 |ptr (id off b:Nat):κ id=some (.pointer (some ⟨b,0,none⟩))->zC w κ (.pointer (some ⟨b,off,none⟩)) (.ptr id off) []
 |op (id i sz off b o0 len cap:Nat):κ id=some (.slice (some ⟨b,o0,none⟩) len cap)->zC w κ (.pointer (some ⟨b,o0+(i*sz+off),none⟩)) (.op id i sz off) []
inductive fS(w:World)(κ:Nat->Option Value):List Value->List D->List Nat->Prop
 |nil:fS w κ [] [] []
 |cons (v:Value) (vs:bw) (d:D) (ds:aP) (b1 b2:aX):v.oneCell'=true->zC w κ v d b1->fS w κ vs ds b2->fS w κ (v::vs) (d::ds) (b1++b2)
inductive LV(w:World)(κ:Nat->Option Value):Value->D->List Nat->Prop
 |cell {v:Value} {d:D} {bs:aX}:zC w κ v d bs->LV w κ v d bs
 |agg (cs:bw) (ds:aP) (bs:aX):fS w κ cs ds bs->LV w κ (.agg cs.toArray) (.agg ds) bs
inductive C3(w:World)(κ:Nat->Option Value):List Value->List D->List Nat->Prop
 |nil:C3 w κ [] [] []
 |cons (v:Value) (vs:bw) (d:D) (ds:aP) (b1 b2:aX):LV w κ v d b1->C3 w κ vs ds b2->C3 w κ (v::vs) (d::ds) (b1++b2)
inductive rW(w:World)(κ:Nat->Option Value):Value->D->List Nat->Prop
 |v {v:Value} {d:D} {bs:aX}:LV w κ v d bs->rW w κ v d bs
 |iE (vs:bw) (ds:aP) (bs:aX):C3 w κ vs ds bs->rW w κ (.tuple vs.toArray) (.iE ds) bs
theorem rW.of{w:World}{κ:Nat->Option Value}{v:Value}{d:D}{bs:aX}(h:Rd w v d bs):rW w κ v d bs:=.v (.cell (.pure h))
def Wr(w:World)(b:Nat):Prop:=∃cs T,w.heap[b]?=some (.cells cs T (0,0))
def RdH(w:World)(κ:Nat->Option Value)(v:Value)(rows:List aP)(p n:Nat)(bs:aX):Prop:=
 ∃b off cap cs ns,v=.slice (some ⟨b,off,none⟩) rows.length cap/\b<w.heap.size/\rows.length<=cap/\cap<=maxLen/\(∀j c,cs[j]?=some c->w.cell? ⟨b,off+j,none⟩=some c)/\l6 w cs rows.flatten ns/\bs=b::ns/\
  ∃c,cs[p]?=some c/\κ n=some c
def yY(w:World)(es:List MapEntry)(kv:List (D×D)):Prop:=
 es.length=kv.length/\∀(j:Nat) e p,es[j]?=some e->kv[j]?=some p->Rd w e.key p.1 []/\Rd w e.val p.2 []
theorem yY.stay{w w':World}{es:List MapEntry}{kv:List (D×D)}(h:yY w es kv):yY w' es kv:=
 ⟨h.1,fun j e p h1 h2=>⟨(h.2 j e p h1 h2).1.keep (by simp),(h.2 j e p h1 h2).2.keep (by simp)⟩⟩
def wC(w:World)(κ:Nat->Option Value)(Θ:Nat->Nat)(id:Nat):Ob->Prop
 | .box cells=>∃g cs T,κ id=some (.pointer (some ⟨g,0,none⟩))/\w.heap[g]?=some (.cells cs T (0,0))/\Θ g=id+2/\
  ∃bs,fS w κ cs.toList cells bs/\∀b∈bs,Θ b=0
 | .DU cells u=>κ id=some u/\∃g cs T,κ id=some (.pointer (some ⟨g,0,none⟩))/\w.heap[g]?=some (.cells cs T (0,0))/\Θ g=id+2/\
  ∃bs,fS w κ cs.toList cells bs/\∀b∈bs,Θ b=0
 | .row k e sz rows=>0<sz/\(∀r∈rows,r.length=sz)/\∃v cs bs,κ id=some v/\w.ownsRow 0 e sz v rows.length cs/\l6 w cs rows.flatten bs/\
  (∀g,v.ownBlock=some g->Θ g=id+2)/\
  (match k with
   | .cl=>bs.Nodup/\(∀b∈bs,Θ b=id+2/\Wr w b)/\∀g,v.ownBlock=some g->g∉bs
   |_=>∀b∈bs,Θ b=0)
 | .wP sz rows u=>(∀r∈rows,r.length=sz)/\(∀x,u=some x->κ id=some x)/\∃v bs,κ id=some v/\Rd w v (.sl rows) bs/\bs.Nodup/\∀b∈bs,Θ b=id+2/\Wr w b
 | .hole sz rows u p n=>(∀r∈rows,r.length=sz)/\(∀x,u=some x->κ id=some x)/\∃v bs,κ id=some v/\RdH w κ v rows p n bs/\bs.Nodup/\∀b∈bs,Θ b=id+2/\Wr w b
 | .mp kv=>∃g es clock,κ id=some (.map (some g))/\w.heap[g]?=some (.map es clock)/\Θ g=id+2/\yY w es.toList kv
 | .tk rows=>∃v bs,κ id=some v/\Rd w v (.sl rows) bs/\∀b∈bs,Θ b=0
 | .gone=>True
def yH(Γ:ul)(b:Nat):Prop:=Γ.W0.heap.size<=b\/Γ.X b
def Sz(Γ:ul)(b:Nat):Prop:=yH Γ b\/Γ.U b
theorem wC.cs{w:World}{κ:Nat->Option Value}{Θ:Nat->Nat}{id:Nat}{o:Ob}{cells:aP}(hc:o.UK=some cells)(h:wC w κ Θ id o):
 ∃g cs T,κ id=some (.pointer (some ⟨g,0,none⟩))/\w.heap[g]?=some (.cells cs T (0,0))/\Θ g=id+2/\∃bs,fS w κ cs.toList cells bs/\∀b∈bs,Θ b=0:=by
 cases o<;>simp only[Ob.UK,reduceCtorEq,aq]at hc
 ·subst hc;exact h
 ·subst hc;exact h.2
theorem wC.a6R{w w':World}{κ κ':Nat->Option Value}{Θ Θ':Nat->Nat}{id:Nat}{o:Ob}{cells cells':aP}(hc:o.UK=some cells)(h:wC w κ Θ id o)(hk:∀v,κ id=some v->κ' id=some v)
 (h':∃g cs T,κ' id=some (.pointer (some ⟨g,0,none⟩))/\w'.heap[g]?=some (.cells cs T (0,0))/\Θ' g=id+2/\∃bs,fS w' κ' cs.toList cells' bs/\∀b∈bs,Θ' b=0):wC w' κ' Θ' id (o.re cells'):=by
 cases o<;>simp only[Ob.UK,reduceCtorEq,aq]at hc
 ·exact h'
 ·exact⟨hk _ h.1,h'⟩
structure Pp(Γ:ul)(w:World):Prop where
 os:w.os=Γ.W0.os
 tape:w.tape=Γ.W0.tape
 output:w.output=Γ.W0.output
 size:Γ.W0.heap.size<=w.heap.size
 block:∀b,b<Γ.W0.heap.size->¬Γ.X b->w.heap[b]?=Γ.W0.heap[b]?
def KO(w:World)(κ:Nat->Option Value)(ρ:Nat->Nat)(id:Nat):Ob->Prop
 | .row (.mv n) e sz rows=>∃v cs bs,κ id=some v/\w.ownsRow 0 e sz v rows.length cs/\l6 w (cs.drop (n*sz)) (rows.drop n).flatten bs/\bs.Nodup/\∀b∈bs,ρ b=id+1
 | .tk rows=>∃v bs,κ id=some v/\Rd w v (.sl rows) bs/\bs.Nodup/\∀b∈bs,ρ b=id+1
 |_=>True
structure zS(Γ:ul)(H:List Ob)(κ:Nat->Option Value)(Θ:Nat->Nat)(w:World)(ρ:Nat->Nat):Prop where
 free:∀b,ρ b≠0->Θ b=0/\Sz Γ b/\Wr w b
 rows:∀id e sz rows,H[id]?=some (.row .uq e sz rows)->∃v cs bs,κ id=some v/\w.ownsRow 0 e sz v rows.length cs/\l6 w cs rows.flatten bs/\bs.Nodup/\∀b∈bs,ρ b=id+1
 more:∀id o,H[id]?=some o->KO w κ ρ id o
structure dl(Γ:ul)(st:St)(κ:Nat->Option Value)(Θ:Nat->Nat)(a:Act)(w:World):Prop where
 defers:a.defers=[]
 size:a.tmps.size=Γ.nt
 pK:∀id,st.H.length<=id->κ id=none
 oM:∀(id:Nat) u,κ id=some u->u.oneCell'=true
 slot:∀t,∃bs,rW w κ (a.tmps.getD t undef) (lk st.σ t) bs/\∀b∈bs,Θ b=0
 ob:∀id o,st.H[id]?=some o->wC w κ Θ id o
 own:∀b,Θ b≠0->b<w.heap.size
 old:∀b,b<Γ.W0.heap.size->¬Γ.X b->Θ b=Γ.Θ0 b/\Θ b<=1
 mine:∀b,2<=Θ b->yH Γ b
 stays:Pp Γ w
 tJ:∃ρ,zS Γ st.H κ Θ w ρ
theorem dl.vsb{Γ:ul}{st:St}{κ:Nat->Option Value}{Θ:Nat->Nat}{a:Act}{w:World}(h:dl Γ st κ Θ a w):∃B:Nat->Prop,VsB w B/\∀b,B b->b<Γ.W0.heap.size/\b<w.heap.size/\¬Γ.X b:=by
 obtain⟨B,h1,h2⟩:=Γ.vs;exact⟨B,h1.stays fun b hb=>h.stays.block b (h2 b hb).1 (h2 b hb).2,fun b hb=>⟨(h2 b hb).1,dS (h2 b hb).1 h.stays.size,(h2 b hb).2⟩⟩
theorem dl.vok{Γ:ul}{st:St}{κ:Nat->Option Value}{Θ:Nat->Nat}{a:Act}{w:World}(h:dl Γ st κ Θ a w):N9 w fun _=>False:=by
 obtain⟨B,h1,h2⟩:=h.vsb;exact⟨B,h1,fun b hb=>⟨(h2 b hb).2.1,id⟩⟩
def AW(P:Program)(Γ:ul)(c:Code)(Q:Exit->St->Prop)(st:St):Prop:=
 ∀κ Θ a w,dl Γ st κ Θ a w->c.wp P (fun e a' w'=>∃vB κ' Θ',dl Γ vB κ' Θ' a' w'/\Q e vB) a w
def AO(P:Program)(Γ:ul)(all:Array Oper)(ops:List Oper)(Q:Exit->St->Prop)(st:St):Prop:=
 ∀κ Θ a w,dl Γ st κ Θ a w->wpList P all (fun e a' w'=>∃vB κ' Θ',dl Γ vB κ' Θ' a' w'/\Q e vB) ops a w
section
variable{P:Program}{Γ:ul}{Q:Exit->St->Prop}{st:St}
theorem ZL(h:Q .normal st):AW P Γ .skip Q st:=fun _ _ _ _ hs=>wp_skip ⟨_,_,_,hs,h⟩
theorem a2U(h:Q .ret st):AW P Γ .ret Q st:=fun _ _ _ _ hs=>wp_ret ⟨_,_,_,hs,h⟩
theorem ZJ{id:Nat}(h:Q (.exit id) st):AW P Γ (.exit id) Q st:=fun _ _ _ _ hs=>wp_exit ⟨_,_,_,hs,h⟩
def Ye(next:St->Prop)(Q:Exit->St->Prop):Exit->St->Prop
 | .normal,st=>next st
 |e,st=>Q e st
def OP(id:Nat)(Q:Exit->St->Prop):Exit->St->Prop
 | .exit id',st=>if id'=id then Q .normal st else Q (.exit id') st
 |e,st=>Q e st
theorem a2V{x y:Code}(h:AW P Γ x (Ye (AW P Γ y Q) Q) st):AW P Γ (.seq x y) Q st:=by
 intro κ Θ a w hs;refine wp_seq (wp_mono (h κ Θ a w hs) ?_);rintro e a' w' ⟨vB,κ',Θ',hs',hq⟩;cases e with
 |normal=>exact hq κ' Θ' a' w' hs'
 |exit id=>exact⟨_,_,_,hs',hq⟩
 |goto l=>exact⟨_,_,_,hs',hq⟩
 |ret=>exact⟨_,_,_,hs',hq⟩
 |panic c=>exact⟨_,_,_,hs',hq⟩
 |outgrown=>exact⟨_,_,_,hs',hq⟩
theorem Vh{id:Nat}{c:Code}(h:AW P Γ c (OP id Q) st):AW P Γ (.block id c) Q st:=by
 intro κ Θ a w hs;refine wp_block (wp_mono (h κ Θ a w hs) ?_);rintro e a' w' ⟨vB,κ',Θ',hs',hq⟩;cases e with
 |exit id'=>
  simp only[Exit.inBlock,OP]at hq⊢;split
  ·rename_i he;rw[bK he]at hq;exact⟨_,_,_,hs',hq⟩
  ·rename_i he;rw[az he]at hq;exact⟨_,_,_,hs',hq⟩
 |normal=>exact⟨_,_,_,hs',hq⟩
 |goto l=>exact⟨_,_,_,hs',hq⟩
 |ret=>exact⟨_,_,_,hs',hq⟩
 |panic c=>exact⟨_,_,_,hs',hq⟩
 |outgrown=>exact⟨_,_,_,hs',hq⟩
theorem UB{id:Nat}{l:List Oper}(h:AO P Γ l.toArray l Q st):AW P Γ (.region id l.toArray false) Q st:=
 fun κ Θ a w hs=>wp_region_lit (h κ Θ a w hs)
theorem a2S{all:Array Oper}(h:Q .normal st):AO P Γ all [] Q st:=fun _ _ _ _ hs=>wpList_nil ⟨_,_,_,hs,h⟩
end
section
variable{w:World}{κ:Nat->Option Value}{v:Value}{bs:aX}
theorem rW.qj{k:IntKind}{n:Int}(h:rW w κ v (.int k n) bs):v=.int k n:=by
 cases h with|v h=>cases h with|cell h=>cases h with|pure h=>cases h;rfl
theorem rW.MC{k:IntKind}{n:Int}(h:rW w κ v (.int k n) bs):pN k n:=by
 cases h with|v h=>cases h with|cell h=>cases h with|pure h=>cases h with|int _ _ hr=>exact hr
theorem rW.Yb{s:Bytes}(h:rW w κ v (.str s) bs):s.length<=maxLen:=by
 cases h with|v h=>cases h with|cell h=>cases h with|pure h=>cases h with|str x hx=>simpa using hx
theorem rW.wF{b:Bool}(h:rW w κ v (.bool b) bs):v=.bool b:=by
 cases h with|v h=>cases h with|cell h=>cases h with|pure h=>cases h;rfl
theorem rW.uR{s:Bytes}(h:rW w κ v (.str s) bs):∃x:ByteArray,v=.string x/\x.data.toList=s:=by
 cases h with|v h=>cases h with|cell h=>cases h with|pure h=>cases h;exact⟨_,rfl,rfl⟩
theorem rW.U5{u:Value}(h:rW w κ v (.val u) bs):v=u:=by
 cases h with|v h=>cases h with|cell h=>cases h with|pure h=>cases h;rfl
theorem rW.J5(h:rW w κ v .nil bs):v=.slice none 0 0:=by
 cases h with|v h=>cases h with|cell h=>cases h with|pure h=>cases h;rfl
theorem rW.PL{rows:List aP}(h:rW w κ v (.sl rows) bs):Rd w v (.sl rows) bs:=by
 cases h with|v h=>cases h with|cell h=>cases h with|pure h=>exact h
theorem rW.Rm{row:aP}{o:Nat}(h:rW w κ v (.ep row o) bs):Rd w v (.ep row o) bs:=by
 cases h with|v h=>cases h with|cell h=>cases h with|pure h=>exact h
theorem rW.vD{id:Nat}(h:rW w κ v (.acc id) bs):κ id=some v/\bs=[]:=by
 cases h with|v h=>cases h with|cell h=>cases h with|pure h=>cases h|acc _ _ hk=>exact⟨hk,rfl⟩
theorem rW.z8{id off:Nat}(h:rW w κ v (.ptr id off) bs):∃b,κ id=some (.pointer (some ⟨b,0,none⟩))/\v=.pointer (some ⟨b,off,none⟩):=by
 cases h with|v h=>cases h with|cell h=>cases h with|pure h=>cases h|ptr _ _ b hk=>exact⟨b,hk,rfl⟩
theorem rW.En{id i sz off:Nat}(h:rW w κ v (.op id i sz off) bs):∃b o0 len cap,κ id=some (.slice (some ⟨b,o0,none⟩) len cap)/\v=.pointer (some ⟨b,o0+(i*sz+off),none⟩):=by
 cases h with|v h=>cases h with|cell h=>cases h with|pure h=>cases h|op _ _ _ _ b o0 len cap hk=>exact⟨b,o0,len,cap,hk,rfl⟩
theorem fS.Co{vs:bw}{ds:aP}(h:l6 w vs ds bs):fS w κ vs ds bs:=by
 induction ds generalizing vs bs with
 |nil=>cases h;exact .nil
 |cons d ds ih=>cases h with|cons v vs _ _ b1 b2 h1 h2 h3=>exact .cons _ _ _ _ _ _ h1 (.pure h2) (ih h3)
theorem Ca{w:World}{e sz b o0 len cap n:Nat}{cs:bw}(h:w.ownsRow 0 e sz (.slice (some ⟨b,o0,none⟩) len cap) n cs):o0=0:=by
 rcases h.2 with⟨h,_⟩|⟨g,cap,cur,h,_⟩
 ·cases h
 ·cases h;rfl
theorem rW.F5{ds:aP}(h:rW w κ v (.agg ds) bs):∃cs:bw,v=.agg cs.toArray/\fS w κ cs ds bs:=by
 cases h with
 |v h=>
  cases h with
  |cell h=>cases h with|pure h=>cases h with|agg cs _ _ h=>exact⟨cs,rfl,fS.Co h⟩
  |agg cs _ _ h=>exact⟨cs,rfl,h⟩
theorem fS.length{vs:bw}{ds:aP}(h:fS w κ vs ds bs):vs.length=ds.length:=by
 induction ds generalizing vs bs with
 |nil=>cases h;rfl
 |cons d ds ih=>cases h with|cons v vs _ _ b1 b2 h1 h2 h3=>simp[ih h3]
theorem fS.one{vs:bw}{ds:aP}(h:fS w κ vs ds bs):∀v∈vs,v.oneCell'=true:=by
 induction ds generalizing vs bs with
 |nil=>cases h;simp
 |cons d ds ih=>
  cases h with
  |cons v vs _ _ b1 b2 h1 h2 h3=>
   intro u hu;rcases bB.1 hu with rfl|hu
   ·exact h1
   ·exact ih h3 u hu
theorem fS.app{vs us:bw}{ds es:aP}{cs:aX}(h:fS w κ vs ds bs)(k:fS w κ us es cs):fS w κ (vs++us) (ds++es) (bs++cs):=by
 induction ds generalizing vs bs with
 |nil=>cases h;simpa using k
 |cons d ds ih=>
  cases h with
  |cons v vs _ _ b1 b2 h1 h2 h3=>
   rw[cu];exact .cons _ _ _ _ _ _ h1 h2 (ih h3)
theorem fS.split{vs:bw}{ds es:aP}(h:fS w κ vs (ds++es) bs):
 ∃v1 v2 b1 b2,vs=v1++v2/\bs=b1++b2/\fS w κ v1 ds b1/\fS w κ v2 es b2:=by
 induction ds generalizing vs bs with
 |nil=>exact⟨[],vs,[],bs,by simp,by simp,.nil,h⟩
 |cons d ds ih=>
  cases h with
  |cons v vs _ _ b1 b2 h1 h2 h3=>
   obtain⟨v1,v2,c1,c2,rfl,rfl,k1,k2⟩:=ih h3;exact⟨v::v1,v2,b1++c1,c2,by simp,by simp,.cons _ _ _ _ _ _ h1 h2 k1,k2⟩
theorem fS.mid{vs:bw}{ds:aP}(h:fS w κ vs ds bs)(i n:Nat)(hn:i+n<=ds.length):
 ∃b,fS w κ ((vs.drop i).take n) ((ds.drop i).take n) b/\∀x∈b,x∈bs:=by
 have e:ds=ds.take i++((ds.drop i).take n++(ds.drop i).drop n):=by rw[cD,cD]
 rw[e]at h;obtain⟨v1,v2,b1,b2,rfl,rfl,k1,k2⟩:=h.split;obtain⟨v3,v4,b3,b4,rfl,rfl,k3,k4⟩:=k2.split;refine⟨b3,?_,by intro x hx;simp[hx]⟩;have h1:v1.length=i:=by rw[k1.length];simp;omega
 have h3:v3.length=n:=by rw[k3.length];simp;omega
 rw[fy h1,ig h3];exact k3
theorem fS.at{vs:bw}{ds:aP}(h:fS w κ vs ds bs){i:Nat}{d:D}(hd:ds[i]?=some d):
 ∃v b,vs[i]?=some v/\v.oneCell'=true/\zC w κ v d b/\∀x∈b,x∈bs:=by
 induction ds generalizing vs bs i with
 |nil=>simp at hd
 |cons e ds ih=>
  cases h with
  |cons v vs _ _ b1 b2 h1 h2 h3=>
   cases i with
   |zero=>simp at hd;subst hd;exact⟨v,b1,by simp,h1,h2,by intro x hx;simp[hx]⟩
   |succ i=>
    simp at hd;obtain⟨u,b,k1,k2,k3,k4⟩:=ih h3 hd;exact⟨u,b,by simpa using k1,k2,k3,fun x hx=>by simp[k4 x hx]⟩
theorem SN(v:Value):rW w κ v (D.SM v) []:=by
 unfold D.SM;split
 ·exact .of (.bool _)
 ·split
  ·rename_i h;exact .of (.int _ _ h)
  ·exact .of (.val _)
 ·split
  ·rename_i h;exact .of (.str _ h)
  ·exact .of (.val _)
 ·exact .of .nil
 ·exact .of (.val _)
end
section
variable{Γ:ul}{st:St}{κ:Nat->Option Value}{Θ:Nat->Nat}{a:Act}{w:World}
theorem dl.ev(h:dl Γ st κ Θ a w)(x:Operand):∃bs,rW w κ (a.eval x) (st.ev x) bs/\∀b∈bs,Θ b=0:=by
 cases x with
 |tmp t=>exact h.slot t
 |const v=>exact⟨[],SN v,by simp⟩
 |global g=>exact⟨[],.of (.val _),by simp⟩
 |func f=>exact⟨[],.of (.val _),by simp⟩
theorem dl.set(h:dl Γ st κ Θ a w){t:Nat}{v:Value}{d:D}{bs:aX}(ht:t<Γ.nt)(hv:rW w κ v d bs)(hb:∀b∈bs,Θ b=0):
 dl Γ (st.set t d) κ Θ (a.put (some t) v) w:=by
 refine⟨h.defers,by simp[Act.put,h.size],h.pK,h.oM,?_,h.ob,h.own,h.old,h.mine,h.stays,h.tJ⟩;intro u;show∃bs,rW w κ ((a.tmps.setIfInBounds t v).getD u undef) (if u=t then d else lk st.σ u) bs/\_;have hsz:=h.size;by_cases hu:u=t
 ·subst hu;rw[bK rfl];have:(a.tmps.setIfInBounds u v).getD u undef=v:=by
   simp[cF,hsz,ht]
  rw[this];exact⟨bs,hv,hb⟩
 ·rw[az hu];have:(a.tmps.setIfInBounds t v).getD u undef=a.tmps.getD u undef:=by
   simp[cF,rV hu]
  rw[this];exact h.slot u
end
end Go.Cx
namespace Go.Cx
open Go.RowKit
abbrev bW:=List Ob
def AA(P:Program)(t:TypeId):Option Bool:=
 match P.underlying t with
 |some (.struct _)=>some true
 |some (.array _ _)=>some true
 |some _=>some false
 |none=>none
def zH(P:Program)(t:TypeId):Nat:=P.cellsOf t
def tfo(P:Program)(t f:Nat):Option Nat:=
 match P.underlying t with
 |some (.struct fs)=>(match fs[f]? with
  |some x=>if(P.info? x.type).isSome/\P.cellsOf x.type≠0 then some x.offset else none
  |none=>none)
 |_=>none
def tft(P:Program)(t f:Nat):Option (Nat×TypeId):=
 match P.underlying t with
 |some (.struct fs)=>(match fs[f]? with|some x=>some (x.offset,x.type)|none=>none)
 |_=>none
def FG(P:Program)(t:TypeId):Option (TypeId×Nat):=
 match P.underlying t with
 |some (.slice e)=>if(P.info? e).isSome then some (e,P.cellsOf e)else none
 |_=>none
def a4K(P:Program)(t:TypeId):Option (Nat×Nat):=
 match P.underlying t with
 |some (.array n e)=>if(P.info? e).isSome then some (P.cellsOf e,n)else none
 |_=>none
def KK(P:Program)(t:TypeId):Bool:=match P.underlying t with|some .string=>true|_=>false
def Sl(P:Program)(t:TypeId):Option IntKind:=match P.underlying t with|some (.int k)=>some k|_=>none
def a2I(P:Program)(t:TypeId):Bool:=match P.underlying t with|some .bool=>true|_=>false
def Ty(P:Program)(t:TypeId):Bool:=match P.underlying t with
 |some (.struct fs)=>match fs.toList with
  | [f,g]=>f.name != "_" &&g.name != "_" &&f.offset==0&&g.offset==1&&KK P f.type&&KK P g.type&& !P.stoodInHeld t&& !P.eqGuardType P.depth t
  |_=>false
 |_=>false
def peq(P:Program)(op:BinOp)(t:TypeId):D->D->Option D
 | .bool a,.bool b=>if a2I P t=true then match op with| .eql=>some (.bool (a==b))| .neq=>some (.bool (a != b))|_=>none else none
 | .agg [.str a,.str b],.agg [.str c,.str d]=>if Ty P t=true then match op with| .eql=>some (.bool (a==c&&b==d))| .neq=>some (.bool (!(a==c&&b==d)))|_=>none else none
 |_,_=>none
def a4L(P:Program)(t:TypeId):Bool:=match P.underlying t with|some (.interface _)=>true|_=>false
def a3j(P:Program)(op:BinOp)(t:TypeId)(x:D)(y:Operand):Option D:=match x,y with
 | .ifc b,.const .nilIface=>(match a4L P t,op with|true,.eql=>some (.bool (!b))|true,.neq=>some (.bool b)|_,_=>none)
 |_,_=>none
def Ur(op:BinOp):D->D->Option D
 | .int k a,.int k' b=>
  if k=k' then
   match op with
   | .add=>some (.int k (k.wrap (a+b)))
   | .sub=>some (.int k (k.wrap (a-b)))
   | .mul=>some (.int k (k.wrap (a*b)))
   | .quo=>if 0<=a/\0<b then some (.int k (a/b))else none
   | .rem=>if 0<=a/\0<b then some (.int k (a%b))else none
   | .eql=>some (.bool (a==b))
   | .neq=>some (.bool (a != b))
   | .lss=>some (.bool (a<b))
   | .leq=>some (.bool (a<=b))
   | .gtr=>some (.bool (a>b))
   | .geq=>some (.bool (a>=b))
   |_=>none
  else none
 | .str a,.str b=>
  match op with
  | .add=>if a.length+b.length<=maxLen then some (.str (a++b))else none
  | .eql=>some (.bool (a==b))
  | .neq=>some (.bool (!(a==b)))
  | .lss=>some (.bool (Op.bytesLess a b))
  | .leq=>some (.bool (Op.bytesLess a b||a==b))
  | .gtr=>some (.bool (!(Op.bytesLess a b||a==b)))
  | .geq=>some (.bool (!(Op.bytesLess a b)))
  |_=>none
 |_,_=>none
def GW(ag:Bool)(n:Nat)(row:aP)(off:Nat):Option D:=
 if ag then(if off+n<=row.length then some (.agg ((row.drop off).take n))else none)else row[off]?
def xE(len:Nat)(lo hi:Option D):Option (Nat×Nat):=
 match(match hi with|none=>some len|some (.int _ h)=>if 0<=h/\h.toNat<=len then some h.toNat else none|_=>none)with
 |none=>none
 |some h=>match(match lo with|none=>some 0|some (.int _ l)=>if 0<=l/\l.toNat<=h then some l.toNat else none|_=>none)with
  |none=>none
  |some l=>some (l,h)
def NK(a b:Int):Int:=if b<a then b else a
def a3i:D->D->Option D
 | .int k m,.int k' n=>if k=k' then some (.int k (NK m n))else none
 |_,_=>none
def a0W(P:Program)(st:St)(x:Operand)(t:TypeId):Option D:=
 match st.ev x with
 | .str s=>if KK P t then some (.int .i64 s.length)else none
 | .sl rows=>if(FG P t).isSome then some (.int .i64 rows.length)else none
 | .nil=>if(FG P t).isSome then some (.int .i64 0)else none
 | .acc id=>(match FG P t,st.H[id]? with|some _,some (.row _ _ _ rows)=>some (.int .i64 rows.length)|_,_=>none)
 |_=>none
def D.cellsOf:D->Option aP
 | .agg ds=>some ds
 | .any=>none
 | .iE _=>none
 | .val v=>if v.oneCell' then some [.val v]else none
 |d=>some [d]
def tz(P:Program)(t:TypeId):Option aP:=
 match P.info? t with
 |some i=>(match i.zero with
  |some z=>if z.cells.toList.all (fun c=>c.oneCell')&&z.cells.size==i.size then some (z.cells.toList.map D.SM)else none
  |none=>none)
 |none=>none
def Tz(P:Program)(t:TypeId):Option (List (Nat×Nat)):=
 match P.underlying t with
 |some (.struct fs)=>fs.toList.mapM (fun f=>(P.info? f.type).map fun i=>(f.offset,i.size))
 |_=>none
def xu(places:List (Nat×Nat))(cells:aP):List (Nat×D)->Option aP
 | []=>some cells
 | (i,d)::rest=>match places[i]?,d.cellsOf with
  |some (off,sz),some ds=>if ds.length=sz/\off+sz<=cells.length then xu places (cells.take off++ds++cells.drop (off+sz)) rest else none
  |_,_=>none
def keq:D->D->Option Bool
 | .str a,.str b=>some (a==b)
 | .int k a,.int k' b=>if k=k' then some (a==b)else none
 |_,_=>none
def HY:TypeDesc->D->Bool
 | .string,.str _=>true
 | .int k,.int k' _=>decide (k=k')
 |_,_=>false
def Eg(k:D):List (D×D)->Option (Option D)
 | []=>some none
 |p::r=>match keq k p.1 with|some true=>some (some p.2)|some false=>Eg k r|none=>none
def J0(k v:D):List (D×D)->Option (List (D×D))
 | []=>some [(k,v)]
 |p::r=>match keq k p.1 with|some true=>some ((k,v)::r)|some false=>(J0 k v r).map (p:: ·)|none=>none
def V4(P:Program)(T:TypeId):Option (TypeDesc×D):=
 match P.underlying T with
 |some (.map kt et)=>(match P.underlying kt,P.info? et with
  |some d,some i=>(match i.zero with|some z=>if z.oneCell'=true then some (d,D.SM z)else none|none=>none)
  |_,_=>none)
 |_=>none
def plk(P:Program)(T:TypeId)(kv:List (D×D))(k:D)(ok:Bool):Option D:=
 match V4 P T with
 |some (kd,dz)=>(match HY kd k,Eg k kv with
  |true,some (some d)=>some (bif ok then .iE [d,.bool true]else d)
  |true,some none=>some (bif ok then .iE [dz,.bool false]else dz)
  |_,_=>none)
 |none=>none
def GL(k:IntKind)(a b:Int):Int:=k.wrap ((BitVec.ofInt k.bits a&&& BitVec.ofInt k.bits b).toNat)
def a4y(k:IntKind)(a b:Int):Int:=k.wrap ((BitVec.ofInt k.bits a|||BitVec.ofInt k.bits b).toNat)
def TD(k:IntKind)(a b:Int):Int:=k.wrap ((BitVec.ofInt k.bits a^^^BitVec.ofInt k.bits b).toNat)
def R8(k:IntKind)(a b:Int):Int:=a.fdiv (2^(min b.toNat k.bits))
def a3h(op:BinOp)(x y:D):Option D:=match x,y with
 | .int k a,.int k' b=>(match op with
  | .and=>if k=k' then some (.int k (GL k a b))else none
  | .or=>if k=k' then some (.int k (a4y k a b))else none
  | .xor=>if k=k' then some (.int k (TD k a b))else none
  | .shr=>if 0<=b then some (.int k (R8 k a b))else none
  |_=>none)
 |_,_=>none
theorem pN.shr{k:IntKind}{a:Int}(h:pN k a)(b:Int):pN k (R8 k a b):=by
 have hm:(0:Int)<2^(min b.toNat k.bits):=Int.pow_pos (by decide);unfold R8;rw[Int.fdiv_eq_ediv_of_nonneg _ (Bv hm)];generalize(2:Int)^(min b.toNat k.bits)=m at hm;have hz:=pN.zero k;rcases Int.lt_or_le a 0 with h0|h0
 ·refine⟨Bw h.1 (Int.le_ediv_of_mul_le hm ?_),Bw (Bv (Int.ediv_lt_of_lt_mul (b:=0) hm (by omega))) hz.2⟩;have:a*m<=a*1:=Int.mul_le_mul_of_nonpos_left (Bv h0) (by omega);omega
 ·exact h.down (Cg h0 (Bv hm)) (Int.ediv_le_self m h0)
def pv(P:Program)(st:St):Op->Option D
 | .lookup T x i ok=>match st.ev x with
  | .acc id=>(match st.H[id]? with|some (.mp kv)=>plk P T kv (st.ev i) ok|_=>none)
  |_=>none
 | .build t parts=>match tz P t,Tz P t with
  |some zs,some ps=>(xu ps zs (parts.toList.map fun p=>(p.1,st.ev p.2))).map D.agg
  |_,_=>none
 | .move x=>some (st.ev x)
 | .assign x=>some (st.ev x)
 | .pick c a b=>match st.ev c with| .bool t=>some (bif t then st.ev a else st.ev b)|_=>none
 | .binOp op t x y _=>match Ur op (st.ev x) (st.ev y)with|some d=>some d|none=>(match peq P op t (st.ev x) (st.ev y)with|some d=>some d|none=>(match a3j P op t (st.ev x) y with|some d=>some d|none=>a3h op (st.ev x) (st.ev y)))
 | .nilCheck x=>match st.ev x with| .ptr i o=>some (.ptr i o)| .op i a b c=>some (.op i a b c)| .ep r o=>some (.ep r o)|_=>none
 | .unOp .not _ x=>match st.ev x with| .bool b=>some (.bool (!b))|_=>none
 | .unOp .neg _ x=>match st.ev x with| .int k n=>some (.int k (k.wrap (0-n)))|_=>none
 | .convert s d x=>match st.ev x,Sl P s,Sl P d with| .int _ n,some _,some k=>some (.int k (k.wrap n))|_,_,_=>none
 | .field t x f=>match tft P t f,st.ev x with
  |some (off,ft),.agg cells=>(match AA P ft with|some ag=>GW ag (zH P ft) cells off|none=>none)
  |_,_=>none
 | .fieldAddr t x f=>match tfo P t f,st.ev x with
  |some o,.ptr id off=>some (.ptr id (off+o))
  |some o,.ep row off=>some (.ep row (off+o))
  |some o,.op id i sz off=>some (.op id i sz (off+o))
  |_,_=>none
 | .indexAddr t x i=>match FG P t,st.ev x,st.ev i with
  |some (_,sz),.sl rows,.int _ n=>if 0<=n then(match rows[n.toNat]? with|some row=>if row.length=sz then some (.ep row 0)else none|none=>none)else none
  |some (_,sz),.acc id,.int _ n=>(match st.H[id]? with
   |some (.row _ _ sz' rows)=>if sz=sz'/\0<=n/\n.toNat<rows.length then some (.op id n.toNat sz 0)else none
   |_=>none)
  |_,.val (.pointer (some ⟨g,o,none⟩)),.int _ n=>(match a4K P t with
   |some (sz,len)=>if 0<=n/\n.toNat<len then some (.val (.pointer (some ⟨g,o+n.toNat*sz,none⟩)))else none
   |none=>none)
  |_,_,_=>none
 | .load t x=>match AA P t,st.ev x with
  |some ag,.ep row off=>GW ag (zH P t) row off
  |some ag,.ptr id off=>(match(st.H[id]?).bind Ob.UK with|some cells=>GW ag (zH P t) cells off|none=>none)
  |some ag,.op id i sz off=>(match st.H[id]? with
   |some (.row k _ sz' rows)=>(match rows[i]? with|some row=>if sz'=sz/\k.P5=true/\off+(bif ag then zH P t else 1)<=sz then GW ag (zH P t) row off else none|none=>none)
   |_=>none)
  |some ag,.val (.pointer (some ⟨g,o,none⟩))=>(match ag with|false=>U6 g o|true=>none)
  |_,_=>none
 | .extract x i=>match st.ev x with| .iE vs=>vs[i]? |_=>none
 | .index t x i=>match KK P t,st.ev x,st.ev i with
  |true,.str s,.int _ n=>if 0<=n then(match s[n.toNat]? with|some b=>some (.int .u8 b.toNat)|none=>none)else none
  |_,_,_=>none
 | .slice t x lo hi none=>match st.ev x with
  | .str s=>if KK P t then(match xE s.length (lo.map st.ev) (hi.map st.ev)with|some (l,h)=>some (.str ((s.take h).drop l))|none=>none)else none
  | .sl rows=>(match FG P t,xE rows.length (lo.map st.ev) (hi.map st.ev)with
   |some (_,sz),some (l,h)=>if(rows.all (fun r=>r.length==sz))then some (.sl ((rows.take h).drop l))else none
   |_,_=>none)
  |_=>none
 | .call c=>match c.callee,c.args.toList,c.argTypes.toList with
  | .builtin .len,[x],[t]=>a0W P st x t
  | .builtin .min,[x,y],[_,_]=>a3i (st.ev x) (st.ev y)
  |_,_,_=>none
 |_=>none
section
variable{P:Program}{Γ:ul}{st:St}{κ:Nat->Option Value}{Θ:Nat->Nat}{a:Act}{w:World}
def wX(P:Program)(κ:Nat->Option Value)(Θ:Nat->Nat)(a:Act)(w:World)(o:Oper)(d:D):Prop:=
 ∃v bs,(execOp a.eval o).run P w=.ok (.value v) w/\rW w κ v d bs/\∀b∈bs,Θ b=0
theorem Oz{n:Nat}(h:n<=maxLen):pN .i64 (n:Int):=by
 rw[pN.i64];unfold maxLen at h;omega
theorem eM{k:IntKind}{n:Int}(h:pN k n):k.wrap n=n:=by
 unfold pN at h;cases k<;>simp[IntKind.min,IntKind.max,IntKind.wrap,IntKind.bits,IntKind.signed]at h⊢ <;>(try split)<;>omega
theorem SP{o:Oper}{op:BinOp}{t t':TypeId}{x y:Operand}{d:D}(hs:dl Γ st κ Θ a w)(ho:o.op=.binOp op t x y t')
 (h:Ur op (st.ev x) (st.ev y)=some d):wX P κ Θ a w o d:=by
 obtain⟨b1,r1,_⟩:=hs.ev x;obtain⟨b2,r2,_⟩:=hs.ev y;generalize st.ev x=dx at*;generalize st.ev y=dy at*;unfold Ur at h;split at h
 ·rename_i k p k' q;split at h
  ·rename_i hk;subst hk;have e1:=r1.qj;have e2:=r2.qj;cases op<;>simp only[aq,reduceCtorEq]at h
   case quo=>
    split at h
    ·rename_i hq;cases h;have hq0:q≠0:=by omega
     have hle:p/q<=p:=Int.ediv_le_self q hq.1;have h0:0<=p/q:=Cg hq.1 (by omega);have hin:=r1.MC.down h0 hle;have hw:k.wrap (p.tdiv q)=p/q:=by
      rw[Int.tdiv_eq_ediv_of_nonneg hq.1];exact eM hin
     exact⟨_,[],by simp[execOp,ho,e1,e2,binOp,eqGuard,Op.intDiv,hq0,hw],.of (.int _ _ hin),by simp⟩
    ·cases h
   case rem=>
    split at h
    ·rename_i hq;cases h;have hq0:q≠0:=by omega
     have h0:0<=p%q:=Int.emod_nonneg p hq0;have hle:p%q<=p:=by
      have h1:=Int.emod_add_mul_ediv p q;have h2:0<=q*(p/q):=Int.mul_nonneg (by omega) (Cg hq.1 (by omega));omega
     have hin:=r1.MC.down h0 hle;have hw:p.tmod q=p%q:=Int.tmod_eq_emod_of_nonneg hq.1;exact⟨_,[],by simp[execOp,ho,e1,e2,binOp,eqGuard,Op.intDiv,hq0,hw],.of (.int _ _ hin),by simp⟩
    ·cases h
   all_goals subst h
   all_goals first
    |exact⟨_,[],by simp[execOp,ho,e1,e2,binOp,eqGuard,Op.intArith],.of (.int _ _ (pN.wrap _ _)),by simp⟩
    |exact⟨_,[],by simp[execOp,ho,e1,e2,binOp,eqGuard,Op.intCmp],.of (.bool _),by simp⟩
  ·cases h
 ·rename_i p q;obtain⟨u,e1,rfl⟩:=r1.uR;obtain⟨v,e2,rfl⟩:=r2.uR;cases op<;>simp only[aq,reduceCtorEq]at h
  case add=>
   split at h
   ·rename_i hl;cases h;have hsz:u.size+v.size<=9223372036854775807:=by
     simp only[uc,maxLen]at hl;exact hl
    refine⟨.string (u++v),[],?_,?_,by simp⟩
    ·simp[execOp,ho,e1,e2,binOp,eqGuard,run_string_add_sum w u v hsz]
    ·have:=Rd.str (w:=w) (u++v) (by rw[ByteArray.size_append'];unfold maxLen;omega);simp only[ByteArray.data_append,lR]at this;exact .of this
   ·cases h
  all_goals subst h
  all_goals exact⟨_,[],by simp[execOp,ho,e1,e2,binOp,eqGuard,Op.stringOp,ByteArray.toList_eq],.of (.bool _),by simp⟩
 ·cases h
theorem FD{t:TypeId}{b:Bool}(h:AA P t=some b)(w:World):(isAgg t).run P w=.ok b w:=by
 unfold AA at h;split at h<;>first
  | (rename_i hu;cases h;simp[isAgg,run_underlying hu])
  | (rename_i d _ _ hu;cases h;cases d<;>simp_all [isAgg,run_underlying hu])
  |cases h
theorem info_of_underlying{t:TypeId}{d:TypeDesc}(h:P.underlying t=some d):∃i,P.info? t=some i:=by
 unfold Program.underlying at h;cases hi:P.info? t with
 |none=>simp[hi]at h
 |some i=>exact⟨i,rfl⟩
theorem Ix{t:TypeId}{b:Bool}(h:AA P t=some b):∃i,P.info? t=some i:=by
 unfold AA at h;split at h<;>first
  | (rename_i hu;exact info_of_underlying hu)
  |cases h
theorem vA{t:TypeId}(h:∃i,P.info? t=some i)(w:World):(sizeOf t).run P w=.ok (zH P t) w:=by
 obtain⟨i,hi⟩:=h;simp[sizeOf,typeInfo,hi,zH,Program.cellsOf]
theorem pE{t:TypeId}{ag:Bool}(ht:AA P t=some ag){b off o:Nat}{cs:bw}
 (hc:∀j c,cs[j]?=some c->w.cell? ⟨b,off+j,none⟩=some c):
 (ag=true->o+zH P t<=cs.length->(Instr.loadAt t (.pointer (some ⟨b,off+o,none⟩))).run P w=.ok (.agg ((cs.drop o).take (zH P t)).toArray) w)/\
 (ag=false->∀c,cs[o]?=some c->(Instr.loadAt t (.pointer (some ⟨b,off+o,none⟩))).run P w=.ok c w):=by
 constructor
 ·intro e hl;subst e;have hlen:((cs.drop o).take (zH P t)).length=zH P t:=by simp;omega
  have:=run_loadCells_list (P:=P) w ⟨b,off+o,none⟩ ((cs.drop o).take (zH P t)) (by
   intro j v hj;rw[Addr.add_lit];rw[cR]at hj;split at hj
   ·rw[eb]at hj;rw[qM];exact hc _ _ hj
   ·cases hj)
  rw[hlen]at this;simp[Instr.loadAt,Instr.sureAddr,loadVar,FD ht,vA (Ix ht),this]
 ·intro e c hj;subst e;have:=hc o c hj;simp[Instr.loadAt,Instr.sureAddr,loadVar,FD ht,this]
theorem zC.PT{v:Value}{d:D}{bs:aX}(h:zC w κ v d bs):rW w κ v d bs:=.v (.cell h)
theorem MK{o:Oper}{t:TypeId}{x:Operand}{d:D}(hs:dl Γ st κ Θ a w)(ho:o.op=.load t x)
 (h:pv P st (.load t x)=some d):wX P κ Θ a w o d:=by
 obtain⟨b1,r1,z1⟩:=hs.ev x;simp only[pv]at h;split at h
 ·rename_i ag row off ht hx;rw[hx]at r1;have hrd:=r1.Rm;generalize Td:a.eval x=vx at hrd;cases hrd with
  |ep b base cs _ _ bs h0 hc sv=>
   have L:=pE (P:=P) (w:=w) ht (o:=off) hc;unfold GW at h;split at h
   ·rename_i hag;split at h
    ·rename_i hl;cases h;have hl':off+zH P t<=cs.length:=by rw[sv.length];exact hl
     obtain⟨b',hm,hsub⟩:=sv.mid off (zH P t);exact⟨_,b',by simp only[execOp,ho,Td];simp[L.1 hag hl'],.of (.agg _ _ _ hm),fun y hy=>z1 y (by simp[hsub y hy])⟩
    ·cases h
   ·rename_i hag;simp only[wq]at hag;obtain⟨v,b',hv,_,hr,hsub⟩:=sv.at h;exact⟨v,b',by simp only[execOp,ho,Td];simp[L.2 hag v hv],.of hr,fun y hy=>z1 y (by simp[hsub y hy])⟩
 ·rename_i ag id off ht hx;rw[hx]at r1;obtain⟨g,hk,hv⟩:=r1.z8;split at h
  ·rename_i cells hH;obtain⟨ob,hH,Ac⟩:=b9.1 hH;obtain⟨g',cs,T,hk',hg,hΘ,bs,sv,hz⟩:=(hs.ob id _ hH).cs Ac;rw[hk]at hk';cases hk';have hc:∀j c,cs.toList[j]?=some c->w.cell? ⟨g,0+j,none⟩=some c:=by
    intro j c hj;simp only[cY,World.cell?,hg];simpa using hj
   have L:=pE (P:=P) (w:=w) ht (o:=off) hc;simp only[cY]at L;unfold GW at h;split at h
   ·rename_i hag;split at h
    ·rename_i hl;cases h;have hl':off+zH P t<=cs.toList.length:=by rw[sv.length];exact hl
     obtain⟨b',hm,hsub⟩:=sv.mid off (zH P t) hl;exact⟨_,b',by simp only[execOp,ho,hv];simp[L.1 hag hl'],.v (.agg _ _ _ hm),fun y hy=>hz y (hsub y hy)⟩
    ·cases h
   ·rename_i hag;simp only[wq]at hag;obtain⟨v,b',Z4,_,hr,hsub⟩:=sv.at h;exact⟨v,b',by simp only[execOp,ho,hv];simp[L.2 hag v Z4],hr.PT,fun y hy=>hz y (hsub y hy)⟩
  ·cases h
 ·rename_i ag id i sz off ht hx;rw[hx]at r1;obtain⟨g,o0,len,cap,hk,hv⟩:=r1.En;split at h
  ·rename_i k e sz' rows hH;split at h
   ·rename_i row hrow;split at h
    ·rename_i a5B;obtain⟨rfl,hk0,hoff⟩:=a5B;obtain⟨hsz,hrl,vk,cs,bs,Ws,hown,sv,hΘ,hz⟩:=hs.ob id _ hH;have yC:∀b∈bs,Θ b=0:=by cases k<;>first|exact hz|simp[RK.P5]at hk0
     rw[hk]at Ws;cases Ws;have Z1:=Ca hown;subst Z1;rw[cY]at hv;have Tc:row.length=sz':=hrl row (aE hrow);have hcells:∀j c,cs[j]?=some c->w.cell? ⟨g,0+j,none⟩=some c:=by
      intro j c hj;have:=hown.cells (g:=g) (by simp[Value.ownBlock]) j c hj;simpa[Addr.add_lit]using this
     have L:=pE (P:=P) (w:=w) ht (o:=i*sz'+off) hcells;simp only[cY]at L;have a8t:=sv.length;have hmid:=EW hrl hrow;have hlt:i<rows.length:=(aF.1 hrow).1;have hfl:=oX hrl;have hle:(i+1)*sz'<=rows.length*sz':=dh _ hlt;rw[k9,nE]at hle;unfold GW at h;split at h
     ·rename_i hag;subst hag;simp only[aH]at hoff;split at h
      ·rename_i hl;cases h;have hl':i*sz'+off+zH P t<=cs.length:=by rw[a8t,hfl];omega
       obtain⟨b',hm,hsub⟩:=sv.mid (i*sz'+off) (zH P t);have e:(rows.flatten.drop (i*sz'+off)).take (zH P t)=(row.drop off).take (zH P t):=by
        rw[<-hmid,List.drop_take,tS,gm,fJ (by omega)]
       rw[e]at hm;exact⟨_,b',by simp only[execOp,ho,hv];simp[L.1 rfl hl'],.of (.agg _ _ _ hm),fun y hy=>yC y (hsub y hy)⟩
      ·cases h
     ·rename_i hag;simp only[wq]at hag;subst hag;simp only[aQ]at hoff;have e:rows.flatten[i*sz'+off]?=some d:=by
       rw[<-hmid,cR,bK (by omega),eb]at h;exact h
      obtain⟨v,b',Z4,_,hr,hsub⟩:=sv.at e;exact⟨v,b',by simp only[execOp,ho,hv];simp[L.2 rfl v Z4],.of hr,fun y hy=>yC y (hsub y hy)⟩
    ·cases h
   ·cases h
  ·cases h
 ·rename_i ag g o' ht hx;rw[hx]at r1;have hv:=r1.U5;split at h
  ·obtain⟨ds,⟨p,hp,hcs⟩,hd⟩:=Yj h;obtain⟨B,hB,_⟩:=hs.vsb;obtain⟨_,cs,T,z,hg,hpc⟩:=hB _ hp;obtain⟨v,GS,hrd⟩:=hcs _ hpc _ _ hd;have hc:∀j c,cs.toList[j]?=some c->w.cell? ⟨g,0+j,none⟩=some c:=by
    intro j c hj;simp only[cY,World.cell?,hg];simpa using hj
   have L:=(pE (P:=P) (w:=w) ht (o:=o') hc).2 rfl v GS;rw[cY]at L;exact⟨v,[],by simp only[execOp,ho,hv];simp[L],.of (hrd w),by simp⟩
  ·cases h
 ·cases h
theorem QG{o:Oper}{t f:Nat}{x:Operand}{d:D}(hs:dl Γ st κ Θ a w)(ho:o.op=.field t x f)
 (h:pv P st (.field t x f)=some d):wX P κ Θ a w o d:=by
 obtain⟨b1,r1,z1⟩:=hs.ev x;simp only[pv]at h;split at h
 ·rename_i off ft cells ht hx;rw[hx]at r1;obtain⟨cs,hv,sv⟩:=r1.F5;unfold tft at ht;split at ht
  ·rename_i fs hu;split at ht
   ·rename_i fl hfl;cases ht;split at h
    ·rename_i ag hta;unfold GW at h;split at h
     ·rename_i hag;subst hag;split at h
      ·rename_i hl;cases h;obtain⟨b',hm,hsub⟩:=sv.mid fl.offset (zH P fl.type) hl;refine⟨.agg ((cs.drop fl.offset).take (zH P fl.type)).toArray,b',?_,.v (.agg _ _ _ hm),fun y hy=>z1 y (hsub y hy)⟩;have e:cs.toArray.extract fl.offset (fl.offset+zH P fl.type)=((cs.drop fl.offset).take (zH P fl.type)).toArray:=by
        rw[List.extract_toArray,List.extract_eq_take_drop];congr 1;congr 1;omega
       simp only[execOp,ho,hv];simp[Instr.field,run_underlying hu,hfl,asAgg,part,FD hta,vA (Ix hta),e]
      ·cases h
     ·rename_i hag;simp only[wq]at hag;subst hag;obtain⟨v,b',GS,_,hr,hsub⟩:=sv.at h;refine⟨v,b',?_,.v (.cell hr),fun y hy=>z1 y (hsub y hy)⟩;simp only[execOp,ho,hv];simp[Instr.field,run_underlying hu,hfl,asAgg,part,FD hta,GS]
    ·cases h
   ·cases ht
  ·cases ht
 ·cases h
theorem L3{o:Oper}{t f:Nat}{x:Operand}{d:D}(hs:dl Γ st κ Θ a w)(ho:o.op=.fieldAddr t x f)
 (h:pv P st (.fieldAddr t x f)=some d):wX P κ Θ a w o d:=by
 obtain⟨b1,r1,z1⟩:=hs.ev x;have hf:∀ {o':Nat},tfo P t f=some o'->∀(b off:Nat),(Instr.fieldAt t (.pointer (some ⟨b,off,none⟩)) f).run P w=.ok (.pointer (some ⟨b,off+o',none⟩)) w:=by
  intro o' h b off;unfold tfo at h;split at h
  ·rename_i fs hu;split at h
   ·rename_i fl hfl;split at h
    ·rename_i hc;cases h;obtain⟨i,hi⟩:=eT.1 hc.1;have hsz:=vA (P:=P) ⟨i,hi⟩ w;have h0:zH P fl.type≠0:=hc.2;simp[Instr.fieldAt,run_underlying hu,hfl,Instr.sureAddr,fieldPlace,hsz,h0,Addr.add_lit]
    ·cases h
   ·cases h
  ·cases h
 simp only[pv]at h;split at h
 ·rename_i o' id off ht hx;cases h;rw[hx]at r1;obtain⟨g,hk,hv⟩:=r1.z8;exact⟨_,[],by simp only[execOp,ho,hv];simp[hf ht g off],(zC.ptr id (off+o') g hk).PT,by simp⟩
 ·rename_i o' row off ht hx;cases h;rw[hx]at r1;have hrd:=r1.Rm;generalize Td:a.eval x=vx at hrd;cases hrd with
  |ep b base cs _ _ bs h0 hc sv=>
   refine⟨.pointer (some ⟨b,base+off+o',none⟩),b::bs,by simp only[execOp,ho,Td];simp[hf ht b (base+off)],?_,z1⟩;rw[qM];exact .of (.ep b base cs row (off+o') bs h0 hc sv)
 ·rename_i o' id i sz off ht hx;cases h;rw[hx]at r1;obtain⟨g,o0,len,cap,hk,hv⟩:=r1.En;refine⟨.pointer (some ⟨g,o0+(i*sz+off)+o',none⟩),[],by simp only[execOp,ho,hv];simp[hf ht g (o0+(i*sz+off))],?_,by simp⟩;rw[qM,qM];exact(zC.op id i sz (off+o') g o0 len cap hk).PT
 ·cases h
theorem ou{t e sz:Nat}(h:FG P t=some (e,sz)):P.underlying t=some (.slice e)/\(∃i,P.info? e=some i)/\zH P e=sz:=by
 unfold FG at h;split at h
 ·rename_i e' hu;split at h
  ·rename_i hi;cases h;exact⟨hu,eT.1 hi,rfl⟩
  ·cases h
 ·cases h
theorem L7{o:Oper}{t:Nat}{x i:Operand}{d:D}(hs:dl Γ st κ Θ a w)(ho:o.op=.indexAddr t x i)
 (h:pv P st (.indexAddr t x i)=some d):wX P κ Θ a w o d:=by
 obtain⟨b1,r1,z1⟩:=hs.ev x;obtain⟨b2,r2,z2⟩:=hs.ev i;simp only[pv]at h;split at h
 ·rename_i e sz rows k n ht hx hi;rw[hx]at r1;rw[hi]at r2;have hn:=r2.qj;obtain⟨hu,K1,Iv⟩:=ou ht;have hsz:=vA (P:=P) K1 w;split at h
  ·rename_i h0;split at h
   ·rename_i row hrow;split at h
    ·rename_i hlen;cases h;have hrd:=r1.PL;have hlt:n.toNat<rows.length:=(aF.1 hrow).1;generalize Td:a.eval x=vx at hrd;cases hrd with
     |yp=>simp at hrow
     |oO=>simp at hrow
     |sl b off cap sz' _ cs bs hb hcap CX hrl hc sv=>
      have a8w:sz'=sz:=by rw[<-hrl row (aE hrow)];exact hlen
      subst a8w;obtain⟨b',hm,hsub⟩:=sv.mid (n.toNat*sz') sz';rw[EW hrl hrow]at hm;have hn':0<=n/\n<(rows.length:Int):=⟨h0,by omega⟩
      refine⟨.pointer (some ⟨b,off+n.toNat*sz',none⟩),b::b',?_,?_,?_⟩
      ·simp only[execOp,ho,Td,hn];simp[Instr.indexAt,asIntOf,run_underlying hu,hn',hsz,Iv,Addr.add_lit]
      ·have a8u:∀j c,((cs.drop (n.toNat*sz')).take sz')[j]?=some c->w.cell? ⟨b,off+n.toNat*sz'+j,none⟩=some c:=by
        intro j c hj;rw[cR]at hj;split at hj
        ·rw[eb]at hj;rw[qM];exact hc _ _ hj
        ·cases hj
       exact .of (.ep b (off+n.toNat*sz') _ row 0 b' hb a8u hm)
      ·intro y hy;rcases bB.1 hy with rfl|hy
       ·exact z1 _ (by simp)
       ·exact z1 _ (by simp[hsub y hy])
    ·cases h
   ·cases h
  ·cases h
 ·rename_i e sz id k n ht hx hi;rw[hx]at r1;rw[hi]at r2;have hn:=r2.qj;obtain⟨hv,_⟩:=r1.vD;obtain⟨hu,K1,Iv⟩:=ou ht;have hsz:=vA (P:=P) K1 w;split at h
  ·rename_i dp e' sz' rows hH;split at h
   ·rename_i hc;cases h;obtain⟨rfl,h0,hlt⟩:=hc;obtain⟨a36,hrl,vk,cs,bs,Ws,hown,sv,hΘ,hz⟩:=hs.ob id _ hH;rw[hv]at Ws;cases Ws;rcases hown.2 with⟨uO,yC⟩|⟨g,cap,cur,hkv,_⟩
    ·omega
    ·have hn':0<=n/\n<(rows.length:Int):=⟨h0,by omega⟩
     refine⟨_,[],?_,(zC.op id n.toNat sz 0 g 0 _ _ (hkv▸hv)).PT,by simp⟩;simp only[execOp,ho,hn,hkv];simp[Instr.indexAt,asIntOf,run_underlying hu,hn',hsz,Iv,Addr.add_lit]
   ·cases h
  ·cases h
 ·rename_i g o' kk n hx hi;rw[hx]at r1;rw[hi]at r2;have hn:=r2.qj;have hv:=r1.U5;split at h
  ·rename_i sz len hT;split at h
   ·rename_i hc;cases h;obtain⟨h0,hlt⟩:=hc;unfold a4K at hT;split at hT
    ·rename_i len' e hu;split at hT
     ·rename_i K1;cases hT;have hsz:=vA (P:=P) (eT.1 K1) w;have hn':0<=n/\n<(len:Int):=⟨h0,by omega⟩
      refine⟨_,[],?_,.of (.val _),by simp⟩;simp only[execOp,ho,hn,hv];simp[Instr.indexAt,Instr.sureAddr,asIntOf,run_underlying hu,hn',hsz,zH,Addr.add_lit]
     ·cases hT
    ·cases hT
   ·cases h
  ·cases h
 ·cases h
theorem Uj{o:Oper}{t t':Nat}{x y:Operand}{d:D}(hs:dl Γ st κ Θ a w)(ho:o.op=.call {callee:=.builtin .min,args:= #[x,y],argTypes:= #[t,t']})
 (h:a3i (st.ev x) (st.ev y)=some d):wX P κ Θ a w o d:=by
 obtain⟨b1,r1,z1⟩:=hs.ev x;obtain⟨b2,r2,z2⟩:=hs.ev y;unfold a3i at h;split at h
 ·rename_i k m k' n hx hy;split at h
  ·rename_i hk;subst hk;cases h;rw[hx]at r1;rw[hy]at r2;have e1:=r1.qj;have e2:=r2.qj;refine⟨.int k (NK m n),[],?_,.of (.int _ _ ?_),by simp⟩
   ·simp only[execOp,ho,resolve,invoke,builtin,oZ,av,bZ,e1,e2];simp[Builtin.min_,Builtin.min2,NK]
   ·unfold NK;split
    ·exact r2.MC
    ·exact r1.MC
  ·cases h
 ·cases h
theorem Ue{o:Oper}{t:Nat}{x:Operand}{d:D}(hs:dl Γ st κ Θ a w)(ho:o.op=.call {callee:=.builtin .len,args:= #[x],argTypes:= #[t]})
 (h:a0W P st x t=some d):wX P κ Θ a w o d:=by
 obtain⟨b1,r1,z1⟩:=hs.ev x;unfold a0W at h;split at h
 ·rename_i s hx;split at h
  ·rename_i ht;cases h;rw[hx]at r1;obtain⟨u,hv,rfl⟩:=r1.uR;have hu:P.underlying t=some .string:=by
    unfold KK at ht;split at ht
    ·assumption
    ·cases ht
   refine⟨.int .i64 (u.data.toList.length:Nat),[],?_,.of (.int _ _ (Oz r1.Yb)),by simp⟩;simp only[execOp,ho,resolve,invoke,builtin,oZ,av,bZ,hv];simp[Builtin.len_,run_underlying hu,goInt]
  ·cases h
 ·rename_i rows hx;split at h
  ·rename_i ht;cases h;rw[hx]at r1;obtain⟨⟨e,sz⟩,ht⟩:=eT.1 ht;obtain⟨hu,_,_⟩:=ou ht;have hrd:=r1.PL;generalize Td:a.eval x=vx at hrd;have hlen:∃q c,vx=.slice q rows.length c:=by
    cases hrd with
    |yp=>exact⟨_,_,rfl⟩
    |oO=>exact⟨_,_,rfl⟩
    |sl=>exact⟨_,_,rfl⟩
   have CX:rows.length<=maxLen:=by
    cases hrd with
    |yp=>simp
    |oO=>simp
    |sl b off cap sz _ cs bs hb h1 h2=>omega
   obtain⟨q,c,rfl⟩:=hlen;refine⟨.int .i64 rows.length,[],?_,.of (.int _ _ (Oz CX)),by simp⟩;simp only[execOp,ho,resolve,invoke,builtin,oZ,av,bZ,Td];simp[Builtin.len_,run_underlying hu,goInt]
  ·cases h
 ·rename_i hx;split at h
  ·rename_i ht;cases h;rw[hx]at r1;obtain⟨⟨e,sz⟩,ht⟩:=eT.1 ht;obtain⟨hu,_,_⟩:=ou ht;have hv:=r1.J5;refine⟨.int .i64 0,[],?_,.of (.int _ _ (pN.zero _)),by simp⟩;simp only[execOp,ho,resolve,invoke,builtin,oZ,av,bZ,hv];simp[Builtin.len_,run_underlying hu,goInt]
  ·cases h
 ·rename_i id hx;split at h
  ·rename_i p dp e' sz' rows ht hH;cases h;rw[hx]at r1;obtain⟨hv,_⟩:=r1.vD;obtain⟨e,sz⟩:=p;obtain⟨hu,_,_⟩:=ou ht;obtain⟨a36,hrl,vk,cs,bs,Ws,hown,sv,hΘ,hz⟩:=hs.ob id _ hH;rw[hv]at Ws;cases Ws;have hlen:∃q c,a.eval x=.slice q rows.length c:=by
    rcases hown.2 with⟨uO,yC⟩|⟨g,cap,cur,hkv,_⟩
    ·exact⟨none,0,by rw[uO,yC]⟩
    ·exact⟨_,_,hkv⟩
   have CX:rows.length<=maxLen:=by
    rcases hown.2 with⟨uO,yC⟩|⟨g,cap,cur,hkv,_,_,h1,h2,_⟩
    ·omega
    ·omega
   obtain⟨q,c,hk⟩:=hlen;refine⟨.int .i64 rows.length,[],?_,.of (.int _ _ (Oz CX)),by simp⟩;simp only[execOp,ho,resolve,invoke,builtin,oZ,av,bZ,hk];simp[Builtin.len_,run_underlying hu,goInt]
  ·cases h
 ·cases h
theorem C3.at{vs:bw}{ds:aP}{bs:aX}(h:C3 w κ vs ds bs){i:Nat}{d:D}(hd:ds[i]?=some d):
 ∃v b,vs[i]?=some v/\LV w κ v d b/\∀x∈b,x∈bs:=by
 induction ds generalizing vs bs i with
 |nil=>simp at hd
 |cons e ds ih=>
  cases h with
  |cons v vs _ _ b1 b2 h2 h3=>
   cases i with
   |zero=>simp at hd;subst hd;exact⟨v,b1,by simp,h2,by intro x hx;simp[hx]⟩
   |succ i=>
    simp at hd;obtain⟨u,b,k1,k3,k4⟩:=ih h3 hd;exact⟨u,b,by simpa using k1,k3,fun x hx=>by simp[k4 x hx]⟩
theorem rW.a0z{v:Value}{ds:aP}{bs:aX}(h:rW w κ v (.iE ds) bs):∃vs:bw,v=.tuple vs.toArray/\C3 w κ vs ds bs:=by
 cases h with
 |v h=>cases h with|cell h=>cases h with|pure h=>cases h
 |iE vs _ _ h=>exact⟨vs,rfl,h⟩
theorem NC{o:Oper}{i:Nat}{x:Operand}{d:D}(hs:dl Γ st κ Θ a w)(ho:o.op=.extract x i)
 (h:pv P st (.extract x i)=some d):wX P κ Θ a w o d:=by
 obtain⟨b1,r1,z1⟩:=hs.ev x;simp only[pv]at h;split at h
 ·rename_i vs hx;rw[hx]at r1;obtain⟨us,hv,hr⟩:=r1.a0z;obtain⟨v,b,k1,k2,k3⟩:=hr.at h;exact⟨v,b,by simp only[execOp,ho,hv];simp[Instr.extract,k1],.v k2,fun y hy=>z1 y (k3 y hy)⟩
 ·cases h
theorem xI{t:Nat}(ht:KK P t=true):P.underlying t=some .string:=by
 unfold KK at ht;split at ht
 ·assumption
 ·cases ht
theorem QY{o:Oper}{t:Nat}{x i:Operand}{d:D}(hs:dl Γ st κ Θ a w)(ho:o.op=.index t x i)
 (h:pv P st (.index t x i)=some d):wX P κ Θ a w o d:=by
 obtain⟨b1,r1,z1⟩:=hs.ev x;obtain⟨b2,r2,z2⟩:=hs.ev i;simp only[pv]at h;split at h
 ·rename_i s k n ht hx hi;rw[hx]at r1;rw[hi]at r2;obtain⟨u,hv,rfl⟩:=r1.uR;have hn:=r2.qj;have hu:=xI ht;split at h
  ·rename_i h0;split at h
   ·rename_i b hb;cases h;have hlt:n.toNat<u.size:=by
     have:=(aF.1 hb).1;simpa using this
    have M3:u[n.toNat]?=some b:=by
     have hb':u.data[n.toNat]?=some b:=by simpa using hb
     rw[getElem?_pos u n.toNat hlt];rw[bI]at hb';obtain⟨_,he⟩:=hb';rw[<-he];rfl
    refine⟨.int .u8 b.toNat,[],?_,.of (.int _ _ (pN.u8.2 (by have:=b.toNat_lt;omega))),by simp⟩;simp only[execOp,ho,hv,hn];simp[Instr.index,asIntOf,run_underlying hu,h0,M3]
   ·cases h
  ·cases h
 ·cases h
theorem PE{lo hi:Option Operand}{l h':Nat}{isSlice:Bool}{len cap:Nat}(hs:dl Γ st κ Θ a w)
 (hlc:len<=cap) (h:xE len (lo.map st.ev) (hi.map st.ev)=some (l,h')):
 (Instr.sliceBounds isSlice len cap (lo.map a.eval) (hi.map a.eval) none).run P w=.ok (l,h',cap) w/\l<=h'/\h'<=len:=by
 have hv:∀ {x:Operand} {k:IntKind} {n:Int},st.ev x=.int k n->a.eval x=.int k n:=by
  intro x k n hx;obtain⟨b,r,_⟩:=hs.ev x;rw[hx]at r;exact r.qj
 unfold xE at h;cases hi with
 |none=>
  simp only[yE]at h⊢;cases lo with
  |none=>
   simp only[yE,aq,cW]at h⊢;obtain⟨rfl,rfl⟩:=h;exact⟨by simp[Instr.sliceBounds],by omega,by omega⟩
  |some lo=>
   simp only[cU]at h⊢;cases hlo:st.ev lo<;>simp only[hlo,reduceCtorEq]at h;rename_i k n;split at h
   ·cases h
   ·rename_i l0 hm;split at hm
    ·rename_i hb;cases hm;cases h;have Mv:0<=n/\n<=(h':Int):=⟨hb.1,by omega⟩
     exact⟨by simp[Instr.sliceBounds,Instr.sliceBound,hv hlo,asIntOf,Mv],hb.2,by omega⟩
    ·cases hm
 |some hi=>
  simp only[cU]at h⊢;cases hhi:st.ev hi<;>simp only[hhi,reduceCtorEq]at h;rename_i k m;split at h
  ·cases h
  ·rename_i h0 hm;split at hm
   ·rename_i hb;cases hm;have Mv:0<=m/\m<=(cap:Int):=⟨hb.1,by omega⟩
    cases lo with
    |none=>
     simp only[yE,aq,cW]at h⊢;obtain⟨rfl,rfl⟩:=h;exact⟨by simp[Instr.sliceBounds,Instr.sliceBound,hv hhi,asIntOf,Mv],by omega,hb.2⟩
    |some lo=>
     simp only[cU]at h⊢;cases hlo:st.ev lo<;>simp only[hlo,reduceCtorEq]at h;rename_i k' n;split at h
     ·cases h
     ·rename_i l0 hm;split at hm
      ·rename_i VO;cases hm;cases h;have hb3:0<=n/\n<=max m 0:=⟨VO.1,by omega⟩
       exact⟨by simp[Instr.sliceBounds,Instr.sliceBound,hv hhi,hv hlo,asIntOf,Mv,hb3],VO.2,hb.2⟩
      ·cases hm
   ·cases hm
theorem Xy{rows:List aP}{sz l h':Nat}(hrl:∀r∈rows,r.length=sz)(h1:l<=h')(h2:h'<=rows.length):
 ((rows.take h').drop l).flatten=(rows.flatten.drop (l*sz)).take ((h'-l)*sz):=by
 have e:rows=(rows.take l)++(((rows.take h').drop l)++rows.drop h'):=by
  have hA:rows.take h'=(rows.take h').take l++(rows.take h').drop l:=(cD _ _).symm;have hB:(rows.take h').take l=rows.take l:=by rw[tS,fJ h1]
  rw[hB]at hA;rw[<-cu,<-hA,cD]
 have l1:(rows.take l).flatten.length=l*sz:=by
  rw[oX (fun r hr=>hrl r (cI hr)),cQ,fJ (by omega)]
 have l2:((rows.take h').drop l).flatten.length=(h'-l)*sz:=by
  rw[oX (fun r hr=>hrl r (cI (iJ hr))),wv,cQ,fJ (by omega)]
 have hf:rows.flatten=(rows.take l).flatten++(((rows.take h').drop l).flatten++(rows.drop h').flatten):=by
  rw[<-lS,<-lS,<-e]
 rw[hf,fy l1,ig l2]
theorem R9{o:Oper}{t:Nat}{x:Operand}{lo hi:Option Operand}{d:D}(hs:dl Γ st κ Θ a w)(ho:o.op=.slice t x lo hi none)
 (h:pv P st (.slice t x lo hi none)=some d):wX P κ Θ a w o d:=by
 obtain⟨b1,r1,z1⟩:=hs.ev x;simp only[pv]at h;split at h
 ·rename_i s hx;rw[hx]at r1;obtain⟨u,hv,rfl⟩:=r1.uR;split at h
  ·rename_i ht;have hu:=xI ht;split at h
   ·rename_i l h' hc;cases h;obtain⟨hr,hl,hh⟩:=PE (P:=P) (isSlice:=false) (cap:=u.data.toList.length) hs (bR _) hc;have hsz:u.data.toList.length=u.size:=by simp
    rw[hsz]at hr;refine⟨.string (u.extract l h'),[],?_,?_,by simp⟩
    ·simp only[execOp,ho,hv];simp[Instr.sliceAt,Instr.slice,run_underlying hu,hr]
    ·have:=Rd.str (w:=w) (u.extract l h') (by
      have h1:=r1.Yb;simp at h1⊢;omega)
     have e:(u.extract l h').data.toList=(u.data.toList.take h').drop l:=by
      simp[ByteArray.data_extract,List.drop_take]
     rw[e]at this;exact .of this
   ·cases h
  ·cases h
 ·rename_i rows hx;rw[hx]at r1;have hrd:=r1.PL;split at h
  ·rename_i e sz l h' ht hc;split at h
   ·rename_i hall;cases h;obtain⟨hu,K1,Iv⟩:=ou ht;have hsz:=vA (P:=P) K1 w;have hrl:∀r∈rows,r.length=sz:=by
     intro r hr;have:=aj.1 hall r hr;simpa using this
    generalize Td:a.eval x=vx at hrd;have main:∀(q:Option Addr) (cap:Nat),vx=.slice q rows.length cap->rows.length<=cap->
     (execOp a.eval o).run P w=.ok (.value (.slice (if cap=l then q else q.map (·.add (l*sz))) (h'-l) (cap-l))) w/\l<=h'/\h'<=rows.length:=by
     intro q cap hq hcap;obtain⟨hr,hl,hh⟩:=PE (P:=P) (isSlice:=true) (cap:=cap) hs hcap hc;refine⟨?_,hl,hh⟩;simp only[execOp,ho,Td,hq];simp[Instr.sliceAt,Instr.slice,run_underlying hu,hr,hsz,Iv]
    cases hrd with
    |yp=>
     obtain⟨hr,hl,hh⟩:=main none 0 rfl (by simp);simp only[br]at hh;have e1:h'=0:=by omega
     have e2:l=0:=by omega
     subst e1;subst e2;exact⟨_,[],hr,by simpa using rW.of (κ:=κ) (Rd.yp (w:=w)),by simp⟩
    |oO ad cap hm=>
     obtain⟨hr,hl,hh⟩:=main (some ad) cap rfl (by simp);simp only[br]at hh;have e1:h'=0:=by omega
     have e2:l=0:=by omega
     subst e1;subst e2;refine⟨_,[],hr,?_,by simp⟩;have:(if cap=0 then some ad else(some ad).map (·.add (0*sz)))=some ad:=by simp[Addr.add]
     rw[this];exact .of (by simpa using Rd.oO (w:=w) ad cap hm)
    |sl b off cap sz' _ cs bs hb hcap CX L6 hcc sv=>
     obtain⟨hr,hl,hh⟩:=main (some ⟨b,off,none⟩) cap rfl hcap;by_cases he:h'=l
     ·subst he;refine⟨_,[],hr,?_,by simp⟩;have e1:(rows.take h').drop h'=[]:=by simp
      rw[e1,pY];split
      ·exact .of (.oO _ _ (by omega))
      ·simp only[cU];exact .of (.oO _ _ (by omega))
     ·have hne:cap≠l:=by omega
      rw[az hne,cU,Addr.add_lit]at hr;obtain⟨b',hm,hsub⟩:=sv.mid (l*sz) ((h'-l)*sz);rw[<-Xy hrl hl hh]at hm;refine⟨_,b::b',hr,?_,?_⟩
      ·have hlen:((rows.take h').drop l).length=h'-l:=by simp;omega
       rw[<-hlen];refine .of (.sl b (off+l*sz) (cap-l) sz _ _ b' hb (by omega) (by omega) (fun r hr=>hrl r (cI (iJ hr))) ?_ hm);intro j c hj;rw[cR]at hj;split at hj
       ·rw[eb]at hj;rw[qM];exact hcc _ _ hj
       ·cases hj
      ·intro y hy;rcases bB.1 hy with rfl|hy
       ·exact z1 _ (by simp)
       ·exact z1 _ (by simp[hsub y hy])
   ·cases h
  ·cases h
 ·cases h
theorem Nw{v:Value}(h:v.oneCell'=true):v.cells.toList=[v]:=by
 cases v<;>first|rfl|cases h
theorem zC.one{v:Value}{d:D}{bs:aX}(h:zC w κ v d bs)(hk:∀(id:Nat) u,κ id=some u->u.oneCell'=true)(hna:∀es,d≠ .agg es)(hc:d.cellsOf=some [d]):v.oneCell'=true:=by
 cases h with
 |pure h=>
  cases h<;>first
   |rfl
   | (exfalso;exact hna _ rfl)
   | (simp[D.cellsOf]at hc;done)
   | (simp only[D.cellsOf]at hc;split at hc<;>first|assumption|cases hc)
 |acc i v h=>exact hk i v h
 |ptr=>rfl
 |op=>rfl
theorem BG{v:Value}{d:D}{bs:aX}{ds:aP}(hk:∀(id:Nat) u,κ id=some u->u.oneCell'=true)(h:rW w κ v d bs)(hc:d.cellsOf=some ds):fS w κ v.cells.toList ds bs:=by
 have single:∀ {v d bs},zC w κ v d bs->(∀es,d≠ .agg es)->d.cellsOf=some [d]->fS w κ v.cells.toList [d] bs:=by
  intro v d bs h hna hc;have h1:=h.one hk hna hc;rw[Nw h1];have:=fS.cons v [] d [] bs [] h1 h .nil;simpa using this
 cases h with
 |iE=>simp[D.cellsOf]at hc
 |v h=>
  cases h with
  |agg cs _ _ h=>simp only[D.cellsOf,aq]at hc;subst hc;simpa[Value.cells]using h
  |cell h=>
   by_cases tO:∃es,d=.agg es
   ·obtain⟨es,rfl⟩:=tO;simp only[D.cellsOf,aq]at hc;subst hc;cases h with
    |pure h=>cases h with|agg cs _ _ h=>simpa[Value.cells]using fS.Co (κ:=κ) h
   ·have e:ds=[d]:=by
     cases d<;>simp only[D.cellsOf,aq,reduceCtorEq]at hc<;>first
      |exact hc.symm
      | (exfalso;exact tO ⟨_,rfl⟩)
      | (split at hc<;>first| (simp at hc;exact hc.symm)|cases hc)
    subst e;exact single h (fun es he=>tO ⟨es,he⟩) hc
theorem xL{T:TypeId}{zs:aP}(hz:tz P T=some zs):∃i z,P.info? T=some i/\i.zero=some z/\z.cells.size=i.size/\zs.length=i.size/\(∀c∈z.cells.toList,c.oneCell'=true)/\zs=z.cells.toList.map D.SM:=by
 unfold tz at hz;split at hz
 ·rename_i i hi;split at hz
  ·rename_i z Mw;split at hz
   ·rename_i hc;cases hz;simp only[aS,aj,cq]at hc;exact⟨i,z,hi,Mw,hc.2,by simp[hc.2],hc.1,rfl⟩
   ·cases hz
  ·cases hz
 ·cases hz
theorem Bo(cs:bw)(h:∀c∈cs,c.oneCell'=true):fS w κ cs (cs.map D.SM) []:=by
 induction cs with
 |nil=>exact .nil
 |cons c cs ih=>
  have hrd:Rd w c (D.SM c) []:=by
   unfold D.SM;split
   ·exact .bool _
   ·split
    ·rename_i h;exact .int _ _ h
    ·exact .val _
   ·split
    ·rename_i h;exact .str _ h
    ·exact .val _
   ·exact .nil
   ·exact .val _
  have:=fS.cons (κ:=κ) c cs _ _ [] [] (h c (by simp)) (.pure hrd) (ih (fun x hx=>h x (by simp[hx])));simpa using this
theorem foldl_set(off:Nat):∀(vs:bw) (k:Nat) (cells:Array Value),off+k+vs.length<=cells.size->
 ((vs.zipIdx k).foldl (fun cs (x:Value×Nat)=>cs.setIfInBounds (off+x.2) x.1) cells).toList=cells.toList.take (off+k)++vs++cells.toList.drop (off+k+vs.length):=by
 intro vs
 induction vs with
 |nil=>intro k cells _;simp
 |cons v vs ih=>
  intro k cells h;simp only[aV]at h;rw[List.zipIdx_cons,cJ,ih (k+1) _ (by simp;omega)];simp only[Array.toList_setIfInBounds,aV];have hlt:off+k<cells.toList.length:=by simp;omega
  rw[show off+(k+1)=off+k+1 from by omega,List.take_set,List.drop_set,bK (by omega)];rw[show off+k+1+vs.length=off+k+(vs.length+1)from by omega]
  congr 1
  rw[show v::vs=[v]++vs from rfl,<-cu]
  congr 1
  rw[List.take_succ_eq_append_getElem hlt,tA _ _ (by simp;omega)];have:(List.take (off+k) cells.toList).length=off+k:=by rw[cQ];omega
  rw[this,pY];rfl
theorem TQ(hs:dl Γ st κ Θ a w){places:List (Nat×Nat)}:∀(parts:List (Nat×Operand)) (cs:Array Value) (cells ds:aP) (bs:aX),
 fS w κ cs.toList cells bs->(∀b∈bs,Θ b=0)->xu places cells (parts.map fun p=>(p.1,st.ev p.2))=some ds->
 ∃arr bs',Instr.fill (places.toArray[·]?) cs (parts.map fun p=>(p.1,a.eval p.2))=some arr/\fS w κ arr.toList ds bs'/\∀b∈bs',Θ b=0:=by
 intro parts
 induction parts with
 |nil=>
  intro cs cells ds bs hr hz hf;simp only[bZ,xu,aq]at hf;subst hf;exact⟨cs,bs,rfl,hr,hz⟩
 |cons p parts ih=>
  intro cs cells ds bs hr hz hf
  ·obtain⟨i,x⟩:=p;obtain⟨b,hv,hb⟩:=hs.ev x;generalize hvv:a.eval x=v at hv;simp only[av,xu]at hf;split at hf
   ·rename_i off sz es hpl hes;split at hf
    ·rename_i hc;have hcs:=BG hs.oM hv hes;have hl1:=hcs.length;have CW:=hr.length;have e:cells=cells.take off++((cells.drop off).take sz++(cells.drop off).drop sz):=by rw[cD,cD]
     rw[e]at hr;obtain⟨v1,v2,c1,c2,M7,rfl,k1,k2⟩:=hr.split;obtain⟨v3,v4,c3,c4,rfl,rfl,k3,k4⟩:=k2.split;have l1:v1.length=off:=by rw[k1.length];simp;omega
     have l3:v3.length=sz:=by rw[k3.length];simp;omega
     have hvs:v.cells.size=sz:=by rw[<-hc.1,<-hl1];simp
     have hcl:cs.size=cells.length:=by rw[<-CW];simp
     have WW:=foldl_set off v.cells.toList 0 cs (by simp;omega);simp only[rU,uc,hvs]at WW;have e1:cs.toList.take off=v1:=by rw[M7];exact ig l1
     have e4:cs.toList.drop (off+sz)=v4:=by rw[M7,<-gm,fy l1];exact fy l3
     rw[e1,e4]at WW;rw[gm]at k4;have hnew:=(k1.app hcs).app k4;obtain⟨arr,bs',h1,h2,h3⟩:=ih (v.cells.zipIdx.foldl (fun cs (x:Value×Nat)=>cs.setIfInBounds (off+x.2) x.1) cs) _ ds ((c1++b)++c4)
      (by rw[<-Array.foldl_toList,Array.toList_zipIdx,WW];exact hnew)
      (by
       intro x hx;simp only[af]at hx;rcases hx with(hx|hx)|hx
       ·exact hz x (by simp[hx])
       ·exact hb x hx
       ·exact hz x (by simp[hx])) hf
     refine⟨arr,bs',?_,h2,h3⟩;simp only[av,Instr.fill,jW,hpl,hvv];rw[az (by simp;omega)];simpa using h1
    ·cases hf
   ·cases hf
theorem Q5{o:Oper}{t:TypeId}{parts:Array (Nat×Operand)}{d:D}(hs:dl Γ st κ Θ a w)(ho:o.op=.build t parts)
 (h:pv P st (.build t parts)=some d):wX P κ Θ a w o d:=by
 simp only[pv]at h;split at h
 ·rename_i zs ps hz hp;cases hf:xu ps zs (parts.toList.map fun p=>(p.1,st.ev p.2))with
  |none=>simp[hf]at h
  |some ds=>
   simp only[hf,cU,aq]at h;subst h;obtain⟨i,z,hi,yC,hsz,hlen,hone,rfl⟩:=xL hz;obtain⟨arr,bs',h1,h2,h3⟩:=TQ hs parts.toList z.cells _ ds [] (Bo z.cells.toList hone) (by simp) hf;have hb:P.built t (parts.map fun(i,x)=>(i,a.eval x)).toList=some arr:=by
    unfold Tz at hp;split at hp
    ·rename_i fs hu;unfold Program.built;simp only[hi,hu,yC,hp];rw[gu];exact h1
    ·cases hp
   refine⟨.agg arr,bs',?_,?_,h3⟩
   ·simp only[execOp,ho];simp[run_build w t _ arr hb]
   ·have:=LV.agg (w:=w) (κ:=κ) arr.toList ds bs' h2;exact .v (by simpa using this)
 ·cases h
theorem run_equalIn_bool{t:TypeId}{a b:Bool}(h:P.underlying t=some .bool)(d:Nat):(Op.equalIn (d+1) t (.bool a) (.bool b)).run P w=.ok (a==b) w:=by
 simp[Op.equalIn,run_underlying h]
theorem Cr{t:TypeId}{a b:ByteArray}(h:P.underlying t=some .string)(d:Nat):(Op.equalIn (d+1) t (.string a) (.string b)).run P w=.ok (a==b) w:=by
 simp[Op.equalIn,run_underlying h]
theorem JF{t:TypeId}(h:KK P t=true){xs:Array Value}{off:Nat}{v:Value}(hx:xs[off]?=some v):(part t xs off).run P w=.ok v w:=by
 simp[part,isAgg,run_underlying (xI h),hx]
theorem KI{t:TypeId}{a b c e:ByteArray}(h:Ty P t=true)(d:Nat):(Op.equalIn (d+2) t (.agg #[.string a,.string b]) (.agg #[.string c,.string e])).run P w=.ok (a==c&&b==e) w:=by
 unfold Ty at h;split at h
 ·rename_i fs hu;split at h
  ·rename_i f g hfs;simp only[aS,bne_iff_ne,ne_eq,cq,nR]at h;obtain⟨⟨⟨⟨⟨⟨⟨h1,h2⟩,h3⟩,h4⟩,h5⟩,h6⟩,h7⟩,h8⟩:=h;have a8Q:fs= #[f,g]:=by apply ql.mp;simpa using hfs
   subst a8Q;have p1:=fun(xs:Array Value) (v:Value) (hx:xs[0]?=some v)=>JF (w:=w) h5 hx
   have p2:=fun(xs:Array Value) (v:Value) (hx:xs[1]?=some v)=>JF (w:=w) h6 hx
   have q1:=Cr (P:=P) (w:=w) (a:=a) (b:=c) (xI h5) d;have q2:=Cr (P:=P) (w:=w) (a:=b) (b:=e) (xI h6) d;rw[Op.equalIn];generalize(a==c)=r1 at q1⊢;generalize(b==e)=r2 at q2⊢;cases r1<;>cases r2<;>simp[run_underlying hu,h7,h1,h2,h3,h4,p1,p2,q1,q2]
  ·cases h
 ·cases h
theorem fS.U1{κ:Nat->Option Value}{cs:bw}{p q:Bytes}{bs:aX}(h:fS w κ cs [.str p,.str q] bs):∃u v:ByteArray,cs=[.string u,.string v]/\u.data.toList=p/\v.data.toList=q:=by
 cases h with
 |cons v1 vs _ _ b1 b2 _ h1 h2=>
  cases h2 with
  |cons v2 vs' _ _ b3 b4 _ h3 h4=>
   cases h4;obtain⟨u,rfl,hu⟩:=(rW.v (.cell h1):rW w κ _ _ _).uR;obtain⟨v,rfl,hv⟩:=(rW.v (.cell h3):rW w κ _ _ _).uR;exact⟨u,v,rfl,hu,hv⟩
theorem Vu(u v:ByteArray):(u==v)=(u.data==v.data):=by cases u;cases v;rfl
theorem Us{o:Oper}{op:BinOp}{t t':TypeId}{x y:Operand}{d:D}(hs:dl Γ st κ Θ a w)(ho:o.op=.binOp op t x y t')
 (h:peq P op t (st.ev x) (st.ev y)=some d):wX P κ Θ a w o d:=by
 obtain⟨b1,r1,_⟩:=hs.ev x;obtain⟨b2,r2,_⟩:=hs.ev y;generalize st.ev x=dx at*;generalize st.ev y=dy at*;unfold peq at h;split at h
 ·rename_i p q;split at h
  ·rename_i hb;have hu:P.underlying t=some .bool:=by
    unfold a2I at hb;split at hb
    ·assumption
    ·cases hb
   have e1:=r1.wF;have e2:=r2.wF;have hq:=run_equalIn_bool (P:=P) (w:=w) (a:=p) (b:=q) hu 9999;have q':(Op.equal t (.bool p) (.bool q)).run P w=.ok (p==q) w:=hq;cases op<;>simp only[aq,reduceCtorEq]at h
   all_goals subst h
   all_goals exact⟨_,[],by(simp[execOp,ho,e1,e2,binOp,eqGuard,q'])<;>(cases p<;>cases q<;>rfl),.of (.bool _),by simp⟩
  ·cases h
 ·rename_i p1 p2 q1 q2;split at h
  ·rename_i hb;obtain⟨cs1,e1,k1⟩:=r1.F5;obtain⟨cs2,e2,k2⟩:=r2.F5;obtain⟨u1,u2,rfl,rfl,rfl⟩:=fS.U1 k1;obtain⟨v1,v2,rfl,rfl,rfl⟩:=fS.U1 k2;have hg:P.eqGuardType P.depth t=false:=by
    unfold Ty at hb;split at hb
    ·split at hb
     ·simp only[aS,nR]at hb;exact hb.2
     ·cases hb
    ·cases hb
   have q:=KI (P:=P) (w:=w) (a:=u1) (b:=u2) (c:=v1) (e:=v2) hb 9998;have q':(Op.equal t (.agg #[.string u1,.string u2]) (.agg #[.string v1,.string v2])).run P w=.ok (u1==v1&&u2==v2) w:=q;cases op<;>simp only[aq,reduceCtorEq]at h
   all_goals subst h
   all_goals exact⟨_,[],by(simp[execOp,ho,e1,e2,binOp,eqGuard,hg,q'])<;>(rw[Vu,Vu]),.of (.bool _),by simp⟩
  ·cases h
 ·cases h
theorem rW.a0C{v:Value}{b:Bool}{bs:aX}(h:rW w κ v (.ifc b) bs):(b=false/\v=.nilIface)\/(b=true/\∃t u,v=.iface t u):=by
 cases h with|v h=>cases h with|cell h=>cases h with|pure h=>cases h with
  |UY=>exact .inl ⟨rfl,rfl⟩
  |UZ t u=>exact .inr ⟨rfl,t,u,rfl⟩
theorem JE{t:TypeId}{ms:Array (String×TypeId)}(hu:P.underlying t=some (.interface ms)):(Op.equal t .nilIface .nilIface).run P w=.ok true w:=by
 unfold Op.equal Op.maxDepth;rw[Op.equalIn];simp[run_underlying hu]
theorem GY{t:TypeId}{ms:Array (String×TypeId)}{t1:TypeId}{v1:Value}(hu:P.underlying t=some (.interface ms)):(Op.equal t (.iface t1 v1) .nilIface).run P w=.ok false w:=by
 unfold Op.equal Op.maxDepth;rw[Op.equalIn];simp[run_underlying hu]
theorem SQ{o:Oper}{op:BinOp}{t t':TypeId}{x y:Operand}{d:D}(hs:dl Γ st κ Θ a w)(ho:o.op=.binOp op t x y t')
 (h:a3h op (st.ev x) (st.ev y)=some d):wX P κ Θ a w o d:=by
 obtain⟨b1,r1,_⟩:=hs.ev x;obtain⟨b2,r2,_⟩:=hs.ev y;generalize st.ev x=dx at*;generalize st.ev y=dy at*;unfold a3h at h;split at h
 ·rename_i k p k' q;have e1:=r1.qj;have e2:=r2.qj;cases op<;>simp only[reduceCtorEq]at h
  case shr=>
   split at h
   ·rename_i hq;cases h;exact⟨_,[],by simp[execOp,ho,e1,e2,binOp,eqGuard,Op.shift,show¬q<0 by omega,R8],.of (.int _ _ (r1.MC.shr q)),by simp⟩
   ·cases h
  all_goals
   split at h
   ·rename_i hk;subst hk;cases h;exact⟨_,[],by simp[execOp,ho,e1,e2,binOp,eqGuard,Op.intBits,GL,a4y,TD],.of (.int _ _ (pN.wrap _ _)),by simp⟩
   ·cases h
 ·cases h
theorem SR{o:Oper}{op:BinOp}{t t':TypeId}{x y:Operand}{d:D}(hs:dl Γ st κ Θ a w)(ho:o.op=.binOp op t x y t')
 (h:a3j P op t (st.ev x) y=some d):wX P κ Θ a w o d:=by
 obtain⟨b1,r1,_⟩:=hs.ev x;generalize st.ev x=dx at*;unfold a3j at h;split at h
 ·rename_i b;have hy:a.eval (.const .nilIface)=.nilIface:=rfl;have hT:∀ {op'},a4L P t=true->op=op'->∃ms,P.underlying t=some (.interface ms):=by
   intro _ ht _;unfold a4L at ht;split at ht
   ·rename_i ms hu;exact⟨ms,hu⟩
   ·cases ht
  rcases r1.a0C with⟨rfl,hx⟩|⟨rfl,t1,v1,hx⟩
  ·split at h
   ·rename_i ht;cases h;obtain⟨ms,hu⟩:=hT ht rfl;exact⟨.bool true,[],by simp[execOp,ho,hx,hy,binOp,eqGuard_nil_constR,JE hu],.of (.bool _),by simp⟩
   ·rename_i ht;cases h;obtain⟨ms,hu⟩:=hT ht rfl;exact⟨.bool false,[],by simp[execOp,ho,hx,hy,binOp,eqGuard_nil_constR,JE hu],.of (.bool _),by simp⟩
   ·cases h
  ·split at h
   ·rename_i ht;cases h;obtain⟨ms,hu⟩:=hT ht rfl;exact⟨.bool false,[],by simp[execOp,ho,hx,hy,binOp,eqGuard,GY hu],.of (.bool _),by simp⟩
   ·rename_i ht;cases h;obtain⟨ms,hu⟩:=hT ht rfl;exact⟨.bool true,[],by simp[execOp,ho,hx,hy,binOp,eqGuard,GY hu],.of (.bool _),by simp⟩
   ·cases h
 ·cases h
theorem yY.cons{w:World}{e:MapEntry}{es:List MapEntry}{p:D×D}{kv:List (D×D)}(h:yY w (e::es) (p::kv)):Rd w e.key p.1 []/\Rd w e.val p.2 []/\yY w es kv:=
 ⟨(h.2 0 e p rfl rfl).1,(h.2 0 e p rfl rfl).2,by simpa using h.1,fun j e' p' h1 h2=>h.2 (j+1) e' p' (by simpa using h1) (by simpa using h2)⟩
theorem a1B{x y:ByteArray}:(x==y)=(x.data.toList==y.data.toList):=by
 rw[bp,MapKept.bytes_beq,cq];constructor
 ·intro h;rw[h]
 ·intro h;obtain⟨a⟩:=x;obtain⟨b⟩:=y;simp only at h;rw[ql]at h;rw[h]
theorem LK{w:World}{kd:TypeDesc}{k k':D}{u u':Value}{b:Bool}(NF:HY kd k=true)(hu:Rd w u k [])(wS:Rd w u' k' [])(h:keq k k'=some b):Instr.sameNow kd u u'=some b/\(b=true->u'=u):=by
 unfold keq at h;split at h
 ·rename_i s s';cases h;cases hu with
  |str x hx=>
   cases wS with
   |str y hy=>
    cases kd<;>simp[HY]at NF;refine⟨by simp only[Instr.sameNow];rw[a1B],fun e=>?_⟩;rw[<-a1B,MapKept.bytes_beq]at e;rw[e]
 ·rename_i k1 a k2 b';split at h
  ·rename_i e;subst e;cases h;cases hu with
   |int _ _ hx=>
    cases wS with
    |int _ _ hy=>
     cases kd<;>simp[HY]at NF;refine⟨by simp[Instr.sameNow],fun e=>?_⟩;have:a=b':=by simpa using e
     rw[this]
  ·cases h
 ·cases h
theorem a0F{w:World}{kd:TypeDesc}{k:D}{u:Value}(NF:HY kd k=true)(hu:Rd w u k []):∀ {es:List MapEntry} {kv:List (D×D)} {r:Option D} (i:Nat),yY w es kv->Eg k kv=some r->
 (r=none/\Instr.findNow kd u es i=some none)\/∃d v j,r=some d/\Instr.findNow kd u es i=some (some (j,v))/\Rd w v d []:=by
 intro es
 induction es with
 |nil=>
  intro kv r i hr h;cases kv with
  |nil=>cases h;exact .inl ⟨rfl,rfl⟩
  |cons p kv=>exact absurd hr.1 (by simp)
 |cons e es ih=>
  intro kv r i hr h;cases kv with
  |nil=>exact absurd hr.1 (by simp)
  |cons p kv=>
   obtain⟨r1,r2,r3⟩:=hr.cons;simp only[Eg]at h;split at h
   ·rename_i hq;cases h;exact .inr ⟨p.2,e.val,i,rfl,by simp[Instr.findNow,(LK NF hu r1 hq).1],r2⟩
   ·rename_i hq;have:=ih (i+1) r3 h;simpa[Instr.findNow,(LK NF hu r1 hq).1]using this
   ·cases h
theorem QZ{w:World}{kd:TypeDesc}{k:D}{u:Value}(NF:HY kd k=true)(hu:Rd w u k []):MapKept.IsKey kd u:=by
 cases kd<;>cases k<;>simp[HY]at NF
 all_goals cases hu
 ·simp[MapKept.IsKey,NF]
 ·simp[MapKept.IsKey]
theorem Ns{w:World}{κ:Nat->Option Value}{kd:TypeDesc}{k:D}{u:Value}{bs:aX}(NF:HY kd k=true)(hu:rW w κ u k bs):Rd w u k []:=by
 cases kd<;>cases k<;>simp[HY]at NF
 all_goals cases hu with|v h=>cases h with|cell h=>cases h with|pure h=>cases h<;>(constructor;assumption)
theorem PV{t:TypeId}{i:TypeInfo}(h:P.info? t=some i){w:World}:(typeInfo t).run P w=.ok i w:=by
 simp[typeInfo,h]
theorem Ml{T:TypeId}{kd:TypeDesc}{dz:D}(h:V4 P T=some (kd,dz)):∃kt et z,P.underlying T=some (.map kt et)/\P.underlying kt=some kd/\dz=D.SM z/\∀w:World,(zeroValue et).run P w=.ok z w:=by
 unfold V4 at h;split at h
 ·rename_i kt et h1;split at h
  ·rename_i d i h2 h3;split at h
   ·rename_i z h4;split at h
    ·cases h;exact⟨kt,et,z,h1,h2,rfl,fun w=>by simp[zeroValue,PV h3,h4]⟩
    ·cases h
   ·cases h
  ·cases h
 ·cases h
theorem Ou{o:Oper}{T:Nat}{x i:Operand}{ok:Bool}{d:D}(hs:dl Γ st κ Θ a w)(ho:o.op=.lookup T x i ok)
 (h:pv P st (.lookup T x i ok)=some d):wX P κ Θ a w o d:=by
 simp only[pv]at h;split at h
 ·rename_i id hx;split at h
  ·rename_i kv hH;obtain⟨g,es,c,q1,q2,q3,q4⟩:=hs.ob id _ hH;obtain⟨bs,r,_⟩:=hs.ev x;rw[hx]at r;obtain⟨hk,_⟩:=r.vD;rw[q1]at hk;have Te:a.eval x=.map (some g):=(pM hk).symm;obtain⟨bi,ri,_⟩:=hs.ev i;unfold plk at h;split at h
   ·rename_i kd dz hT;obtain⟨kt,et,z,t1,t2,t3,t4⟩:=Ml hT;have fin:∀(r:Option D),HY kd (st.ev i)=true->Eg (st.ev i) kv=some r->d=(match r with|some d=>(bif ok then .iE [d,.bool true]else d)|none=>(bif ok then .iE [dz,.bool false]else dz))->wX P κ Θ a w o d:=by
     intro r NF hf hd;have hu:=Ns NF ri;have hck:=MapKept.run_checkKey (P:=P) (w:=w) t2 (QZ NF hu) es.isEmpty 9999;rcases a0F NF hu 0 q4 hf with⟨rfl,hn⟩|⟨d',v,j,rfl,hn,hv⟩
     ·have Zr:=MapKept.run_findKey (P:=P) (w:=w) t2 hn;subst hd;cases ok with
      |false=>exact⟨z,[],by simp[execOp,ho,Te,Instr.lookup,run_underlying t1,MapKept.run_getObj_map q2,hck,Zr,t4],by rw[t3];exact SN z,by simp⟩
      |true=>
       refine⟨.tuple #[z,.bool false],[],by simp[execOp,ho,Te,Instr.lookup,run_underlying t1,MapKept.run_getObj_map q2,hck,Zr,t4],?_,by simp⟩;have hz:LV w κ z dz []:=by
        have:=SN (w:=w) (κ:=κ) z;rw[<-t3]at this;cases this with
        |v h=>exact h
        |iE vs ds bs h=>exact absurd t3 (by simp[D.SM])
       exact .iE [z,.bool false] [dz,.bool false] [] (.cons _ _ _ _ [] [] hz (.cons _ _ _ _ [] [] (.cell (.pure (.bool _))) .nil))
     ·have Zr:=MapKept.run_findKey (P:=P) (w:=w) t2 hn;subst hd;cases ok with
      |false=>exact⟨v,[],by simp[execOp,ho,Te,Instr.lookup,run_underlying t1,MapKept.run_getObj_map q2,hck,Zr],.of hv,by simp⟩
      |true=>
       refine⟨.tuple #[v,.bool true],[],by simp[execOp,ho,Te,Instr.lookup,run_underlying t1,MapKept.run_getObj_map q2,hck,Zr],?_,by simp⟩;exact .iE [v,.bool true] [d',.bool true] [] (.cons _ _ _ _ [] [] (.cell (.pure hv)) (.cons _ _ _ _ [] [] (.cell (.pure (.bool _))) .nil))
    split at h
    ·rename_i d' h1 h2;cases h;exact fin _ h1 h2 rfl
    ·rename_i h1 h2;cases h;exact fin _ h1 h2 rfl
    ·cases h
   ·cases h
  ·cases h
 ·cases h
theorem Rd.a2h{w:World}{v:Value}{row:aP}{o:Nat}{bs:aX}(h:Rd w v (.ep row o) bs):∃q,v=.pointer (some q):=by
 cases h;exact⟨_,rfl⟩
theorem Er{o:Oper}{d:D}(hs:dl Γ st κ Θ a w)(h:pv P st o.op=some d):wX P κ Θ a w o d:=by
 cases ho:o.op
 all_goals rw[ho]at h
 case load t x=>exact MK hs ho h
 case lookup t x i ok=>exact Ou hs ho h
 case build t parts=>exact Q5 hs ho h
 case fieldAddr t x f=>exact L3 hs ho h
 case field t x f=>exact QG hs ho h
 case indexAddr t x i=>exact L7 hs ho h
 case extract x i=>exact NC hs ho h
 case index t x i=>exact QY hs ho h
 case binOp op t x y t'=>
  simp only[pv]at h;split at h
  ·rename_i e;cases h;exact SP hs ho e
  ·split at h
   ·rename_i e;cases h;exact Us hs ho e
   ·split at h
    ·rename_i e;cases h;exact SR hs ho e
    ·exact SQ hs ho h
 case nilCheck x=>
  simp only[pv]at h;obtain⟨b,r,z⟩:=hs.ev x;have hnn:∀q,a.eval x=.pointer (some q)->wX P κ Θ a w o (st.ev x):=fun q hq=>⟨_,b,by simp[execOp,ho,hq],hq▸r,z⟩
  split at h<;>rename_i hx<;>cases h<;>rw[hx]at r hnn
  ·obtain⟨g,_,hv⟩:=r.z8;exact hnn _ hv
  ·obtain⟨_,_,_,_,_,hv⟩:=r.En;exact hnn _ hv
  ·obtain⟨_,hv⟩:=Rd.a2h r.Rm;exact hnn _ hv
 case slice t x lo hi mx=>
  cases mx with
  |none=>exact R9 hs ho h
  |some m=>simp[pv]at h
 case move x=>
  simp only[pv,aq]at h;subst h;obtain⟨b,r,z⟩:=hs.ev x;exact⟨_,b,by simp[execOp,ho],r,z⟩
 case assign x=>
  simp only[pv,aq]at h;subst h;obtain⟨b,r,z⟩:=hs.ev x;exact⟨_,b,by simp[execOp,ho],r,z⟩
 case pick c x y=>
  simp only[pv]at h;split at h
  ·rename_i t hc;cases h;obtain⟨b,r,z⟩:=hs.ev c;rw[hc]at r;have hv:=r.wF;cases t
   ·obtain⟨b,r,z⟩:=hs.ev y;exact⟨_,b,by simp[execOp,ho,hv,asBool],r,z⟩
   ·obtain⟨b,r,z⟩:=hs.ev x;exact⟨_,b,by simp[execOp,ho,hv,asBool],r,z⟩
  ·cases h
 case unOp op t x=>
  obtain⟨b,r,z⟩:=hs.ev x;cases op<;>simp only[pv,reduceCtorEq]at h
  case neg=>
   split at h
   ·rename_i k n hx;cases h;rw[hx]at r;have hv:=r.qj;exact⟨_,[],by simp[execOp,ho,hv,Op.unary,Op.intArith],.of (.int _ _ (pN.wrap _ _)),by simp⟩
   ·cases h
  case not=>
   split at h
   ·rename_i bb hx;cases h;rw[hx]at r;have hv:=r.wF;exact⟨_,[],by simp[execOp,ho,hv,Op.unary],.of (.bool _),by simp⟩
   ·cases h
 case convert s d' x=>
  obtain⟨b,r,z⟩:=hs.ev x;simp only[pv]at h;split at h
  ·rename_i k0 n k1 k hx h1 h2;cases h;rw[hx]at r;have hv:=r.qj;have u1:P.underlying s=some (.int k1):=by
    unfold Sl at h1;split at h1
    ·cases h1;assumption
    ·cases h1
   have u2:P.underlying d'=some (.int k):=by
    unfold Sl at h2;split at h2
    ·cases h2;assumption
    ·cases h2
   exact⟨_,[],by simp[execOp,ho,hv,convert,run_underlying u1,run_underlying u2,Conv.intToInt],.of (.int _ _ (pN.wrap _ _)),by simp⟩
  ·cases h
 case call c=>
  simp only[pv]at h;split at h
  ·rename_i x t h1 h2 h3;refine Ue hs (x:=x) (t:=t) ?_ h;rw[ho];obtain⟨callee,args,argTypes⟩:=c;simp only at h1 h2 h3;subst h1;have e1:args= #[x]:=by cases args;simp_all
   have e2:argTypes= #[t]:=by cases argTypes;simp_all
   subst e1;subst e2;rfl
  ·rename_i x y t t' h1 h2 h3;refine Uj hs (x:=x) (y:=y) (t:=t) (t':=t') ?_ h;rw[ho];obtain⟨callee,args,argTypes⟩:=c;simp only at h1 h2 h3;subst h1;have e1:args= #[x,y]:=by cases args;simp_all
   have e2:argTypes= #[t,t']:=by cases argTypes;simp_all
   subst e1;subst e2;rfl
  ·cases h
 all_goals simp[pv]at h
theorem a18{Q:Exit->St->Prop}{all:Array Oper}{rest:List Oper}{o:Oper}{t:Nat}{d:D}(hd:o.dst=some t)(hg:o.guard=none)(ht:t<Γ.nt)
 (hv:pv P st o.op=some d) (h:AO P Γ all rest Q (st.set t d)):AO P Γ all (o::rest) Q st:=by
 intro κ Θ a w hs;obtain⟨v,bs,hr,hrd,hz⟩:=Er hs hv;refine wpList_plain hg fun K hK=>?_
 unfold Oper.wp;rw[hr,Oper.upon_value,hd];exact hK _ _ (h κ Θ _ w (hs.set ht hrd hz))
end
end Go.Cx
namespace Go.Cx
open Go.RowKit
structure iy(w w':World)(Θ Θ':Nat->Nat)(tag:Nat):Prop where
 two:2<=tag
 os:w'.os=w.os
 tape:w'.tape=w.tape
 output:w'.output=w.output
 size:w.heap.size<=w'.heap.size
 block:∀b,b<w.heap.size->Θ b≠tag->w'.heap[b]?=w.heap[b]?
 owner:∀b,b<w.heap.size->Θ b≠tag->Θ' b=Θ b
 own:∀b,Θ' b≠0->b<w'.heap.size
section
variable{w w':World}{κ κ':Nat->Option Value}{Θ Θ':Nat->Nat}{tag id:Nat}{r:D}
theorem iy.free(k:iy w w' Θ Θ' tag){b:Nat}(hb:b<w.heap.size)(hz:Θ b=0):Θ' b=0:=by
 have:=k.two;rw[k.owner b hb (by omega)];exact hz
theorem Rd.over{v:Value}{d:D}{bs:aX}(k:iy w w' Θ Θ' tag)(h:Rd w v d bs)(hz:∀b∈bs,Θ b=0):Rd w' v d bs/\∀b∈bs,Θ' b=0:=by
 have:=k.two;exact⟨h.keep fun b hb=>k.block b (h.lt b hb) (by rw[hz b hb];omega),fun b hb=>k.free (h.lt b hb) (hz b hb)⟩
theorem l6.over{vs:bw}{ds:aP}{bs:aX}(k:iy w w' Θ Θ' tag)(h:l6 w vs ds bs)(hz:∀b∈bs,Θ b=0):l6 w' vs ds bs/\∀b∈bs,Θ' b=0:=by
 have:=k.two;exact⟨h.keep fun b hb=>k.block b (h.lt b hb) (by rw[hz b hb];omega),fun b hb=>k.free (h.lt b hb) (hz b hb)⟩
section
variable(hn:∀(j:Nat) v,κ j=some v->κ' j=some v)
include hn
end
theorem RdH.lt{v:Value}{rows:List aP}{p n:Nat}{bs:aX}(h:RdH w κ v rows p n bs):∀b∈bs,b<w.heap.size:=by
 obtain⟨b,off,cap,cs,ns,rfl,h1,h2,h3,h4,h5,rfl,_⟩:=h;intro x hx;rcases bB.1 hx with rfl|hx
 ·exact h1
 ·exact h5.lt x hx
section
variable(hn:∀(j:Nat) v,κ j=some v->κ' j=some v)
include hn
theorem RdH.stay{v:Value}{rows:List aP}{p n:Nat}{bs:aX}(h:RdH w κ v rows p n bs)(hb:∀b∈bs,w'.heap[b]?=w.heap[b]?):RdH w' κ' v rows p n bs:=by
 obtain⟨b,off,cap,cs,ns,rfl,h1,h2,h3,h4,h5,rfl,c,h6,h7⟩:=h;exact⟨b,off,cap,cs,ns,rfl,J1 h1 (hb b (by simp)),h2,h3,fun j c hc=>(BF (hb b (by simp))).trans (h4 j c hc),h5.keep (fun x hx=>hb x (by simp[hx])),rfl,c,h6,hn _ _ h7⟩
end
section
variable(k:iy w w' Θ Θ' tag)(hn:∀(j:Nat) v,κ j=some v->κ' j=some v)
include k hn
theorem zC.stay{v:Value}{d:D}{bs:aX}(h:zC w κ v d bs)(hz:∀b∈bs,Θ b=0):zC w' κ' v d bs/\∀b∈bs,Θ' b=0:=by
 cases h with
 |pure h=>exact⟨.pure (Rd.over k h hz).1,(Rd.over k h hz).2⟩
 |acc i v hk=>exact⟨.acc i v (hn _ _ hk),by simp⟩
 |ptr i off b hk=>exact⟨.ptr i off b (hn _ _ hk),by simp⟩
 |op i j sz off b o0 len cap hk=>exact⟨.op i j sz off b o0 len cap (hn _ _ hk),by simp⟩
theorem fS.stay{vs:bw}{ds:aP}{bs:aX}(h:fS w κ vs ds bs)(hz:∀b∈bs,Θ b=0):fS w' κ' vs ds bs/\∀b∈bs,Θ' b=0:=by
 induction ds generalizing vs bs with
 |nil=>cases h;exact⟨.nil,by simp⟩
 |cons d ds ih=>
  cases h with
  |cons v vs _ _ b1 b2 h1 h2 h3=>
   obtain⟨k1,k2⟩:=zC.stay k hn h2 (fun b hb=>hz b (by simp[hb]));obtain⟨k3,k4⟩:=ih h3 (fun b hb=>hz b (by simp[hb]));refine⟨.cons _ _ _ _ _ _ h1 k1 k3,fun b hb=>?_⟩;rcases af.1 hb with hb|hb
   ·exact k2 b hb
   ·exact k4 b hb
theorem LV.stay{v:Value}{d:D}{bs:aX}(h:LV w κ v d bs)(hz:∀b∈bs,Θ b=0):LV w' κ' v d bs/\∀b∈bs,Θ' b=0:=by
 cases h with
 |cell h=>exact⟨.cell (zC.stay k hn h hz).1,(zC.stay k hn h hz).2⟩
 |agg cs ds bs h=>exact⟨.agg _ _ _ (fS.stay k hn h hz).1,(fS.stay k hn h hz).2⟩
theorem C3.stay{vs:bw}{ds:aP}{bs:aX}(h:C3 w κ vs ds bs)(hz:∀b∈bs,Θ b=0):C3 w' κ' vs ds bs/\∀b∈bs,Θ' b=0:=by
 induction ds generalizing vs bs with
 |nil=>cases h;exact⟨.nil,by simp⟩
 |cons d ds ih=>
  cases h with
  |cons v vs _ _ b1 b2 h2 h3=>
   obtain⟨k1,k2⟩:=LV.stay k hn h2 (fun b hb=>hz b (by simp[hb]));obtain⟨k3,k4⟩:=ih h3 (fun b hb=>hz b (by simp[hb]));refine⟨.cons _ _ _ _ _ _ k1 k3,fun b hb=>?_⟩;rcases af.1 hb with hb|hb
   ·exact k2 b hb
   ·exact k4 b hb
theorem rW.stay{v:Value}{d:D}{bs:aX}(h:rW w κ v d bs)(hz:∀b∈bs,Θ b=0):rW w' κ' v d bs/\∀b∈bs,Θ' b=0:=by
 cases h with
 |v h=>exact⟨.v (LV.stay k hn h hz).1,(LV.stay k hn h hz).2⟩
 |iE vs ds bs h=>exact⟨.iE _ _ _ (C3.stay k hn h hz).1,(C3.stay k hn h hz).2⟩
theorem wC.stay{j:Nat}{o:Ob}(hj:j+2≠tag)(h:wC w κ Θ j o):wC w' κ' Θ' j o:=by
 cases o with
 |gone=>trivial
 |tk rows=>
  obtain⟨v,bs,hk,hrd,hz⟩:=h;obtain⟨h1,h2⟩:=Rd.over k hrd hz;exact⟨v,bs,hn _ _ hk,h1,h2⟩
 |mp kv=>
  obtain⟨g,es,c,q1,q2,q3,q4⟩:=h;have hlt:g<w.heap.size:=(bI.1 q2).1;have hne:Θ g≠tag:=by rw[q3];exact hj
  exact⟨g,es,c,hn _ _ q1,(k.block g hlt hne).trans q2,by rw[k.owner g hlt hne];exact q3,q4.stay⟩
 |wP sz rows u=>
  obtain⟨hrl,Zx,v,bs,hk,hrd,hnd,Eb⟩:=h;have hsame:∀b∈bs,w'.heap[b]?=w.heap[b]?:=fun b hb=>k.block b (hrd.lt b hb) (by rw[(Eb b hb).1];exact hj)
  refine⟨hrl,fun x hx=>hn _ _ (Zx x hx),v,bs,hn _ _ hk,hrd.keep hsame,hnd,fun b hb=>⟨?_,?_⟩⟩
  ·rw[k.owner b (hrd.lt b hb) (by rw[(Eb b hb).1];exact hj)];exact(Eb b hb).1
  ·obtain⟨x,T,hx⟩:=(Eb b hb).2;exact⟨x,T,(hsame b hb).trans hx⟩
 |hole sz rows u p n=>
  obtain⟨hrl,Zx,v,bs,hk,hrd,hnd,Eb⟩:=h;have hsame:∀b∈bs,w'.heap[b]?=w.heap[b]?:=fun b hb=>k.block b (hrd.lt b hb) (by rw[(Eb b hb).1];exact hj)
  refine⟨hrl,fun x hx=>hn _ _ (Zx x hx),v,bs,hn _ _ hk,RdH.stay hn hrd hsame,hnd,fun b hb=>⟨?_,?_⟩⟩
  ·rw[k.owner b (hrd.lt b hb) (by rw[(Eb b hb).1];exact hj)];exact(Eb b hb).1
  ·obtain⟨x,T,hx⟩:=(Eb b hb).2;exact⟨x,T,(hsame b hb).trans hx⟩
 |box cells=>
  obtain⟨g,cs,T,hk,hg,hΘ,bs,sv,hz⟩:=h;have hlt:g<w.heap.size:=(bI.1 hg).1;have hne:Θ g≠tag:=by rw[hΘ];exact hj
  obtain⟨h1,h2⟩:=fS.stay k hn sv hz;exact⟨g,cs,T,hn _ _ hk,(k.block g hlt hne).trans hg,(k.owner g hlt hne).trans hΘ,bs,h1,h2⟩
 |DU cells u=>
  obtain⟨hu,g,cs,T,hk,hg,hΘ,bs,sv,hz⟩:=h;have hlt:g<w.heap.size:=(bI.1 hg).1;have hne:Θ g≠tag:=by rw[hΘ];exact hj
  obtain⟨h1,h2⟩:=fS.stay k hn sv hz;exact⟨hn _ _ hu,g,cs,T,hn _ _ hk,(k.block g hlt hne).trans hg,(k.owner g hlt hne).trans hΘ,bs,h1,h2⟩
 |row deep e sz rows=>
  obtain⟨hsz,hrl,v,cs,bs,hk,hown,sv,hΘ,hd⟩:=h;refine⟨hsz,hrl,v,cs,bs,hn _ _ hk,?_,?_,?_,?_⟩
  ·refine⟨hown.1,?_⟩;rcases hown.2 with uO|⟨g,cap,cur,rfl,hb,Oa,rest⟩
   ·exact .inl uO
   ·have hlt:g<w.heap.size:=(bI.1 Oa).1;have hne:Θ g≠tag:=by rw[hΘ g (by simp[Value.ownBlock])];exact hj
    exact .inr ⟨g,cap,cur,rfl,hb,(k.block g hlt hne).trans Oa,rest⟩
  ·refine sv.keep fun b hb=>k.block b (sv.lt b hb) ?_
   have:=k.two;cases deep with
   |cl=>rw[(hd.2.1 b hb).1];exact hj
   |sh=>rw[hd b hb];omega
   |uq=>rw[hd b hb];omega
   |mv n=>rw[hd b hb];omega
  ·intro g hg;have hlt:=(hown.lt g hg).2;have e:=hΘ g hg;rw[k.owner g hlt (by rw[e];exact hj)];exact e
  ·cases deep with
   |cl=>
    refine⟨hd.1,fun b hb=>⟨?_,?_⟩,hd.2.2⟩
    ·rw[k.owner b (sv.lt b hb) (by rw[(hd.2.1 b hb).1];exact hj)];exact(hd.2.1 b hb).1
    ·obtain⟨x,T,hx⟩:=(hd.2.1 b hb).2;exact⟨x,T,(k.block b (sv.lt b hb) (by rw[(hd.2.1 b hb).1];exact hj)).trans hx⟩
   |sh=>exact fun b hb=>k.free (sv.lt b hb) (hd b hb)
   |uq=>exact fun b hb=>k.free (sv.lt b hb) (hd b hb)
   |mv n=>exact fun b hb=>k.free (sv.lt b hb) (hd b hb)
end
end
section
variable{Γ:ul}{st:St}{κ κ':Nat->Option Value}{Θ Θ':Nat->Nat}{a:Act}{w w':World}{tag:Nat}
theorem dl.base(hs:dl Γ st κ Θ a w):Γ.W0.heap.size<=w.heap.size:=hs.stays.size
theorem dl.SC(hs:dl Γ st κ Θ a w)(k:iy w w' Θ Θ' tag):Pp Γ w':=by
 refine⟨k.os.trans hs.stays.os,k.tape.trans hs.stays.tape,k.output.trans hs.stays.output,dY hs.stays.size k.size,fun b hb hx=>?_⟩;have:=k.two;have h1:=(hs.old b hb hx).2;exact(k.block b (dS hb hs.base) (by omega)).trans (hs.stays.block b hb hx)
theorem dl.XL(hs:dl Γ st κ Θ a w)(k:iy w w' Θ Θ' tag):∀b,b<Γ.W0.heap.size->¬Γ.X b->Θ' b=Γ.Θ0 b/\Θ' b<=1:=by
 intro b hb hx;have:=k.two;have h1:=hs.old b hb hx;rw[k.owner b (dS hb hs.base) (by omega)];exact h1
theorem dl.oF(hs:dl Γ st κ Θ a w)(k:iy w w' Θ Θ' tag)(hn:∀(j:Nat) v,κ j=some v->κ' j=some v){ρ:Nat->Nat}(hu:zS Γ st.H κ Θ w ρ):
 (∀b,ρ b≠0->Θ' b=0/\Sz Γ b/\Wr w' b)/\(∀id e sz rows,id+2≠tag->st.H[id]?=some (.row .uq e sz rows)->
  ∃v cs bs,κ' id=some v/\w'.ownsRow 0 e sz v rows.length cs/\l6 w' cs rows.flatten bs/\bs.Nodup/\∀b∈bs,ρ b=id+1)/\
  ∀id o,id+2≠tag->st.H[id]?=some o->KO w' κ' ρ id o:=by
 have h2:=k.two;refine⟨?_,?_,?_⟩
 ·intro b hb;obtain⟨h0,hm,x,T,hx⟩:=hu.free b hb;have hlt:b<w.heap.size:=(bI.1 hx).1;exact⟨k.free hlt h0,hm,x,T,(k.block b hlt (by omega)).trans hx⟩
 ·intro id e sz rows hid hH;obtain⟨v,cs,bs,hk,hown,sv,hnd,hρ⟩:=hu.rows id e sz rows hH;obtain⟨_,_,v2,_,_,hk2,_,_,hΘ,_⟩:=hs.ob id _ hH;rw[hk]at hk2;cases hk2;refine⟨v,cs,bs,hn _ _ hk,⟨hown.1,?_⟩,sv.keep fun b hb=>k.block b (sv.lt b hb) ?_,hnd,hρ⟩
  ·rcases hown.2 with uO|⟨g,cap,cur,rfl,hb,Oa,rest⟩
   ·exact .inl uO
   ·have hlt:g<w.heap.size:=(bI.1 Oa).1;have hne:Θ g≠tag:=by rw[hΘ g (by simp[Value.ownBlock])];exact hid
    exact .inr ⟨g,cap,cur,rfl,hb,(k.block g hlt hne).trans Oa,rest⟩
  ·have:=hρ b hb;have:=(hu.free b (by omega)).1;omega
 ·intro id o hid hH;have hm:=hu.more id o hH;have hb0:∀ {bs:aX},(∀b∈bs,ρ b=id+1)->∀b∈bs,Θ b≠tag:=fun hρ b hb=>by
   have:=hρ b hb;have:=(hu.free b (by omega)).1;omega
  cases o with
  |tk rows=>
   obtain⟨v,bs,hk,hrd,hnd,hρ⟩:=hm;exact⟨v,bs,hn _ _ hk,hrd.keep fun b hb=>k.block b (hrd.lt b hb) (hb0 hρ b hb),hnd,hρ⟩
  |row kd e sz rows=>
   cases kd with
   |mv n=>
    obtain⟨v,cs,bs,hk,hown,sv,hnd,hρ⟩:=hm;obtain⟨_,_,v2,_,_,hk2,_,_,hΘ,_⟩:=hs.ob id _ hH;rw[hk]at hk2;cases hk2;refine⟨v,cs,bs,hn _ _ hk,⟨hown.1,?_⟩,sv.keep fun b hb=>k.block b (sv.lt b hb) (hb0 hρ b hb),hnd,hρ⟩;rcases hown.2 with uO|⟨g,cap,cur,rfl,hb,Oa,rest⟩
    ·exact .inl uO
    ·have hlt:g<w.heap.size:=(bI.1 Oa).1;have hne:Θ g≠tag:=by rw[hΘ g (by simp[Value.ownBlock])];exact hid
     exact .inr ⟨g,cap,cur,rfl,hb,(k.block g hlt hne).trans Oa,rest⟩
   |_=>trivial
  |_=>trivial
theorem KO.re{ρ ρ':Nat->Nat}{id:Nat}{o:Ob}(h:KO w κ ρ id o)(hr:∀b,ρ b=id+1->ρ' b=id+1):KO w κ ρ' id o:=by
 cases o with
 |tk rows=>
  obtain⟨v,bs,hk,hrd,hnd,hρ⟩:=h;exact⟨v,bs,hk,hrd,hnd,fun b hb=>hr b (hρ b hb)⟩
 |row kd e sz rows=>
  cases kd with
  |mv n=>
   obtain⟨v,cs,bs,hk,hown,sv,hnd,hρ⟩:=h;exact⟨v,cs,bs,hk,hown,sv,hnd,fun b hb=>hr b (hρ b hb)⟩
  |_=>trivial
 |_=>trivial
theorem dl.step(hs:dl Γ st κ Θ a w){H':bW}(k:iy w w' Θ Θ' tag)(hm:∀b,2<=Θ' b->yH Γ b)(hn:∀(j:Nat) v,κ j=some v->κ' j=some v)
 (hko:∀id,H'.length<=id->κ' id=none) (hk1:∀(id:Nat) u,κ' id=some u->u.oneCell'=true)
 (Ac:∀(j:Nat) o,H'[j]?=some o->o=.gone\/(j+2≠tag/\st.H[j]?=some o)\/wC w' κ' Θ' j o) (hu:∃ρ,zS Γ H' κ' Θ' w' ρ):dl Γ ⟨st.σ,H'⟩ κ' Θ' a w':=by
 refine⟨hs.defers,hs.size,hko,hk1,?_,?_,k.own,hs.XL k,hm,hs.SC k,hu⟩
 ·intro t;obtain⟨bs,hr,hz⟩:=hs.slot t;exact⟨bs,rW.stay k hn hr hz⟩
 ·intro j o hj;rcases Ac j o hj with rfl|⟨hne,hj'⟩|h
  ·trivial
  ·exact wC.stay k hn hne (hs.ob j o hj')
  ·exact h
def yD(κ:Nat->Option Value)(id:Nat)(v:Option Value):Nat->Option Value:=fun i=>if i=id then v else κ i
theorem lP(κ:Nat->Option Value)(id:Nat)(v:Option Value):yD κ id v id=v:=by simp[yD]
theorem xQ{κ:Nat->Option Value}{id:Nat}(h:κ id=none)(v:Option Value):∀(j:Nat) u,κ j=some u->yD κ id v j=some u:=by
 intro j u hj;unfold yD;rw[az (fun e=>by subst e;rw[h]at hj;cases hj)];exact hj
def Ob.V8:Ob->Bool
 | .row .uq _ _ _=>true
 | .row (.mv _) _ _ _=>true
 | .tk _=>true
 |_=>false
def Ob.mvB:Ob->Bool
 | .row (.mv _) _ _ _=>true
 | .tk _=>true
 |_=>false
theorem KO.xF{ρ:Nat->Nat}{id:Nat}{o:Ob}(h:o.mvB=false):KO w κ ρ id o:=by
 cases o with
 |tk rows=>simp[Ob.mvB]at h
 |row kd e sz rows=>
  cases kd with
  |mv n=>simp[Ob.mvB]at h
  |_=>trivial
 |_=>trivial
theorem KO.plain{ρ:Nat->Nat}{id:Nat}{o:Ob}(h:o.V8=false):KO w κ ρ id o:=by
 cases o with
 |tk rows=>simp[Ob.V8]at h
 |row kd e sz rows=>
  cases kd with
  |mv n=>simp[Ob.V8]at h
  |_=>trivial
 |_=>trivial
theorem dl.push(hs:dl Γ st κ Θ a w){v:Value}{o:Ob}(h1:v.oneCell'=true)(k:iy w w' Θ Θ' (st.H.length+2))(hm:∀b,2<=Θ' b->yH Γ b)
 (ho:wC w' (yD κ st.H.length (some v)) Θ' st.H.length o) (hq:o.V8=false):dl Γ ⟨st.σ,st.H++[o]⟩ (yD κ st.H.length (some v)) Θ' a w':=by
 have hn:=xQ (hs.pK _ (bR _)) (some v);have key:∀(j:Nat) x,(st.H++[o])[j]?=some x->(j=st.H.length/\x=o)\/(j+2≠st.H.length+2/\st.H[j]?=some x):=by
  intro j x hj;by_cases hlt:j<st.H.length
  ·rw[au hlt]at hj;exact .inr ⟨by omega,hj⟩
  ·have hj':=(aF.1 hj).1;simp only[bC,aV,br]at hj';have e:j=st.H.length:=by omega
   subst e;rw[bA (bR _)]at hj;simp at hj;exact .inl ⟨rfl,hj.symm⟩
 obtain⟨ρ,hu⟩:=hs.tJ;have tI:=hs.oF k hn hu;refine hs.step k hm hn ?_ ?_ ?_ ⟨ρ,tI.1,?_,?_⟩
 ·intro i hi;simp only[bC,aV,br]at hi;unfold yD;rw[az (by omega)];exact hs.pK i (by omega)
 ·intro i u hu;unfold yD at hu;split at hu
  ·cases hu;exact h1
  ·exact hs.oM i u hu
 ·intro j x hj;rcases key j x hj with⟨rfl,rfl⟩|h
  ·exact .inr (.inr ho)
  ·exact .inr (.inl h)
 ·intro id e sz rows hj;rcases key id _ hj with⟨rfl,rfl⟩|h
  ·simp[Ob.V8]at hq
  ·exact tI.2.1 id e sz rows h.1 h.2
 ·intro id x hj;rcases key id _ hj with⟨rfl,rfl⟩|h
  ·exact KO.plain hq
  ·exact tI.2.2 id x h.1 h.2
theorem dl.change(hs:dl Γ st κ Θ a w){id:Nat}{o:Ob}(k:iy w w' Θ Θ' (id+2))(hm:∀b,2<=Θ' b->yH Γ b)(ho:wC w' κ Θ' id o)(hq:o.V8=false):
 dl Γ ⟨st.σ,st.H.set id o⟩ κ Θ' a w':=by
 have key:∀(j:Nat) x,(st.H.set id o)[j]?=some x->(j=id/\x=o)\/(j+2≠id+2/\st.H[j]?=some x):=by
  intro j x hj;by_cases e:id=j
  ·subst e;have hlt:id<st.H.length:=by
    have:=(aF.1 hj).1;simpa using this
   rw[dX hlt]at hj;cases hj;exact .inl ⟨rfl,rfl⟩
  ·rw[cE e]at hj;exact .inr ⟨by omega,hj⟩
 obtain⟨ρ,hu⟩:=hs.tJ;have tI:=hs.oF k (fun _ _ h=>h) hu;refine hs.step k hm (fun _ _ h=>h) (fun i hi=>hs.pK i (by simpa using hi)) hs.oM ?_ ⟨ρ,tI.1,?_,?_⟩
 ·intro j x hj;rcases key j x hj with⟨rfl,rfl⟩|h
  ·exact .inr (.inr ho)
  ·exact .inr (.inl h)
 ·intro i e sz rows hj;rcases key i _ hj with⟨rfl,rfl⟩|h
  ·simp[Ob.V8]at hq
  ·exact tI.2.1 i e sz rows h.1 h.2
 ·intro i x hj;rcases key i _ hj with⟨rfl,rfl⟩|h
  ·exact KO.plain hq
  ·exact tI.2.2 i x h.1 h.2
theorem dl.zF(hs:dl Γ st κ Θ a w)(h:∀b,2<=Θ' b->2<=Θ b\/w.heap.size<=b):∀b,2<=Θ' b->yH Γ b:=by
 intro b hb;rcases h b hb with h|h
 ·exact hs.mine b h
 ·exact .inl (dY hs.base h)
theorem iy.refl(h:∀b,Θ b≠0->b<w.heap.size)(h2:2<=tag):iy w w Θ Θ tag:=⟨h2,rfl,rfl,rfl,bR _,fun _ _ _=>rfl,fun _ _ _=>rfl,h⟩
theorem iy.a0V(h:∀b,Θ b≠0->b<w.heap.size)(hb:Below w.heap.size w w')(h2:2<=tag):iy w w' Θ Θ tag:=
 ⟨h2,hb.os,hb.tape,hb.output,hb.size,fun b hlt _=>hb.block b hlt,fun _ _ _=>rfl,fun b hn=>dS (h b hn) hb.size⟩
theorem dl.grow(hs:dl Γ st κ Θ a w)(hb:Below w.heap.size w w'):dl Γ st κ Θ a w':=by
 have k:iy w w' Θ Θ (st.H.length+2):=iy.a0V hs.own hb (by omega);obtain⟨ρ,hu⟩:=hs.tJ;have tI:=hs.oF k (fun _ _ h=>h) hu;have hlt:∀(j:Nat) o,st.H[j]?=some o->j+2≠st.H.length+2:=fun j o h=>by
  have:=(aF.1 h).1;omega
 exact hs.step k hs.mine (fun _ _ h=>h) hs.pK hs.oM (fun j o h=>.inr (.inl ⟨hlt j o h,h⟩)) ⟨ρ,tI.1,fun id e sz rows h=>tI.2.1 id e sz rows (hlt _ _ h) h,fun id o h=>tI.2.2 id o (hlt _ _ h) h⟩
theorem dl.drew(hs:dl Γ st κ Θ a w):dl Γ st κ Θ a w.drew:=hs.grow ((Below.refl _ _).drew)
def kill(H:bW):aX->bW
 | []=>H
 |m::ms=>kill (H.set m .gone) ms
theorem fm(H:bW)(ms:aX):(kill H ms).length=H.length:=by
 induction ms generalizing H with
 |nil=>rfl
 |cons m ms ih=>simp[kill,ih]
theorem oD{H:bW}{ms:aX}{j:Nat}{o:Ob}(h:(kill H ms)[j]?=some o):o=.gone\/(j∉ms/\H[j]?=some o):=by
 induction ms generalizing H with
 |nil=>exact .inr ⟨by simp,h⟩
 |cons m ms ih=>
  rcases ih h with h|⟨h1,h2⟩
  ·exact .inl h
  ·by_cases e:m=j
   ·subst e;have hlt:=(aF.1 h2).1;rw[dX (by simpa using hlt)]at h2;cases h2;exact .inl rfl
   ·rw[cE e]at h2;exact .inr ⟨by simp[h1,rV e],h2⟩
def zP(κ:Nat->Option Value)(Θ ρ:Nat->Nat)(w:World)(m:Nat)(k:RK)(rows:List aP):Prop:=
 ∃v bs,κ m=some v/\Rd w v (.sl rows) bs/\(∀b∈bs,Θ b=0)/\(k=.uq->bs.Nodup/\∀b∈bs,ρ b=m+1)
theorem vT{e sz:Nat}{v:Value}{rows:List aP}{cs:bw}{bs:aX}(hrl:∀r∈rows,r.length=sz)(hown:w.ownsRow 0 e sz v rows.length cs)(sv:l6 w cs rows.flatten bs):
 Rd w v (.sl rows) (v.ownBlock.toList++bs):=by
 rcases hown.2 with⟨rfl,hn⟩|⟨g,cap,cur,rfl,_,hg,hnc,hcm,_,ht⟩
 ·have:rows=[]:=cZ hn;subst this;cases sv;exact .yp
 ·have hlt:g<w.heap.size:=(bI.1 hg).1;refine .sl g 0 cap sz rows cs bs hlt hnc hcm hrl (fun j c hc=>?_) sv;have:=hown.cells (g:=g) (by simp[Value.ownBlock]) j c hc;simpa[Addr.add_lit]using this
theorem dl.a3c(hs:dl Γ st κ Θ a w){ρ:Nat->Nat}(hu:zS Γ st.H κ Θ w ρ){m e sz:Nat}{k:RK}{rows:List aP}(hH:st.H[m]?=some (.row k e sz rows))(hk:k.P5=true):
 ∃Θ' ρ',dl Γ ⟨st.σ,st.H.set m .gone⟩ κ Θ' a w/\zS Γ (st.H.set m .gone) κ Θ' w ρ'/\zP κ Θ' ρ' w m k rows/\
  (∀b,Θ b=0->Θ' b=0)/\(∀b,ρ b≠0->ρ' b=ρ b):=by
 obtain⟨hsz,hrl,v,cs,bs,hkm,hown,sv,hΘ,hz⟩:=hs.ob m _ hH;have yC:∀b∈bs,Θ b=0:=by cases k<;>first|exact hz|simp[RK.P5]at hk
 let Θ':Nat->Nat:=fun b=>if Θ b=m+2 then 0 else Θ b
 let ρ':Nat->Nat:=fun b=>if some b=v.ownBlock then m+1 else ρ b
 have hk':iy w w Θ Θ' (m+2):=⟨by omega,rfl,rfl,rfl,bR _,fun _ _ _=>rfl,fun b _ hne=>az hne,fun b hb=>hs.own b (fun h0=>hb (by simp only[Θ'];split<;>simp_all))⟩
 have hT0:∀b,Θ b=0->Θ' b=0:=fun b h=>by simp only[Θ'];split<;>omega
 have No:∀b,2<=Θ' b->yH Γ b:=fun b hb=>hs.mine b (by simp only[Θ']at hb;split at hb<;>omega)
 have Ed:∀g,v.ownBlock=some g->ρ g=0:=by
  intro g hg;cases h:ρ g with
  |zero=>rfl
  |succ n=>have:=(hu.free g (by omega)).1;rw[hΘ g hg]at this;omega
 have hρ:∀b,ρ b≠0->ρ' b=ρ b:=fun b hb=>az (fun h=>hb (Ed b h.symm))
 have key:∀(j:Nat) x,(st.H.set m .gone)[j]?=some x->x=.gone\/(j+2≠m+2/\st.H[j]?=some x):=by
  intro j x hj;rcases oD (ms:=[m]) hj with h|⟨h1,h2⟩
  ·exact .inl h
  ·exact .inr ⟨by simp at h1;omega,h2⟩
 have tI:=hs.oF hk' (fun _ _ h=>h) hu;have hU:zS Γ (st.H.set m .gone) κ Θ' w ρ':=by
  refine⟨fun b hb=>?_,fun id e sz rows h=>?_,fun id x h=>?_⟩
  ·by_cases hb':some b=v.ownBlock
   ·have e1:=hΘ b hb'.symm;refine⟨by simp only[Θ'];rw[bK e1],.inl (hs.mine b (by omega)),?_⟩;rcases hown.2 with⟨rfl,_⟩|⟨g,cap,cur,rfl,_,hg,_⟩
    ·simp[Value.ownBlock]at hb'
    ·simp[Value.ownBlock]at hb';subst hb';exact⟨_,_,hg⟩
   ·exact tI.1 b (by simp only[ρ']at hb;rwa[az hb']at hb)
  ·rcases key id _ h with h|⟨h1,h2⟩
   ·cases h
   ·obtain⟨v2,c2,b2,q1,q2,q3,q4,q5⟩:=tI.2.1 id e sz rows h1 h2;exact⟨v2,c2,b2,q1,q2,q3,q4,fun b hb=>by rw[hρ b (by rw[q5 b hb];omega)];exact q5 b hb⟩
  ·rcases key id _ h with h|⟨h1,h2⟩
   ·subst h;trivial
   ·exact(tI.2.2 id x h1 h2).re fun b hb=>(hρ b (by omega)).trans hb
 refine⟨Θ',ρ',?_,hU,?_,hT0,hρ⟩
 ·exact hs.step hk' No (fun _ _ h=>h) (fun i hi=>hs.pK i (by simpa using hi)) hs.oM (fun j x hj=>by
   rcases key j x hj with h|h
   ·exact .inl h
   ·exact .inr (.inl h)) ⟨ρ',hU⟩
 ·have plain:k≠ .uq->zP κ Θ' ρ' w m k rows:=fun hne=>by
   refine⟨v,_,hkm,vT hrl hown sv,fun b hb=>?_,fun h=>absurd h hne⟩;rcases af.1 hb with hb|hb
   ·simp only[kz]at hb;simp only[Θ'];rw[bK (hΘ b hb)]
   ·exact hT0 b (yC b hb)
  cases k with
  |cl=>simp[RK.P5]at hk
  |sh=>exact plain (by simp)
  |mv n=>exact plain (by simp)
  |uq=>
   obtain⟨v2,c2,b2,q1,q2,q3,q4,q5⟩:=hu.rows m e sz rows hH;rw[hkm]at q1;cases q1;have hfr:∀b∈b2,ρ b≠0:=fun b hb=>by rw[q5 b hb];omega
   refine⟨v,_,hkm,vT hrl q2 q3,fun b hb=>?_,fun _=>⟨?_,fun b hb=>?_⟩⟩
   ·rcases af.1 hb with hb|hb
    ·simp only[kz]at hb;simp only[Θ'];rw[bK (hΘ b hb)]
    ·exact hT0 b (hu.free b (hfr b hb)).1
   ·rw[bM];refine⟨by cases v.ownBlock<;>simp,q4,fun x hx y hy e=>?_⟩;simp only[kz]at hx;subst e;exact hfr x hy (Ed x hx)
   ·rcases af.1 hb with hb|hb
    ·simp only[kz]at hb;simp only[ρ'];rw[bK hb.symm]
    ·rw[hρ b (hfr b hb)];exact q5 b hb
theorem dl.a6C(hs:dl Γ st κ Θ a w){ρ:Nat->Nat}(hu:zS Γ st.H κ Θ w ρ){m:Nat}{rows:List aP}(hH:st.H[m]?=some (.tk rows)):
 dl Γ ⟨st.σ,st.H.set m .gone⟩ κ Θ a w/\zS Γ (st.H.set m .gone) κ Θ w ρ/\zP κ Θ ρ w m .uq rows:=by
 have key:∀(j:Nat) x,(st.H.set m .gone)[j]?=some x->x=.gone\/(j≠m/\st.H[j]?=some x):=by
  intro j x hj;rcases oD (ms:=[m]) hj with h|⟨h1,h2⟩
  ·exact .inl h
  ·exact .inr ⟨by simpa using h1,h2⟩
 have hU:zS Γ (st.H.set m .gone) κ Θ w ρ:=by
  refine⟨hu.free,fun id e sz rows h=>?_,fun id x h=>?_⟩
  ·rcases key id _ h with h|⟨_,h2⟩
   ·cases h
   ·exact hu.rows id e sz rows h2
  ·rcases key id _ h with h|⟨_,h2⟩
   ·subst h;trivial
   ·exact hu.more id x h2
 obtain⟨v,bs,q1,q2,q3,q4⟩:=hu.more m _ hH;refine⟨⟨hs.defers,hs.size,fun i hi=>hs.pK i (by simpa using hi),hs.oM,hs.slot,fun id o h=>?_,hs.own,hs.old,hs.mine,hs.stays,ρ,hU⟩,hU,v,bs,q1,q2,fun b hb=>(hu.free b (by rw[q4 b hb];omega)).1,fun _=>⟨q3,q4⟩⟩;rcases key id _ h with h|⟨_,h2⟩
 ·subst h;trivial
 ·exact hs.ob id o h2
def Ob.KJ:Ob->Option (RK×List aP)
 | .row k _ _ rows=>(match k with| .cl=>none|_=>some (k,rows))
 | .tk rows=>some (.uq,rows)
 |_=>none
theorem Ob.YS{o:Ob}{k:RK}{rows:List aP}(h:o.KJ=some (k,rows)):(∃e sz,o=.row k e sz rows/\k.P5=true)\/(o=.tk rows/\k=.uq):=by
 cases o with
 |row k' e sz r=>
  cases k' with
  |cl=>simp[Ob.KJ]at h
  |_=>simp only[Ob.KJ,aq,cW]at h;obtain⟨rfl,rfl⟩:=h;exact .inl ⟨e,sz,rfl,rfl⟩
 |tk r=>simp only[Ob.KJ,aq,cW]at h;obtain⟨rfl,rfl⟩:=h;exact .inr ⟨rfl,rfl⟩
 |_=>simp[Ob.KJ]at h
theorem dl.a6B(hs:dl Γ st κ Θ a w){ρ:Nat->Nat}(hu:zS Γ st.H κ Θ w ρ){m:Nat}{o:Ob}{k:RK}{rows:List aP}(hH:st.H[m]?=some o)(ho:o.KJ=some (k,rows)):
 ∃Θ' ρ',dl Γ ⟨st.σ,st.H.set m .gone⟩ κ Θ' a w/\zS Γ (st.H.set m .gone) κ Θ' w ρ'/\zP κ Θ' ρ' w m k rows/\
  (∀b,Θ b=0->Θ' b=0)/\(∀b,ρ b≠0->ρ' b=ρ b):=by
 rcases Ob.YS ho with⟨e,sz,rfl,hk⟩|⟨rfl,rfl⟩
 ·exact hs.a3c hu hH hk
 ·obtain⟨h1,h2,h3⟩:=hs.a6C hu hH;exact⟨Θ,ρ,h1,h2,h3,fun _ h=>h,fun _ _=>rfl⟩
theorem dl.Qi:∀(ms:aX) {st:St} {Θ ρ:Nat->Nat},dl Γ st κ Θ a w->zS Γ st.H κ Θ w ρ->ms.Nodup->
 (∀m∈ms,∃o k rows,st.H[m]?=some o/\o.KJ=some (k,rows))->
 ∃Θ' ρ',dl Γ ⟨st.σ,kill st.H ms⟩ κ Θ' a w/\zS Γ (kill st.H ms) κ Θ' w ρ'/\(∀m∈ms,∀o k rows,st.H[m]?=some o->o.KJ=some (k,rows)->zP κ Θ' ρ' w m k rows)/\
  (∀b,Θ b=0->Θ' b=0)/\(∀b,ρ b≠0->ρ' b=ρ b):=by
 intro ms
 induction ms with
 |nil=>intro st Θ ρ hs hu _ _;exact⟨Θ,ρ,hs,hu,by simp,fun _ h=>h,fun _ _=>rfl⟩
 |cons m ms ih=>
  intro st Θ ρ hs hu hnd hall;obtain⟨hnm,GC⟩:=dB.1 hnd;obtain⟨o,k,rows,hH,hk⟩:=hall m (by simp);obtain⟨Θ1,ρ1,hs1,hu1,hm1,NJ,UU⟩:=hs.a6B hu hH hk;have M3:∀m'∈ms,(st.H.set m .gone)[m']?=st.H[m']?:=fun m' hm'=>cE (fun e:m=m'=>hnm (by rw[e];exact hm'))
  obtain⟨Θ2,ρ2,hs2,Z3,hm2,Wv,Zt⟩:=ih (st:=⟨st.σ,st.H.set m .gone⟩) hs1 hu1 GC (fun m' hm'=>by
   obtain⟨o',k',dN,h1,h2⟩:=hall m' (by simp[hm']);exact⟨o',k',dN,(M3 m' hm').trans h1,h2⟩)
  refine⟨Θ2,ρ2,hs2,Z3,?_,fun b h=>Wv b (NJ b h),fun b h=>(Zt b (by rw[UU b h];exact h)).trans (UU b h)⟩;intro m' hm' o' k' dN DS ho';rcases bB.1 hm' with rfl|Wb
  ·rw[hH]at DS;cases DS;rw[hk]at ho';cases ho';obtain⟨v,bs,q1,q2,q3,q4⟩:=hm1;refine⟨v,bs,q1,q2,fun b hb=>Wv b (q3 b hb),fun hq=>?_⟩;obtain⟨q5,q6⟩:=q4 hq;exact⟨q5,fun b hb=>by rw[Zt b (by rw[q6 b hb];omega)];exact q6 b hb⟩
  ·exact hm2 m' Wb o' k' dN ((M3 m' Wb).trans DS) ho'
theorem dl.FB:∀(ms:aX) {st:St} {Θ ρ:Nat->Nat},dl Γ st κ Θ a w->zS Γ st.H κ Θ w ρ->ms.Nodup->
 (∀m∈ms,∃k e sz rows,st.H[m]?=some (.row k e sz rows)/\k.P5=true)->
 ∃Θ' ρ',dl Γ ⟨st.σ,kill st.H ms⟩ κ Θ' a w/\zS Γ (kill st.H ms) κ Θ' w ρ'/\(∀m∈ms,∀k e sz rows,st.H[m]?=some (.row k e sz rows)->zP κ Θ' ρ' w m k rows)/\
  (∀b,Θ b=0->Θ' b=0)/\(∀b,ρ b≠0->ρ' b=ρ b):=by
 intro ms
 induction ms with
 |nil=>intro st Θ ρ hs hu _ _;exact⟨Θ,ρ,hs,hu,by simp,fun _ h=>h,fun _ _=>rfl⟩
 |cons m ms ih=>
  intro st Θ ρ hs hu hnd hall;obtain⟨hnm,GC⟩:=dB.1 hnd;obtain⟨k,e,sz,rows,hH,hk⟩:=hall m (by simp);obtain⟨Θ1,ρ1,hs1,hu1,hm1,NJ,UU⟩:=hs.a3c hu hH hk;have M3:∀m'∈ms,(st.H.set m .gone)[m']?=st.H[m']?:=fun m' hm'=>cE (fun e:m=m'=>hnm (by rw[e];exact hm'))
  obtain⟨Θ2,ρ2,hs2,Z3,hm2,Wv,Zt⟩:=ih (st:=⟨st.σ,st.H.set m .gone⟩) hs1 hu1 GC (fun m' hm'=>by
   obtain⟨k',e',sz',dN,h1,h2⟩:=hall m' (by simp[hm']);exact⟨k',e',sz',dN,(M3 m' hm').trans h1,h2⟩)
  refine⟨Θ2,ρ2,hs2,Z3,?_,fun b h=>Wv b (NJ b h),fun b h=>(Zt b (by rw[UU b h];exact h)).trans (UU b h)⟩;intro m' hm' k' e' sz' dN DS;rcases bB.1 hm' with rfl|Wb
  ·rw[hH]at DS;cases DS;obtain⟨v,bs,q1,q2,q3,q4⟩:=hm1;refine⟨v,bs,q1,q2,fun b hb=>Wv b (q3 b hb),fun hq=>?_⟩;obtain⟨q5,q6⟩:=q4 hq;exact⟨q5,fun b hb=>by rw[Zt b (by rw[q6 b hb];omega)];exact q6 b hb⟩
  ·exact hm2 m' Wb k' e' sz' dN ((M3 m' Wb).trans DS)
end
end Go.Cx
namespace Go.Cx
open Go.RowKit
section
variable{P:Program}{Γ:ul}{Q:Exit->St->Prop}{st:St}{κ:Nat->Option Value}{Θ:Nat->Nat}{a:Act}{w:World}{all:Array Oper}{rest:List Oper}
theorem ZH{c:Operand}{x y:Code}{b:Bool}(hc:st.ev c=.bool b)(ht:b=true->AW P Γ x Q st)(hf:b=false->AW P Γ y Q st):AW P Γ (.cond c x y) Q st:=by
 intro κ Θ a w hs;obtain⟨bs,r,_⟩:=hs.ev c;rw[hc]at r;exact wp_cond_split r.wF (fun h=>ht h κ Θ a w hs) (fun h=>hf h κ Θ a w hs)
theorem LS{o:Oper}{j s:Nat}{want b:Bool}(hg:o.guard=some (j,want))(hj:(all[j]?).bind (·.dst)=some s)(hb:lk st.σ s=.bool b)
 (hd:∀t,o.dst=some t->t<Γ.nt)
 (a97:b=want->AO P Γ all ({o with guard:=none}::rest) Q st) (hno:b≠want->AO P Γ all rest Q (st.put o.dst (.iE []))):AO P Γ all (o::rest) Q st:=by
 intro κ Θ a w hs;obtain⟨bs,r,_⟩:=hs.slot s;rw[hb]at r;have hv:=r.wF;have hlt:s<a.tmps.size:=by
  rcases eO s a.tmps.size with h|h
  ·exact h
  ·exfalso;rw[cF,rR h]at hv;simp[undef]at hv
 have hy:yielded all a.tmps j=some b:=by
  have h1:a.tmps[s]?=some (.bool b):=by
   rw[cF,cP hlt]at hv;rw[cP hlt];simpa using hv
  simp[yielded,hj,h1]
 by_cases e:b=want
 ·have:=a97 e κ Θ a w hs;unfold wpList at this⊢;have hw:Region.wanted o (yielded all a.tmps)=true:=by simp[Region.wanted,hg,hy,e]
  have hw':Region.wanted {o with guard:=none} (yielded all a.tmps)=true:=rfl;rw[bK hw];rw[bK hw']at this;exact this
 ·have hw:Region.wanted o (yielded all a.tmps)=false:=by simp[Region.wanted,hg,hy,e]
  unfold wpList;rw[hw,az (by simp)];refine hno e κ Θ _ w ?_;cases OZ:o.dst with
  |none=>exact hs
  |some t=>exact hs.set (hd t OZ) (.iE [] [] [] .nil) (by simp)
theorem rW.O3{w:World}{κ:Nat->Option Value}{v:Value}{bs:aX}(h:rW w κ v (.iE []) bs):v=.tuple #[]:=by
 cases h with
 |v h=>cases h with|cell h=>cases h with|pure h=>cases h
 |iE vs ds bs h=>cases h;rfl
theorem NR{o:Oper}{j s:Nat}{want:Bool}(hg:o.guard=some (j,want))(hj:(all[j]?).bind (·.dst)=some s)(hb:lk st.σ s=.iE [])
 (hd:∀t,o.dst=some t->t<Γ.nt) (hno:AO P Γ all rest Q (st.put o.dst (.iE []))):AO P Γ all (o::rest) Q st:=by
 intro κ Θ a w hs;obtain⟨bs,r,_⟩:=hs.slot s;rw[hb]at r;have hv:=r.O3;have hy:yielded all a.tmps j=none:=by
  rcases eO s a.tmps.size with hlt|hlt
  ·have h1:a.tmps[s]?=some (.tuple #[]):=by
    rw[cF,cP hlt]at hv;rw[cP hlt];simpa using hv
   simp[yielded,hj,h1]
  ·simp[yielded,hj,rR hlt]
 have hw:Region.wanted o (yielded all a.tmps)=false:=by simp[Region.wanted,hg,hy]
 unfold wpList;rw[hw,az (by simp)];refine hno κ Θ _ w ?_;cases OZ:o.dst with
 |none=>exact hs
 |some t=>exact hs.set (hd t OZ) (.iE [] [] [] .nil) (by simp)
theorem iy.alloc(hs:dl Γ st κ Θ a w)(o:Obj){tag:Nat}(h2:2<=tag):iy w (w.alloc o) Θ (fun b=>if b=w.heap.size then tag else Θ b) tag:=by
 refine⟨h2,rfl,rfl,rfl,by simp,fun b hb _=>Below.heap_alloc w o b hb,fun b hb _=>?_,fun b hb=>?_⟩
 ·rw[az (by omega)]
 ·by_cases e:b=w.heap.size
  ·subst e;simp
  ·rw[az e]at hb;have:=hs.own b hb;simp;omega
theorem dl.Xb(hs:dl Γ st κ Θ a w){cs:Array Value}{ds:aP}{bs:aX}(T:TypeId)(hr:fS w κ cs.toList ds bs)(hz:∀b∈bs,Θ b=0):
 dl Γ ⟨st.σ,st.H++[.box ds]⟩ (yD κ st.H.length (some (.pointer (some ⟨w.heap.size,0,none⟩)))) (fun b=>if b=w.heap.size then st.H.length+2 else Θ b) a (w.alloc (.cells cs T)):=by
 have k:=iy.alloc hs (.cells cs T) (tag:=st.H.length+2) (by omega);refine hs.push rfl k (hs.zF (fun b hb=>by by_cases e:b=w.heap.size<;>simp_all)) ?_ rfl;have hn:=xQ (hs.pK _ (bR _)) (some (Value.pointer (some ⟨w.heap.size,0,none⟩)));obtain⟨h1,h2⟩:=fS.stay k hn hr hz;exact⟨w.heap.size,cs,T,by simp[yD],heap_alloc_new w _,by simp,bs,h1,h2⟩
theorem a2Q{o:Oper}{T t:Nat}{x:Operand}{ds:aP}(hop:o.op=.box T x)(hd:o.dst=some t)(hg:o.guard=none)(ht:t<Γ.nt)
 (hc:(st.ev x).cellsOf=some ds) (h:AO P Γ all rest Q ⟨(t,.ptr st.H.length 0)::st.σ,st.H++[.box ds]⟩):AO P Γ all (o::rest) Q st:=by
 intro κ Θ a w hs;obtain⟨bs,r,hz⟩:=hs.ev x;have hcs:=BG hs.oM r hc;have hs':=hs.Xb T hcs hz;refine wpList_plain hg fun K hK=>?_
 unfold Oper.wp;have hrun:(execOp a.eval o).run P w=.ok (.value (.pointer (some ⟨w.heap.size,0,none⟩))) (w.alloc (.cells (a.eval x).cells T)):=by
  simp[execOp,hop,Instr.box,newVar,newRow]
 rw[hrun,Oper.upon_value,hd];refine hK _ _ (h _ _ _ _ (hs'.set (t:=t) (d:=.ptr st.H.length 0) (bs:=[]) ht ?_ (by simp)));exact(zC.ptr st.H.length 0 w.heap.size (by simp[yD])).PT
theorem VU{o:Oper}{T t:Nat}{zs:aP}(hop:o.op=.alloc T)(hd:o.dst=some t)(hg:o.guard=none)(ht:t<Γ.nt)
 (hz:tz P T=some zs) (h:AO P Γ all rest Q ⟨(t,.ptr st.H.length 0)::st.σ,st.H++[.box zs]⟩):AO P Γ all (o::rest) Q st:=by
 intro κ Θ a w hs;obtain⟨i,z,hi,yC,hsz,hlen,hone,rfl⟩:=xL hz;have hs':=hs.Xb T (cs:=z.cells) (Bo z.cells.toList hone) (by simp);refine wpList_plain hg fun K hK=>?_
 unfold Oper.wp;have hrun:(execOp a.eval o).run P w=.ok (.value (.pointer (some ⟨w.heap.size,0,none⟩))) (w.alloc (.cells z.cells T)):=by
  simp[execOp,hop,Instr.alloc,zeroValue,typeInfo,hi,yC,newVar,newRow]
 rw[hrun,Oper.upon_value,hd];refine hK _ _ (h _ _ _ _ (hs'.set (t:=t) (d:=.ptr st.H.length 0) (bs:=[]) ht ?_ (by simp)));exact(zC.ptr st.H.length 0 w.heap.size (by simp[yD])).PT
theorem iy.setRow(hs:dl Γ st κ Θ a w){g:Nat}{cs:Array Value}{tag:Nat}(h2:2<=tag)(hg:Θ g=tag):iy w (w.setRow g cs) Θ Θ tag:=by
 refine⟨h2,rfl,rfl,rfl,by simp,fun b _ hne=>setRow_other w g b cs (fun e=>hne (e▸hg)),fun b _ _=>rfl,fun b hb=>?_⟩;simpa using hs.own b hb
theorem Et{T g off:Nat}{v:Value}{cur:Array Value}{e:TypeId}(hg:w.heap[g]?=some (.cells cur e (0,0)))(hsz:v.cells.size=zH P T)(K1:∃i,P.info? T=some i)
 (hfit:off+v.cells.size<=cur.size) (hone:∀c∈v.cells.toList,c.oneCell'=true):
 (Instr.storeAt T (.pointer (some ⟨g,off,none⟩)) v).run P w=.ok () (w.setRow g (cur.toList.take off++v.cells.toList++cur.toList.drop (off+v.cells.toList.length)).toArray):=by
 have:=run_storeCells_at P g off e v.cells.toList 0 cur w hg (by simpa using hfit) hone;simp only[rU]at this;simp[Instr.storeAt,Instr.sureAddr,storeVar,vA K1,hsz,this]
def PS(P:Program)(t:TypeId):Bool:=(P.info? t).isSome
theorem O1{o:Oper}{T id off:Nat}{x y:Operand}{cells ds:aP}(hop:o.op=.store T x y)
 (hx:st.ev x=.ptr id off) {ob:Ob} (hH:st.H[id]?=some ob) (Ac:ob.UK=some cells) (hc:(st.ev y).cellsOf=some ds) (hT:PS P T=true) (hl:ds.length=zH P T) (hfit:off+ds.length<=cells.length) (hs:dl Γ st κ Θ a w):
 ∃w',(execOp a.eval o).run P w=.ok .skip w'/\dl Γ ⟨st.σ,st.H.set id (ob.re (cells.take off++ds++cells.drop (off+ds.length)))⟩ κ Θ a w':=by
 obtain⟨b1,r1,_⟩:=hs.ev x;obtain⟨b2,r2,Wv⟩:=hs.ev y;rw[hx]at r1;obtain⟨g,hk,hv⟩:=r1.z8;obtain⟨g',cs,Tb,hk',Z0,hΘ,bs,sv,hz⟩:=(hs.ob id _ hH).cs Ac;rw[hk]at hk';cases hk';have hcs:=BG hs.oM r2 hc;have hl1:=hcs.length;have CW:=sv.length;have hsz:(a.eval y).cells.size=zH P T:=by rw[<-hl,<-hl1];simp
 have hst:=Et (P:=P) (T:=T) (off:=off) Z0 hsz (eT.1 hT) (by
  have:(a.eval y).cells.size=ds.length:=by rw[<-hl1];simp
  have h3:cs.size=cells.length:=by rw[<-CW];simp
  omega) hcs.one
 have k:=iy.setRow hs (g:=g) (cs:=(cs.toList.take off++(a.eval y).cells.toList++cs.toList.drop (off+(a.eval y).cells.toList.length)).toArray) (tag:=id+2) (by omega) hΘ;have hrun:(execOp a.eval o).run P w=.ok .skip (w.setRow g (cs.toList.take off++(a.eval y).cells.toList++cs.toList.drop (off+(a.eval y).cells.toList.length)).toArray):=by
  simp only[execOp,hop,hv];simp[hst]
 refine⟨_,hrun,hs.change k hs.mine (wC.a6R Ac (hs.ob id _ hH) (fun _ h=>h) ?_) (by cases ob<;>rfl)⟩;have e:cells=cells.take off++((cells.drop off).take ds.length++(cells.drop off).drop ds.length):=by rw[cD,cD]
 rw[e]at sv;obtain⟨v1,v2,c1,c2,M7,rfl,k1,k2⟩:=sv.split;obtain⟨v3,v4,c3,c4,rfl,rfl,k3,k4⟩:=k2.split;have l1:v1.length=off:=by rw[k1.length];simp;omega
 have l3:v3.length=ds.length:=by rw[k3.length];simp;omega
 have e1:cs.toList.take off=v1:=by rw[M7];exact ig l1
 have e4:cs.toList.drop (off+(a.eval y).cells.toList.length)=v4:=by
  rw[M7,<-gm,fy l1,hl1];exact fy l3
 have hnew:fS w κ (v1++(a.eval y).cells.toList++v4) (cells.take off++ds++cells.drop (off+ds.length)) ((c1++b2)++c4):=by
  rw[gm]at k4;exact(k1.app hcs).app k4
 have Mw:∀b∈((c1++b2)++c4),Θ b=0:=by
  intro b hb;simp only[af]at hb;rcases hb with(hb|hb)|hb
  ·exact hz b (by simp[hb])
  ·exact Wv b hb
  ·exact hz b (by simp[hb])
 obtain⟨h1,h2⟩:=fS.stay k (fun _ _ h=>h) hnew Mw;refine⟨g,_,Tb,hk,setRow_heap w g cs _ Tb _ Z0,hΘ,_,?_,h2⟩;rw[e1,e4]at h1⊢;exact h1
theorem Vg{o:Oper}{T id off:Nat}{x y:Operand}{cells ds:aP}(hop:o.op=.store T x y)(hd:o.dst=none)(hg:o.guard=none)
 (hx:st.ev x=.ptr id off) {ob:Ob} (hH:st.H[id]?=some ob) (Ac:ob.UK=some cells) (hc:(st.ev y).cellsOf=some ds) (hT:PS P T=true) (hl:ds.length=zH P T) (hfit:off+ds.length<=cells.length)
 (h:AO P Γ all rest Q ⟨st.σ,st.H.set id (ob.re (cells.take off++ds++cells.drop (off+ds.length)))⟩):AO P Γ all (o::rest) Q st:=by
 intro κ Θ a w hs;obtain⟨w',hrun,hs'⟩:=O1 hop hx hH Ac hc hT hl hfit hs;refine wpList_plain hg fun K hK=>?_
 unfold Oper.wp;rw[hrun,Oper.upon_skip,hd];exact hK _ _ (h _ _ _ _ hs')
end
def D.Pd:D->Bool
 | .acc _=>false
 | .ptr _ _=>false
 | .op _ _ _ _=>false
 |_=>true
def Yd(P:Program)(t:TypeId):Nat:=P.bytesOf t
theorem Nt{α:Type}{l:List α}{i:Nat}{x:α}(h:l[i]?=some x):∃p q,l=p++x::q/\p.length=i:=by
 have hlt:=(aF.1 h).1;have hx:=(aF.1 h).2;refine⟨l.take i,l.drop (i+1),?_,by simp;omega⟩;rw[<-hx,By,cD]
theorem EX{rows:List aP}{sz i off:Nat}{row ds:aP}(hrl:∀r∈rows,r.length=sz)(hr:rows[i]?=some row)(hfit:off+ds.length<=sz):
 (rows.set i (row.take off++ds++row.drop (off+ds.length))).flatten=rows.flatten.take (i*sz+off)++ds++rows.flatten.drop (i*sz+off+ds.length):=by
 obtain⟨p,q,rfl,rfl⟩:=Nt hr;have hrow:row.length=sz:=hrl row (by simp);have hp:p.flatten.length=p.length*sz:=oX (fun r hr=>hrl r (by simp[hr]));rw[tA _ _ (bR _),pY,List.set_cons_zero];simp only[lS,eW];rw[<-hp,List.take_length_add_append,qM,List.drop_length_add_append,List.take_append_of_le_length (by omega),List.drop_append_of_le_length (by omega)];simp only[cu]
theorem MM(z:Array Value)(n:Nat):(madeCells z (n*z.size)).toList=(List.replicate n z.toList).flatten:=by
 induction n with
 |zero=>simp[madeCells]
 |succ n ih=>
  rw[List.replicate_succ',lS,<-ih];apply kw;intro j;by_cases hz:z.size=0
  ·have:z= #[]:=Array.size_eq_zero_iff.1 hz;subst this;simp[madeCells]
  ·by_cases h1:j<n*z.size
   ·rw[au (by simpa[madeCells]using h1)];have h2:j<(n+1)*z.size:=by rw[k9];omega
    simp[madeCells,h1,h2]
   ·rw[bA (by simpa[madeCells]using h1)];by_cases h2:j<(n+1)*z.size
    ·rw[k9,nE]at h2;have hm:j%z.size=j-n*z.size:=by
      have hmc:=C0 z.size n;have e:j=(j-n*z.size)+z.size*n:=by omega
      conv=>lhs;rw[e]
      rw[Nat.add_mul_mod_self_left,Nat.mod_eq_of_lt (by omega)]
     have h3:j-n*z.size<z.size:=by omega
     have h2':j<(n+1)*z.size:=by rw[k9,nE];exact h2
     simp[madeCells,h2',hm,h3]
    ·rw[cM (by simp[madeCells];omega),cM];rw[k9,nE]at h2;simp[madeCells];omega
section
variable{P:Program}{Γ:ul}{Q:Exit->St->Prop}{st:St}{κ:Nat->Option Value}{Θ:Nat->Nat}{a:Act}{w:World}{all:Array Oper}{rest:List Oper}
theorem fS.pure{vs:bw}{ds:aP}{bs:aX}(h:fS w κ vs ds bs)(hp:ds.all D.Pd=true):l6 w vs ds bs:=by
 induction ds generalizing vs bs with
 |nil=>cases h;exact .nil
 |cons d ds ih=>
  simp only[dW,aS]at hp;cases h with
  |cons v vs _ _ b1 b2 h1 h2 h3=>
   refine .cons _ _ _ _ _ _ h1 ?_ (ih h3 hp.2);cases h2 with
   |pure h=>exact h
   |acc=>simp[D.Pd]at hp
   |ptr=>simp[D.Pd]at hp
   |op=>simp[D.Pd]at hp
theorem l6.rep{vs:bw}{ds:aP}(h:l6 w vs ds [])(m:Nat):l6 w (List.replicate m vs).flatten (List.replicate m ds).flatten []:=by
 induction m with
 |zero=>exact .nil
 |succ m ih=>
  simp only[List.replicate_succ,eW];have:=h.app ih;simpa using this
def D.GZ(d:D):D:=match d with
 | .nil=>.sl []
 |d=>d
theorem Rd.soft{v:Value}{d:D}{bs:aX}(h:Rd w v d bs):Rd w v d.GZ bs:=by
 cases h with
 |nil=>exact .yp
 |any=>exact .any _
 |int _ _ h=>exact .int _ _ h
 |bool=>exact .bool _
 |str _ h=>exact .str _ h
 |val=>exact .val _
 |yp=>exact .yp
 |oO a cap h=>exact .oO a cap h
 |sl b off cap sz rows cs bs h0 h1 h2 h3 h4 h5=>exact .sl b off cap sz rows cs bs h0 h1 h2 h3 h4 h5
 |agg cs ds bs h=>exact .agg cs ds bs h
 |ep b off cs row o bs h0 h4 h5=>exact .ep b off cs row o bs h0 h4 h5
 |UY=>exact .UY
 |UZ t u=>exact .UZ t u
theorem l6.soft{vs:bw}{ds:aP}{bs:aX}(h:l6 w vs ds bs):l6 w vs (ds.map D.GZ) bs:=by
 induction ds generalizing vs bs with
 |nil=>cases h;exact .nil
 |cons d ds ih=>cases h with|cons v vs _ _ b1 b2 h1 h2 h3=>exact .cons _ _ _ _ _ _ h1 h2.soft (ih h3)
def D.flat:D->Bool
 | .any=>true
 | .nil=>true
 | .int _ _=>true
 | .bool _=>true
 | .str _=>true
 | .val _=>true
 |_=>false
def UE(H:bW)(d:D):Option (D×aX):=match d with
 | .acc m=>(match(H[m]?).bind Ob.KJ with|some (_,rows)=>some (.sl rows,[m])|none=>none)
 | .ptr _ _=>none
 | .op _ _ _ _=>none
 |d=>some (d.GZ,[])
def JZ(H:bW):aP->Option (aP×aX)
 | []=>some ([],[])
 |d::ds=>match UE H d,JZ H ds with|some (e,m),some (es,ms)=>some (e::es,m++ms)|_,_=>none
def U3(H:bW)(d:D):Bool:=match d with
 | .acc m=>(match(H[m]?).bind Ob.KJ with|some (k,_)=>(match k with| .uq=>true|_=>false)|none=>false)
 |d=>d.flat
def zA(b:Bool):RK:=match b with|true=>.uq|false=>.sh
theorem Ob.Qj(u:Bool)(e:TypeId)(sz:Nat)(rows:List aP):(Ob.row (zA u) e sz rows).mvB=false:=by cases u<;>rfl
theorem Rd.flat{v:Value}{d:D}{bs:aX}(h:Rd w v d bs)(hf:d.flat=true):bs=[]:=by
 cases h<;>first|rfl|simp[D.flat]at hf
theorem Pq{H:bW}{d e:D}{m:aX}(h:UE H d=some (e,m)):
 (∃m0 o k rows,d=.acc m0/\H[m0]?=some o/\o.KJ=some (k,rows)/\e=.sl rows/\m=[m0])\/(d.Pd=true/\(∀i,d≠ .acc i)/\e=d.GZ/\m=[]):=by
 cases d with
 |acc m0=>
  simp only[UE]at h;split at h
  ·rename_i k rows hH;simp only[aq,cW]at h;obtain⟨rfl,rfl⟩:=h;obtain⟨o,hH,ho⟩:=b9.1 hH;exact .inl ⟨m0,o,k,rows,rfl,hH,ho,rfl,rfl⟩
  ·cases h
 |ptr i o=>simp[UE]at h
 |op i j s o=>simp[UE]at h
 |_=>simp only[UE,aq,cW]at h;obtain⟨rfl,rfl⟩:=h;exact .inr ⟨rfl,by simp,rfl,rfl⟩
theorem Pr{H:bW}:∀ {ds es:aP} {ms:aX},JZ H ds=some (es,ms)->∀m∈ms,∃o k rows,H[m]?=some o/\o.KJ=some (k,rows):=by
 intro ds
 induction ds with
 |nil=>intro es ms h;simp only[JZ,aq,cW]at h;obtain⟨rfl,rfl⟩:=h;simp
 |cons d ds ih=>
  intro es ms h;simp only[JZ]at h;split at h
  ·rename_i e m es' ms' h1 h2;simp only[aq,cW]at h;obtain⟨rfl,rfl⟩:=h;intro x hx;rcases af.1 hx with hx|hx
   ·rcases Pq h1 with⟨m0,o,k,dN,rfl,hH,hk,rfl,rfl⟩|⟨_,_,_,rfl⟩
    ·simp at hx;subst hx;exact⟨o,k,_,hH,hk⟩
    ·simp at hx
   ·exact ih h2 x hx
  ·cases h
theorem Ra{H:bW}{ρ:Nat->Nat}:∀ {ds es:aP} {ms:aX} {vs:bw} {b0:aX},JZ H ds=some (es,ms)->ms.Nodup->fS w κ vs ds b0->(∀b∈b0,Θ b=0)->
 (∀m∈ms,∀o k rows,H[m]?=some o->o.KJ=some (k,rows)->zP κ Θ ρ w m k rows)->
 ∃bs,l6 w vs es bs/\(∀b∈bs,Θ b=0)/\(ds.all (U3 H)=true->bs.Nodup/\∀b∈bs,∃m∈ms,ρ b=m+1):=by
 intro ds
 induction ds with
 |nil=>
  intro es ms vs b0 h _ hr _ _;simp only[JZ,aq,cW]at h;obtain⟨rfl,rfl⟩:=h;cases hr;exact⟨[],.nil,by simp,by simp⟩
 |cons d ds ih=>
  intro es ms vs b0 h hnd hr hz hm;simp only[JZ]at h;split at h
  ·rename_i e m es' ms' h1 h2;simp only[aq,cW]at h;obtain⟨rfl,rfl⟩:=h;obtain⟨n1,n2,n3⟩:=bM.1 hnd;cases hr with
   |cons v vs _ _ b1 b2 hv hc hcs=>
    obtain⟨Yw,q1,q2,q3⟩:=ih h2 n2 hcs (fun b hb=>hz b (by simp[hb])) (fun x hx=>hm x (by simp[hx]));have one:∃bs1,Rd w v e bs1/\(∀b∈bs1,Θ b=0)/\(U3 H d=true->bs1.Nodup/\∀b∈bs1,∃x∈m,ρ b=x+1):=by
     rcases Pq h1 with⟨m0,o,k,dN,rfl,hH,hk,rfl,rfl⟩|⟨hp,hna,rfl,rfl⟩
     ·obtain⟨v',bs,r1,r2,r3,r4⟩:=hm m0 (by simp) o k dN hH hk;cases hc with
      |pure hc=>cases hc
      |acc _ _ hkv=>
       rw[hkv]at r1;cases r1;refine⟨bs,r2,r3,fun hq=>?_⟩;simp only[U3,hH,aA,hk]at hq;split at hq
       ·obtain⟨r5,r6⟩:=r4 rfl;exact⟨r5,fun b hb=>⟨m0,by simp,r6 b hb⟩⟩
       ·cases hq
     ·have hrd:Rd w v d b1:=by
       cases hc with
       |pure hc=>exact hc
       |acc i _ _=>exact absurd rfl (hna i)
       |ptr i o _ _=>simp[D.Pd]at hp
       |op i j s o _ _ _ _ _=>simp[D.Pd]at hp
      refine⟨b1,hrd.soft,fun b hb=>hz b (by simp[hb]),fun hq=>?_⟩;have hf:d.flat=true:=by
       unfold U3 at hq;split at hq
       ·exact absurd rfl (hna _)
       ·exact hq
      rw[hrd.flat hf];exact⟨by simp,by simp⟩
    obtain⟨bs1,p1,p2,p3⟩:=one;refine⟨bs1++Yw,.cons _ _ _ _ _ _ hv p1 q1,fun b hb=>?_,fun hq=>?_⟩
    ·rcases af.1 hb with hb|hb
     ·exact p2 b hb
     ·exact q2 b hb
    ·simp only[dW,aS]at hq;obtain⟨p4,p5⟩:=p3 hq.1;obtain⟨q4,q5⟩:=q3 hq.2;refine⟨bM.2 ⟨p4,q4,fun x hx y hy exy=>?_⟩,fun b hb=>?_⟩
     ·subst exy;obtain⟨m1,hm1,e1⟩:=p5 x hx;obtain⟨m2,hm2,e2⟩:=q5 x hy;exact n3 m1 hm1 m2 hm2 (by omega)
     ·rcases af.1 hb with hb|hb
      ·obtain⟨x,hx,ex⟩:=p5 b hb;exact⟨x,by simp[hx],ex⟩
      ·obtain⟨x,hx,ex⟩:=q5 b hb;exact⟨x,by simp[hx],ex⟩
  ·cases h
theorem dl.put(hs:dl Γ st κ Θ a w){H':bW}{κ':Nat->Option Value}{Θ' ρ:Nat->Nat}{w':World}{id:Nat}{o:Ob}(ms:aX)
 (key:∀(j:Nat) x,H'[j]?=some x->(j=id/\x=o)\/(j≠id/\st.H[j]?=some x)) (hn:∀(j:Nat) v,κ j=some v->κ' j=some v)
 (hko:∀i,H'.length<=i->κ' i=none) (hk1:∀(i:Nat) u,κ' i=some u->u.oneCell'=true) (k:iy w w' Θ Θ' (id+2)) (hm:∀b,2<=Θ' b->yH Γ b) (ho:wC w' κ' Θ' id o)
 (hu:zS Γ st.H κ Θ w ρ) (M5:∀m∈ms,∀x,m≠id->st.H[m]?=some x->x.V8=false)
 (hq:∀e sz rows,o=.row .uq e sz rows->∃v cs bs,κ' id=some v/\w'.ownsRow 0 e sz v rows.length cs/\l6 w' cs rows.flatten bs/\bs.Nodup/\∀b∈bs,ρ b=id+1\/∃m∈ms,ρ b=m+1)
 (hmv:o.mvB=false:=by first|rfl|exact Ob.Qj _ _ _ _):
 dl Γ ⟨st.σ,H'⟩ κ' Θ' a w':=by
 have tI:=hs.oF k hn hu;let ρ':Nat->Nat:=fun b=>if ms.any (fun m=>ρ b==m+1)then id+1 else ρ b
 have a9B:∀b,ρ' b≠0->ρ b≠0:=by
  intro b hb h0;simp only[ρ',h0]at hb;split at hb
  ·rename_i h;obtain⟨m,_,hm⟩:=cv.1 h;simp at hm
  ·exact hb rfl
 refine hs.step k hm hn hko hk1 ?_ ⟨ρ',fun b hb=>tI.1 b (a9B b hb),?_,?_⟩
 ·intro j x hj;rcases key j x hj with⟨rfl,rfl⟩|⟨h1,h2⟩
  ·exact .inr (.inr ho)
  ·exact .inr (.inl ⟨by omega,h2⟩)
 ·intro j e sz rows hj;rcases key j _ hj with⟨rfl,ho'⟩|⟨h1,h2⟩
  ·obtain⟨v,cs,bs,q1,q2,q3,q4,q5⟩:=hq e sz rows ho'.symm;refine⟨v,cs,bs,q1,q2,q3,q4,fun b hb=>?_⟩;simp only[ρ'];split
   ·rfl
   ·rename_i hno;rcases q5 b hb with h|⟨m,hm1,hm2⟩
    ·exact h
    ·exact absurd (cv.2 ⟨m,hm1,by simp[hm2]⟩) hno
  ·obtain⟨v,cs,bs,q1,q2,q3,q4,q5⟩:=tI.2.1 j e sz rows (by omega) h2;refine⟨v,cs,bs,q1,q2,q3,q4,fun b hb=>?_⟩;simp only[ρ'];rw[az]
   ·exact q5 b hb
   ·intro h;obtain⟨m,hm1,hm2⟩:=cv.1 h;simp only[q5 b hb,cq]at hm2;have:j=m:=by omega
    subst this;have:=M5 j hm1 _ h1 h2;simp[Ob.V8]at this
 ·intro j x hj;rcases key j _ hj with⟨rfl,rfl⟩|⟨h1,h2⟩
  ·exact KO.xF hmv
  ·by_cases hx:x.V8=false
   ·exact KO.plain hx
   ·refine(tI.2.2 j x (by omega) h2).re fun b hb=>?_
    simp only[ρ'];rw[az]
    ·exact hb
    ·intro h;obtain⟨m,hm1,hm2⟩:=cv.1 h;simp only[hb,cq]at hm2;have:j=m:=by omega
     subst this;exact hx (M5 j hm1 _ h1 h2)
theorem Bp{H:bW}{o:Ob}:∀(j:Nat) x,(H++[o])[j]?=some x->(j=H.length/\x=o)\/(j≠H.length/\H[j]?=some x):=by
 intro j x hj;by_cases hlt:j<H.length
 ·rw[au hlt]at hj;exact .inr ⟨by omega,hj⟩
 ·have hj':=(aF.1 hj).1;simp only[bC,aV,br]at hj';have e:j=H.length:=by omega
  subst e;rw[bA (bR _)]at hj;simp at hj;exact .inl ⟨rfl,hj.symm⟩
theorem zB{H:bW}{o:Ob}{id:Nat}:∀(j:Nat) x,(H.set id o)[j]?=some x->(j=id/\x=o)\/(j≠id/\H[j]?=some x):=by
 intro j x hj;by_cases e:id=j
 ·subst e;have hlt:id<H.length:=by
   have:=(aF.1 hj).1;simpa using this
  rw[dX hlt]at hj;cases hj;exact .inl ⟨rfl,rfl⟩
 ·rw[cE e]at hj;exact .inr ⟨fun h=>e h.symm,hj⟩
theorem dl.newRow(hs:dl Γ st κ Θ a w){ρ:Nat->Nat}(hu:zS Γ st.H κ Θ w ρ){u:Bool}{ms:aX}{e sz cap:Nat}{rows:List aP}{bs:aX}(cur:Array Value)(hsz:0<sz)(hrl:∀r∈rows,r.length=sz)
 (M2:cur.size=cap*sz) (hn:rows.length<=cap) (hcap:cap<=maxLen) (hr:l6 w (cur.toList.take (rows.length*sz)) rows.flatten bs) (hz:∀b∈bs,Θ b=0)
 (M5:∀m∈ms,∀x,st.H[m]?=some x->x.V8=false) (hq:u=true->bs.Nodup/\∀b∈bs,∃m∈ms,ρ b=m+1):
 dl Γ ⟨st.σ,st.H++[.row (zA u) e sz rows]⟩ (yD κ st.H.length (some (.slice (some ⟨w.heap.size,0,none⟩) rows.length cap))) (fun b=>if b=w.heap.size then st.H.length+2 else Θ b) a (w.alloc (.cells cur e)):=by
 have k:=iy.alloc hs (.cells cur e) (tag:=st.H.length+2) (by omega);obtain⟨h1,h2⟩:=l6.over k hr hz;have hlen:(cur.toList.take (rows.length*sz)).length=rows.length*sz:=by
  have:rows.length*sz<=cap*sz:=dh _ hn;have h3:cur.toList.length=cap*sz:=by rw[<-M2];simp
  rw[cQ,h3,fJ this]
 have hown:(w.alloc (.cells cur e)).ownsRow 0 e sz (.slice (some ⟨w.heap.size,0,none⟩) rows.length cap) rows.length (cur.toList.take (rows.length*sz)):=
  ⟨hlen,.inr ⟨w.heap.size,cap,cur,rfl,by omega,heap_alloc_new w _,hn,hcap,M2,rfl⟩⟩
 refine hs.put ms Bp (xQ (hs.pK _ (bR _)) _) ?_ ?_ k (hs.zF (fun b hb=>by by_cases e:b=w.heap.size<;>simp_all)) ?_ hu (fun m hm x _=>M5 m hm x) ?_
 ·intro i hi;simp only[bC,aV,br]at hi;unfold yD;rw[az (by omega)];exact hs.pK i (by omega)
 ·intro i x hx;unfold yD at hx;split at hx
  ·cases hx;rfl
  ·exact hs.oM i x hx
 ·refine⟨hsz,hrl,_,_,bs,by simp[yD],hown,h1,?_,?_⟩
  ·intro g hg;simp only[Value.ownBlock,aq]at hg;subst hg;simp
  ·cases u<;>exact h2
 ·intro e' sz' dN he;cases u with
  |false=>simp[zA]at he
  |true=>
   simp only[zA,Ob.row.injEq,sA]at he;obtain⟨rfl,rfl,rfl⟩:=he;obtain⟨q1,q2⟩:=hq rfl;exact⟨_,_,bs,by simp[yD],hown,h1,q1,fun b hb=>.inr (q2 b hb)⟩
theorem OD{o:Oper}{T e sz t:Nat}{x y:Operand}{k k':IntKind}{n:Int}{zs:aP}(hop:o.op=.makeSlice T x y)(hd:o.dst=some t)(hg:o.guard=none)(ht:t<Γ.nt)
 (hT:FG P T=some (e,sz)) (hz:tz P e=some zs) (hsz:0<sz) (hx:st.ev x=.int k n) (hy:st.ev y=.int k' n) (h0:0<=n) (hroom:Yd P e*n.toNat<=281474976710656) (CX:n.toNat<=4611686018427387904)
 (h:AO P Γ all rest Q ⟨(t,.acc st.H.length)::st.σ,st.H++[.row .uq e sz (List.replicate n.toNat (zs.map D.GZ))]⟩):AO P Γ all (o::rest) Q st:=by
 intro κ Θ a w hs;obtain⟨b1,r1,_⟩:=hs.ev x;obtain⟨b2,r2,_⟩:=hs.ev y;rw[hx]at r1;rw[hy]at r2;have e1:=r1.qj;have e2:=r2.qj;obtain⟨hu,_,Iv⟩:=ou hT;obtain⟨i,z,hi,yC,Oe,hlen,hone,rfl⟩:=xL hz;have CU:i.size=sz:=by rw[<-Iv];simp[zH,Program.cellsOf,hi]
 have hby:i.bytes=Yd P e:=by simp[Yd,Program.bytesOf,hi]
 obtain⟨m,rfl⟩:=nS h0;simp only[pX]at hroom CX h;have hrun:=run_make (P:=P) w T e i z hu hi yC k k' m m (by omega) (by omega) (by rw[hby];have:=Int.ofNat_le.2 hroom;rw[Int.natCast_mul]at this;exact this) (by omega);simp only[pX]at hrun;rw[<-Oe]at hrun;have We:=MM z.cells m;obtain⟨ρ,huq⟩:=hs.tJ;have hs':=hs.newRow huq (u:=true) (ms:=[]) (e:=e) (sz:=sz) (cap:=m) (rows:=List.replicate m ((z.cells.toList.map D.SM).map D.GZ)) (bs:=[]) (madeCells z.cells (m*z.cells.size)) hsz
  (by intro r hr;rw[Ah hr];simp[Oe,CU]) (by rw[size_madeCells,Oe,CU]) (by simp) (by unfold maxLen;omega)
  (by
   rw[Ct,rT (by simp[size_madeCells,Oe,CU]),We];have hcell:=(Bo (w:=w) (κ:=κ) z.cells.toList hone).pure (by
    rw[Ht,aj];intro c _;simp only[Function.comp];unfold D.SM;split<;>(try split)<;>rfl)
   exact hcell.soft.rep m) (by simp) (by simp) (by simp)
 refine wpList_plain hg fun K hK=>?_
 unfold Oper.wp;have QV:(execOp a.eval o).run P w=.ok (.value (.slice (some ⟨w.heap.size,0,none⟩) m m)) (w.alloc (.cells (madeCells z.cells (m*z.cells.size)) e)):=by
  simp only[execOp,hop,e1,e2];simp[hrun]
 rw[QV,Oper.upon_value,hd];simp only[Ct]at hs';refine hK _ _ (h _ _ _ _ (hs'.set (t:=t) (d:=.acc st.H.length) (bs:=[]) ht ?_ (by simp)));exact(zC.acc st.H.length _ (by simp[yD])).PT
def sw(len sz:Nat):List (Nat×Nat):=(List.range len).map fun i=>(i*sz,sz)
def chunk(sz:Nat):Nat->aP->List aP
 |0,_=>[]
 |n+1,ds=>ds.take sz::chunk sz n (ds.drop sz)
theorem Dl(sz:Nat):∀(n:Nat) (ds:aP),ds.length=n*sz->(chunk sz n ds).length=n/\(chunk sz n ds).flatten=ds/\∀r∈chunk sz n ds,r.length=sz:=by
 intro n
 induction n with
 |zero=>intro ds h;simp at h;subst h;simp[chunk]
 |succ n ih=>
  intro ds h;rw[k9,nE]at h;obtain⟨h1,h2,h3⟩:=ih (ds.drop sz) (by rw[wv];omega);refine⟨by simp[chunk,h1],by simp[chunk,h2],fun r hr=>?_⟩;rcases bB.1 hr with rfl|hr
  ·rw[cQ];omega
  ·exact h3 r hr
theorem Ro{len sz:Nat}:∀(parts:List (Nat×Value)) (cs arr:Array Value),Instr.fill ((sw len sz).toArray[·]?) cs parts=some arr->Instr.fill (fun i=>some (i*sz,sz)) cs parts=some arr:=by
 intro parts
 induction parts with
 |nil=>intro cs arr h;exact h
 |cons p parts ih=>
  intro cs arr h;obtain⟨i,v⟩:=p;simp only[Instr.fill]at h⊢;split at h
  ·cases h
  ·rename_i off size hp;have e:(off,size)=(i*sz,sz):=by
    simp only[sw,jW,bt]at hp;cases hr:(List.range len)[i]? with
    |none=>simp[hr]at hp
    |some j=>
     have hj:=(aF.1 hr)
     simp only[hr,cU,aq]at hp;have:j=i:=by have:=hj.2;simp at this;omega
     rw[<-hp,this]
   cases e;split at h
   ·cases h
   ·rename_i hc;rw[az hc];exact ih _ _ h
theorem P6{places:List (Nat×Nat)}:∀(ps:List (Nat×D)) (cells ds:aP),xu places cells ps=some ds->ds.length=cells.length:=by
 intro ps
 induction ps with
 |nil=>intro cells ds h;simp only[xu,aq]at h;rw[h]
 |cons p ps ih=>
  intro cells ds h;obtain⟨i,d⟩:=p;simp only[xu]at h;split at h
  ·split at h
   ·rename_i hc;rw[ih _ _ h];simp;omega
   ·cases h
  ·cases h
theorem zU{o:Oper}{T e sz len:Nat}{parts:Array (Nat×Operand)}{zs ds:aP}(hop:o.op=.buildSlice T len parts)
 (hT:FG P T=some (e,sz)) (hz:tz P e=some zs) (hsz:0<sz) (hsmall:len*sz<=16777216)
 (hf:xu (sw len sz) (List.replicate len zs).flatten (parts.toList.map fun p=>(p.1,st.ev p.2))=some ds) (hs:dl Γ st κ Θ a w):
 ∃(arr:Array Value) (b0:aX),(execOp a.eval o).run P w=.ok (.value (.slice (some ⟨w.heap.size,0,none⟩) len len)) (w.alloc (.cells arr e))/\fS w κ arr.toList ds b0/\(∀b∈b0,Θ b=0)/\arr.size=len*sz/\ds.length=len*sz:=by
 obtain⟨hu,_,Iv⟩:=ou hT;obtain⟨i,z,hi,yC,Oe,hlen,hone,rfl⟩:=xL hz;have CU:i.size=sz:=by rw[<-Iv];simp[zH,Program.cellsOf,hi]
 have We:=MM z.cells len;have hzero:fS w κ (madeCells z.cells (len*z.cells.size)).toList (List.replicate len (z.cells.toList.map D.SM)).flatten []:=by
  rw[We];have hcell:=(Bo (w:=w) (κ:=κ) z.cells.toList hone).pure (by
   rw[Ht,aj];intro c _;simp only[Function.comp];unfold D.SM;split<;>(try split)<;>rfl)
  exact fS.Co (hcell.rep len)
 obtain⟨arr,b0,a5F,ND,hb0⟩:=TQ hs parts.toList _ _ ds [] hzero (by simp) hf;have Ru:=Ro _ _ _ a5F;have hdl:ds.length=len*sz:=by
  rw[P6 _ _ _ hf,oX (sz:=sz) (by intro r hr;rw[Ah hr];simp[Oe,CU])];simp
 have hal:arr.size=len*sz:=by have:=ND.length;simp at this;omega
 refine⟨arr,b0,?_,ND,hb0,hal,hdl⟩;simp only[execOp,hop];by_cases h0:len*i.size=0
 ·have hl0:len=0:=by
   rw[CU]at h0;rcases Nat.mul_eq_zero.1 h0 with h|h
   ·exact h
   ·omega
  subst hl0;have hma:madeCells z.cells (0*z.cells.size)= #[]:=by simp[madeCells]
  rw[hma]at Ru;have hpe:(parts.map fun(x:Nat×Operand)=>(x.1,a.eval x.2)).toList=parts.toList.map fun p=>(p.1,a.eval p.2):=by simp
  have Zq:=Ru;rw[<-hpe,<-CU]at Zq;simp at Zq;have hr0:Array.range 0= #[]:=rfl;simp[Instr.buildSlice,run_underlying hu,sizeOf,typeInfo,hi,newRow,hr0,Zq]
 ·have hpe:(parts.map fun(x:Nat×Operand)=>(x.1,a.eval x.2)).toList=parts.toList.map fun p=>(p.1,a.eval p.2):=by simp
  have:=run_buildSlice (P:=P) w T e len (parts.map fun(x:Nat×Operand)=>(x.1,a.eval x.2)) arr i z hu hi yC (by rw[CU];omega) h0 (by
   rw[hpe,CU];have e2:(Array.range (len*sz)).map (z.cells[· %z.cells.size]!)=madeCells z.cells (len*z.cells.size):=by unfold madeCells;rw[Oe,CU]
   rw[e2];exact Ru)
  simp[this]
theorem N7{o:Oper}{T e sz len t:Nat}{parts:Array (Nat×Operand)}{zs ds es:aP}{ms:aX}(hop:o.op=.buildSlice T len parts)(hd:o.dst=some t)(hg:o.guard=none)(ht:t<Γ.nt)
 (hT:FG P T=some (e,sz)) (hz:tz P e=some zs) (hsz:0<sz) (hsmall:len*sz<=16777216)
 (hf:xu (sw len sz) (List.replicate len zs).flatten (parts.toList.map fun p=>(p.1,st.ev p.2))=some ds) (habs:JZ st.H ds=some (es,ms)) (hnd:ms.Nodup)
 (h:AO P Γ all rest Q ⟨(t,.acc st.H.length)::st.σ,kill st.H ms++[.row (zA (ds.all (U3 st.H))) e sz (chunk sz len es)]⟩):AO P Γ all (o::rest) Q st:=by
 intro κ Θ a w hs;obtain⟨arr,b0,hrun,ND,hb0,hal,hdl⟩:=zU hop hT hz hsz hsmall hf hs;obtain⟨ρ,huq⟩:=hs.tJ;obtain⟨Θ1,ρ1,hs1,hu1,hm1,NJ,UU⟩:=dl.Qi ms hs huq hnd (Pr habs);obtain⟨bs,q1,q2,q3⟩:=Ra (H:=st.H) (ρ:=ρ1) habs hnd ND (fun b hb=>NJ b (hb0 b hb)) hm1;have hel:es.length=len*sz:=by rw[<-q1.length,ND.length,hdl]
 obtain⟨c1,c2,c3⟩:=Dl sz len es hel;have hs':=hs1.newRow hu1 (u:=ds.all (U3 st.H)) (ms:=ms) (e:=e) (sz:=sz) (cap:=len) (rows:=chunk sz len es) (bs:=bs) arr hsz c3 hal (by rw[c1];exact bR _)
  (by unfold maxLen;have:len*1<=len*sz:=eN _ hsz;omega) (by rw[c1,c2,rT (by simp[hal])];exact q1) q2
  (by
   intro m hm x hH;rcases oD hH with h|⟨h,_⟩
   ·subst h;rfl
   ·exact absurd hm h) q3
 refine wpList_plain hg fun K hK=>?_
 unfold Oper.wp;rw[hrun,Oper.upon_value,hd];rw[c1,fm]at hs';refine hK _ _ (h _ _ _ _ (hs'.set (t:=t) (d:=.acc st.H.length) (bs:=[]) ht ?_ (by simp)));exact(zC.acc st.H.length _ (by simp[yD])).PT
end
end Go.Cx
namespace Go.Cx
open Go.RowKit
section
variable{P:Program}{Γ:ul}{Q:Exit->St->Prop}{st:St}{κ:Nat->Option Value}{Θ:Nat->Nat}{a:Act}{w:World}{all:Array Oper}{rest:List Oper}
theorem LA(w:World)(t ty e:TypeId)(i:TypeInfo)(ht:P.underlying t=some (.slice e))(hi:P.info? e=some i)(b:Option Addr)(n cap:Nat)(hn:n<=cap):
 (Builtin.append_ #[t,t] ty #[.slice b n cap,.slice none 0 0]).run P w=.ok (.slice b n cap) w:=by
 cases b<;>simp[Builtin.append_,run_underlying ht,sizeOf,typeInfo,hi,Builtin.lenOf,Builtin.firstCells,hn,storeCells]
structure Vi(w:World)(Θ ρ:Nat->Nat)(e sz:Nat)(v:Value)(rows:List (List D))(u1:Bool)(i1:Nat)(bs:List Nat)(cs:List Value):Prop where
 rl:∀r∈rows,r.length=sz
 own:w.ownsRow 0 e sz v rows.length cs
 rd:l6 w cs rows.flatten bs
 zero:∀b∈bs,Θ b=0
 top:∀g,v.ownBlock=some g->Θ g=i1+2
 uq:u1=true->bs.Nodup/\∀b∈bs,ρ b=i1+1
structure UC(w:World)(Θ ρ:Nat->Nat)(sz:Nat)(u:Value)(rows:List (List D))(u2:Bool)(i2:Nat)(bs:List Nat)(cs:List Value):Prop where
 rl:∀r∈rows,r.length=sz
 at_:(u=.slice none 0 0/\rows=[])\/∃ad c,u=.slice (some ad) rows.length c/\∀j x,cs[j]?=some x->w.cell? (ad.add j)=some x
 rd:l6 w cs rows.flatten bs
 zero:∀b∈bs,Θ b=0
 uq:u2=true->bs.Nodup/\∀b∈bs,ρ b=i2+1
theorem Rf{T e sz i1 i2:Nat}{v u:Value}{rows fo:List aP}{u1 u2:Bool}{b1 b2:aX}{c1 c2:bw}{ρ:Nat->Nat}{zs:aP}{ty:TypeId}(hT:FG P T=some (e,sz))(hz:tz P e=some zs)(hsz:0<sz)
 (hS:Vi w Θ ρ e sz v rows u1 i1 b1 c1) (hX:UC w Θ ρ sz u fo u2 i2 b2 c2) (h63:rows.length+fo.length<=maxLen) (hby:(rows.length+fo.length)*Yd P e<=140737488355328):
 ∃v' w',(Builtin.append_ #[T,T] ty #[v,u]).run P w=.ok v' w'/\w'.ownsRow 0 e sz v' (rows++fo).length (c1++c2)/\w.grownBy w' v.ownBlock/\(v'.ownBlock=v.ownBlock\/v'.ownBlock=some w.heap.size)/\
  l6 w (c1++c2) (rows++fo).flatten (b1++b2):=by
 obtain⟨hu,_,Iv⟩:=ou hT;obtain⟨i,z,hi,yC,Oe,hlen,hone,rfl⟩:=xL hz;have CU:i.size=sz:=by rw[<-Iv];simp[zH,Program.cellsOf,hi]
 have hib:i.bytes=Yd P e:=by simp[Yd,Program.bytesOf,hi]
 have hr:l6 w (c1++c2) (rows++fo).flatten (b1++b2):=by rw[lS];exact hS.rd.app hX.rd
 have OY:c2.length=fo.length*sz:=by rw[hX.rd.length,oX hX.rl]
 rcases hX.at_ with⟨rfl,rfl⟩|⟨ad,c,rfl,hcell⟩
 ·have hc:c2=[]:=cZ (by simpa using OY);subst hc;have hv:∃b n cap,v=.slice b n cap/\n<=cap:=by
   rcases hS.own.2 with⟨rfl,_⟩|⟨g,cap,cur,rfl,_,_,hn,_⟩
   ·exact⟨_,_,_,rfl,bR _⟩
   ·exact⟨_,_,_,rfl,hn⟩
  obtain⟨b,n,cap,rfl,hn⟩:=hv;exact⟨_,w,LA w T ty e i hu hi b n cap hn,by simpa using hS.own,⟨rfl,rfl,rfl,bR _,fun _ _ _=>rfl⟩,.inl rfl,hr⟩
 ·obtain⟨v',w',q1,q2,q3,_,q5⟩:=run_append_own_at (P:=P) w 0 T ty e i z sz (Yd P e) hu hi yC CU hib (by rw[Oe,CU]) hsz v rows.length c1 hS.own ad fo.length c c2 OY hcell hX.rd.one h63 hby (Dd _);exact⟨v',w',q1,by simpa using q2,q3,q5,hr⟩
theorem U8{o:Oper}{T e sz t:Nat}{s x:Operand}{rows fo:List aP}{zs:aP}{u:Bool}{ks:aX}(hop:o.op=.call {callee:=.builtin .append,args:= #[s,x],argTypes:= #[T,T]})
 (hd:o.dst=some t) (hg:o.guard=none) (ht:t<Γ.nt) (hT:FG P T=some (e,sz)) (hz:tz P e=some zs) (hsz:0<sz)
 (h63:rows.length+fo.length<=maxLen) (hby:(rows.length+fo.length)*Yd P e<=140737488355328)
 (hin:∀κ Θ a w ρ,dl Γ st κ Θ a w->zS Γ st.H κ Θ w ρ->∃u1 u2 i1 i2 b1 b2 c1 c2,Vi w Θ ρ e sz (a.eval s) rows u1 i1 b1 c1/\UC w Θ ρ sz (a.eval x) fo u2 i2 b2 c2/\
  (i1∈ks\/i1=st.H.length)/\(u=true->u1=true/\u2=true/\(b2=[]\/(i2∈ks/\i1≠i2))))
 (h:AO P Γ all rest Q ⟨(t,.acc st.H.length)::st.σ,kill st.H ks++[.row (zA u) e sz (rows++fo)]⟩):AO P Γ all (o::rest) Q st:=by
 intro κ Θ a w hs;obtain⟨ρ,hu⟩:=hs.tJ;obtain⟨u1,u2,i1,i2,b1,b2,c1,c2,hS,hX,hi1,hq⟩:=hin κ Θ a w ρ hs hu;obtain⟨v',w',hrun,hown,hgr,LH,hrd⟩:=Rf (P:=P) (ty:=o.type) hT hz hsz hS hX h63 hby;refine wpList_plain hg fun K hK=>?_
 have QV:(execOp a.eval o).run P w=.ok (.value v') w':=by
  simp only[execOp,hop,resolve,invoke,builtin,Sem.run_bind,Sem.run_pure,Result.andThen_ok,oZ,av,bZ,hrun]
 unfold Oper.wp;rw[QV,Oper.upon_value,hd];let id:=st.H.length
 let Θ':Nat->Nat:=fun b=>if some b=v'.ownBlock then id+2 else Θ b
 have Z5:∀g,v'.ownBlock=some g->Θ g=i1+2\/g=w.heap.size:=by
  intro g US;rcases LH with h|h
  ·exact .inl (hS.top g (h▸US))
  ·rw[h]at US;cases US;exact .inr rfl
 have hnew:Θ w.heap.size=0:=by
  cases h0:Θ w.heap.size with
  |zero=>rfl
  |succ n=>exact absurd (hs.own w.heap.size (by omega)) (by omega)
 have k:iy w w' Θ Θ' (i1+2):=by
  refine⟨by omega,hgr.os,hgr.tape,hgr.output,hgr.size,fun b hb hne=>hgr.block b hb (fun e=>hne (hS.top b e.symm)),fun b hb hne=>?_,fun b hb=>?_⟩
  ·simp only[Θ'];rw[az];intro e;rcases Z5 b e.symm with h|h
   ·exact hne h
   ·omega
  ·simp only[Θ']at hb;split at hb
   ·rename_i e;exact(hown.lt b e.symm).2
   ·exact dS (hs.own b hb) hgr.size
 have hm:∀b,2<=Θ' b->yH Γ b:=by
  intro b hb;simp only[Θ']at hb;split at hb
  ·rename_i e;rcases Z5 b e.symm with h|h
   ·exact hs.mine b (by omega)
   ·exact .inl (by rw[h];exact hs.base)
  ·exact hs.mine b hb
 have hn:=xQ (hs.pK id (bR _)) (some v');have hv1:v'.oneCell'=true:=by
  rcases hown.2 with⟨rfl,_⟩|⟨g,cap,cur,rfl,_⟩<;>rfl
 have yC:∀b∈b1++b2,Θ b=0:=by
  intro b hb;rcases af.1 hb with hb|hb
  ·exact hS.zero b hb
  ·exact hX.zero b hb
 obtain⟨M6,Mw⟩:=l6.over k hrd yC;have hrl:∀r∈rows++fo,r.length=sz:=by
  intro r hr;rcases af.1 hr with hr|hr
  ·exact hS.rl r hr
  ·exact hX.rl r hr
 have Ed:∀g,v'.ownBlock=some g->Θ' g=id+2:=fun g US=>by simp only[Θ'];rw[bK US.symm]
 have key:∀(j:Nat) y,(kill st.H ks++[.row (zA u) e sz (rows++fo)])[j]?=some y->(j=id/\y=.row (zA u) e sz (rows++fo))\/(j≠id/\(y=.gone\/(j∉ks/\st.H[j]?=some y))):=by
  intro j y hj;rcases Bp j y hj with⟨h1,h2⟩|⟨h1,h2⟩
  ·rw[fm]at h1;exact .inl ⟨h1,h2⟩
  ·rw[fm]at h1;exact .inr ⟨h1,oD h2⟩
 have hne:∀(j:Nat) y,j∉ks->st.H[j]?=some y->j+2≠i1+2:=by
  intro j y hj hy;have:=(aF.1 hy).1;rcases hi1 with h|h
  ·intro e;exact hj (by
    have:j=i1:=by omega
    rw[this];exact h)
  ·omega
 have tI:=hs.oF k hn hu;let ρ':Nat->Nat:=fun b=>if u=true/\(b∈b1\/b∈b2)then id+1 else ρ b
 have hold:∀(j:Nat) y,j∉ks->st.H[j]?=some y->∀b,ρ b=j+1->ρ' b=j+1:=by
  intro j y hjk hy b hb;simp only[ρ'];rw[az]
  ·exact hb
  ·rintro⟨wS,hmem⟩;obtain⟨p1,p2,p3⟩:=hq wS;rcases hmem with h|h
   ·have:=(hS.uq p1).2 b h;exact hne j _ hjk hy (by omega)
   ·have:=(hX.uq p2).2 b h;rcases p3 with h0|⟨h0,_⟩
    ·rw[h0]at h;cases h
    ·have:j=i2:=by omega
     subst this;exact hjk h0
 have hU:zS Γ (kill st.H ks++[.row (zA u) e sz (rows++fo)]) (yD κ id (some v')) Θ' w' ρ':=by
  refine⟨fun b hb=>?_,fun j e' sz' dN hj=>?_,fun j x hj=>?_⟩
  ·simp only[ρ']at hb;split at hb
   ·rename_i hc;obtain⟨wS,hmem⟩:=hc;obtain⟨q1,q2,q3⟩:=hq wS;rcases hmem with h|h
    ·exact tI.1 b (by rw[(hS.uq q1).2 b h];omega)
    ·exact tI.1 b (by rw[(hX.uq q2).2 b h];omega)
   ·exact tI.1 b hb
  ·rcases key j _ hj with⟨rfl,hy⟩|⟨_,hy|⟨hjk,hy⟩⟩
   ·cases wS:u with
    |false=>rw[wS]at hy;simp[zA]at hy
    |true=>
     rw[wS]at hy;simp only[zA,Ob.row.injEq,sA]at hy;obtain⟨rfl,rfl,rfl⟩:=hy;obtain⟨q1,q2,q3⟩:=hq wS;refine⟨v',c1++c2,b1++b2,lP _ _ _,hown,M6,?_,fun b hb=>?_⟩
     ·obtain⟨n1,r1⟩:=hS.uq q1;obtain⟨n2,r2⟩:=hX.uq q2;refine bM.2 ⟨n1,n2,fun y hy z hz hyz=>?_⟩;subst hyz;rcases q3 with h|⟨_,h⟩
      ·rw[h]at hz;cases hz
      ·have:=r1 y hy;have:=r2 y hz;omega
     ·simp only[ρ'];rw[bK ⟨wS,af.1 hb⟩]
   ·cases hy
   ·obtain⟨v2,cs,bs,q1,q2,q3,q4,q5⟩:=tI.2.1 j e' sz' dN (hne j _ hjk hy) hy;exact⟨v2,cs,bs,q1,q2,q3,q4,fun b hb=>hold j _ hjk hy b (q5 b hb)⟩
  ·rcases key j _ hj with⟨rfl,hy⟩|⟨_,hy|⟨hjk,hy⟩⟩
   ·subst hy;exact KO.xF (Ob.Qj _ _ _ _)
   ·subst hy;trivial
   ·exact(tI.2.2 j x (hne j _ hjk hy) hy).re fun b hb=>hold j _ hjk hy b hb
 have hs':dl Γ ⟨st.σ,kill st.H ks++[.row (zA u) e sz (rows++fo)]⟩ (yD κ id (some v')) Θ' a w':=by
  refine hs.step k hm hn ?_ ?_ ?_ ⟨ρ',hU⟩
  ·intro i hi;simp only[bC,aV,br,fm]at hi;unfold yD;rw[az (by omega)];exact hs.pK i (by omega)
  ·intro i y hy;unfold yD at hy;split at hy
   ·cases hy;exact hv1
   ·exact hs.oM i y hy
  ·intro j y hj;rcases key j y hj with⟨rfl,rfl⟩|⟨_,hy|⟨hjk,hy⟩⟩
   ·exact .inr (.inr ⟨hsz,hrl,v',_,_,lP _ _ _,hown,M6,Ed,by cases u<;>exact Mw⟩)
   ·exact .inl hy
   ·exact .inr (.inl ⟨hne j y hjk hy,hy⟩)
 refine hK _ _ (h _ _ _ _ (hs'.set (t:=t) (d:=.acc id) (bs:=[]) ht ?_ (by simp)));exact(zC.acc id _ (lP _ _ _)).PT
def D.p9(rows:List aP):Bool:=rows.all fun r=>r.all D.flat
theorem l6.flat{vs:bw}{ds:aP}{bs:aX}(h:l6 w vs ds bs)(hf:ds.all D.flat=true):bs=[]:=by
 induction ds generalizing vs bs with
 |nil=>cases h;rfl
 |cons d ds ih=>
  simp only[dW,aS]at hf;cases h with
  |cons v vs _ _ b1 b2 h1 h2 h3=>rw[h2.flat hf.1,ih h3 hf.2];rfl
theorem Vr{e sz i1:Nat}{ρ:Nat->Nat}:Vi w Θ ρ e sz (.slice none 0 0) [] true i1 [] []:=
 ⟨by simp,World.ownsRow_nil w 0 e sz,.nil,by simp,by simp[Value.ownBlock],by simp⟩
theorem I0{ρ:Nat->Nat}(hs:dl Γ st κ Θ a w)(hu:zS Γ st.H κ Θ w ρ){id e sz:Nat}{k:RK}{rows:List aP}{v:Value}(hk:κ id=some v)(hH:st.H[id]?=some (.row k e sz rows))(ho:k.P5=true):
 ∃bs cs,Vi w Θ ρ e sz v rows (match k with| .uq=>true|_=>false) id bs cs:=by
 obtain⟨_,hrl,v2,cs,bs,hk2,hown,sv,hΘ,hz⟩:=hs.ob id _ hH;rw[hk]at hk2;cases hk2;cases k with
 |cl=>simp[RK.P5]at ho
 |sh=>exact⟨bs,cs,hrl,hown,sv,hz,hΘ,by simp⟩
 |mv n=>exact⟨bs,cs,hrl,hown,sv,hz,hΘ,by simp⟩
 |uq=>
  obtain⟨v2,c2,b2,q1,q2,q3,q4,q5⟩:=hu.rows id e sz rows hH;rw[hk]at q1;cases q1;exact⟨b2,c2,hrl,q2,q3,fun b hb=>(hu.free b (by rw[q5 b hb];omega)).1,hΘ,fun _=>⟨q4,q5⟩⟩
theorem Pv{ρ:Nat->Nat}(hs:dl Γ st κ Θ a w)(hu:zS Γ st.H κ Θ w ρ){id e sz:Nat}{k:RK}{rows:List aP}{v:Value}(hk:κ id=some v)(hH:st.H[id]?=some (.row k e sz rows))(ho:k.P5=true):
 ∃bs cs,UC w Θ ρ sz v rows (match k with| .uq=>true|_=>false) id bs cs:=by
 obtain⟨bs,cs,h⟩:=I0 hs hu hk hH ho;refine⟨bs,cs,h.rl,?_,h.rd,h.zero,h.uq⟩;rcases h.own.2 with⟨rfl,hn⟩|⟨g,cap,cur,rfl,_⟩
 ·exact .inl ⟨rfl,cZ hn⟩
 ·exact .inr ⟨_,cap,rfl,h.own.cells (g:=g) (by simp[Value.ownBlock])⟩
theorem Vs{sz i2:Nat}{ρ:Nat->Nat}:UC w Θ ρ sz (.slice none 0 0) [] true i2 [] []:=
 ⟨by simp,.inl ⟨rfl,rfl⟩,.nil,by simp,by simp⟩
theorem ZO{ρ:Nat->Nat}{v:Value}{rows:List aP}{bs:aX}{sz:Nat}(h:Rd w v (.sl rows) bs)(hz:∀b∈bs,Θ b=0)(hrl:∀r∈rows,r.length=sz)(i2:Nat)(fl:Bool)(hf:fl=true->D.p9 rows=true):
 ∃b2 cs,UC w Θ ρ sz v rows fl i2 b2 cs/\(fl=true->b2=[]):=by
 cases h with
 |yp=>exact⟨[],[],⟨by simp,.inl ⟨rfl,rfl⟩,.nil,by simp,by simp⟩,by simp⟩
 |oO ad cap hc=>exact⟨[],[],⟨by simp,.inr ⟨ad,cap,rfl,by simp⟩,.nil,by simp,by simp⟩,by simp⟩
 |sl b off cap sz' _ cs bs' h0 h1 h2 h3 h4 h5=>
  have hfl:fl=true->bs'=[]:=fun e=>h5.flat (by
   have:=hf e;unfold D.p9 at this;rw[aj]at this⊢;intro d hd;obtain⟨r,hr,Hr⟩:=gC.1 hd;exact aj.1 (this r hr) d Hr)
  refine⟨bs',cs,⟨hrl,.inr ⟨_,cap,rfl,fun j x hj=>?_⟩,h5,fun y hy=>hz y (by simp[hy]),fun e=>by rw[hfl e];simp⟩,hfl⟩;have:=h4 j x hj;simpa[Addr.add_lit]using this
end
end Go.Cx
namespace Go.Cx
open Go.RowKit
section
variable{P:Program}{Γ:ul}{Q:Exit->St->Prop}{st:St}{κ:Nat->Option Value}{Θ:Nat->Nat}{a:Act}{w:World}{all:Array Oper}{rest:List Oper}
theorem gM{H:bW}{ms:aX}{j:Nat}(h:j∉ms):(kill H ms)[j]?=H[j]?:=by
 induction ms generalizing H with
 |nil=>rfl
 |cons m ms ih=>
  simp only[bB,yF]at h;simp only[kill];rw[ih h.2,cE (fun e=>h.1 e.symm)]
def RK.after(k:RK)(b:Bool):RK:=match k with
 | .uq=>zA b
 | .mv _=>.sh
 |k=>k
theorem RK.UF(k:RK)(b:Bool)(e:TypeId)(sz:Nat)(rows:List aP):(Ob.row (k.after b) e sz rows).mvB=false:=by cases k<;>cases b<;>rfl
theorem Pg{o:Oper}{T id i sz off e:Nat}{k0:RK}{x y:Operand}{rows:List aP}{row ds es:aP}{ms:aX}(hop:o.op=.store T x y)(hd:o.dst=none)(hg:o.guard=none)
 (hx:st.ev x=.op id i sz off) (hH:st.H[id]?=some (.row k0 e sz rows)) (hk0:k0.P5=true) (hrow:rows[i]?=some row) (hc:(st.ev y).cellsOf=some ds) (habs:JZ st.H ds=some (es,ms)) (hnd:ms.Nodup) (hid:id∉ms)
 (hT:PS P T=true) (hl:ds.length=zH P T) (hfit:off+ds.length<=sz)
 (h:AO P Γ all rest Q ⟨st.σ,(kill st.H ms).set id (.row (k0.after (ds.all (U3 st.H))) e sz (rows.set i (row.take off++es++row.drop (off+ds.length))))⟩):AO P Γ all (o::rest) Q st:=by
 intro κ Θ0 a w hs0;obtain⟨b1,r1,_⟩:=hs0.ev x;obtain⟨b20,r2,a99⟩:=hs0.ev y;rw[hx]at r1;obtain⟨g,o0,len,cap,hk,hv⟩:=r1.En;have hcv:=BG hs0.oM r2 hc;obtain⟨ρ0,Zw⟩:=hs0.tJ;obtain⟨Θ,ρ,hs,hu,hm1,NJ,UU⟩:=dl.Qi ms hs0 Zw hnd (Pr habs);obtain⟨b2,hcp,Wv,Hs⟩:=Ra (H:=st.H) (ρ:=ρ) habs hnd hcv (fun b hb=>NJ b (a99 b hb)) hm1;have Mu:(kill st.H ms)[id]?=some (.row k0 e sz rows):=by rw[gM hid];exact hH
 obtain⟨bs,cs,hA⟩:=I0 hs hu hk Mu hk0;have hrl:=hA.rl;have hown:=hA.own;have Z1:=Ca hown;subst Z1;rw[cY]at hv;have sv:=hA.rd;have hsz:0<sz:=by
  obtain⟨hsz,_⟩:=hs.ob id _ Mu;exact hsz
 rcases hown.2 with⟨uO,_⟩|⟨g',cap2,cur,hkv,hb,Oa,hnc,hcm,hcs,QW⟩
 ·cases uO
 ·cases hkv;have Og:=hA.top g (by simp[Value.ownBlock]);have hl1:=hcv.length;have hle:es.length=ds.length:=by rw[<-hcp.length,hl1]
  have hilt:i<rows.length:=(aF.1 hrow).1;have a2t:(i+1)*sz<=rows.length*sz:=dh _ hilt;have aBO:rows.length*sz<=cap*sz:=dh _ hnc;rw[k9,nE]at a2t;have a38:(a.eval y).cells.size=zH P T:=by rw[<-hl,<-hl1];simp
  have aBY:(a.eval y).cells.size=ds.length:=by rw[<-hl1];simp
  have hst:=Et (P:=P) (T:=T) (off:=i*sz+off) Oa a38 (eT.1 hT) (by omega) hcv.one;have k:=iy.setRow hs (g:=g) (cs:=(cur.toList.take (i*sz+off)++(a.eval y).cells.toList++cur.toList.drop (i*sz+off+(a.eval y).cells.toList.length)).toArray) (tag:=id+2) (by omega) Og;refine wpList_plain hg fun K hK=>?_
  unfold Oper.wp;have hrun:(execOp a.eval o).run P w=.ok .skip (w.setRow g (cur.toList.take (i*sz+off)++(a.eval y).cells.toList++cur.toList.drop (i*sz+off+(a.eval y).cells.toList.length)).toArray):=by
   simp only[execOp,hop,hv];simp[hst]
  rw[hrun,Oper.upon_skip,hd];have hfl:=oX hrl;have e0:rows.flatten=rows.flatten.take (i*sz+off)++((rows.flatten.drop (i*sz+off)).take ds.length++(rows.flatten.drop (i*sz+off)).drop ds.length):=by rw[cD,cD]
  rw[e0]at sv;obtain⟨v1,v2,c1,c2,M7,Eb,k1,k2⟩:=sv.split;obtain⟨v3,v4,c3,c4,rfl,rfl,k3,k4⟩:=k2.split;have l1:v1.length=i*sz+off:=by rw[k1.length,cQ];omega
  have l3:v3.length=ds.length:=by rw[k3.length,cQ,wv];omega
  rw[gm]at k4;have hnew:=(k1.app hcp).app k4;have Mw:∀b∈((c1++b2)++c4),Θ b=0:=by
   intro b hb;simp only[af]at hb;rcases hb with(hb|hb)|hb
   ·exact hA.zero b (by rw[Eb];simp[hb])
   ·exact Wv b hb
   ·exact hA.zero b (by rw[Eb];simp[hb])
  obtain⟨n1,n2⟩:=l6.over k hnew Mw;have hfs:=EX (ds:=es) (off:=off) hrl hrow (by omega);rw[hle]at hfs;rw[<-hfs]at n1;have WT:cs.length=rows.length*sz:=hown.1;have a5D:cur.toList=v1++(v3++(v4++cur.toList.drop (rows.length*sz))):=by
   have:cur.toList=cs++cur.toList.drop (rows.length*sz):=by rw[<-QW,cD]
   rw[M7]at this;simpa using this
  have t1:cur.toList.take (i*sz+off)=v1:=by rw[a5D];exact ig l1
  have t2:cur.toList.drop (i*sz+off+(a.eval y).cells.toList.length)=v4++cur.toList.drop (rows.length*sz):=by
   rw[hl1,<-gm]
   conv=>lhs;rw[a5D]
   rw[fy l1,fy l3]
  have hl4:(v1++(a.eval y).cells.toList++v4).length=rows.length*sz:=by
   have:=WT;rw[M7]at this;simp only[bC]at this⊢;omega
  have It:(w.setRow g (cur.toList.take (i*sz+off)++(a.eval y).cells.toList++cur.toList.drop (i*sz+off+(a.eval y).cells.toList.length)).toArray).ownsRow 0 e sz (.slice (some ⟨g,0,none⟩) rows.length cap)
   (rows.set i (row.take off++es++row.drop (off+ds.length))).length (v1++(a.eval y).cells.toList++v4):=by
   refine⟨by simpa using hl4,.inr ⟨g,cap,_,by simp,hb,setRow_heap w g cur _ e _ Oa,by simpa using hnc,hcm,?_,?_⟩⟩
   ·simp only[AQ,bC,cQ,wv,uc];omega
   ·rw[t1,t2];simp only[pL];rw[<-cu];exact ig hl4
  have L6:∀r∈rows.set i (row.take off++es++row.drop (off+ds.length)),r.length=sz:=by
   intro r hr;rcases uW hr with hr|rfl
   ·exact hrl r hr
   ·have:=hrl row (aE hrow);simp;omega
  have Ed:∀g2,(Value.slice (some ⟨g,0,none⟩) rows.length cap).ownBlock=some g2->Θ g2=id+2:=by
   intro g2 hg2;simp only[Value.ownBlock,aq]at hg2;subst hg2;exact Og
  refine hK _ _ (h _ _ _ _ (hs.put ms zB (fun _ _ h=>h) (fun i hi=>hs.pK i (by simpa using hi)) hs.oM k hs.mine ?_ hu ?_ ?_ (RK.UF _ _ _ _ _)))
  ·refine⟨hsz,L6,_,_,_,hk,It,n1,Ed,?_⟩;cases k0 with
   |cl=>simp[RK.P5]at hk0
   |sh=>exact n2
   |mv n=>exact n2
   |uq=>simp only[RK.after];cases(ds.all (U3 st.H))<;>exact n2
  ·intro m hm x _ DS;rcases oD DS with h|⟨h,_⟩
   ·subst h;rfl
   ·exact absurd hm h
  ·intro e' sz' dN he;cases k0 with
   |cl=>simp[RK.P5]at hk0
   |sh=>simp[RK.after]at he
   |mv n=>simp[RK.after]at he
   |uq=>
    simp only[RK.after]at he;cases hq:ds.all (U3 st.H)with
    |false=>rw[hq]at he;simp[zA]at he
    |true=>
     rw[hq]at he;simp only[zA,Ob.row.injEq,sA]at he;obtain⟨rfl,rfl,rfl⟩:=he;obtain⟨q1,q2⟩:=Hs hq;obtain⟨p1,p2⟩:=hA.uq rfl;rw[Eb]at p1 p2;obtain⟨m1,m2,m3⟩:=bM.1 p1;obtain⟨m4,m5,m6⟩:=bM.1 m2;refine⟨_,_,_,hk,It,n1,?_,fun b hb=>?_⟩
     ·refine bM.2 ⟨bM.2 ⟨m1,q1,fun x hx y hy e=>?_⟩,m5,fun x hx y hy e=>?_⟩
      ·subst e;obtain⟨m,hm,he⟩:=q2 x hy;have:=p2 x (by simp[hx]);exact hid (by
        have:id=m:=by omega
        rw[this];exact hm)
      ·subst e;rcases af.1 hx with hx|hx
       ·exact m3 x hx x (by simp[hy]) rfl
       ·obtain⟨m,hm,he⟩:=q2 x hx;have:=p2 x (by simp[hy]);exact hid (by
         have:id=m:=by omega
         rw[this];exact hm)
     ·simp only[af]at hb;rcases hb with(hb|hb)|hb
      ·exact .inl (p2 b (by simp[hb]))
      ·exact .inr (q2 b hb)
      ·exact .inl (p2 b (by simp[hb]))
end
end Go.Cx
namespace Go.Cx
open Go.RowKit
inductive T0(w:World):List Value->List D->List Nat->Prop
 |nil:T0 w [] [] []
 |cons (v:Value) (vs:bw) (d:D) (ds:aP) (b1 b2:aX):Rd w v d b1->T0 w vs ds b2->T0 w (v::vs) (d::ds) (b1++b2)
inductive FI(w:World):Value->D->List Nat->List Nat->List Nat->Prop
 |pure {v:Value} {d:D} {bs:aX}:Rd w v d bs->FI w v d bs [] []
 |fr (v:Value) (e sz:Nat) (rows:List aP) (cs:bw) (ns:aX):0<sz->(∀r∈rows,r.length=sz)->w.ownsRow 0 e sz v rows.length cs->l6 w cs rows.flatten ns->v.oneCell'=true->
  FI w v (.fr e sz rows) [] v.ownBlock.toList (v.ownBlock.toList++ns)
inductive tW(w:World):List Value->List D->List Nat->List Nat->List Nat->Prop
 |nil:tW w [] [] [] [] []
 |cons (v:Value) (vs:bw) (d:D) (ds:aP) (b1 b2 t1 t2 u1 u2:aX):v.oneCell'=true->FI w v d b1 t1 u1->tW w vs ds b2 t2 u2->tW w (v::vs) (d::ds) (b1++b2) (t1++t2) (u1++u2)
inductive FJ(w:World):Value->D->List Nat->List Nat->List Nat->Prop
 |cell {v:Value} {d:D} {bs ts us:aX}:FI w v d bs ts us->FJ w v d bs ts us
 |agg (cs:bw) (ds:aP) (bs ts us:aX):tW w cs ds bs ts us->FJ w (.agg cs.toArray) (.agg ds) bs ts us
inductive AS(w:World):List Value->List D->List Nat->List Nat->List Nat->Prop
 |nil:AS w [] [] [] [] []
 |cons (v:Value) (vs:bw) (d:D) (ds:aP) (b1 b2 t1 t2 u1 u2:aX):FJ w v d b1 t1 u1->AS w vs ds b2 t2 u2->AS w (v::vs) (d::ds) (b1++b2) (t1++t2) (u1++u2)
inductive zQ(w:World):Value->D->List Nat->List Nat->List Nat->Prop
 |v {v:Value} {d:D} {bs ts us:aX}:FJ w v d bs ts us->zQ w v d bs ts us
 |iE (vs:bw) (ds:aP) (bs ts us:aX):AS w vs ds bs ts us->zQ w (.tuple vs.toArray) (.iE ds) bs ts us
def Good(P:Program)(f:FuncId)(ds:aP)(d:D):Prop:=
 (∃fn,P.funcs[f]?=some fn/\fn.body.isSome=true/\(fn.name== "runtime.NumGoroutine")=false)/\
 ∀(w:World) (Θ:Nat->Nat) (args:bw) (bs:aX),N9 w (fun _=>False)->T0 w args ds bs->(∀b∈bs,Θ b=0)->(∀b,Θ b≠0->b<w.heap.size)->(∀b,Θ b<=1)->
  Calls P f args.toArray w (fun e w'=>∃v bs' ts us,e=.returned v/\Below w.heap.size w w'/\zQ w' v d bs' ts us/\(∀b∈bs',b<w.heap.size->Θ b=0)/\(∀b∈bs',b∉ts)/\us.Nodup/\
   (∀b∈us,w.heap.size<=b/\Wr w' b)/\∀b∈ts,b∈us)
def Cn(n:Nat)(d:D):D×bW:=match d with
 | .fr e sz rows=>(.acc n,[.row .uq e sz rows])
 |d=>(d,[])
def nM(n:Nat):aP->aP×bW
 | []=>([],[])
 |d::ds=>((Cn n d).1::(nM (n+(Cn n d).2.length) ds).1,(Cn n d).2++(nM (n+(Cn n d).2.length) ds).2)
def Bk(n:Nat)(d:D):D×bW:=match d with
 | .agg cs=>(.agg (nM n cs).1,(nM n cs).2)
 |d=>Cn n d
def zz(n:Nat):aP->aP×bW
 | []=>([],[])
 |d::ds=>((Bk n d).1::(zz (n+(Bk n d).2.length) ds).1,(Bk n d).2++(zz (n+(Bk n d).2.length) ds).2)
def oC(n:Nat)(d:D):D×bW:=match d with
 | .iE vs=>(.iE (zz n vs).1,(zz n vs).2)
 |d=>Bk n d
structure Fs where
 v:Value
 e:Nat
 sz:Nat
 rows:List aP
 cs:bw
 ns:aX
def Fs.ob(x:Fs):Ob:=.row .uq x.e x.sz x.rows
def Fs.ok(w:World)(x:Fs):Prop:=0<x.sz/\(∀r∈x.rows,r.length=x.sz)/\w.ownsRow 0 x.e x.sz x.v x.rows.length x.cs/\l6 w x.cs x.rows.flatten x.ns/\x.v.oneCell'=true
def Fs.bl(x:Fs):aX:=x.v.ownBlock.toList++x.ns
def Fs.ts(x:Fs):aX:=x.v.ownBlock.toList
section
variable{P:Program}{Γ:ul}{Q:Exit->St->Prop}{st:St}{κ κ':Nat->Option Value}{Θ Θ':Nat->Nat}{a:Act}{w w':World}{all:Array Oper}{rest:List Oper}
def Names(κ:Nat->Option Value)(n:Nat)(L:List Fs):Prop:=∀(i:Nat) x,L[i]?=some x->κ (n+i)=some x.v
theorem Names.left{n:Nat}{L1 L2:List Fs}(h:Names κ n (L1++L2)):Names κ n L1:=fun i x hx=>h i x (by
 rw[au (aF.1 hx).1];exact hx)
theorem Names.right{n:Nat}{L1 L2:List Fs}(h:Names κ n (L1++L2)):Names κ (n+L1.length) L2:=fun i x hx=>by
 have:=h (L1.length+i) x (by rw[bA (by omega)];simpa using hx);rw[<-this];congr 1;omega
theorem FI.inst{v:Value}{d:D}{bs ts us:aX}(h:FI w v d bs ts us)(n:Nat):
 ∃L:List Fs,L.map Fs.ob=(Cn n d).2/\(∀x∈L,x.ok w)/\us=L.flatMap Fs.bl/\ts=L.flatMap Fs.ts/\∀κ,Names κ n L->zC w κ v (Cn n d).1 bs:=by
 cases h with
 |pure h=>
  have e:Cn n d=(d,[]):=by cases h<;>rfl
  rw[e];exact⟨[],rfl,by simp,rfl,rfl,fun κ _=>.pure h⟩
 |fr e sz rows cs ns h1 h2 h3 h4 h5=>
  refine⟨[⟨v,e,sz,rows,cs,ns⟩],rfl,?_,by simp[Fs.bl],by simp[Fs.ts],fun κ hk=>?_⟩
  ·intro x hx;simp at hx;subst hx;exact⟨h1,h2,h3,h4,h5⟩
  ·exact .acc n v (by simpa using hk 0 _ rfl)
theorem tW.inst{vs:bw}{ds:aP}{bs ts us:aX}(h:tW w vs ds bs ts us)(n:Nat):
 ∃L:List Fs,L.map Fs.ob=(nM n ds).2/\(∀x∈L,x.ok w)/\us=L.flatMap Fs.bl/\ts=L.flatMap Fs.ts/\∀κ,Names κ n L->fS w κ vs (nM n ds).1 bs:=by
 induction h generalizing n with
 |nil=>exact⟨[],rfl,by simp,rfl,rfl,fun κ _=>.nil⟩
 |cons v vs d ds b1 b2 t1 t2 u1 u2 h1 h2 _ ih=>
  obtain⟨L1,q1,q2,q3,q4,q5⟩:=h2.inst n;obtain⟨L2,p1,p2,p3,p4,p5⟩:=ih (n+(Cn n d).2.length);have hl:L1.length=(Cn n d).2.length:=by rw[<-q1];simp
  refine⟨L1++L2,by simp[nM,q1,p1],?_,by simp[q3,p3],by simp[q4,p4],fun κ hk=>?_⟩
  ·intro x hx;rcases af.1 hx with hx|hx
   ·exact q2 x hx
   ·exact p2 x hx
  ·refine .cons _ _ _ _ _ _ h1 (q5 κ hk.left) (p5 κ ?_);rw[<-hl];exact hk.right
theorem FJ.inst{v:Value}{d:D}{bs ts us:aX}(h:FJ w v d bs ts us)(n:Nat):
 ∃L:List Fs,L.map Fs.ob=(Bk n d).2/\(∀x∈L,x.ok w)/\us=L.flatMap Fs.bl/\ts=L.flatMap Fs.ts/\∀κ,Names κ n L->LV w κ v (Bk n d).1 bs:=by
 cases h with
 |cell h=>
  by_cases tO:∃ds,d=.agg ds
  ·obtain⟨ds,rfl⟩:=tO;cases h with
   |pure h=>
    cases h with
    |agg cs _ _ h=>
     have:∀(vs:bw) (es:aP) (b:aX),l6 w vs es b->∀n,(nM n es).1=es/\(nM n es).2=[]:=by
      intro vs es
      induction es generalizing vs with
      |nil=>intro b _ n;exact⟨rfl,rfl⟩
      |cons e es ih=>
       intro b hh n;cases hh with
       |cons v vs _ _ b1 b2 _ h2 h3=>
        have e1:Cn n e=(e,[]):=by cases h2<;>rfl
        have:=ih vs b2 h3 n;simp[nM,e1,this]
     obtain⟨e1,e2⟩:=this _ _ _ h n;refine⟨[],by simp[Bk,e2],by simp,rfl,rfl,fun κ _=>?_⟩;simp only[Bk,e1];exact .agg _ _ _ (fS.Co h)
  ·have e:Bk n d=Cn n d:=by cases d<;>first|rfl|exact absurd ⟨_,rfl⟩ tO
   rw[e];obtain⟨L,q1,q2,q3,q4,q5⟩:=h.inst n;exact⟨L,q1,q2,q3,q4,fun κ hk=>.cell (q5 κ hk)⟩
 |agg cs ds bs ts us h=>
  obtain⟨L,q1,q2,q3,q4,q5⟩:=h.inst n;exact⟨L,q1,q2,q3,q4,fun κ hk=>.agg _ _ _ (q5 κ hk)⟩
theorem AS.inst{vs:bw}{ds:aP}{bs ts us:aX}(h:AS w vs ds bs ts us)(n:Nat):
 ∃L:List Fs,L.map Fs.ob=(zz n ds).2/\(∀x∈L,x.ok w)/\us=L.flatMap Fs.bl/\ts=L.flatMap Fs.ts/\∀κ,Names κ n L->C3 w κ vs (zz n ds).1 bs:=by
 induction h generalizing n with
 |nil=>exact⟨[],rfl,by simp,rfl,rfl,fun κ _=>.nil⟩
 |cons v vs d ds b1 b2 t1 t2 u1 u2 h2 _ ih=>
  obtain⟨L1,q1,q2,q3,q4,q5⟩:=h2.inst n;obtain⟨L2,p1,p2,p3,p4,p5⟩:=ih (n+(Bk n d).2.length);have hl:L1.length=(Bk n d).2.length:=by rw[<-q1];simp
  refine⟨L1++L2,by simp[zz,q1,p1],?_,by simp[q3,p3],by simp[q4,p4],fun κ hk=>?_⟩
  ·intro x hx;rcases af.1 hx with hx|hx
   ·exact q2 x hx
   ·exact p2 x hx
  ·refine .cons _ _ _ _ _ _ (q5 κ hk.left) (p5 κ ?_);rw[<-hl];exact hk.right
theorem zQ.inst{v:Value}{d:D}{bs ts us:aX}(h:zQ w v d bs ts us)(n:Nat):
 ∃L:List Fs,L.map Fs.ob=(oC n d).2/\(∀x∈L,x.ok w)/\us=L.flatMap Fs.bl/\ts=L.flatMap Fs.ts/\∀κ,Names κ n L->rW w κ v (oC n d).1 bs:=by
 cases h with
 |v h=>
  have hnt:∀vs,d≠ .iE vs:=by
   intro vs e;subst e;cases h with
   |cell h=>cases h with|pure h=>cases h
  have e:oC n d=Bk n d:=by cases d<;>first|rfl|exact absurd rfl (hnt _)
  rw[e];obtain⟨L,q1,q2,q3,q4,q5⟩:=h.inst n;exact⟨L,q1,q2,q3,q4,fun κ hk=>.v (q5 κ hk)⟩
 |iE vs ds bs ts us h=>
  obtain⟨L,q1,q2,q3,q4,q5⟩:=h.inst n;exact⟨L,q1,q2,q3,q4,fun κ hk=>.iE _ _ _ (q5 κ hk)⟩
theorem Po{v:Value}{d:D}{bs ts us:aX}(h:FI w v d bs ts us):∀b∈ts,Wr w b:=by
 cases h with
 |pure=>simp
 |fr e sz rows cs ns h1 h2 h3 h4 h5=>
  intro b hb;simp only[kz]at hb;rcases h3.2 with⟨rfl,_⟩|⟨g,cap,cur,rfl,_,hg,_⟩
  ·simp[Value.ownBlock]at hb
  ·simp[Value.ownBlock]at hb;subst hb;exact⟨_,_,hg⟩
theorem UD{vs:bw}{ds:aP}{bs ts us:aX}(h:tW w vs ds bs ts us):∀b∈ts,Wr w b:=by
 induction h with
 |nil=>simp
 |cons v vs d ds b1 b2 t1 t2 u1 u2 h1 h2 _ ih=>
  intro b hb;rcases af.1 hb with hb|hb
  ·exact Po h2 b hb
  ·exact ih b hb
theorem LX{v:Value}{d:D}{bs ts us:aX}(h:FJ w v d bs ts us):∀b∈ts,Wr w b:=by
 cases h with
 |cell h=>exact Po h
 |agg cs ds bs ts us h=>exact UD h
theorem JX{vs:bw}{ds:aP}{bs ts us:aX}(h:AS w vs ds bs ts us):∀b∈ts,Wr w b:=by
 induction h with
 |nil=>simp
 |cons v vs d ds b1 b2 t1 t2 u1 u2 h2 _ ih=>
  intro b hb;rcases af.1 hb with hb|hb
  ·exact LX h2 b hb
  ·exact ih b hb
theorem LW{v:Value}{d:D}{bs ts us:aX}(h:zQ w v d bs ts us):∀b∈ts,Wr w b:=by
 cases h with
 |v h=>exact LX h
 |iE vs ds bs ts us h=>exact JX h
def ix{α:Type}(p:α->Bool):List α->Option Nat
 | []=>none
 |x::r=>if p x then some 0 else(ix p r).map (· +1)
theorem z7{α:Type}{p:α->Bool}:∀ {l:List α} {i:Nat},ix p l=some i->∃x,l[i]?=some x/\p x=true:=by
 intro l
 induction l with
 |nil=>intro i h;cases h
 |cons x r ih=>
  intro i h;simp only[ix]at h;split at h
  ·cases h;exact⟨x,rfl,by assumption⟩
  ·cases hr:ix p r with
   |none=>simp[hr]at h
   |some j=>simp[hr]at h;subst h;simpa using ih hr
theorem Ef{α:Type}{p:α->Bool}:∀ {l:List α} {i:Nat} {x:α},l[i]?=some x->p x=true->(∀(j:Nat) y,l[j]?=some y->p y=true->j=i)->ix p l=some i:=by
 intro l
 induction l with
 |nil=>intro i x h;simp at h
 |cons y r ih=>
  intro i x h hp hu;simp only[ix];split
  ·rename_i hy;rw[hu 0 y rfl hy]
  ·rename_i hy;cases i with
   |zero=>simp at h;subst h;exact absurd hp hy
   |succ i=>
    rw[ih (by simpa using h) hp (fun j z hz Z2=>by have:=hu (j+1) z (by simpa using hz) Z2;omega)];rfl
theorem vn{α:Type}{f:α->aX}:∀ {l:List α},(l.flatMap f).Nodup->∀(i j:Nat) x y b,l[i]?=some x->l[j]?=some y->b∈f x->b∈f y->i=j:=by
 intro l
 induction l with
 |nil=>intro _ i j x y b hi;simp at hi
 |cons z r ih=>
  intro hnd i j x y b hi hj B8 hby;simp only[cH]at hnd;obtain⟨n1,n2,n3⟩:=bM.1 hnd;cases i with
  |zero=>
   simp at hi;subst hi;cases j with
   |zero=>rfl
   |succ j=>
    simp at hj;exact absurd rfl (n3 b B8 b (bg.2 ⟨y,aE hj,hby⟩))
  |succ i=>
   simp at hi;cases j with
   |zero=>
    simp at hj;subst hj;exact absurd rfl (n3 b hby b (bg.2 ⟨x,aE hi,B8⟩))
   |succ j=>simp at hj;rw[ih n2 i j x y b hi hj B8 hby]
theorem dl.Np(hs:dl Γ st κ Θ a w)(hb:Below w.heap.size w w')(L:List Fs)(hL:∀x∈L,x.ok w')(hnd:(L.flatMap Fs.bl).Nodup)(hfr:∀b∈L.flatMap Fs.bl,w.heap.size<=b/\Wr w' b)
 (n:Nat) (H':bW) (hfree:∀i,i<L.length->κ (n+i)=none) (hlen':st.H.length<=H'.length) (hin:n+L.length<=H'.length)
 (key:∀(j:Nat) y,H'[j]?=some y->(∃i x,j=n+i/\L[i]?=some x/\y=x.ob)\/((j<n\/n+L.length<=j)/\(y=.gone\/st.H[j]?=some y))):
 ∃κ' Θ',dl Γ ⟨st.σ,H'⟩ κ' Θ' a w'/\Names κ' n L/\(∀(j:Nat) v,κ j=some v->κ' j=some v)/\(∀b,b∉L.flatMap Fs.ts->Θ' b=Θ b)/\(∀j,(j<n\/n+L.length<=j)->κ' j=κ j):=by
 let κ':Nat->Option Value:=fun j=>if j<n\/n+L.length<=j then κ j else(L[j-n]?).map Fs.v
 let Θ':Nat->Nat:=fun b=>match ix (fun x:Fs=>x.v.ownBlock==some b) L with|some i=>n+i+2|none=>Θ b
 have hu1:∀(i j:Nat) x y b,L[i]?=some x->L[j]?=some y->b∈x.bl->b∈y.bl->i=j:=fun i j x y b=>vn hnd i j x y b
 have hts:∀(i:Nat) x b,L[i]?=some x->x.v.ownBlock=some b->Θ' b=n+i+2:=by
  intro i x b hi VQ;have:ix (fun x:Fs=>x.v.ownBlock==some b) L=some i:=Ef hi (by simp[VQ]) (fun j y hj hy=>by
   simp only[cq]at hy;exact hu1 j i y x b hj hi (by simp[Fs.bl,hy]) (by simp[Fs.bl,VQ]))
  simp only[Θ',this]
 have hno:∀b,b∉L.flatMap Fs.ts->Θ' b=Θ b:=by
  intro b hb';simp only[Θ'];cases h:ix (fun x:Fs=>x.v.ownBlock==some b) L with
  |none=>rfl
  |some i=>
   obtain⟨x,hx,hp⟩:=z7 h;exact absurd (bg.2 ⟨x,aE hx,by simp only[cq]at hp;simp[Fs.ts,hp]⟩) hb'
 have hsub:∀b,b∈L.flatMap Fs.ts->b∈L.flatMap Fs.bl:=by
  intro b h;obtain⟨x,hx,B8⟩:=bg.1 h;exact bg.2 ⟨x,hx,by simp only[Fs.bl,Fs.ts]at B8⊢;exact af.2 (.inl B8)⟩
 have hold:∀b,b<w.heap.size->Θ' b=Θ b:=fun b hlt=>hno b (fun h=>by have:=(hfr b (hsub b h)).1;omega)
 have hzero:∀b,w.heap.size<=b->Θ b=0:=fun b hge=>by
  cases h:Θ b with
  |zero=>rfl
  |succ m=>exact absurd (hs.own b (by omega)) (by omega)
 have hn:∀(j:Nat) v,κ j=some v->κ' j=some v:=by
  intro j v hj;have:j<n\/n+L.length<=j:=by
   rcases eO j n with h|h
   ·exact .inl h
   ·rcases eO j (n+L.length)with h2|h2
    ·have:=hfree (j-n) (by omega);rw[show n+(j-n)=j from by omega,hj]at this;cases this
    ·exact .inr h2
  simp only[κ'];rw[bK this];exact hj
 have vS:Names κ' n L:=by
  intro i x hx;have hlt:=(aF.1 hx).1;simp only[κ'];rw[az (by omega),dM,hx];rfl
 have hTb:∀b,Θ' b≠0->Θ b≠0\/b∈L.flatMap Fs.bl:=by
  intro b h;by_cases hbt:b∈L.flatMap Fs.ts
  ·exact .inr (hsub b hbt)
  ·rw[hno b hbt]at h;exact .inl h
 have k:iy w w' Θ Θ' (H'.length+2):=by
  refine⟨by omega,hb.os,hb.tape,hb.output,hb.size,fun b hlt _=>hb.block b hlt,fun b hlt _=>hold b hlt,fun b h=>?_⟩;rcases hTb b h with h|h
  ·exact dS (hs.own b h) hb.size
  ·obtain⟨cs,T,hx⟩:=(hfr b h).2;exact(bI.1 hx).1
 have hm:∀b,2<=Θ' b->yH Γ b:=by
  intro b h;by_cases hbt:b∈L.flatMap Fs.ts
  ·exact .inl (dY hs.base (hfr b (hsub b hbt)).1)
  ·rw[hno b hbt]at h;exact hs.mine b h
 obtain⟨ρ,hu⟩:=hs.tJ;have tI:=hs.oF k hn hu;let ρ':Nat->Nat:=fun b=>match ix (fun x:Fs=>x.ns.contains b) L with|some i=>n+i+1|none=>ρ b
 have hns:∀(i:Nat) x b,L[i]?=some x->b∈x.ns->ρ' b=n+i+1:=by
  intro i x b hi VQ;have:ix (fun x:Fs=>x.ns.contains b) L=some i:=Ef hi (by simpa using VQ) (fun j y hj hy=>by
   exact hu1 j i y x b hj hi (by simp only[Fs.bl];exact af.2 (.inr (by simpa using hy))) (by simp only[Fs.bl];exact af.2 (.inr VQ)))
  simp only[ρ',this]
 have yC:∀(i:Nat) x b,L[i]?=some x->b∈x.ns->Θ' b=0:=by
  intro i x b hi VQ;have hmem:b∈L.flatMap Fs.bl:=bg.2 ⟨x,aE hi,by simp only[Fs.bl];exact af.2 (.inr VQ)⟩;rw[hno b ?_]
  ·exact hzero b (hfr b hmem).1
  ·intro h;obtain⟨y,hy,hby⟩:=bg.1 h;obtain⟨j,hj⟩:=dZ hy;have:=hu1 j i y x b hj hi (by simp only[Fs.bl,Fs.ts]at hby⊢;exact af.2 (.inl hby)) (by simp only[Fs.bl];exact af.2 (.inr VQ));subst this;rw[hj]at hi;cases hi;have K3:x.bl.Nodup:=by
    have:∀(l:List Fs),(l.flatMap Fs.bl).Nodup->∀x∈l,x.bl.Nodup:=by
     intro l
     induction l with
     |nil=>intro _ x hx;cases hx
     |cons z r ih=>
      intro hnd x hx;simp only[cH]at hnd;obtain⟨n1,n2,_⟩:=bM.1 hnd;rcases bB.1 hx with rfl|hx
      ·exact n1
      ·exact ih n2 x hx
    exact this L hnd x hy
   simp only[Fs.bl]at K3;exact(bM.1 K3).2.2 b hby b VQ rfl
 have hlen:∀i,H'.length<=i->κ' i=none:=by
  intro i hi;simp only[κ'];rw[bK (by omega)];exact hs.pK i (by omega)
 have M4:∀(j:Nat) y,H'[j]?=some y->j+2≠H'.length+2:=fun j y hj=>by
  have:=(aF.1 hj).1;omega
 refine⟨κ',Θ',?_,vS,hn,hno,fun j hj=>bK hj⟩;have Kc:∀b,b<w.heap.size->ρ' b=ρ b:=by
  intro b hlt';simp only[ρ'];cases hi:ix (fun x:Fs=>x.ns.contains b) L with
  |none=>rfl
  |some i=>
   obtain⟨x,hx,hp⟩:=z7 hi;have:=(hfr b (bg.2 ⟨x,aE hx,by simp only[Fs.bl];exact af.2 (.inr (by simpa using hp))⟩)).1;omega
 have a1N:∀b,ρ b≠0->b<w.heap.size:=fun b hb'=>by
  obtain⟨_,_,cs',T,hx⟩:=hu.free b hb';exact(bI.1 hx).1
 refine hs.step k hm hn hlen ?_ ?_ ⟨ρ',?_,?_,?_⟩
 ·intro i u wS;simp only[κ']at wS;split at wS
  ·exact hs.oM i u wS
  ·cases hx:L[i-n]? with
   |none=>simp[hx]at wS
   |some x=>simp[hx]at wS;subst wS;exact(hL x (aE hx)).2.2.2.2
 ·intro j y hj;have hjl:=M4 j y hj;rcases key j y hj with⟨i,x,rfl,hx,rfl⟩|⟨hlt,hy|hy⟩
  ·obtain⟨q1,q2,q3,q4,_⟩:=hL x (aE hx);exact .inr (.inr ⟨q1,q2,x.v,x.cs,x.ns,vS i x hx,q3,q4,fun g hg=>hts i x g hx hg,fun b hb'=>yC i x b hx hb'⟩)
  ·exact .inl hy
  ·exact .inr (.inl ⟨hjl,hy⟩)
 ·intro b hb';by_cases h:∃(i:Nat) (x:Fs),L[i]?=some x/\b∈x.ns
  ·obtain⟨i,x,hx,B8⟩:=h;have hmem:b∈L.flatMap Fs.bl:=bg.2 ⟨x,aE hx,by simp only[Fs.bl];exact af.2 (.inr B8)⟩;exact⟨yC i x b hx B8,.inl (.inl (dY hs.base (hfr b hmem).1)),(hfr b hmem).2⟩
  ·have:ρ' b=ρ b:=by
    simp only[ρ'];cases hi:ix (fun x:Fs=>x.ns.contains b) L with
    |none=>rfl
    |some i=>
     obtain⟨x,hx,hp⟩:=z7 hi;exact absurd ⟨i,x,hx,by simpa using hp⟩ h
   rw[this]at hb';exact tI.1 b hb'
 ·intro j e sz rows hj;have hjl:=M4 j _ hj;rcases key j _ hj with⟨i,x,rfl,hx,hy⟩|⟨hlt,hy|hy⟩
  ·simp only[Fs.ob,Ob.row.injEq,sA]at hy;obtain⟨rfl,rfl,rfl⟩:=hy;obtain⟨q1,q2,q3,q4,_⟩:=hL x (aE hx);have K3:x.ns.Nodup:=by
    have:∀(l:List Fs),(l.flatMap Fs.bl).Nodup->∀x∈l,x.bl.Nodup:=by
     intro l
     induction l with
     |nil=>intro _ x hx;cases hx
     |cons z r ih=>
      intro hnd x hx;simp only[cH]at hnd;obtain⟨n1,n2,_⟩:=bM.1 hnd;rcases bB.1 hx with rfl|hx
      ·exact n1
      ·exact ih n2 x hx
    exact(bM.1 (this L hnd x (aE hx))).2.1
   exact⟨x.v,x.cs,x.ns,vS i x hx,q3,q4,K3,fun b hb'=>hns i x b hx hb'⟩
  ·cases hy
  ·obtain⟨v,cs,bs,q1,q2,q3,q4,q5⟩:=tI.2.1 j e sz rows hjl hy;exact⟨v,cs,bs,q1,q2,q3,q4,fun b hb'=>(Kc b (a1N b (by rw[q5 b hb'];omega))).trans (q5 b hb')⟩
 ·intro j y hj;have hjl:=M4 j _ hj;rcases key j _ hj with⟨i,x,rfl,hx,hy⟩|⟨hlt,hy|hy⟩
  ·subst hy;exact KO.xF rfl
  ·subst hy;trivial
  ·exact(tI.2.2 j y hjl hy).re fun b hb'=>(Kc b (a1N b (by omega))).trans hb'
theorem dl.a0D(hs:dl Γ st κ Θ a w)(hb:Below w.heap.size w w')(L:List Fs)(hL:∀x∈L,x.ok w')(hnd:(L.flatMap Fs.bl).Nodup)(hfr:∀b∈L.flatMap Fs.bl,w.heap.size<=b/\Wr w' b):
 ∃κ' Θ',dl Γ ⟨st.σ,st.H++L.map Fs.ob⟩ κ' Θ' a w'/\Names κ' st.H.length L/\(∀(j:Nat) v,κ j=some v->κ' j=some v)/\(∀b,b∉L.flatMap Fs.ts->Θ' b=Θ b):=by
 obtain⟨κ',Θ',h1,h2,h3,h4,_⟩:=hs.Np hb L hL hnd hfr st.H.length (st.H++L.map Fs.ob) (fun i _=>hs.pK _ (by omega)) (by simp) (by simp) (by
  intro j y hj;by_cases hlt:j<st.H.length
  ·rw[au hlt]at hj;exact .inr ⟨.inl hlt,.inr hj⟩
  ·rw[bA (by omega),bt]at hj;cases hx:L[j-st.H.length]? with
   |none=>simp[hx]at hj
   |some x=>simp[hx]at hj;exact .inl ⟨j-st.H.length,x,by omega,hx,hj.symm⟩)
 exact⟨κ',Θ',h1,h2,h3,h4⟩
def VR(H:bW)(d:D):Option (D×aX):=match d with
 | .acc m=>(match H[m]? with|some (.row _ _ _ rows)=>some (.sl rows,[m])|some (.wP _ rows _)=>some (.sl rows,[m])|some (.tk rows)=>some (.sl rows,[])|_=>none)
 | .ptr _ _=>none
 | .op _ _ _ _=>none
 |d=>some (d.GZ,[])
def RN(H:bW):aP->Option (aP×aX)
 | []=>some ([],[])
 |d::ds=>match VR H d,RN H ds with|some (e,m),some (es,ms)=>some (e::es,m++ms)|_,_=>none
def Yl(H:bW)(d:D):Option (D×aX):=match d with
 | .agg cs=>(match RN H cs with|some (es,ms)=>some (.agg es,ms)|none=>none)
 | .iE _=>none
 |d=>VR H d
def GF(H:bW):aP->Option (aP×aX)
 | []=>some ([],[])
 |d::ds=>match Yl H d,GF H ds with|some (e,m),some (es,ms)=>some (e::es,m++ms)|_,_=>none
def Seen(Θ:Nat->Nat)(ms:aX)(b:Nat):Prop:=Θ b=0\/∃m∈ms,Θ b=m+2
theorem Seen.mono{ms ns:aX}{b:Nat}(h:Seen Θ ms b)(hs:∀m∈ms,m∈ns):Seen Θ ns b:=by
 rcases h with h|⟨m,h1,h2⟩
 ·exact .inl h
 ·exact .inr ⟨m,hs m h1,h2⟩
theorem Yk(hs:dl Γ st κ Θ a w){v:Value}{d e:D}{bs:aX}{ms:aX}(h:VR st.H d=some (e,ms))(hr:zC w κ v d bs)(hz:∀b∈bs,Θ b=0):∃b',Rd w v e b'/\∀b∈b',Seen Θ ms b:=by
 cases hr with
 |pure hr=>
  have:VR st.H d=some (d.GZ,[]):=by cases hr<;>rfl
  rw[this]at h;cases h;exact⟨bs,hr.soft,fun b hb=>.inl (hz b hb)⟩
 |acc m _ hk=>
  simp only[VR]at h;split at h
  ·rename_i k e' sz rows hH;cases h;obtain⟨_,hrl,v2,cs,b2,hk2,hown,sv,hΘ,hd⟩:=hs.ob m _ hH;rw[hk]at hk2;cases hk2;refine⟨_,vT hrl hown sv,fun b hb=>?_⟩;rcases af.1 hb with hb|hb
   ·simp only[kz]at hb;exact .inr ⟨m,by simp,hΘ b hb⟩
   ·cases k with
    |cl=>exact .inr ⟨m,by simp,(hd.2.1 b hb).1⟩
    |sh=>exact .inl (hd b hb)
    |uq=>exact .inl (hd b hb)
    |mv n=>exact .inl (hd b hb)
  ·rename_i sz rows u hH;cases h;obtain⟨_,_,v2,b2,hk2,hrd,_,Eb⟩:=hs.ob m _ hH;rw[hk]at hk2;cases hk2;exact⟨b2,hrd,fun b hb=>.inr ⟨m,by simp,(Eb b hb).1⟩⟩
  ·rename_i rows hH;cases h;obtain⟨v2,b2,hk2,hrd,Wv⟩:=hs.ob m _ hH;rw[hk]at hk2;cases hk2;exact⟨b2,hrd,fun b hb=>.inl (Wv b hb)⟩
  ·cases h
 |ptr=>simp[VR]at h
 |op=>simp[VR]at h
theorem a10(hs:dl Γ st κ Θ a w):∀ {ds es:aP} {vs:bw} {bs ms:aX},RN st.H ds=some (es,ms)->fS w κ vs ds bs->(∀b∈bs,Θ b=0)->∃b',l6 w vs es b'/\∀b∈b',Seen Θ ms b:=by
 intro ds
 induction ds with
 |nil=>
  intro es vs bs ms h hr _;simp only[RN,aq,cW]at h;obtain⟨rfl,rfl⟩:=h;cases hr;exact⟨[],.nil,by simp⟩
 |cons d ds ih=>
  intro es vs bs ms h hr hz;simp only[RN]at h;split at h
  ·rename_i e m es' ms' h1 h2;cases h;cases hr with
   |cons v vs _ _ b1 b2 hv hc hcs=>
    obtain⟨c1,q1,q2⟩:=Yk hs h1 hc (fun b hb=>hz b (by simp[hb]));obtain⟨c2,p1,p2⟩:=ih h2 hcs (fun b hb=>hz b (by simp[hb]));refine⟨c1++c2,.cons _ _ _ _ _ _ hv q1 p1,fun b hb=>?_⟩;rcases af.1 hb with hb|hb
    ·exact(q2 b hb).mono (fun m hm=>by simp[hm])
    ·exact(p2 b hb).mono (fun m hm=>by simp[hm])
  ·cases h
theorem a4N(hs:dl Γ st κ Θ a w){v:Value}{d e:D}{bs ms:aX}(h:Yl st.H d=some (e,ms))(hr:rW w κ v d bs)(hz:∀b∈bs,Θ b=0):∃b',Rd w v e b'/\∀b∈b',Seen Θ ms b:=by
 by_cases tO:∃ds,d=.agg ds
 ·obtain⟨ds,rfl⟩:=tO;obtain⟨cs,rfl,hcs⟩:=hr.F5;simp only[Yl]at h;split at h
  ·rename_i es ms' h1;cases h;obtain⟨b',q1,q2⟩:=a10 hs h1 hcs hz;exact⟨b',.agg _ _ _ q1,q2⟩
  ·cases h
 ·have hc:zC w κ v d bs:=by
   cases hr with
   |v hr=>cases hr with
    |cell hr=>exact hr
    |agg=>exact absurd ⟨_,rfl⟩ tO
   |iE=>simp[Yl]at h
  have e1:Yl st.H d=VR st.H d:=by
   cases d<;>first|rfl|exact absurd ⟨_,rfl⟩ tO|simp[Yl]at h
  rw[e1]at h;exact Yk hs h hc hz
theorem LQ(hs:dl Γ st κ Θ a w):∀ {xs:List Operand} {es:aP} {ms:aX},GF st.H (xs.map st.ev)=some (es,ms)->∃b',T0 w (xs.map a.eval) es b'/\∀b∈b',Seen Θ ms b:=by
 intro xs
 induction xs with
 |nil=>
  intro es ms h;simp only[bZ,GF,aq,cW]at h;obtain⟨rfl,rfl⟩:=h;exact⟨[],.nil,by simp⟩
 |cons x xs ih=>
  intro es ms h;simp only[av,GF]at h;split at h
  ·rename_i e m es' ms' h1 h2;cases h;obtain⟨b0,r0,z0⟩:=hs.ev x;obtain⟨c1,q1,q2⟩:=a4N hs h1 r0 z0;obtain⟨c2,p1,p2⟩:=ih h2;refine⟨c1++c2,.cons _ _ _ _ _ _ q1 p1,fun b hb=>?_⟩;rcases af.1 hb with hb|hb
   ·exact(q2 b hb).mono (fun m hm=>by simp[hm])
   ·exact(p2 b hb).mono (fun m hm=>by simp[hm])
  ·cases h
def D.Z9(d:D):D:=match d with
 | .fr _ _ rows=>.sl rows
 |d=>d
def D.YQ(d:D):D:=match d with
 | .agg cs=>.agg (cs.map D.Z9)
 |d=>d.Z9
theorem tW.Co{w:World}:∀ {ds:aP} {vs:bw} {bs:aX},l6 w vs ds bs->tW w vs ds bs [] []:=by
 intro ds
 induction ds with
 |nil=>intro vs bs h;cases h;exact .nil
 |cons d ds ih=>
  intro vs bs h;cases h with
  |cons v vs _ _ b1 b2 h1 h2 h3=>exact .cons _ _ _ _ _ _ [] [] [] [] h1 (.pure h2) (ih h3)
theorem FI.Cc{w:World}{v:Value}{d:D}{bs ts us:aX}(h:FI w v d bs ts us):∃b,Rd w v d.Z9 b/\∀x∈b,x∈bs\/x∈us:=by
 cases h with
 |pure h=>
  have e:d.Z9=d:=by cases h<;>rfl
  exact⟨_,e.symm▸h,fun x hx=>.inl hx⟩
 |fr e sz rows cs ns h1 h2 h3 h4 h5=>exact⟨_,vT h2 h3 h4,fun x hx=>.inr hx⟩
theorem tW.Cc{w:World}{vs:bw}{ds:aP}{bs ts us:aX}(h:tW w vs ds bs ts us):∃b,l6 w vs (ds.map D.Z9) b/\∀x∈b,x∈bs\/x∈us:=by
 induction h with
 |nil=>exact⟨_,.nil,by simp⟩
 |cons v vs d ds b1 b2 t1 t2 u1 u2 h1 h2 _ ih=>
  obtain⟨b,q,s⟩:=h2.Cc;obtain⟨b',q',s'⟩:=ih;refine⟨_,.cons _ _ _ _ _ _ h1 q q',fun x hx=>?_⟩;rcases af.1 hx with h|h
  ·rcases s x h with h|h<;>simp[h]
  ·rcases s' x h with h|h<;>simp[h]
theorem FJ.Cc{w:World}{v:Value}{d:D}{bs ts us:aX}(h:FJ w v d bs ts us):∃b,Rd w v d.YQ b/\∀x∈b,x∈bs\/x∈us:=by
 cases h with
 |cell h=>
  by_cases tO:∃ds,d=.agg ds
  ·obtain⟨ds,rfl⟩:=tO;cases h with
   |pure h=>cases h with
    |agg cs _ _ h=>
     obtain⟨b,q,s⟩:=(tW.Co h).Cc;exact⟨_,.agg _ _ _ q,s⟩
  ·have e:d.YQ=d.Z9:=by cases d<;>first|rfl|exact absurd ⟨_,rfl⟩ tO
   rw[e];exact h.Cc
 |agg cs ds bs ts us h=>
  obtain⟨b,q,s⟩:=h.Cc;exact⟨_,.agg _ _ _ q,s⟩
def D.Uq(d:D):Bool:=match d with
 | .fr _ _ _=>true
 |d=>d.flat
def D.Qs(d:D):Bool:=match d with
 | .agg cs=>cs.all D.Uq
 |d=>d.Uq
def D.MW(d:D):Bool:=match d with
 | .iE vs=>vs.all D.Qs
 |d=>d.Qs
def D.a3g(d:D):Bool:=match d with
 | .iE _=>false
 |d=>d.Qs
theorem FI.own{v:Value}{d:D}{bs ts us:aX}(h:FI w v d bs ts us)(ho:d.Uq=true):bs=[]:=by
 cases h with
 |pure h=>exact h.flat (by cases h<;>exact ho)
 |fr=>rfl
theorem tW.own{vs:bw}{ds:aP}{bs ts us:aX}(h:tW w vs ds bs ts us)(ho:ds.all D.Uq=true):bs=[]:=by
 induction h with
 |nil=>rfl
 |cons v vs d ds b1 b2 t1 t2 u1 u2 h1 h2 _ ih=>
  simp only[dW,aS]at ho;rw[h2.own ho.1,ih ho.2];rfl
theorem FJ.own{v:Value}{d:D}{bs ts us:aX}(h:FJ w v d bs ts us)(ho:d.Qs=true):bs=[]:=by
 cases h with
 |cell h=>
  by_cases tO:∃ds,d=.agg ds
  ·obtain⟨ds,rfl⟩:=tO;cases h with
   |pure h=>
    cases h with
    |agg cs _ _ h=>
     simp only[D.Qs]at ho;have:∀(es:aP) (vs:bw) (b:aX),l6 w vs es b->es.all D.Uq=true->es.all D.flat=true:=by
      intro es
      induction es with
      |nil=>intros;rfl
      |cons e es ih=>
       intro vs b hh ho;simp only[dW,aS]at ho⊢;cases hh with
       |cons v vs _ _ b1 b2 _ h2 h3=>exact⟨by cases h2<;>exact ho.1,ih _ _ h3 ho.2⟩
     exact l6.flat h (this _ _ _ h ho)
  ·have e:d.Qs=d.Uq:=by cases d<;>first|rfl|exact absurd ⟨_,rfl⟩ tO
   exact h.own (e▸ho)
 |agg cs ds bs ts us h=>exact h.own ho
theorem AS.own{vs:bw}{ds:aP}{bs ts us:aX}(h:AS w vs ds bs ts us)(ho:ds.all D.Qs=true):bs=[]:=by
 induction h with
 |nil=>rfl
 |cons v vs d ds b1 b2 t1 t2 u1 u2 h2 _ ih=>
  simp only[dW,aS]at ho;rw[h2.own ho.1,ih ho.2];rfl
theorem zQ.own{v:Value}{d:D}{bs ts us:aX}(h:zQ w v d bs ts us)(ho:d.MW=true):bs=[]:=by
 cases h with
 |v h=>
  have hnt:∀vs,d≠ .iE vs:=by
   intro vs e;subst e;cases h with
   |cell h=>cases h with|pure h=>cases h
  have e:d.MW=d.Qs:=by cases d<;>first|rfl|exact absurd rfl (hnt _)
  exact h.own (e▸ho)
 |iE vs ds bs ts us h=>exact h.own ho
theorem wR{o:Oper}{f:FuncId}{xs:Array Operand}{ts:Array TypeId}(hop:o.op=.call {callee:=.value (.func f),args:=xs,argTypes:=ts})
 (hf:∃fn,P.funcs[f]?=some fn/\fn.body.isSome=true/\(fn.name== "runtime.NumGoroutine")=false):
 (execOp a.eval o).run P w=.ok (.enter f (xs.map a.eval)) w:=by
 obtain⟨fn,h1,h2,h3⟩:=hf;have h2':¬fn.body=none:=by intro hb;simp[hb]at h2
 simp only[cy,ne_eq]at h3;simp[execOp,hop,resolve,Deferred.ofValue,Act.eval,invoke,callFunc,h1,h2',h3]
theorem Q7{Q':Exit->Act->World->Prop}{K:Act->World->Prop}{o:Oper}{f t:Nat}{xs:Array Operand}{ts:Array TypeId}{ds:aP}{ms:aX}{d:D}(hs:dl Γ st κ Θ a w)
 (hop:o.op=.call {callee:=.value (.func f),args:=xs,argTypes:=ts}) (hd:o.dst=some t) (ht:t<Γ.nt) (hds:∃bs,T0 w (xs.toList.map a.eval) ds bs/\∀b∈bs,Seen Θ ms b) (hsh:ms=[]\/d.MW=true)
 (nL:Good P f ds d) (hK:∀κ' Θ' a' w',dl Γ ⟨(t,(oC st.H.length d).1)::st.σ,st.H++(oC st.H.length d).2⟩ κ' Θ' a' w'->K a' w'):o.wp P a w K Q':=by
 obtain⟨bs,hargs,hz⟩:=hds;let Θc:Nat->Nat:=fun b=>if Θ b=0\/ms.any (fun m=>Θ b==m+2)then 0 else 1
 have Kb:∀b,Seen Θ ms b->Θc b=0:=by
  intro b h;simp only[Θc];rw[bK];rcases h with h|⟨m,h1,h2⟩
  ·exact .inl h
  ·exact .inr (cv.2 ⟨m,h1,by simp[h2]⟩)
 have hc:=nL.2 w Θc _ bs hs.vok hargs (fun b hb=>Kb b (hz b hb)) (fun b hb=>hs.own b (fun e=>hb (Kb b (.inl e)))) (fun b=>by simp only[Θc];split<;>omega);unfold Oper.wp;rw[wR hop nL.1,Oper.upon_enter];have e:xs.map a.eval=(xs.toList.map a.eval).toArray:=by rw[<-gu,k8]
 rw[e];refine hc.mono ?_;rintro e w' ⟨v,bs',tb,ub,rfl,hb,hr,Mw,htb,hnd,hfr,hsub⟩;show K (a.put o.dst v) w';rw[hd];obtain⟨L,q1,q2,q3,q4,q5⟩:=hr.inst st.H.length;obtain⟨κ',Θ',hs',hnm,_,hno⟩:=hs.a0D hb L q2 (q3▸hnd) (fun b hb'=>hfr b (q3▸hb'));rw[q1]at hs';refine hK κ' Θ' _ w' (hs'.set (t:=t) ht (q5 κ' hnm) fun b hb'=>?_);rw[hno b (q4▸htb b hb')];rcases hsh with M5|hown
 ·by_cases hlt:b<w.heap.size
  ·have h0:=Mw b hb' hlt;simp only[Θc,M5,Hu]at h0;by_cases h1:Θ b=0
   ·exact h1
   ·simp[h1]at h0
  ·by_cases h0:Θ b=0
   ·exact h0
   ·exact absurd (hs.own b h0) hlt
 ·rw[hr.own hown]at hb';cases hb'
theorem ZU{Q':Exit->Act->World->Prop}{K:Act->World->Prop}{o:Oper}{f t:Nat}{xs:Array Operand}{ts:Array TypeId}{ds:aP}{ms:aX}{d:D}(hs:dl Γ st κ Θ a w)
 (hop:o.op=.call {callee:=.value (.func f),args:=xs,argTypes:=ts}) (hd:o.dst=some t) (ht:t<Γ.nt) (hds:GF st.H (xs.toList.map st.ev)=some (ds,ms)) (hsh:ms=[]\/d.MW=true)
 (nL:Good P f ds d) (hK:∀κ' Θ' a' w',dl Γ ⟨(t,(oC st.H.length d).1)::st.σ,st.H++(oC st.H.length d).2⟩ κ' Θ' a' w'->K a' w'):o.wp P a w K Q':=
 Q7 hs hop hd ht (LQ hs hds) hsh nL hK
def Kf(d:D):Bool:=match d with
 | .agg cs=>cs.all D.Pd
 | .iE _=>false
 |d=>d.Pd
theorem XK{v:Value}{d:D}{bs:aX}(hr:rW w κ v d bs)(h:Kf d=true):Rd w v d bs:=by
 by_cases tO:∃ds,d=.agg ds
 ·obtain⟨ds,rfl⟩:=tO;obtain⟨cs,rfl,hcs⟩:=hr.F5;exact .agg _ _ _ (hcs.pure h)
 ·have hp:d.Pd=true:=by
   cases d<;>first|exact h|exact absurd ⟨_,rfl⟩ tO|simp[Kf]at h
  cases hr with
  |v hr=>cases hr with
   |cell hr=>cases hr with
    |pure hr=>exact hr
    |acc=>simp[D.Pd]at hp
    |ptr=>simp[D.Pd]at hp
    |op=>simp[D.Pd]at hp
   |agg=>exact absurd ⟨_,rfl⟩ tO
  |iE=>simp[Kf]at h
theorem Nq(hs:dl Γ st κ Θ a w):∀ {xs:List Operand},(xs.map st.ev).all Kf=true->∃b',T0 w (xs.map a.eval) (xs.map st.ev) b'/\∀b∈b',Seen Θ [] b:=by
 intro xs
 induction xs with
 |nil=>intro _;exact⟨[],.nil,by simp⟩
 |cons x xs ih=>
  intro h;simp only[av,dW,aS]at h;obtain⟨b0,r0,z0⟩:=hs.ev x;obtain⟨c2,p1,p2⟩:=ih h.2;refine⟨b0++c2,.cons _ _ _ _ _ _ (XK r0 h.1) p1,fun b hb=>?_⟩;rcases af.1 hb with hb|hb
  ·exact .inl (z0 b hb)
  ·exact p2 b hb
theorem VX{o:Oper}{f t:Nat}{xs:Array Operand}{ts:Array TypeId}{d:D}(hop:o.op=.call {callee:=.value (.func f),args:=xs,argTypes:=ts})(hd:o.dst=some t)(hg:o.guard=none)
 (ht:t<Γ.nt) (hk:(xs.toList.map st.ev).all Kf=true) (nL:Good P f (xs.toList.map st.ev) d)
 (h:AO P Γ all rest Q ⟨(t,(oC st.H.length d).1)::st.σ,st.H++(oC st.H.length d).2⟩):AO P Γ all (o::rest) Q st:=by
 intro κ Θ a w hs;exact wpList_plain hg fun K hK=>Q7 hs hop hd ht (Nq hs hk) (.inl rfl) nL fun κ' Θ' a' w' hs'=>hK _ _ (h κ' Θ' a' w' hs')
theorem ZC{o:Oper}{f t:Nat}{xs:Array Operand}{ts:Array TypeId}{ds:aP}{ms:aX}{d:D}(hop:o.op=.call {callee:=.value (.func f),args:=xs,argTypes:=ts})(hd:o.dst=some t)(hg:o.guard=none)
 (ht:t<Γ.nt) (hds:GF st.H (xs.toList.map st.ev)=some (ds,ms)) (hsh:ms=[]\/d.MW=true) (nL:Good P f ds d)
 (h:AO P Γ all rest Q ⟨(t,(oC st.H.length d).1)::st.σ,st.H++(oC st.H.length d).2⟩):AO P Γ all (o::rest) Q st:=by
 intro κ Θ a w hs;exact wpList_plain hg fun K hK=>ZU hs hop hd ht hds hsh nL fun κ' Θ' a' w' hs'=>hK _ _ (h κ' Θ' a' w' hs')
def Xr(P:Program)(st:St):ResultVar->Option D
 | .tmp t=>some (lk st.σ t)
 | .cell x T=>match AA P T,lk st.σ x with
  |some ag,.ptr id off=>(match(st.H[id]?).bind Ob.UK with|some cells=>GW ag (zH P T) cells off|none=>none)
  |_,_=>none
def GX(P:Program)(st:St):List ResultVar->Option aP
 | []=>some []
 |r::rs=>match Xr P st r,GX P st rs with|some d,some ds=>some (d::ds)|_,_=>none
def Xt(tmps:Array Value):ResultVar->Sem Value
 | .tmp t=>pure (tmps.getD t undef)
 | .cell a t=>do loadVar t (<-asAddr (tmps.getD a undef))
theorem results_eq(fn:Func)(tmps:Array Value):results fn tmps=(do let vs<-fn.results.mapM (Xt tmps);pure (if h:vs.size=1 then vs[0]else .tuple vs)):=by
 unfold results
 congr 1
theorem Xs(hs:dl Γ st κ Θ a w){r:ResultVar}{d:D}(h:Xr P st r=some d):
 ∃v bs,(Xt a.tmps r).run P w=.ok v w/\rW w κ v d bs/\∀b∈bs,Θ b=0:=by
 cases r with
 |tmp t=>
  simp only[Xr,aq]at h;subst h;obtain⟨bs,hr,hz⟩:=hs.slot t;exact⟨_,bs,by simp[Xt],hr,hz⟩
 |cell x T=>
  have hp:pv P st (.load T (.tmp x))=some d:=by
   simp only[Xr]at h;split at h
   ·rename_i ag id off h1 h2;simp only[pv,h1,St.ev,h2];exact h
   ·cases h
  obtain⟨v,bs,hrun,hr,hz⟩:=MK (o:= {(default:Oper)with op:=.load T (.tmp x)}) hs rfl hp;refine⟨v,bs,?_,hr,hz⟩;simp only[execOp,Act.eval]at hrun;have a8l:∃b off,a.tmps.getD x undef=.pointer (some ⟨b,off,none⟩):=by
   simp only[Xr]at h;split at h
   ·rename_i ag id off h1 h2;obtain⟨b0,r0,_⟩:=hs.slot x;rw[h2]at r0;obtain⟨g,_,hv⟩:=r0.z8;exact⟨g,off,hv⟩
   ·cases h
  obtain⟨b,off,hv⟩:=a8l;simp only[Xt,hv]at hrun⊢;simp only[Instr.loadAt,Instr.sureAddr,Sem.run_bind,Sem.run_pure,Result.andThen_ok]at hrun;simp only[asAddr,Sem.run_bind,Sem.run_pure,Result.andThen_ok];cases hl:(loadVar T ⟨b,off,none⟩).run P w with
  |ok u w1=>simp only[hl,Result.andThen_ok,Result.ok.injEq,Next.value.injEq]at hrun;rw[hrun.1,hrun.2]
  |halt u w1=>simp[hl]at hrun
theorem Br(hs:dl Γ st κ Θ a w):∀ {rs:List ResultVar} {ds:aP},GX P st rs=some ds->
 ∃(vs:bw) (bs:aX),(rs.mapM (Xt a.tmps)).run P w=.ok vs w/\
  vs.length=rs.length/\ds.length=rs.length/\(∀(i:Nat) d,ds[i]?=some d->∃v b,vs[i]?=some v/\rW w κ v d b/\∀x∈b,x∈bs)/\∀b∈bs,Θ b=0:=by
 intro rs
 induction rs with
 |nil=>
  intro ds h;simp only[GX,aq]at h;subst h;exact⟨[],[],by simp,rfl,rfl,by simp,by simp⟩
 |cons r rs ih=>
  intro ds h;simp only[GX]at h;split at h
  ·rename_i d ds' h1 h2;cases h;obtain⟨v,b,k1,k2,k3⟩:=Xs hs h1;obtain⟨vs,bs,m1,m2,m3,m4,m5⟩:=ih h2;refine⟨v::vs,b++bs,?_,by simp[m2],by simp[m3],?_,?_⟩
   ·simp only[Dc,Sem.run_bind,k1,Result.andThen_ok,m1,Sem.run_pure]
   ·intro i x hx;cases i with
    |zero=>simp at hx;subst hx;exact⟨v,b,by simp,k2,by intro y hy;simp[hy]⟩
    |succ i=>
     simp at hx;obtain⟨u,b',q1,q2,q3⟩:=m4 i x hx;exact⟨u,b',by simpa using q1,q2,fun y hy=>by simp[q3 y hy]⟩
   ·intro y hy;rcases af.1 hy with hy|hy
    ·exact k3 y hy
    ·exact m5 y hy
  ·cases h
def JA:aP->D
 | [d]=>d
 |ds=>.iE ds
def wY:Nat->aP->List (Nat×D)
 |_,[]=>[]
 |k,d::ds=>(k,d)::wY (k+1) ds
theorem Ek:∀(ds:aP) (k t:Nat),lk (wY k ds) t=if t<k then .any else(ds[t-k]?).getD .any:=by
 intro ds
 induction ds with
 |nil=>intro k t;simp[wY,lk]
 |cons d ds ih=>
  intro k t;simp only[wY,lk];by_cases h:t=k
  ·subst h;simp
  ·rw[az h,ih];by_cases h1:t<k
   ·rw[bK (by omega),bK h1]
   ·rw[az (by omega),az h1];have:t-k=(t-(k+1))+1:=by omega
    rw[this,gB]
theorem T0.at{vs:bw}{ds:aP}{bs:aX}(h:T0 w vs ds bs):vs.length=ds.length/\∀(i:Nat) d,ds[i]?=some d->∃v b,vs[i]?=some v/\Rd w v d b/\∀x∈b,x∈bs:=by
 induction ds generalizing vs bs with
 |nil=>cases h;exact⟨rfl,by simp⟩
 |cons e ds ih=>
  cases h with
  |cons v vs _ _ b1 b2 h2 h3=>
   obtain⟨l,hi⟩:=ih h3;refine⟨by simp[l],fun i d hd=>?_⟩;cases i with
   |zero=>simp at hd;subst hd;exact⟨v,b1,by simp,h2,by intro x hx;simp[hx]⟩
   |succ i=>
    simp at hd;obtain⟨u,b,k1,k3,k4⟩:=hi i d hd;exact⟨u,b,by simpa using k1,k3,fun x hx=>by simp[k4 x hx]⟩
def ij(d:D):Prop:=∃w v bs,Rd w v d bs
theorem l6.rdb{vs:bw}{ds:aP}{bs:aX}(h:l6 w vs ds bs):∀d∈ds,ij d:=by
 intro d hd;obtain⟨i,hi,rfl⟩:=eS.1 hd;obtain⟨v,b,_,_,hr,_⟩:=h.at (aa hi);exact⟨w,v,b,hr⟩
theorem ij.agg{ds:aP}(h:ij (.agg ds)):∀d∈ds,ij d:=by
 obtain⟨w,v,bs,h⟩:=h;cases h with|agg cs _ _ hx=>exact hx.rdb
theorem ij.sl{rows:List aP}(h:ij (.sl rows)):rows.length<=maxLen/\∀r∈rows,∀d∈r,ij d:=by
 obtain⟨w,v,bs,h⟩:=h;cases h with
 |yp=>simp
 |oO=>simp
 |sl b off cap sz _ cs bs hb h1 h2 h3 h4 h5=>
  exact⟨by omega,fun r hr d hd=>h5.rdb d (gC.2 ⟨r,hr,hd⟩)⟩
theorem T0.rdb{vs:bw}{ds:aP}{bs:aX}(h:T0 w vs ds bs):∀d∈ds,ij d:=by
 intro d hd;obtain⟨i,hi,rfl⟩:=eS.1 hd;obtain⟨v,b,_,hr,_⟩:=h.at.2 i _ (aa hi);exact⟨w,v,b,hr⟩
def Xf(z:Option (Nat×Nat))(d:D):D:=match d,z with
 | .nil,some (e,sz+1)=>.fr e (sz+1) []
 |d,_=>d.GZ
def DV(H:bW)(z:Option (Nat×Nat))(d:D):Option (D×aX×aX):=match d with
 | .acc m=>(match H[m]? with|some (.row k e sz rows)=>(match k with| .uq=>some (.fr e sz rows,[],[m])| .sh=>some (.sl rows,[m],[])| .cl=>none| .mv _=>none)|_=>none)
 | .ptr _ _=>none
 | .op _ _ _ _=>none
 | .agg _=>none
 | .iE _=>none
 |d=>some (Xf z d,[],[])
def Km(H:bW):List (Option (Nat×Nat))->aP->Option (aP×aX×aX)
 |_,[]=>some ([],[],[])
 |zs,d::ds=>match DV H zs.head?.join d,Km H zs.tail ds with|some (e,m,q),some (es,ms,qs)=>some (e::es,m++ms,q++qs)|_,_=>none
def SV(H:bW)(zs:List (Option (Nat×Nat)))(d:D):Option (D×aX×aX):=match d with
 | .agg cs=>(match Km H zs cs with|some (es,ms,qs)=>some (.agg es,ms,qs)|none=>none)
 |d=>DV H zs.head?.join d
def A7(H:bW):List (List (Option (Nat×Nat)))->aP->Option (aP×aX×aX)
 |_,[]=>some ([],[],[])
 |zs,d::ds=>match SV H (zs.head?.getD []) d,A7 H zs.tail ds with|some (e,m,q),some (es,ms,qs)=>some (e::es,m++ms,q++qs)|_,_=>none
def OJ(P:Program)(fn:Func)(d:D)(e:Exit)(st:St):Prop:=
 (e=.ret\/e=.normal)/\∃nz ds es ms qs,GX P st fn.results.toList=some ds/\A7 st.H nz ds=some (es,ms,qs)/\ms.Nodup/\qs.Nodup/\JA es=d
structure RP(Θ ρ:Nat->Nat)(qs bs ts us:List Nat):Prop where
 zero:∀b∈bs,Θ b=0
 top:∀b∈ts,(∃m∈qs,Θ b=m+2)/\b∈us
 mem:∀b∈us,b∈ts\/∃m∈qs,ρ b=m+1
 nd:us.Nodup
theorem RP.nil{ρ:Nat->Nat}{bs:aX}(h:∀b∈bs,Θ b=0):RP Θ ρ [] bs [] []:=⟨h,by simp,by simp,by simp⟩
theorem RP.app{ρ:Nat->Nat}{q1 q2 b1 b2 t1 t2 u1 u2:aX}(hf:∀b,ρ b≠0->Θ b=0)(hq:(q1++q2).Nodup)(h1:RP Θ ρ q1 b1 t1 u1)(h2:RP Θ ρ q2 b2 t2 u2):RP Θ ρ (q1++q2) (b1++b2) (t1++t2) (u1++u2):=by
 refine⟨fun b hb=>?_,fun b hb=>?_,fun b hb=>?_,bM.2 ⟨h1.nd,h2.nd,fun x hx y hy e=>?_⟩⟩
 ·rcases af.1 hb with hb|hb
  ·exact h1.zero b hb
  ·exact h2.zero b hb
 ·rcases af.1 hb with hb|hb
  ·obtain⟨⟨m,p,q⟩,r⟩:=h1.top b hb;exact⟨⟨m,by simp[p],q⟩,by simp[r]⟩
  ·obtain⟨⟨m,p,q⟩,r⟩:=h2.top b hb;exact⟨⟨m,by simp[p],q⟩,by simp[r]⟩
 ·rcases af.1 hb with hb|hb
  ·rcases h1.mem b hb with h|⟨m,p,q⟩
   ·exact .inl (by simp[h])
   ·exact .inr ⟨m,by simp[p],q⟩
  ·rcases h2.mem b hb with h|⟨m,p,q⟩
   ·exact .inl (by simp[h])
   ·exact .inr ⟨m,by simp[p],q⟩
 ·subst e;have hd:=(bM.1 hq).2.2;rcases h1.mem x hx with hx|⟨m,p,q⟩
  ·obtain⟨⟨m,p,q⟩,_⟩:=h1.top x hx;rcases h2.mem x hy with hy|⟨m',p',q'⟩
   ·obtain⟨⟨m',p',q'⟩,_⟩:=h2.top x hy;exact hd m p m' p' (by omega)
   ·have:=hf x (by omega);omega
  ·rcases h2.mem x hy with hy|⟨m',p',q'⟩
   ·obtain⟨⟨m',p',q'⟩,_⟩:=h2.top x hy;have:=hf x (by omega);omega
   ·exact hd m p m' p' (by omega)
theorem Qm(z:Option (Nat×Nat)){v:Value}{d:D}{b0:aX}(hr:Rd w v d b0):∃bs,FI w v (Xf z d) bs [] []/\∀b∈bs,b∈b0:=by
 unfold Xf;split
 ·rename_i e sz;cases hr;refine⟨[],?_,by simp⟩;have:=FI.fr (w:=w) (.slice none 0 0) e (sz+1) [] [] [] (Nat.succ_pos _) (by simp) (World.ownsRow_nil w 0 e (sz+1)) .nil rfl;simpa[Value.ownBlock]using this
 ·exact⟨b0,.pure hr.soft,fun _ h=>h⟩
section
variable{H:bW}{ρ:Nat->Nat}(hf:∀b,ρ b≠0->Θ b=0)
 (hq:∀m e sz rows,H[m]?=some (.row .uq e sz rows)->∃v cs ns,κ m=some v/\0<sz/\(∀r∈rows,r.length=sz)/\w.ownsRow 0 e sz v rows.length cs/\l6 w cs rows.flatten ns/\ns.Nodup/\(∀b∈ns,ρ b=m+1)/\∀g,v.ownBlock=some g->Θ g=m+2)
include hf hq
theorem R2{z:Option (Nat×Nat)}{d e:D}{ms qs:aX}{v:Value}{b0:aX}(h:DV H z d=some (e,ms,qs))(hone:v.oneCell'=true)(hr:zC w κ v d b0)(hz:∀b∈b0,Θ b=0)
 (hm:∀m∈ms,∀k e sz rows,H[m]?=some (.row k e sz rows)->zP κ Θ ρ w m k rows):∃bs ts us,FI w v e bs ts us/\RP Θ ρ qs bs ts us:=by
 cases hr with
 |pure hr=>
  have:DV H z d=some (Xf z d,[],[]):=by cases hr<;>first|rfl|simp[DV]at h
  rw[this]at h;cases h;obtain⟨bs,hb,Mw⟩:=Qm z hr;exact⟨bs,[],[],hb,RP.nil (fun b hb'=>hz b (Mw b hb'))⟩
 |acc m _ hk=>
  simp only[DV]at h;split at h
  ·rename_i k e' sz rows hH;split at h
   ·cases h;obtain⟨v2,cs,ns,r1,r2,r3,r4,r5,r6,r7,r8⟩:=hq m _ _ _ hH;rw[hk]at r1;cases r1;refine⟨[],_,_,.fr v _ _ _ cs ns r2 r3 r4 r5 hone,by simp,fun b hb=>?_,fun b hb=>?_,?_⟩
    ·simp only[kz]at hb;exact⟨⟨m,by simp,r8 b hb⟩,by simp[hb]⟩
    ·rcases af.1 hb with hb|hb
     ·exact .inl hb
     ·exact .inr ⟨m,by simp,r7 b hb⟩
    ·refine bM.2 ⟨by cases v.ownBlock<;>simp,r6,fun x hx y hy exy=>?_⟩;subst exy;simp only[kz]at hx;have h1:=r8 x hx;have h2:=hf x (by rw[r7 x hy];omega);omega
   ·cases h;obtain⟨v2,bs,r1,r2,r3,_⟩:=hm m (by simp) _ _ _ _ hH;rw[hk]at r1;cases r1;exact⟨bs,[],[],.pure r2,RP.nil r3⟩
   ·cases h
   ·cases h
  ·cases h
 |ptr=>simp[DV]at h
 |op=>simp[DV]at h
theorem Uw:∀ {ds es:aP} {zs:List (Option (Nat×Nat))} {ms qs:aX} {vs:bw} {b0:aX},Km H zs ds=some (es,ms,qs)->qs.Nodup->fS w κ vs ds b0->(∀b∈b0,Θ b=0)->
 (∀m∈ms,∀k e sz rows,H[m]?=some (.row k e sz rows)->zP κ Θ ρ w m k rows)->∃bs ts us,tW w vs es bs ts us/\RP Θ ρ qs bs ts us:=by
 intro ds
 induction ds with
 |nil=>
  intro es zs ms qs vs b0 h _ hr _ _;simp only[Km,aq,cW]at h;obtain⟨rfl,rfl,rfl⟩:=h;cases hr;exact⟨[],[],[],.nil,RP.nil (by simp)⟩
 |cons d ds ih=>
  intro es zs ms qs vs b0 h hnd hr hz hm;simp only[Km]at h;split at h
  ·rename_i e m q es' ms' qs' h1 h2;cases h;cases hr with
   |cons v vs _ _ b1 b2 hv hc hcs=>
    obtain⟨c1,t1,u1,q1,q2⟩:=R2 hf hq h1 hv hc (fun b hb=>hz b (by simp[hb])) (fun x hx=>hm x (by simp[hx]));obtain⟨c2,t2,u2,p1,p2⟩:=ih h2 (bM.1 hnd).2.1 hcs (fun b hb=>hz b (by simp[hb])) (fun x hx=>hm x (by simp[hx]));exact⟨_,_,_,.cons _ _ _ _ _ _ _ _ _ _ hv q1 p1,RP.app hf hnd q2 p2⟩
  ·cases h
theorem Xu(hk1:∀(i:Nat) u,κ i=some u->u.oneCell'=true){zs:List (Option (Nat×Nat))}{d e:D}{ms qs:aX}{v:Value}{b0:aX}(h:SV H zs d=some (e,ms,qs))(hnd:qs.Nodup)(hr:rW w κ v d b0)(hz:∀b∈b0,Θ b=0)
 (hm:∀m∈ms,∀k e sz rows,H[m]?=some (.row k e sz rows)->zP κ Θ ρ w m k rows):∃bs ts us,FJ w v e bs ts us/\RP Θ ρ qs bs ts us:=by
 by_cases tO:∃ds,d=.agg ds
 ·obtain⟨ds,rfl⟩:=tO;obtain⟨cs,rfl,hcs⟩:=hr.F5;simp only[SV]at h;split at h
  ·rename_i es ms' qs' h1;cases h;obtain⟨bs,ts,us,q1,q2⟩:=Uw hf hq h1 hnd hcs hz hm;exact⟨bs,ts,us,.agg _ _ _ _ _ q1,q2⟩
  ·cases h
 ·have e1:SV H zs d=DV H zs.head?.join d:=by cases d<;>first|rfl|exact absurd ⟨_,rfl⟩ tO
  rw[e1]at h;have hc:zC w κ v d b0:=by
   cases hr with
   |v hr=>cases hr with
    |cell hr=>exact hr
    |agg=>exact absurd ⟨_,rfl⟩ tO
   |iE=>simp[DV]at h
  cases hc with
  |pure hr=>
   have:DV H zs.head?.join d=some (Xf zs.head?.join d,[],[]):=by cases hr<;>first|rfl|simp[DV]at h
   rw[this]at h;cases h;obtain⟨bs,hb,Mw⟩:=Qm zs.head?.join hr;exact⟨bs,[],[],.cell hb,RP.nil (fun b hb'=>hz b (Mw b hb'))⟩
  |acc m _ hk=>
   obtain⟨bs,ts,us,q1,q2⟩:=R2 hf hq h (hk1 _ _ hk) (.acc m _ hk) (by simp) hm;exact⟨bs,ts,us,.cell q1,q2⟩
  |ptr=>simp[DV]at h
  |op=>simp[DV]at h
theorem zG(hk1:∀(i:Nat) u,κ i=some u->u.oneCell'=true):∀ {ds es:aP} {zs:List (List (Option (Nat×Nat)))} {ms qs:aX} {vs:bw},A7 H zs ds=some (es,ms,qs)->qs.Nodup->vs.length=ds.length->
 (∀(i:Nat) d,ds[i]?=some d->∃v b,vs[i]?=some v/\rW w κ v d b/\∀x∈b,Θ x=0)->
 (∀m∈ms,∀k e sz rows,H[m]?=some (.row k e sz rows)->zP κ Θ ρ w m k rows)->∃bs ts us,AS w vs es bs ts us/\RP Θ ρ qs bs ts us:=by
 intro ds
 induction ds with
 |nil=>
  intro es zs ms qs vs h _ hl _ _;simp only[A7,aq,cW]at h;obtain⟨rfl,rfl,rfl⟩:=h;cases vs with
  |nil=>exact⟨[],[],[],.nil,RP.nil (by simp)⟩
  |cons=>simp at hl
 |cons d ds ih=>
  intro es zs ms qs vs h hnd hl hr hm;simp only[A7]at h;split at h
  ·rename_i e m q es' ms' qs' h1 h2;cases h;cases vs with
   |nil=>simp at hl
   |cons v vs=>
    obtain⟨v',b0,Z4,hr0,yC⟩:=hr 0 d rfl;simp at Z4;subst Z4;obtain⟨c1,t1,u1,q1,q2⟩:=Xu hf hq hk1 h1 (bM.1 hnd).1 hr0 yC (fun x hx=>hm x (by simp[hx]));obtain⟨c2,t2,u2,p1,p2⟩:=ih h2 (bM.1 hnd).2.1 (by simpa using hl) (fun i d' Hr=>by
     obtain⟨v',b,k1,k2⟩:=hr (i+1) d' (by simpa using Hr);exact⟨v',b,by simpa using k1,k2⟩) (fun x hx=>hm x (by simp[hx]))
    exact⟨_,_,_,.cons _ _ _ _ _ _ _ _ _ _ q1 p1,RP.app hf hnd q2 p2⟩
  ·cases h
end
theorem Me{H:bW}{z:Option (Nat×Nat)}{d e:D}{ms qs:aX}(h:DV H z d=some (e,ms,qs)):(∀m∈ms,∃e sz rows,H[m]?=some (.row .sh e sz rows))/\∀m∈qs,∃e sz rows,H[m]?=some (.row .uq e sz rows):=by
 cases d with
 |acc m=>
  simp only[DV]at h;split at h
  ·rename_i k e' sz rows hH;split at h
   ·cases h;exact⟨by simp,fun m' hm'=>by simp at hm';subst hm';exact⟨_,_,_,hH⟩⟩
   ·cases h;exact⟨fun m' hm'=>by simp at hm';subst hm';exact⟨_,_,_,hH⟩,by simp⟩
   ·cases h
   ·cases h
  ·cases h
 |_=>simp[DV]at h<;>(try(obtain⟨_,rfl,rfl⟩:=h;simp))
theorem R3{H:bW}:∀ {ds es:aP} {zs:List (Option (Nat×Nat))} {ms qs:aX},Km H zs ds=some (es,ms,qs)->(∀m∈ms,∃e sz rows,H[m]?=some (.row .sh e sz rows))/\∀m∈qs,∃e sz rows,H[m]?=some (.row .uq e sz rows):=by
 intro ds
 induction ds with
 |nil=>intro es zs ms qs h;simp only[Km,aq,cW]at h;obtain⟨rfl,rfl,rfl⟩:=h;simp
 |cons d ds ih=>
  intro es zs ms qs h;simp only[Km]at h;split at h
  ·rename_i e m q es' ms' qs' h1 h2;cases h;have a1:=Me h1;have a2:=ih h2;refine⟨fun x hx=>?_,fun x hx=>?_⟩<;>rcases af.1 hx with hx|hx
   ·exact a1.1 x hx
   ·exact a2.1 x hx
   ·exact a1.2 x hx
   ·exact a2.2 x hx
  ·cases h
theorem SW{H:bW}{zs:List (Option (Nat×Nat))}{d e:D}{ms qs:aX}(h:SV H zs d=some (e,ms,qs)):(∀m∈ms,∃e sz rows,H[m]?=some (.row .sh e sz rows))/\∀m∈qs,∃e sz rows,H[m]?=some (.row .uq e sz rows):=by
 by_cases tO:∃ds,d=.agg ds
 ·obtain⟨ds,rfl⟩:=tO;simp only[SV]at h;split at h
  ·rename_i es ms' qs' h1;cases h;exact R3 h1
  ·cases h
 ·have e1:SV H zs d=DV H zs.head?.join d:=by cases d<;>first|rfl|exact absurd ⟨_,rfl⟩ tO
  rw[e1]at h;exact Me h
theorem vo{H:bW}:∀ {ds es:aP} {zs:List (List (Option (Nat×Nat)))} {ms qs:aX},A7 H zs ds=some (es,ms,qs)->(∀m∈ms,∃e sz rows,H[m]?=some (.row .sh e sz rows))/\∀m∈qs,∃e sz rows,H[m]?=some (.row .uq e sz rows):=by
 intro ds
 induction ds with
 |nil=>intro es zs ms qs h;simp only[A7,aq,cW]at h;obtain⟨rfl,rfl,rfl⟩:=h;simp
 |cons d ds ih=>
  intro es zs ms qs h;simp only[A7]at h;split at h
  ·rename_i e m q es' ms' qs' h1 h2;cases h;have a1:=SW h1;have a2:=ih h2;refine⟨fun x hx=>?_,fun x hx=>?_⟩<;>rcases af.1 hx with hx|hx
   ·exact a1.1 x hx
   ·exact a2.1 x hx
   ·exact a1.2 x hx
   ·exact a2.2 x hx
  ·cases h
theorem Good.of{f:FuncId}{fn:Func}{c:Code}{ds:aP}{d:D}(hf:P.funcs[f]?=some fn)(hb:fn.body=some c)(hn:(fn.name== "runtime.NumGoroutine")=false)
 (hl:ds.length<=fn.ntmps) (h:(∀d∈ds,ij d)->∀Γ:ul,Γ.nt=fn.ntmps->AW P Γ c (OJ P fn d) ⟨wY 0 ds,[]⟩):Good P f ds d:=by
 refine⟨⟨fn,hf,by simp[hb],hn⟩,?_⟩;intro w Θ args bs hvs hargs hz hown h1;obtain⟨hlen,LH⟩:=hargs.at;refine calls_of_wp hf hb ?_;let Γ:ul:=⟨w,Θ,fun _=>False,fn.ntmps,fun _=>False,hvs⟩
 have hs:dl Γ ⟨wY 0 ds,[]⟩ (fun _=>none) Θ {tmps:=args.toArray++Array.replicate (fn.ntmps-args.toArray.size) undef,defers:=[]} w:=by
  refine⟨rfl,?_,fun _ _=>rfl,by simp,?_,by simp,hown,fun b _ _=>⟨rfl,h1 b⟩,fun b hb=>by have:=h1 b;omega,⟨rfl,rfl,rfl,bR _,fun _ _ _=>rfl⟩,⟨fun _=>0,by simp,by simp,by simp⟩⟩
  ·simp[Γ];omega
  ·intro t;rw[Ek];simp only[vC,zN,wB];cases hd:ds[t]? with
   |none=>exact⟨[],.of (.any _),by simp⟩
   |some x=>
    obtain⟨v,b,k1,k2,k3⟩:=LH t x hd;refine⟨b,?_,fun y hy=>hz y (k3 y hy)⟩;have hlt:t<args.length:=(aF.1 k1).1;have:(args.toArray++Array.replicate (fn.ntmps-args.toArray.size) undef).getD t undef=v:=by
     rw[cF,eZ (by simpa using hlt)];simp[k1]
    rw[this];exact .of k2
 refine wp_mono (h hargs.rdb Γ rfl _ _ _ _ hs) ?_;rintro e a' w' ⟨Mx,κ0,Θ0,hs0,Ay,nz,Zk,es,ms,qs,hres,Wm,M5,K4,rfl⟩;obtain⟨ρ0,Zw⟩:=hs0.tJ;have AM:=vo Wm;obtain⟨Θ1,ρ1,hs1,hu1,hm1,NJ,UU⟩:=dl.FB ms hs0 Zw M5 (fun m hm=>by
  obtain⟨e,sz,rows,hH⟩:=AM.1 m hm;exact⟨_,e,sz,rows,hH,rfl⟩)
 obtain⟨vs,bs',m1,m2,m3,m4,m5⟩:=Br hs0 hres;have hq:∀m e sz rows,Mx.H[m]?=some (.row .uq e sz rows)->∃v cs ns,κ0 m=some v/\0<sz/\(∀r∈rows,r.length=sz)/\w'.ownsRow 0 e sz v rows.length cs/\l6 w' cs rows.flatten ns/\ns.Nodup/\(∀b∈ns,ρ1 b=m+1)/\∀g,v.ownBlock=some g->Θ1 g=m+2:=by
  intro m e sz rows hH;have hnm:m∉ms:=fun hm=>by
   obtain⟨e',sz',dN,DS⟩:=AM.1 m hm;rw[hH]at DS;cases DS
  have Mu:(kill Mx.H ms)[m]?=some (.row .uq e sz rows):=by rw[gM hnm];exact hH
  obtain⟨v,cs,ns,r1,r2,r3,r4,r5⟩:=hu1.rows m e sz rows Mu;obtain⟨p1,p2,v2,_,_,p3,_,_,p4,_⟩:=hs1.ob m _ Mu;rw[r1]at p3;cases p3;exact⟨v,cs,ns,r1,p1,p2,r2,r3,r4,r5,p4⟩
 obtain⟨c,ts,us,Bj,zw⟩:=zG (w:=w') (vs:=vs) (fun b hb=>(hu1.free b hb).1) hq hs0.oM Wm K4 (by omega) (fun i d hd=>by
  obtain⟨v,b,k1,k2,k3⟩:=m4 i d hd;exact⟨v,b,k1,k2,fun x hx=>NJ x (m5 x (k3 x hx))⟩) hm1
 have Jz:∃v,(results fn a'.tmps).run P w'=.ok v w'/\zQ w' v (JA es) c ts us:=by
  have hrun:(results fn a'.tmps).run P w'=.ok (if h:vs.toArray.size=1 then vs.toArray[0]else .tuple vs.toArray) w':=by
   rw[results_eq,mL];simp[m1]
  cases Bj with
  |nil=>exact⟨.tuple #[],by simpa using hrun,.iE [] [] [] [] [] .nil⟩
  |cons v vs d es b1 b2 t1 t2 u1 u2 hv sS=>
   cases sS with
   |nil=>
    simp only[dA];exact⟨v,by simpa using hrun,.v hv⟩
   |cons v2 vs d2 es b3 b4 t3 t4 u3 u4 GS sS=>exact⟨.tuple (v::v2::vs).toArray,by simpa using hrun,.iE _ _ _ _ _ (.cons _ _ _ _ _ _ _ _ _ _ hv (.cons _ _ _ _ _ _ _ _ _ _ GS sS))⟩
 obtain⟨v,S5,NH⟩:=Jz;have Lz:Below w.heap.size w w':=⟨hs1.stays.os,hs1.stays.tape,hs1.stays.output,hs1.stays.size,fun b hb=>hs1.stays.block b hb (fun h=>h)⟩
 have No:∀b,yH Γ b->w.heap.size<=b:=fun b h=>by
  rcases h with h|h
  ·exact h
  ·exact h.elim
 have hwr:∀b∈us,w.heap.size<=b/\Wr w' b:=by
  intro b hb';rcases zw.mem b hb' with h|⟨m,hm,hρ⟩
  ·obtain⟨⟨m,hm,hΘ⟩,_⟩:=zw.top b h;refine⟨No b (hs1.mine b (by omega)),?_⟩;obtain⟨e,sz,rows,hH⟩:=AM.2 m hm;have:=zw;exact LW NH b h
  ·have:=hu1.free b (by omega);exact⟨this.2.1.elim (No b) False.elim,this.2.2⟩
 have post:a'.defers=[]/\∃v,(results fn a'.tmps).run P w'=.ok v w'/\∃u bs' ts us,Ending.returned v=.returned u/\Below w.heap.size w w'/\zQ w' u (JA es) bs' ts us/\(∀b∈bs',b<w.heap.size->Θ b=0)/\(∀b∈bs',b∉ts)/\us.Nodup/\
  (∀b∈us,w.heap.size<=b/\Wr w' b)/\∀b∈ts,b∈us:=by
  refine⟨hs0.defers,v,S5,v,c,ts,us,rfl,Lz,NH,fun b hb' hlt=>?_,fun b hb' ht=>?_,zw.nd,hwr,fun b hb'=>(zw.top b hb').2⟩
  ·have he:Θ1 b=Θ b:=(hs1.old b hlt (fun h=>h)).1;rw[<-he];exact zw.zero b hb'
  ·obtain⟨⟨m,_,hΘ⟩,_⟩:=zw.top b ht;have:=zw.zero b hb';omega
 rcases Ay with rfl|rfl
 ·exact post
 ·exact post
end
end Go.Cx
