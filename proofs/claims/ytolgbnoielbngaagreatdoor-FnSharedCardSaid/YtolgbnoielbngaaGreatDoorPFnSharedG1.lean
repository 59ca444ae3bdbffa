/- The core of an abstract reading of Go's data: what a value shows in memory (D), which blocks it uses, and that this stays where those blocks stay. No condition; plain lemmas. -/
import Derived.WalkKit
import Derived.ProofKit
import Derived.Deep.LoopGhost
import Derived.MapKept
import Derived.Great.BuildSlice
import Derived.Maps.AppendAt
set_option linter.unusedVariables false
set_option linter.unusedSimpArgs false
namespace Go.Cx
open Go.RowKit
set_option linter.defProp false
def aA:=@Option.bind_some
def aB:=@List.getElem?_eq_some_iff
def aD:=@List.mem_of_getElem?
def aJ:=@List.mem_append
def aL:=@Bool.and_eq_true
def aM:=@List.getElem?_eq_getElem
def aN:=@cond_true
def aP:=@Option.some.injEq
def aR:=@List.all_eq_true
def aS:=@List.getElem?_append_left
def aT:=@List.length_cons
def aU:=@List.getElem?_append_right
def aV:=@Array.getElem?_eq_some_iff
def aY:=@List.nodup_append
def aa:=@cond_false
def af:=@List.length_append
def ai:=@if_neg
def aq:=@List.mem_cons
def au:=@List.mem_range
def ax:=@List.map_cons
def ay:=@List.length_map
def az:=@List.map_append
def b8:=@decide_eq_true_eq
def b9:=@Nat.le_refl
def bD:=@if_pos
def bE:=@List.getElem?_set_ne
def bG:=@List.length_take
def bH:=@List.length_nil
def bI:=@List.mem_filterMap
def bJ:=@List.take_append_drop
def bK:=@List.getElem?_map
def bL:=@List.mem_of_mem_take
def bN:=@List.map_drop
def bO:=@Bool.eq_iff_iff
def bP:=@Array.getD_eq_getD_getElem?
def bQ:=@List.mem_flatMap
def bU:=@List.map_take
def bV:=@of_decide_eq_true
def bW:=@Option.map_some
def bY:=@List.getElem?_eq_none
def bZ:=@Array.getElem?_eq_getElem
def bf:=@List.getElem?_take
def bg:=@List.map_nil
def bn:=@Prod.mk.injEq
def bq:=@beq_iff_eq
def br:=@List.eq_nil_of_length_eq_zero
def bu:=@beq_eq_false_iff_ne
def cB:=@List.any_eq_true
def cC:=@Nat.zero_add
def cE:=@List.mem_map
def cF:=@Nat.lt_of_lt_of_le
def cK:=@Nat.add_sub_cancel_left
def cL:=@decide_eq_true
def cM:=@List.getElem?_set_self
def cO:=@List.mem_reverse
def cP:=@Nat.lt_or_ge
def cS:=@Classical.byContradiction
def cX:=@Bool.not_true
def cY:=@List.mem_iff_getElem
def cZ:=@Option.isSome_iff_exists
def cg:=@List.append_assoc
def ck:=@List.getElem?_drop
def cv:=@List.all_cons
def dA:=@Nat.min_eq_left
def dB:=@List.flatten_cons
def dM:=@List.getElem?_toArray
def dP:=@Nat.mul_le_mul_left
def dS:=@List.append_nil
def dU:=@List.drop_left'
def dV:=@List.nodup_cons
def dW:=@Array.getElem?_append_left
def dX:=@List.drop_drop
def dY:=@List.eq_nil_iff_forall_not_mem
def dZ:=@List.mem_flatten
def eC:=@List.getElem?_set
def eF:=@List.mem_of_mem_drop
def eG:=@Nat.mul_le_mul_right
def eU:=@Array.toList_map
def ea:=@Option.mem_toList
def ec:=@List.getElem?_of_mem
def er:=@List.foldl_cons
def ew:=@List.mem_filter
def ez:=@List.take_left'
def fL:=@List.flatten_append
def fS:=@List.flatMap_cons
def fU:=@Array.getElem?_toList
def fX:=@Nat.add_assoc
def fc:=@Nat.le_trans
def gD:=@Array.toArray_toList
def gE:=@List.getElem?_cons_succ
def gF:=@Nat.add_mul
def gW:=@List.getD_eq_getElem?_getD
def gX:=@List.take_of_length_le
def gr:=@Array.toList_append
def hO:=@Bool.or_eq_true
def hY:=@decide_eq_false
def iF:=@List.cons_append
def iG:=@List.getElem_mem
def iH:=@List.pairwise_cons
def j0:=@Bool.not_eq_true'
def j4:=@Option.bind_eq_some_iff
def j9:=@List.nil_append
def jD:=@List.map_congr_left
def jQ:=@Nat.one_mul
def jY:=@List.length_drop
def jZ:=@List.map_toArray
def ji:=@Bool.not_false
def jr:=@Nat.le_of_ble_eq_true
def jv:=@Array.mapM_eq_mapM_toList
def jy:=@List.length_set
def kA:=@List.ext_getElem?
def kM:=@List.length_erase_of_mem
def kV:=@if_true
def kf:=@beq_self_eq_true
def l9:=@Array.getElem?_eq_none
def lB:=@List.mem_singleton
def lC:=@Ne.symm
def lf:=@Bool.false_or
def mP:=@List.take_take
def mW:=@Array.toList_inj
def mX:=@Nat.sub_self
def mY:=@Option.getD_some
def mo:=@List.exists_mem_of_ne_nil
def mq:=@List.mem_or_eq_of_mem_set
def n9:=@Array.length_toList
def nA:=@List.take_succ_cons
def nG:=@Bool.or_false
def nH:=@List.getElem?_take_of_lt
def nQ:=@Option.some.inj
def nU:=@Array.all_eq_true'
def nV:=@Nat.lt_or_gt_of_ne
def o7:=@List.size_toArray
def o8:=@Nat.lt_trichotomy
def oO:=@Array.getElem?_modify
def oP:=@List.set_append_right
def oT:=@Bool.not_eq_true
def om:=@List.Pairwise.filter
def pM:=@Nat.not_lt_zero
def pN:=@Option.map_none
def pY:=@List.filterMap_cons
def qE:=@Nat.add_zero
def qV:=@Array.getElem_append_right
def qW:=@Bool.false_eq_true
def qX:=@List.filter_filter
def qY:=@Nat.add_sub_cancel
def qZ:=@true_and
def rL:=@Array.getElem_append_left
def rM:=@List.drop_eq_getElem_cons
def rT:=@List.filter_congr
def ru:=@List.eq_of_mem_replicate
def sH:=@List.getElem?_cons_zero
def sI:=@List.nodup_range
def sn:=@Int.le_of_lt
def sr:=@Int.le_trans
def su:=@List.drop_of_length_le
def sv:=@List.getElem_cons_drop
def sw:=@List.length_pos_of_mem
def sx:=@Nat.sub_zero
def tY:=@Int.ediv_nonneg
def tZ:=@Int.emod_nonneg
def u9:=@List.length_replicate
def uA:=@List.singleton_append
def uc:=@List.mapM_cons
def ud:=@Nat.zero_le
def ue:=@if_false
def x6:=@Bool.true_and
def x7:=@List.any_cons
def yF:=@List.all_map
def yG:=@List.any_nil
def zX:=@not_or
abbrev Bytes:=List UInt8
inductive D where
 |any
 |nil
 |int (k:IntKind) (n:Int)
 |bool (b:Bool)
 |str (s:Bytes)
 |sl (rows:List (List D))
 |agg (cells:List D)
 |iz (vs:List D)
 |ep (row:List D) (off:Nat)
 |acc (id:Nat)
 |ptr (id off:Nat)
 |op (id i sz off:Nat)
 |val (v:Value)
 |fr (e:TypeId) (sz:Nat) (rows:List (List D))
 |fs (e:TypeId) (sz:Nat) (rows:List (List D))
 |pt (cells:List D)
 |Su (b:Bool)
def mL(k:IntKind)(n:Int):Prop:=k.min<=n/\n<=k.max
instance (k:IntKind) (n:Int):Decidable (mL k n):=by unfold mL;infer_instance
theorem mL.wrap(k:IntKind)(n:Int):mL k (k.wrap n):=by
 unfold mL;cases k<;>simp[IntKind.min,IntKind.max,IntKind.wrap,IntKind.bits,IntKind.signed]<;>(try split)<;>omega
theorem mL.i64{n:Int}:mL .i64 n↔ -9223372036854775808<=n/\n<=9223372036854775807:=by
 simp[mL,IntKind.min,IntKind.max,IntKind.bits,IntKind.signed]
theorem mL.u8{n:Int}:mL .u8 n↔0<=n/\n<=255:=by
 simp[mL,IntKind.min,IntKind.max,IntKind.bits,IntKind.signed]
theorem mL.zero(k:IntKind):mL k 0:=by
 unfold mL;cases k<;>simp[IntKind.min,IntKind.max,IntKind.bits,IntKind.signed]
theorem mL.down{k:IntKind}{n m:Int}(h:mL k n)(h0:0<=m)(h1:m<=n):mL k m:=
 ⟨sr (mL.zero k).1 h0,sr h1 h.2⟩
mutual
inductive Rd(w:World):Value->D->List Nat->Prop
 |any (v:Value):Rd w v .any []
 |nil:Rd w (.slice none 0 0) .nil []
 |int (k:IntKind) (n:Int):mL k n->Rd w (.int k n) (.int k n) []
 |bool (b:Bool):Rd w (.bool b) (.bool b) []
 |str (s:ByteArray):s.size<=maxLen->Rd w (.string s) (.str s.data.toList) []
 |val (v:Value):Rd w v (.val v) []
 |qD:Rd w (.slice none 0 0) (.sl []) []
 |jP (a:Addr) (cap:Nat):cap<=maxLen->Rd w (.slice (some a) 0 cap) (.sl []) []
 |sl (b off cap sz:Nat) (rows:List (List D)) (cs:List Value) (bs:List Nat):b<w.heap.size->rows.length<=cap->cap<=maxLen->
  (∀r∈rows,r.length=sz)->(∀j c,cs[j]?=some c->w.cell? ⟨b,off+j,none⟩=some c)->iB w cs rows.flatten bs->
  Rd w (.slice (some ⟨b,off,none⟩) rows.length cap) (.sl rows) (b::bs)
 |agg (cs:List Value) (ds:List D) (bs:List Nat):iB w cs ds bs->Rd w (.agg cs.toArray) (.agg ds) bs
 |ep (b off:Nat) (cs:List Value) (row:List D) (o:Nat) (bs:List Nat):b<w.heap.size->(∀j c,cs[j]?=some c->w.cell? ⟨b,off+j,none⟩=some c)->
  iB w cs row bs->Rd w (.pointer (some ⟨b,off+o,none⟩)) (.ep row o) (b::bs)
 |K9:Rd w .nilIface (.Su false) []
 |KA (t:TypeId) (v:Value):Rd w (.iface t v) (.Su true) []
inductive iB(w:World):List Value->List D->List Nat->Prop
 |nil:iB w [] [] []
 |cons (v:Value) (vs:List Value) (d:D) (ds:List D) (b1 b2:List Nat):v.oneCell'=true->Rd w v d b1->iB w vs ds b2->iB w (v::vs) (d::ds) (b1++b2)
end
section
variable{w w':World}
theorem sJ{b o:Nat}(h:w'.heap[b]?=w.heap[b]?):w'.cell? ⟨b,o,none⟩=w.cell? ⟨b,o,none⟩:=World.cell?_of_block (a:=⟨b,o,none⟩) h
theorem z6{b:Nat}(hb:b<w.heap.size)(h:w'.heap[b]?=w.heap[b]?):b<w'.heap.size:=by
 rw[bZ hb]at h;exact(aV.1 h).1
theorem CY:
 (∀ {v d bs},Rd w v d bs->(∀b∈bs,w'.heap[b]?=w.heap[b]?)->Rd w' v d bs)/\
 (∀ {vs ds bs},iB w vs ds bs->(∀b∈bs,w'.heap[b]?=w.heap[b]?)->iB w' vs ds bs):=by
 have key:∀(m1:∀v d bs,Rd w v d bs->Prop) (m2:∀vs ds bs,iB w vs ds bs->Prop),
  m1=(fun v d bs _=>(∀b∈bs,w'.heap[b]?=w.heap[b]?)->Rd w' v d bs)->m2=(fun vs ds bs _=>(∀b∈bs,w'.heap[b]?=w.heap[b]?)->iB w' vs ds bs)->
  (∀v d bs h,m1 v d bs h)/\(∀vs ds bs h,m2 vs ds bs h):=by
  intro m1 m2 e1 e2;subst e1;subst e2;constructor
  all_goals intro v d bs h
  ·refine Rd.rec (motive_1:=fun v d bs _=>(∀b∈bs,w'.heap[b]?=w.heap[b]?)->Rd w' v d bs) (motive_2:=fun vs ds bs _=>(∀b∈bs,w'.heap[b]?=w.heap[b]?)->iB w' vs ds bs) ?_ ?_ ?_ ?_ ?_ ?_ ?_ ?_ ?_ ?_ ?_ ?_ ?_ ?_ ?_ h
   ·intro v _;exact .any _
   ·intro _;exact .nil
   ·intro k n h _;exact .int _ _ h
   ·intro b _;exact .bool _
   ·intro s h _;exact .str _ h
   ·intro v _;exact .val _
   ·intro _;exact .qD
   ·intro a cap h _;exact .jP a cap h
   ·intro b off cap sz rows cs bs h0 h1 h2 h3 h4 _ ih hb;exact .sl b off cap sz rows cs bs (z6 h0 (hb b (by simp))) h1 h2 h3 (fun j c hc=>(sJ (hb b (by simp))).trans (h4 j c hc)) (ih (fun x hx=>hb x (by simp[hx])))
   ·intro cs ds bs _ ih hb;exact .agg cs ds bs (ih hb)
   ·intro b off cs row o bs h0 h4 _ ih hb;exact .ep b off cs row o bs (z6 h0 (hb b (by simp))) (fun j c hc=>(sJ (hb b (by simp))).trans (h4 j c hc)) (ih (fun x hx=>hb x (by simp[hx])))
   ·intro _;exact .K9
   ·intro t v _;exact .KA t v
   ·intro _;exact .nil
   ·intro v vs d ds b1 b2 h1 _ _ ih1 ih2 hb;exact .cons v vs d ds b1 b2 h1 (ih1 (fun x hx=>hb x (by simp[hx]))) (ih2 (fun x hx=>hb x (by simp[hx])))
  ·refine iB.rec (motive_1:=fun v d bs _=>(∀b∈bs,w'.heap[b]?=w.heap[b]?)->Rd w' v d bs) (motive_2:=fun vs ds bs _=>(∀b∈bs,w'.heap[b]?=w.heap[b]?)->iB w' vs ds bs) ?_ ?_ ?_ ?_ ?_ ?_ ?_ ?_ ?_ ?_ ?_ ?_ ?_ ?_ ?_ h
   ·intro v _;exact .any _
   ·intro _;exact .nil
   ·intro k n h _;exact .int _ _ h
   ·intro b _;exact .bool _
   ·intro s h _;exact .str _ h
   ·intro v _;exact .val _
   ·intro _;exact .qD
   ·intro a cap h _;exact .jP a cap h
   ·intro b off cap sz rows cs bs h0 h1 h2 h3 h4 _ ih hb;exact .sl b off cap sz rows cs bs (z6 h0 (hb b (by simp))) h1 h2 h3 (fun j c hc=>(sJ (hb b (by simp))).trans (h4 j c hc)) (ih (fun x hx=>hb x (by simp[hx])))
   ·intro cs ds bs _ ih hb;exact .agg cs ds bs (ih hb)
   ·intro b off cs row o bs h0 h4 _ ih hb;exact .ep b off cs row o bs (z6 h0 (hb b (by simp))) (fun j c hc=>(sJ (hb b (by simp))).trans (h4 j c hc)) (ih (fun x hx=>hb x (by simp[hx])))
   ·intro _;exact .K9
   ·intro t v _;exact .KA t v
   ·intro _;exact .nil
   ·intro v vs d ds b1 b2 h1 _ _ ih1 ih2 hb;exact .cons v vs d ds b1 b2 h1 (ih1 (fun x hx=>hb x (by simp[hx]))) (ih2 (fun x hx=>hb x (by simp[hx])))
 obtain⟨k1,k2⟩:=key _ _ rfl rfl;exact⟨fun h=>k1 _ _ _ h,fun h=>k2 _ _ _ h⟩
theorem Rd.keep{v:Value}{d:D}{bs:List Nat}(h:Rd w v d bs)(hb:∀b∈bs,w'.heap[b]?=w.heap[b]?):Rd w' v d bs:=CY.1 h hb
theorem iB.keep{vs:List Value}{ds:List D}{bs:List Nat}(h:iB w vs ds bs)(hb:∀b∈bs,w'.heap[b]?=w.heap[b]?):iB w' vs ds bs:=CY.2 h hb
theorem Rd.lt{v:Value}{d:D}{bs:List Nat}(h:Rd w v d bs):∀b∈bs,b<w.heap.size:=by
 refine Rd.rec (motive_1:=fun v d bs _=>∀b∈bs,b<w.heap.size) (motive_2:=fun vs ds bs _=>∀b∈bs,b<w.heap.size) ?_ ?_ ?_ ?_ ?_ ?_ ?_ ?_ ?_ ?_ ?_ ?_ ?_ ?_ ?_ h
 case refine_9=>
  intro b off cap sz rows cs bs h0 h1 h2 h3 h4 _ ih x hx;rcases aq.1 hx with rfl|hx
  ·exact h0
  ·exact ih x hx
 case refine_10=>intro cs ds bs _ ih;exact ih
 case refine_11=>
  intro b off cs row o bs h0 h4 _ ih x hx;rcases aq.1 hx with rfl|hx
  ·exact h0
  ·exact ih x hx
 case refine_15=>
  intro v vs d ds b1 b2 h1 _ _ ih1 ih2 x hx;rcases aJ.1 hx with hx|hx
  ·exact ih1 x hx
  ·exact ih2 x hx
 all_goals intros;simp_all
theorem iB.lt{vs:List Value}{ds:List D}{bs:List Nat}(h:iB w vs ds bs):∀b∈bs,b<w.heap.size:=by
 induction ds generalizing vs bs with
 |nil=>cases h;simp
 |cons d ds ih=>
  cases h with
  |cons v vs _ _ b1 b2 h1 h2 h3=>
   intro x hx;rcases aJ.1 hx with hx|hx
   ·exact h2.lt x hx
   ·exact ih h3 x hx
theorem iB.length{vs:List Value}{ds:List D}{bs:List Nat}(h:iB w vs ds bs):vs.length=ds.length:=by
 induction ds generalizing vs bs with
 |nil=>cases h;rfl
 |cons d ds ih=>cases h with|cons v vs _ _ b1 b2 h1 h2 h3=>simp[ih h3]
theorem iB.one{vs:List Value}{ds:List D}{bs:List Nat}(h:iB w vs ds bs):∀v∈vs,v.oneCell'=true:=by
 induction ds generalizing vs bs with
 |nil=>cases h;simp
 |cons d ds ih=>
  cases h with
  |cons v vs _ _ b1 b2 h1 h2 h3=>
   intro u hu;rcases aq.1 hu with rfl|hu
   ·exact h1
   ·exact ih h3 u hu
theorem iB.app{vs us:List Value}{ds es:List D}{bs cs:List Nat}(h:iB w vs ds bs)(k:iB w us es cs):iB w (vs++us) (ds++es) (bs++cs):=by
 induction ds generalizing vs bs with
 |nil=>cases h;simpa using k
 |cons d ds ih=>
  cases h with
  |cons v vs _ _ b1 b2 h1 h2 h3=>
   rw[cg];exact .cons _ _ _ _ _ _ h1 h2 (ih h3)
theorem iB.split{vs:List Value}{ds es:List D}{bs:List Nat}(h:iB w vs (ds++es) bs):
 ∃v1 v2 b1 b2,vs=v1++v2/\bs=b1++b2/\iB w v1 ds b1/\iB w v2 es b2:=by
 induction ds generalizing vs bs with
 |nil=>exact⟨[],vs,[],bs,by simp,by simp,.nil,h⟩
 |cons d ds ih=>
  cases h with
  |cons v vs _ _ b1 b2 h1 h2 h3=>
   obtain⟨v1,v2,c1,c2,rfl,rfl,k1,k2⟩:=ih h3;exact⟨v::v1,v2,b1++c1,c2,by simp,by simp,.cons _ _ _ _ _ _ h1 h2 k1,k2⟩
theorem iB.mid{vs:List Value}{ds:List D}{bs:List Nat}(h:iB w vs ds bs)(i n:Nat):
 ∃b,iB w ((vs.drop i).take n) ((ds.drop i).take n) b/\∀x∈b,x∈bs:=by
 have e:ds=ds.take i++((ds.drop i).take n++(ds.drop i).drop n):=by rw[bJ,bJ]
 rw[e]at h;obtain⟨v1,v2,b1,b2,rfl,rfl,k1,k2⟩:=h.split;obtain⟨v3,v4,b3,b4,rfl,rfl,k3,k4⟩:=k2.split;refine⟨b3,?_,by intro x hx;simp[hx]⟩;have l1:=k1.length;have l3:=k3.length;by_cases hi:i<=ds.length
 ·have h1:v1.length=i:=by rw[l1];simp[hi]
  rw[dU h1];by_cases hn:n<=(ds.drop i).length
  ·have h3:v3.length=n:=by rw[l3,bG];omega
   rw[ez h3];exact k3
  ·have h4:v4.length=0:=by rw[k4.length];simp at hn⊢;omega
   have h4':v4=[]:=br h4;subst h4';have h3:v3.length<=n:=by rw[l3,bG];omega
   simp only[dS];rw[gX h3];exact k3
 ·have h5:ds.drop i=[]:=List.drop_eq_nil_of_le (by omega);rw[h5]at k3 k4⊢;simp only[List.take_nil,List.drop_nil]at k3 k4⊢;cases k3;cases k4;have h1:v1.length<=i:=by rw[l1];simp;omega
  simp[su h1];exact .nil
theorem iB.at{vs:List Value}{ds:List D}{bs:List Nat}(h:iB w vs ds bs){i:Nat}{d:D}(hd:ds[i]?=some d):
 ∃v b,vs[i]?=some v/\v.oneCell'=true/\Rd w v d b/\∀x∈b,x∈bs:=by
 induction ds generalizing vs bs i with
 |nil=>simp at hd
 |cons e ds ih=>
  cases h with
  |cons v vs _ _ b1 b2 h1 h2 h3=>
   cases i with
   |zero=>simp at hd;subst hd;exact⟨v,b1,by simp,h1,h2,by intro x hx;simp[hx]⟩
   |succ i=>
    simp at hd;obtain⟨u,b,k1,k2,k3,k4⟩:=ih h3 hd;exact⟨u,b,by simpa using k1,k2,k3,fun x hx=>by simp[k4 x hx]⟩
end
theorem iq{α:Type}{rows:List (List α)}{sz:Nat}(h:∀r∈rows,r.length=sz):rows.flatten.length=rows.length*sz:=by
 induction rows with
 |nil=>simp
 |cons r rows ih=>
  simp only[dB,af,aT];rw[ih (fun x hx=>h x (by simp[hx])),h r (by simp),gF];omega
theorem vT{α:Type}{rows:List (List α)}{sz:Nat}(h:∀r∈rows,r.length=sz){i:Nat}{r:List α}(hr:rows[i]?=some r):
 (rows.flatten.drop (i*sz)).take sz=r:=by
 induction rows generalizing i with
 |nil=>simp at hr
 |cons s rows ih=>
  have hs:=h s (by simp);cases i with
  |zero=>
   simp at hr;subst hr;simp only[Nat.zero_mul,List.drop_zero,dB];exact ez hs
  |succ i=>
   simp only[gE]at hr;have:=ih (fun x hx=>h x (by simp[hx])) hr;rw[dB,gF,jQ,Nat.add_comm,<-dX,dU hs];exact this
def AI(e:TypeId):Option (Nat×Nat×TypeId×Nat):=none
def ny(e:TypeId)(i:Nat):Option (TypeId×Nat):=match AI e with
 |some (m,off,t)=>if i%m=off then some t else none
 |none=>none
def JP(e:TypeId)(sz:Nat):Bool:=match AI e with
 |some (m,_,_)=>m==sz
 |none=>true
theorem sQ{e:TypeId}(h:AI e=none)(i:Nat):ny e i=none:=by simp[ny,h]
theorem FQ{e:TypeId}{sz:Nat}(h:JP e sz=true)(i n:Nat):ny e (i+n*sz)=ny e i:=by
 unfold ny;unfold JP at h;cases hf:AI e with
 |none=>rfl
 |some x=>
  obtain⟨m,off,t⟩:=x;rw[hf]at h;have e1:m=sz:=by simpa using h
  subst e1;simp only[Nat.add_mul_mod_self_right]
section
variable{w w':World}
def AF(w:World)(t:TypeId×Nat)(v:Value)(d:D)(bs:List Nat):Prop:=
 (d=.any/\bs=[])\/∃rows cs ns,d=.sl rows/\0<t.2/\(∀r∈rows,r.length=t.2)/\w.ownsRow 0 t.1 t.2 v rows.length cs/\iB w cs rows.flatten ns/\bs=v.ownBlock.toList++ns
theorem zF{e:TypeId}{sz n:Nat}{v:Value}{cs:List Value}(h:w.ownsRow 0 e sz v n cs)(hb:∀g,v.ownBlock=some g->w'.heap[g]?=w.heap[g]?):w'.ownsRow 0 e sz v n cs:=by
 refine⟨h.1,?_⟩;rcases h.2 with hn|⟨g,cap,cur,rfl,h1,h2,rest⟩
 ·exact .inl hn
 ·exact .inr ⟨g,cap,cur,rfl,h1,(hb g (by simp[Value.ownBlock])).trans h2,rest⟩
theorem AF.keep{t:TypeId×Nat}{v:Value}{d:D}{bs:List Nat}(h:AF w t v d bs)(hb:∀b∈bs,w'.heap[b]?=w.heap[b]?):AF w' t v d bs:=by
 rcases h with h|⟨rows,cs,ns,rfl,h1,h2,h3,h4,rfl⟩
 ·exact .inl h
 ·exact .inr ⟨rows,cs,ns,rfl,h1,h2,zF h3 (fun g hg=>hb g (by simp[hg])),h4.keep (fun b hx=>hb b (by simp[hx])),rfl⟩
inductive oq(w:World)(f:Nat->Option (TypeId×Nat)):Nat->List Value->List D->List Nat->Prop
 |nil (i:Nat):oq w f i [] [] []
 |cons (i:Nat) (v:Value) (vs:List Value) (d:D) (ds:List D) (b1 b2:List Nat):v.oneCell'=true->Rd w v d b1->(∀t,f i=some t->AF w t v d b1)->oq w f (i+1) vs ds b2->oq w f i (v::vs) (d::ds) (b1++b2)
variable{f:Nat->Option (TypeId×Nat)}
theorem oq.rd{i:Nat}{vs:List Value}{ds:List D}{bs:List Nat}(h:oq w f i vs ds bs):iB w vs ds bs:=by
 induction ds generalizing vs bs i with
 |nil=>cases h;exact .nil
 |cons d ds ih=>cases h with|cons _ v vs _ _ b1 b2 h1 h2 _ h3=>exact .cons _ _ _ _ _ _ h1 h2 (ih h3)
theorem oq.of{i:Nat}{vs:List Value}{ds:List D}{bs:List Nat}(h:iB w vs ds bs)(hf:∀j,f j=none):oq w f i vs ds bs:=by
 induction ds generalizing vs bs i with
 |nil=>cases h;exact .nil _
 |cons d ds ih=>cases h with|cons v vs _ _ b1 b2 h1 h2 h3=>exact .cons _ _ _ _ _ _ _ h1 h2 (fun t ht=>by rw[hf]at ht;cases ht) (ih h3)
theorem oq.keep{i:Nat}{vs:List Value}{ds:List D}{bs:List Nat}(h:oq w f i vs ds bs)(hb:∀b∈bs,w'.heap[b]?=w.heap[b]?):oq w' f i vs ds bs:=by
 induction ds generalizing vs bs i with
 |nil=>cases h;exact .nil _
 |cons d ds ih=>
  cases h with
  |cons _ v vs _ _ b1 b2 h1 h2 h4 h3=>
   exact .cons _ _ _ _ _ _ _ h1 (h2.keep (fun b hx=>hb b (by simp[hx]))) (fun t ht=>(h4 t ht).keep (fun b hx=>hb b (by simp[hx]))) (ih h3 (fun b hx=>hb b (by simp[hx])))
theorem oq.lt{i:Nat}{vs:List Value}{ds:List D}{bs:List Nat}(h:oq w f i vs ds bs):∀b∈bs,b<w.heap.size:=h.rd.lt
theorem oq.length{i:Nat}{vs:List Value}{ds:List D}{bs:List Nat}(h:oq w f i vs ds bs):vs.length=ds.length:=h.rd.length
theorem oq.app{i:Nat}{vs us:List Value}{ds es:List D}{bs cs:List Nat}(h:oq w f i vs ds bs)(k:oq w f (i+ds.length) us es cs):oq w f i (vs++us) (ds++es) (bs++cs):=by
 induction ds generalizing vs bs i with
 |nil=>cases h;simpa using k
 |cons d ds ih=>
  cases h with
  |cons _ v vs _ _ b1 b2 h1 h2 h4 h3=>
   rw[cg];exact .cons _ _ _ _ _ _ _ h1 h2 h4 (ih h3 (by rw[aT]at k;rwa[show i+1+ds.length=i+(ds.length+1)by omega]))
theorem oq.split{i:Nat}{vs:List Value}{ds es:List D}{bs:List Nat}(h:oq w f i vs (ds++es) bs):
 ∃v1 v2 b1 b2,vs=v1++v2/\bs=b1++b2/\oq w f i v1 ds b1/\oq w f (i+ds.length) v2 es b2:=by
 induction ds generalizing vs bs i with
 |nil=>exact⟨[],vs,[],bs,by simp,by simp,.nil _,h⟩
 |cons d ds ih=>
  cases h with
  |cons _ v vs _ _ b1 b2 h1 h2 h4 h3=>
   obtain⟨v1,v2,c1,c2,rfl,rfl,k1,k2⟩:=ih h3;exact⟨v::v1,v2,b1++c1,c2,by simp,by simp,.cons _ _ _ _ _ _ _ h1 h2 h4 k1,by rw[aT];rwa[show i+(ds.length+1)=i+1+ds.length by omega]⟩
theorem oq.at_{i k:Nat}{vs:List Value}{ds:List D}{bs:List Nat}(h:oq w f i vs ds bs)(hf:∀j,f (k+j)=f (i+j)):oq w f k vs ds bs:=by
 induction ds generalizing vs bs i k with
 |nil=>cases h;exact .nil _
 |cons d ds ih=>
  cases h with
  |cons _ v vs _ _ b1 b2 h1 h2 h4 h3=>
   exact .cons _ _ _ _ _ _ _ h1 h2 (fun t ht=>h4 t ((hf 0).symm.trans ht)) (ih h3 fun j=>by rw[fX,fX];exact hf (1+j))
theorem oq.rows{e:TypeId}{sz i n:Nat}{vs:List Value}{ds:List D}{bs:List Nat}(hk:JP e sz=true)(h:oq w (ny e) i vs ds bs):oq w (ny e) (i+n*sz) vs ds bs:=
 h.at_ fun j=>by rw[show i+n*sz+j=(i+j)+n*sz by omega];exact FQ hk _ _
end
end Go.Cx
namespace Go.Cx
open Go.RowKit
abbrev aC:=List Bytes
abbrev aG:=List D
abbrev aI:=List Nat
abbrev av:=List Value
abbrev bC:=List Int
def rF:List (Nat×(av->Prop)):=[(3,fun cs:av=>cs=[.int .u64 1,.int .u64 10,.int .u64 100,.int .u64 1000,.int .u64 10000,.int .u64 100000,.int .u64 1000000,.int .u64 10000000,.int .u64 100000000,.int .u64 1000000000,.int .u64 10000000000,.int .u64 100000000000,.int .u64 1000000000000,.int .u64 10000000000000,.int .u64 100000000000000,.int .u64 1000000000000000,.int .u64 10000000000000000,.int .u64 100000000000000000,.int .u64 1000000000000000000,.int .u64 10000000000000000000])]
def Qa(w:World)(B:Nat->Prop):Prop:=∀x∈rF,B x.1/\∃cs t z,w.heap[x.1]?=some (.cells cs t z)/\x.2 cs.toList
def C2(w:World)(X:Nat->Prop):Prop:=∃B:Nat->Prop,Qa w B/\∀b,B b->b<w.heap.size/\¬X b
def Dj:List (Nat×aG):=[]
def NG(g:Nat)(ds:aG):Prop:=∃p,(g,p)∈rF/\∀cs:av,p cs->∀(o:Nat) d,ds[o]?=some d->∃v,cs[o]?=some v/\∀w,Rd w v d []
theorem GP:∀x∈Dj,NG x.1 x.2:=by intro x hx;cases hx
def HN(g o:Nat):Option D:=(Dj.find? fun x=>x.1==g).bind fun x=>x.2[o]?
theorem LM{g o:Nat}{d:D}(h:HN g o=some d):∃ds,NG g ds/\ds[o]?=some d:=by
 unfold HN at h;cases hf:Dj.find? fun x=>x.1==g with
 |none=>rw[hf]at h;cases h
 |some x=>
  rw[hf,aA]at h;have h1:=List.find?_some hf;have h2:=List.mem_of_find?_eq_some hf;have e:x.1=g:=by simpa using h1
  exact⟨x.2,by rw[<-e];exact GP x h2,h⟩
theorem Qa.stays{w w':World}{B:Nat->Prop}(h:Qa w B)(hb:∀b,B b->w'.heap[b]?=w.heap[b]?):Qa w' B:=fun x hx=>by
 obtain⟨h1,cs,t,z,h2,h3⟩:=h x hx;exact⟨h1,cs,t,z,by rw[hb _ h1,h2],h3⟩
theorem C2.cells{w:World}{X:Nat->Prop}(h:C2 w X){g:Nat}{p:av->Prop}(hx:(g,p)∈rF):∃cs t z,w.heap[g]?=some (.cells cs t z)/\p cs.toList:=by
 obtain⟨B,h1,h2⟩:=h;exact(h1 _ hx).2
theorem C2.var{P:Program}{w:World}{X:Nat->Prop}(h:C2 w X){g:Nat}{p:av->Prop}{name:String}(hx:(g,p)∈rF)(hg:P.globalNamed name=some g):∃cs,w.var? P name=some cs/\p cs.toList:=by
 obtain⟨cs,t,z,h1,h2⟩:=h.cells hx;refine⟨cs,?_,h2⟩;unfold World.var?;rw[hg,aA,h1]
theorem C2.PT{P:Program}{w:World}(hs:∀x∈rF,∃name cs,P.globalNamed name=some x.1/\w.var? P name=some cs/\x.2 cs.toList):C2 w fun _=>False:=by
 refine⟨fun b=>b∈rF.map Prod.fst,fun x hx=>?_,fun b hb=>?_⟩
 ·obtain⟨name,cs,h1,h2,h3⟩:=hs x hx;unfold World.var? at h2;rw[h1,aA]at h2;refine⟨cE.2 ⟨x,hx,rfl⟩,?_⟩;split at h2
  ·rename_i cs' t z h4;cases h2;exact⟨_,t,z,h4,h3⟩
  ·cases h2
 ·obtain⟨x,hx,rfl⟩:=cE.1 hb;obtain⟨name,cs,h1,h2,h3⟩:=hs x hx;unfold World.var? at h2;rw[h1,aA]at h2;refine⟨?_,id⟩;split at h2
  ·rename_i cs' t z h4;exact(aV.1 h4).1
  ·cases h2
end Go.Cx
namespace Go.Cx
open Go.RowKit
structure nR where
 W0:World
 Θ0:Nat->Nat
 X:Nat->Prop
 nt:Nat
 U:Nat->Prop
 vs:C2 W0 X
inductive RK where
 |sh
 |uq
 |cl
 |mv (n:Nat)
 |ho (p n:Nat)
def RK.DT:RK->Bool
 | .cl=>false
 |_=>true
def RK.ub:RK->Bool
 | .uq=>true
 | .ho _ _=>true
 |_=>false
def RK.hand:RK->Bool
 | .sh=>true
 | .uq=>true
 |_=>false
inductive Ob where
 |box (cells:aG)
 |yB (cells:aG) (v:Value)
 |row (k:RK) (e:TypeId) (sz:Nat) (rows:List aG)
 |oJ (sz:Nat) (rows:List aG) (v:Option Value)
 |hole (sz:Nat) (rows:List aG) (v:Option Value) (p n:Nat)
 |mp (kv:List (D×D))
 |tk (rows:List aG)
 |tf (e:TypeId) (sz:Nat) (rows:List aG)
 |gone
def Ob.Gg:Ob->Option aG
 | .box c=>some c
 | .yB c _=>some c
 |_=>none
def Ob.re(o:Ob)(c:aG):Ob:=match o with
 | .yB _ v=>.yB c v
 |_=>.box c
def HA(u:Value):Value:=match u with
 | .tuple ⟨[p,_]⟩=>p
 |u=>u
def vg(u:Value):Option Value:=match u with
 | .tuple ⟨[_,c]⟩=>some c
 |_=>none
def Ob.Gz(o:Ob)(off:Nat):Bool:=match o with
 | .yB cells _=> !(cells.length==3)||Nat.ble 1 off
 |_=>true
structure St where
 σ:List (Nat×D)
 H:List Ob
def lk:List (Nat×D)->Nat->D
 | [],_=>.any
 | (t,d)::r,n=>if n=t then d else lk r n
def D.Ep:Value->D
 | .bool b=>.bool b
 | .int k n=>if mL k n then .int k n else .val (.int k n)
 | .string s=>if s.size<=maxLen then .str s.data.toList else .val (.string s)
 | .slice none 0 0=>.nil
 |v=>.val v
def St.ev(st:St):Operand->D
 | .tmp t=>lk st.σ t
 | .const v=>D.Ep v
 | .global g=>.val (.pointer (some ⟨g,0,none⟩))
 | .func f=>.val (.func (.func f) #[] #[])
def St.set(st:St)(t:Nat)(d:D):St:=⟨(t,d)::st.σ,st.H⟩
def St.put(st:St)(t:Option Nat)(d:D):St:=match t with|some t=>st.set t d|none=>st
inductive qG(w:World)(κ:Nat->Option Value):Value->D->List Nat->Prop
 |pure {v:Value} {d:D} {bs:aI}:Rd w v d bs->qG w κ v d bs
 |acc (id:Nat) (v:Value):κ id=some v->qG w κ v (.acc id) []
 |ptr (id off b:Nat):κ id=some (.pointer (some ⟨b,0,none⟩))->qG w κ (.pointer (some ⟨b,off,none⟩)) (.ptr id off) []
 |op (id i sz off b o0 len cap:Nat):κ id=some (.slice (some ⟨b,o0,none⟩) len cap)->qG w κ (.pointer (some ⟨b,o0+(i*sz+off),none⟩)) (.op id i sz off) []
inductive dF(w:World)(κ:Nat->Option Value):List Value->List D->List Nat->Prop
 |nil:dF w κ [] [] []
 |cons (v:Value) (vs:av) (d:D) (ds:aG) (b1 b2:aI):v.oneCell'=true->qG w κ v d b1->dF w κ vs ds b2->dF w κ (v::vs) (d::ds) (b1++b2)
inductive B5(w:World)(κ:Nat->Option Value):Value->D->List Nat->Prop
 |cell {v:Value} {d:D} {bs:aI}:qG w κ v d bs->B5 w κ v d bs
 |agg (cs:av) (ds:aG) (bs:aI):dF w κ cs ds bs->B5 w κ (.agg cs.toArray) (.agg ds) bs
inductive tB(w:World)(κ:Nat->Option Value):List Value->List D->List Nat->Prop
 |nil:tB w κ [] [] []
 |cons (v:Value) (vs:av) (d:D) (ds:aG) (b1 b2:aI):B5 w κ v d b1->tB w κ vs ds b2->tB w κ (v::vs) (d::ds) (b1++b2)
inductive lD(w:World)(κ:Nat->Option Value):Value->D->List Nat->Prop
 |v {v:Value} {d:D} {bs:aI}:B5 w κ v d bs->lD w κ v d bs
 |iz (vs:av) (ds:aG) (bs:aI):tB w κ vs ds bs->lD w κ (.tuple vs.toArray) (.iz ds) bs
theorem lD.of{w:World}{κ:Nat->Option Value}{v:Value}{d:D}{bs:aI}(h:Rd w v d bs):lD w κ v d bs:=.v (.cell (.pure h))
def Wr(w:World)(b:Nat):Prop:=∃cs T,w.heap[b]?=some (.cells cs T (0,0))
def OK(w:World)(κ:Nat->Option Value)(v:Value)(rows:List aG)(p n:Nat)(bs:aI):Prop:=
 ∃b off cap cs ns,v=.slice (some ⟨b,off,none⟩) rows.length cap/\b<w.heap.size/\rows.length<=cap/\cap<=maxLen/\(∀j c,cs[j]?=some c->w.cell? ⟨b,off+j,none⟩=some c)/\iB w cs rows.flatten ns/\bs=b::ns/\
  ∃c,cs[p]?=some c/\κ n=some c
def pZ(w:World)(es:List MapEntry)(kv:List (D×D)):Prop:=
 es.length=kv.length/\∀(j:Nat) e p,es[j]?=some e->kv[j]?=some p->Rd w e.key p.1 []/\Rd w e.val p.2 []
theorem pZ.stay{w w':World}{es:List MapEntry}{kv:List (D×D)}(h:pZ w es kv):pZ w' es kv:=
 ⟨h.1,fun j e p h1 h2=>⟨(h.2 j e p h1 h2).1.keep (by simp),(h.2 j e p h1 h2).2.keep (by simp)⟩⟩
def Kept(w:World)(κ:Nat->Option Value)(id:Nat)(u:Value):Prop:=
 ∀c,vg u=some c->∀g cs T,κ id=some (.pointer (some ⟨g,0,none⟩))->w.heap[g]?=some (.cells cs T (0,0))->cs.size=3/\cs[0]?=some c
theorem Kept.same{w w':World}{κ κ':Nat->Option Value}{id id':Nat}{u:Value}{g:Nat}{cs:Array Value}{T:TypeId}(h:Kept w κ id u)(hk:κ id=some (.pointer (some ⟨g,0,none⟩)))(hg:w.heap[g]?=some (.cells cs T (0,0)))
 (hk':κ' id'=some (.pointer (some ⟨g,0,none⟩))) (hg':w'.heap[g]?=some (.cells cs T (0,0))):Kept w' κ' id' u:=by
 intro c hc g2 Sk T2 h2 h3;rw[hk']at h2;cases h2;rw[hg']at h3;cases h3;exact h c hc g cs T hk hg
def nh(w:World)(κ:Nat->Option Value)(Θ:Nat->Nat)(id:Nat):Ob->Prop
 | .box cells=>∃g cs T,κ id=some (.pointer (some ⟨g,0,none⟩))/\w.heap[g]?=some (.cells cs T (0,0))/\Θ g=id+2/\
  ∃bs,dF w κ cs.toList cells bs/\∀b∈bs,Θ b=0
 | .yB cells u=>(κ id=some (HA u)/\Kept w κ id u)/\∃g cs T,κ id=some (.pointer (some ⟨g,0,none⟩))/\w.heap[g]?=some (.cells cs T (0,0))/\Θ g=id+2/\
  ∃bs,dF w κ cs.toList cells bs/\∀b∈bs,Θ b=0
 | .row k e sz rows=>0<sz/\(∀r∈rows,r.length=sz)/\∃v cs bs,κ id=some v/\w.ownsRow 0 e sz v rows.length cs/\iB w cs rows.flatten bs/\
  (∀g,v.ownBlock=some g->Θ g=id+2)/\
  (match k with
   | .cl=>bs.Nodup/\(∀b∈bs,Θ b=id+2/\Wr w b)/\(∀g,v.ownBlock=some g->g∉bs)/\oq w (ny e) 0 cs rows.flatten bs
   |_=>∀b∈bs,Θ b=0)
 | .oJ sz rows u=>(∀r∈rows,r.length=sz)/\(∀x,u=some x->κ id=some x)/\∃v bs,κ id=some v/\Rd w v (.sl rows) bs/\bs.Nodup/\∀b∈bs,Θ b=id+2/\Wr w b
 | .hole sz rows u p n=>(∀r∈rows,r.length=sz)/\(∀x,u=some x->κ id=some x)/\∃v bs,κ id=some v/\OK w κ v rows p n bs/\bs.Nodup/\∀b∈bs,Θ b=id+2/\Wr w b
 | .mp kv=>∃g es clock,κ id=some (.map (some g))/\w.heap[g]?=some (.map es clock)/\Θ g=id+2/\pZ w es.toList kv
 | .tk rows=>∃v bs,κ id=some v/\Rd w v (.sl rows) bs/\∀b∈bs,Θ b=0
 | .tf e sz rows=>∃v bs,κ id=some v/\Rd w v (.sl rows) bs/\∀b∈bs,Θ b=0
 | .gone=>True
def qF(Γ:nR)(b:Nat):Prop:=Γ.W0.heap.size<=b\/Γ.X b
def GS(Γ:nR)(b:Nat):Prop:=qF Γ b\/Γ.U b
theorem nh.cs{w:World}{κ:Nat->Option Value}{Θ:Nat->Nat}{id:Nat}{o:Ob}{cells:aG}(hc:o.Gg=some cells)(h:nh w κ Θ id o):
 ∃g cs T,κ id=some (.pointer (some ⟨g,0,none⟩))/\w.heap[g]?=some (.cells cs T (0,0))/\Θ g=id+2/\∃bs,dF w κ cs.toList cells bs/\∀b∈bs,Θ b=0:=by
 cases o<;>simp only[Ob.Gg,reduceCtorEq,aP]at hc
 ·subst hc;exact h
 ·subst hc;exact h.2
theorem nh.Ry{w w':World}{κ κ':Nat->Option Value}{Θ Θ':Nat->Nat}{id:Nat}{o:Ob}{cells cells':aG}(hc:o.Gg=some cells)(h:nh w κ Θ id o)(hk:∀v,κ id=some v->κ' id=some v)
 (hK:∀c u,o=.yB c u->Kept w' κ' id u)
 (h':∃g cs T,κ' id=some (.pointer (some ⟨g,0,none⟩))/\w'.heap[g]?=some (.cells cs T (0,0))/\Θ' g=id+2/\∃bs,dF w' κ' cs.toList cells' bs/\∀b∈bs,Θ' b=0):nh w' κ' Θ' id (o.re cells'):=by
 cases o<;>simp only[Ob.Gg,reduceCtorEq,aP]at hc
 ·exact h'
 ·exact⟨⟨hk _ h.1.1,hK _ _ rfl⟩,h'⟩
structure GV(Γ:nR)(w:World):Prop where
 os:w.os=Γ.W0.os
 tape:w.tape=Γ.W0.tape
 output:w.output=Γ.W0.output
 size:Γ.W0.heap.size<=w.heap.size
 block:∀b,b<Γ.W0.heap.size->¬Γ.X b->w.heap[b]?=Γ.W0.heap[b]?
def Bv(w:World)(κ:Nat->Option Value)(ρ:Nat->Nat)(id:Nat):Ob->Prop
 | .row (.mv n) e sz rows=>∃v cs bs,κ id=some v/\w.ownsRow 0 e sz v rows.length cs/\iB w (cs.drop (n*sz)) (rows.drop n).flatten bs/\bs.Nodup/\∀b∈bs,ρ b=id+1
 | .row (.ho p n) e sz rows=>∃v cs bs,κ id=some v/\w.ownsRow 0 e sz v rows.length cs/\oq w (ny e) 0 cs rows.flatten bs/\bs.Nodup/\(∀b∈bs,ρ b=id+1)/\∃c,cs[p]?=some c/\κ n=some c
 | .tk rows=>∃v bs,κ id=some v/\Rd w v (.sl rows) bs/\bs.Nodup/\∀b∈bs,ρ b=id+1
 | .tf e sz rows=>∃v bs,κ id=some v/\AF w (e,sz) v (.sl rows) bs/\(∀b∈bs,b<w.heap.size)/\bs.Nodup/\∀b∈bs,ρ b=id+1
 |_=>True
structure qe(Γ:nR)(H:List Ob)(κ:Nat->Option Value)(Θ:Nat->Nat)(w:World)(ρ:Nat->Nat):Prop where
 free:∀b,ρ b≠0->Θ b=0/\GS Γ b/\Wr w b
 rows:∀id e sz rows,H[id]?=some (.row .uq e sz rows)->∃v cs bs,κ id=some v/\w.ownsRow 0 e sz v rows.length cs/\oq w (ny e) 0 cs rows.flatten bs/\bs.Nodup/\∀b∈bs,ρ b=id+1
 more:∀id o,H[id]?=some o->Bv w κ ρ id o
structure cR(Γ:nR)(st:St)(κ:Nat->Option Value)(Θ:Nat->Nat)(a:Act)(w:World):Prop where
 defers:a.defers=[]
 size:a.tmps.size=Γ.nt
 jx:∀id,st.H.length<=id->κ id=none
 jg:∀(id:Nat) u,κ id=some u->u.oneCell'=true
 slot:∀t,∃bs,lD w κ (a.tmps.getD t undef) (lk st.σ t) bs/\∀b∈bs,Θ b=0
 ob:∀id o,st.H[id]?=some o->nh w κ Θ id o
 own:∀b,Θ b≠0->b<w.heap.size
 old:∀b,b<Γ.W0.heap.size->¬Γ.X b->Θ b=Γ.Θ0 b/\Θ b<=1
 mine:∀b,2<=Θ b->qF Γ b
 stays:GV Γ w
 mG:∃ρ,qe Γ st.H κ Θ w ρ
theorem cR.QO{Γ:nR}{st:St}{κ:Nat->Option Value}{Θ:Nat->Nat}{a:Act}{w:World}(h:cR Γ st κ Θ a w):∃B:Nat->Prop,Qa w B/\∀b,B b->b<Γ.W0.heap.size/\b<w.heap.size/\¬Γ.X b:=by
 obtain⟨B,h1,h2⟩:=Γ.vs;exact⟨B,h1.stays fun b hb=>h.stays.block b (h2 b hb).1 (h2 b hb).2,fun b hb=>⟨(h2 b hb).1,cF (h2 b hb).1 h.stays.size,(h2 b hb).2⟩⟩
theorem cR.QN{Γ:nR}{st:St}{κ:Nat->Option Value}{Θ:Nat->Nat}{a:Act}{w:World}(h:cR Γ st κ Θ a w):C2 w fun _=>False:=by
 obtain⟨B,h1,h2⟩:=h.QO;exact⟨B,h1,fun b hb=>⟨(h2 b hb).2.1,id⟩⟩
def AW(P:Program)(Γ:nR)(c:Code)(Q:Exit->St->Prop)(st:St):Prop:=
 ∀κ Θ a w,cR Γ st κ Θ a w->c.wp P (fun e a' w'=>∃mm κ' Θ',cR Γ mm κ' Θ' a' w'/\Q e mm) a w
def AO(P:Program)(Γ:nR)(all:Array Oper)(ops:List Oper)(Q:Exit->St->Prop)(st:St):Prop:=
 ∀κ Θ a w,cR Γ st κ Θ a w->wpList P all (fun e a' w'=>∃mm κ' Θ',cR Γ mm κ' Θ' a' w'/\Q e mm) ops a w
section
variable{P:Program}{Γ:nR}{Q:Exit->St->Prop}{st:St}
theorem Lv(h:Q .normal st):AW P Γ .skip Q st:=fun _ _ _ _ hs=>wp_skip ⟨_,_,_,hs,h⟩
theorem OI(h:Q .ret st):AW P Γ .ret Q st:=fun _ _ _ _ hs=>wp_ret ⟨_,_,_,hs,h⟩
theorem Lt{id:Nat}(h:Q (.exit id) st):AW P Γ (.exit id) Q st:=fun _ _ _ _ hs=>wp_exit ⟨_,_,_,hs,h⟩
def LI(next:St->Prop)(Q:Exit->St->Prop):Exit->St->Prop
 | .normal,st=>next st
 |e,st=>Q e st
def D1(id:Nat)(Q:Exit->St->Prop):Exit->St->Prop
 | .exit id',st=>if id'=id then Q .normal st else Q (.exit id') st
 |e,st=>Q e st
theorem J4{x y:Code}(h:AW P Γ x (LI (AW P Γ y Q) Q) st):AW P Γ (.seq x y) Q st:=by
 intro κ Θ a w hs;refine wp_seq (wp_mono (h κ Θ a w hs) ?_);rintro e a' w' ⟨mm,κ',Θ',hs',hq⟩;cases e with
 |normal=>exact hq κ' Θ' a' w' hs'
 |exit id=>exact⟨_,_,_,hs',hq⟩
 |goto l=>exact⟨_,_,_,hs',hq⟩
 |ret=>exact⟨_,_,_,hs',hq⟩
 |panic c=>exact⟨_,_,_,hs',hq⟩
 |outgrown=>exact⟨_,_,_,hs',hq⟩
theorem J3{id:Nat}{c:Code}(h:AW P Γ c (D1 id Q) st):AW P Γ (.block id c) Q st:=by
 intro κ Θ a w hs;refine wp_block (wp_mono (h κ Θ a w hs) ?_);rintro e a' w' ⟨mm,κ',Θ',hs',hq⟩;cases e with
 |exit id'=>
  simp only[Exit.inBlock,D1]at hq⊢;split
  ·rename_i he;rw[bD he]at hq;exact⟨_,_,_,hs',hq⟩
  ·rename_i he;rw[ai he]at hq;exact⟨_,_,_,hs',hq⟩
 |normal=>exact⟨_,_,_,hs',hq⟩
 |goto l=>exact⟨_,_,_,hs',hq⟩
 |ret=>exact⟨_,_,_,hs',hq⟩
 |panic c=>exact⟨_,_,_,hs',hq⟩
 |outgrown=>exact⟨_,_,_,hs',hq⟩
theorem HW{id:Nat}{l:List Oper}(h:AO P Γ l.toArray l Q st):AW P Γ (.region id l.toArray false) Q st:=
 fun κ Θ a w hs=>wp_region_lit (h κ Θ a w hs)
theorem OG{all:Array Oper}(h:Q .normal st):AO P Γ all [] Q st:=fun _ _ _ _ hs=>wpList_nil ⟨_,_,_,hs,h⟩
end
section
variable{w:World}{κ:Nat->Option Value}{v:Value}{bs:aI}
theorem lD.kZ{k:IntKind}{n:Int}(h:lD w κ v (.int k n) bs):v=.int k n:=by
 cases h with|v h=>cases h with|cell h=>cases h with|pure h=>cases h;rfl
theorem lD.BS{k:IntKind}{n:Int}(h:lD w κ v (.int k n) bs):mL k n:=by
 cases h with|v h=>cases h with|cell h=>cases h with|pure h=>cases h with|int _ _ hr=>exact hr
theorem lD.LD{s:Bytes}(h:lD w κ v (.str s) bs):s.length<=maxLen:=by
 cases h with|v h=>cases h with|cell h=>cases h with|pure h=>cases h with|str x hx=>simpa using hx
theorem lD.o9{b:Bool}(h:lD w κ v (.bool b) bs):v=.bool b:=by
 cases h with|v h=>cases h with|cell h=>cases h with|pure h=>cases h;rfl
theorem lD.oh{s:Bytes}(h:lD w κ v (.str s) bs):∃x:ByteArray,v=.string x/\x.data.toList=s:=by
 cases h with|v h=>cases h with|cell h=>cases h with|pure h=>cases h;exact⟨_,rfl,rfl⟩
theorem lD.HM{u:Value}(h:lD w κ v (.val u) bs):v=u:=by
 cases h with|v h=>cases h with|cell h=>cases h with|pure h=>cases h;rfl
theorem lD.zC(h:lD w κ v .nil bs):v=.slice none 0 0:=by
 cases h with|v h=>cases h with|cell h=>cases h with|pure h=>cases h;rfl
theorem lD.Dc{rows:List aG}(h:lD w κ v (.sl rows) bs):Rd w v (.sl rows) bs:=by
 cases h with|v h=>cases h with|cell h=>cases h with|pure h=>exact h
theorem lD.FP{row:aG}{o:Nat}(h:lD w κ v (.ep row o) bs):Rd w v (.ep row o) bs:=by
 cases h with|v h=>cases h with|cell h=>cases h with|pure h=>exact h
theorem lD.nS{id:Nat}(h:lD w κ v (.acc id) bs):κ id=some v/\bs=[]:=by
 cases h with|v h=>cases h with|cell h=>cases h with|pure h=>cases h|acc _ _ hk=>exact⟨hk,rfl⟩
theorem lD.qP{id off:Nat}(h:lD w κ v (.ptr id off) bs):∃b,κ id=some (.pointer (some ⟨b,0,none⟩))/\v=.pointer (some ⟨b,off,none⟩):=by
 cases h with|v h=>cases h with|cell h=>cases h with|pure h=>cases h|ptr _ _ b hk=>exact⟨b,hk,rfl⟩
theorem lD.vm{id i sz off:Nat}(h:lD w κ v (.op id i sz off) bs):∃b o0 len cap,κ id=some (.slice (some ⟨b,o0,none⟩) len cap)/\v=.pointer (some ⟨b,o0+(i*sz+off),none⟩):=by
 cases h with|v h=>cases h with|cell h=>cases h with|pure h=>cases h|op _ _ _ _ b o0 len cap hk=>exact⟨b,o0,len,cap,hk,rfl⟩
theorem dF.tv{vs:av}{ds:aG}(h:iB w vs ds bs):dF w κ vs ds bs:=by
 induction ds generalizing vs bs with
 |nil=>cases h;exact .nil
 |cons d ds ih=>cases h with|cons v vs _ _ b1 b2 h1 h2 h3=>exact .cons _ _ _ _ _ _ h1 (.pure h2) (ih h3)
theorem qO{w:World}{e sz b o0 len cap n:Nat}{cs:av}(h:w.ownsRow 0 e sz (.slice (some ⟨b,o0,none⟩) len cap) n cs):o0=0:=by
 rcases h.2 with⟨h,_⟩|⟨g,cap,cur,h,_⟩
 ·cases h
 ·cases h;rfl
theorem lD.w8{ds:aG}(h:lD w κ v (.agg ds) bs):∃cs:av,v=.agg cs.toArray/\dF w κ cs ds bs:=by
 cases h with
 |v h=>
  cases h with
  |cell h=>cases h with|pure h=>cases h with|agg cs _ _ h=>exact⟨cs,rfl,dF.tv h⟩
  |agg cs _ _ h=>exact⟨cs,rfl,h⟩
theorem dF.length{vs:av}{ds:aG}(h:dF w κ vs ds bs):vs.length=ds.length:=by
 induction ds generalizing vs bs with
 |nil=>cases h;rfl
 |cons d ds ih=>cases h with|cons v vs _ _ b1 b2 h1 h2 h3=>simp[ih h3]
theorem dF.one{vs:av}{ds:aG}(h:dF w κ vs ds bs):∀v∈vs,v.oneCell'=true:=by
 induction ds generalizing vs bs with
 |nil=>cases h;simp
 |cons d ds ih=>
  cases h with
  |cons v vs _ _ b1 b2 h1 h2 h3=>
   intro u hu;rcases aq.1 hu with rfl|hu
   ·exact h1
   ·exact ih h3 u hu
theorem dF.app{vs us:av}{ds es:aG}{cs:aI}(h:dF w κ vs ds bs)(k:dF w κ us es cs):dF w κ (vs++us) (ds++es) (bs++cs):=by
 induction ds generalizing vs bs with
 |nil=>cases h;simpa using k
 |cons d ds ih=>
  cases h with
  |cons v vs _ _ b1 b2 h1 h2 h3=>
   rw[cg];exact .cons _ _ _ _ _ _ h1 h2 (ih h3)
theorem dF.split{vs:av}{ds es:aG}(h:dF w κ vs (ds++es) bs):
 ∃v1 v2 b1 b2,vs=v1++v2/\bs=b1++b2/\dF w κ v1 ds b1/\dF w κ v2 es b2:=by
 induction ds generalizing vs bs with
 |nil=>exact⟨[],vs,[],bs,by simp,by simp,.nil,h⟩
 |cons d ds ih=>
  cases h with
  |cons v vs _ _ b1 b2 h1 h2 h3=>
   obtain⟨v1,v2,c1,c2,rfl,rfl,k1,k2⟩:=ih h3;exact⟨v::v1,v2,b1++c1,c2,by simp,by simp,.cons _ _ _ _ _ _ h1 h2 k1,k2⟩
theorem dF.mid{vs:av}{ds:aG}(h:dF w κ vs ds bs)(i n:Nat)(hn:i+n<=ds.length):
 ∃b,dF w κ ((vs.drop i).take n) ((ds.drop i).take n) b/\∀x∈b,x∈bs:=by
 have e:ds=ds.take i++((ds.drop i).take n++(ds.drop i).drop n):=by rw[bJ,bJ]
 rw[e]at h;obtain⟨v1,v2,b1,b2,rfl,rfl,k1,k2⟩:=h.split;obtain⟨v3,v4,b3,b4,rfl,rfl,k3,k4⟩:=k2.split;refine⟨b3,?_,by intro x hx;simp[hx]⟩;have h1:v1.length=i:=by rw[k1.length];simp;omega
 have h3:v3.length=n:=by rw[k3.length];simp;omega
 rw[dU h1,ez h3];exact k3
theorem dF.at{vs:av}{ds:aG}(h:dF w κ vs ds bs){i:Nat}{d:D}(hd:ds[i]?=some d):
 ∃v b,vs[i]?=some v/\v.oneCell'=true/\qG w κ v d b/\∀x∈b,x∈bs:=by
 induction ds generalizing vs bs i with
 |nil=>simp at hd
 |cons e ds ih=>
  cases h with
  |cons v vs _ _ b1 b2 h1 h2 h3=>
   cases i with
   |zero=>simp at hd;subst hd;exact⟨v,b1,by simp,h1,h2,by intro x hx;simp[hx]⟩
   |succ i=>
    simp at hd;obtain⟨u,b,k1,k2,k3,k4⟩:=ih h3 hd;exact⟨u,b,by simpa using k1,k2,k3,fun x hx=>by simp[k4 x hx]⟩
theorem Fx(v:Value):lD w κ v (D.Ep v) []:=by
 unfold D.Ep;split
 ·exact .of (.bool _)
 ·split
  ·rename_i h;exact .of (.int _ _ h)
  ·exact .of (.val _)
 ·split
  ·rename_i h;exact .of (.str _ h)
  ·exact .of (.val _)
 ·exact .of .nil
 ·exact .of (.val _)
end
section
variable{Γ:nR}{st:St}{κ:Nat->Option Value}{Θ:Nat->Nat}{a:Act}{w:World}
theorem cR.ev(h:cR Γ st κ Θ a w)(x:Operand):∃bs,lD w κ (a.eval x) (st.ev x) bs/\∀b∈bs,Θ b=0:=by
 cases x with
 |tmp t=>exact h.slot t
 |const v=>exact⟨[],Fx v,by simp⟩
 |global g=>exact⟨[],.of (.val _),by simp⟩
 |func f=>exact⟨[],.of (.val _),by simp⟩
theorem cR.set(h:cR Γ st κ Θ a w){t:Nat}{v:Value}{d:D}{bs:aI}(ht:t<Γ.nt)(hv:lD w κ v d bs)(hb:∀b∈bs,Θ b=0):
 cR Γ (st.set t d) κ Θ (a.put (some t) v) w:=by
 refine⟨h.defers,by simp[Act.put,h.size],h.jx,h.jg,?_,h.ob,h.own,h.old,h.mine,h.stays,h.mG⟩;intro u;show∃bs,lD w κ ((a.tmps.setIfInBounds t v).getD u undef) (if u=t then d else lk st.σ u) bs/\_;have hsz:=h.size;by_cases hu:u=t
 ·subst hu;rw[bD rfl];have:(a.tmps.setIfInBounds u v).getD u undef=v:=by
   simp[bP,hsz,ht]
  rw[this];exact⟨bs,hv,hb⟩
 ·rw[ai hu];have:(a.tmps.setIfInBounds t v).getD u undef=a.tmps.getD u undef:=by
   simp[bP,lC hu]
  rw[this];exact h.slot u
end
end Go.Cx
namespace Go.Cx
open Go.RowKit
abbrev ah:=List Ob
def rD(P:Program)(t:TypeId):Option Bool:=
 match P.underlying t with
 |some (.struct _)=>some true
 |some (.array _ _)=>some true
 |some _=>some false
 |none=>none
def qU(P:Program)(t:TypeId):Nat:=P.cellsOf t
def Uj(P:Program)(t f:Nat):Option Nat:=
 match P.underlying t with
 |some (.struct fs)=>(match fs[f]? with
  |some x=>if(P.info? x.type).isSome/\P.cellsOf x.type≠0 then some x.offset else none
  |none=>none)
 |_=>none
def VL(P:Program)(t f:Nat):Option (Nat×TypeId):=
 match P.underlying t with
 |some (.struct fs)=>(match fs[f]? with|some x=>some (x.offset,x.type)|none=>none)
 |_=>none
def wE(P:Program)(t:TypeId):Option (TypeId×Nat):=
 match P.underlying t with
 |some (.slice e)=>if(P.info? e).isSome then some (e,P.cellsOf e)else none
 |_=>none
def Pp(P:Program)(t:TypeId):Option (Nat×Nat):=
 match P.underlying t with
 |some (.array n e)=>if(P.info? e).isSome then some (P.cellsOf e,n)else none
 |_=>none
def AB(P:Program)(t:TypeId):Bool:=match P.underlying t with|some .string=>true|_=>false
def GJ(P:Program)(t:TypeId):Option IntKind:=match P.underlying t with|some (.int k)=>some k|_=>none
def O9(P:Program)(t:TypeId):Bool:=match P.underlying t with|some .bool=>true|_=>false
def HH(P:Program)(t:TypeId):Bool:=match P.underlying t with
 |some (.struct fs)=>match fs.toList with
  | [f,g]=>f.name != "_" &&g.name != "_" &&f.offset==0&&g.offset==1&&AB P f.type&&AB P g.type&& !P.stoodInHeld t&& !P.eqGuardType P.depth t
  |_=>false
 |_=>false
def peq(P:Program)(op:BinOp)(t:TypeId):D->D->Option D
 | .bool a,.bool b=>if O9 P t=true then match op with| .eql=>some (.bool (a==b))| .neq=>some (.bool (a != b))|_=>none else none
 | .agg [.str a,.str b],.agg [.str c,.str d]=>if HH P t=true then match op with| .eql=>some (.bool (a==c&&b==d))| .neq=>some (.bool (!(a==c&&b==d)))|_=>none else none
 |_,_=>none
def Pq(P:Program)(t:TypeId):Bool:=match P.underlying t with|some (.interface _)=>true|_=>false
def PX(P:Program)(op:BinOp)(t:TypeId)(x:D)(y:Operand):Option D:=match x,y with
 | .Su b,.const .nilIface=>(match Pq P t,op with|true,.eql=>some (.bool (!b))|true,.neq=>some (.bool b)|_,_=>none)
 |_,_=>none
def ID(op:BinOp):D->D->Option D
 | .int k a,.int k' b=>
  if k=k' then
   match op with
   | .add=>some (.int k (k.wrap (a+b)))
   | .sub=>some (.int k (k.wrap (a-b)))
   | .mul=>some (.int k (k.wrap (a*b)))
   | .quo=>if 0<=a/\0<b then some (.int k (a/b))else none
   | .rem=>if 0<=a/\0<b then some (.int k (a%b))else none
   | .eql=>some (.bool (a==b))
   | .neq=>some (.bool (a != b))
   | .lss=>some (.bool (a<b))
   | .leq=>some (.bool (a<=b))
   | .gtr=>some (.bool (a>b))
   | .geq=>some (.bool (a>=b))
   |_=>none
  else none
 | .str a,.str b=>
  match op with
  | .add=>if a.length+b.length<=maxLen then some (.str (a++b))else none
  | .eql=>some (.bool (a==b))
  | .neq=>some (.bool (!(a==b)))
  | .lss=>some (.bool (Op.bytesLess a b))
  | .leq=>some (.bool (Op.bytesLess a b||a==b))
  | .gtr=>some (.bool (!(Op.bytesLess a b||a==b)))
  | .geq=>some (.bool (!(Op.bytesLess a b)))
  |_=>none
 |_,_=>none
def xF(ag:Bool)(n:Nat)(row:aG)(off:Nat):Option D:=
 if ag then(if off+n<=row.length then some (.agg ((row.drop off).take n))else none)else row[off]?
def rQ(len:Nat)(lo hi:Option D):Option (Nat×Nat):=
 match(match hi with|none=>some len|some (.int _ h)=>if 0<=h/\h.toNat<=len then some h.toNat else none|_=>none)with
 |none=>none
 |some h=>match(match lo with|none=>some 0|some (.int _ l)=>if 0<=l/\l.toNat<=h then some l.toNat else none|_=>none)with
  |none=>none
  |some l=>some (l,h)
def DK(a b:Int):Int:=if b<a then b else a
def PW:D->D->Option D
 | .int k m,.int k' n=>if k=k' then some (.int k (DK m n))else none
 |_,_=>none
def Mi(P:Program)(st:St)(x:Operand)(t:TypeId):Option D:=
 match st.ev x with
 | .str s=>if AB P t then some (.int .i64 s.length)else none
 | .sl rows=>if(wE P t).isSome then some (.int .i64 rows.length)else none
 | .nil=>if(wE P t).isSome then some (.int .i64 0)else none
 | .acc id=>(match wE P t,st.H[id]? with|some _,some (.row _ _ _ rows)=>some (.int .i64 rows.length)|_,_=>none)
 |_=>none
def D.cellsOf:D->Option aG
 | .agg ds=>some ds
 | .any=>none
 | .iz _=>none
 | .val v=>if v.oneCell' then some [.val v]else none
 |d=>some [d]
def tz(P:Program)(t:TypeId):Option aG:=
 match P.info? t with
 |some i=>(match i.zero with
  |some z=>if z.cells.toList.all (fun c=>c.oneCell')&&z.cells.size==i.size then some (z.cells.toList.map D.Ep)else none
  |none=>none)
 |none=>none
def HI(P:Program)(t:TypeId):Option (List (Nat×Nat)):=
 match P.underlying t with
 |some (.struct fs)=>fs.toList.mapM (fun f=>(P.info? f.type).map fun i=>(f.offset,i.size))
 |_=>none
def pI(places:List (Nat×Nat))(cells:aG):List (Nat×D)->Option aG
 | []=>some cells
 | (i,d)::rest=>match places[i]?,d.cellsOf with
  |some (off,sz),some ds=>if ds.length=sz/\off+sz<=cells.length then pI places (cells.take off++ds++cells.drop (off+sz)) rest else none
  |_,_=>none
def QG:D->D->Option Bool
 | .str a,.str b=>some (a==b)
 | .int k a,.int k' b=>if k=k' then some (a==b)else none
 |_,_=>none
def xm:TypeDesc->D->Bool
 | .string,.str _=>true
 | .int k,.int k' _=>decide (k=k')
 |_,_=>false
def vh(k:D):List (D×D)->Option (Option D)
 | []=>some none
 |p::r=>match QG k p.1 with|some true=>some (some p.2)|some false=>vh k r|none=>none
def yw(k v:D):List (D×D)->Option (List (D×D))
 | []=>some [(k,v)]
 |p::r=>match QG k p.1 with|some true=>some ((k,v)::r)|some false=>(yw k v r).map (p:: ·)|none=>none
def IR(P:Program)(T:TypeId):Option (TypeDesc×D):=
 match P.underlying T with
 |some (.map kt et)=>(match P.underlying kt,P.info? et with
  |some d,some i=>(match i.zero with|some z=>if z.oneCell'=true then some (d,D.Ep z)else none|none=>none)
  |_,_=>none)
 |_=>none
def QJ(P:Program)(T:TypeId)(kv:List (D×D))(k:D)(ok:Bool):Option D:=
 match IR P T with
 |some (kd,dz)=>(match xm kd k,vh k kv with
  |true,some (some d)=>some (bif ok then .iz [d,.bool true]else d)
  |true,some none=>some (bif ok then .iz [dz,.bool false]else dz)
  |_,_=>none)
 |none=>none
def xB(k:IntKind)(a b:Int):Int:=k.wrap ((BitVec.ofInt k.bits a&&& BitVec.ofInt k.bits b).toNat)
def Qf(k:IntKind)(a b:Int):Int:=k.wrap ((BitVec.ofInt k.bits a|||BitVec.ofInt k.bits b).toNat)
def Gc(k:IntKind)(a b:Int):Int:=k.wrap ((BitVec.ofInt k.bits a^^^BitVec.ofInt k.bits b).toNat)
def Ez(k:IntKind)(a b:Int):Int:=a.fdiv (2^(min b.toNat k.bits))
def PV(op:BinOp)(x y:D):Option D:=match x,y with
 | .int k a,.int k' b=>(match op with
  | .and=>if k=k' then some (.int k (xB k a b))else none
  | .or=>if k=k' then some (.int k (Qf k a b))else none
  | .xor=>if k=k' then some (.int k (Gc k a b))else none
  | .shr=>if 0<=b then some (.int k (Ez k a b))else none
  |_=>none)
 |_,_=>none
theorem mL.shr{k:IntKind}{a:Int}(h:mL k a)(b:Int):mL k (Ez k a b):=by
 have hm:(0:Int)<2^(min b.toNat k.bits):=Int.pow_pos (by decide);unfold Ez;rw[Int.fdiv_eq_ediv_of_nonneg _ (sn hm)];generalize(2:Int)^(min b.toNat k.bits)=m at hm;have hz:=mL.zero k;rcases Int.lt_or_le a 0 with h0|h0
 ·refine⟨sr h.1 (Int.le_ediv_of_mul_le hm ?_),sr (sn (Int.ediv_lt_of_lt_mul (b:=0) hm (by omega))) hz.2⟩;have:a*m<=a*1:=Int.mul_le_mul_of_nonpos_left (sn h0) (by omega);omega
 ·exact h.down (tY h0 (sn hm)) (Int.ediv_le_self m h0)
def pv(P:Program)(st:St):Op->Option D
 | .lookup T x i ok=>match st.ev x with
  | .acc id=>(match st.H[id]? with|some (.mp kv)=>QJ P T kv (st.ev i) ok|_=>none)
  |_=>none
 | .build t parts=>match tz P t,HI P t with
  |some zs,some ps=>(pI ps zs (parts.toList.map fun p=>(p.1,st.ev p.2))).map D.agg
  |_,_=>none
 | .move x=>some (st.ev x)
 | .assign x=>some (st.ev x)
 | .pick c a b=>match st.ev c with| .bool t=>some (bif t then st.ev a else st.ev b)|_=>none
 | .binOp op t x y _=>match ID op (st.ev x) (st.ev y)with|some d=>some d|none=>(match peq P op t (st.ev x) (st.ev y)with|some d=>some d|none=>(match PX P op t (st.ev x) y with|some d=>some d|none=>PV op (st.ev x) (st.ev y)))
 | .nilCheck x=>match st.ev x with| .ptr i o=>some (.ptr i o)| .op i a b c=>some (.op i a b c)| .ep r o=>some (.ep r o)|_=>none
 | .unOp .not _ x=>match st.ev x with| .bool b=>some (.bool (!b))|_=>none
 | .unOp .neg _ x=>match st.ev x with| .int k n=>some (.int k (k.wrap (0-n)))|_=>none
 | .convert s d x=>match st.ev x,GJ P s,GJ P d with| .int _ n,some _,some k=>some (.int k (k.wrap n))|_,_,_=>none
 | .field t x f=>match VL P t f,st.ev x with
  |some (off,ft),.agg cells=>(match rD P ft with|some ag=>xF ag (qU P ft) cells off|none=>none)
  |_,_=>none
 | .fieldAddr t x f=>match Uj P t f,st.ev x with
  |some o,.ptr id off=>some (.ptr id (off+o))
  |some o,.ep row off=>some (.ep row (off+o))
  |some o,.op id i sz off=>some (.op id i sz (off+o))
  |_,_=>none
 | .indexAddr t x i=>match wE P t,st.ev x,st.ev i with
  |some (_,sz),.sl rows,.int _ n=>if 0<=n then(match rows[n.toNat]? with|some row=>if row.length=sz then some (.ep row 0)else none|none=>none)else none
  |some (_,sz),.acc id,.int _ n=>(match st.H[id]? with
   |some (.row _ _ sz' rows)=>if sz=sz'/\0<=n/\n.toNat<rows.length then some (.op id n.toNat sz 0)else none
   |_=>none)
  |_,.val (.pointer (some ⟨g,o,none⟩)),.int _ n=>(match Pp P t with
   |some (sz,len)=>if 0<=n/\n.toNat<len then some (.val (.pointer (some ⟨g,o+n.toNat*sz,none⟩)))else none
   |none=>none)
  |_,_,_=>none
 | .load t x=>match rD P t,st.ev x with
  |some ag,.ep row off=>xF ag (qU P t) row off
  |some ag,.ptr id off=>(match(st.H[id]?).bind Ob.Gg with|some cells=>xF ag (qU P t) cells off|none=>none)
  |some ag,.op id i sz off=>(match st.H[id]? with
   |some (.row (.ho p n) _ sz' _)=>(match ag with|false=>if sz'=sz/\i*sz+off=p then some (.acc n)else none|true=>none)
   |some (.row k _ sz' rows)=>(match rows[i]? with|some row=>if sz'=sz/\k.DT=true/\off+(bif ag then qU P t else 1)<=sz then xF ag (qU P t) row off else none|none=>none)
   |_=>none)
  |some ag,.val (.pointer (some ⟨g,o,none⟩))=>(match ag with|false=>HN g o|true=>none)
  |_,_=>none
 | .extract x i=>match st.ev x with| .iz vs=>vs[i]? |_=>none
 | .index t x i=>match AB P t,st.ev x,st.ev i with
  |true,.str s,.int _ n=>if 0<=n then(match s[n.toNat]? with|some b=>some (.int .u8 b.toNat)|none=>none)else none
  |_,_,_=>none
 | .slice t x lo hi none=>match st.ev x with
  | .str s=>if AB P t then(match rQ s.length (lo.map st.ev) (hi.map st.ev)with|some (l,h)=>some (.str ((s.take h).drop l))|none=>none)else none
  | .sl rows=>(match wE P t,rQ rows.length (lo.map st.ev) (hi.map st.ev)with
   |some (_,sz),some (l,h)=>if(rows.all (fun r=>r.length==sz))then some (.sl ((rows.take h).drop l))else none
   |_,_=>none)
  |_=>none
 | .call c=>match c.callee,c.args.toList,c.argTypes.toList with
  | .builtin .len,[x],[t]=>Mi P st x t
  | .builtin .min,[x,y],[_,_]=>PW (st.ev x) (st.ev y)
  |_,_,_=>none
 |_=>none
section
variable{P:Program}{Γ:nR}{st:St}{κ:Nat->Option Value}{Θ:Nat->Nat}{a:Act}{w:World}
def oQ(P:Program)(κ:Nat->Option Value)(Θ:Nat->Nat)(a:Act)(w:World)(o:Oper)(d:D):Prop:=
 ∃v bs,(execOp a.eval o).run P w=.ok (.value v) w/\lD w κ v d bs/\∀b∈bs,Θ b=0
theorem DQ{n:Nat}(h:n<=maxLen):mL .i64 (n:Int):=by
 rw[mL.i64];unfold maxLen at h;omega
theorem fT{k:IntKind}{n:Int}(h:mL k n):k.wrap n=n:=by
 unfold mL at h;cases k<;>simp[IntKind.min,IntKind.max,IntKind.wrap,IntKind.bits,IntKind.signed]at h⊢ <;>(try split)<;>omega
theorem Fy{o:Oper}{op:BinOp}{t t':TypeId}{x y:Operand}{d:D}(hs:cR Γ st κ Θ a w)(ho:o.op=.binOp op t x y t')
 (h:ID op (st.ev x) (st.ev y)=some d):oQ P κ Θ a w o d:=by
 obtain⟨b1,r1,_⟩:=hs.ev x;obtain⟨b2,r2,_⟩:=hs.ev y;generalize st.ev x=dx at*;generalize st.ev y=dy at*;unfold ID at h;split at h
 ·rename_i k p k' q;split at h
  ·rename_i hk;subst hk;have e1:=r1.kZ;have e2:=r2.kZ;cases op<;>simp only[aP,reduceCtorEq]at h
   case quo=>
    split at h
    ·rename_i hq;cases h;have RC:q≠0:=by omega
     have hle:p/q<=p:=Int.ediv_le_self q hq.1;have h0:0<=p/q:=tY hq.1 (by omega);have hin:=r1.BS.down h0 hle;have hw:k.wrap (p.tdiv q)=p/q:=by
      rw[Int.tdiv_eq_ediv_of_nonneg hq.1];exact fT hin
     exact⟨_,[],by simp[execOp,ho,e1,e2,binOp,eqGuard,Op.intDiv,RC,hw],.of (.int _ _ hin),by simp⟩
    ·cases h
   case rem=>
    split at h
    ·rename_i hq;cases h;have RC:q≠0:=by omega
     have h0:0<=p%q:=tZ p RC;have hle:p%q<=p:=by
      have h1:=Int.emod_add_mul_ediv p q;have h2:0<=q*(p/q):=Int.mul_nonneg (by omega) (tY hq.1 (by omega));omega
     have hin:=r1.BS.down h0 hle;have hw:p.tmod q=p%q:=Int.tmod_eq_emod_of_nonneg hq.1;exact⟨_,[],by simp[execOp,ho,e1,e2,binOp,eqGuard,Op.intDiv,RC,hw],.of (.int _ _ hin),by simp⟩
    ·cases h
   all_goals subst h
   all_goals first
    |exact⟨_,[],by simp[execOp,ho,e1,e2,binOp,eqGuard,Op.intArith],.of (.int _ _ (mL.wrap _ _)),by simp⟩
    |exact⟨_,[],by simp[execOp,ho,e1,e2,binOp,eqGuard,Op.intCmp],.of (.bool _),by simp⟩
  ·cases h
 ·rename_i p q;obtain⟨u,e1,rfl⟩:=r1.oh;obtain⟨v,e2,rfl⟩:=r2.oh;cases op<;>simp only[aP,reduceCtorEq]at h
  case add=>
   split at h
   ·rename_i hl;cases h;have hsz:u.size+v.size<=9223372036854775807:=by
     simp only[n9,maxLen]at hl;exact hl
    refine⟨.string (u++v),[],?_,?_,by simp⟩
    ·simp[execOp,ho,e1,e2,binOp,eqGuard,run_string_add_sum w u v hsz]
    ·have:=Rd.str (w:=w) (u++v) (by rw[ByteArray.size_append'];unfold maxLen;omega);simp only[ByteArray.data_append,gr]at this;exact .of this
   ·cases h
  all_goals subst h
  all_goals exact⟨_,[],by simp[execOp,ho,e1,e2,binOp,eqGuard,Op.stringOp,ByteArray.toList_eq],.of (.bool _),by simp⟩
 ·cases h
theorem wD{t:TypeId}{b:Bool}(h:rD P t=some b)(w:World):(isAgg t).run P w=.ok b w:=by
 unfold rD at h;split at h<;>first
  | (rename_i hu;cases h;simp[isAgg,run_underlying hu])
  | (rename_i d _ _ hu;cases h;cases d<;>simp_all [isAgg,run_underlying hu])
  |cases h
theorem info_of_underlying{t:TypeId}{d:TypeDesc}(h:P.underlying t=some d):∃i,P.info? t=some i:=by
 unfold Program.underlying at h;cases hi:P.info? t with
 |none=>simp[hi]at h
 |some i=>exact⟨i,rfl⟩
theorem yu{t:TypeId}{b:Bool}(h:rD P t=some b):∃i,P.info? t=some i:=by
 unfold rD at h;split at h<;>first
  | (rename_i hu;exact info_of_underlying hu)
  |cases h
theorem nP{t:TypeId}(h:∃i,P.info? t=some i)(w:World):(sizeOf t).run P w=.ok (qU P t) w:=by
 obtain⟨i,hi⟩:=h;simp[sizeOf,typeInfo,hi,qU,Program.cellsOf]
theorem iy{t:TypeId}{ag:Bool}(ht:rD P t=some ag){b off o:Nat}{cs:av}
 (hc:∀j c,cs[j]?=some c->w.cell? ⟨b,off+j,none⟩=some c):
 (ag=true->o+qU P t<=cs.length->(Instr.loadAt t (.pointer (some ⟨b,off+o,none⟩))).run P w=.ok (.agg ((cs.drop o).take (qU P t)).toArray) w)/\
 (ag=false->∀c,cs[o]?=some c->(Instr.loadAt t (.pointer (some ⟨b,off+o,none⟩))).run P w=.ok c w):=by
 constructor
 ·intro e hl;subst e;have hlen:((cs.drop o).take (qU P t)).length=qU P t:=by simp;omega
  have:=run_loadCells_list (P:=P) w ⟨b,off+o,none⟩ ((cs.drop o).take (qU P t)) (by
   intro j v hj;rw[Addr.add_lit];rw[bf]at hj;split at hj
   ·rw[ck]at hj;rw[fX];exact hc _ _ hj
   ·cases hj)
  rw[hlen]at this;simp[Instr.loadAt,Instr.sureAddr,loadVar,wD ht,nP (yu ht),this]
 ·intro e c hj;subst e;have:=hc o c hj;simp[Instr.loadAt,Instr.sureAddr,loadVar,wD ht,this]
theorem qG.Ck{v:Value}{d:D}{bs:aI}(h:qG w κ v d bs):lD w κ v d bs:=.v (.cell h)
theorem BY{o:Oper}{t:TypeId}{x:Operand}{d:D}(hs:cR Γ st κ Θ a w)(ho:o.op=.load t x)
 (h:pv P st (.load t x)=some d):oQ P κ Θ a w o d:=by
 obtain⟨b1,r1,z1⟩:=hs.ev x;simp only[pv]at h;split at h
 ·rename_i ag row off ht hx;rw[hx]at r1;have hrd:=r1.FP;generalize Gv:a.eval x=vx at hrd;cases hrd with
  |ep b base cs _ _ bs h0 hc l7=>
   have L:=iy (P:=P) (w:=w) ht (o:=off) hc;unfold xF at h;split at h
   ·rename_i hag;split at h
    ·rename_i hl;cases h;have hl':off+qU P t<=cs.length:=by rw[l7.length];exact hl
     obtain⟨b',hm,hsub⟩:=l7.mid off (qU P t);exact⟨_,b',by simp only[execOp,ho,Gv];simp[L.1 hag hl'],.of (.agg _ _ _ hm),fun y hy=>z1 y (by simp[hsub y hy])⟩
    ·cases h
   ·rename_i hag;simp only[oT]at hag;obtain⟨v,b',hv,_,hr,hsub⟩:=l7.at h;exact⟨v,b',by simp only[execOp,ho,Gv];simp[L.2 hag v hv],.of hr,fun y hy=>z1 y (by simp[hsub y hy])⟩
 ·rename_i ag id off ht hx;rw[hx]at r1;obtain⟨g,hk,hv⟩:=r1.qP;split at h
  ·rename_i cells hH;obtain⟨ob,hH,qS⟩:=j4.1 hH;obtain⟨g',cs,T,hk',hg,hΘ,bs,l7,hz⟩:=(hs.ob id _ hH).cs qS;rw[hk]at hk';cases hk';have hc:∀j c,cs.toList[j]?=some c->w.cell? ⟨g,0+j,none⟩=some c:=by
    intro j c hj;simp only[cC,World.cell?,hg];simpa using hj
   have L:=iy (P:=P) (w:=w) ht (o:=off) hc;simp only[cC]at L;unfold xF at h;split at h
   ·rename_i hag;split at h
    ·rename_i hl;cases h;have hl':off+qU P t<=cs.toList.length:=by rw[l7.length];exact hl
     obtain⟨b',hm,hsub⟩:=l7.mid off (qU P t) hl;exact⟨_,b',by simp only[execOp,ho,hv];simp[L.1 hag hl'],.v (.agg _ _ _ hm),fun y hy=>hz y (hsub y hy)⟩
    ·cases h
   ·rename_i hag;simp only[oT]at hag;obtain⟨v,b',QC,_,hr,hsub⟩:=l7.at h;exact⟨v,b',by simp only[execOp,ho,hv];simp[L.2 hag v QC],hr.Ck,fun y hy=>hz y (hsub y hy)⟩
  ·cases h
 ·rename_i ag id i sz off ht hx;rw[hx]at r1;obtain⟨g,o0,len,cap,hk,hv⟩:=r1.vm;split at h
  ·rename_i p n e sz' rows hH;split at h
   ·split at h
    ·rename_i JW;obtain⟨rfl,rfl⟩:=JW;cases h;obtain⟨ρ,hu⟩:=hs.mG;obtain⟨vk,cs,bs,Gu,hown,_,_,_,c,hc,hkc⟩:=hu.more id _ hH;rw[hk]at Gu;cases Gu;have Ih:=qO hown;subst Ih;rw[cC]at hv;have hcells:∀j c,cs[j]?=some c->w.cell? ⟨g,0+j,none⟩=some c:=by
      intro j c hj;have:=hown.cells (g:=g) (by simp[Value.ownBlock]) j c hj;simpa[Addr.add_lit]using this
     have L:=iy (P:=P) (w:=w) ht (o:=i*sz'+off) hcells;simp only[cC]at L;exact⟨c,[],by simp only[execOp,ho,hv];simp[L.2 trivial c hc],(qG.acc n c hkc).Ck,by simp⟩
    ·cases h
   ·cases h
  ·rename_i k e sz' rows Sq hH;split at h
   ·rename_i row hrow;split at h
    ·rename_i JW;obtain⟨rfl,hk0,hoff⟩:=JW;obtain⟨hsz,hrl,vk,cs,bs,Gu,hown,l7,hΘ,hz⟩:=hs.ob id _ hH;have pK:∀b∈bs,Θ b=0:=by cases k<;>first|exact hz|simp[RK.DT]at hk0
     rw[hk]at Gu;cases Gu;have Ih:=qO hown;subst Ih;rw[cC]at hv;have Gt:row.length=sz':=hrl row (aD hrow);have hcells:∀j c,cs[j]?=some c->w.cell? ⟨g,0+j,none⟩=some c:=by
      intro j c hj;have:=hown.cells (g:=g) (by simp[Value.ownBlock]) j c hj;simpa[Addr.add_lit]using this
     have L:=iy (P:=P) (w:=w) ht (o:=i*sz'+off) hcells;simp only[cC]at L;have U4:=l7.length;have hmid:=vT hrl hrow;have hlt:i<rows.length:=(aB.1 hrow).1;have hfl:=iq hrl;have hle:(i+1)*sz'<=rows.length*sz':=eG _ hlt;rw[gF,jQ]at hle;unfold xF at h;split at h
     ·rename_i hag;subst hag;simp only[aN]at hoff;split at h
      ·rename_i hl;cases h;have hl':i*sz'+off+qU P t<=cs.length:=by rw[U4,hfl];omega
       obtain⟨b',hm,hsub⟩:=l7.mid (i*sz'+off) (qU P t);have e:(rows.flatten.drop (i*sz'+off)).take (qU P t)=(row.drop off).take (qU P t):=by
        rw[<-hmid,List.drop_take,mP,dX,dA (by omega)]
       rw[e]at hm;exact⟨_,b',by simp only[execOp,ho,hv];simp[L.1 rfl hl'],.of (.agg _ _ _ hm),fun y hy=>pK y (hsub y hy)⟩
      ·cases h
     ·rename_i hag;simp only[oT]at hag;subst hag;simp only[aa]at hoff;have e:rows.flatten[i*sz'+off]?=some d:=by
       rw[<-hmid,bf,bD (by omega),ck]at h;exact h
      obtain⟨v,b',QC,_,hr,hsub⟩:=l7.at e;exact⟨v,b',by simp only[execOp,ho,hv];simp[L.2 rfl v QC],.of hr,fun y hy=>pK y (hsub y hy)⟩
    ·cases h
   ·cases h
  ·cases h
 ·rename_i ag g o' ht hx;rw[hx]at r1;have hv:=r1.HM;split at h
  ·obtain⟨ds,⟨p,hp,hcs⟩,hd⟩:=LM h;obtain⟨B,hB,_⟩:=hs.QO;obtain⟨_,cs,T,z,hg,hpc⟩:=hB _ hp;obtain⟨v,F9,hrd⟩:=hcs _ hpc _ _ hd;have hc:∀j c,cs.toList[j]?=some c->w.cell? ⟨g,0+j,none⟩=some c:=by
    intro j c hj;simp only[cC,World.cell?,hg];simpa using hj
   have L:=(iy (P:=P) (w:=w) ht (o:=o') hc).2 rfl v F9;rw[cC]at L;exact⟨v,[],by simp only[execOp,ho,hv];simp[L],.of (hrd w),by simp⟩
  ·cases h
 ·cases h
theorem EH{o:Oper}{t f:Nat}{x:Operand}{d:D}(hs:cR Γ st κ Θ a w)(ho:o.op=.field t x f)
 (h:pv P st (.field t x f)=some d):oQ P κ Θ a w o d:=by
 obtain⟨b1,r1,z1⟩:=hs.ev x;simp only[pv]at h;split at h
 ·rename_i off ft cells ht hx;rw[hx]at r1;obtain⟨cs,hv,l7⟩:=r1.w8;unfold VL at ht;split at ht
  ·rename_i fs hu;split at ht
   ·rename_i fl hfl;cases ht;split at h
    ·rename_i ag U9;unfold xF at h;split at h
     ·rename_i hag;subst hag;split at h
      ·rename_i hl;cases h;obtain⟨b',hm,hsub⟩:=l7.mid fl.offset (qU P fl.type) hl;refine⟨.agg ((cs.drop fl.offset).take (qU P fl.type)).toArray,b',?_,.v (.agg _ _ _ hm),fun y hy=>z1 y (hsub y hy)⟩;have e:cs.toArray.extract fl.offset (fl.offset+qU P fl.type)=((cs.drop fl.offset).take (qU P fl.type)).toArray:=by
        rw[List.extract_toArray,List.extract_eq_take_drop];congr 1;congr 1;omega
       simp only[execOp,ho,hv];simp[Instr.field,run_underlying hu,hfl,asAgg,part,wD U9,nP (yu U9),e]
      ·cases h
     ·rename_i hag;simp only[oT]at hag;subst hag;obtain⟨v,b',F9,_,hr,hsub⟩:=l7.at h;refine⟨v,b',?_,.v (.cell hr),fun y hy=>z1 y (hsub y hy)⟩;simp only[execOp,ho,hv];simp[Instr.field,run_underlying hu,hfl,asAgg,part,wD U9,F9]
    ·cases h
   ·cases ht
  ·cases ht
 ·cases h
theorem Ae{o:Oper}{t f:Nat}{x:Operand}{d:D}(hs:cR Γ st κ Θ a w)(ho:o.op=.fieldAddr t x f)
 (h:pv P st (.fieldAddr t x f)=some d):oQ P κ Θ a w o d:=by
 obtain⟨b1,r1,z1⟩:=hs.ev x;have hf:∀ {o':Nat},Uj P t f=some o'->∀(b off:Nat),(Instr.fieldAt t (.pointer (some ⟨b,off,none⟩)) f).run P w=.ok (.pointer (some ⟨b,off+o',none⟩)) w:=by
  intro o' h b off;unfold Uj at h;split at h
  ·rename_i fs hu;split at h
   ·rename_i fl hfl;split at h
    ·rename_i hc;cases h;obtain⟨i,hi⟩:=cZ.1 hc.1;have hsz:=nP (P:=P) ⟨i,hi⟩ w;have h0:qU P fl.type≠0:=hc.2;simp[Instr.fieldAt,run_underlying hu,hfl,Instr.sureAddr,fieldPlace,hsz,h0,Addr.add_lit]
    ·cases h
   ·cases h
  ·cases h
 simp only[pv]at h;split at h
 ·rename_i o' id off ht hx;cases h;rw[hx]at r1;obtain⟨g,hk,hv⟩:=r1.qP;exact⟨_,[],by simp only[execOp,ho,hv];simp[hf ht g off],(qG.ptr id (off+o') g hk).Ck,by simp⟩
 ·rename_i o' row off ht hx;cases h;rw[hx]at r1;have hrd:=r1.FP;generalize Gv:a.eval x=vx at hrd;cases hrd with
  |ep b base cs _ _ bs h0 hc l7=>
   refine⟨.pointer (some ⟨b,base+off+o',none⟩),b::bs,by simp only[execOp,ho,Gv];simp[hf ht b (base+off)],?_,z1⟩;rw[fX];exact .of (.ep b base cs row (off+o') bs h0 hc l7)
 ·rename_i o' id i sz off ht hx;cases h;rw[hx]at r1;obtain⟨g,o0,len,cap,hk,hv⟩:=r1.vm;refine⟨.pointer (some ⟨g,o0+(i*sz+off)+o',none⟩),[],by simp only[execOp,ho,hv];simp[hf ht g (o0+(i*sz+off))],?_,by simp⟩;rw[fX,fX];exact(qG.op id i sz (off+o') g o0 len cap hk).Ck
 ·cases h
theorem jh{t e sz:Nat}(h:wE P t=some (e,sz)):P.underlying t=some (.slice e)/\(∃i,P.info? e=some i)/\qU P e=sz:=by
 unfold wE at h;split at h
 ·rename_i e' hu;split at h
  ·rename_i hi;cases h;exact⟨hu,cZ.1 hi,rfl⟩
  ·cases h
 ·cases h
theorem Ak{o:Oper}{t:Nat}{x i:Operand}{d:D}(hs:cR Γ st κ Θ a w)(ho:o.op=.indexAddr t x i)
 (h:pv P st (.indexAddr t x i)=some d):oQ P κ Θ a w o d:=by
 obtain⟨b1,r1,z1⟩:=hs.ev x;obtain⟨b2,r2,z2⟩:=hs.ev i;simp only[pv]at h;split at h
 ·rename_i e sz rows k n ht hx hi;rw[hx]at r1;rw[hi]at r2;have hn:=r2.kZ;obtain⟨hu,zy,yt⟩:=jh ht;have hsz:=nP (P:=P) zy w;split at h
  ·rename_i h0;split at h
   ·rename_i row hrow;split at h
    ·rename_i hlen;cases h;have hrd:=r1.Dc;have hlt:n.toNat<rows.length:=(aB.1 hrow).1;generalize Gv:a.eval x=vx at hrd;cases hrd with
     |qD=>simp at hrow
     |jP=>simp at hrow
     |sl b off cap sz' _ cs bs hb hcap xk hrl hc l7=>
      have U8:sz'=sz:=by rw[<-hrl row (aD hrow)];exact hlen
      subst U8;obtain⟨b',hm,hsub⟩:=l7.mid (n.toNat*sz') sz';rw[vT hrl hrow]at hm;have hn':0<=n/\n<(rows.length:Int):=⟨h0,by omega⟩
      refine⟨.pointer (some ⟨b,off+n.toNat*sz',none⟩),b::b',?_,?_,?_⟩
      ·simp only[execOp,ho,Gv,hn];simp[Instr.indexAt,asIntOf,run_underlying hu,hn',hsz,yt,Addr.add_lit]
      ·have U5:∀j c,((cs.drop (n.toNat*sz')).take sz')[j]?=some c->w.cell? ⟨b,off+n.toNat*sz'+j,none⟩=some c:=by
        intro j c hj;rw[bf]at hj;split at hj
        ·rw[ck]at hj;rw[fX];exact hc _ _ hj
        ·cases hj
       exact .of (.ep b (off+n.toNat*sz') _ row 0 b' hb U5 hm)
      ·intro y hy;rcases aq.1 hy with rfl|hy
       ·exact z1 _ (by simp)
       ·exact z1 _ (by simp[hsub y hy])
    ·cases h
   ·cases h
  ·cases h
 ·rename_i e sz id k n ht hx hi;rw[hx]at r1;rw[hi]at r2;have hn:=r2.kZ;obtain⟨hv,_⟩:=r1.nS;obtain⟨hu,zy,yt⟩:=jh ht;have hsz:=nP (P:=P) zy w;split at h
  ·rename_i dp e' sz' rows hH;split at h
   ·rename_i hc;cases h;obtain⟨rfl,h0,hlt⟩:=hc;obtain⟨Ot,hrl,vk,cs,bs,Gu,hown,l7,hΘ,hz⟩:=hs.ob id _ hH;rw[hv]at Gu;cases Gu;rcases hown.2 with⟨vX,pK⟩|⟨g,cap,cur,hkv,_⟩
    ·omega
    ·have hn':0<=n/\n<(rows.length:Int):=⟨h0,by omega⟩
     refine⟨_,[],?_,(qG.op id n.toNat sz 0 g 0 _ _ (hkv▸hv)).Ck,by simp⟩;simp only[execOp,ho,hn,hkv];simp[Instr.indexAt,asIntOf,run_underlying hu,hn',hsz,yt,Addr.add_lit]
   ·cases h
  ·cases h
 ·rename_i g o' kk n hx hi;rw[hx]at r1;rw[hi]at r2;have hn:=r2.kZ;have hv:=r1.HM;split at h
  ·rename_i sz len hT;split at h
   ·rename_i hc;cases h;obtain⟨h0,hlt⟩:=hc;unfold Pp at hT;split at hT
    ·rename_i len' e hu;split at hT
     ·rename_i zy;cases hT;have hsz:=nP (P:=P) (cZ.1 zy) w;have hn':0<=n/\n<(len:Int):=⟨h0,by omega⟩
      refine⟨_,[],?_,.of (.val _),by simp⟩;simp only[execOp,ho,hn,hv];simp[Instr.indexAt,Instr.sureAddr,asIntOf,run_underlying hu,hn',hsz,qU,Addr.add_lit]
     ·cases hT
    ·cases hT
   ·cases h
  ·cases h
 ·cases h
theorem I6{o:Oper}{t t':Nat}{x y:Operand}{d:D}(hs:cR Γ st κ Θ a w)(ho:o.op=.call {callee:=.builtin .min,args:= #[x,y],argTypes:= #[t,t']})
 (h:PW (st.ev x) (st.ev y)=some d):oQ P κ Θ a w o d:=by
 obtain⟨b1,r1,z1⟩:=hs.ev x;obtain⟨b2,r2,z2⟩:=hs.ev y;unfold PW at h;split at h
 ·rename_i k m k' n hx hy;split at h
  ·rename_i hk;subst hk;cases h;rw[hx]at r1;rw[hy]at r2;have e1:=r1.kZ;have e2:=r2.kZ;refine⟨.int k (DK m n),[],?_,.of (.int _ _ ?_),by simp⟩
   ·simp only[execOp,ho,resolve,invoke,builtin,jZ,ax,bg,e1,e2];simp[Builtin.min_,Builtin.min2,DK]
   ·unfold DK;split
    ·exact r2.BS
    ·exact r1.BS
  ·cases h
 ·cases h
theorem I3{o:Oper}{t:Nat}{x:Operand}{d:D}(hs:cR Γ st κ Θ a w)(ho:o.op=.call {callee:=.builtin .len,args:= #[x],argTypes:= #[t]})
 (h:Mi P st x t=some d):oQ P κ Θ a w o d:=by
 obtain⟨b1,r1,z1⟩:=hs.ev x;unfold Mi at h;split at h
 ·rename_i s hx;split at h
  ·rename_i ht;cases h;rw[hx]at r1;obtain⟨u,hv,rfl⟩:=r1.oh;have hu:P.underlying t=some .string:=by
    unfold AB at ht;split at ht
    ·assumption
    ·cases ht
   refine⟨.int .i64 (u.data.toList.length:Nat),[],?_,.of (.int _ _ (DQ r1.LD)),by simp⟩;simp only[execOp,ho,resolve,invoke,builtin,jZ,ax,bg,hv];simp[Builtin.len_,run_underlying hu,goInt]
  ·cases h
 ·rename_i rows hx;split at h
  ·rename_i ht;cases h;rw[hx]at r1;obtain⟨⟨e,sz⟩,ht⟩:=cZ.1 ht;obtain⟨hu,_,_⟩:=jh ht;have hrd:=r1.Dc;generalize Gv:a.eval x=vx at hrd;have hlen:∃q c,vx=.slice q rows.length c:=by
    cases hrd with
    |qD=>exact⟨_,_,rfl⟩
    |jP=>exact⟨_,_,rfl⟩
    |sl=>exact⟨_,_,rfl⟩
   have xk:rows.length<=maxLen:=by
    cases hrd with
    |qD=>simp
    |jP=>simp
    |sl b off cap sz _ cs bs hb h1 h2=>omega
   obtain⟨q,c,rfl⟩:=hlen;refine⟨.int .i64 rows.length,[],?_,.of (.int _ _ (DQ xk)),by simp⟩;simp only[execOp,ho,resolve,invoke,builtin,jZ,ax,bg,Gv];simp[Builtin.len_,run_underlying hu,goInt]
  ·cases h
 ·rename_i hx;split at h
  ·rename_i ht;cases h;rw[hx]at r1;obtain⟨⟨e,sz⟩,ht⟩:=cZ.1 ht;obtain⟨hu,_,_⟩:=jh ht;have hv:=r1.zC;refine⟨.int .i64 0,[],?_,.of (.int _ _ (mL.zero _)),by simp⟩;simp only[execOp,ho,resolve,invoke,builtin,jZ,ax,bg,hv];simp[Builtin.len_,run_underlying hu,goInt]
  ·cases h
 ·rename_i id hx;split at h
  ·rename_i p dp e' sz' rows ht hH;cases h;rw[hx]at r1;obtain⟨hv,_⟩:=r1.nS;obtain⟨e,sz⟩:=p;obtain⟨hu,_,_⟩:=jh ht;obtain⟨Ot,hrl,vk,cs,bs,Gu,hown,l7,hΘ,hz⟩:=hs.ob id _ hH;rw[hv]at Gu;cases Gu;have hlen:∃q c,a.eval x=.slice q rows.length c:=by
    rcases hown.2 with⟨vX,pK⟩|⟨g,cap,cur,hkv,_⟩
    ·exact⟨none,0,by rw[vX,pK]⟩
    ·exact⟨_,_,hkv⟩
   have xk:rows.length<=maxLen:=by
    rcases hown.2 with⟨vX,pK⟩|⟨g,cap,cur,hkv,_,_,h1,h2,_⟩
    ·omega
    ·omega
   obtain⟨q,c,hk⟩:=hlen;refine⟨.int .i64 rows.length,[],?_,.of (.int _ _ (DQ xk)),by simp⟩;simp only[execOp,ho,resolve,invoke,builtin,jZ,ax,bg,hk];simp[Builtin.len_,run_underlying hu,goInt]
  ·cases h
 ·cases h
theorem tB.at{vs:av}{ds:aG}{bs:aI}(h:tB w κ vs ds bs){i:Nat}{d:D}(hd:ds[i]?=some d):
 ∃v b,vs[i]?=some v/\B5 w κ v d b/\∀x∈b,x∈bs:=by
 induction ds generalizing vs bs i with
 |nil=>simp at hd
 |cons e ds ih=>
  cases h with
  |cons v vs _ _ b1 b2 h2 h3=>
   cases i with
   |zero=>simp at hd;subst hd;exact⟨v,b1,by simp,h2,by intro x hx;simp[hx]⟩
   |succ i=>
    simp at hd;obtain⟨u,b,k1,k3,k4⟩:=ih h3 hd;exact⟨u,b,by simpa using k1,k3,fun x hx=>by simp[k4 x hx]⟩
theorem lD.N0{v:Value}{ds:aG}{bs:aI}(h:lD w κ v (.iz ds) bs):∃vs:av,v=.tuple vs.toArray/\tB w κ vs ds bs:=by
 cases h with
 |v h=>cases h with|cell h=>cases h with|pure h=>cases h
 |iz vs _ _ h=>exact⟨vs,rfl,h⟩
theorem C6{o:Oper}{i:Nat}{x:Operand}{d:D}(hs:cR Γ st κ Θ a w)(ho:o.op=.extract x i)
 (h:pv P st (.extract x i)=some d):oQ P κ Θ a w o d:=by
 obtain⟨b1,r1,z1⟩:=hs.ev x;simp only[pv]at h;split at h
 ·rename_i vs hx;rw[hx]at r1;obtain⟨us,hv,hr⟩:=r1.N0;obtain⟨v,b,k1,k2,k3⟩:=hr.at h;exact⟨v,b,by simp only[execOp,ho,hv];simp[Instr.extract,k1],.v k2,fun y hy=>z1 y (k3 y hy)⟩
 ·cases h
theorem oY{t:Nat}(ht:AB P t=true):P.underlying t=some .string:=by
 unfold AB at ht;split at ht
 ·assumption
 ·cases ht
theorem EZ{o:Oper}{t:Nat}{x i:Operand}{d:D}(hs:cR Γ st κ Θ a w)(ho:o.op=.index t x i)
 (h:pv P st (.index t x i)=some d):oQ P κ Θ a w o d:=by
 obtain⟨b1,r1,z1⟩:=hs.ev x;obtain⟨b2,r2,z2⟩:=hs.ev i;simp only[pv]at h;split at h
 ·rename_i s k n ht hx hi;rw[hx]at r1;rw[hi]at r2;obtain⟨u,hv,rfl⟩:=r1.oh;have hn:=r2.kZ;have hu:=oY ht;split at h
  ·rename_i h0;split at h
   ·rename_i b hb;cases h;have hlt:n.toNat<u.size:=by
     have:=(aB.1 hb).1;simpa using this
    have DC:u[n.toNat]?=some b:=by
     have hb':u.data[n.toNat]?=some b:=by simpa using hb
     rw[getElem?_pos u n.toNat hlt];rw[aV]at hb';obtain⟨_,he⟩:=hb';rw[<-he];rfl
    refine⟨.int .u8 b.toNat,[],?_,.of (.int _ _ (mL.u8.2 (by have:=b.toNat_lt;omega))),by simp⟩;simp only[execOp,ho,hv,hn];simp[Instr.index,asIntOf,run_underlying hu,h0,DC]
   ·cases h
  ·cases h
 ·cases h
theorem DY{lo hi:Option Operand}{l h':Nat}{isSlice:Bool}{len cap:Nat}(hs:cR Γ st κ Θ a w)
 (hlc:len<=cap) (h:rQ len (lo.map st.ev) (hi.map st.ev)=some (l,h')):
 (Instr.sliceBounds isSlice len cap (lo.map a.eval) (hi.map a.eval) none).run P w=.ok (l,h',cap) w/\l<=h'/\h'<=len:=by
 have hv:∀ {x:Operand} {k:IntKind} {n:Int},st.ev x=.int k n->a.eval x=.int k n:=by
  intro x k n hx;obtain⟨b,r,_⟩:=hs.ev x;rw[hx]at r;exact r.kZ
 unfold rQ at h;cases hi with
 |none=>
  simp only[pN]at h⊢;cases lo with
  |none=>
   simp only[pN,aP,bn]at h⊢;obtain⟨rfl,rfl⟩:=h;exact⟨by simp[Instr.sliceBounds],by omega,by omega⟩
  |some lo=>
   simp only[bW]at h⊢;cases hlo:st.ev lo<;>simp only[hlo,reduceCtorEq]at h;rename_i k n;split at h
   ·cases h
   ·rename_i l0 hm;split at hm
    ·rename_i hb;cases hm;cases h;have Hq:0<=n/\n<=(h':Int):=⟨hb.1,by omega⟩
     exact⟨by simp[Instr.sliceBounds,Instr.sliceBound,hv hlo,asIntOf,Hq],hb.2,by omega⟩
    ·cases hm
 |some hi=>
  simp only[bW]at h⊢;cases hhi:st.ev hi<;>simp only[hhi,reduceCtorEq]at h;rename_i k m;split at h
  ·cases h
  ·rename_i h0 hm;split at hm
   ·rename_i hb;cases hm;have Hq:0<=m/\m<=(cap:Int):=⟨hb.1,by omega⟩
    cases lo with
    |none=>
     simp only[pN,aP,bn]at h⊢;obtain⟨rfl,rfl⟩:=h;exact⟨by simp[Instr.sliceBounds,Instr.sliceBound,hv hhi,asIntOf,Hq],by omega,hb.2⟩
    |some lo=>
     simp only[bW]at h⊢;cases hlo:st.ev lo<;>simp only[hlo,reduceCtorEq]at h;rename_i k' n;split at h
     ·cases h
     ·rename_i l0 hm;split at hm
      ·rename_i Ic;cases hm;cases h;have WD:0<=n/\n<=max m 0:=⟨Ic.1,by omega⟩
       exact⟨by simp[Instr.sliceBounds,Instr.sliceBound,hv hhi,hv hlo,asIntOf,Hq,WD],Ic.2,hb.2⟩
      ·cases hm
   ·cases hm
theorem Kq{rows:List aG}{sz l h':Nat}(hrl:∀r∈rows,r.length=sz)(h1:l<=h')(h2:h'<=rows.length):
 ((rows.take h').drop l).flatten=(rows.flatten.drop (l*sz)).take ((h'-l)*sz):=by
 have e:rows=(rows.take l)++(((rows.take h').drop l)++rows.drop h'):=by
  have hA:rows.take h'=(rows.take h').take l++(rows.take h').drop l:=(bJ _ _).symm;have hB:(rows.take h').take l=rows.take l:=by rw[mP,dA h1]
  rw[hB]at hA;rw[<-cg,<-hA,bJ]
 have l1:(rows.take l).flatten.length=l*sz:=by
  rw[iq (fun r hr=>hrl r (bL hr)),bG,dA (by omega)]
 have l2:((rows.take h').drop l).flatten.length=(h'-l)*sz:=by
  rw[iq (fun r hr=>hrl r (bL (eF hr))),jY,bG,dA (by omega)]
 have hf:rows.flatten=(rows.take l).flatten++(((rows.take h').drop l).flatten++(rows.drop h').flatten):=by
  rw[<-fL,<-fL,<-e]
 rw[hf,dU l1,ez l2]
theorem F0{o:Oper}{t:Nat}{x:Operand}{lo hi:Option Operand}{d:D}(hs:cR Γ st κ Θ a w)(ho:o.op=.slice t x lo hi none)
 (h:pv P st (.slice t x lo hi none)=some d):oQ P κ Θ a w o d:=by
 obtain⟨b1,r1,z1⟩:=hs.ev x;simp only[pv]at h;split at h
 ·rename_i s hx;rw[hx]at r1;obtain⟨u,hv,rfl⟩:=r1.oh;split at h
  ·rename_i ht;have hu:=oY ht;split at h
   ·rename_i l h' hc;cases h;obtain⟨hr,hl,hh⟩:=DY (P:=P) (isSlice:=false) (cap:=u.data.toList.length) hs (b9 _) hc;have hsz:u.data.toList.length=u.size:=by simp
    rw[hsz]at hr;refine⟨.string (u.extract l h'),[],?_,?_,by simp⟩
    ·simp only[execOp,ho,hv];simp[Instr.sliceAt,Instr.slice,run_underlying hu,hr]
    ·have:=Rd.str (w:=w) (u.extract l h') (by
      have h1:=r1.LD;simp at h1⊢;omega)
     have e:(u.extract l h').data.toList=(u.data.toList.take h').drop l:=by
      simp[ByteArray.data_extract,List.drop_take]
     rw[e]at this;exact .of this
   ·cases h
  ·cases h
 ·rename_i rows hx;rw[hx]at r1;have hrd:=r1.Dc;split at h
  ·rename_i e sz l h' ht hc;split at h
   ·rename_i hall;cases h;obtain⟨hu,zy,yt⟩:=jh ht;have hsz:=nP (P:=P) zy w;have hrl:∀r∈rows,r.length=sz:=by
     intro r hr;have:=aR.1 hall r hr;simpa using this
    generalize Gv:a.eval x=vx at hrd;have main:∀(q:Option Addr) (cap:Nat),vx=.slice q rows.length cap->rows.length<=cap->
     (execOp a.eval o).run P w=.ok (.value (.slice (if cap=l then q else q.map (·.add (l*sz))) (h'-l) (cap-l))) w/\l<=h'/\h'<=rows.length:=by
     intro q cap hq hcap;obtain⟨hr,hl,hh⟩:=DY (P:=P) (isSlice:=true) (cap:=cap) hs hcap hc;refine⟨?_,hl,hh⟩;simp only[execOp,ho,Gv,hq];simp[Instr.sliceAt,Instr.slice,run_underlying hu,hr,hsz,yt]
    cases hrd with
    |qD=>
     obtain⟨hr,hl,hh⟩:=main none 0 rfl (by simp);simp only[bH]at hh;have e1:h'=0:=by omega
     have e2:l=0:=by omega
     subst e1;subst e2;exact⟨_,[],hr,by simpa using lD.of (κ:=κ) (Rd.qD (w:=w)),by simp⟩
    |jP ad cap hm=>
     obtain⟨hr,hl,hh⟩:=main (some ad) cap rfl (by simp);simp only[bH]at hh;have e1:h'=0:=by omega
     have e2:l=0:=by omega
     subst e1;subst e2;refine⟨_,[],hr,?_,by simp⟩;have:(if cap=0 then some ad else(some ad).map (·.add (0*sz)))=some ad:=by simp[Addr.add]
     rw[this];exact .of (by simpa using Rd.jP (w:=w) ad cap hm)
    |sl b off cap sz' _ cs bs hb hcap xk Ai WJ l7=>
     obtain⟨hr,hl,hh⟩:=main (some ⟨b,off,none⟩) cap rfl hcap;by_cases he:h'=l
     ·subst he;refine⟨_,[],hr,?_,by simp⟩;have e1:(rows.take h').drop h'=[]:=by simp
      rw[e1,mX];split
      ·exact .of (.jP _ _ (by omega))
      ·simp only[bW];exact .of (.jP _ _ (by omega))
     ·have hne:cap≠l:=by omega
      rw[ai hne,bW,Addr.add_lit]at hr;obtain⟨b',hm,hsub⟩:=l7.mid (l*sz) ((h'-l)*sz);rw[<-Kq hrl hl hh]at hm;refine⟨_,b::b',hr,?_,?_⟩
      ·have hlen:((rows.take h').drop l).length=h'-l:=by simp;omega
       rw[<-hlen];refine .of (.sl b (off+l*sz) (cap-l) sz _ _ b' hb (by omega) (by omega) (fun r hr=>hrl r (bL (eF hr))) ?_ hm);intro j c hj;rw[bf]at hj;split at hj
       ·rw[ck]at hj;rw[fX];exact WJ _ _ hj
       ·cases hj
      ·intro y hy;rcases aq.1 hy with rfl|hy
       ·exact z1 _ (by simp)
       ·exact z1 _ (by simp[hsub y hy])
   ·cases h
  ·cases h
 ·cases h
theorem Cd{v:Value}(h:v.oneCell'=true):v.cells.toList=[v]:=by
 cases v<;>first|rfl|cases h
theorem qG.one{v:Value}{d:D}{bs:aI}(h:qG w κ v d bs)(hk:∀(id:Nat) u,κ id=some u->u.oneCell'=true)(hna:∀es,d≠ .agg es)(hc:d.cellsOf=some [d]):v.oneCell'=true:=by
 cases h with
 |pure h=>
  cases h<;>first
   |rfl
   | (exfalso;exact hna _ rfl)
   | (simp[D.cellsOf]at hc;done)
   | (simp only[D.cellsOf]at hc;split at hc<;>first|assumption|cases hc)
 |acc i v h=>exact hk i v h
 |ptr=>rfl
 |op=>rfl
theorem sK{v:Value}{d:D}{bs:aI}{ds:aG}(hk:∀(id:Nat) u,κ id=some u->u.oneCell'=true)(h:lD w κ v d bs)(hc:d.cellsOf=some ds):dF w κ v.cells.toList ds bs:=by
 have single:∀ {v d bs},qG w κ v d bs->(∀es,d≠ .agg es)->d.cellsOf=some [d]->dF w κ v.cells.toList [d] bs:=by
  intro v d bs h hna hc;have h1:=h.one hk hna hc;rw[Cd h1];have:=dF.cons v [] d [] bs [] h1 h .nil;simpa using this
 cases h with
 |iz=>simp[D.cellsOf]at hc
 |v h=>
  cases h with
  |agg cs _ _ h=>simp only[D.cellsOf,aP]at hc;subst hc;simpa[Value.cells]using h
  |cell h=>
   by_cases mM:∃es,d=.agg es
   ·obtain⟨es,rfl⟩:=mM;simp only[D.cellsOf,aP]at hc;subst hc;cases h with
    |pure h=>cases h with|agg cs _ _ h=>simpa[Value.cells]using dF.tv (κ:=κ) h
   ·have e:ds=[d]:=by
     cases d<;>simp only[D.cellsOf,aP,reduceCtorEq]at hc<;>first
      |exact hc.symm
      | (exfalso;exact mM ⟨_,rfl⟩)
      | (split at hc<;>first| (simp at hc;exact hc.symm)|cases hc)
    subst e;exact single h (fun es he=>mM ⟨es,he⟩) hc
theorem oa{T:TypeId}{zs:aG}(hz:tz P T=some zs):∃i z,P.info? T=some i/\i.zero=some z/\z.cells.size=i.size/\zs.length=i.size/\(∀c∈z.cells.toList,c.oneCell'=true)/\zs=z.cells.toList.map D.Ep:=by
 unfold tz at hz;split at hz
 ·rename_i i hi;split at hz
  ·rename_i z Bx;split at hz
   ·rename_i hc;cases hz;simp only[aL,aR,bq]at hc;exact⟨i,z,hi,Bx,hc.2,by simp[hc.2],hc.1,rfl⟩
   ·cases hz
  ·cases hz
 ·cases hz
theorem sU(cs:av)(h:∀c∈cs,c.oneCell'=true):dF w κ cs (cs.map D.Ep) []:=by
 induction cs with
 |nil=>exact .nil
 |cons c cs ih=>
  have hrd:Rd w c (D.Ep c) []:=by
   unfold D.Ep;split
   ·exact .bool _
   ·split
    ·rename_i h;exact .int _ _ h
    ·exact .val _
   ·split
    ·rename_i h;exact .str _ h
    ·exact .val _
   ·exact .nil
   ·exact .val _
  have:=dF.cons (κ:=κ) c cs _ _ [] [] (h c (by simp)) (.pure hrd) (ih (fun x hx=>h x (by simp[hx])));simpa using this
theorem foldl_set(off:Nat):∀(vs:av) (k:Nat) (cells:Array Value),off+k+vs.length<=cells.size->
 ((vs.zipIdx k).foldl (fun cs (x:Value×Nat)=>cs.setIfInBounds (off+x.2) x.1) cells).toList=cells.toList.take (off+k)++vs++cells.toList.drop (off+k+vs.length):=by
 intro vs
 induction vs with
 |nil=>intro k cells _;simp
 |cons v vs ih=>
  intro k cells h;simp only[aT]at h;rw[List.zipIdx_cons,er,ih (k+1) _ (by simp;omega)];simp only[Array.toList_setIfInBounds,aT];have hlt:off+k<cells.toList.length:=by simp;omega
  rw[show off+(k+1)=off+k+1 from by omega,List.take_set,List.drop_set,bD (by omega)];rw[show off+k+1+vs.length=off+k+(vs.length+1)from by omega]
  congr 1
  rw[show v::vs=[v]++vs from rfl,<-cg]
  congr 1
  rw[List.take_succ_eq_append_getElem hlt,oP _ _ (by simp;omega)];have:(List.take (off+k) cells.toList).length=off+k:=by rw[bG];omega
  rw[this,mX];rfl
theorem Gi(hs:cR Γ st κ Θ a w){places:List (Nat×Nat)}:∀(parts:List (Nat×Operand)) (cs:Array Value) (cells ds:aG) (bs:aI),
 dF w κ cs.toList cells bs->(∀b∈bs,Θ b=0)->pI places cells (parts.map fun p=>(p.1,st.ev p.2))=some ds->
 ∃arr bs',Instr.fill (places.toArray[·]?) cs (parts.map fun p=>(p.1,a.eval p.2))=some arr/\dF w κ arr.toList ds bs'/\∀b∈bs',Θ b=0:=by
 intro parts
 induction parts with
 |nil=>
  intro cs cells ds bs hr hz hf;simp only[bg,pI,aP]at hf;subst hf;exact⟨cs,bs,rfl,hr,hz⟩
 |cons p parts ih=>
  intro cs cells ds bs hr hz hf
  ·obtain⟨i,x⟩:=p;obtain⟨b,hv,hb⟩:=hs.ev x;generalize Wp:a.eval x=v at hv;simp only[ax,pI]at hf;split at hf
   ·rename_i off sz es R9 WN;split at hf
    ·rename_i hc;have hcs:=sK hs.jg hv WN;have hl1:=hcs.length;have tQ:=hr.length;have e:cells=cells.take off++((cells.drop off).take sz++(cells.drop off).drop sz):=by rw[bJ,bJ]
     rw[e]at hr;obtain⟨v1,v2,c1,c2,Aj,rfl,k1,k2⟩:=hr.split;obtain⟨v3,v4,c3,c4,rfl,rfl,k3,k4⟩:=k2.split;have l1:v1.length=off:=by rw[k1.length];simp;omega
     have l3:v3.length=sz:=by rw[k3.length];simp;omega
     have hvs:v.cells.size=sz:=by rw[<-hc.1,<-hl1];simp
     have Q9:cs.size=cells.length:=by rw[<-tQ];simp
     have Ja:=foldl_set off v.cells.toList 0 cs (by simp;omega);simp only[qE,n9,hvs]at Ja;have e1:cs.toList.take off=v1:=by rw[Aj];exact ez l1
     have e4:cs.toList.drop (off+sz)=v4:=by rw[Aj,<-dX,dU l1];exact dU l3
     rw[e1,e4]at Ja;rw[dX]at k4;have hnew:=(k1.app hcs).app k4;obtain⟨arr,bs',h1,h2,h3⟩:=ih (v.cells.zipIdx.foldl (fun cs (x:Value×Nat)=>cs.setIfInBounds (off+x.2) x.1) cs) _ ds ((c1++b)++c4)
      (by rw[<-Array.foldl_toList,Array.toList_zipIdx,Ja];exact hnew)
      (by
       intro x hx;simp only[aJ]at hx;rcases hx with(hx|hx)|hx
       ·exact hz x (by simp[hx])
       ·exact hb x hx
       ·exact hz x (by simp[hx])) hf
     refine⟨arr,bs',?_,h2,h3⟩;simp only[ax,Instr.fill,dM,R9,Wp];rw[ai (by simp;omega)];simpa using h1
    ·cases hf
   ·cases hf
theorem EA{o:Oper}{t:TypeId}{parts:Array (Nat×Operand)}{d:D}(hs:cR Γ st κ Θ a w)(ho:o.op=.build t parts)
 (h:pv P st (.build t parts)=some d):oQ P κ Θ a w o d:=by
 simp only[pv]at h;split at h
 ·rename_i zs ps hz hp;cases hf:pI ps zs (parts.toList.map fun p=>(p.1,st.ev p.2))with
  |none=>simp[hf]at h
  |some ds=>
   simp only[hf,bW,aP]at h;subst h;obtain⟨i,z,hi,pK,hsz,hlen,hone,rfl⟩:=oa hz;obtain⟨arr,bs',h1,h2,h3⟩:=Gi hs parts.toList z.cells _ ds [] (sU z.cells.toList hone) (by simp) hf;have hb:P.built t (parts.map fun(i,x)=>(i,a.eval x)).toList=some arr:=by
    unfold HI at hp;split at hp
    ·rename_i fs hu;unfold Program.built;simp only[hi,hu,pK,hp];rw[eU];exact h1
    ·cases hp
   refine⟨.agg arr,bs',?_,?_,h3⟩
   ·simp only[execOp,ho];simp[run_build w t _ arr hb]
   ·have:=B5.agg (w:=w) (κ:=κ) arr.toList ds bs' h2;exact .v (by simpa using this)
 ·cases h
theorem run_equalIn_bool{t:TypeId}{a b:Bool}(h:P.underlying t=some .bool)(d:Nat):(Op.equalIn (d+1) t (.bool a) (.bool b)).run P w=.ok (a==b) w:=by
 simp[Op.equalIn,run_underlying h]
theorem u7{t:TypeId}{a b:ByteArray}(h:P.underlying t=some .string)(d:Nat):(Op.equalIn (d+1) t (.string a) (.string b)).run P w=.ok (a==b) w:=by
 simp[Op.equalIn,run_underlying h]
theorem zK{t:TypeId}(h:AB P t=true){xs:Array Value}{off:Nat}{v:Value}(hx:xs[off]?=some v):(part t xs off).run P w=.ok v w:=by
 simp[part,isAgg,run_underlying (oY h),hx]
theorem A9{t:TypeId}{a b c e:ByteArray}(h:HH P t=true)(d:Nat):(Op.equalIn (d+2) t (.agg #[.string a,.string b]) (.agg #[.string c,.string e])).run P w=.ok (a==c&&b==e) w:=by
 unfold HH at h;split at h
 ·rename_i fs hu;split at h
  ·rename_i f g hfs;simp only[aL,bne_iff_ne,ne_eq,bq,j0]at h;obtain⟨⟨⟨⟨⟨⟨⟨h1,h2⟩,h3⟩,h4⟩,h5⟩,h6⟩,h7⟩,h8⟩:=h;have Te:fs= #[f,g]:=by apply mW.mp;simpa using hfs
   subst Te;have p1:=fun(xs:Array Value) (v:Value) (hx:xs[0]?=some v)=>zK (w:=w) h5 hx
   have p2:=fun(xs:Array Value) (v:Value) (hx:xs[1]?=some v)=>zK (w:=w) h6 hx
   have q1:=u7 (P:=P) (w:=w) (a:=a) (b:=c) (oY h5) d;have q2:=u7 (P:=P) (w:=w) (a:=b) (b:=e) (oY h6) d;rw[Op.equalIn];generalize(a==c)=r1 at q1⊢;generalize(b==e)=r2 at q2⊢;cases r1<;>cases r2<;>simp[run_underlying hu,h7,h1,h2,h3,h4,p1,p2,q1,q2]
  ·cases h
 ·cases h
theorem dF.HK{κ:Nat->Option Value}{cs:av}{p q:Bytes}{bs:aI}(h:dF w κ cs [.str p,.str q] bs):∃u v:ByteArray,cs=[.string u,.string v]/\u.data.toList=p/\v.data.toList=q:=by
 cases h with
 |cons v1 vs _ _ b1 b2 _ h1 h2=>
  cases h2 with
  |cons v2 vs' _ _ b3 b4 _ h3 h4=>
   cases h4;obtain⟨u,rfl,hu⟩:=(lD.v (.cell h1):lD w κ _ _ _).oh;obtain⟨v,rfl,hv⟩:=(lD.v (.cell h3):lD w κ _ _ _).oh;exact⟨u,v,rfl,hu,hv⟩
theorem JD(u v:ByteArray):(u==v)=(u.data==v.data):=by cases u;cases v;rfl
theorem IE{o:Oper}{op:BinOp}{t t':TypeId}{x y:Operand}{d:D}(hs:cR Γ st κ Θ a w)(ho:o.op=.binOp op t x y t')
 (h:peq P op t (st.ev x) (st.ev y)=some d):oQ P κ Θ a w o d:=by
 obtain⟨b1,r1,_⟩:=hs.ev x;obtain⟨b2,r2,_⟩:=hs.ev y;generalize st.ev x=dx at*;generalize st.ev y=dy at*;unfold peq at h;split at h
 ·rename_i p q;split at h
  ·rename_i hb;have hu:P.underlying t=some .bool:=by
    unfold O9 at hb;split at hb
    ·assumption
    ·cases hb
   have e1:=r1.o9;have e2:=r2.o9;have hq:=run_equalIn_bool (P:=P) (w:=w) (a:=p) (b:=q) hu 9999;have q':(Op.equal t (.bool p) (.bool q)).run P w=.ok (p==q) w:=hq;cases op<;>simp only[aP,reduceCtorEq]at h
   all_goals subst h
   all_goals exact⟨_,[],by(simp[execOp,ho,e1,e2,binOp,eqGuard,q'])<;>(cases p<;>cases q<;>rfl),.of (.bool _),by simp⟩
  ·cases h
 ·rename_i p1 p2 q1 q2;split at h
  ·rename_i hb;obtain⟨XX,e1,k1⟩:=r1.w8;obtain⟨Sk,e2,k2⟩:=r2.w8;obtain⟨u1,u2,rfl,rfl,rfl⟩:=dF.HK k1;obtain⟨v1,v2,rfl,rfl,rfl⟩:=dF.HK k2;have hg:P.eqGuardType P.depth t=false:=by
    unfold HH at hb;split at hb
    ·split at hb
     ·simp only[aL,j0]at hb;exact hb.2
     ·cases hb
    ·cases hb
   have q:=A9 (P:=P) (w:=w) (a:=u1) (b:=u2) (c:=v1) (e:=v2) hb 9998;have q':(Op.equal t (.agg #[.string u1,.string u2]) (.agg #[.string v1,.string v2])).run P w=.ok (u1==v1&&u2==v2) w:=q;cases op<;>simp only[aP,reduceCtorEq]at h
   all_goals subst h
   all_goals exact⟨_,[],by(simp[execOp,ho,e1,e2,binOp,eqGuard,hg,q'])<;>(rw[JD,JD]),.of (.bool _),by simp⟩
  ·cases h
 ·cases h
theorem lD.MW{v:Value}{b:Bool}{bs:aI}(h:lD w κ v (.Su b) bs):(b=false/\v=.nilIface)\/(b=true/\∃t u,v=.iface t u):=by
 cases h with|v h=>cases h with|cell h=>cases h with|pure h=>cases h with
  |K9=>exact .inl ⟨rfl,rfl⟩
  |KA t u=>exact .inr ⟨rfl,t,u,rfl⟩
theorem zJ{t:TypeId}{ms:Array (String×TypeId)}(hu:P.underlying t=some (.interface ms)):(Op.equal t .nilIface .nilIface).run P w=.ok true w:=by
 unfold Op.equal Op.maxDepth;rw[Op.equalIn];simp[run_underlying hu]
theorem xH{t:TypeId}{ms:Array (String×TypeId)}{t1:TypeId}{v1:Value}(hu:P.underlying t=some (.interface ms)):(Op.equal t (.iface t1 v1) .nilIface).run P w=.ok false w:=by
 unfold Op.equal Op.maxDepth;rw[Op.equalIn];simp[run_underlying hu]
theorem Fz{o:Oper}{op:BinOp}{t t':TypeId}{x y:Operand}{d:D}(hs:cR Γ st κ Θ a w)(ho:o.op=.binOp op t x y t')
 (h:PV op (st.ev x) (st.ev y)=some d):oQ P κ Θ a w o d:=by
 obtain⟨b1,r1,_⟩:=hs.ev x;obtain⟨b2,r2,_⟩:=hs.ev y;generalize st.ev x=dx at*;generalize st.ev y=dy at*;unfold PV at h;split at h
 ·rename_i k p k' q;have e1:=r1.kZ;have e2:=r2.kZ;cases op<;>simp only[reduceCtorEq]at h
  case shr=>
   split at h
   ·rename_i hq;cases h;exact⟨_,[],by simp[execOp,ho,e1,e2,binOp,eqGuard,Op.shift,show¬q<0 by omega,Ez],.of (.int _ _ (r1.BS.shr q)),by simp⟩
   ·cases h
  all_goals
   split at h
   ·rename_i hk;subst hk;cases h;exact⟨_,[],by simp[execOp,ho,e1,e2,binOp,eqGuard,Op.intBits,xB,Qf,Gc],.of (.int _ _ (mL.wrap _ _)),by simp⟩
   ·cases h
 ·cases h
theorem G0{o:Oper}{op:BinOp}{t t':TypeId}{x y:Operand}{d:D}(hs:cR Γ st κ Θ a w)(ho:o.op=.binOp op t x y t')
 (h:PX P op t (st.ev x) y=some d):oQ P κ Θ a w o d:=by
 obtain⟨b1,r1,_⟩:=hs.ev x;generalize st.ev x=dx at*;unfold PX at h;split at h
 ·rename_i b;have hy:a.eval (.const .nilIface)=.nilIface:=rfl;have hT:∀ {op'},Pq P t=true->op=op'->∃ms,P.underlying t=some (.interface ms):=by
   intro _ ht _;unfold Pq at ht;split at ht
   ·rename_i ms hu;exact⟨ms,hu⟩
   ·cases ht
  rcases r1.MW with⟨rfl,hx⟩|⟨rfl,t1,v1,hx⟩
  ·split at h
   ·rename_i ht;cases h;obtain⟨ms,hu⟩:=hT ht rfl;exact⟨.bool true,[],by simp[execOp,ho,hx,hy,binOp,eqGuard_nil_constR,zJ hu],.of (.bool _),by simp⟩
   ·rename_i ht;cases h;obtain⟨ms,hu⟩:=hT ht rfl;exact⟨.bool false,[],by simp[execOp,ho,hx,hy,binOp,eqGuard_nil_constR,zJ hu],.of (.bool _),by simp⟩
   ·cases h
  ·split at h
   ·rename_i ht;cases h;obtain⟨ms,hu⟩:=hT ht rfl;exact⟨.bool false,[],by simp[execOp,ho,hx,hy,binOp,eqGuard,xH hu],.of (.bool _),by simp⟩
   ·rename_i ht;cases h;obtain⟨ms,hu⟩:=hT ht rfl;exact⟨.bool true,[],by simp[execOp,ho,hx,hy,binOp,eqGuard,xH hu],.of (.bool _),by simp⟩
   ·cases h
 ·cases h
theorem pZ.cons{w:World}{e:MapEntry}{es:List MapEntry}{p:D×D}{kv:List (D×D)}(h:pZ w (e::es) (p::kv)):Rd w e.key p.1 []/\Rd w e.val p.2 []/\pZ w es kv:=
 ⟨(h.2 0 e p rfl rfl).1,(h.2 0 e p rfl rfl).2,by simpa using h.1,fun j e' p' h1 h2=>h.2 (j+1) e' p' (by simpa using h1) (by simpa using h2)⟩
theorem NH{x y:ByteArray}:(x==y)=(x.data.toList==y.data.toList):=by
 rw[bO,MapKept.bytes_beq,bq];constructor
 ·intro h;rw[h]
 ·intro h;obtain⟨a⟩:=x;obtain⟨b⟩:=y;simp only at h;rw[mW]at h;rw[h]
theorem Aw{w:World}{kd:TypeDesc}{k k':D}{u u':Value}{b:Bool}(C9:xm kd k=true)(hu:Rd w u k [])(o4:Rd w u' k' [])(h:QG k k'=some b):Instr.sameNow kd u u'=some b/\(b=true->u'=u):=by
 unfold QG at h;split at h
 ·rename_i s s';cases h;cases hu with
  |str x hx=>
   cases o4 with
   |str y hy=>
    cases kd<;>simp[xm]at C9;refine⟨by simp only[Instr.sameNow];rw[NH],fun e=>?_⟩;rw[<-NH,MapKept.bytes_beq]at e;rw[e]
 ·rename_i k1 a k2 b';split at h
  ·rename_i e;subst e;cases h;cases hu with
   |int _ _ hx=>
    cases o4 with
    |int _ _ hy=>
     cases kd<;>simp[xm]at C9;refine⟨by simp[Instr.sameNow],fun e=>?_⟩;have:a=b':=by simpa using e
     rw[this]
  ·cases h
 ·cases h
theorem MY{w:World}{kd:TypeDesc}{k:D}{u:Value}(C9:xm kd k=true)(hu:Rd w u k []):∀ {es:List MapEntry} {kv:List (D×D)} {r:Option D} (i:Nat),pZ w es kv->vh k kv=some r->
 (r=none/\Instr.findNow kd u es i=some none)\/∃d v j,r=some d/\Instr.findNow kd u es i=some (some (j,v))/\Rd w v d []:=by
 intro es
 induction es with
 |nil=>
  intro kv r i hr h;cases kv with
  |nil=>cases h;exact .inl ⟨rfl,rfl⟩
  |cons p kv=>exact absurd hr.1 (by simp)
 |cons e es ih=>
  intro kv r i hr h;cases kv with
  |nil=>exact absurd hr.1 (by simp)
  |cons p kv=>
   obtain⟨r1,r2,r3⟩:=hr.cons;simp only[vh]at h;split at h
   ·rename_i hq;cases h;exact .inr ⟨p.2,e.val,i,rfl,by simp[Instr.findNow,(Aw C9 hu r1 hq).1],r2⟩
   ·rename_i hq;have:=ih (i+1) r3 h;simpa[Instr.findNow,(Aw C9 hu r1 hq).1]using this
   ·cases h
theorem Ea{w:World}{kd:TypeDesc}{k:D}{u:Value}(C9:xm kd k=true)(hu:Rd w u k []):MapKept.IsKey kd u:=by
 cases kd<;>cases k<;>simp[xm]at C9
 all_goals cases hu
 ·simp[MapKept.IsKey,C9]
 ·simp[MapKept.IsKey]
theorem CZ{w:World}{κ:Nat->Option Value}{kd:TypeDesc}{k:D}{u:Value}{bs:aI}(C9:xm kd k=true)(hu:lD w κ u k bs):Rd w u k []:=by
 cases kd<;>cases k<;>simp[xm]at C9
 all_goals cases hu with|v h=>cases h with|cell h=>cases h with|pure h=>cases h<;>(constructor;assumption)
theorem Di{t:TypeId}{i:TypeInfo}(h:P.info? t=some i){w:World}:(typeInfo t).run P w=.ok i w:=by
 simp[typeInfo,h]
theorem Br{T:TypeId}{kd:TypeDesc}{dz:D}(h:IR P T=some (kd,dz)):∃kt et z,P.underlying T=some (.map kt et)/\P.underlying kt=some kd/\dz=D.Ep z/\∀w:World,(zeroValue et).run P w=.ok z w:=by
 unfold IR at h;split at h
 ·rename_i kt et h1;split at h
  ·rename_i d i h2 h3;split at h
   ·rename_i z h4;split at h
    ·cases h;exact⟨kt,et,z,h1,h2,rfl,fun w=>by simp[zeroValue,Di h3,h4]⟩
    ·cases h
   ·cases h
  ·cases h
 ·cases h
theorem DO{o:Oper}{T:Nat}{x i:Operand}{ok:Bool}{d:D}(hs:cR Γ st κ Θ a w)(ho:o.op=.lookup T x i ok)
 (h:pv P st (.lookup T x i ok)=some d):oQ P κ Θ a w o d:=by
 simp only[pv]at h;split at h
 ·rename_i id hx;split at h
  ·rename_i kv hH;obtain⟨g,es,c,q1,q2,q3,q4⟩:=hs.ob id _ hH;obtain⟨bs,r,_⟩:=hs.ev x;rw[hx]at r;obtain⟨hk,_⟩:=r.nS;rw[q1]at hk;have Oz:a.eval x=.map (some g):=(nQ hk).symm;obtain⟨bi,ri,_⟩:=hs.ev i;unfold QJ at h;split at h
   ·rename_i kd dz hT;obtain⟨kt,et,z,t1,t2,t3,t4⟩:=Br hT;have fin:∀(r:Option D),xm kd (st.ev i)=true->vh (st.ev i) kv=some r->d=(match r with|some d=>(bif ok then .iz [d,.bool true]else d)|none=>(bif ok then .iz [dz,.bool false]else dz))->oQ P κ Θ a w o d:=by
     intro r C9 hf hd;have hu:=CZ C9 ri;have OZ:=MapKept.run_checkKey (P:=P) (w:=w) t2 (Ea C9 hu) es.isEmpty 9999;rcases MY C9 hu 0 q4 hf with⟨rfl,hn⟩|⟨d',v,j,rfl,hn,hv⟩
     ·have JZ:=MapKept.run_findKey (P:=P) (w:=w) t2 hn;subst hd;cases ok with
      |false=>exact⟨z,[],by simp[execOp,ho,Oz,Instr.lookup,run_underlying t1,MapKept.run_getObj_map q2,OZ,JZ,t4],by rw[t3];exact Fx z,by simp⟩
      |true=>
       refine⟨.tuple #[z,.bool false],[],by simp[execOp,ho,Oz,Instr.lookup,run_underlying t1,MapKept.run_getObj_map q2,OZ,JZ,t4],?_,by simp⟩;have hz:B5 w κ z dz []:=by
        have:=Fx (w:=w) (κ:=κ) z;rw[<-t3]at this;cases this with
        |v h=>exact h
        |iz vs ds bs h=>exact absurd t3 (by simp[D.Ep])
       exact .iz [z,.bool false] [dz,.bool false] [] (.cons _ _ _ _ [] [] hz (.cons _ _ _ _ [] [] (.cell (.pure (.bool _))) .nil))
     ·have JZ:=MapKept.run_findKey (P:=P) (w:=w) t2 hn;subst hd;cases ok with
      |false=>exact⟨v,[],by simp[execOp,ho,Oz,Instr.lookup,run_underlying t1,MapKept.run_getObj_map q2,OZ,JZ],.of hv,by simp⟩
      |true=>
       refine⟨.tuple #[v,.bool true],[],by simp[execOp,ho,Oz,Instr.lookup,run_underlying t1,MapKept.run_getObj_map q2,OZ,JZ],?_,by simp⟩;exact .iz [v,.bool true] [d',.bool true] [] (.cons _ _ _ _ [] [] (.cell (.pure hv)) (.cons _ _ _ _ [] [] (.cell (.pure (.bool _))) .nil))
    split at h
    ·rename_i d' h1 h2;cases h;exact fin _ h1 h2 rfl
    ·rename_i h1 h2;cases h;exact fin _ h1 h2 rfl
    ·cases h
   ·cases h
  ·cases h
 ·cases h
theorem Rd.OQ{w:World}{v:Value}{row:aG}{o:Nat}{bs:aI}(h:Rd w v (.ep row o) bs):∃q,v=.pointer (some q):=by
 cases h;exact⟨_,rfl⟩
theorem vo{o:Oper}{d:D}(hs:cR Γ st κ Θ a w)(h:pv P st o.op=some d):oQ P κ Θ a w o d:=by
 cases ho:o.op
 all_goals rw[ho]at h
 case load t x=>exact BY hs ho h
 case lookup t x i ok=>exact DO hs ho h
 case build t parts=>exact EA hs ho h
 case fieldAddr t x f=>exact Ae hs ho h
 case field t x f=>exact EH hs ho h
 case indexAddr t x i=>exact Ak hs ho h
 case extract x i=>exact C6 hs ho h
 case index t x i=>exact EZ hs ho h
 case binOp op t x y t'=>
  simp only[pv]at h;split at h
  ·rename_i e;cases h;exact Fy hs ho e
  ·split at h
   ·rename_i e;cases h;exact IE hs ho e
   ·split at h
    ·rename_i e;cases h;exact G0 hs ho e
    ·exact Fz hs ho h
 case nilCheck x=>
  simp only[pv]at h;obtain⟨b,r,z⟩:=hs.ev x;have Oi:∀q,a.eval x=.pointer (some q)->oQ P κ Θ a w o (st.ev x):=fun q hq=>⟨_,b,by simp[execOp,ho,hq],hq▸r,z⟩
  split at h<;>rename_i hx<;>cases h<;>rw[hx]at r Oi
  ·obtain⟨g,_,hv⟩:=r.qP;exact Oi _ hv
  ·obtain⟨_,_,_,_,_,hv⟩:=r.vm;exact Oi _ hv
  ·obtain⟨_,hv⟩:=Rd.OQ r.FP;exact Oi _ hv
 case slice t x lo hi mx=>
  cases mx with
  |none=>exact F0 hs ho h
  |some m=>simp[pv]at h
 case move x=>
  simp only[pv,aP]at h;subst h;obtain⟨b,r,z⟩:=hs.ev x;exact⟨_,b,by simp[execOp,ho],r,z⟩
 case assign x=>
  simp only[pv,aP]at h;subst h;obtain⟨b,r,z⟩:=hs.ev x;exact⟨_,b,by simp[execOp,ho],r,z⟩
 case pick c x y=>
  simp only[pv]at h;split at h
  ·rename_i t hc;cases h;obtain⟨b,r,z⟩:=hs.ev c;rw[hc]at r;have hv:=r.o9;cases t
   ·obtain⟨b,r,z⟩:=hs.ev y;exact⟨_,b,by simp[execOp,ho,hv,asBool],r,z⟩
   ·obtain⟨b,r,z⟩:=hs.ev x;exact⟨_,b,by simp[execOp,ho,hv,asBool],r,z⟩
  ·cases h
 case unOp op t x=>
  obtain⟨b,r,z⟩:=hs.ev x;cases op<;>simp only[pv,reduceCtorEq]at h
  case neg=>
   split at h
   ·rename_i k n hx;cases h;rw[hx]at r;have hv:=r.kZ;exact⟨_,[],by simp[execOp,ho,hv,Op.unary,Op.intArith],.of (.int _ _ (mL.wrap _ _)),by simp⟩
   ·cases h
  case not=>
   split at h
   ·rename_i bb hx;cases h;rw[hx]at r;have hv:=r.o9;exact⟨_,[],by simp[execOp,ho,hv,Op.unary],.of (.bool _),by simp⟩
   ·cases h
 case convert s d' x=>
  obtain⟨b,r,z⟩:=hs.ev x;simp only[pv]at h;split at h
  ·rename_i k0 n k1 k hx h1 h2;cases h;rw[hx]at r;have hv:=r.kZ;have u1:P.underlying s=some (.int k1):=by
    unfold GJ at h1;split at h1
    ·cases h1;assumption
    ·cases h1
   have u2:P.underlying d'=some (.int k):=by
    unfold GJ at h2;split at h2
    ·cases h2;assumption
    ·cases h2
   exact⟨_,[],by simp[execOp,ho,hv,convert,run_underlying u1,run_underlying u2,Conv.intToInt],.of (.int _ _ (mL.wrap _ _)),by simp⟩
  ·cases h
 case call c=>
  simp only[pv]at h;split at h
  ·rename_i x t h1 h2 h3;refine I3 hs (x:=x) (t:=t) ?_ h;rw[ho];obtain⟨callee,args,argTypes⟩:=c;simp only at h1 h2 h3;subst h1;have e1:args= #[x]:=by cases args;simp_all
   have e2:argTypes= #[t]:=by cases argTypes;simp_all
   subst e1;subst e2;rfl
  ·rename_i x y t t' h1 h2 h3;refine I6 hs (x:=x) (y:=y) (t:=t) (t':=t') ?_ h;rw[ho];obtain⟨callee,args,argTypes⟩:=c;simp only at h1 h2 h3;subst h1;have e1:args= #[x,y]:=by cases args;simp_all
   have e2:argTypes= #[t,t']:=by cases argTypes;simp_all
   subst e1;subst e2;rfl
  ·cases h
 all_goals simp[pv]at h
theorem ND{Q:Exit->St->Prop}{all:Array Oper}{rest:List Oper}{o:Oper}{t:Nat}{d:D}(hd:o.dst=some t)(hg:o.guard=none)(ht:t<Γ.nt)
 (hv:pv P st o.op=some d) (h:AO P Γ all rest Q (st.set t d)):AO P Γ all (o::rest) Q st:=by
 intro κ Θ a w hs;obtain⟨v,bs,hr,hrd,hz⟩:=vo hs hv;refine wpList_plain hg fun K hK=>?_
 unfold Oper.wp;rw[hr,Oper.upon_value,hd];exact hK _ _ (h κ Θ _ w (hs.set ht hrd hz))
end
end Go.Cx
namespace Go.Cx
open Go.RowKit
structure ed(w w':World)(Θ Θ':Nat->Nat)(tag:Nat):Prop where
 two:2<=tag
 os:w'.os=w.os
 tape:w'.tape=w.tape
 output:w'.output=w.output
 size:w.heap.size<=w'.heap.size
 block:∀b,b<w.heap.size->Θ b≠tag->w'.heap[b]?=w.heap[b]?
 owner:∀b,b<w.heap.size->Θ b≠tag->Θ' b=Θ b
 own:∀b,Θ' b≠0->b<w'.heap.size
section
variable{w w':World}{κ κ':Nat->Option Value}{Θ Θ':Nat->Nat}{tag id:Nat}{r:D}
theorem ed.free(k:ed w w' Θ Θ' tag){b:Nat}(hb:b<w.heap.size)(hz:Θ b=0):Θ' b=0:=by
 have:=k.two;rw[k.owner b hb (by omega)];exact hz
theorem Rd.over{v:Value}{d:D}{bs:aI}(k:ed w w' Θ Θ' tag)(h:Rd w v d bs)(hz:∀b∈bs,Θ b=0):Rd w' v d bs/\∀b∈bs,Θ' b=0:=by
 have:=k.two;exact⟨h.keep fun b hb=>k.block b (h.lt b hb) (by rw[hz b hb];omega),fun b hb=>k.free (h.lt b hb) (hz b hb)⟩
theorem iB.over{vs:av}{ds:aG}{bs:aI}(k:ed w w' Θ Θ' tag)(h:iB w vs ds bs)(hz:∀b∈bs,Θ b=0):iB w' vs ds bs/\∀b∈bs,Θ' b=0:=by
 have:=k.two;exact⟨h.keep fun b hb=>k.block b (h.lt b hb) (by rw[hz b hb];omega),fun b hb=>k.free (h.lt b hb) (hz b hb)⟩
section
variable(hn:∀(j:Nat) v,κ j=some v->κ' j=some v)
include hn
end
theorem OK.lt{v:Value}{rows:List aG}{p n:Nat}{bs:aI}(h:OK w κ v rows p n bs):∀b∈bs,b<w.heap.size:=by
 obtain⟨b,off,cap,cs,ns,rfl,h1,h2,h3,h4,h5,rfl,_⟩:=h;intro x hx;rcases aq.1 hx with rfl|hx
 ·exact h1
 ·exact h5.lt x hx
section
variable(hn:∀(j:Nat) v,κ j=some v->κ' j=some v)
include hn
theorem OK.stay{v:Value}{rows:List aG}{p n:Nat}{bs:aI}(h:OK w κ v rows p n bs)(hb:∀b∈bs,w'.heap[b]?=w.heap[b]?):OK w' κ' v rows p n bs:=by
 obtain⟨b,off,cap,cs,ns,rfl,h1,h2,h3,h4,h5,rfl,c,h6,h7⟩:=h;exact⟨b,off,cap,cs,ns,rfl,z6 h1 (hb b (by simp)),h2,h3,fun j c hc=>(sJ (hb b (by simp))).trans (h4 j c hc),h5.keep (fun x hx=>hb x (by simp[hx])),rfl,c,h6,hn _ _ h7⟩
end
section
variable(k:ed w w' Θ Θ' tag)(hn:∀(j:Nat) v,κ j=some v->κ' j=some v)
include k hn
theorem qG.stay{v:Value}{d:D}{bs:aI}(h:qG w κ v d bs)(hz:∀b∈bs,Θ b=0):qG w' κ' v d bs/\∀b∈bs,Θ' b=0:=by
 cases h with
 |pure h=>exact⟨.pure (Rd.over k h hz).1,(Rd.over k h hz).2⟩
 |acc i v hk=>exact⟨.acc i v (hn _ _ hk),by simp⟩
 |ptr i off b hk=>exact⟨.ptr i off b (hn _ _ hk),by simp⟩
 |op i j sz off b o0 len cap hk=>exact⟨.op i j sz off b o0 len cap (hn _ _ hk),by simp⟩
theorem dF.stay{vs:av}{ds:aG}{bs:aI}(h:dF w κ vs ds bs)(hz:∀b∈bs,Θ b=0):dF w' κ' vs ds bs/\∀b∈bs,Θ' b=0:=by
 induction ds generalizing vs bs with
 |nil=>cases h;exact⟨.nil,by simp⟩
 |cons d ds ih=>
  cases h with
  |cons v vs _ _ b1 b2 h1 h2 h3=>
   obtain⟨k1,k2⟩:=qG.stay k hn h2 (fun b hb=>hz b (by simp[hb]));obtain⟨k3,k4⟩:=ih h3 (fun b hb=>hz b (by simp[hb]));refine⟨.cons _ _ _ _ _ _ h1 k1 k3,fun b hb=>?_⟩;rcases aJ.1 hb with hb|hb
   ·exact k2 b hb
   ·exact k4 b hb
theorem B5.stay{v:Value}{d:D}{bs:aI}(h:B5 w κ v d bs)(hz:∀b∈bs,Θ b=0):B5 w' κ' v d bs/\∀b∈bs,Θ' b=0:=by
 cases h with
 |cell h=>exact⟨.cell (qG.stay k hn h hz).1,(qG.stay k hn h hz).2⟩
 |agg cs ds bs h=>exact⟨.agg _ _ _ (dF.stay k hn h hz).1,(dF.stay k hn h hz).2⟩
theorem tB.stay{vs:av}{ds:aG}{bs:aI}(h:tB w κ vs ds bs)(hz:∀b∈bs,Θ b=0):tB w' κ' vs ds bs/\∀b∈bs,Θ' b=0:=by
 induction ds generalizing vs bs with
 |nil=>cases h;exact⟨.nil,by simp⟩
 |cons d ds ih=>
  cases h with
  |cons v vs _ _ b1 b2 h2 h3=>
   obtain⟨k1,k2⟩:=B5.stay k hn h2 (fun b hb=>hz b (by simp[hb]));obtain⟨k3,k4⟩:=ih h3 (fun b hb=>hz b (by simp[hb]));refine⟨.cons _ _ _ _ _ _ k1 k3,fun b hb=>?_⟩;rcases aJ.1 hb with hb|hb
   ·exact k2 b hb
   ·exact k4 b hb
theorem lD.stay{v:Value}{d:D}{bs:aI}(h:lD w κ v d bs)(hz:∀b∈bs,Θ b=0):lD w' κ' v d bs/\∀b∈bs,Θ' b=0:=by
 cases h with
 |v h=>exact⟨.v (B5.stay k hn h hz).1,(B5.stay k hn h hz).2⟩
 |iz vs ds bs h=>exact⟨.iz _ _ _ (tB.stay k hn h hz).1,(tB.stay k hn h hz).2⟩
theorem nh.stay{j:Nat}{o:Ob}(hj:j+2≠tag)(h:nh w κ Θ j o):nh w' κ' Θ' j o:=by
 cases o with
 |gone=>trivial
 |tk rows=>
  obtain⟨v,bs,hk,hrd,hz⟩:=h;obtain⟨h1,h2⟩:=Rd.over k hrd hz;exact⟨v,bs,hn _ _ hk,h1,h2⟩
 |tf e sz rows=>
  obtain⟨v,bs,hk,hrd,hz⟩:=h;obtain⟨h1,h2⟩:=Rd.over k hrd hz;exact⟨v,bs,hn _ _ hk,h1,h2⟩
 |mp kv=>
  obtain⟨g,es,c,q1,q2,q3,q4⟩:=h;have hlt:g<w.heap.size:=(aV.1 q2).1;have hne:Θ g≠tag:=by rw[q3];exact hj
  exact⟨g,es,c,hn _ _ q1,(k.block g hlt hne).trans q2,by rw[k.owner g hlt hne];exact q3,q4.stay⟩
 |oJ sz rows u=>
  obtain⟨hrl,MP,v,bs,hk,hrd,hnd,uU⟩:=h;have hsame:∀b∈bs,w'.heap[b]?=w.heap[b]?:=fun b hb=>k.block b (hrd.lt b hb) (by rw[(uU b hb).1];exact hj)
  refine⟨hrl,fun x hx=>hn _ _ (MP x hx),v,bs,hn _ _ hk,hrd.keep hsame,hnd,fun b hb=>⟨?_,?_⟩⟩
  ·rw[k.owner b (hrd.lt b hb) (by rw[(uU b hb).1];exact hj)];exact(uU b hb).1
  ·obtain⟨x,T,hx⟩:=(uU b hb).2;exact⟨x,T,(hsame b hb).trans hx⟩
 |hole sz rows u p n=>
  obtain⟨hrl,MP,v,bs,hk,hrd,hnd,uU⟩:=h;have hsame:∀b∈bs,w'.heap[b]?=w.heap[b]?:=fun b hb=>k.block b (hrd.lt b hb) (by rw[(uU b hb).1];exact hj)
  refine⟨hrl,fun x hx=>hn _ _ (MP x hx),v,bs,hn _ _ hk,OK.stay hn hrd hsame,hnd,fun b hb=>⟨?_,?_⟩⟩
  ·rw[k.owner b (hrd.lt b hb) (by rw[(uU b hb).1];exact hj)];exact(uU b hb).1
  ·obtain⟨x,T,hx⟩:=(uU b hb).2;exact⟨x,T,(hsame b hb).trans hx⟩
 |box cells=>
  obtain⟨g,cs,T,hk,hg,hΘ,bs,l7,hz⟩:=h;have hlt:g<w.heap.size:=(aV.1 hg).1;have hne:Θ g≠tag:=by rw[hΘ];exact hj
  obtain⟨h1,h2⟩:=dF.stay k hn l7 hz;exact⟨g,cs,T,hn _ _ hk,(k.block g hlt hne).trans hg,(k.owner g hlt hne).trans hΘ,bs,h1,h2⟩
 |yB cells u=>
  obtain⟨hu,g,cs,T,hk,hg,hΘ,bs,l7,hz⟩:=h;have hlt:g<w.heap.size:=(aV.1 hg).1;have hne:Θ g≠tag:=by rw[hΘ];exact hj
  obtain⟨h1,h2⟩:=dF.stay k hn l7 hz;exact⟨⟨hn _ _ hu.1,hu.2.same hk hg (hn _ _ hk) ((k.block g hlt hne).trans hg)⟩,g,cs,T,hn _ _ hk,(k.block g hlt hne).trans hg,(k.owner g hlt hne).trans hΘ,bs,h1,h2⟩
 |row deep e sz rows=>
  obtain⟨hsz,hrl,v,cs,bs,hk,hown,l7,hΘ,hd⟩:=h;refine⟨hsz,hrl,v,cs,bs,hn _ _ hk,?_,?_,?_,?_⟩
  ·refine⟨hown.1,?_⟩;rcases hown.2 with vX|⟨g,cap,cur,rfl,hb,DD,rest⟩
   ·exact .inl vX
   ·have hlt:g<w.heap.size:=(aV.1 DD).1;have hne:Θ g≠tag:=by rw[hΘ g (by simp[Value.ownBlock])];exact hj
    exact .inr ⟨g,cap,cur,rfl,hb,(k.block g hlt hne).trans DD,rest⟩
  ·refine l7.keep fun b hb=>k.block b (l7.lt b hb) ?_
   have:=k.two;cases deep with
   |cl=>rw[(hd.2.1 b hb).1];exact hj
   |sh=>rw[hd b hb];omega
   |uq=>rw[hd b hb];omega
   |mv n=>rw[hd b hb];omega
   |ho p n=>rw[hd b hb];omega
  ·intro g hg;have hlt:=(hown.lt g hg).2;have e:=hΘ g hg;rw[k.owner g hlt (by rw[e];exact hj)];exact e
  ·cases deep with
   |cl=>
    refine⟨hd.1,fun b hb=>⟨?_,?_⟩,hd.2.2.1,hd.2.2.2.keep fun b hb=>k.block b (l7.lt b hb) (by rw[(hd.2.1 b hb).1];exact hj)⟩
    ·rw[k.owner b (l7.lt b hb) (by rw[(hd.2.1 b hb).1];exact hj)];exact(hd.2.1 b hb).1
    ·obtain⟨x,T,hx⟩:=(hd.2.1 b hb).2;exact⟨x,T,(k.block b (l7.lt b hb) (by rw[(hd.2.1 b hb).1];exact hj)).trans hx⟩
   |sh=>exact fun b hb=>k.free (l7.lt b hb) (hd b hb)
   |uq=>exact fun b hb=>k.free (l7.lt b hb) (hd b hb)
   |mv n=>exact fun b hb=>k.free (l7.lt b hb) (hd b hb)
   |ho p n=>exact fun b hb=>k.free (l7.lt b hb) (hd b hb)
end
end
section
variable{Γ:nR}{st:St}{κ κ':Nat->Option Value}{Θ Θ':Nat->Nat}{a:Act}{w w':World}{tag:Nat}
theorem cR.base(hs:cR Γ st κ Θ a w):Γ.W0.heap.size<=w.heap.size:=hs.stays.size
theorem cR.Fo(hs:cR Γ st κ Θ a w)(k:ed w w' Θ Θ' tag):GV Γ w':=by
 refine⟨k.os.trans hs.stays.os,k.tape.trans hs.stays.tape,k.output.trans hs.stays.output,fc hs.stays.size k.size,fun b hb hx=>?_⟩;have:=k.two;have h1:=(hs.old b hb hx).2;exact(k.block b (cF hb hs.base) (by omega)).trans (hs.stays.block b hb hx)
theorem cR.KE(hs:cR Γ st κ Θ a w)(k:ed w w' Θ Θ' tag):∀b,b<Γ.W0.heap.size->¬Γ.X b->Θ' b=Γ.Θ0 b/\Θ' b<=1:=by
 intro b hb hx;have:=k.two;have h1:=hs.old b hb hx;rw[k.owner b (cF hb hs.base) (by omega)];exact h1
theorem cR.jI(hs:cR Γ st κ Θ a w)(k:ed w w' Θ Θ' tag)(hn:∀(j:Nat) v,κ j=some v->κ' j=some v){ρ:Nat->Nat}(hu:qe Γ st.H κ Θ w ρ):
 (∀b,ρ b≠0->Θ' b=0/\GS Γ b/\Wr w' b)/\(∀id e sz rows,id+2≠tag->st.H[id]?=some (.row .uq e sz rows)->
  ∃v cs bs,κ' id=some v/\w'.ownsRow 0 e sz v rows.length cs/\oq w' (ny e) 0 cs rows.flatten bs/\bs.Nodup/\∀b∈bs,ρ b=id+1)/\
  ∀id o,id+2≠tag->st.H[id]?=some o->Bv w' κ' ρ id o:=by
 have h2:=k.two;refine⟨?_,?_,?_⟩
 ·intro b hb;obtain⟨h0,hm,x,T,hx⟩:=hu.free b hb;have hlt:b<w.heap.size:=(aV.1 hx).1;exact⟨k.free hlt h0,hm,x,T,(k.block b hlt (by omega)).trans hx⟩
 ·intro id e sz rows hid hH;obtain⟨v,cs,bs,hk,hown,l7,hnd,hρ⟩:=hu.rows id e sz rows hH;obtain⟨_,_,v2,_,_,hk2,_,_,hΘ,_⟩:=hs.ob id _ hH;rw[hk]at hk2;cases hk2;refine⟨v,cs,bs,hn _ _ hk,⟨hown.1,?_⟩,l7.keep fun b hb=>k.block b (l7.lt b hb) ?_,hnd,hρ⟩
  ·rcases hown.2 with vX|⟨g,cap,cur,rfl,hb,DD,rest⟩
   ·exact .inl vX
   ·have hlt:g<w.heap.size:=(aV.1 DD).1;have hne:Θ g≠tag:=by rw[hΘ g (by simp[Value.ownBlock])];exact hid
    exact .inr ⟨g,cap,cur,rfl,hb,(k.block g hlt hne).trans DD,rest⟩
  ·have:=hρ b hb;have:=(hu.free b (by omega)).1;omega
 ·intro id o hid hH;have hm:=hu.more id o hH;have hb0:∀ {bs:aI},(∀b∈bs,ρ b=id+1)->∀b∈bs,Θ b≠tag:=fun hρ b hb=>by
   have:=hρ b hb;have:=(hu.free b (by omega)).1;omega
  cases o with
  |tk rows=>
   obtain⟨v,bs,hk,hrd,hnd,hρ⟩:=hm;exact⟨v,bs,hn _ _ hk,hrd.keep fun b hb=>k.block b (hrd.lt b hb) (hb0 hρ b hb),hnd,hρ⟩
  |tf e sz rows=>
   obtain⟨v,bs,hk,hrd,hlt,hnd,hρ⟩:=hm;exact⟨v,bs,hn _ _ hk,hrd.keep fun b hb=>k.block b (hlt b hb) (hb0 hρ b hb),fun b hb=>cF (hlt b hb) k.size,hnd,hρ⟩
  |row kd e sz rows=>
   cases kd with
   |mv n=>
    obtain⟨v,cs,bs,hk,hown,l7,hnd,hρ⟩:=hm;obtain⟨_,_,v2,_,_,hk2,_,_,hΘ,_⟩:=hs.ob id _ hH;rw[hk]at hk2;cases hk2;refine⟨v,cs,bs,hn _ _ hk,⟨hown.1,?_⟩,l7.keep fun b hb=>k.block b (l7.lt b hb) (hb0 hρ b hb),hnd,hρ⟩;rcases hown.2 with vX|⟨g,cap,cur,rfl,hb,DD,rest⟩
    ·exact .inl vX
    ·have hlt:g<w.heap.size:=(aV.1 DD).1;have hne:Θ g≠tag:=by rw[hΘ g (by simp[Value.ownBlock])];exact hid
     exact .inr ⟨g,cap,cur,rfl,hb,(k.block g hlt hne).trans DD,rest⟩
   |ho p n=>
    obtain⟨v,cs,bs,hk,hown,l7,hnd,hρ,c,hc,hkc⟩:=hm;obtain⟨_,_,v2,_,_,hk2,_,_,hΘ,_⟩:=hs.ob id _ hH;rw[hk]at hk2;cases hk2;exact⟨v,cs,bs,hn _ _ hk,zF hown (fun g hg=>k.block g (hown.lt g hg).2 (by rw[hΘ g hg];exact hid)),l7.keep fun b hb=>k.block b (l7.lt b hb) (hb0 hρ b hb),hnd,hρ,c,hc,hn _ _ hkc⟩
   |_=>trivial
  |_=>trivial
theorem Bv.re{ρ ρ':Nat->Nat}{id:Nat}{o:Ob}(h:Bv w κ ρ id o)(hr:∀b,ρ b=id+1->ρ' b=id+1):Bv w κ ρ' id o:=by
 cases o with
 |tk rows=>
  obtain⟨v,bs,hk,hrd,hnd,hρ⟩:=h;exact⟨v,bs,hk,hrd,hnd,fun b hb=>hr b (hρ b hb)⟩
 |tf e sz rows=>
  obtain⟨v,bs,hk,hrd,hlt,hnd,hρ⟩:=h;exact⟨v,bs,hk,hrd,hlt,hnd,fun b hb=>hr b (hρ b hb)⟩
 |row kd e sz rows=>
  cases kd with
  |mv n=>
   obtain⟨v,cs,bs,hk,hown,l7,hnd,hρ⟩:=h;exact⟨v,cs,bs,hk,hown,l7,hnd,fun b hb=>hr b (hρ b hb)⟩
  |ho p n=>
   obtain⟨v,cs,bs,hk,hown,l7,hnd,hρ,hc⟩:=h;exact⟨v,cs,bs,hk,hown,l7,hnd,fun b hb=>hr b (hρ b hb),hc⟩
  |_=>trivial
 |_=>trivial
theorem cR.step(hs:cR Γ st κ Θ a w){H':ah}(k:ed w w' Θ Θ' tag)(hm:∀b,2<=Θ' b->qF Γ b)(hn:∀(j:Nat) v,κ j=some v->κ' j=some v)
 (R4:∀id,H'.length<=id->κ' id=none) (hk1:∀(id:Nat) u,κ' id=some u->u.oneCell'=true)
 (qS:∀(j:Nat) o,H'[j]?=some o->o=.gone\/(j+2≠tag/\st.H[j]?=some o)\/nh w' κ' Θ' j o) (hu:∃ρ,qe Γ H' κ' Θ' w' ρ):cR Γ ⟨st.σ,H'⟩ κ' Θ' a w':=by
 refine⟨hs.defers,hs.size,R4,hk1,?_,?_,k.own,hs.KE k,hm,hs.Fo k,hu⟩
 ·intro t;obtain⟨bs,hr,hz⟩:=hs.slot t;exact⟨bs,lD.stay k hn hr hz⟩
 ·intro j o hj;rcases qS j o hj with rfl|⟨hne,hj'⟩|h
  ·trivial
  ·exact nh.stay k hn hne (hs.ob j o hj')
  ·exact h
def pL(κ:Nat->Option Value)(id:Nat)(v:Option Value):Nat->Option Value:=fun i=>if i=id then v else κ i
theorem gq(κ:Nat->Option Value)(id:Nat)(v:Option Value):pL κ id v id=v:=by simp[pL]
theorem ol{κ:Nat->Option Value}{id:Nat}(h:κ id=none)(v:Option Value):∀(j:Nat) u,κ j=some u->pL κ id v j=some u:=by
 intro j u hj;unfold pL;rw[ai (fun e=>by subst e;rw[h]at hj;cases hj)];exact hj
def Ob.GO:Ob->Bool
 | .row .uq _ _ _=>true
 | .row (.mv _) _ _ _=>true
 | .row (.ho _ _) _ _ _=>true
 | .tk _=>true
 | .tf _ _ _=>true
 |_=>false
def Ob.Na:Ob->Bool
 | .row (.mv _) _ _ _=>true
 | .row (.ho _ _) _ _ _=>true
 | .tk _=>true
 | .tf _ _ _=>true
 |_=>false
theorem Bv.vn{ρ:Nat->Nat}{id:Nat}{o:Ob}(h:o.Na=false):Bv w κ ρ id o:=by
 cases o with
 |tk rows=>simp[Ob.Na]at h
 |tf e sz rows=>simp[Ob.Na]at h
 |row kd e sz rows=>
  cases kd with
  |mv n=>simp[Ob.Na]at h
  |ho p n=>simp[Ob.Na]at h
  |_=>trivial
 |_=>trivial
theorem Bv.plain{ρ:Nat->Nat}{id:Nat}{o:Ob}(h:o.GO=false):Bv w κ ρ id o:=by
 cases o with
 |tk rows=>simp[Ob.GO]at h
 |tf e sz rows=>simp[Ob.GO]at h
 |row kd e sz rows=>
  cases kd with
  |mv n=>simp[Ob.GO]at h
  |ho p n=>simp[Ob.GO]at h
  |_=>trivial
 |_=>trivial
theorem cR.push(hs:cR Γ st κ Θ a w){v:Value}{o:Ob}(h1:v.oneCell'=true)(k:ed w w' Θ Θ' (st.H.length+2))(hm:∀b,2<=Θ' b->qF Γ b)
 (ho:nh w' (pL κ st.H.length (some v)) Θ' st.H.length o) (hq:o.GO=false):cR Γ ⟨st.σ,st.H++[o]⟩ (pL κ st.H.length (some v)) Θ' a w':=by
 have hn:=ol (hs.jx _ (b9 _)) (some v);have key:∀(j:Nat) x,(st.H++[o])[j]?=some x->(j=st.H.length/\x=o)\/(j+2≠st.H.length+2/\st.H[j]?=some x):=by
  intro j x hj;by_cases hlt:j<st.H.length
  ·rw[aS hlt]at hj;exact .inr ⟨by omega,hj⟩
  ·have hj':=(aB.1 hj).1;simp only[af,aT,bH]at hj';have e:j=st.H.length:=by omega
   subst e;rw[aU (b9 _)]at hj;simp at hj;exact .inl ⟨rfl,hj.symm⟩
 obtain⟨ρ,hu⟩:=hs.mG;have mN:=hs.jI k hn hu;refine hs.step k hm hn ?_ ?_ ?_ ⟨ρ,mN.1,?_,?_⟩
 ·intro i hi;simp only[af,aT,bH]at hi;unfold pL;rw[ai (by omega)];exact hs.jx i (by omega)
 ·intro i u hu;unfold pL at hu;split at hu
  ·cases hu;exact h1
  ·exact hs.jg i u hu
 ·intro j x hj;rcases key j x hj with⟨rfl,rfl⟩|h
  ·exact .inr (.inr ho)
  ·exact .inr (.inl h)
 ·intro id e sz rows hj;rcases key id _ hj with⟨rfl,rfl⟩|h
  ·simp[Ob.GO]at hq
  ·exact mN.2.1 id e sz rows h.1 h.2
 ·intro id x hj;rcases key id _ hj with⟨rfl,rfl⟩|h
  ·exact Bv.plain hq
  ·exact mN.2.2 id x h.1 h.2
theorem cR.change(hs:cR Γ st κ Θ a w){id:Nat}{o:Ob}(k:ed w w' Θ Θ' (id+2))(hm:∀b,2<=Θ' b->qF Γ b)(ho:nh w' κ Θ' id o)(hq:o.GO=false):
 cR Γ ⟨st.σ,st.H.set id o⟩ κ Θ' a w':=by
 have key:∀(j:Nat) x,(st.H.set id o)[j]?=some x->(j=id/\x=o)\/(j+2≠id+2/\st.H[j]?=some x):=by
  intro j x hj;by_cases e:id=j
  ·subst e;have hlt:id<st.H.length:=by
    have:=(aB.1 hj).1;simpa using this
   rw[cM hlt]at hj;cases hj;exact .inl ⟨rfl,rfl⟩
  ·rw[bE e]at hj;exact .inr ⟨by omega,hj⟩
 obtain⟨ρ,hu⟩:=hs.mG;have mN:=hs.jI k (fun _ _ h=>h) hu;refine hs.step k hm (fun _ _ h=>h) (fun i hi=>hs.jx i (by simpa using hi)) hs.jg ?_ ⟨ρ,mN.1,?_,?_⟩
 ·intro j x hj;rcases key j x hj with⟨rfl,rfl⟩|h
  ·exact .inr (.inr ho)
  ·exact .inr (.inl h)
 ·intro i e sz rows hj;rcases key i _ hj with⟨rfl,rfl⟩|h
  ·simp[Ob.GO]at hq
  ·exact mN.2.1 i e sz rows h.1 h.2
 ·intro i x hj;rcases key i _ hj with⟨rfl,rfl⟩|h
  ·exact Bv.plain hq
  ·exact mN.2.2 i x h.1 h.2
theorem cR.qT(hs:cR Γ st κ Θ a w)(h:∀b,2<=Θ' b->2<=Θ b\/w.heap.size<=b):∀b,2<=Θ' b->qF Γ b:=by
 intro b hb;rcases h b hb with h|h
 ·exact hs.mine b h
 ·exact .inl (fc hs.base h)
theorem ed.refl(h:∀b,Θ b≠0->b<w.heap.size)(h2:2<=tag):ed w w Θ Θ tag:=⟨h2,rfl,rfl,rfl,b9 _,fun _ _ _=>rfl,fun _ _ _=>rfl,h⟩
theorem ed.Mh(h:∀b,Θ b≠0->b<w.heap.size)(hb:Below w.heap.size w w')(h2:2<=tag):ed w w' Θ Θ tag:=
 ⟨h2,hb.os,hb.tape,hb.output,hb.size,fun b hlt _=>hb.block b hlt,fun _ _ _=>rfl,fun b hn=>cF (h b hn) hb.size⟩
theorem cR.grow(hs:cR Γ st κ Θ a w)(hb:Below w.heap.size w w'):cR Γ st κ Θ a w':=by
 have k:ed w w' Θ Θ (st.H.length+2):=ed.Mh hs.own hb (by omega);obtain⟨ρ,hu⟩:=hs.mG;have mN:=hs.jI k (fun _ _ h=>h) hu;have hlt:∀(j:Nat) o,st.H[j]?=some o->j+2≠st.H.length+2:=fun j o h=>by
  have:=(aB.1 h).1;omega
 exact hs.step k hs.mine (fun _ _ h=>h) hs.jx hs.jg (fun j o h=>.inr (.inl ⟨hlt j o h,h⟩)) ⟨ρ,mN.1,fun id e sz rows h=>mN.2.1 id e sz rows (hlt _ _ h) h,fun id o h=>mN.2.2 id o (hlt _ _ h) h⟩
theorem cR.drew(hs:cR Γ st κ Θ a w):cR Γ st κ Θ a w.drew:=hs.grow ((Below.refl _ _).drew)
def kill(H:ah):aI->ah
 | []=>H
 |m::ms=>kill (H.set m .gone) ms
theorem dO(H:ah)(ms:aI):(kill H ms).length=H.length:=by
 induction ms generalizing H with
 |nil=>rfl
 |cons m ms ih=>simp[kill,ih]
theorem jH{H:ah}{ms:aI}{j:Nat}{o:Ob}(h:(kill H ms)[j]?=some o):o=.gone\/(j∉ms/\H[j]?=some o):=by
 induction ms generalizing H with
 |nil=>exact .inr ⟨by simp,h⟩
 |cons m ms ih=>
  rcases ih h with h|⟨h1,h2⟩
  ·exact .inl h
  ·by_cases e:m=j
   ·subst e;have hlt:=(aB.1 h2).1;rw[cM (by simpa using hlt)]at h2;cases h2;exact .inl rfl
   ·rw[bE e]at h2;exact .inr ⟨by simp[h1,lC e],h2⟩
def pO(κ:Nat->Option Value)(Θ ρ:Nat->Nat)(w:World)(m:Nat)(k:RK)(rows:List aG)(t:Option (TypeId×Nat):=none):Prop:=
 ∃v bs,κ m=some v/\Rd w v (.sl rows) bs/\(∀b∈bs,Θ b=0)/\(k=.uq->bs.Nodup/\∀b∈bs,ρ b=m+1)/\(∀t',t=some t'->AF w t' v (.sl rows) bs)
def Ob.QL:Ob->Option (TypeId×Nat)
 | .row _ e sz _=>some (e,sz)
 |_=>Option.none
theorem lK{e sz:Nat}{v:Value}{rows:List aG}{cs:av}{bs:aI}(hrl:∀r∈rows,r.length=sz)(hown:w.ownsRow 0 e sz v rows.length cs)(l7:iB w cs rows.flatten bs):
 Rd w v (.sl rows) (v.ownBlock.toList++bs):=by
 rcases hown.2 with⟨rfl,hn⟩|⟨g,cap,cur,rfl,_,hg,hnc,hcm,_,ht⟩
 ·have:rows=[]:=br hn;subst this;cases l7;exact .qD
 ·have hlt:g<w.heap.size:=(aV.1 hg).1;refine .sl g 0 cap sz rows cs bs hlt hnc hcm hrl (fun j c hc=>?_) l7;have:=hown.cells (g:=g) (by simp[Value.ownBlock]) j c hc;simpa[Addr.add_lit]using this
theorem cR.PN(hs:cR Γ st κ Θ a w){ρ:Nat->Nat}(hu:qe Γ st.H κ Θ w ρ){m e sz:Nat}{k:RK}{rows:List aG}(hH:st.H[m]?=some (.row k e sz rows))(hk:k.DT=true):
 ∃Θ' ρ',cR Γ ⟨st.σ,st.H.set m .gone⟩ κ Θ' a w/\qe Γ (st.H.set m .gone) κ Θ' w ρ'/\pO κ Θ' ρ' w m k rows (some (e,sz))/\
  (∀b,Θ b=0->Θ' b=0)/\(∀b,ρ b≠0->ρ' b=ρ b):=by
 obtain⟨hsz,hrl,v,cs,bs,hkm,hown,l7,hΘ,hz⟩:=hs.ob m _ hH;have pK:∀b∈bs,Θ b=0:=by cases k<;>first|exact hz|simp[RK.DT]at hk
 let Θ':Nat->Nat:=fun b=>if Θ b=m+2 then 0 else Θ b
 let ρ':Nat->Nat:=fun b=>if some b=v.ownBlock then m+1 else ρ b
 have hk':ed w w Θ Θ' (m+2):=⟨by omega,rfl,rfl,rfl,b9 _,fun _ _ _=>rfl,fun b _ hne=>ai hne,fun b hb=>hs.own b (fun h0=>hb (by simp only[Θ'];split<;>simp_all))⟩
 have TM:∀b,Θ b=0->Θ' b=0:=fun b h=>by simp only[Θ'];split<;>omega
 have Gq:∀b,2<=Θ' b->qF Γ b:=fun b hb=>hs.mine b (by simp only[Θ']at hb;split at hb<;>omega)
 have vc:∀g,v.ownBlock=some g->ρ g=0:=by
  intro g hg;cases h:ρ g with
  |zero=>rfl
  |succ n=>have:=(hu.free g (by omega)).1;rw[hΘ g hg]at this;omega
 have hρ:∀b,ρ b≠0->ρ' b=ρ b:=fun b hb=>ai (fun h=>hb (vc b h.symm))
 have key:∀(j:Nat) x,(st.H.set m .gone)[j]?=some x->x=.gone\/(j+2≠m+2/\st.H[j]?=some x):=by
  intro j x hj;rcases jH (ms:=[m]) hj with h|⟨h1,h2⟩
  ·exact .inl h
  ·exact .inr ⟨by simp at h1;omega,h2⟩
 have mN:=hs.jI hk' (fun _ _ h=>h) hu;have hU:qe Γ (st.H.set m .gone) κ Θ' w ρ':=by
  refine⟨fun b hb=>?_,fun id e sz rows h=>?_,fun id x h=>?_⟩
  ·by_cases hb':some b=v.ownBlock
   ·have e1:=hΘ b hb'.symm;refine⟨by simp only[Θ'];rw[bD e1],.inl (hs.mine b (by omega)),?_⟩;rcases hown.2 with⟨rfl,_⟩|⟨g,cap,cur,rfl,_,hg,_⟩
    ·simp[Value.ownBlock]at hb'
    ·simp[Value.ownBlock]at hb';subst hb';exact⟨_,_,hg⟩
   ·exact mN.1 b (by simp only[ρ']at hb;rwa[ai hb']at hb)
  ·rcases key id _ h with h|⟨h1,h2⟩
   ·cases h
   ·obtain⟨v2,c2,b2,q1,q2,q3,q4,q5⟩:=mN.2.1 id e sz rows h1 h2;exact⟨v2,c2,b2,q1,q2,q3,q4,fun b hb=>by rw[hρ b (by rw[q5 b hb];omega)];exact q5 b hb⟩
  ·rcases key id _ h with h|⟨h1,h2⟩
   ·subst h;trivial
   ·exact(mN.2.2 id x h1 h2).re fun b hb=>(hρ b (by omega)).trans hb
 refine⟨Θ',ρ',?_,hU,?_,TM,hρ⟩
 ·exact hs.step hk' Gq (fun _ _ h=>h) (fun i hi=>hs.jx i (by simpa using hi)) hs.jg (fun j x hj=>by
   rcases key j x hj with h|h
   ·exact .inl h
   ·exact .inr (.inl h)) ⟨ρ',hU⟩
 ·have plain:k≠ .uq->pO κ Θ' ρ' w m k rows (some (e,sz)):=fun hne=>by
   refine⟨v,_,hkm,lK hrl hown l7,fun b hb=>?_,fun h=>absurd h hne,fun t ht=>by cases ht;exact .inr ⟨rows,cs,bs,rfl,hsz,hrl,hown,l7,rfl⟩⟩;rcases aJ.1 hb with hb|hb
   ·simp only[ea]at hb;simp only[Θ'];rw[bD (hΘ b hb)]
   ·exact TM b (pK b hb)
  cases k with
  |cl=>simp[RK.DT]at hk
  |sh=>exact plain (by simp)
  |mv n=>exact plain (by simp)
  |ho p n=>exact plain (by simp)
  |uq=>
   obtain⟨v2,c2,b2,q1,q2,q3,q4,q5⟩:=hu.rows m e sz rows hH;rw[hkm]at q1;cases q1;have hfr:∀b∈b2,ρ b≠0:=fun b hb=>by rw[q5 b hb];omega
   refine⟨v,_,hkm,lK hrl q2 q3.rd,fun b hb=>?_,fun _=>⟨?_,fun b hb=>?_⟩,fun t ht=>by cases ht;exact .inr ⟨rows,c2,b2,rfl,hsz,hrl,q2,q3.rd,rfl⟩⟩
   ·rcases aJ.1 hb with hb|hb
    ·simp only[ea]at hb;simp only[Θ'];rw[bD (hΘ b hb)]
    ·exact TM b (hu.free b (hfr b hb)).1
   ·rw[aY];refine⟨by cases v.ownBlock<;>simp,q4,fun x hx y hy e=>?_⟩;simp only[ea]at hx;subst e;exact hfr x hy (vc x hx)
   ·rcases aJ.1 hb with hb|hb
    ·simp only[ea]at hb;simp only[ρ'];rw[bD hb.symm]
    ·rw[hρ b (hfr b hb)];exact q5 b hb
theorem cR.Rk(hs:cR Γ st κ Θ a w){ρ:Nat->Nat}(hu:qe Γ st.H κ Θ w ρ){m:Nat}{rows:List aG}(hH:st.H[m]?=some (.tk rows)):
 cR Γ ⟨st.σ,st.H.set m .gone⟩ κ Θ a w/\qe Γ (st.H.set m .gone) κ Θ w ρ/\pO κ Θ ρ w m .uq rows:=by
 have key:∀(j:Nat) x,(st.H.set m .gone)[j]?=some x->x=.gone\/(j≠m/\st.H[j]?=some x):=by
  intro j x hj;rcases jH (ms:=[m]) hj with h|⟨h1,h2⟩
  ·exact .inl h
  ·exact .inr ⟨by simpa using h1,h2⟩
 have hU:qe Γ (st.H.set m .gone) κ Θ w ρ:=by
  refine⟨hu.free,fun id e sz rows h=>?_,fun id x h=>?_⟩
  ·rcases key id _ h with h|⟨_,h2⟩
   ·cases h
   ·exact hu.rows id e sz rows h2
  ·rcases key id _ h with h|⟨_,h2⟩
   ·subst h;trivial
   ·exact hu.more id x h2
 obtain⟨v,bs,q1,q2,q3,q4⟩:=hu.more m _ hH;refine⟨⟨hs.defers,hs.size,fun i hi=>hs.jx i (by simpa using hi),hs.jg,hs.slot,fun id o h=>?_,hs.own,hs.old,hs.mine,hs.stays,ρ,hU⟩,hU,v,bs,q1,q2,fun b hb=>(hu.free b (by rw[q4 b hb];omega)).1,fun _=>⟨q3,q4⟩,fun _ h=>by cases h⟩;rcases key id _ h with h|⟨_,h2⟩
 ·subst h;trivial
 ·exact hs.ob id o h2
def Ob.zM:Ob->Option (RK×List aG)
 | .row k _ _ rows=>(match k with| .cl=>none|_=>some (k,rows))
 | .tk rows=>some (.uq,rows)
 |_=>none
theorem Ob.L7{o:Ob}{k:RK}{rows:List aG}(h:o.zM=some (k,rows)):(∃e sz,o=.row k e sz rows/\k.DT=true)\/(o=.tk rows/\k=.uq):=by
 cases o with
 |row k' e sz r=>
  cases k' with
  |cl=>simp[Ob.zM]at h
  |_=>simp only[Ob.zM,aP,bn]at h;obtain⟨rfl,rfl⟩:=h;exact .inl ⟨e,sz,rfl,rfl⟩
 |tk r=>simp only[Ob.zM,aP,bn]at h;obtain⟨rfl,rfl⟩:=h;exact .inr ⟨rfl,rfl⟩
 |_=>simp[Ob.zM]at h
theorem cR.Rj(hs:cR Γ st κ Θ a w){ρ:Nat->Nat}(hu:qe Γ st.H κ Θ w ρ){m:Nat}{o:Ob}{k:RK}{rows:List aG}(hH:st.H[m]?=some o)(ho:o.zM=some (k,rows)):
 ∃Θ' ρ',cR Γ ⟨st.σ,st.H.set m .gone⟩ κ Θ' a w/\qe Γ (st.H.set m .gone) κ Θ' w ρ'/\pO κ Θ' ρ' w m k rows o.QL/\
  (∀b,Θ b=0->Θ' b=0)/\(∀b,ρ b≠0->ρ' b=ρ b):=by
 rcases Ob.L7 ho with⟨e,sz,rfl,hk⟩|⟨rfl,rfl⟩
 ·exact hs.PN hu hH hk
 ·obtain⟨h1,h2,h3⟩:=hs.Rk hu hH;exact⟨Θ,ρ,h1,h2,h3,fun _ h=>h,fun _ _=>rfl⟩
theorem cR.Eh:∀(ms:aI) {st:St} {Θ ρ:Nat->Nat},cR Γ st κ Θ a w->qe Γ st.H κ Θ w ρ->ms.Nodup->
 (∀m∈ms,∃o k rows,st.H[m]?=some o/\o.zM=some (k,rows))->
 ∃Θ' ρ',cR Γ ⟨st.σ,kill st.H ms⟩ κ Θ' a w/\qe Γ (kill st.H ms) κ Θ' w ρ'/\(∀m∈ms,∀o k rows,st.H[m]?=some o->o.zM=some (k,rows)->pO κ Θ' ρ' w m k rows o.QL)/\
  (∀b,Θ b=0->Θ' b=0)/\(∀b,ρ b≠0->ρ' b=ρ b):=by
 intro ms
 induction ms with
 |nil=>intro st Θ ρ hs hu _ _;exact⟨Θ,ρ,hs,hu,by simp,fun _ h=>h,fun _ _=>rfl⟩
 |cons m ms ih=>
  intro st Θ ρ hs hu hnd hall;obtain⟨hnm,wo⟩:=dV.1 hnd;obtain⟨o,k,rows,hH,hk⟩:=hall m (by simp);obtain⟨Θ1,ρ1,hs1,hu1,hm1,DF,Ij⟩:=hs.Rj hu hH hk;have DC:∀m'∈ms,(st.H.set m .gone)[m']?=st.H[m']?:=fun m' hm'=>bE (fun e:m=m'=>hnm (by rw[e];exact hm'))
  obtain⟨Θ2,ρ2,hs2,LZ,hm2,Hy,RE⟩:=ih (st:=⟨st.σ,st.H.set m .gone⟩) hs1 hu1 wo (fun m' hm'=>by
   obtain⟨o',k',cc,h1,h2⟩:=hall m' (by simp[hm']);exact⟨o',k',cc,(DC m' hm').trans h1,h2⟩)
  refine⟨Θ2,ρ2,hs2,LZ,?_,fun b h=>Hy b (DF b h),fun b h=>(RE b (by rw[Ij b h];exact h)).trans (Ij b h)⟩;intro m' hm' o' k' cc w9 ho';rcases aq.1 hm' with rfl|Jf
  ·rw[hH]at w9;cases w9;rw[hk]at ho';cases ho';obtain⟨v,bs,q1,q2,q3,q4,q7⟩:=hm1;refine⟨v,bs,q1,q2,fun b hb=>Hy b (q3 b hb),fun hq=>?_,fun _ h=>q7 _ h⟩;obtain⟨q5,q6⟩:=q4 hq;exact⟨q5,fun b hb=>by rw[RE b (by rw[q6 b hb];omega)];exact q6 b hb⟩
  ·exact hm2 m' Jf o' k' cc ((DC m' Jf).trans w9) ho'
theorem cR.z8:∀(ms:aI) {st:St} {Θ ρ:Nat->Nat},cR Γ st κ Θ a w->qe Γ st.H κ Θ w ρ->ms.Nodup->
 (∀m∈ms,∃k e sz rows,st.H[m]?=some (.row k e sz rows)/\k.DT=true)->
 ∃Θ' ρ',cR Γ ⟨st.σ,kill st.H ms⟩ κ Θ' a w/\qe Γ (kill st.H ms) κ Θ' w ρ'/\(∀m∈ms,∀k e sz rows,st.H[m]?=some (.row k e sz rows)->pO κ Θ' ρ' w m k rows)/\
  (∀b,Θ b=0->Θ' b=0)/\(∀b,ρ b≠0->ρ' b=ρ b):=by
 intro ms
 induction ms with
 |nil=>intro st Θ ρ hs hu _ _;exact⟨Θ,ρ,hs,hu,by simp,fun _ h=>h,fun _ _=>rfl⟩
 |cons m ms ih=>
  intro st Θ ρ hs hu hnd hall;obtain⟨hnm,wo⟩:=dV.1 hnd;obtain⟨k,e,sz,rows,hH,hk⟩:=hall m (by simp);obtain⟨Θ1,ρ1,hs1,hu1,hm1,DF,Ij⟩:=hs.PN hu hH hk;have DC:∀m'∈ms,(st.H.set m .gone)[m']?=st.H[m']?:=fun m' hm'=>bE (fun e:m=m'=>hnm (by rw[e];exact hm'))
  obtain⟨Θ2,ρ2,hs2,LZ,hm2,Hy,RE⟩:=ih (st:=⟨st.σ,st.H.set m .gone⟩) hs1 hu1 wo (fun m' hm'=>by
   obtain⟨k',e',sz',cc,h1,h2⟩:=hall m' (by simp[hm']);exact⟨k',e',sz',cc,(DC m' hm').trans h1,h2⟩)
  refine⟨Θ2,ρ2,hs2,LZ,?_,fun b h=>Hy b (DF b h),fun b h=>(RE b (by rw[Ij b h];exact h)).trans (Ij b h)⟩;intro m' hm' k' e' sz' cc w9;rcases aq.1 hm' with rfl|Jf
  ·rw[hH]at w9;cases w9;obtain⟨v,bs,q1,q2,q3,q4,q7⟩:=hm1;refine⟨v,bs,q1,q2,fun b hb=>Hy b (q3 b hb),fun hq=>?_,fun _ h=>by cases h⟩;obtain⟨q5,q6⟩:=q4 hq;exact⟨q5,fun b hb=>by rw[RE b (by rw[q6 b hb];omega)];exact q6 b hb⟩
  ·exact hm2 m' Jf k' e' sz' cc ((DC m' Jf).trans w9)
end
end Go.Cx
namespace Go.Cx
open Go.RowKit
section
variable{P:Program}{Γ:nR}{Q:Exit->St->Prop}{st:St}{κ:Nat->Option Value}{Θ:Nat->Nat}{a:Act}{w:World}{all:Array Oper}{rest:List Oper}
theorem Lr{c:Operand}{x y:Code}{b:Bool}(hc:st.ev c=.bool b)(ht:b=true->AW P Γ x Q st)(hf:b=false->AW P Γ y Q st):AW P Γ (.cond c x y) Q st:=by
 intro κ Θ a w hs;obtain⟨bs,r,_⟩:=hs.ev c;rw[hc]at r;exact wp_cond_split r.o9 (fun h=>ht h κ Θ a w hs) (fun h=>hf h κ Θ a w hs)
theorem B3{o:Oper}{j s:Nat}{want b:Bool}(hg:o.guard=some (j,want))(hj:(all[j]?).bind (·.dst)=some s)(hb:lk st.σ s=.bool b)
 (hd:∀t,o.dst=some t->t<Γ.nt)
 (UG:b=want->AO P Γ all ({o with guard:=none}::rest) Q st) (hno:b≠want->AO P Γ all rest Q (st.put o.dst (.iz []))):AO P Γ all (o::rest) Q st:=by
 intro κ Θ a w hs;obtain⟨bs,r,_⟩:=hs.slot s;rw[hb]at r;have hv:=r.o9;have hlt:s<a.tmps.size:=by
  rcases cP s a.tmps.size with h|h
  ·exact h
  ·exfalso;rw[bP,l9 h]at hv;simp[undef]at hv
 have hy:yielded all a.tmps j=some b:=by
  have h1:a.tmps[s]?=some (.bool b):=by
   rw[bP,bZ hlt]at hv;rw[bZ hlt];simpa using hv
  simp[yielded,hj,h1]
 by_cases e:b=want
 ·have:=UG e κ Θ a w hs;unfold wpList at this⊢;have hw:Region.wanted o (yielded all a.tmps)=true:=by simp[Region.wanted,hg,hy,e]
  have hw':Region.wanted {o with guard:=none} (yielded all a.tmps)=true:=rfl;rw[bD hw];rw[bD hw']at this;exact this
 ·have hw:Region.wanted o (yielded all a.tmps)=false:=by simp[Region.wanted,hg,hy,e]
  unfold wpList;rw[hw,ai (by simp)];refine hno e κ Θ _ w ?_;cases DA:o.dst with
  |none=>exact hs
  |some t=>exact hs.set (hd t DA) (.iz [] [] [] .nil) (by simp)
theorem lD.Cl{w:World}{κ:Nat->Option Value}{v:Value}{bs:aI}(h:lD w κ v (.iz []) bs):v=.tuple #[]:=by
 cases h with
 |v h=>cases h with|cell h=>cases h with|pure h=>cases h
 |iz vs ds bs h=>cases h;rfl
theorem CQ{o:Oper}{j s:Nat}{want:Bool}(hg:o.guard=some (j,want))(hj:(all[j]?).bind (·.dst)=some s)(hb:lk st.σ s=.iz [])
 (hd:∀t,o.dst=some t->t<Γ.nt) (hno:AO P Γ all rest Q (st.put o.dst (.iz []))):AO P Γ all (o::rest) Q st:=by
 intro κ Θ a w hs;obtain⟨bs,r,_⟩:=hs.slot s;rw[hb]at r;have hv:=r.Cl;have hy:yielded all a.tmps j=none:=by
  rcases cP s a.tmps.size with hlt|hlt
  ·have h1:a.tmps[s]?=some (.tuple #[]):=by
    rw[bP,bZ hlt]at hv;rw[bZ hlt];simpa using hv
   simp[yielded,hj,h1]
  ·simp[yielded,hj,l9 hlt]
 have hw:Region.wanted o (yielded all a.tmps)=false:=by simp[Region.wanted,hg,hy]
 unfold wpList;rw[hw,ai (by simp)];refine hno κ Θ _ w ?_;cases DA:o.dst with
 |none=>exact hs
 |some t=>exact hs.set (hd t DA) (.iz [] [] [] .nil) (by simp)
theorem ed.alloc(hs:cR Γ st κ Θ a w)(o:Obj){tag:Nat}(h2:2<=tag):ed w (w.alloc o) Θ (fun b=>if b=w.heap.size then tag else Θ b) tag:=by
 refine⟨h2,rfl,rfl,rfl,by simp,fun b hb _=>Below.heap_alloc w o b hb,fun b hb _=>?_,fun b hb=>?_⟩
 ·rw[ai (by omega)]
 ·by_cases e:b=w.heap.size
  ·subst e;simp
  ·rw[ai e]at hb;have:=hs.own b hb;simp;omega
theorem cR.KN(hs:cR Γ st κ Θ a w){cs:Array Value}{ds:aG}{bs:aI}(T:TypeId)(hr:dF w κ cs.toList ds bs)(hz:∀b∈bs,Θ b=0):
 cR Γ ⟨st.σ,st.H++[.box ds]⟩ (pL κ st.H.length (some (.pointer (some ⟨w.heap.size,0,none⟩)))) (fun b=>if b=w.heap.size then st.H.length+2 else Θ b) a (w.alloc (.cells cs T)):=by
 have k:=ed.alloc hs (.cells cs T) (tag:=st.H.length+2) (by omega);refine hs.push rfl k (hs.qT (fun b hb=>by by_cases e:b=w.heap.size<;>simp_all)) ?_ rfl;have hn:=ol (hs.jx _ (b9 _)) (some (Value.pointer (some ⟨w.heap.size,0,none⟩)));obtain⟨h1,h2⟩:=dF.stay k hn hr hz;exact⟨w.heap.size,cs,T,by simp[pL],heap_alloc_new w _,by simp,bs,h1,h2⟩
theorem OE{o:Oper}{T t:Nat}{x:Operand}{ds:aG}(hop:o.op=.box T x)(hd:o.dst=some t)(hg:o.guard=none)(ht:t<Γ.nt)
 (hc:(st.ev x).cellsOf=some ds) (h:AO P Γ all rest Q ⟨(t,.ptr st.H.length 0)::st.σ,st.H++[.box ds]⟩):AO P Γ all (o::rest) Q st:=by
 intro κ Θ a w hs;obtain⟨bs,r,hz⟩:=hs.ev x;have hcs:=sK hs.jg r hc;have hs':=hs.KN T hcs hz;refine wpList_plain hg fun K hK=>?_
 unfold Oper.wp;have hrun:(execOp a.eval o).run P w=.ok (.value (.pointer (some ⟨w.heap.size,0,none⟩))) (w.alloc (.cells (a.eval x).cells T)):=by
  simp[execOp,hop,Instr.box,newVar,newRow]
 rw[hrun,Oper.upon_value,hd];refine hK _ _ (h _ _ _ _ (hs'.set (t:=t) (d:=.ptr st.H.length 0) (bs:=[]) ht ?_ (by simp)));exact(qG.ptr st.H.length 0 w.heap.size (by simp[pL])).Ck
theorem Iq{o:Oper}{T t:Nat}{zs:aG}(hop:o.op=.alloc T)(hd:o.dst=some t)(hg:o.guard=none)(ht:t<Γ.nt)
 (hz:tz P T=some zs) (h:AO P Γ all rest Q ⟨(t,.ptr st.H.length 0)::st.σ,st.H++[.box zs]⟩):AO P Γ all (o::rest) Q st:=by
 intro κ Θ a w hs;obtain⟨i,z,hi,pK,hsz,hlen,hone,rfl⟩:=oa hz;have hs':=hs.KN T (cs:=z.cells) (sU z.cells.toList hone) (by simp);refine wpList_plain hg fun K hK=>?_
 unfold Oper.wp;have hrun:(execOp a.eval o).run P w=.ok (.value (.pointer (some ⟨w.heap.size,0,none⟩))) (w.alloc (.cells z.cells T)):=by
  simp[execOp,hop,Instr.alloc,zeroValue,typeInfo,hi,pK,newVar,newRow]
 rw[hrun,Oper.upon_value,hd];refine hK _ _ (h _ _ _ _ (hs'.set (t:=t) (d:=.ptr st.H.length 0) (bs:=[]) ht ?_ (by simp)));exact(qG.ptr st.H.length 0 w.heap.size (by simp[pL])).Ck
theorem ed.setRow(hs:cR Γ st κ Θ a w){g:Nat}{cs:Array Value}{tag:Nat}(h2:2<=tag)(hg:Θ g=tag):ed w (w.setRow g cs) Θ Θ tag:=by
 refine⟨h2,rfl,rfl,rfl,by simp,fun b _ hne=>setRow_other w g b cs (fun e=>hne (e▸hg)),fun b _ _=>rfl,fun b hb=>?_⟩;simpa using hs.own b hb
theorem vq{T g off:Nat}{v:Value}{cur:Array Value}{e:TypeId}(hg:w.heap[g]?=some (.cells cur e (0,0)))(hsz:v.cells.size=qU P T)(zy:∃i,P.info? T=some i)
 (hfit:off+v.cells.size<=cur.size) (hone:∀c∈v.cells.toList,c.oneCell'=true):
 (Instr.storeAt T (.pointer (some ⟨g,off,none⟩)) v).run P w=.ok () (w.setRow g (cur.toList.take off++v.cells.toList++cur.toList.drop (off+v.cells.toList.length)).toArray):=by
 have:=run_storeCells_at P g off e v.cells.toList 0 cur w hg (by simpa using hfit) hone;simp only[qE]at this;simp[Instr.storeAt,Instr.sureAddr,storeVar,nP zy,hsz,this]
def Dh(P:Program)(t:TypeId):Bool:=(P.info? t).isSome
theorem Ci{o:Oper}{T id off:Nat}{x y:Operand}{cells ds:aG}(hop:o.op=.store T x y)
 (hx:st.ev x=.ptr id off) {ob:Ob} (hH:st.H[id]?=some ob) (qS:ob.Gg=some cells) (hc:(st.ev y).cellsOf=some ds) (hT:Dh P T=true) (hl:ds.length=qU P T) (hfit:off+ds.length<=cells.length) (hkp:ob.Gz off=true) (hs:cR Γ st κ Θ a w):
 ∃w',(execOp a.eval o).run P w=.ok .skip w'/\cR Γ ⟨st.σ,st.H.set id (ob.re (cells.take off++ds++cells.drop (off+ds.length)))⟩ κ Θ a w':=by
 obtain⟨b1,r1,_⟩:=hs.ev x;obtain⟨b2,r2,Hy⟩:=hs.ev y;rw[hx]at r1;obtain⟨g,hk,hv⟩:=r1.qP;obtain⟨g',cs,Tb,hk',Hs,hΘ,bs,l7,hz⟩:=(hs.ob id _ hH).cs qS;rw[hk]at hk';cases hk';have hcs:=sK hs.jg r2 hc;have hl1:=hcs.length;have tQ:=l7.length;have hsz:(a.eval y).cells.size=qU P T:=by rw[<-hl,<-hl1];simp
 have hst:=vq (P:=P) (T:=T) (off:=off) Hs hsz (cZ.1 hT) (by
  have:(a.eval y).cells.size=ds.length:=by rw[<-hl1];simp
  have h3:cs.size=cells.length:=by rw[<-tQ];simp
  omega) hcs.one
 have k:=ed.setRow hs (g:=g) (cs:=(cs.toList.take off++(a.eval y).cells.toList++cs.toList.drop (off+(a.eval y).cells.toList.length)).toArray) (tag:=id+2) (by omega) hΘ;have hrun:(execOp a.eval o).run P w=.ok .skip (w.setRow g (cs.toList.take off++(a.eval y).cells.toList++cs.toList.drop (off+(a.eval y).cells.toList.length)).toArray):=by
  simp only[execOp,hop,hv];simp[hst]
 refine⟨_,hrun,hs.change k hs.mine (nh.Ry qS (hs.ob id _ hH) (fun _ h=>h) (fun c0 u0 e0=>?_) ?_) (by cases ob<;>rfl)⟩
 ·subst e0;intro c MJ g2 Sk T2 hk2 Gn;rw[hk]at hk2;cases hk2;rw[setRow_heap w g cs _ Tb _ Hs]at Gn;cases Gn;obtain⟨z1,z2⟩:=(hs.ob id _ hH).1.2 c MJ g cs Tb hk Hs;simp only[Ob.Gg,aP]at qS;subst qS;have h3:c0.length=3:=by rw[<-tQ];simpa using z1
  have hoff:1<=off:=by
   simp only[Ob.Gz,h3,kf,cX,lf]at hkp;exact jr hkp
  have WL:cs.toList.length=3:=by simpa using z1
  have hel:(a.eval y).cells.toList.length=ds.length:=hl1;refine⟨by simp only[o7,af,bG,jY];omega,?_⟩;rw[dM,cg,aS (by rw[bG];omega),nH (by omega)];simpa using z2
 have e:cells=cells.take off++((cells.drop off).take ds.length++(cells.drop off).drop ds.length):=by rw[bJ,bJ]
 rw[e]at l7;obtain⟨v1,v2,c1,c2,Aj,rfl,k1,k2⟩:=l7.split;obtain⟨v3,v4,c3,c4,rfl,rfl,k3,k4⟩:=k2.split;have l1:v1.length=off:=by rw[k1.length];simp;omega
 have l3:v3.length=ds.length:=by rw[k3.length];simp;omega
 have e1:cs.toList.take off=v1:=by rw[Aj];exact ez l1
 have e4:cs.toList.drop (off+(a.eval y).cells.toList.length)=v4:=by
  rw[Aj,<-dX,dU l1,hl1];exact dU l3
 have hnew:dF w κ (v1++(a.eval y).cells.toList++v4) (cells.take off++ds++cells.drop (off+ds.length)) ((c1++b2)++c4):=by
  rw[dX]at k4;exact(k1.app hcs).app k4
 have Bx:∀b∈((c1++b2)++c4),Θ b=0:=by
  intro b hb;simp only[aJ]at hb;rcases hb with(hb|hb)|hb
  ·exact hz b (by simp[hb])
  ·exact Hy b hb
  ·exact hz b (by simp[hb])
 obtain⟨h1,h2⟩:=dF.stay k (fun _ _ h=>h) hnew Bx;refine⟨g,_,Tb,hk,setRow_heap w g cs _ Tb _ Hs,hΘ,_,?_,h2⟩;rw[e1,e4]at h1⊢;exact h1
theorem J2{o:Oper}{T id off:Nat}{x y:Operand}{cells ds:aG}(hop:o.op=.store T x y)(hd:o.dst=none)(hg:o.guard=none)
 (hx:st.ev x=.ptr id off) {ob:Ob} (hH:st.H[id]?=some ob) (qS:ob.Gg=some cells) (hc:(st.ev y).cellsOf=some ds) (hT:Dh P T=true) (hl:ds.length=qU P T) (hfit:off+ds.length<=cells.length) (hkp:ob.Gz off=true)
 (h:AO P Γ all rest Q ⟨st.σ,st.H.set id (ob.re (cells.take off++ds++cells.drop (off+ds.length)))⟩):AO P Γ all (o::rest) Q st:=by
 intro κ Θ a w hs;obtain⟨w',hrun,hs'⟩:=Ci hop hx hH qS hc hT hl hfit hkp hs;refine wpList_plain hg fun K hK=>?_
 unfold Oper.wp;rw[hrun,Oper.upon_skip,hd];exact hK _ _ (h _ _ _ _ hs')
end
def D.Dr:D->Bool
 | .acc _=>false
 | .ptr _ _=>false
 | .op _ _ _ _=>false
 |_=>true
def LH(P:Program)(t:TypeId):Nat:=P.bytesOf t
theorem Ca{α:Type}{l:List α}{i:Nat}{x:α}(h:l[i]?=some x):∃p q,l=p++x::q/\p.length=i:=by
 have hlt:=(aB.1 h).1;have hx:=(aB.1 h).2;refine⟨l.take i,l.drop (i+1),?_,by simp;omega⟩;rw[<-hx,sv,bJ]
theorem vU{rows:List aG}{sz i off:Nat}{row ds:aG}(hrl:∀r∈rows,r.length=sz)(hr:rows[i]?=some row)(hfit:off+ds.length<=sz):
 (rows.set i (row.take off++ds++row.drop (off+ds.length))).flatten=rows.flatten.take (i*sz+off)++ds++rows.flatten.drop (i*sz+off+ds.length):=by
 obtain⟨p,q,rfl,rfl⟩:=Ca hr;have hrow:row.length=sz:=hrl row (by simp);have hp:p.flatten.length=p.length*sz:=iq (fun r hr=>hrl r (by simp[hr]));rw[oP _ _ (b9 _),mX,List.set_cons_zero];simp only[fL,dB];rw[<-hp,List.take_length_add_append,fX,List.drop_length_add_append,List.take_append_of_le_length (by omega),List.drop_append_of_le_length (by omega)];simp only[cg]
theorem Ba(z:Array Value)(n:Nat):(madeCells z (n*z.size)).toList=(List.replicate n z.toList).flatten:=by
 induction n with
 |zero=>simp[madeCells]
 |succ n ih=>
  rw[List.replicate_succ',fL,<-ih];apply kA;intro j;by_cases hz:z.size=0
  ·have:z= #[]:=Array.size_eq_zero_iff.1 hz;subst this;simp[madeCells]
  ·by_cases h1:j<n*z.size
   ·rw[aS (by simpa[madeCells]using h1)];have h2:j<(n+1)*z.size:=by rw[gF];omega
    simp[madeCells,h1,h2]
   ·rw[aU (by simpa[madeCells]using h1)];by_cases h2:j<(n+1)*z.size
    ·rw[gF,jQ]at h2;have hm:j%z.size=j-n*z.size:=by
      have Xa:=Nat.mul_comm z.size n;have e:j=(j-n*z.size)+z.size*n:=by omega
      conv=>lhs;rw[e]
      rw[Nat.add_mul_mod_self_left,Nat.mod_eq_of_lt (by omega)]
     have h3:j-n*z.size<z.size:=by omega
     have h2':j<(n+1)*z.size:=by rw[gF,jQ];exact h2
     simp[madeCells,h2',hm,h3]
    ·rw[bY (by simp[madeCells];omega),bY];rw[gF,jQ]at h2;simp[madeCells];omega
section
variable{P:Program}{Γ:nR}{Q:Exit->St->Prop}{st:St}{κ:Nat->Option Value}{Θ:Nat->Nat}{a:Act}{w:World}{all:Array Oper}{rest:List Oper}
theorem dF.pure{vs:av}{ds:aG}{bs:aI}(h:dF w κ vs ds bs)(hp:ds.all D.Dr=true):iB w vs ds bs:=by
 induction ds generalizing vs bs with
 |nil=>cases h;exact .nil
 |cons d ds ih=>
  simp only[cv,aL]at hp;cases h with
  |cons v vs _ _ b1 b2 h1 h2 h3=>
   refine .cons _ _ _ _ _ _ h1 ?_ (ih h3 hp.2);cases h2 with
   |pure h=>exact h
   |acc=>simp[D.Dr]at hp
   |ptr=>simp[D.Dr]at hp
   |op=>simp[D.Dr]at hp
theorem iB.VI{vs:av}{ds:aG}(h:iB w vs ds [])(m:Nat):iB w (List.replicate m vs).flatten (List.replicate m ds).flatten []:=by
 induction m with
 |zero=>exact .nil
 |succ m ih=>
  simp only[List.replicate_succ,dB];have:=h.app ih;simpa using this
def D.sY(d:D):D:=match d with
 | .nil=>.sl []
 |d=>d
theorem Rd.soft{v:Value}{d:D}{bs:aI}(h:Rd w v d bs):Rd w v d.sY bs:=by
 cases h with
 |nil=>exact .qD
 |any=>exact .any _
 |int _ _ h=>exact .int _ _ h
 |bool=>exact .bool _
 |str _ h=>exact .str _ h
 |val=>exact .val _
 |qD=>exact .qD
 |jP a cap h=>exact .jP a cap h
 |sl b off cap sz rows cs bs h0 h1 h2 h3 h4 h5=>exact .sl b off cap sz rows cs bs h0 h1 h2 h3 h4 h5
 |agg cs ds bs h=>exact .agg cs ds bs h
 |ep b off cs row o bs h0 h4 h5=>exact .ep b off cs row o bs h0 h4 h5
 |K9=>exact .K9
 |KA t u=>exact .KA t u
theorem iB.soft{vs:av}{ds:aG}{bs:aI}(h:iB w vs ds bs):iB w vs (ds.map D.sY) bs:=by
 induction ds generalizing vs bs with
 |nil=>cases h;exact .nil
 |cons d ds ih=>cases h with|cons v vs _ _ b1 b2 h1 h2 h3=>exact .cons _ _ _ _ _ _ h1 h2.soft (ih h3)
def D.flat:D->Bool
 | .any=>true
 | .nil=>true
 | .int _ _=>true
 | .bool _=>true
 | .str _=>true
 | .val _=>true
 |_=>false
def HZ(H:ah)(d:D):Option (D×aI):=match d with
 | .acc m=>(match(H[m]?).bind Ob.zM with|some (_,rows)=>some (.sl rows,[m])|none=>none)
 | .ptr _ _=>none
 | .op _ _ _ _=>none
 |d=>some (d.sY,[])
def yJ(H:ah):aG->Option (aG×aI)
 | []=>some ([],[])
 |d::ds=>match HZ H d,yJ H ds with|some (e,m),some (es,ms)=>some (e::es,m++ms)|_,_=>none
def SP(H:ah)(d:D):Bool:=match d with
 | .acc m=>(match(H[m]?).bind Ob.zM with|some (k,_)=>(match k with| .uq=>true|_=>false)|none=>false)
 |d=>d.flat
def oW(b:Bool):RK:=match b with|true=>.uq|false=>.sh
def FU(H:ah)(t:Option (TypeId×Nat))(d:D):Bool:=match t with
 |none=>true
 |some t'=>(match d with
  | .acc m=>(match(H[m]?).bind Ob.QL with|some t2=>t2.1==t'.1&&t2.2==t'.2|none=>false)
  | .nil=>Nat.blt 0 t'.2
  | .any=>true
  |_=>false)
def MH(H:ah)(f:Nat->Option (TypeId×Nat)):Nat->aG->Bool
 |_,[]=>true
 |i,d::ds=>FU H (f i) d&&MH H f (i+1) ds
def LL(e:Nat):Bool:=match AI e with|none=>true|some _=>false
theorem zO{e:Nat}(h:LL e=true):AI e=none:=by
 unfold LL at h;split at h
 ·assumption
 ·cases h
def IT(H:ah)(e i:Nat)(ds:aG):Bool:=ds.all (SP H)&&(match AI e with|none=>true|some _=>MH H (ny e) i ds)
theorem Ob.Ei(u:Bool)(e:TypeId)(sz:Nat)(rows:List aG):(Ob.row (oW u) e sz rows).Na=false:=by cases u<;>rfl
theorem Rd.flat{v:Value}{d:D}{bs:aI}(h:Rd w v d bs)(hf:d.flat=true):bs=[]:=by
 cases h<;>first|rfl|simp[D.flat]at hf
theorem E0{H:ah}{d e:D}{m:aI}(h:HZ H d=some (e,m)):
 (∃m0 o k rows,d=.acc m0/\H[m0]?=some o/\o.zM=some (k,rows)/\e=.sl rows/\m=[m0])\/(d.Dr=true/\(∀i,d≠ .acc i)/\e=d.sY/\m=[]):=by
 cases d with
 |acc m0=>
  simp only[HZ]at h;split at h
  ·rename_i k rows hH;simp only[aP,bn]at h;obtain⟨rfl,rfl⟩:=h;obtain⟨o,hH,ho⟩:=j4.1 hH;exact .inl ⟨m0,o,k,rows,rfl,hH,ho,rfl,rfl⟩
  ·cases h
 |ptr i o=>simp[HZ]at h
 |op i j s o=>simp[HZ]at h
 |_=>simp only[HZ,aP,bn]at h;obtain⟨rfl,rfl⟩:=h;exact .inr ⟨rfl,by simp,rfl,rfl⟩
theorem E1{H:ah}:∀ {ds es:aG} {ms:aI},yJ H ds=some (es,ms)->∀m∈ms,∃o k rows,H[m]?=some o/\o.zM=some (k,rows):=by
 intro ds
 induction ds with
 |nil=>intro es ms h;simp only[yJ,aP,bn]at h;obtain⟨rfl,rfl⟩:=h;simp
 |cons d ds ih=>
  intro es ms h;simp only[yJ]at h;split at h
  ·rename_i e m es' ms' h1 h2;simp only[aP,bn]at h;obtain⟨rfl,rfl⟩:=h;intro x hx;rcases aJ.1 hx with hx|hx
   ·rcases E0 h1 with⟨m0,o,k,cc,rfl,hH,hk,rfl,rfl⟩|⟨_,_,_,rfl⟩
    ·simp at hx;subst hx;exact⟨o,k,_,hH,hk⟩
    ·simp at hx
   ·exact ih h2 x hx
  ·cases h
theorem JQ{H:ah}{t':TypeId×Nat}{m:Nat}{o:Ob}(h:FU H (some t') (.acc m)=true)(hH:H[m]?=some o):o.QL=some t':=by
 simp only[FU,hH,aA]at h;split at h
 ·rename_i t2 e;rw[e];simp only[aL,bq]at h;obtain⟨h1,h2⟩:=h;obtain⟨a1,a2⟩:=t2;obtain⟨c1,c2⟩:=t';simp only at h1 h2;rw[h1,h2]
 ·cases h
theorem MG{H:ah}{t':TypeId×Nat}{d:D}{v:Value}{bs:aI}(h:FU H (some t') d=true)(hna:∀i,d≠ .acc i)(hr:Rd w v d bs):AF w t' v d.sY bs:=by
 cases d with
 |acc i=>exact absurd rfl (hna i)
 |nil=>
  simp only[FU]at h;cases hr;exact .inr ⟨[],[],[],rfl,cF Nat.zero_lt_one (by simpa[Nat.blt]using h),by simp,World.ownsRow_nil w 0 _ _,.nil,by simp[Value.ownBlock]⟩
 |any=>cases hr;exact .inl ⟨rfl,rfl⟩
 |_=>simp[FU]at h
theorem Lx{H:ah}{ρ:Nat->Nat}{f:Nat->Option (TypeId×Nat)}:∀ {ds es:aG} {ms:aI} {vs:av} {b0:aI} (i:Nat),yJ H ds=some (es,ms)->ms.Nodup->dF w κ vs ds b0->(∀b∈b0,Θ b=0)->
 (∀m∈ms,∀o k rows,H[m]?=some o->o.zM=some (k,rows)->pO κ Θ ρ w m k rows o.QL)->
 ∃bs,iB w vs es bs/\(∀b∈bs,Θ b=0)/\(ds.all (SP H)=true->bs.Nodup/\∀b∈bs,∃m∈ms,ρ b=m+1)/\(MH H f i ds=true->oq w f i vs es bs):=by
 intro ds
 induction ds with
 |nil=>
  intro es ms vs b0 i h _ hr _ _;simp only[yJ,aP,bn]at h;obtain⟨rfl,rfl⟩:=h;cases hr;exact⟨[],.nil,by simp,by simp,fun _=>.nil _⟩
 |cons d ds ih=>
  intro es ms vs b0 i h hnd hr hz hm;simp only[yJ]at h;split at h
  ·rename_i e m es' ms' h1 h2;simp only[aP,bn]at h;obtain⟨rfl,rfl⟩:=h;obtain⟨n1,n2,n3⟩:=aY.1 hnd;cases hr with
   |cons v vs _ _ b1 b2 hv hc hcs=>
    obtain⟨LX,q1,q2,q3,q7⟩:=ih (i+1) h2 n2 hcs (fun b hb=>hz b (by simp[hb])) (fun x hx=>hm x (by simp[hx]));have one:∃M5,Rd w v e M5/\(∀b∈M5,Θ b=0)/\(SP H d=true->M5.Nodup/\∀b∈M5,∃x∈m,ρ b=x+1)/\(∀t,f i=some t->FU H (f i) d=true->AF w t v e M5):=by
     rcases E0 h1 with⟨m0,o,k,cc,rfl,hH,hk,rfl,rfl⟩|⟨hp,hna,rfl,rfl⟩
     ·obtain⟨v',bs,r1,r2,r3,r4,r7⟩:=hm m0 (by simp) o k cc hH hk;cases hc with
      |pure hc=>cases hc
      |acc _ _ hkv=>
       rw[hkv]at r1;cases r1;refine⟨bs,r2,r3,fun hq=>?_,fun t ht hf=>r7 t (JQ (by rwa[ht]at hf) hH)⟩;simp only[SP,hH,aA,hk]at hq;split at hq
       ·obtain⟨r5,r6⟩:=r4 rfl;exact⟨r5,fun b hb=>⟨m0,by simp,r6 b hb⟩⟩
       ·cases hq
     ·have hrd:Rd w v d b1:=by
       cases hc with
       |pure hc=>exact hc
       |acc i _ _=>exact absurd rfl (hna i)
       |ptr i o _ _=>simp[D.Dr]at hp
       |op i j s o _ _ _ _ _=>simp[D.Dr]at hp
      refine⟨b1,hrd.soft,fun b hb=>hz b (by simp[hb]),fun hq=>?_,fun t ht hf=>MG (by rwa[ht]at hf) hna hrd⟩;have hf:d.flat=true:=by
       unfold SP at hq;split at hq
       ·exact absurd rfl (hna _)
       ·exact hq
      rw[hrd.flat hf];exact⟨by simp,by simp⟩
    obtain⟨M5,p1,p2,p3,p7⟩:=one;refine⟨M5++LX,.cons _ _ _ _ _ _ hv p1 q1,fun b hb=>?_,fun hq=>?_,fun hf=>?_⟩
    ·rcases aJ.1 hb with hb|hb
     ·exact p2 b hb
     ·exact q2 b hb
    ·simp only[cv,aL]at hq;obtain⟨p4,p5⟩:=p3 hq.1;obtain⟨q4,q5⟩:=q3 hq.2;refine⟨aY.2 ⟨p4,q4,fun x hx y hy TD=>?_⟩,fun b hb=>?_⟩
     ·subst TD;obtain⟨m1,hm1,e1⟩:=p5 x hx;obtain⟨m2,hm2,e2⟩:=q5 x hy;exact n3 m1 hm1 m2 hm2 (by omega)
     ·rcases aJ.1 hb with hb|hb
      ·obtain⟨x,hx,ex⟩:=p5 b hb;exact⟨x,by simp[hx],ex⟩
      ·obtain⟨x,hx,ex⟩:=q5 b hb;exact⟨x,by simp[hx],ex⟩
    ·simp only[MH,aL]at hf;exact .cons _ _ _ _ _ _ _ hv p1 (fun t ht=>p7 t ht hf.1) (q7 hf.2)
  ·cases h
theorem FF{H:ah}{ρ:Nat->Nat}{ds es:aG}{ms:aI}{vs:av}{b0:aI}(h:yJ H ds=some (es,ms))(hnd:ms.Nodup)(hr:dF w κ vs ds b0)(hz:∀b∈b0,Θ b=0)
 (hm:∀m∈ms,∀o k rows,H[m]?=some o->o.zM=some (k,rows)->pO κ Θ ρ w m k rows o.QL) (e i:Nat:=0):
 ∃bs,iB w vs es bs/\(∀b∈bs,Θ b=0)/\(IT H e i ds=true->bs.Nodup/\(∀b∈bs,∃m∈ms,ρ b=m+1)/\oq w (ny e) i vs es bs):=by
 obtain⟨bs,q1,q2,q3,q4⟩:=Lx (f:=ny e) i h hnd hr hz hm;refine⟨bs,q1,q2,fun hq=>?_⟩;simp only[IT,aL]at hq;obtain⟨p1,p2⟩:=q3 hq.1;refine⟨p1,p2,?_⟩;have h2:=hq.2;split at h2
 ·rename_i hn;exact .of q1 (sQ hn)
 ·exact q4 h2
theorem oq.over{w':World}{Θ':Nat->Nat}{tag i:Nat}{f:Nat->Option (TypeId×Nat)}{vs:av}{ds:aG}{bs:aI}(h:oq w f i vs ds bs)(k:ed w w' Θ Θ' tag)(hz:∀b∈bs,Θ b=0):oq w' f i vs ds bs:=by
 have:=k.two;exact h.keep fun b hb=>k.block b (h.lt b hb) (by rw[hz b hb];omega)
theorem cR.put(hs:cR Γ st κ Θ a w){H':ah}{κ':Nat->Option Value}{Θ' ρ:Nat->Nat}{w':World}{id:Nat}{o:Ob}(ms:aI)
 (key:∀(j:Nat) x,H'[j]?=some x->(j=id/\x=o)\/(j≠id/\st.H[j]?=some x)) (hn:∀(j:Nat) v,κ j=some v->κ' j=some v)
 (R4:∀i,H'.length<=i->κ' i=none) (hk1:∀(i:Nat) u,κ' i=some u->u.oneCell'=true) (k:ed w w' Θ Θ' (id+2)) (hm:∀b,2<=Θ' b->qF Γ b) (ho:nh w' κ' Θ' id o)
 (hu:qe Γ st.H κ Θ w ρ) (CA:∀m∈ms,∀x,m≠id->st.H[m]?=some x->x.GO=false)
 (hq:∀e sz rows,o=.row .uq e sz rows->∃v cs bs,κ' id=some v/\w'.ownsRow 0 e sz v rows.length cs/\oq w' (ny e) 0 cs rows.flatten bs/\bs.Nodup/\∀b∈bs,ρ b=id+1\/∃m∈ms,ρ b=m+1)
 (Wb:o.Na=false:=by first|rfl|exact Ob.Ei _ _ _ _):
 cR Γ ⟨st.σ,H'⟩ κ' Θ' a w':=by
 have mN:=hs.jI k hn hu;let ρ':Nat->Nat:=fun b=>if ms.any (fun m=>ρ b==m+1)then id+1 else ρ b
 have UK:∀b,ρ' b≠0->ρ b≠0:=by
  intro b hb h0;simp only[ρ',h0]at hb;split at hb
  ·rename_i h;obtain⟨m,_,hm⟩:=cB.1 h;simp at hm
  ·exact hb rfl
 refine hs.step k hm hn R4 hk1 ?_ ⟨ρ',fun b hb=>mN.1 b (UK b hb),?_,?_⟩
 ·intro j x hj;rcases key j x hj with⟨rfl,rfl⟩|⟨h1,h2⟩
  ·exact .inr (.inr ho)
  ·exact .inr (.inl ⟨by omega,h2⟩)
 ·intro j e sz rows hj;rcases key j _ hj with⟨rfl,ho'⟩|⟨h1,h2⟩
  ·obtain⟨v,cs,bs,q1,q2,q3,q4,q5⟩:=hq e sz rows ho'.symm;refine⟨v,cs,bs,q1,q2,q3,q4,fun b hb=>?_⟩;simp only[ρ'];split
   ·rfl
   ·rename_i hno;rcases q5 b hb with h|⟨m,hm1,hm2⟩
    ·exact h
    ·exact absurd (cB.2 ⟨m,hm1,by simp[hm2]⟩) hno
  ·obtain⟨v,cs,bs,q1,q2,q3,q4,q5⟩:=mN.2.1 j e sz rows (by omega) h2;refine⟨v,cs,bs,q1,q2,q3,q4,fun b hb=>?_⟩;simp only[ρ'];rw[ai]
   ·exact q5 b hb
   ·intro h;obtain⟨m,hm1,hm2⟩:=cB.1 h;simp only[q5 b hb,bq]at hm2;have:j=m:=by omega
    subst this;have:=CA j hm1 _ h1 h2;simp[Ob.GO]at this
 ·intro j x hj;rcases key j _ hj with⟨rfl,rfl⟩|⟨h1,h2⟩
  ·exact Bv.vn Wb
  ·by_cases hx:x.GO=false
   ·exact Bv.plain hx
   ·refine(mN.2.2 j x (by omega) h2).re fun b hb=>?_
    simp only[ρ'];rw[ai]
    ·exact hb
    ·intro h;obtain⟨m,hm1,hm2⟩:=cB.1 h;simp only[hb,bq]at hm2;have:j=m:=by omega
     subst this;exact hx (CA j hm1 _ h1 h2)
theorem sV{H:ah}{o:Ob}:∀(j:Nat) x,(H++[o])[j]?=some x->(j=H.length/\x=o)\/(j≠H.length/\H[j]?=some x):=by
 intro j x hj;by_cases hlt:j<H.length
 ·rw[aS hlt]at hj;exact .inr ⟨by omega,hj⟩
 ·have hj':=(aB.1 hj).1;simp only[af,aT,bH]at hj';have e:j=H.length:=by omega
  subst e;rw[aU (b9 _)]at hj;simp at hj;exact .inl ⟨rfl,hj.symm⟩
theorem qQ{H:ah}{o:Ob}{id:Nat}:∀(j:Nat) x,(H.set id o)[j]?=some x->(j=id/\x=o)\/(j≠id/\H[j]?=some x):=by
 intro j x hj;by_cases e:id=j
 ·subst e;have hlt:id<H.length:=by
   have:=(aB.1 hj).1;simpa using this
  rw[cM hlt]at hj;cases hj;exact .inl ⟨rfl,rfl⟩
 ·rw[bE e]at hj;exact .inr ⟨fun h=>e h.symm,hj⟩
theorem cR.newRow(hs:cR Γ st κ Θ a w){ρ:Nat->Nat}(hu:qe Γ st.H κ Θ w ρ){u:Bool}{ms:aI}{e sz cap:Nat}{rows:List aG}{bs:aI}(cur:Array Value)(hsz:0<sz)(hrl:∀r∈rows,r.length=sz)
 (BO:cur.size=cap*sz) (hn:rows.length<=cap) (hcap:cap<=maxLen) (hr:iB w (cur.toList.take (rows.length*sz)) rows.flatten bs) (hz:∀b∈bs,Θ b=0)
 (CA:∀m∈ms,∀x,st.H[m]?=some x->x.GO=false) (hq:u=true->bs.Nodup/\(∀b∈bs,∃m∈ms,ρ b=m+1)/\oq w (ny e) 0 (cur.toList.take (rows.length*sz)) rows.flatten bs):
 cR Γ ⟨st.σ,st.H++[.row (oW u) e sz rows]⟩ (pL κ st.H.length (some (.slice (some ⟨w.heap.size,0,none⟩) rows.length cap))) (fun b=>if b=w.heap.size then st.H.length+2 else Θ b) a (w.alloc (.cells cur e)):=by
 have k:=ed.alloc hs (.cells cur e) (tag:=st.H.length+2) (by omega);obtain⟨h1,h2⟩:=iB.over k hr hz;have hlen:(cur.toList.take (rows.length*sz)).length=rows.length*sz:=by
  have:rows.length*sz<=cap*sz:=eG _ hn;have h3:cur.toList.length=cap*sz:=by rw[<-BO];simp
  rw[bG,h3,dA this]
 have hown:(w.alloc (.cells cur e)).ownsRow 0 e sz (.slice (some ⟨w.heap.size,0,none⟩) rows.length cap) rows.length (cur.toList.take (rows.length*sz)):=
  ⟨hlen,.inr ⟨w.heap.size,cap,cur,rfl,by omega,heap_alloc_new w _,hn,hcap,BO,rfl⟩⟩
 refine hs.put ms sV (ol (hs.jx _ (b9 _)) _) ?_ ?_ k (hs.qT (fun b hb=>by by_cases e:b=w.heap.size<;>simp_all)) ?_ hu (fun m hm x _=>CA m hm x) ?_
 ·intro i hi;simp only[af,aT,bH]at hi;unfold pL;rw[ai (by omega)];exact hs.jx i (by omega)
 ·intro i x hx;unfold pL at hx;split at hx
  ·cases hx;rfl
  ·exact hs.jg i x hx
 ·refine⟨hsz,hrl,_,_,bs,by simp[pL],hown,h1,?_,?_⟩
  ·intro g hg;simp only[Value.ownBlock,aP]at hg;subst hg;simp
  ·cases u<;>exact h2
 ·intro e' sz' cc he;cases u with
  |false=>simp[oW]at he
  |true=>
   simp only[oW,Ob.row.injEq,qZ]at he;obtain⟨rfl,rfl,rfl⟩:=he;obtain⟨q1,q2,q3⟩:=hq rfl;exact⟨_,_,bs,by simp[pL],hown,q3.over k hz,q1,fun b hb=>.inr (q2 b hb)⟩
theorem Cq{o:Oper}{T e sz t:Nat}{x y:Operand}{k k':IntKind}{n:Int}{zs:aG}(hop:o.op=.makeSlice T x y)(hd:o.dst=some t)(hg:o.guard=none)(ht:t<Γ.nt)
 (hT:wE P T=some (e,sz)) (hz:tz P e=some zs) (hsz:0<sz) (hx:st.ev x=.int k n) (hy:st.ev y=.int k' n) (h0:0<=n) (hroom:LH P e*n.toNat<=281474976710656) (xk:n.toNat<=4611686018427387904)
 (h:AO P Γ all rest Q ⟨(t,.acc st.H.length)::st.σ,st.H++[.row (oW (LL e)) e sz (List.replicate n.toNat (zs.map D.sY))]⟩):AO P Γ all (o::rest) Q st:=by
 intro κ Θ a w hs;obtain⟨b1,r1,_⟩:=hs.ev x;obtain⟨b2,r2,_⟩:=hs.ev y;rw[hx]at r1;rw[hy]at r2;have e1:=r1.kZ;have e2:=r2.kZ;obtain⟨hu,_,yt⟩:=jh hT;obtain⟨i,z,hi,pK,DG,hlen,hone,rfl⟩:=oa hz;have tP:i.size=sz:=by rw[<-yt];simp[qU,Program.cellsOf,hi]
 have hby:i.bytes=LH P e:=by simp[LH,Program.bytesOf,hi]
 obtain⟨m,rfl⟩:=Int.eq_ofNat_of_zero_le h0;simp only[Int.toNat_natCast]at hroom xk h;have hrun:=run_make (P:=P) w T e i z hu hi pK k k' m m (by omega) (by omega) (by rw[hby];have:=Int.ofNat_le.2 hroom;rw[Int.natCast_mul]at this;exact this) (by omega);simp only[Int.toNat_natCast]at hrun;rw[<-DG]at hrun;have Jh:=Ba z.cells m;obtain⟨ρ,UE⟩:=hs.mG;have V8:iB w ((madeCells z.cells (m*z.cells.size)).toList.take ((List.replicate m ((z.cells.toList.map D.Ep).map D.sY)).length*sz)) (List.replicate m ((z.cells.toList.map D.Ep).map D.sY)).flatten []:=by
  rw[u9,gX (by simp[size_madeCells,DG,tP]),Jh];have hcell:=(sU (w:=w) (κ:=κ) z.cells.toList hone).pure (by
   rw[yF,aR];intro c _;simp only[Function.comp];unfold D.Ep;split<;>(try split)<;>rfl)
  exact hcell.soft.VI m
 have hs':=hs.newRow UE (u:=LL e) (ms:=[]) (e:=e) (sz:=sz) (cap:=m) (rows:=List.replicate m ((z.cells.toList.map D.Ep).map D.sY)) (bs:=[]) (madeCells z.cells (m*z.cells.size)) hsz
  (by intro r hr;rw[ru hr];simp[DG,tP]) (by rw[size_madeCells,DG,tP]) (by simp) (by unfold maxLen;omega)
  V8 (by simp) (by simp) (fun hq=>⟨by simp,by simp,.of V8 (sQ (zO hq))⟩)
 refine wpList_plain hg fun K hK=>?_
 unfold Oper.wp;have EV:(execOp a.eval o).run P w=.ok (.value (.slice (some ⟨w.heap.size,0,none⟩) m m)) (w.alloc (.cells (madeCells z.cells (m*z.cells.size)) e)):=by
  simp only[execOp,hop,e1,e2];simp[hrun]
 rw[EV,Oper.upon_value,hd];simp only[u9]at hs';refine hK _ _ (h _ _ _ _ (hs'.set (t:=t) (d:=.acc st.H.length) (bs:=[]) ht ?_ (by simp)));exact(qG.acc st.H.length _ (by simp[pL])).Ck
def mC(len sz:Nat):List (Nat×Nat):=(List.range len).map fun i=>(i*sz,sz)
def chunk(sz:Nat):Nat->aG->List aG
 |0,_=>[]
 |n+1,ds=>ds.take sz::chunk sz n (ds.drop sz)
theorem um(sz:Nat):∀(n:Nat) (ds:aG),ds.length=n*sz->(chunk sz n ds).length=n/\(chunk sz n ds).flatten=ds/\∀r∈chunk sz n ds,r.length=sz:=by
 intro n
 induction n with
 |zero=>intro ds h;simp at h;subst h;simp[chunk]
 |succ n ih=>
  intro ds h;rw[gF,jQ]at h;obtain⟨h1,h2,h3⟩:=ih (ds.drop sz) (by rw[jY];omega);refine⟨by simp[chunk,h1],by simp[chunk,h2],fun r hr=>?_⟩;rcases aq.1 hr with rfl|hr
  ·rw[bG];omega
  ·exact h3 r hr
theorem FR{len sz:Nat}:∀(parts:List (Nat×Value)) (cs arr:Array Value),Instr.fill ((mC len sz).toArray[·]?) cs parts=some arr->Instr.fill (fun i=>some (i*sz,sz)) cs parts=some arr:=by
 intro parts
 induction parts with
 |nil=>intro cs arr h;exact h
 |cons p parts ih=>
  intro cs arr h;obtain⟨i,v⟩:=p;simp only[Instr.fill]at h⊢;split at h
  ·cases h
  ·rename_i off size hp;have e:(off,size)=(i*sz,sz):=by
    simp only[mC,dM,bK]at hp;cases hr:(List.range len)[i]? with
    |none=>simp[hr]at hp
    |some j=>
     have hj:=(aB.1 hr)
     simp only[hr,bW,aP]at hp;have:j=i:=by have:=hj.2;simp at this;omega
     rw[<-hp,this]
   cases e;split at h
   ·cases h
   ·rename_i hc;rw[ai hc];exact ih _ _ h
theorem DU{places:List (Nat×Nat)}:∀(ps:List (Nat×D)) (cells ds:aG),pI places cells ps=some ds->ds.length=cells.length:=by
 intro ps
 induction ps with
 |nil=>intro cells ds h;simp only[pI,aP]at h;rw[h]
 |cons p ps ih=>
  intro cells ds h;obtain⟨i,d⟩:=p;simp only[pI]at h;split at h
  ·split at h
   ·rename_i hc;rw[ih _ _ h];simp;omega
   ·cases h
  ·cases h
theorem qh{o:Oper}{T e sz len:Nat}{parts:Array (Nat×Operand)}{zs ds:aG}(hop:o.op=.buildSlice T len parts)
 (hT:wE P T=some (e,sz)) (hz:tz P e=some zs) (hsz:0<sz) (hsmall:len*sz<=16777216)
 (hf:pI (mC len sz) (List.replicate len zs).flatten (parts.toList.map fun p=>(p.1,st.ev p.2))=some ds) (hs:cR Γ st κ Θ a w):
 ∃(arr:Array Value) (b0:aI),(execOp a.eval o).run P w=.ok (.value (.slice (some ⟨w.heap.size,0,none⟩) len len)) (w.alloc (.cells arr e))/\dF w κ arr.toList ds b0/\(∀b∈b0,Θ b=0)/\arr.size=len*sz/\ds.length=len*sz:=by
 obtain⟨hu,_,yt⟩:=jh hT;obtain⟨i,z,hi,pK,DG,hlen,hone,rfl⟩:=oa hz;have tP:i.size=sz:=by rw[<-yt];simp[qU,Program.cellsOf,hi]
 have Jh:=Ba z.cells len;have hzero:dF w κ (madeCells z.cells (len*z.cells.size)).toList (List.replicate len (z.cells.toList.map D.Ep)).flatten []:=by
  rw[Jh];have hcell:=(sU (w:=w) (κ:=κ) z.cells.toList hone).pure (by
   rw[yF,aR];intro c _;simp only[Function.comp];unfold D.Ep;split<;>(try split)<;>rfl)
  exact dF.tv (hcell.VI len)
 obtain⟨arr,b0,Qw,C7,hb0⟩:=Gi hs parts.toList _ _ ds [] hzero (by simp) hf;have FX:=FR _ _ _ Qw;have hdl:ds.length=len*sz:=by
  rw[DU _ _ _ hf,iq (sz:=sz) (by intro r hr;rw[ru hr];simp[DG,tP])];simp
 have hal:arr.size=len*sz:=by have:=C7.length;simp at this;omega
 refine⟨arr,b0,?_,C7,hb0,hal,hdl⟩;simp only[execOp,hop];by_cases h0:len*i.size=0
 ·have hl0:len=0:=by
   rw[tP]at h0;rcases Nat.mul_eq_zero.1 h0 with h|h
   ·exact h
   ·omega
  subst hl0;have hma:madeCells z.cells (0*z.cells.size)= #[]:=by simp[madeCells]
  rw[hma]at FX;have hpe:(parts.map fun(x:Nat×Operand)=>(x.1,a.eval x.2)).toList=parts.toList.map fun p=>(p.1,a.eval p.2):=by simp
  have TZ:=FX;rw[<-hpe,<-tP]at TZ;simp at TZ;have Ii:Array.range 0= #[]:=rfl;simp[Instr.buildSlice,run_underlying hu,sizeOf,typeInfo,hi,newRow,Ii,TZ]
 ·have hpe:(parts.map fun(x:Nat×Operand)=>(x.1,a.eval x.2)).toList=parts.toList.map fun p=>(p.1,a.eval p.2):=by simp
  have:=run_buildSlice (P:=P) w T e len (parts.map fun(x:Nat×Operand)=>(x.1,a.eval x.2)) arr i z hu hi pK (by rw[tP];omega) h0 (by
   rw[hpe,tP];have e2:(Array.range (len*sz)).map (z.cells[· %z.cells.size]!)=madeCells z.cells (len*z.cells.size):=by unfold madeCells;rw[DG,tP]
   rw[e2];exact FX)
  simp[this]
theorem C0{o:Oper}{T e sz len t:Nat}{parts:Array (Nat×Operand)}{zs ds es:aG}{ms:aI}(hop:o.op=.buildSlice T len parts)(hd:o.dst=some t)(hg:o.guard=none)(ht:t<Γ.nt)
 (hT:wE P T=some (e,sz)) (hz:tz P e=some zs) (hsz:0<sz) (hsmall:len*sz<=16777216)
 (hf:pI (mC len sz) (List.replicate len zs).flatten (parts.toList.map fun p=>(p.1,st.ev p.2))=some ds) (habs:yJ st.H ds=some (es,ms)) (hnd:ms.Nodup)
 (h:AO P Γ all rest Q ⟨(t,.acc st.H.length)::st.σ,kill st.H ms++[.row (oW (IT st.H e 0 ds)) e sz (chunk sz len es)]⟩):AO P Γ all (o::rest) Q st:=by
 intro κ Θ a w hs;obtain⟨arr,b0,hrun,C7,hb0,hal,hdl⟩:=qh hop hT hz hsz hsmall hf hs;obtain⟨ρ,UE⟩:=hs.mG;obtain⟨Θ1,ρ1,hs1,hu1,hm1,DF,Ij⟩:=cR.Eh ms hs UE hnd (E1 habs);obtain⟨bs,q1,q2,q3⟩:=FF (H:=st.H) (ρ:=ρ1) habs hnd C7 (fun b hb=>DF b (hb0 b hb)) hm1 e 0;have hel:es.length=len*sz:=by rw[<-q1.length,C7.length,hdl]
 obtain⟨c1,c2,c3⟩:=um sz len es hel;have hs':=hs1.newRow hu1 (u:=IT st.H e 0 ds) (ms:=ms) (e:=e) (sz:=sz) (cap:=len) (rows:=chunk sz len es) (bs:=bs) arr hsz c3 hal (by rw[c1];exact b9 _)
  (by unfold maxLen;have:len*1<=len*sz:=dP _ hsz;omega) (by rw[c1,c2,gX (by simp[hal])];exact q1) q2
  (by
   intro m hm x hH;rcases jH hH with h|⟨h,_⟩
   ·subst h;rfl
   ·exact absurd hm h) (fun hq=>⟨(q3 hq).1,(q3 hq).2.1,by rw[c1,c2,gX (by simp[hal])];exact(q3 hq).2.2⟩)
 refine wpList_plain hg fun K hK=>?_
 unfold Oper.wp;rw[hrun,Oper.upon_value,hd];rw[c1,dO]at hs';refine hK _ _ (h _ _ _ _ (hs'.set (t:=t) (d:=.acc st.H.length) (bs:=[]) ht ?_ (by simp)));exact(qG.acc st.H.length _ (by simp[pL])).Ck
end
end Go.Cx
namespace Go.Cx
open Go.RowKit
section
variable{P:Program}{Γ:nR}{Q:Exit->St->Prop}{st:St}{κ:Nat->Option Value}{Θ:Nat->Nat}{a:Act}{w:World}{all:Array Oper}{rest:List Oper}
theorem Am(w:World)(t ty e:TypeId)(i:TypeInfo)(ht:P.underlying t=some (.slice e))(hi:P.info? e=some i)(b:Option Addr)(n cap:Nat)(hn:n<=cap):
 (Builtin.append_ #[t,t] ty #[.slice b n cap,.slice none 0 0]).run P w=.ok (.slice b n cap) w:=by
 cases b<;>simp[Builtin.append_,run_underlying ht,sizeOf,typeInfo,hi,Builtin.lenOf,Builtin.firstCells,hn,storeCells]
structure J5(w:World)(Θ ρ:Nat->Nat)(e sz:Nat)(v:Value)(rows:List (List D))(u1:Bool)(i1:Nat)(bs:List Nat)(cs:List Value):Prop where
 rl:∀r∈rows,r.length=sz
 own:w.ownsRow 0 e sz v rows.length cs
 rd:iB w cs rows.flatten bs
 zero:∀b∈bs,Θ b=0
 top:∀g,v.ownBlock=some g->Θ g=i1+2
 uq:u1=true->bs.Nodup/\∀b∈bs,ρ b=i1+1
 Qi:u1=true->oq w (ny e) 0 cs rows.flatten bs
structure Ct(w:World)(Θ ρ:Nat->Nat)(e sz:Nat)(u:Value)(rows:List (List D))(u2:Bool)(i2:Nat)(bs:List Nat)(cs:List Value):Prop where
 rl:∀r∈rows,r.length=sz
 at_:(u=.slice none 0 0/\rows=[])\/∃ad c,u=.slice (some ad) rows.length c/\∀j x,cs[j]?=some x->w.cell? (ad.add j)=some x
 rd:iB w cs rows.flatten bs
 zero:∀b∈bs,Θ b=0
 uq:u2=true->bs.Nodup/\∀b∈bs,ρ b=i2+1
 Qi:u2=true->oq w (ny e) 0 cs rows.flatten bs
theorem FI{T e sz i1 i2:Nat}{v u:Value}{rows dK:List aG}{u1 u2:Bool}{b1 b2:aI}{c1 c2:av}{ρ:Nat->Nat}{zs:aG}{ty:TypeId}(hT:wE P T=some (e,sz))(hz:tz P e=some zs)(hsz:0<sz)
 (hS:J5 w Θ ρ e sz v rows u1 i1 b1 c1) (hX:Ct w Θ ρ e sz u dK u2 i2 b2 c2) (h63:rows.length+dK.length<=maxLen) (hby:(rows.length+dK.length)*LH P e<=140737488355328):
 ∃v' w',(Builtin.append_ #[T,T] ty #[v,u]).run P w=.ok v' w'/\w'.ownsRow 0 e sz v' (rows++dK).length (c1++c2)/\w.grownBy w' v.ownBlock/\(v'.ownBlock=v.ownBlock\/v'.ownBlock=some w.heap.size)/\
  iB w (c1++c2) (rows++dK).flatten (b1++b2):=by
 obtain⟨hu,_,yt⟩:=jh hT;obtain⟨i,z,hi,pK,DG,hlen,hone,rfl⟩:=oa hz;have tP:i.size=sz:=by rw[<-yt];simp[qU,Program.cellsOf,hi]
 have hib:i.bytes=LH P e:=by simp[LH,Program.bytesOf,hi]
 have hr:iB w (c1++c2) (rows++dK).flatten (b1++b2):=by rw[fL];exact hS.rd.app hX.rd
 have tq:c2.length=dK.length*sz:=by rw[hX.rd.length,iq hX.rl]
 rcases hX.at_ with⟨rfl,rfl⟩|⟨ad,c,rfl,hcell⟩
 ·have hc:c2=[]:=br (by simpa using tq);subst hc;have hv:∃b n cap,v=.slice b n cap/\n<=cap:=by
   rcases hS.own.2 with⟨rfl,_⟩|⟨g,cap,cur,rfl,_,_,hn,_⟩
   ·exact⟨_,_,_,rfl,b9 _⟩
   ·exact⟨_,_,_,rfl,hn⟩
  obtain⟨b,n,cap,rfl,hn⟩:=hv;exact⟨_,w,Am w T ty e i hu hi b n cap hn,by simpa using hS.own,⟨rfl,rfl,rfl,b9 _,fun _ _ _=>rfl⟩,.inl rfl,hr⟩
 ·obtain⟨v',w',q1,q2,q3,_,q5⟩:=run_append_own_at (P:=P) w 0 T ty e i z sz (LH P e) hu hi pK tP hib (by rw[DG,tP]) hsz v rows.length c1 hS.own ad dK.length c c2 tq hcell hX.rd.one h63 hby (ud _);exact⟨v',w',q1,by simpa using q2,q3,q5,hr⟩
theorem HT{o:Oper}{T e sz t:Nat}{s x:Operand}{rows dK:List aG}{zs:aG}{u:Bool}{ks:aI}(hop:o.op=.call {callee:=.builtin .append,args:= #[s,x],argTypes:= #[T,T]})
 (hd:o.dst=some t) (hg:o.guard=none) (ht:t<Γ.nt) (hT:wE P T=some (e,sz)) (hz:tz P e=some zs) (hsz:0<sz)
 (h63:rows.length+dK.length<=maxLen) (hby:(rows.length+dK.length)*LH P e<=140737488355328)
 (hin:∀κ Θ a w ρ,cR Γ st κ Θ a w->qe Γ st.H κ Θ w ρ->∃u1 u2 i1 i2 b1 b2 c1 c2,J5 w Θ ρ e sz (a.eval s) rows u1 i1 b1 c1/\Ct w Θ ρ e sz (a.eval x) dK u2 i2 b2 c2/\
  (i1∈ks\/i1=st.H.length)/\(u=true->u1=true/\u2=true/\(b2=[]\/(i2∈ks/\i1≠i2))/\JP e sz=true))
 (h:AO P Γ all rest Q ⟨(t,.acc st.H.length)::st.σ,kill st.H ks++[.row (oW u) e sz (rows++dK)]⟩):AO P Γ all (o::rest) Q st:=by
 intro κ Θ a w hs;obtain⟨ρ,hu⟩:=hs.mG;obtain⟨u1,u2,i1,i2,b1,b2,c1,c2,hS,hX,hi1,hq⟩:=hin κ Θ a w ρ hs hu;obtain⟨v',w',hrun,hown,QB,MI,hrd⟩:=FI (P:=P) (ty:=o.type) hT hz hsz hS hX h63 hby;refine wpList_plain hg fun K hK=>?_
 have EV:(execOp a.eval o).run P w=.ok (.value v') w':=by
  simp only[execOp,hop,resolve,invoke,builtin,Sem.run_bind,Sem.run_pure,Result.andThen_ok,jZ,ax,bg,hrun]
 unfold Oper.wp;rw[EV,Oper.upon_value,hd];let id:=st.H.length
 let Θ':Nat->Nat:=fun b=>if some b=v'.ownBlock then id+2 else Θ b
 have La:∀g,v'.ownBlock=some g->Θ g=i1+2\/g=w.heap.size:=by
  intro g Ht;rcases MI with h|h
  ·exact .inl (hS.top g (h▸Ht))
  ·rw[h]at Ht;cases Ht;exact .inr rfl
 have hnew:Θ w.heap.size=0:=by
  cases h0:Θ w.heap.size with
  |zero=>rfl
  |succ n=>exact absurd (hs.own w.heap.size (by omega)) (by omega)
 have k:ed w w' Θ Θ' (i1+2):=by
  refine⟨by omega,QB.os,QB.tape,QB.output,QB.size,fun b hb hne=>QB.block b hb (fun e=>hne (hS.top b e.symm)),fun b hb hne=>?_,fun b hb=>?_⟩
  ·simp only[Θ'];rw[ai];intro e;rcases La b e.symm with h|h
   ·exact hne h
   ·omega
  ·simp only[Θ']at hb;split at hb
   ·rename_i e;exact(hown.lt b e.symm).2
   ·exact cF (hs.own b hb) QB.size
 have hm:∀b,2<=Θ' b->qF Γ b:=by
  intro b hb;simp only[Θ']at hb;split at hb
  ·rename_i e;rcases La b e.symm with h|h
   ·exact hs.mine b (by omega)
   ·exact .inl (by rw[h];exact hs.base)
  ·exact hs.mine b hb
 have hn:=ol (hs.jx id (b9 _)) (some v');have RM:v'.oneCell'=true:=by
  rcases hown.2 with⟨rfl,_⟩|⟨g,cap,cur,rfl,_⟩<;>rfl
 have pK:∀b∈b1++b2,Θ b=0:=by
  intro b hb;rcases aJ.1 hb with hb|hb
  ·exact hS.zero b hb
  ·exact hX.zero b hb
 obtain⟨CC,Bx⟩:=iB.over k hrd pK;have hrl:∀r∈rows++dK,r.length=sz:=by
  intro r hr;rcases aJ.1 hr with hr|hr
  ·exact hS.rl r hr
  ·exact hX.rl r hr
 have vc:∀g,v'.ownBlock=some g->Θ' g=id+2:=fun g Ht=>by simp only[Θ'];rw[bD Ht.symm]
 have key:∀(j:Nat) y,(kill st.H ks++[.row (oW u) e sz (rows++dK)])[j]?=some y->(j=id/\y=.row (oW u) e sz (rows++dK))\/(j≠id/\(y=.gone\/(j∉ks/\st.H[j]?=some y))):=by
  intro j y hj;rcases sV j y hj with⟨h1,h2⟩|⟨h1,h2⟩
  ·rw[dO]at h1;exact .inl ⟨h1,h2⟩
  ·rw[dO]at h1;exact .inr ⟨h1,jH h2⟩
 have hne:∀(j:Nat) y,j∉ks->st.H[j]?=some y->j+2≠i1+2:=by
  intro j y hj hy;have:=(aB.1 hy).1;rcases hi1 with h|h
  ·intro e;exact hj (by
    have:j=i1:=by omega
    rw[this];exact h)
  ·omega
 have mN:=hs.jI k hn hu;let ρ':Nat->Nat:=fun b=>if u=true/\(b∈b1\/b∈b2)then id+1 else ρ b
 have hold:∀(j:Nat) y,j∉ks->st.H[j]?=some y->∀b,ρ b=j+1->ρ' b=j+1:=by
  intro j y hjk hy b hb;simp only[ρ'];rw[ai]
  ·exact hb
  ·rintro⟨o4,hmem⟩;obtain⟨p1,p2,p3,_⟩:=hq o4;rcases hmem with h|h
   ·have:=(hS.uq p1).2 b h;exact hne j _ hjk hy (by omega)
   ·have:=(hX.uq p2).2 b h;rcases p3 with h0|⟨h0,_⟩
    ·rw[h0]at h;cases h
    ·have:j=i2:=by omega
     subst this;exact hjk h0
 have hU:qe Γ (kill st.H ks++[.row (oW u) e sz (rows++dK)]) (pL κ id (some v')) Θ' w' ρ':=by
  refine⟨fun b hb=>?_,fun j e' sz' cc hj=>?_,fun j x hj=>?_⟩
  ·simp only[ρ']at hb;split at hb
   ·rename_i hc;obtain⟨o4,hmem⟩:=hc;obtain⟨q1,q2,q3,_⟩:=hq o4;rcases hmem with h|h
    ·exact mN.1 b (by rw[(hS.uq q1).2 b h];omega)
    ·exact mN.1 b (by rw[(hX.uq q2).2 b h];omega)
   ·exact mN.1 b hb
  ·rcases key j _ hj with⟨rfl,hy⟩|⟨_,hy|⟨hjk,hy⟩⟩
   ·cases o4:u with
    |false=>rw[o4]at hy;simp[oW]at hy
    |true=>
     rw[o4]at hy;simp only[oW,Ob.row.injEq,qZ]at hy;obtain⟨rfl,rfl,rfl⟩:=hy;obtain⟨q1,q2,q3,q8⟩:=hq o4;have hF:oq w (ny e') 0 (c1++c2) (rows++dK).flatten (b1++b2):=by
      rw[fL];refine(hS.Qi q1).app ?_;rw[iq hS.rl];exact(hX.Qi q2).rows q8
     refine⟨v',c1++c2,b1++b2,gq _ _ _,hown,hF.over k pK,?_,fun b hb=>?_⟩
     ·obtain⟨n1,r1⟩:=hS.uq q1;obtain⟨n2,r2⟩:=hX.uq q2;refine aY.2 ⟨n1,n2,fun y hy z hz hyz=>?_⟩;subst hyz;rcases q3 with h|⟨_,h⟩
      ·rw[h]at hz;cases hz
      ·have:=r1 y hy;have:=r2 y hz;omega
     ·simp only[ρ'];rw[bD ⟨o4,aJ.1 hb⟩]
   ·cases hy
   ·obtain⟨v2,cs,bs,q1,q2,q3,q4,q5⟩:=mN.2.1 j e' sz' cc (hne j _ hjk hy) hy;exact⟨v2,cs,bs,q1,q2,q3,q4,fun b hb=>hold j _ hjk hy b (q5 b hb)⟩
  ·rcases key j _ hj with⟨rfl,hy⟩|⟨_,hy|⟨hjk,hy⟩⟩
   ·subst hy;exact Bv.vn (Ob.Ei _ _ _ _)
   ·subst hy;trivial
   ·exact(mN.2.2 j x (hne j _ hjk hy) hy).re fun b hb=>hold j _ hjk hy b hb
 have hs':cR Γ ⟨st.σ,kill st.H ks++[.row (oW u) e sz (rows++dK)]⟩ (pL κ id (some v')) Θ' a w':=by
  refine hs.step k hm hn ?_ ?_ ?_ ⟨ρ',hU⟩
  ·intro i hi;simp only[af,aT,bH,dO]at hi;unfold pL;rw[ai (by omega)];exact hs.jx i (by omega)
  ·intro i y hy;unfold pL at hy;split at hy
   ·cases hy;exact RM
   ·exact hs.jg i y hy
  ·intro j y hj;rcases key j y hj with⟨rfl,rfl⟩|⟨_,hy|⟨hjk,hy⟩⟩
   ·exact .inr (.inr ⟨hsz,hrl,v',_,_,gq _ _ _,hown,CC,vc,by cases u<;>exact Bx⟩)
   ·exact .inl hy
   ·exact .inr (.inl ⟨hne j y hjk hy,hy⟩)
 refine hK _ _ (h _ _ _ _ (hs'.set (t:=t) (d:=.acc id) (bs:=[]) ht ?_ (by simp)));exact(qG.acc id _ (gq _ _ _)).Ck
def D.l6(rows:List aG):Bool:=rows.all fun r=>r.all D.flat
theorem iB.flat{vs:av}{ds:aG}{bs:aI}(h:iB w vs ds bs)(hf:ds.all D.flat=true):bs=[]:=by
 induction ds generalizing vs bs with
 |nil=>cases h;rfl
 |cons d ds ih=>
  simp only[cv,aL]at hf;cases h with
  |cons v vs _ _ b1 b2 h1 h2 h3=>rw[h2.flat hf.1,ih h3 hf.2];rfl
theorem JB{e sz i1:Nat}{ρ:Nat->Nat}:J5 w Θ ρ e sz (.slice none 0 0) [] true i1 [] []:=
 ⟨by simp,World.ownsRow_nil w 0 e sz,.nil,by simp,by simp[Value.ownBlock],by simp,fun _=>.nil _⟩
theorem yL{ρ:Nat->Nat}(hs:cR Γ st κ Θ a w)(hu:qe Γ st.H κ Θ w ρ){id e sz:Nat}{k:RK}{rows:List aG}{v:Value}(hk:κ id=some v)(hH:st.H[id]?=some (.row k e sz rows))(ho:k.DT=true):
 ∃bs cs,J5 w Θ ρ e sz v rows k.ub id bs cs:=by
 obtain⟨_,hrl,v2,cs,bs,hk2,hown,l7,hΘ,hz⟩:=hs.ob id _ hH;rw[hk]at hk2;cases hk2;cases k with
 |cl=>simp[RK.DT]at ho
 |sh=>exact⟨bs,cs,hrl,hown,l7,hz,hΘ,by simp[RK.ub],by simp[RK.ub]⟩
 |mv n=>exact⟨bs,cs,hrl,hown,l7,hz,hΘ,by simp[RK.ub],by simp[RK.ub]⟩
 |ho p n=>
  obtain⟨v2,c2,b2,q1,q2,q3,q4,q5,_⟩:=hu.more id _ hH;rw[hk]at q1;cases q1;exact⟨b2,c2,hrl,q2,q3.rd,fun b hb=>(hu.free b (by rw[q5 b hb];omega)).1,hΘ,fun _=>⟨q4,q5⟩,fun _=>q3⟩
 |uq=>
  obtain⟨v2,c2,b2,q1,q2,q3,q4,q5⟩:=hu.rows id e sz rows hH;rw[hk]at q1;cases q1;exact⟨b2,c2,hrl,q2,q3.rd,fun b hb=>(hu.free b (by rw[q5 b hb];omega)).1,hΘ,fun _=>⟨q4,q5⟩,fun _=>q3⟩
theorem E5{ρ:Nat->Nat}(hs:cR Γ st κ Θ a w)(hu:qe Γ st.H κ Θ w ρ){id e sz:Nat}{k:RK}{rows:List aG}{v:Value}(hk:κ id=some v)(hH:st.H[id]?=some (.row k e sz rows))(ho:k.DT=true):
 ∃bs cs,Ct w Θ ρ e sz v rows k.ub id bs cs:=by
 obtain⟨bs,cs,h⟩:=yL hs hu hk hH ho;refine⟨bs,cs,h.rl,?_,h.rd,h.zero,h.uq,h.Qi⟩;rcases h.own.2 with⟨rfl,hn⟩|⟨g,cap,cur,rfl,_⟩
 ·exact .inl ⟨rfl,br hn⟩
 ·exact .inr ⟨_,cap,rfl,h.own.cells (g:=g) (by simp[Value.ownBlock])⟩
theorem Ct.sh{e e' sz:Nat}{ρ:Nat->Nat}{u:Value}{rows:List aG}{i:Nat}{bs:aI}{cs:av}(h:Ct w Θ ρ e' sz u rows false i bs cs):Ct w Θ ρ e sz u rows false i bs cs:=
 ⟨h.rl,h.at_,h.rd,h.zero,h.uq,by simp⟩
theorem JC{e sz i2:Nat}{ρ:Nat->Nat}:Ct w Θ ρ e sz (.slice none 0 0) [] true i2 [] []:=
 ⟨by simp,.inl ⟨rfl,rfl⟩,.nil,by simp,by simp,fun _=>.nil _⟩
theorem M2{ρ:Nat->Nat}{v:Value}{rows:List aG}{bs:aI}{sz:Nat}(h:Rd w v (.sl rows) bs)(hz:∀b∈bs,Θ b=0)(hrl:∀r∈rows,r.length=sz)(i2:Nat)(fl:Bool)(hf:fl=true->D.l6 rows=true)(e:Nat)(he:fl=true->AI e=none):
 ∃b2 cs,Ct w Θ ρ e sz v rows fl i2 b2 cs/\(fl=true->b2=[]):=by
 cases h with
 |qD=>exact⟨[],[],⟨by simp,.inl ⟨rfl,rfl⟩,.nil,by simp,by simp,fun _=>.nil _⟩,by simp⟩
 |jP ad cap hc=>exact⟨[],[],⟨by simp,.inr ⟨ad,cap,rfl,by simp⟩,.nil,by simp,by simp,fun _=>.nil _⟩,by simp⟩
 |sl b off cap sz' _ cs bs' h0 h1 h2 h3 h4 h5=>
  have hfl:fl=true->bs'=[]:=fun e=>h5.flat (by
   have:=hf e;unfold D.l6 at this;rw[aR]at this⊢;intro d hd;obtain⟨r,hr,xz⟩:=dZ.1 hd;exact aR.1 (this r hr) d xz)
  refine⟨bs',cs,⟨hrl,.inr ⟨_,cap,rfl,fun j x hj=>?_⟩,h5,fun y hy=>hz y (by simp[hy]),fun e=>by rw[hfl e];simp,fun e=>.of h5 (sQ (he e))⟩,hfl⟩;have:=h4 j x hj;simpa[Addr.add_lit]using this
end
end Go.Cx
namespace Go.Cx
open Go.RowKit
section
variable{P:Program}{Γ:nR}{Q:Exit->St->Prop}{st:St}{κ:Nat->Option Value}{Θ:Nat->Nat}{a:Act}{w:World}{all:Array Oper}{rest:List Oper}
theorem cU{H:ah}{ms:aI}{j:Nat}(h:j∉ms):(kill H ms)[j]?=H[j]?:=by
 induction ms generalizing H with
 |nil=>rfl
 |cons m ms ih=>
  simp only[aq,zX]at h;simp only[kill];rw[ih h.2,bE (fun e=>h.1 e.symm)]
def RK.after(k:RK)(b:Bool):RK:=match k with
 | .uq=>oW b
 | .mv _=>.sh
 | .ho _ _=>oW b
 |k=>k
theorem RK.Hf(k:RK)(b:Bool)(e:TypeId)(sz:Nat)(rows:List aG):(Ob.row (k.after b) e sz rows).Na=false:=by cases k<;>cases b<;>rfl
theorem Du{o:Oper}{T id i sz off e:Nat}{k0:RK}{x y:Operand}{rows:List aG}{row ds es:aG}{ms:aI}(hop:o.op=.store T x y)(hd:o.dst=none)(hg:o.guard=none)
 (hx:st.ev x=.op id i sz off) (hH:st.H[id]?=some (.row k0 e sz rows)) (hk0:k0.DT=true) (hrow:rows[i]?=some row) (hc:(st.ev y).cellsOf=some ds) (habs:yJ st.H ds=some (es,ms)) (hnd:ms.Nodup) (hid:id∉ms)
 (hT:Dh P T=true) (hl:ds.length=qU P T) (hfit:off+ds.length<=sz)
 (h:AO P Γ all rest Q ⟨st.σ,(kill st.H ms).set id (.row (k0.after (IT st.H e off ds&&JP e sz)) e sz (rows.set i (row.take off++es++row.drop (off+ds.length))))⟩):AO P Γ all (o::rest) Q st:=by
 intro κ Θ0 a w hs0;obtain⟨b1,r1,_⟩:=hs0.ev x;obtain⟨XV,r2,UI⟩:=hs0.ev y;rw[hx]at r1;obtain⟨g,o0,len,cap,hk,hv⟩:=r1.vm;have TU:=sK hs0.jg r2 hc;obtain⟨ρ0,Ov⟩:=hs0.mG;obtain⟨Θ,ρ,hs,hu,hm1,DF,Ij⟩:=cR.Eh ms hs0 Ov hnd (E1 habs);obtain⟨b2,Qt,Hy,qC⟩:=FF (H:=st.H) (ρ:=ρ) habs hnd TU (fun b hb=>DF b (UI b hb)) hm1 e off;have D7:(kill st.H ms)[id]?=some (.row k0 e sz rows):=by rw[cU hid];exact hH
 obtain⟨bs,cs,hA⟩:=yL hs hu hk D7 hk0;have hrl:=hA.rl;have hown:=hA.own;have Ih:=qO hown;subst Ih;rw[cC]at hv;have l7:=hA.rd;have hsz:0<sz:=by
  obtain⟨hsz,_⟩:=hs.ob id _ D7;exact hsz
 rcases hown.2 with⟨vX,_⟩|⟨g',Vl,cur,hkv,hb,DD,hnc,hcm,hcs,EW⟩
 ·cases vX
 ·cases hkv;have DI:=hA.top g (by simp[Value.ownBlock]);have hl1:=TU.length;have hle:es.length=ds.length:=by rw[<-Qt.length,hl1]
  have hilt:i<rows.length:=(aB.1 hrow).1;have Od:(i+1)*sz<=rows.length*sz:=eG _ hilt;have We:rows.length*sz<=cap*sz:=eG _ hnc;rw[gF,jQ]at Od;have Ou:(a.eval y).cells.size=qU P T:=by rw[<-hl,<-hl1];simp
  have Wo:(a.eval y).cells.size=ds.length:=by rw[<-hl1];simp
  have hst:=vq (P:=P) (T:=T) (off:=i*sz+off) DD Ou (cZ.1 hT) (by omega) TU.one;have k:=ed.setRow hs (g:=g) (cs:=(cur.toList.take (i*sz+off)++(a.eval y).cells.toList++cur.toList.drop (i*sz+off+(a.eval y).cells.toList.length)).toArray) (tag:=id+2) (by omega) DI;refine wpList_plain hg fun K hK=>?_
  unfold Oper.wp;have hrun:(execOp a.eval o).run P w=.ok .skip (w.setRow g (cur.toList.take (i*sz+off)++(a.eval y).cells.toList++cur.toList.drop (i*sz+off+(a.eval y).cells.toList.length)).toArray):=by
   simp only[execOp,hop,hv];simp[hst]
  rw[hrun,Oper.upon_skip,hd];have hfl:=iq hrl;have e0:rows.flatten=rows.flatten.take (i*sz+off)++((rows.flatten.drop (i*sz+off)).take ds.length++(rows.flatten.drop (i*sz+off)).drop ds.length):=by rw[bJ,bJ]
  rw[e0]at l7;obtain⟨v1,v2,c1,c2,Aj,uU,k1,k2⟩:=l7.split;obtain⟨v3,v4,c3,c4,rfl,rfl,k3,k4⟩:=k2.split;have l1:v1.length=i*sz+off:=by rw[k1.length,bG];omega
  have l3:v3.length=ds.length:=by rw[k3.length,bG,jY];omega
  rw[dX]at k4;have hnew:=(k1.app Qt).app k4;have Bx:∀b∈((c1++b2)++c4),Θ b=0:=by
   intro b hb;simp only[aJ]at hb;rcases hb with(hb|hb)|hb
   ·exact hA.zero b (by rw[uU];simp[hb])
   ·exact Hy b hb
   ·exact hA.zero b (by rw[uU];simp[hb])
  obtain⟨n1,n2⟩:=iB.over k hnew Bx;have hfs:=vU (ds:=es) (off:=off) hrl hrow (by omega);rw[hle]at hfs;rw[<-hfs]at n1;have JV:cs.length=rows.length*sz:=hown.1;have Qu:cur.toList=v1++(v3++(v4++cur.toList.drop (rows.length*sz))):=by
   have:cur.toList=cs++cur.toList.drop (rows.length*sz):=by rw[<-EW,bJ]
   rw[Aj]at this;simpa using this
  have t1:cur.toList.take (i*sz+off)=v1:=by rw[Qu];exact ez l1
  have t2:cur.toList.drop (i*sz+off+(a.eval y).cells.toList.length)=v4++cur.toList.drop (rows.length*sz):=by
   rw[hl1,<-dX]
   conv=>lhs;rw[Qu]
   rw[dU l1,dU l3]
  have R7:(v1++(a.eval y).cells.toList++v4).length=rows.length*sz:=by
   have:=JV;rw[Aj]at this;simp only[af]at this⊢;omega
  have yp:(w.setRow g (cur.toList.take (i*sz+off)++(a.eval y).cells.toList++cur.toList.drop (i*sz+off+(a.eval y).cells.toList.length)).toArray).ownsRow 0 e sz (.slice (some ⟨g,0,none⟩) rows.length cap)
   (rows.set i (row.take off++es++row.drop (off+ds.length))).length (v1++(a.eval y).cells.toList++v4):=by
   refine⟨by simpa using R7,.inr ⟨g,cap,_,by simp,hb,setRow_heap w g cur _ e _ DD,by simpa using hnc,hcm,?_,?_⟩⟩
   ·simp only[o7,af,bG,jY,n9];omega
   ·rw[t1,t2];simp only[jy];rw[<-cg];exact ez R7
  have Ai:∀r∈rows.set i (row.take off++es++row.drop (off+ds.length)),r.length=sz:=by
   intro r hr;rcases mq hr with hr|rfl
   ·exact hrl r hr
   ·have:=hrl row (aD hrow);simp;omega
  have vc:∀g2,(Value.slice (some ⟨g,0,none⟩) rows.length cap).ownBlock=some g2->Θ g2=id+2:=by
   intro g2 Gn;simp only[Value.ownBlock,aP]at Gn;subst Gn;exact DI
  refine hK _ _ (h _ _ _ _ (hs.put ms qQ (fun _ _ h=>h) (fun i hi=>hs.jx i (by simpa using hi)) hs.jg k hs.mine ?_ hu ?_ ?_ (RK.Hf _ _ _ _ _)))
  ·refine⟨hsz,Ai,_,_,_,hk,yp,n1,vc,?_⟩;cases k0 with
   |cl=>simp[RK.DT]at hk0
   |sh=>exact n2
   |mv n=>exact n2
   |ho p n=>simp only[RK.after];cases(IT st.H e off ds&&JP e sz)<;>exact n2
   |uq=>simp only[RK.after];cases(IT st.H e off ds&&JP e sz)<;>exact n2
  ·intro m hm x _ w9;rcases jH w9 with h|⟨h,_⟩
   ·subst h;rfl
   ·exact absurd hm h
  ·intro e' sz' cc he;cases k0
   case cl=>simp[RK.DT]at hk0
   case sh=>simp[RK.after]at he
   case mv n=>simp[RK.after]at he
   all_goals
    simp only[RK.after]at he;cases hq:(IT st.H e off ds&&JP e sz)with
    |false=>rw[hq]at he;simp[oW]at he
    |true=>
     rw[hq]at he;simp only[oW,Ob.row.injEq,qZ]at he;obtain⟨rfl,rfl,rfl⟩:=he;rw[aL]at hq;obtain⟨q1,q2,q7⟩:=qC hq.1;obtain⟨p1,p2⟩:=hA.uq rfl;have Uq:=hA.Qi rfl;rw[e0]at Uq;obtain⟨x1,x2,y1,y2,ex,ey,s1,s2⟩:=Uq.split;obtain⟨x3,x4,y3,y4,rfl,rfl,s3,s4⟩:=s2.split;rw[Aj]at ex;obtain⟨rfl,Vs⟩:=List.append_inj ex (by rw[s1.length,k1.length]);obtain⟨rfl,rfl⟩:=List.append_inj Vs (by rw[s3.length,k3.length]);have Ui:(rows.flatten.take (i*sz+off)).length=i*sz+off:=by rw[<-k1.length];exact l1
     have X5:((rows.flatten.drop (i*sz+off)).take ds.length).length=ds.length:=by rw[<-k3.length];exact l3
     rw[dX]at s4;have q8:=q7.rows (n:=i) hq.2;have hF:=(s1.app (by rw[Ui];rwa[show 0+(i*sz+off)=off+i*sz by omega])).app (us:=v4) (es:=rows.flatten.drop (i*sz+off+ds.length)) (cs:=y4) (by rw[af,Ui,hle];rwa[Ui,X5,fX]at s4);rw[<-hfs]at hF;have Wt:∀b∈((y1++b2)++y4),Θ b=0:=by
      intro b hb;simp only[aJ]at hb;rcases hb with(hb|hb)|hb
      ·exact hA.zero b (by rw[ey];simp[hb])
      ·exact Hy b hb
      ·exact hA.zero b (by rw[ey];simp[hb])
     refine⟨_,_,_,hk,yp,hF.over k Wt,?_,fun b hb=>?_⟩
     all_goals rw[ey]at p1 p2
     all_goals obtain⟨m1,m2,m3⟩:=aY.1 p1
     all_goals obtain⟨m4,m5,m6⟩:=aY.1 m2
     ·refine aY.2 ⟨aY.2 ⟨m1,q1,fun x hx y hy e=>?_⟩,m5,fun x hx y hy e=>?_⟩
      ·subst e;obtain⟨m,hm,he⟩:=q2 x hy;have:=p2 x (by simp[hx]);exact hid (by
        have:id=m:=by omega
        rw[this];exact hm)
      ·subst e;rcases aJ.1 hx with hx|hx
       ·exact m3 x hx x (by simp[hy]) rfl
       ·obtain⟨m,hm,he⟩:=q2 x hx;have:=p2 x (by simp[hy]);exact hid (by
         have:id=m:=by omega
         rw[this];exact hm)
     ·simp only[aJ]at hb;rcases hb with(hb|hb)|hb
      ·exact .inl (p2 b (by simp[hb]))
      ·exact .inr (q2 b hb)
      ·exact .inl (p2 b (by simp[hb]))
end
end Go.Cx
