/- The core of an abstract reading of Go's data: what a value shows in memory (D), which blocks it uses, and that this stays where those blocks stay. No condition; plain lemmas. -/
import Derived.WalkKit
import Derived.ProofKit
import Derived.Deep.LoopGhost
import Derived.MapKept
import Derived.Great.BuildSlice
import Derived.Maps.AppendAt
set_option linter.unusedVariables false
set_option linter.unusedSimpArgs false
namespace Go.Cx
open Go.RowKit
set_option linter.defProp false
def aA:=@Option.bind_some
def aB:=@List.getElem?_eq_some_iff
def aE:=@List.mem_of_getElem?
def aH:=@List.mem_append
def aK:=@cond_true
def aN:=@Bool.and_eq_true
def aO:=@List.length_cons
def aP:=@cond_false
def aQ:=@List.all_eq_true
def aR:=@List.getElem?_eq_getElem
def aS:=@Option.some.injEq
def aV:=@List.getElem?_append_left
def aX:=@Array.getElem?_eq_some_iff
def aY:=@List.getElem?_append_right
def af:=@List.length_append
def ai:=@if_neg
def aq:=@List.nodup_append
def ar:=@List.map_append
def au:=@List.mem_cons
def av:=@if_pos
def az:=@List.length_map
def b8:=@List.map_cons
def bB:=@List.mem_range
def bC:=@List.mem_of_mem_take
def bD:=@List.map_drop
def bG:=@List.map_take
def bH:=@List.length_nil
def bI:=@List.mem_flatMap
def bJ:=@decide_eq_true_eq
def bK:=@List.length_take
def bM:=@Nat.le_refl
def bO:=@List.getElem?_set_ne
def bP:=@Bool.eq_iff_iff
def bQ:=@List.mem_filterMap
def bR:=@List.take_append_drop
def bS:=@List.getElem?_map
def bU:=@Array.getD_eq_getD_getElem?
def bV:=@List.map_nil
def bW:=@decide_eq_true
def bX:=@Bool.not_true
def bZ:=@List.getElem?_eq_none
def bf:=@Array.getElem?_eq_getElem
def bg:=@List.getElem?_take
def bn:=@of_decide_eq_true
def bp:=@Option.map_some
def bq:=@Prod.mk.injEq
def cA:=@decide_eq_false
def cD:=@beq_iff_eq
def cF:=@List.eq_nil_of_length_eq_zero
def cG:=@List.mem_map
def cK:=@Nat.lt_of_lt_of_le
def cL:=@List.any_eq_true
def cM:=@List.mem_of_mem_drop
def cO:=@List.mem_singleton
def cP:=@Nat.zero_add
def cR:=@Nat.add_sub_cancel_left
def cS:=@Classical.byContradiction
def cT:=@List.getElem?_set_self
def cV:=@List.mem_reverse
def cZ:=@beq_eq_false_iff_ne
def cg:=@Nat.lt_or_ge
def cm:=@List.all_cons
def cq:=@List.mem_iff_getElem
def cr:=@Nat.mul_le_mul_right
def cu:=@Option.isSome_iff_exists
def cy:=@List.flatMap_cons
def cz:=@List.nodup_cons
def dB:=@List.getElem?_drop
def dM:=@List.append_nil
def dN:=@Nat.min_eq_left
def dO:=@List.flatten_cons
def dW:=@List.getElem?_toArray
def dZ:=@Nat.le_trans
def dw:=@List.drop_left'
def eA:=@List.mem_filter
def eB:=@Array.getElem?_append_left
def eC:=@List.drop_drop
def eD:=@List.eq_nil_iff_forall_not_mem
def eE:=@List.mem_flatten
def eP:=@List.append_assoc
def eR:=@List.getElem?_set
def eZ:=@Bool.not_false
def ec:=@Array.toList_map
def ew:=@Option.mem_toList
def fL:=@List.take_left'
def fZ:=@List.flatten_append
def fc:=@List.take_succ_cons
def fe:=@Nat.mul_le_mul_left
def fw:=@Array.getElem?_toList
def gQ:=@Array.toArray_toList
def gR:=@List.getElem?_cons_succ
def gS:=@List.getElem?_of_mem
def gT:=@Nat.add_mul
def gl:=@Nat.add_assoc
def gr:=@List.getD_eq_getElem?_getD
def gu:=@List.take_of_length_le
def iE:=@Array.toList_append
def iF:=@List.map_congr_left
def iP:=@Bool.or_eq_true
def iQ:=@List.nil_append
def ia:=@List.length_singleton
def ig:=@List.pairwise_cons
def j9:=@Bool.true_and
def jA:=@List.length_erase_of_mem
def jF:=@List.getLast?_concat
def jG:=@Nat.one_mul
def jT:=@Bool.not_eq_true'
def jU:=@Option.bind_eq_some_iff
def jv:=@List.length_drop
def jw:=@List.map_toArray
def jx:=@beq_self_eq_true
def kL:=@Nat.le_of_ble_eq_true
def kM:=@if_true
def kO:=@Array.mapM_eq_mapM_toList
def kS:=@List.length_set
def kX:=@List.ext_getElem?
def lM:=@Array.toList_inj
def lN:=@List.cons_append
def lP:=@decide_eq_false_iff_not
def lZ:=@Array.getElem?_eq_none
def ld:=@Ne.symm
def mE:=@Option.some.inj
def mQ:=@Bool.false_or
def nA:=@List.take_take
def nB:=@Nat.pow_le_pow_right
def nO:=@List.take_length
def nP:=@Nat.sub_self
def nQ:=@Option.getD_some
def nc:=@List.exists_mem_of_ne_nil
def ng:=@List.mem_or_eq_of_mem_set
def nj:=@Array.length_toList
def ny:=@Bool.or_false
def o4:=@List.cons.inj
def o5:=@List.getElem?_take_of_lt
def oM:=@Array.all_eq_true'
def oN:=@Nat.lt_or_gt_of_ne
def oo:=@List.length_pos_of_mem
def oq:=@List.size_toArray
def ot:=@Nat.lt_trichotomy
def pM:=@Array.getElem?_modify
def pN:=@List.concat_eq_append
def pO:=@List.eq_nil_or_concat
def pP:=@List.set_append_right
def pV:=@Bool.not_eq_true
def pW:=@List.getElem_mem
def qE:=@List.Pairwise.filter
def qZ:=@List.foldl_cons
def qc:=@Nat.not_lt_zero
def qd:=@Option.map_none
def qn:=@List.filterMap_cons
def rA:=@Nat.add_zero
def rB:=@Nat.pow_succ
def rS:=@Array.getElem_append_right
def rT:=@Bool.false_eq_true
def rU:=@List.filter_filter
def rV:=@Nat.add_sub_cancel
def rW:=@if_false
def rX:=@true_and
def sU:=@Array.getElem_append_left
def sV:=@List.drop_eq_getElem_cons
def sj:=@Int.toNat_natCast
def sn:=@List.filter_congr
def sr:=@Nat.zero_le
def tF:=@Bool.and_true
def tG:=@List.eq_of_mem_replicate
def tW:=@List.getElem?_cons_zero
def tX:=@List.nodup_range
def uR:=@Int.le_of_lt
def uS:=@Int.le_trans
def uT:=@List.drop_of_length_le
def uU:=@List.getElem_cons_drop
def uV:=@Nat.sub_zero
def uW:=@eq_iff_iff
def vB:=@Int.ediv_nonneg
def vJ:=@Bool.and_eq_false_iff
def vK:=@List.contains_iff_mem
def vL:=@List.length_replicate
def vM:=@List.pairwise_flatMap
def vN:=@List.singleton_append
def vO:=@UInt8.lt_iff_toNat_lt
def vp:=@List.mapM_cons
def yz:=@List.all_map
def z6:=@Nat.mul_comm
def AV:=@not_or
abbrev Bytes:=List UInt8
inductive D where
 |any
 |nil
 |int (k:IntKind) (n:Int)
 |bool (b:Bool)
 |str (s:Bytes)
 |sl (rows:List (List D))
 |agg (cells:List D)
 |gj (vs:List D)
 |ep (row:List D) (off:Nat)
 |acc (id:Nat)
 |ptr (id off:Nat)
 |op (id i sz off:Nat)
 |val (v:Value)
 |fr (e:TypeId) (sz:Nat) (rows:List (List D))
 |fs (e:TypeId) (sz:Nat) (rows:List (List D))
 |pt (cells:List D)
 |P7 (b:Bool)
def nk(k:IntKind)(n:Int):Prop:=k.min<=n/\n<=k.max
instance (k:IntKind) (n:Int):Decidable (nk k n):=by unfold nk;infer_instance
theorem nk.wrap(k:IntKind)(n:Int):nk k (k.wrap n):=by
 unfold nk;cases k<;>simp[IntKind.min,IntKind.max,IntKind.wrap,IntKind.bits,IntKind.signed]<;>(try split)<;>omega
theorem nk.i64{n:Int}:nk .i64 n↔ -9223372036854775808<=n/\n<=9223372036854775807:=by
 simp[nk,IntKind.min,IntKind.max,IntKind.bits,IntKind.signed]
theorem nk.u8{n:Int}:nk .u8 n↔0<=n/\n<=255:=by
 simp[nk,IntKind.min,IntKind.max,IntKind.bits,IntKind.signed]
theorem nk.zero(k:IntKind):nk k 0:=by
 unfold nk;cases k<;>simp[IntKind.min,IntKind.max,IntKind.bits,IntKind.signed]
theorem nk.down{k:IntKind}{n m:Int}(h:nk k n)(h0:0<=m)(h1:m<=n):nk k m:=
 ⟨uS (nk.zero k).1 h0,uS h1 h.2⟩
mutual
inductive Rd(w:World):Value->D->List Nat->Prop
 |any (v:Value):Rd w v .any []
 |nil:Rd w (.slice none 0 0) .nil []
 |int (k:IntKind) (n:Int):nk k n->Rd w (.int k n) (.int k n) []
 |bool (b:Bool):Rd w (.bool b) (.bool b) []
 |str (s:ByteArray):s.size<=maxLen->Rd w (.string s) (.str s.data.toList) []
 |val (v:Value):Rd w v (.val v) []
 |qz:Rd w (.slice none 0 0) (.sl []) []
 |jo (a:Addr) (cap:Nat):cap<=maxLen->Rd w (.slice (some a) 0 cap) (.sl []) []
 |sl (b off cap sz:Nat) (rows:List (List D)) (cs:List Value) (bs:List Nat):b<w.heap.size->rows.length<=cap->cap<=maxLen->
  (∀r∈rows,r.length=sz)->(∀j c,cs[j]?=some c->w.cell? ⟨b,off+j,none⟩=some c)->iT w cs rows.flatten bs->
  Rd w (.slice (some ⟨b,off,none⟩) rows.length cap) (.sl rows) (b::bs)
 |agg (cs:List Value) (ds:List D) (bs:List Nat):iT w cs ds bs->Rd w (.agg cs.toArray) (.agg ds) bs
 |ep (b off:Nat) (cs:List Value) (row:List D) (o:Nat) (bs:List Nat):b<w.heap.size->(∀j c,cs[j]?=some c->w.cell? ⟨b,off+j,none⟩=some c)->
  iT w cs row bs->Rd w (.pointer (some ⟨b,off+o,none⟩)) (.ep row o) (b::bs)
 |JF:Rd w .nilIface (.P7 false) []
 |JG (t:TypeId) (v:Value):Rd w (.iface t v) (.P7 true) []
inductive iT(w:World):List Value->List D->List Nat->Prop
 |nil:iT w [] [] []
 |cons (v:Value) (vs:List Value) (d:D) (ds:List D) (b1 b2:List Nat):v.oneCell'=true->Rd w v d b1->iT w vs ds b2->iT w (v::vs) (d::ds) (b1++b2)
end
section
variable{w w':World}
theorem tY{b o:Nat}(h:w'.heap[b]?=w.heap[b]?):w'.cell? ⟨b,o,none⟩=w.cell? ⟨b,o,none⟩:=World.cell?_of_block (a:=⟨b,o,none⟩) h
theorem zn{b:Nat}(hb:b<w.heap.size)(h:w'.heap[b]?=w.heap[b]?):b<w'.heap.size:=by
 rw[bf hb]at h;exact(aX.1 h).1
theorem DY:
 (∀ {v d bs},Rd w v d bs->(∀b∈bs,w'.heap[b]?=w.heap[b]?)->Rd w' v d bs)/\
 (∀ {vs ds bs},iT w vs ds bs->(∀b∈bs,w'.heap[b]?=w.heap[b]?)->iT w' vs ds bs):=by
 have key:∀(m1:∀v d bs,Rd w v d bs->Prop) (m2:∀vs ds bs,iT w vs ds bs->Prop),
  m1=(fun v d bs _=>(∀b∈bs,w'.heap[b]?=w.heap[b]?)->Rd w' v d bs)->m2=(fun vs ds bs _=>(∀b∈bs,w'.heap[b]?=w.heap[b]?)->iT w' vs ds bs)->
  (∀v d bs h,m1 v d bs h)/\(∀vs ds bs h,m2 vs ds bs h):=by
  intro m1 m2 e1 e2;subst e1;subst e2;constructor
  all_goals intro v d bs h
  ·refine Rd.rec (motive_1:=fun v d bs _=>(∀b∈bs,w'.heap[b]?=w.heap[b]?)->Rd w' v d bs) (motive_2:=fun vs ds bs _=>(∀b∈bs,w'.heap[b]?=w.heap[b]?)->iT w' vs ds bs) ?_ ?_ ?_ ?_ ?_ ?_ ?_ ?_ ?_ ?_ ?_ ?_ ?_ ?_ ?_ h
   ·intro v _;exact .any _
   ·intro _;exact .nil
   ·intro k n h _;exact .int _ _ h
   ·intro b _;exact .bool _
   ·intro s h _;exact .str _ h
   ·intro v _;exact .val _
   ·intro _;exact .qz
   ·intro a cap h _;exact .jo a cap h
   ·intro b off cap sz rows cs bs h0 h1 h2 h3 h4 _ ih hb;exact .sl b off cap sz rows cs bs (zn h0 (hb b (by simp))) h1 h2 h3 (fun j c hc=>(tY (hb b (by simp))).trans (h4 j c hc)) (ih (fun x hx=>hb x (by simp[hx])))
   ·intro cs ds bs _ ih hb;exact .agg cs ds bs (ih hb)
   ·intro b off cs row o bs h0 h4 _ ih hb;exact .ep b off cs row o bs (zn h0 (hb b (by simp))) (fun j c hc=>(tY (hb b (by simp))).trans (h4 j c hc)) (ih (fun x hx=>hb x (by simp[hx])))
   ·intro _;exact .JF
   ·intro t v _;exact .JG t v
   ·intro _;exact .nil
   ·intro v vs d ds b1 b2 h1 _ _ ih1 ih2 hb;exact .cons v vs d ds b1 b2 h1 (ih1 (fun x hx=>hb x (by simp[hx]))) (ih2 (fun x hx=>hb x (by simp[hx])))
  ·refine iT.rec (motive_1:=fun v d bs _=>(∀b∈bs,w'.heap[b]?=w.heap[b]?)->Rd w' v d bs) (motive_2:=fun vs ds bs _=>(∀b∈bs,w'.heap[b]?=w.heap[b]?)->iT w' vs ds bs) ?_ ?_ ?_ ?_ ?_ ?_ ?_ ?_ ?_ ?_ ?_ ?_ ?_ ?_ ?_ h
   ·intro v _;exact .any _
   ·intro _;exact .nil
   ·intro k n h _;exact .int _ _ h
   ·intro b _;exact .bool _
   ·intro s h _;exact .str _ h
   ·intro v _;exact .val _
   ·intro _;exact .qz
   ·intro a cap h _;exact .jo a cap h
   ·intro b off cap sz rows cs bs h0 h1 h2 h3 h4 _ ih hb;exact .sl b off cap sz rows cs bs (zn h0 (hb b (by simp))) h1 h2 h3 (fun j c hc=>(tY (hb b (by simp))).trans (h4 j c hc)) (ih (fun x hx=>hb x (by simp[hx])))
   ·intro cs ds bs _ ih hb;exact .agg cs ds bs (ih hb)
   ·intro b off cs row o bs h0 h4 _ ih hb;exact .ep b off cs row o bs (zn h0 (hb b (by simp))) (fun j c hc=>(tY (hb b (by simp))).trans (h4 j c hc)) (ih (fun x hx=>hb x (by simp[hx])))
   ·intro _;exact .JF
   ·intro t v _;exact .JG t v
   ·intro _;exact .nil
   ·intro v vs d ds b1 b2 h1 _ _ ih1 ih2 hb;exact .cons v vs d ds b1 b2 h1 (ih1 (fun x hx=>hb x (by simp[hx]))) (ih2 (fun x hx=>hb x (by simp[hx])))
 obtain⟨k1,k2⟩:=key _ _ rfl rfl;exact⟨fun h=>k1 _ _ _ h,fun h=>k2 _ _ _ h⟩
theorem Rd.keep{v:Value}{d:D}{bs:List Nat}(h:Rd w v d bs)(hb:∀b∈bs,w'.heap[b]?=w.heap[b]?):Rd w' v d bs:=DY.1 h hb
theorem iT.keep{vs:List Value}{ds:List D}{bs:List Nat}(h:iT w vs ds bs)(hb:∀b∈bs,w'.heap[b]?=w.heap[b]?):iT w' vs ds bs:=DY.2 h hb
theorem Rd.lt{v:Value}{d:D}{bs:List Nat}(h:Rd w v d bs):∀b∈bs,b<w.heap.size:=by
 refine Rd.rec (motive_1:=fun v d bs _=>∀b∈bs,b<w.heap.size) (motive_2:=fun vs ds bs _=>∀b∈bs,b<w.heap.size) ?_ ?_ ?_ ?_ ?_ ?_ ?_ ?_ ?_ ?_ ?_ ?_ ?_ ?_ ?_ h
 case refine_9=>
  intro b off cap sz rows cs bs h0 h1 h2 h3 h4 _ ih x hx;rcases au.1 hx with rfl|hx
  ·exact h0
  ·exact ih x hx
 case refine_10=>intro cs ds bs _ ih;exact ih
 case refine_11=>
  intro b off cs row o bs h0 h4 _ ih x hx;rcases au.1 hx with rfl|hx
  ·exact h0
  ·exact ih x hx
 case refine_15=>
  intro v vs d ds b1 b2 h1 _ _ ih1 ih2 x hx;rcases aH.1 hx with hx|hx
  ·exact ih1 x hx
  ·exact ih2 x hx
 all_goals intros;simp_all
theorem iT.lt{vs:List Value}{ds:List D}{bs:List Nat}(h:iT w vs ds bs):∀b∈bs,b<w.heap.size:=by
 induction ds generalizing vs bs with
 |nil=>cases h;simp
 |cons d ds ih=>
  cases h with
  |cons v vs _ _ b1 b2 h1 h2 h3=>
   intro x hx;rcases aH.1 hx with hx|hx
   ·exact h2.lt x hx
   ·exact ih h3 x hx
theorem iT.length{vs:List Value}{ds:List D}{bs:List Nat}(h:iT w vs ds bs):vs.length=ds.length:=by
 induction ds generalizing vs bs with
 |nil=>cases h;rfl
 |cons d ds ih=>cases h with|cons v vs _ _ b1 b2 h1 h2 h3=>simp[ih h3]
theorem iT.one{vs:List Value}{ds:List D}{bs:List Nat}(h:iT w vs ds bs):∀v∈vs,v.oneCell'=true:=by
 induction ds generalizing vs bs with
 |nil=>cases h;simp
 |cons d ds ih=>
  cases h with
  |cons v vs _ _ b1 b2 h1 h2 h3=>
   intro u hu;rcases au.1 hu with rfl|hu
   ·exact h1
   ·exact ih h3 u hu
theorem iT.app{vs us:List Value}{ds es:List D}{bs cs:List Nat}(h:iT w vs ds bs)(k:iT w us es cs):iT w (vs++us) (ds++es) (bs++cs):=by
 induction ds generalizing vs bs with
 |nil=>cases h;simpa using k
 |cons d ds ih=>
  cases h with
  |cons v vs _ _ b1 b2 h1 h2 h3=>
   rw[eP];exact .cons _ _ _ _ _ _ h1 h2 (ih h3)
theorem iT.split{vs:List Value}{ds es:List D}{bs:List Nat}(h:iT w vs (ds++es) bs):
 ∃v1 v2 b1 b2,vs=v1++v2/\bs=b1++b2/\iT w v1 ds b1/\iT w v2 es b2:=by
 induction ds generalizing vs bs with
 |nil=>exact⟨[],vs,[],bs,by simp,by simp,.nil,h⟩
 |cons d ds ih=>
  cases h with
  |cons v vs _ _ b1 b2 h1 h2 h3=>
   obtain⟨v1,v2,c1,c2,rfl,rfl,k1,k2⟩:=ih h3;exact⟨v::v1,v2,b1++c1,c2,by simp,by simp,.cons _ _ _ _ _ _ h1 h2 k1,k2⟩
theorem iT.mid{vs:List Value}{ds:List D}{bs:List Nat}(h:iT w vs ds bs)(i n:Nat):
 ∃b,iT w ((vs.drop i).take n) ((ds.drop i).take n) b/\∀x∈b,x∈bs:=by
 have e:ds=ds.take i++((ds.drop i).take n++(ds.drop i).drop n):=by rw[bR,bR]
 rw[e]at h;obtain⟨v1,v2,b1,b2,rfl,rfl,k1,k2⟩:=h.split;obtain⟨v3,v4,b3,b4,rfl,rfl,k3,k4⟩:=k2.split;refine⟨b3,?_,by intro x hx;simp[hx]⟩;have l1:=k1.length;have l3:=k3.length;by_cases hi:i<=ds.length
 ·have h1:v1.length=i:=by rw[l1];simp[hi]
  rw[dw h1];by_cases hn:n<=(ds.drop i).length
  ·have h3:v3.length=n:=by rw[l3,bK];omega
   rw[fL h3];exact k3
  ·have h4:v4.length=0:=by rw[k4.length];simp at hn⊢;omega
   have h4':v4=[]:=cF h4;subst h4';have h3:v3.length<=n:=by rw[l3,bK];omega
   simp only[dM];rw[gu h3];exact k3
 ·have h5:ds.drop i=[]:=List.drop_eq_nil_of_le (by omega);rw[h5]at k3 k4⊢;simp only[List.take_nil,List.drop_nil]at k3 k4⊢;cases k3;cases k4;have h1:v1.length<=i:=by rw[l1];simp;omega
  simp[uT h1];exact .nil
theorem iT.at{vs:List Value}{ds:List D}{bs:List Nat}(h:iT w vs ds bs){i:Nat}{d:D}(hd:ds[i]?=some d):
 ∃v b,vs[i]?=some v/\v.oneCell'=true/\Rd w v d b/\∀x∈b,x∈bs:=by
 induction ds generalizing vs bs i with
 |nil=>simp at hd
 |cons e ds ih=>
  cases h with
  |cons v vs _ _ b1 b2 h1 h2 h3=>
   cases i with
   |zero=>simp at hd;subst hd;exact⟨v,b1,by simp,h1,h2,by intro x hx;simp[hx]⟩
   |succ i=>
    simp at hd;obtain⟨u,b,k1,k2,k3,k4⟩:=ih h3 hd;exact⟨u,b,by simpa using k1,k2,k3,fun x hx=>by simp[k4 x hx]⟩
end
theorem jN{α:Type}{rows:List (List α)}{sz:Nat}(h:∀r∈rows,r.length=sz):rows.flatten.length=rows.length*sz:=by
 induction rows with
 |nil=>simp
 |cons r rows ih=>
  simp only[dO,af,aO];rw[ih (fun x hx=>h x (by simp[hx])),h r (by simp),gT];omega
theorem wS{α:Type}{rows:List (List α)}{sz:Nat}(h:∀r∈rows,r.length=sz){i:Nat}{r:List α}(hr:rows[i]?=some r):
 (rows.flatten.drop (i*sz)).take sz=r:=by
 induction rows generalizing i with
 |nil=>simp at hr
 |cons s rows ih=>
  have hs:=h s (by simp);cases i with
  |zero=>
   simp at hr;subst hr;simp only[Nat.zero_mul,List.drop_zero,dO];exact fL hs
  |succ i=>
   simp only[gR]at hr;have:=ih (fun x hx=>h x (by simp[hx])) hr;rw[dO,gT,jG,Nat.add_comm,<-eC,dw hs];exact this
def BK(e:TypeId):Option (Nat×Nat×TypeId×Nat):=none
def ol(e:TypeId)(i:Nat):Option (TypeId×Nat):=match BK e with
 |some (m,off,t)=>if i%m=off then some t else none
 |none=>none
def Kh(e:TypeId)(sz:Nat):Bool:=match BK e with
 |some (m,_,_)=>m==sz
 |none=>true
theorem u7{e:TypeId}(h:BK e=none)(i:Nat):ol e i=none:=by simp[ol,h]
theorem Ge{e:TypeId}{sz:Nat}(h:Kh e sz=true)(i n:Nat):ol e (i+n*sz)=ol e i:=by
 unfold ol;unfold Kh at h;cases hf:BK e with
 |none=>rfl
 |some x=>
  obtain⟨m,off,t⟩:=x;rw[hf]at h;have e1:m=sz:=by simpa using h
  subst e1;simp only[Nat.add_mul_mod_self_right]
section
variable{w w':World}
def BF(w:World)(t:TypeId×Nat)(v:Value)(d:D)(bs:List Nat):Prop:=
 (d=.any/\bs=[])\/∃rows cs ns,d=.sl rows/\0<t.2/\(∀r∈rows,r.length=t.2)/\w.ownsRow 0 t.1 t.2 v rows.length cs/\iT w cs rows.flatten ns/\bs=v.ownBlock.toList++ns
theorem A5{e:TypeId}{sz n:Nat}{v:Value}{cs:List Value}(h:w.ownsRow 0 e sz v n cs)(hb:∀g,v.ownBlock=some g->w'.heap[g]?=w.heap[g]?):w'.ownsRow 0 e sz v n cs:=by
 refine⟨h.1,?_⟩;rcases h.2 with hn|⟨g,cap,cur,rfl,h1,h2,rest⟩
 ·exact .inl hn
 ·exact .inr ⟨g,cap,cur,rfl,h1,(hb g (by simp[Value.ownBlock])).trans h2,rest⟩
theorem BF.keep{t:TypeId×Nat}{v:Value}{d:D}{bs:List Nat}(h:BF w t v d bs)(hb:∀b∈bs,w'.heap[b]?=w.heap[b]?):BF w' t v d bs:=by
 rcases h with h|⟨rows,cs,ns,rfl,h1,h2,h3,h4,rfl⟩
 ·exact .inl h
 ·exact .inr ⟨rows,cs,ns,rfl,h1,h2,A5 h3 (fun g hg=>hb g (by simp[hg])),h4.keep (fun b hx=>hb b (by simp[hx])),rfl⟩
inductive qG(w:World)(f:Nat->Option (TypeId×Nat)):Nat->List Value->List D->List Nat->Prop
 |nil (i:Nat):qG w f i [] [] []
 |cons (i:Nat) (v:Value) (vs:List Value) (d:D) (ds:List D) (b1 b2:List Nat):v.oneCell'=true->Rd w v d b1->(∀t,f i=some t->BF w t v d b1)->qG w f (i+1) vs ds b2->qG w f i (v::vs) (d::ds) (b1++b2)
variable{f:Nat->Option (TypeId×Nat)}
theorem qG.rd{i:Nat}{vs:List Value}{ds:List D}{bs:List Nat}(h:qG w f i vs ds bs):iT w vs ds bs:=by
 induction ds generalizing vs bs i with
 |nil=>cases h;exact .nil
 |cons d ds ih=>cases h with|cons _ v vs _ _ b1 b2 h1 h2 _ h3=>exact .cons _ _ _ _ _ _ h1 h2 (ih h3)
theorem qG.of{i:Nat}{vs:List Value}{ds:List D}{bs:List Nat}(h:iT w vs ds bs)(hf:∀j,f j=none):qG w f i vs ds bs:=by
 induction ds generalizing vs bs i with
 |nil=>cases h;exact .nil _
 |cons d ds ih=>cases h with|cons v vs _ _ b1 b2 h1 h2 h3=>exact .cons _ _ _ _ _ _ _ h1 h2 (fun t ht=>by rw[hf]at ht;cases ht) (ih h3)
theorem qG.keep{i:Nat}{vs:List Value}{ds:List D}{bs:List Nat}(h:qG w f i vs ds bs)(hb:∀b∈bs,w'.heap[b]?=w.heap[b]?):qG w' f i vs ds bs:=by
 induction ds generalizing vs bs i with
 |nil=>cases h;exact .nil _
 |cons d ds ih=>
  cases h with
  |cons _ v vs _ _ b1 b2 h1 h2 h4 h3=>
   exact .cons _ _ _ _ _ _ _ h1 (h2.keep (fun b hx=>hb b (by simp[hx]))) (fun t ht=>(h4 t ht).keep (fun b hx=>hb b (by simp[hx]))) (ih h3 (fun b hx=>hb b (by simp[hx])))
theorem qG.lt{i:Nat}{vs:List Value}{ds:List D}{bs:List Nat}(h:qG w f i vs ds bs):∀b∈bs,b<w.heap.size:=h.rd.lt
theorem qG.length{i:Nat}{vs:List Value}{ds:List D}{bs:List Nat}(h:qG w f i vs ds bs):vs.length=ds.length:=h.rd.length
theorem qG.app{i:Nat}{vs us:List Value}{ds es:List D}{bs cs:List Nat}(h:qG w f i vs ds bs)(k:qG w f (i+ds.length) us es cs):qG w f i (vs++us) (ds++es) (bs++cs):=by
 induction ds generalizing vs bs i with
 |nil=>cases h;simpa using k
 |cons d ds ih=>
  cases h with
  |cons _ v vs _ _ b1 b2 h1 h2 h4 h3=>
   rw[eP];exact .cons _ _ _ _ _ _ _ h1 h2 h4 (ih h3 (by rw[aO]at k;rwa[show i+1+ds.length=i+(ds.length+1)by omega]))
theorem qG.split{i:Nat}{vs:List Value}{ds es:List D}{bs:List Nat}(h:qG w f i vs (ds++es) bs):
 ∃v1 v2 b1 b2,vs=v1++v2/\bs=b1++b2/\qG w f i v1 ds b1/\qG w f (i+ds.length) v2 es b2:=by
 induction ds generalizing vs bs i with
 |nil=>exact⟨[],vs,[],bs,by simp,by simp,.nil _,h⟩
 |cons d ds ih=>
  cases h with
  |cons _ v vs _ _ b1 b2 h1 h2 h4 h3=>
   obtain⟨v1,v2,c1,c2,rfl,rfl,k1,k2⟩:=ih h3;exact⟨v::v1,v2,b1++c1,c2,by simp,by simp,.cons _ _ _ _ _ _ _ h1 h2 h4 k1,by rw[aO];rwa[show i+(ds.length+1)=i+1+ds.length by omega]⟩
theorem qG.at_{i k:Nat}{vs:List Value}{ds:List D}{bs:List Nat}(h:qG w f i vs ds bs)(hf:∀j,f (k+j)=f (i+j)):qG w f k vs ds bs:=by
 induction ds generalizing vs bs i k with
 |nil=>cases h;exact .nil _
 |cons d ds ih=>
  cases h with
  |cons _ v vs _ _ b1 b2 h1 h2 h4 h3=>
   exact .cons _ _ _ _ _ _ _ h1 h2 (fun t ht=>h4 t ((hf 0).symm.trans ht)) (ih h3 fun j=>by rw[gl,gl];exact hf (1+j))
theorem qG.rows{e:TypeId}{sz i n:Nat}{vs:List Value}{ds:List D}{bs:List Nat}(hk:Kh e sz=true)(h:qG w (ol e) i vs ds bs):qG w (ol e) (i+n*sz) vs ds bs:=
 h.at_ fun j=>by rw[show i+n*sz+j=(i+j)+n*sz by omega];exact Ge hk _ _
end
end Go.Cx
namespace Go.Cx
open Go.RowKit
abbrev aD:=List Bytes
abbrev aG:=List D
abbrev aI:=List Nat
abbrev b9:=List Value
abbrev bw:=List Int
def qV:List (Nat×(b9->Prop)):=[(3,fun cs:b9=>cs=[.int .u64 1,.int .u64 10,.int .u64 100,.int .u64 1000,.int .u64 10000,.int .u64 100000,.int .u64 1000000,.int .u64 10000000,.int .u64 100000000,.int .u64 1000000000,.int .u64 10000000000,.int .u64 100000000000,.int .u64 1000000000000,.int .u64 10000000000000,.int .u64 100000000000000,.int .u64 1000000000000000,.int .u64 10000000000000000,.int .u64 100000000000000000,.int .u64 1000000000000000000,.int .u64 10000000000000000000]),(1,fun cs:b9=>∃tp p,cs=[Value.iface tp p])]
def SA(w:World)(B:Nat->Prop):Prop:=∀x∈qV,B x.1/\∃cs t z,w.heap[x.1]?=some (.cells cs t z)/\x.2 cs.toList
def D1(w:World)(X:Nat->Prop):Prop:=∃B:Nat->Prop,SA w B/\∀b,B b->b<w.heap.size/\¬X b
def Ep:List (Nat×aG):=[]
def Og(g:Nat)(ds:aG):Prop:=∃p,(g,p)∈qV/\∀cs:b9,p cs->∀(o:Nat) d,ds[o]?=some d->∃v,cs[o]?=some v/\∀w,Rd w v d []
theorem Hg:∀x∈Ep,Og x.1 x.2:=by intro x hx;cases hx
def Io(g o:Nat):Option D:=(Ep.find? fun x=>x.1==g).bind fun x=>x.2[o]?
theorem Mk{g o:Nat}{d:D}(h:Io g o=some d):∃ds,Og g ds/\ds[o]?=some d:=by
 unfold Io at h;cases hf:Ep.find? fun x=>x.1==g with
 |none=>rw[hf]at h;cases h
 |some x=>
  rw[hf,aA]at h;have h1:=List.find?_some hf;have h2:=List.mem_of_find?_eq_some hf;have e:x.1=g:=by simpa using h1
  exact⟨x.2,by rw[<-e];exact Hg x h2,h⟩
theorem SA.stays{w w':World}{B:Nat->Prop}(h:SA w B)(hb:∀b,B b->w'.heap[b]?=w.heap[b]?):SA w' B:=fun x hx=>by
 obtain⟨h1,cs,t,z,h2,h3⟩:=h x hx;exact⟨h1,cs,t,z,by rw[hb _ h1,h2],h3⟩
theorem D1.cells{w:World}{X:Nat->Prop}(h:D1 w X){g:Nat}{p:b9->Prop}(hx:(g,p)∈qV):∃cs t z,w.heap[g]?=some (.cells cs t z)/\p cs.toList:=by
 obtain⟨B,h1,h2⟩:=h;exact(h1 _ hx).2
theorem D1.var{P:Program}{w:World}{X:Nat->Prop}(h:D1 w X){g:Nat}{p:b9->Prop}{name:String}(hx:(g,p)∈qV)(hg:P.globalNamed name=some g):∃cs,w.var? P name=some cs/\p cs.toList:=by
 obtain⟨cs,t,z,h1,h2⟩:=h.cells hx;refine⟨cs,?_,h2⟩;unfold World.var?;rw[hg,aA,h1]
theorem D1.RE{P:Program}{w:World}(hs:∀x∈qV,∃name cs,P.globalNamed name=some x.1/\w.var? P name=some cs/\x.2 cs.toList):D1 w fun _=>False:=by
 refine⟨fun b=>b∈qV.map Prod.fst,fun x hx=>?_,fun b hb=>?_⟩
 ·obtain⟨name,cs,h1,h2,h3⟩:=hs x hx;unfold World.var? at h2;rw[h1,aA]at h2;refine⟨cG.2 ⟨x,hx,rfl⟩,?_⟩;split at h2
  ·rename_i cs' t z h4;cases h2;exact⟨_,t,z,h4,h3⟩
  ·cases h2
 ·obtain⟨x,hx,rfl⟩:=cG.1 hb;obtain⟨name,cs,h1,h2,h3⟩:=hs x hx;unfold World.var? at h2;rw[h1,aA]at h2;refine⟨?_,id⟩;split at h2
  ·rename_i cs' t z h4;exact(aX.1 h4).1
  ·cases h2
end Go.Cx
namespace Go.Cx
open Go.RowKit
structure oK where
 W0:World
 Θ0:Nat->Nat
 X:Nat->Prop
 nt:Nat
 U:Nat->Prop
 vs:D1 W0 X
inductive RK where
 |sh
 |uq
 |cl
 |mv (n:Nat)
 |ho (p n:Nat)
def RK.EZ:RK->Bool
 | .cl=>false
 |_=>true
def RK.ub:RK->Bool
 | .uq=>true
 | .ho _ _=>true
 |_=>false
def RK.hand:RK->Bool
 | .sh=>true
 | .uq=>true
 |_=>false
inductive Ob where
 |box (cells:aG)
 |AU (cells:aG) (v:Value)
 |row (k:RK) (e:TypeId) (sz:Nat) (rows:List aG)
 |pK (sz:Nat) (rows:List aG) (v:Option Value)
 |hole (sz:Nat) (rows:List aG) (v:Option Value) (p n:Nat)
 |mp (kv:List (D×D))
 |tk (rows:List aG)
 |tf (e:TypeId) (sz:Nat) (rows:List aG)
 |gone
def Ob.I5:Ob->Option aG
 | .box c=>some c
 | .AU c _=>some c
 |_=>none
def Ob.re(o:Ob)(c:aG):Ob:=match o with
 | .AU _ v=>.AU c v
 |_=>.box c
def IX(u:Value):Value:=match u with
 | .tuple ⟨[p,_]⟩=>p
 |u=>u
def wh(u:Value):Option Value:=match u with
 | .tuple ⟨[_,c]⟩=>some c
 |_=>none
def Ob.IR(o:Ob)(off:Nat):Bool:=match o with
 | .AU cells _=> !(cells.length==3)||Nat.ble 1 off
 |_=>true
structure St where
 σ:List (Nat×D)
 H:List Ob
def lk:List (Nat×D)->Nat->D
 | [],_=>.any
 | (t,d)::r,n=>if n=t then d else lk r n
def D.Fz:Value->D
 | .bool b=>.bool b
 | .int k n=>if nk k n then .int k n else .val (.int k n)
 | .string s=>if s.size<=maxLen then .str s.data.toList else .val (.string s)
 | .slice none 0 0=>.nil
 |v=>.val v
def St.ev(st:St):Operand->D
 | .tmp t=>lk st.σ t
 | .const v=>D.Fz v
 | .global g=>.val (.pointer (some ⟨g,0,none⟩))
 | .func f=>.val (.func (.func f) #[] #[])
def St.set(st:St)(t:Nat)(d:D):St:=⟨(t,d)::st.σ,st.H⟩
def St.put(st:St)(t:Option Nat)(d:D):St:=match t with|some t=>st.set t d|none=>st
inductive rD(w:World)(κ:Nat->Option Value):Value->D->List Nat->Prop
 |pure {v:Value} {d:D} {bs:aI}:Rd w v d bs->rD w κ v d bs
 |acc (id:Nat) (v:Value):κ id=some v->rD w κ v (.acc id) []
 |ptr (id off b:Nat):κ id=some (.pointer (some ⟨b,0,none⟩))->rD w κ (.pointer (some ⟨b,off,none⟩)) (.ptr id off) []
 |op (id i sz off b o0 len cap:Nat):κ id=some (.slice (some ⟨b,o0,none⟩) len cap)->rD w κ (.pointer (some ⟨b,o0+(i*sz+off),none⟩)) (.op id i sz off) []
inductive dQ(w:World)(κ:Nat->Option Value):List Value->List D->List Nat->Prop
 |nil:dQ w κ [] [] []
 |cons (v:Value) (vs:b9) (d:D) (ds:aG) (b1 b2:aI):v.oneCell'=true->rD w κ v d b1->dQ w κ vs ds b2->dQ w κ (v::vs) (d::ds) (b1++b2)
inductive C1(w:World)(κ:Nat->Option Value):Value->D->List Nat->Prop
 |cell {v:Value} {d:D} {bs:aI}:rD w κ v d bs->C1 w κ v d bs
 |agg (cs:b9) (ds:aG) (bs:aI):dQ w κ cs ds bs->C1 w κ (.agg cs.toArray) (.agg ds) bs
inductive uZ(w:World)(κ:Nat->Option Value):List Value->List D->List Nat->Prop
 |nil:uZ w κ [] [] []
 |cons (v:Value) (vs:b9) (d:D) (ds:aG) (b1 b2:aI):C1 w κ v d b1->uZ w κ vs ds b2->uZ w κ (v::vs) (d::ds) (b1++b2)
inductive lf(w:World)(κ:Nat->Option Value):Value->D->List Nat->Prop
 |v {v:Value} {d:D} {bs:aI}:C1 w κ v d bs->lf w κ v d bs
 |gj (vs:b9) (ds:aG) (bs:aI):uZ w κ vs ds bs->lf w κ (.tuple vs.toArray) (.gj ds) bs
theorem lf.of{w:World}{κ:Nat->Option Value}{v:Value}{d:D}{bs:aI}(h:Rd w v d bs):lf w κ v d bs:=.v (.cell (.pure h))
def Wr(w:World)(b:Nat):Prop:=∃cs T,w.heap[b]?=some (.cells cs T (0,0))
def QC(w:World)(κ:Nat->Option Value)(v:Value)(rows:List aG)(p n:Nat)(bs:aI):Prop:=
 ∃b off cap cs ns,v=.slice (some ⟨b,off,none⟩) rows.length cap/\b<w.heap.size/\rows.length<=cap/\cap<=maxLen/\(∀j c,cs[j]?=some c->w.cell? ⟨b,off+j,none⟩=some c)/\iT w cs rows.flatten ns/\bs=b::ns/\
  ∃c,cs[p]?=some c/\κ n=some c
def qo(w:World)(es:List MapEntry)(kv:List (D×D)):Prop:=
 es.length=kv.length/\∀(j:Nat) e p,es[j]?=some e->kv[j]?=some p->Rd w e.key p.1 []/\Rd w e.val p.2 []
theorem qo.stay{w w':World}{es:List MapEntry}{kv:List (D×D)}(h:qo w es kv):qo w' es kv:=
 ⟨h.1,fun j e p h1 h2=>⟨(h.2 j e p h1 h2).1.keep (by simp),(h.2 j e p h1 h2).2.keep (by simp)⟩⟩
def Kept(w:World)(κ:Nat->Option Value)(id:Nat)(u:Value):Prop:=
 ∀c,wh u=some c->∀g cs T,κ id=some (.pointer (some ⟨g,0,none⟩))->w.heap[g]?=some (.cells cs T (0,0))->cs.size=3/\cs[0]?=some c
theorem Kept.same{w w':World}{κ κ':Nat->Option Value}{id id':Nat}{u:Value}{g:Nat}{cs:Array Value}{T:TypeId}(h:Kept w κ id u)(hk:κ id=some (.pointer (some ⟨g,0,none⟩)))(hg:w.heap[g]?=some (.cells cs T (0,0)))
 (hk':κ' id'=some (.pointer (some ⟨g,0,none⟩))) (hg':w'.heap[g]?=some (.cells cs T (0,0))):Kept w' κ' id' u:=by
 intro c hc g2 UN T2 h2 h3;rw[hk']at h2;cases h2;rw[hg']at h3;cases h3;exact h c hc g cs T hk hg
def oU(w:World)(κ:Nat->Option Value)(Θ:Nat->Nat)(id:Nat):Ob->Prop
 | .box cells=>∃g cs T,κ id=some (.pointer (some ⟨g,0,none⟩))/\w.heap[g]?=some (.cells cs T (0,0))/\Θ g=id+2/\
  ∃bs,dQ w κ cs.toList cells bs/\∀b∈bs,Θ b=0
 | .AU cells u=>(κ id=some (IX u)/\Kept w κ id u)/\∃g cs T,κ id=some (.pointer (some ⟨g,0,none⟩))/\w.heap[g]?=some (.cells cs T (0,0))/\Θ g=id+2/\
  ∃bs,dQ w κ cs.toList cells bs/\∀b∈bs,Θ b=0
 | .row k e sz rows=>0<sz/\(∀r∈rows,r.length=sz)/\∃v cs bs,κ id=some v/\w.ownsRow 0 e sz v rows.length cs/\iT w cs rows.flatten bs/\
  (∀g,v.ownBlock=some g->Θ g=id+2)/\
  (match k with
   | .cl=>bs.Nodup/\(∀b∈bs,Θ b=id+2/\Wr w b)/\(∀g,v.ownBlock=some g->g∉bs)/\qG w (ol e) 0 cs rows.flatten bs
   |_=>∀b∈bs,Θ b=0)
 | .pK sz rows u=>(∀r∈rows,r.length=sz)/\(∀x,u=some x->κ id=some x)/\∃v bs,κ id=some v/\Rd w v (.sl rows) bs/\bs.Nodup/\∀b∈bs,Θ b=id+2/\Wr w b
 | .hole sz rows u p n=>(∀r∈rows,r.length=sz)/\(∀x,u=some x->κ id=some x)/\∃v bs,κ id=some v/\QC w κ v rows p n bs/\bs.Nodup/\∀b∈bs,Θ b=id+2/\Wr w b
 | .mp kv=>∃g es clock,κ id=some (.map (some g))/\w.heap[g]?=some (.map es clock)/\Θ g=id+2/\qo w es.toList kv
 | .tk rows=>∃v bs,κ id=some v/\Rd w v (.sl rows) bs/\∀b∈bs,Θ b=0
 | .tf e sz rows=>∃v bs,κ id=some v/\Rd w v (.sl rows) bs/\∀b∈bs,Θ b=0
 | .gone=>True
def rC(Γ:oK)(b:Nat):Prop:=Γ.W0.heap.size<=b\/Γ.X b
def Hr(Γ:oK)(b:Nat):Prop:=rC Γ b\/Γ.U b
theorem oU.cs{w:World}{κ:Nat->Option Value}{Θ:Nat->Nat}{id:Nat}{o:Ob}{cells:aG}(hc:o.I5=some cells)(h:oU w κ Θ id o):
 ∃g cs T,κ id=some (.pointer (some ⟨g,0,none⟩))/\w.heap[g]?=some (.cells cs T (0,0))/\Θ g=id+2/\∃bs,dQ w κ cs.toList cells bs/\∀b∈bs,Θ b=0:=by
 cases o<;>simp only[Ob.I5,reduceCtorEq,aS]at hc
 ·subst hc;exact h
 ·subst hc;exact h.2
theorem oU.TZ{w w':World}{κ κ':Nat->Option Value}{Θ Θ':Nat->Nat}{id:Nat}{o:Ob}{cells cells':aG}(hc:o.I5=some cells)(h:oU w κ Θ id o)(hk:∀v,κ id=some v->κ' id=some v)
 (hK:∀c u,o=.AU c u->Kept w' κ' id u)
 (h':∃g cs T,κ' id=some (.pointer (some ⟨g,0,none⟩))/\w'.heap[g]?=some (.cells cs T (0,0))/\Θ' g=id+2/\∃bs,dQ w' κ' cs.toList cells' bs/\∀b∈bs,Θ' b=0):oU w' κ' Θ' id (o.re cells'):=by
 cases o<;>simp only[Ob.I5,reduceCtorEq,aS]at hc
 ·exact h'
 ·exact⟨⟨hk _ h.1.1,hK _ _ rfl⟩,h'⟩
structure Ht(Γ:oK)(w:World):Prop where
 os:w.os=Γ.W0.os
 tape:w.tape=Γ.W0.tape
 output:w.output=Γ.W0.output
 size:Γ.W0.heap.size<=w.heap.size
 block:∀b,b<Γ.W0.heap.size->¬Γ.X b->w.heap[b]?=Γ.W0.heap[b]?
def Ct(w:World)(κ:Nat->Option Value)(ρ:Nat->Nat)(id:Nat):Ob->Prop
 | .row (.mv n) e sz rows=>∃v cs bs,κ id=some v/\w.ownsRow 0 e sz v rows.length cs/\iT w (cs.drop (n*sz)) (rows.drop n).flatten bs/\bs.Nodup/\∀b∈bs,ρ b=id+1
 | .row (.ho p n) e sz rows=>∃v cs bs,κ id=some v/\w.ownsRow 0 e sz v rows.length cs/\qG w (ol e) 0 cs rows.flatten bs/\bs.Nodup/\(∀b∈bs,ρ b=id+1)/\∃c,cs[p]?=some c/\κ n=some c
 | .tk rows=>∃v bs,κ id=some v/\Rd w v (.sl rows) bs/\bs.Nodup/\∀b∈bs,ρ b=id+1
 | .tf e sz rows=>∃v bs,κ id=some v/\BF w (e,sz) v (.sl rows) bs/\(∀b∈bs,b<w.heap.size)/\bs.Nodup/\∀b∈bs,ρ b=id+1
 |_=>True
structure rY(Γ:oK)(H:List Ob)(κ:Nat->Option Value)(Θ:Nat->Nat)(w:World)(ρ:Nat->Nat):Prop where
 free:∀b,ρ b≠0->Θ b=0/\Hr Γ b/\Wr w b
 rows:∀id e sz rows,H[id]?=some (.row .uq e sz rows)->∃v cs bs,κ id=some v/\w.ownsRow 0 e sz v rows.length cs/\qG w (ol e) 0 cs rows.flatten bs/\bs.Nodup/\∀b∈bs,ρ b=id+1
 more:∀id o,H[id]?=some o->Ct w κ ρ id o
structure cX(Γ:oK)(st:St)(κ:Nat->Option Value)(Θ:Nat->Nat)(a:Act)(w:World):Prop where
 defers:a.defers=[]
 size:a.tmps.size=Γ.nt
 kQ:∀id,st.H.length<=id->κ id=none
 kC:∀(id:Nat) u,κ id=some u->u.oneCell'=true
 slot:∀t,∃bs,lf w κ (a.tmps.getD t undef) (lk st.σ t) bs/\∀b∈bs,Θ b=0
 ob:∀id o,st.H[id]?=some o->oU w κ Θ id o
 own:∀b,Θ b≠0->b<w.heap.size
 old:∀b,b<Γ.W0.heap.size->¬Γ.X b->Θ b=Γ.Θ0 b/\Θ b<=1
 mine:∀b,2<=Θ b->rC Γ b
 stays:Ht Γ w
 mi:∃ρ,rY Γ st.H κ Θ w ρ
theorem cX.S3{Γ:oK}{st:St}{κ:Nat->Option Value}{Θ:Nat->Nat}{a:Act}{w:World}(h:cX Γ st κ Θ a w):∃B:Nat->Prop,SA w B/\∀b,B b->b<Γ.W0.heap.size/\b<w.heap.size/\¬Γ.X b:=by
 obtain⟨B,h1,h2⟩:=Γ.vs;exact⟨B,h1.stays fun b hb=>h.stays.block b (h2 b hb).1 (h2 b hb).2,fun b hb=>⟨(h2 b hb).1,cK (h2 b hb).1 h.stays.size,(h2 b hb).2⟩⟩
theorem cX.S2{Γ:oK}{st:St}{κ:Nat->Option Value}{Θ:Nat->Nat}{a:Act}{w:World}(h:cX Γ st κ Θ a w):D1 w fun _=>False:=by
 obtain⟨B,h1,h2⟩:=h.S3;exact⟨B,h1,fun b hb=>⟨(h2 b hb).2.1,id⟩⟩
def AW(P:Program)(Γ:oK)(c:Code)(Q:Exit->St->Prop)(st:St):Prop:=
 ∀κ Θ a w,cX Γ st κ Θ a w->c.wp P (fun e a' w'=>∃mh κ' Θ',cX Γ mh κ' Θ' a' w'/\Q e mh) a w
def AO(P:Program)(Γ:oK)(all:Array Oper)(ops:List Oper)(Q:Exit->St->Prop)(st:St):Prop:=
 ∀κ Θ a w,cX Γ st κ Θ a w->wpList P all (fun e a' w'=>∃mh κ' Θ',cX Γ mh κ' Θ' a' w'/\Q e mh) ops a w
section
variable{P:Program}{Γ:oK}{Q:Exit->St->Prop}{st:St}
theorem NH(h:Q .normal st):AW P Γ .skip Q st:=fun _ _ _ _ hs=>wp_skip ⟨_,_,_,hs,h⟩
theorem Q9(h:Q .ret st):AW P Γ .ret Q st:=fun _ _ _ _ hs=>wp_ret ⟨_,_,_,hs,h⟩
theorem NG{id:Nat}(h:Q (.exit id) st):AW P Γ (.exit id) Q st:=fun _ _ _ _ hs=>wp_exit ⟨_,_,_,hs,h⟩
def Md(next:St->Prop)(Q:Exit->St->Prop):Exit->St->Prop
 | .normal,st=>next st
 |e,st=>Q e st
def E3(id:Nat)(Q:Exit->St->Prop):Exit->St->Prop
 | .exit id',st=>if id'=id then Q .normal st else Q (.exit id') st
 |e,st=>Q e st
theorem KB{x y:Code}(h:AW P Γ x (Md (AW P Γ y Q) Q) st):AW P Γ (.seq x y) Q st:=by
 intro κ Θ a w hs;refine wp_seq (wp_mono (h κ Θ a w hs) ?_);rintro e a' w' ⟨mh,κ',Θ',hs',hq⟩;cases e with
 |normal=>exact hq κ' Θ' a' w' hs'
 |exit id=>exact⟨_,_,_,hs',hq⟩
 |goto l=>exact⟨_,_,_,hs',hq⟩
 |ret=>exact⟨_,_,_,hs',hq⟩
 |panic c=>exact⟨_,_,_,hs',hq⟩
 |outgrown=>exact⟨_,_,_,hs',hq⟩
theorem KA{id:Nat}{c:Code}(h:AW P Γ c (E3 id Q) st):AW P Γ (.block id c) Q st:=by
 intro κ Θ a w hs;refine wp_block (wp_mono (h κ Θ a w hs) ?_);rintro e a' w' ⟨mh,κ',Θ',hs',hq⟩;cases e with
 |exit id'=>
  simp only[Exit.inBlock,E3]at hq⊢;split
  ·rename_i he;rw[av he]at hq;exact⟨_,_,_,hs',hq⟩
  ·rename_i he;rw[ai he]at hq;exact⟨_,_,_,hs',hq⟩
 |normal=>exact⟨_,_,_,hs',hq⟩
 |goto l=>exact⟨_,_,_,hs',hq⟩
 |ret=>exact⟨_,_,_,hs',hq⟩
 |panic c=>exact⟨_,_,_,hs',hq⟩
 |outgrown=>exact⟨_,_,_,hs',hq⟩
theorem Iu{id:Nat}{l:List Oper}(h:AO P Γ l.toArray l Q st):AW P Γ (.region id l.toArray false) Q st:=
 fun κ Θ a w hs=>wp_region_lit (h κ Θ a w hs)
theorem Q7{all:Array Oper}(h:Q .normal st):AO P Γ all [] Q st:=fun _ _ _ _ hs=>wpList_nil ⟨_,_,_,hs,h⟩
end
section
variable{w:World}{κ:Nat->Option Value}{v:Value}{bs:aI}
theorem lf.lK{k:IntKind}{n:Int}(h:lf w κ v (.int k n) bs):v=.int k n:=by
 cases h with|v h=>cases h with|cell h=>cases h with|pure h=>cases h;rfl
theorem lf.CP{k:IntKind}{n:Int}(h:lf w κ v (.int k n) bs):nk k n:=by
 cases h with|v h=>cases h with|cell h=>cases h with|pure h=>cases h with|int _ _ hr=>exact hr
theorem lf.Ma{s:Bytes}(h:lf w κ v (.str s) bs):s.length<=maxLen:=by
 cases h with|v h=>cases h with|cell h=>cases h with|pure h=>cases h with|str x hx=>simpa using hx
theorem lf.oz{b:Bool}(h:lf w κ v (.bool b) bs):v=.bool b:=by
 cases h with|v h=>cases h with|cell h=>cases h with|pure h=>cases h;rfl
theorem lf.nZ{s:Bytes}(h:lf w κ v (.str s) bs):∃x:ByteArray,v=.string x/\x.data.toList=s:=by
 cases h with|v h=>cases h with|cell h=>cases h with|pure h=>cases h;exact⟨_,rfl,rfl⟩
theorem lf.Im{u:Value}(h:lf w κ v (.val u) bs):v=u:=by
 cases h with|v h=>cases h with|cell h=>cases h with|pure h=>cases h;rfl
theorem lf.zx(h:lf w κ v .nil bs):v=.slice none 0 0:=by
 cases h with|v h=>cases h with|cell h=>cases h with|pure h=>cases h;rfl
theorem lf.Ek{rows:List aG}(h:lf w κ v (.sl rows) bs):Rd w v (.sl rows) bs:=by
 cases h with|v h=>cases h with|cell h=>cases h with|pure h=>exact h
theorem lf.Gd{row:aG}{o:Nat}(h:lf w κ v (.ep row o) bs):Rd w v (.ep row o) bs:=by
 cases h with|v h=>cases h with|cell h=>cases h with|pure h=>exact h
theorem lf.oL{id:Nat}(h:lf w κ v (.acc id) bs):κ id=some v/\bs=[]:=by
 cases h with|v h=>cases h with|cell h=>cases h with|pure h=>cases h|acc _ _ hk=>exact⟨hk,rfl⟩
theorem lf.rJ{id off:Nat}(h:lf w κ v (.ptr id off) bs):∃b,κ id=some (.pointer (some ⟨b,0,none⟩))/\v=.pointer (some ⟨b,off,none⟩):=by
 cases h with|v h=>cases h with|cell h=>cases h with|pure h=>cases h|ptr _ _ b hk=>exact⟨b,hk,rfl⟩
theorem lf.wm{id i sz off:Nat}(h:lf w κ v (.op id i sz off) bs):∃b o0 len cap,κ id=some (.slice (some ⟨b,o0,none⟩) len cap)/\v=.pointer (some ⟨b,o0+(i*sz+off),none⟩):=by
 cases h with|v h=>cases h with|cell h=>cases h with|pure h=>cases h|op _ _ _ _ b o0 len cap hk=>exact⟨b,o0,len,cap,hk,rfl⟩
theorem dQ.vH{vs:b9}{ds:aG}(h:iT w vs ds bs):dQ w κ vs ds bs:=by
 induction ds generalizing vs bs with
 |nil=>cases h;exact .nil
 |cons d ds ih=>cases h with|cons v vs _ _ b1 b2 h1 h2 h3=>exact .cons _ _ _ _ _ _ h1 (.pure h2) (ih h3)
theorem rI{w:World}{e sz b o0 len cap n:Nat}{cs:b9}(h:w.ownsRow 0 e sz (.slice (some ⟨b,o0,none⟩) len cap) n cs):o0=0:=by
 rcases h.2 with⟨h,_⟩|⟨g,cap,cur,h,_⟩
 ·cases h
 ·cases h;rfl
theorem lf.xC{ds:aG}(h:lf w κ v (.agg ds) bs):∃cs:b9,v=.agg cs.toArray/\dQ w κ cs ds bs:=by
 cases h with
 |v h=>
  cases h with
  |cell h=>cases h with|pure h=>cases h with|agg cs _ _ h=>exact⟨cs,rfl,dQ.vH h⟩
  |agg cs _ _ h=>exact⟨cs,rfl,h⟩
theorem dQ.length{vs:b9}{ds:aG}(h:dQ w κ vs ds bs):vs.length=ds.length:=by
 induction ds generalizing vs bs with
 |nil=>cases h;rfl
 |cons d ds ih=>cases h with|cons v vs _ _ b1 b2 h1 h2 h3=>simp[ih h3]
theorem dQ.one{vs:b9}{ds:aG}(h:dQ w κ vs ds bs):∀v∈vs,v.oneCell'=true:=by
 induction ds generalizing vs bs with
 |nil=>cases h;simp
 |cons d ds ih=>
  cases h with
  |cons v vs _ _ b1 b2 h1 h2 h3=>
   intro u hu;rcases au.1 hu with rfl|hu
   ·exact h1
   ·exact ih h3 u hu
theorem dQ.app{vs us:b9}{ds es:aG}{cs:aI}(h:dQ w κ vs ds bs)(k:dQ w κ us es cs):dQ w κ (vs++us) (ds++es) (bs++cs):=by
 induction ds generalizing vs bs with
 |nil=>cases h;simpa using k
 |cons d ds ih=>
  cases h with
  |cons v vs _ _ b1 b2 h1 h2 h3=>
   rw[eP];exact .cons _ _ _ _ _ _ h1 h2 (ih h3)
theorem dQ.split{vs:b9}{ds es:aG}(h:dQ w κ vs (ds++es) bs):
 ∃v1 v2 b1 b2,vs=v1++v2/\bs=b1++b2/\dQ w κ v1 ds b1/\dQ w κ v2 es b2:=by
 induction ds generalizing vs bs with
 |nil=>exact⟨[],vs,[],bs,by simp,by simp,.nil,h⟩
 |cons d ds ih=>
  cases h with
  |cons v vs _ _ b1 b2 h1 h2 h3=>
   obtain⟨v1,v2,c1,c2,rfl,rfl,k1,k2⟩:=ih h3;exact⟨v::v1,v2,b1++c1,c2,by simp,by simp,.cons _ _ _ _ _ _ h1 h2 k1,k2⟩
theorem dQ.mid{vs:b9}{ds:aG}(h:dQ w κ vs ds bs)(i n:Nat)(hn:i+n<=ds.length):
 ∃b,dQ w κ ((vs.drop i).take n) ((ds.drop i).take n) b/\∀x∈b,x∈bs:=by
 have e:ds=ds.take i++((ds.drop i).take n++(ds.drop i).drop n):=by rw[bR,bR]
 rw[e]at h;obtain⟨v1,v2,b1,b2,rfl,rfl,k1,k2⟩:=h.split;obtain⟨v3,v4,b3,b4,rfl,rfl,k3,k4⟩:=k2.split;refine⟨b3,?_,by intro x hx;simp[hx]⟩;have h1:v1.length=i:=by rw[k1.length];simp;omega
 have h3:v3.length=n:=by rw[k3.length];simp;omega
 rw[dw h1,fL h3];exact k3
theorem dQ.at{vs:b9}{ds:aG}(h:dQ w κ vs ds bs){i:Nat}{d:D}(hd:ds[i]?=some d):
 ∃v b,vs[i]?=some v/\v.oneCell'=true/\rD w κ v d b/\∀x∈b,x∈bs:=by
 induction ds generalizing vs bs i with
 |nil=>simp at hd
 |cons e ds ih=>
  cases h with
  |cons v vs _ _ b1 b2 h1 h2 h3=>
   cases i with
   |zero=>simp at hd;subst hd;exact⟨v,b1,by simp,h1,h2,by intro x hx;simp[hx]⟩
   |succ i=>
    simp at hd;obtain⟨u,b,k1,k2,k3,k4⟩:=ih h3 hd;exact⟨u,b,by simpa using k1,k2,k3,fun x hx=>by simp[k4 x hx]⟩
theorem HG(v:Value):lf w κ v (D.Fz v) []:=by
 unfold D.Fz;split
 ·exact .of (.bool _)
 ·split
  ·rename_i h;exact .of (.int _ _ h)
  ·exact .of (.val _)
 ·split
  ·rename_i h;exact .of (.str _ h)
  ·exact .of (.val _)
 ·exact .of .nil
 ·exact .of (.val _)
end
section
variable{Γ:oK}{st:St}{κ:Nat->Option Value}{Θ:Nat->Nat}{a:Act}{w:World}
theorem cX.ev(h:cX Γ st κ Θ a w)(x:Operand):∃bs,lf w κ (a.eval x) (st.ev x) bs/\∀b∈bs,Θ b=0:=by
 cases x with
 |tmp t=>exact h.slot t
 |const v=>exact⟨[],HG v,by simp⟩
 |global g=>exact⟨[],.of (.val _),by simp⟩
 |func f=>exact⟨[],.of (.val _),by simp⟩
theorem cX.set(h:cX Γ st κ Θ a w){t:Nat}{v:Value}{d:D}{bs:aI}(ht:t<Γ.nt)(hv:lf w κ v d bs)(hb:∀b∈bs,Θ b=0):
 cX Γ (st.set t d) κ Θ (a.put (some t) v) w:=by
 refine⟨h.defers,by simp[Act.put,h.size],h.kQ,h.kC,?_,h.ob,h.own,h.old,h.mine,h.stays,h.mi⟩;intro u;show∃bs,lf w κ ((a.tmps.setIfInBounds t v).getD u undef) (if u=t then d else lk st.σ u) bs/\_;have hsz:=h.size;by_cases hu:u=t
 ·subst hu;rw[av rfl];have:(a.tmps.setIfInBounds u v).getD u undef=v:=by
   simp[bU,hsz,ht]
  rw[this];exact⟨bs,hv,hb⟩
 ·rw[ai hu];have:(a.tmps.setIfInBounds t v).getD u undef=a.tmps.getD u undef:=by
   simp[bU,ld hu]
  rw[this];exact h.slot u
end
end Go.Cx
namespace Go.Cx
open Go.RowKit
abbrev ax:=List Ob
def sQ(P:Program)(t:TypeId):Option Bool:=
 match P.underlying t with
 |some (.struct _)=>some true
 |some (.array _ _)=>some true
 |some _=>some false
 |none=>none
def rQ(P:Program)(t:TypeId):Nat:=P.cellsOf t
def WM(P:Program)(t f:Nat):Option Nat:=
 match P.underlying t with
 |some (.struct fs)=>(match fs[f]? with
  |some x=>if(P.info? x.type).isSome/\P.cellsOf x.type≠0 then some x.offset else none
  |none=>none)
 |_=>none
def X8(P:Program)(t f:Nat):Option (Nat×TypeId):=
 match P.underlying t with
 |some (.struct fs)=>(match fs[f]? with|some x=>some (x.offset,x.type)|none=>none)
 |_=>none
def xJ(P:Program)(t:TypeId):Option (TypeId×Nat):=
 match P.underlying t with
 |some (.slice e)=>if(P.info? e).isSome then some (e,P.cellsOf e)else none
 |_=>none
def Re(P:Program)(t:TypeId):Option (Nat×Nat):=
 match P.underlying t with
 |some (.array n e)=>if(P.info? e).isSome then some (P.cellsOf e,n)else none
 |_=>none
def BC(P:Program)(t:TypeId):Bool:=match P.underlying t with|some .string=>true|_=>false
def HX(P:Program)(t:TypeId):Option IntKind:=match P.underlying t with|some (.int k)=>some k|_=>none
def Ps(P:Program)(t:TypeId):Bool:=match P.underlying t with|some .bool=>true|_=>false
def Ih(P:Program)(t:TypeId):Bool:=match P.underlying t with
 |some (.struct fs)=>match fs.toList with
  | [f,g]=>f.name != "_" &&g.name != "_" &&f.offset==0&&g.offset==1&&BC P f.type&&BC P g.type&& !P.stoodInHeld t&& !P.eqGuardType P.depth t
  |_=>false
 |_=>false
def peq(P:Program)(op:BinOp)(t:TypeId):D->D->Option D
 | .bool a,.bool b=>if Ps P t=true then match op with| .eql=>some (.bool (a==b))| .neq=>some (.bool (a != b))|_=>none else none
 | .agg [.str a,.str b],.agg [.str c,.str d]=>if Ih P t=true then match op with| .eql=>some (.bool (a==c&&b==d))| .neq=>some (.bool (!(a==c&&b==d)))|_=>none else none
 |_,_=>none
def Rf(P:Program)(t:TypeId):Bool:=match P.underlying t with|some (.interface _)=>true|_=>false
def RJ(P:Program)(op:BinOp)(t:TypeId)(x:D)(y:Operand):Option D:=match x,y with
 | .P7 b,.const .nilIface=>(match Rf P t,op with|true,.eql=>some (.bool (!b))|true,.neq=>some (.bool b)|_,_=>none)
 |_,_=>none
def JR(op:BinOp):D->D->Option D
 | .int k a,.int k' b=>
  if k=k' then
   match op with
   | .add=>some (.int k (k.wrap (a+b)))
   | .sub=>some (.int k (k.wrap (a-b)))
   | .mul=>some (.int k (k.wrap (a*b)))
   | .quo=>if 0<=a/\0<b then some (.int k (a/b))else none
   | .rem=>if 0<=a/\0<b then some (.int k (a%b))else none
   | .eql=>some (.bool (a==b))
   | .neq=>some (.bool (a != b))
   | .lss=>some (.bool (a<b))
   | .leq=>some (.bool (a<=b))
   | .gtr=>some (.bool (a>b))
   | .geq=>some (.bool (a>=b))
   |_=>none
  else none
 | .str a,.str b=>
  match op with
  | .add=>if a.length+b.length<=maxLen then some (.str (a++b))else none
  | .eql=>some (.bool (a==b))
  | .neq=>some (.bool (!(a==b)))
  | .lss=>some (.bool (Op.bytesLess a b))
  | .leq=>some (.bool (Op.bytesLess a b||a==b))
  | .gtr=>some (.bool (!(Op.bytesLess a b||a==b)))
  | .geq=>some (.bool (!(Op.bytesLess a b)))
  |_=>none
 |_,_=>none
def yH(ag:Bool)(n:Nat)(row:aG)(off:Nat):Option D:=
 if ag then(if off+n<=row.length then some (.agg ((row.drop off).take n))else none)else row[off]?
def oH(len:Nat)(lo hi:Option D):Option (Nat×Nat):=
 match(match hi with|none=>some len|some (.int _ h)=>if 0<=h/\h.toNat<=len then some h.toNat else none|_=>none)with
 |none=>none
 |some h=>match(match lo with|none=>some 0|some (.int _ l)=>if 0<=l/\l.toNat<=h then some l.toNat else none|_=>none)with
  |none=>none
  |some l=>some (l,h)
def EN(a b:Int):Int:=if b<a then b else a
def RI:D->D->Option D
 | .int k m,.int k' n=>if k=k' then some (.int k (EN m n))else none
 |_,_=>none
def O8(P:Program)(st:St)(x:Operand)(t:TypeId):Option D:=
 match st.ev x with
 | .str s=>if BC P t then some (.int .i64 s.length)else none
 | .sl rows=>if(xJ P t).isSome then some (.int .i64 rows.length)else none
 | .nil=>if(xJ P t).isSome then some (.int .i64 0)else none
 | .acc id=>(match xJ P t,st.H[id]? with|some _,some (.row _ _ _ rows)=>some (.int .i64 rows.length)|_,_=>none)
 |_=>none
def D.cellsOf:D->Option aG
 | .agg ds=>some ds
 | .any=>none
 | .gj _=>none
 | .val v=>if v.oneCell' then some [.val v]else none
 |d=>some [d]
def tz(P:Program)(t:TypeId):Option aG:=
 match P.info? t with
 |some i=>(match i.zero with
  |some z=>if z.cells.toList.all (fun c=>c.oneCell')&&z.cells.size==i.size then some (z.cells.toList.map D.Fz)else none
  |none=>none)
 |none=>none
def Ii(P:Program)(t:TypeId):Option (List (Nat×Nat)):=
 match P.underlying t with
 |some (.struct fs)=>fs.toList.mapM (fun f=>(P.info? f.type).map fun i=>(f.offset,i.size))
 |_=>none
def qS(places:List (Nat×Nat))(cells:aG):List (Nat×D)->Option aG
 | []=>some cells
 | (i,d)::rest=>match places[i]?,d.cellsOf with
  |some (off,sz),some ds=>if ds.length=sz/\off+sz<=cells.length then qS places (cells.take off++ds++cells.drop (off+sz)) rest else none
  |_,_=>none
def UU:D->D->Option Bool
 | .str a,.str b=>some (a==b)
 | .int k a,.int k' b=>if k=k' then some (a==b)else none
 |_,_=>none
def B3:TypeDesc->D->Bool
 | .string,.str _=>true
 | .int k,.int k' _=>decide (k=k')
 |_,_=>false
def CR(k:D):List (D×D)->Option (Option D)
 | []=>some none
 |p::r=>match UU k p.1 with|some true=>some (some p.2)|some false=>CR k r|none=>none
def Da(k v:D):List (D×D)->Option (List (D×D))
 | []=>some [(k,v)]
 |p::r=>match UU k p.1 with|some true=>some ((k,v)::r)|some false=>(Da k v r).map (p:: ·)|none=>none
def Mf(P:Program)(T:TypeId):Option (TypeDesc×D):=
 match P.underlying T with
 |some (.map kt et)=>(match P.underlying kt,P.info? et with
  |some d,some i=>(match i.zero with|some z=>if z.oneCell'=true then some (d,D.Fz z)else none|none=>none)
  |_,_=>none)
 |_=>none
def WH(P:Program)(T:TypeId)(kv:List (D×D))(k:D)(ok:Bool):Option D:=
 match Mf P T with
 |some (kd,dz)=>(match B3 kd k,CR k kv with
  |true,some (some d)=>some (bif ok then .gj [d,.bool true]else d)
  |true,some none=>some (bif ok then .gj [dz,.bool false]else dz)
  |_,_=>none)
 |none=>none
def yE(k:IntKind)(a b:Int):Int:=k.wrap ((BitVec.ofInt k.bits a&&& BitVec.ofInt k.bits b).toNat)
def SE(k:IntKind)(a b:Int):Int:=k.wrap ((BitVec.ofInt k.bits a|||BitVec.ofInt k.bits b).toNat)
def Hz(k:IntKind)(a b:Int):Int:=k.wrap ((BitVec.ofInt k.bits a^^^BitVec.ofInt k.bits b).toNat)
def G8(k:IntKind)(a b:Int):Int:=a.fdiv (2^(min b.toNat k.bits))
def RH(op:BinOp)(x y:D):Option D:=match x,y with
 | .int k a,.int k' b=>(match op with
  | .and=>if k=k' then some (.int k (yE k a b))else none
  | .or=>if k=k' then some (.int k (SE k a b))else none
  | .xor=>if k=k' then some (.int k (Hz k a b))else none
  | .shr=>if 0<=b then some (.int k (G8 k a b))else none
  |_=>none)
 |_,_=>none
theorem nk.shr{k:IntKind}{a:Int}(h:nk k a)(b:Int):nk k (G8 k a b):=by
 have hm:(0:Int)<2^(min b.toNat k.bits):=Int.pow_pos (by decide);unfold G8;rw[Int.fdiv_eq_ediv_of_nonneg _ (uR hm)];generalize(2:Int)^(min b.toNat k.bits)=m at hm;have hz:=nk.zero k;rcases Int.lt_or_le a 0 with h0|h0
 ·refine⟨uS h.1 (Int.le_ediv_of_mul_le hm ?_),uS (uR (Int.ediv_lt_of_lt_mul (b:=0) hm (by omega))) hz.2⟩;have:a*m<=a*1:=Int.mul_le_mul_of_nonpos_left (uR h0) (by omega);omega
 ·exact h.down (vB h0 (uR hm)) (Int.ediv_le_self m h0)
def pv(P:Program)(st:St):Op->Option D
 | .lookup T x i ok=>match st.ev x with
  | .acc id=>(match st.H[id]? with|some (.mp kv)=>WH P T kv (st.ev i) ok|_=>none)
  |_=>none
 | .build t parts=>match tz P t,Ii P t with
  |some zs,some ps=>(qS ps zs (parts.toList.map fun p=>(p.1,st.ev p.2))).map D.agg
  |_,_=>none
 | .move x=>some (st.ev x)
 | .assign x=>some (st.ev x)
 | .pick c a b=>match st.ev c with| .bool t=>some (bif t then st.ev a else st.ev b)|_=>none
 | .binOp op t x y _=>match JR op (st.ev x) (st.ev y)with|some d=>some d|none=>(match peq P op t (st.ev x) (st.ev y)with|some d=>some d|none=>(match RJ P op t (st.ev x) y with|some d=>some d|none=>RH op (st.ev x) (st.ev y)))
 | .nilCheck x=>match st.ev x with| .ptr i o=>some (.ptr i o)| .op i a b c=>some (.op i a b c)| .ep r o=>some (.ep r o)|_=>none
 | .unOp .not _ x=>match st.ev x with| .bool b=>some (.bool (!b))|_=>none
 | .unOp .neg _ x=>match st.ev x with| .int k n=>some (.int k (k.wrap (0-n)))|_=>none
 | .convert s d x=>match st.ev x,HX P s,HX P d with| .int _ n,some _,some k=>some (.int k (k.wrap n))|_,_,_=>none
 | .field t x f=>match X8 P t f,st.ev x with
  |some (off,ft),.agg cells=>(match sQ P ft with|some ag=>yH ag (rQ P ft) cells off|none=>none)
  |_,_=>none
 | .fieldAddr t x f=>match WM P t f,st.ev x with
  |some o,.ptr id off=>some (.ptr id (off+o))
  |some o,.ep row off=>some (.ep row (off+o))
  |some o,.op id i sz off=>some (.op id i sz (off+o))
  |_,_=>none
 | .indexAddr t x i=>match xJ P t,st.ev x,st.ev i with
  |some (_,sz),.sl rows,.int _ n=>if 0<=n then(match rows[n.toNat]? with|some row=>if row.length=sz then some (.ep row 0)else none|none=>none)else none
  |some (_,sz),.acc id,.int _ n=>(match st.H[id]? with
   |some (.row _ _ sz' rows)=>if sz=sz'/\0<=n/\n.toNat<rows.length then some (.op id n.toNat sz 0)else none
   |_=>none)
  |_,.val (.pointer (some ⟨g,o,none⟩)),.int _ n=>(match Re P t with
   |some (sz,len)=>if 0<=n/\n.toNat<len then some (.val (.pointer (some ⟨g,o+n.toNat*sz,none⟩)))else none
   |none=>none)
  |_,_,_=>none
 | .load t x=>match sQ P t,st.ev x with
  |some ag,.ep row off=>yH ag (rQ P t) row off
  |some ag,.ptr id off=>(match(st.H[id]?).bind Ob.I5 with|some cells=>yH ag (rQ P t) cells off|none=>none)
  |some ag,.op id i sz off=>(match st.H[id]? with
   |some (.row (.ho p n) _ sz' _)=>(match ag with|false=>if sz'=sz/\i*sz+off=p then some (.acc n)else none|true=>none)
   |some (.row k _ sz' rows)=>(match rows[i]? with|some row=>if sz'=sz/\k.EZ=true/\off+(bif ag then rQ P t else 1)<=sz then yH ag (rQ P t) row off else none|none=>none)
   |_=>none)
  |some ag,.val (.pointer (some ⟨g,o,none⟩))=>(match ag with|false=>Io g o|true=>none)
  |_,_=>none
 | .extract x i=>match st.ev x with| .gj vs=>vs[i]? |_=>none
 | .index t x i=>match BC P t,st.ev x,st.ev i with
  |true,.str s,.int _ n=>if 0<=n then(match s[n.toNat]? with|some b=>some (.int .u8 b.toNat)|none=>none)else none
  |_,_,_=>none
 | .slice t x lo hi none=>match st.ev x with
  | .str s=>if BC P t then(match oH s.length (lo.map st.ev) (hi.map st.ev)with|some (l,h)=>some (.str ((s.take h).drop l))|none=>none)else none
  | .sl rows=>(match xJ P t,oH rows.length (lo.map st.ev) (hi.map st.ev)with
   |some (_,sz),some (l,h)=>if(rows.all (fun r=>r.length==sz))then some (.sl ((rows.take h).drop l))else none
   |_,_=>none)
  |_=>none
 | .call c=>match c.callee,c.args.toList,c.argTypes.toList with
  | .builtin .len,[x],[t]=>O8 P st x t
  | .builtin .min,[x,y],[_,_]=>RI (st.ev x) (st.ev y)
  |_,_,_=>none
 |_=>none
section
variable{P:Program}{Γ:oK}{st:St}{κ:Nat->Option Value}{Θ:Nat->Nat}{a:Act}{w:World}
def pQ(P:Program)(κ:Nat->Option Value)(Θ:Nat->Nat)(a:Act)(w:World)(o:Oper)(d:D):Prop:=
 ∃v bs,(execOp a.eval o).run P w=.ok (.value v) w/\lf w κ v d bs/\∀b∈bs,Θ b=0
theorem EX{n:Nat}(h:n<=maxLen):nk .i64 (n:Int):=by
 rw[nk.i64];unfold maxLen at h;omega
theorem iC{k:IntKind}{n:Int}(h:nk k n):k.wrap n=n:=by
 unfold nk at h;cases k<;>simp[IntKind.min,IntKind.max,IntKind.wrap,IntKind.bits,IntKind.signed]at h⊢ <;>(try split)<;>omega
theorem HH{o:Oper}{op:BinOp}{t t':TypeId}{x y:Operand}{d:D}(hs:cX Γ st κ Θ a w)(ho:o.op=.binOp op t x y t')
 (h:JR op (st.ev x) (st.ev y)=some d):pQ P κ Θ a w o d:=by
 obtain⟨b1,r1,_⟩:=hs.ev x;obtain⟨b2,r2,_⟩:=hs.ev y;generalize st.ev x=dx at*;generalize st.ev y=dy at*;unfold JR at h;split at h
 ·rename_i k p k' q;split at h
  ·rename_i hk;subst hk;have e1:=r1.lK;have e2:=r2.lK;cases op<;>simp only[aS,reduceCtorEq]at h
   case quo=>
    split at h
    ·rename_i hq;cases h;have Sl:q≠0:=by omega
     have hle:p/q<=p:=Int.ediv_le_self q hq.1;have h0:0<=p/q:=vB hq.1 (by omega);have hin:=r1.CP.down h0 hle;have hw:k.wrap (p.tdiv q)=p/q:=by
      rw[Int.tdiv_eq_ediv_of_nonneg hq.1];exact iC hin
     exact⟨_,[],by simp[execOp,ho,e1,e2,binOp,eqGuard,Op.intDiv,Sl,hw],.of (.int _ _ hin),by simp⟩
    ·cases h
   case rem=>
    split at h
    ·rename_i hq;cases h;have Sl:q≠0:=by omega
     have h0:0<=p%q:=Int.emod_nonneg p Sl;have hle:p%q<=p:=by
      have h1:=Int.emod_add_mul_ediv p q;have h2:0<=q*(p/q):=Int.mul_nonneg (by omega) (vB hq.1 (by omega));omega
     have hin:=r1.CP.down h0 hle;have hw:p.tmod q=p%q:=Int.tmod_eq_emod_of_nonneg hq.1;exact⟨_,[],by simp[execOp,ho,e1,e2,binOp,eqGuard,Op.intDiv,Sl,hw],.of (.int _ _ hin),by simp⟩
    ·cases h
   all_goals subst h
   all_goals first
    |exact⟨_,[],by simp[execOp,ho,e1,e2,binOp,eqGuard,Op.intArith],.of (.int _ _ (nk.wrap _ _)),by simp⟩
    |exact⟨_,[],by simp[execOp,ho,e1,e2,binOp,eqGuard,Op.intCmp],.of (.bool _),by simp⟩
  ·cases h
 ·rename_i p q;obtain⟨u,e1,rfl⟩:=r1.nZ;obtain⟨v,e2,rfl⟩:=r2.nZ;cases op<;>simp only[aS,reduceCtorEq]at h
  case add=>
   split at h
   ·rename_i hl;cases h;have hsz:u.size+v.size<=9223372036854775807:=by
     simp only[nj,maxLen]at hl;exact hl
    refine⟨.string (u++v),[],?_,?_,by simp⟩
    ·simp[execOp,ho,e1,e2,binOp,eqGuard,run_string_add_sum w u v hsz]
    ·have:=Rd.str (w:=w) (u++v) (by rw[ByteArray.size_append'];unfold maxLen;omega);simp only[ByteArray.data_append,iE]at this;exact .of this
   ·cases h
  all_goals subst h
  all_goals exact⟨_,[],by simp[execOp,ho,e1,e2,binOp,eqGuard,Op.stringOp,ByteArray.toList_eq],.of (.bool _),by simp⟩
 ·cases h
theorem xI{t:TypeId}{b:Bool}(h:sQ P t=some b)(w:World):(isAgg t).run P w=.ok b w:=by
 unfold sQ at h;split at h<;>first
  | (rename_i hu;cases h;simp[isAgg,run_underlying hu])
  | (rename_i d _ _ hu;cases h;cases d<;>simp_all [isAgg,run_underlying hu])
  |cases h
theorem info_of_underlying{t:TypeId}{d:TypeDesc}(h:P.underlying t=some d):∃i,P.info? t=some i:=by
 unfold Program.underlying at h;cases hi:P.info? t with
 |none=>simp[hi]at h
 |some i=>exact⟨i,rfl⟩
theorem zk{t:TypeId}{b:Bool}(h:sQ P t=some b):∃i,P.info? t=some i:=by
 unfold sQ at h;split at h<;>first
  | (rename_i hu;exact info_of_underlying hu)
  |cases h
theorem oI{t:TypeId}(h:∃i,P.info? t=some i)(w:World):(sizeOf t).run P w=.ok (rQ P t) w:=by
 obtain⟨i,hi⟩:=h;simp[sizeOf,typeInfo,hi,rQ,Program.cellsOf]
theorem jR{t:TypeId}{ag:Bool}(ht:sQ P t=some ag){b off o:Nat}{cs:b9}
 (hc:∀j c,cs[j]?=some c->w.cell? ⟨b,off+j,none⟩=some c):
 (ag=true->o+rQ P t<=cs.length->(Instr.loadAt t (.pointer (some ⟨b,off+o,none⟩))).run P w=.ok (.agg ((cs.drop o).take (rQ P t)).toArray) w)/\
 (ag=false->∀c,cs[o]?=some c->(Instr.loadAt t (.pointer (some ⟨b,off+o,none⟩))).run P w=.ok c w):=by
 constructor
 ·intro e hl;subst e;have hlen:((cs.drop o).take (rQ P t)).length=rQ P t:=by simp;omega
  have:=run_loadCells_list (P:=P) w ⟨b,off+o,none⟩ ((cs.drop o).take (rQ P t)) (by
   intro j v hj;rw[Addr.add_lit];rw[bg]at hj;split at hj
   ·rw[dB]at hj;rw[gl];exact hc _ _ hj
   ·cases hj)
  rw[hlen]at this;simp[Instr.loadAt,Instr.sureAddr,loadVar,xI ht,oI (zk ht),this]
 ·intro e c hj;subst e;have:=hc o c hj;simp[Instr.loadAt,Instr.sureAddr,loadVar,xI ht,this]
theorem rD.Dj{v:Value}{d:D}{bs:aI}(h:rD w κ v d bs):lf w κ v d bs:=.v (.cell h)
theorem CX{o:Oper}{t:TypeId}{x:Operand}{d:D}(hs:cX Γ st κ Θ a w)(ho:o.op=.load t x)
 (h:pv P st (.load t x)=some d):pQ P κ Θ a w o d:=by
 obtain⟨b1,r1,z1⟩:=hs.ev x;simp only[pv]at h;split at h
 ·rename_i ag row off ht hx;rw[hx]at r1;have hrd:=r1.Gd;generalize IN:a.eval x=vx at hrd;cases hrd with
  |ep b base cs _ _ bs h0 hc hrs=>
   have L:=jR (P:=P) (w:=w) ht (o:=off) hc;unfold yH at h;split at h
   ·rename_i hag;split at h
    ·rename_i hl;cases h;have hl':off+rQ P t<=cs.length:=by rw[hrs.length];exact hl
     obtain⟨b',hm,hsub⟩:=hrs.mid off (rQ P t);exact⟨_,b',by simp only[execOp,ho,IN];simp[L.1 hag hl'],.of (.agg _ _ _ hm),fun y hy=>z1 y (by simp[hsub y hy])⟩
    ·cases h
   ·rename_i hag;simp only[pV]at hag;obtain⟨v,b',hv,_,hr,hsub⟩:=hrs.at h;exact⟨v,b',by simp only[execOp,ho,IN];simp[L.2 hag v hv],.of hr,fun y hy=>z1 y (by simp[hsub y hy])⟩
 ·rename_i ag id off ht hx;rw[hx]at r1;obtain⟨g,hk,hv⟩:=r1.rJ;split at h
  ·rename_i cells hH;obtain⟨ob,hH,rO⟩:=jU.1 hH;obtain⟨g',cs,T,hk',hg,hΘ,bs,hrs,hz⟩:=(hs.ob id _ hH).cs rO;rw[hk]at hk';cases hk';have hc:∀j c,cs.toList[j]?=some c->w.cell? ⟨g,0+j,none⟩=some c:=by
    intro j c hj;simp only[cP,World.cell?,hg];simpa using hj
   have L:=jR (P:=P) (w:=w) ht (o:=off) hc;simp only[cP]at L;unfold yH at h;split at h
   ·rename_i hag;split at h
    ·rename_i hl;cases h;have hl':off+rQ P t<=cs.toList.length:=by rw[hrs.length];exact hl
     obtain⟨b',hm,hsub⟩:=hrs.mid off (rQ P t) hl;exact⟨_,b',by simp only[execOp,ho,hv];simp[L.1 hag hl'],.v (.agg _ _ _ hm),fun y hy=>hz y (hsub y hy)⟩
    ·cases h
   ·rename_i hag;simp only[pV]at hag;obtain⟨v,b',Mv,_,hr,hsub⟩:=hrs.at h;exact⟨v,b',by simp only[execOp,ho,hv];simp[L.2 hag v Mv],hr.Dj,fun y hy=>hz y (hsub y hy)⟩
  ·cases h
 ·rename_i ag id i sz off ht hx;rw[hx]at r1;obtain⟨g,o0,len,cap,hk,hv⟩:=r1.wm;split at h
  ·rename_i p n e sz' rows hH;split at h
   ·split at h
    ·rename_i Kq;obtain⟨rfl,rfl⟩:=Kq;cases h;obtain⟨ρ,hu⟩:=hs.mi;obtain⟨vk,cs,bs,IM,hown,_,_,_,c,hc,hkc⟩:=hu.more id _ hH;rw[hk]at IM;cases IM;have Jm:=rI hown;subst Jm;rw[cP]at hv;have hcells:∀j c,cs[j]?=some c->w.cell? ⟨g,0+j,none⟩=some c:=by
      intro j c hj;have:=hown.cells (g:=g) (by simp[Value.ownBlock]) j c hj;simpa[Addr.add_lit]using this
     have L:=jR (P:=P) (w:=w) ht (o:=i*sz'+off) hcells;simp only[cP]at L;exact⟨c,[],by simp only[execOp,ho,hv];simp[L.2 trivial c hc],(rD.acc n c hkc).Dj,by simp⟩
    ·cases h
   ·cases h
  ·rename_i k e sz' rows UR hH;split at h
   ·rename_i row hrow;split at h
    ·rename_i Kq;obtain⟨rfl,hk0,hoff⟩:=Kq;obtain⟨hsz,hrl,vk,cs,bs,IM,hown,hrs,hΘ,hz⟩:=hs.ob id _ hH;have qX:∀b∈bs,Θ b=0:=by cases k<;>first|exact hz|simp[RK.EZ]at hk0
     rw[hk]at IM;cases IM;have Jm:=rI hown;subst Jm;rw[cP]at hv;have IL:row.length=sz':=hrl row (aE hrow);have hcells:∀j c,cs[j]?=some c->w.cell? ⟨g,0+j,none⟩=some c:=by
      intro j c hj;have:=hown.cells (g:=g) (by simp[Value.ownBlock]) j c hj;simpa[Addr.add_lit]using this
     have L:=jR (P:=P) (w:=w) ht (o:=i*sz'+off) hcells;simp only[cP]at L;have Vc:=hrs.length;have hmid:=wS hrl hrow;have hlt:i<rows.length:=(aB.1 hrow).1;have hfl:=jN hrl;have hle:(i+1)*sz'<=rows.length*sz':=cr _ hlt;rw[gT,jG]at hle;unfold yH at h;split at h
     ·rename_i hag;subst hag;simp only[aK]at hoff;split at h
      ·rename_i hl;cases h;have hl':i*sz'+off+rQ P t<=cs.length:=by rw[Vc,hfl];omega
       obtain⟨b',hm,hsub⟩:=hrs.mid (i*sz'+off) (rQ P t);have e:(rows.flatten.drop (i*sz'+off)).take (rQ P t)=(row.drop off).take (rQ P t):=by
        rw[<-hmid,List.drop_take,nA,eC,dN (by omega)]
       rw[e]at hm;exact⟨_,b',by simp only[execOp,ho,hv];simp[L.1 rfl hl'],.of (.agg _ _ _ hm),fun y hy=>qX y (hsub y hy)⟩
      ·cases h
     ·rename_i hag;simp only[pV]at hag;subst hag;simp only[aP]at hoff;have e:rows.flatten[i*sz'+off]?=some d:=by
       rw[<-hmid,bg,av (by omega),dB]at h;exact h
      obtain⟨v,b',Mv,_,hr,hsub⟩:=hrs.at e;exact⟨v,b',by simp only[execOp,ho,hv];simp[L.2 rfl v Mv],.of hr,fun y hy=>qX y (hsub y hy)⟩
    ·cases h
   ·cases h
  ·cases h
 ·rename_i ag g o' ht hx;rw[hx]at r1;have hv:=r1.Im;split at h
  ·obtain⟨ds,⟨p,hp,hcs⟩,hd⟩:=Mk h;obtain⟨B,hB,_⟩:=hs.S3;obtain⟨_,cs,T,z,hg,hpc⟩:=hB _ hp;obtain⟨v,GL,hrd⟩:=hcs _ hpc _ _ hd;have hc:∀j c,cs.toList[j]?=some c->w.cell? ⟨g,0+j,none⟩=some c:=by
    intro j c hj;simp only[cP,World.cell?,hg];simpa using hj
   have L:=(jR (P:=P) (w:=w) ht (o:=o') hc).2 rfl v GL;rw[cP]at L;exact⟨v,[],by simp only[execOp,ho,hv];simp[L],.of (hrd w),by simp⟩
  ·cases h
 ·cases h
theorem FP{o:Oper}{t f:Nat}{x:Operand}{d:D}(hs:cX Γ st κ Θ a w)(ho:o.op=.field t x f)
 (h:pv P st (.field t x f)=some d):pQ P κ Θ a w o d:=by
 obtain⟨b1,r1,z1⟩:=hs.ev x;simp only[pv]at h;split at h
 ·rename_i off ft cells ht hx;rw[hx]at r1;obtain⟨cs,hv,hrs⟩:=r1.xC;unfold X8 at ht;split at ht
  ·rename_i fs hu;split at ht
   ·rename_i fl hfl;cases ht;split at h
    ·rename_i ag Vh;unfold yH at h;split at h
     ·rename_i hag;subst hag;split at h
      ·rename_i hl;cases h;obtain⟨b',hm,hsub⟩:=hrs.mid fl.offset (rQ P fl.type) hl;refine⟨.agg ((cs.drop fl.offset).take (rQ P fl.type)).toArray,b',?_,.v (.agg _ _ _ hm),fun y hy=>z1 y (hsub y hy)⟩;have e:cs.toArray.extract fl.offset (fl.offset+rQ P fl.type)=((cs.drop fl.offset).take (rQ P fl.type)).toArray:=by
        rw[List.extract_toArray,List.extract_eq_take_drop];congr 1;congr 1;omega
       simp only[execOp,ho,hv];simp[Instr.field,run_underlying hu,hfl,asAgg,part,xI Vh,oI (zk Vh),e]
      ·cases h
     ·rename_i hag;simp only[pV]at hag;subst hag;obtain⟨v,b',GL,_,hr,hsub⟩:=hrs.at h;refine⟨v,b',?_,.v (.cell hr),fun y hy=>z1 y (hsub y hy)⟩;simp only[execOp,ho,hv];simp[Instr.field,run_underlying hu,hfl,asAgg,part,xI Vh,GL]
    ·cases h
   ·cases ht
  ·cases ht
 ·cases h
theorem Bf{o:Oper}{t f:Nat}{x:Operand}{d:D}(hs:cX Γ st κ Θ a w)(ho:o.op=.fieldAddr t x f)
 (h:pv P st (.fieldAddr t x f)=some d):pQ P κ Θ a w o d:=by
 obtain⟨b1,r1,z1⟩:=hs.ev x;have hf:∀ {o':Nat},WM P t f=some o'->∀(b off:Nat),(Instr.fieldAt t (.pointer (some ⟨b,off,none⟩)) f).run P w=.ok (.pointer (some ⟨b,off+o',none⟩)) w:=by
  intro o' h b off;unfold WM at h;split at h
  ·rename_i fs hu;split at h
   ·rename_i fl hfl;split at h
    ·rename_i hc;cases h;obtain⟨i,hi⟩:=cu.1 hc.1;have hsz:=oI (P:=P) ⟨i,hi⟩ w;have h0:rQ P fl.type≠0:=hc.2;simp[Instr.fieldAt,run_underlying hu,hfl,Instr.sureAddr,fieldPlace,hsz,h0,Addr.add_lit]
    ·cases h
   ·cases h
  ·cases h
 simp only[pv]at h;split at h
 ·rename_i o' id off ht hx;cases h;rw[hx]at r1;obtain⟨g,hk,hv⟩:=r1.rJ;exact⟨_,[],by simp only[execOp,ho,hv];simp[hf ht g off],(rD.ptr id (off+o') g hk).Dj,by simp⟩
 ·rename_i o' row off ht hx;cases h;rw[hx]at r1;have hrd:=r1.Gd;generalize IN:a.eval x=vx at hrd;cases hrd with
  |ep b base cs _ _ bs h0 hc hrs=>
   refine⟨.pointer (some ⟨b,base+off+o',none⟩),b::bs,by simp only[execOp,ho,IN];simp[hf ht b (base+off)],?_,z1⟩;rw[gl];exact .of (.ep b base cs row (off+o') bs h0 hc hrs)
 ·rename_i o' id i sz off ht hx;cases h;rw[hx]at r1;obtain⟨g,o0,len,cap,hk,hv⟩:=r1.wm;refine⟨.pointer (some ⟨g,o0+(i*sz+off)+o',none⟩),[],by simp only[execOp,ho,hv];simp[hf ht g (o0+(i*sz+off))],?_,by simp⟩;rw[gl,gl];exact(rD.op id i sz (off+o') g o0 len cap hk).Dj
 ·cases h
theorem kD{t e sz:Nat}(h:xJ P t=some (e,sz)):P.underlying t=some (.slice e)/\(∃i,P.info? e=some i)/\rQ P e=sz:=by
 unfold xJ at h;split at h
 ·rename_i e' hu;split at h
  ·rename_i hi;cases h;exact⟨hu,cu.1 hi,rfl⟩
  ·cases h
 ·cases h
theorem Bl{o:Oper}{t:Nat}{x i:Operand}{d:D}(hs:cX Γ st κ Θ a w)(ho:o.op=.indexAddr t x i)
 (h:pv P st (.indexAddr t x i)=some d):pQ P κ Θ a w o d:=by
 obtain⟨b1,r1,z1⟩:=hs.ev x;obtain⟨b2,r2,z2⟩:=hs.ev i;simp only[pv]at h;split at h
 ·rename_i e sz rows k n ht hx hi;rw[hx]at r1;rw[hi]at r2;have hn:=r2.lK;obtain⟨hu,B1,zj⟩:=kD ht;have hsz:=oI (P:=P) B1 w;split at h
  ·rename_i h0;split at h
   ·rename_i row hrow;split at h
    ·rename_i hlen;cases h;have hrd:=r1.Ek;have hlt:n.toNat<rows.length:=(aB.1 hrow).1;generalize IN:a.eval x=vx at hrd;cases hrd with
     |qz=>simp at hrow
     |jo=>simp at hrow
     |sl b off cap sz' _ cs bs hb hcap yj hrl hc hrs=>
      have Vg:sz'=sz:=by rw[<-hrl row (aE hrow)];exact hlen
      subst Vg;obtain⟨b',hm,hsub⟩:=hrs.mid (n.toNat*sz') sz';rw[wS hrl hrow]at hm;have hn':0<=n/\n<(rows.length:Int):=⟨h0,by omega⟩
      refine⟨.pointer (some ⟨b,off+n.toNat*sz',none⟩),b::b',?_,?_,?_⟩
      ·simp only[execOp,ho,IN,hn];simp[Instr.indexAt,asIntOf,run_underlying hu,hn',hsz,zj,Addr.add_lit]
      ·have Vd:∀j c,((cs.drop (n.toNat*sz')).take sz')[j]?=some c->w.cell? ⟨b,off+n.toNat*sz'+j,none⟩=some c:=by
        intro j c hj;rw[bg]at hj;split at hj
        ·rw[dB]at hj;rw[gl];exact hc _ _ hj
        ·cases hj
       exact .of (.ep b (off+n.toNat*sz') _ row 0 b' hb Vd hm)
      ·intro y hy;rcases au.1 hy with rfl|hy
       ·exact z1 _ (by simp)
       ·exact z1 _ (by simp[hsub y hy])
    ·cases h
   ·cases h
  ·cases h
 ·rename_i e sz id k n ht hx hi;rw[hx]at r1;rw[hi]at r2;have hn:=r2.lK;obtain⟨hv,_⟩:=r1.oL;obtain⟨hu,B1,zj⟩:=kD ht;have hsz:=oI (P:=P) B1 w;split at h
  ·rename_i dp e' sz' rows hH;split at h
   ·rename_i hc;cases h;obtain⟨rfl,h0,hlt⟩:=hc;obtain⟨Qj,hrl,vk,cs,bs,IM,hown,hrs,hΘ,hz⟩:=hs.ob id _ hH;rw[hv]at IM;cases IM;rcases hown.2 with⟨oF,qX⟩|⟨g,cap,cur,hkv,_⟩
    ·omega
    ·have hn':0<=n/\n<(rows.length:Int):=⟨h0,by omega⟩
     refine⟨_,[],?_,(rD.op id n.toNat sz 0 g 0 _ _ (hkv▸hv)).Dj,by simp⟩;simp only[execOp,ho,hn,hkv];simp[Instr.indexAt,asIntOf,run_underlying hu,hn',hsz,zj,Addr.add_lit]
   ·cases h
  ·cases h
 ·rename_i g o' kk n hx hi;rw[hx]at r1;rw[hi]at r2;have hn:=r2.lK;have hv:=r1.Im;split at h
  ·rename_i sz len hT;split at h
   ·rename_i hc;cases h;obtain⟨h0,hlt⟩:=hc;unfold Re at hT;split at hT
    ·rename_i len' e hu;split at hT
     ·rename_i B1;cases hT;have hsz:=oI (P:=P) (cu.1 B1) w;have hn':0<=n/\n<(len:Int):=⟨h0,by omega⟩
      refine⟨_,[],?_,.of (.val _),by simp⟩;simp only[execOp,ho,hn,hv];simp[Instr.indexAt,Instr.sureAddr,asIntOf,run_underlying hu,hn',hsz,rQ,Addr.add_lit]
     ·cases hT
    ·cases hT
   ·cases h
  ·cases h
 ·cases h
theorem JO{o:Oper}{t t':Nat}{x y:Operand}{d:D}(hs:cX Γ st κ Θ a w)(ho:o.op=.call {callee:=.builtin .min,args:= #[x,y],argTypes:= #[t,t']})
 (h:RI (st.ev x) (st.ev y)=some d):pQ P κ Θ a w o d:=by
 obtain⟨b1,r1,z1⟩:=hs.ev x;obtain⟨b2,r2,z2⟩:=hs.ev y;unfold RI at h;split at h
 ·rename_i k m k' n hx hy;split at h
  ·rename_i hk;subst hk;cases h;rw[hx]at r1;rw[hy]at r2;have e1:=r1.lK;have e2:=r2.lK;refine⟨.int k (EN m n),[],?_,.of (.int _ _ ?_),by simp⟩
   ·simp only[execOp,ho,resolve,invoke,builtin,jw,b8,bV,e1,e2];simp[Builtin.min_,Builtin.min2,EN]
   ·unfold EN;split
    ·exact r2.CP
    ·exact r1.CP
  ·cases h
 ·cases h
theorem JK{o:Oper}{t:Nat}{x:Operand}{d:D}(hs:cX Γ st κ Θ a w)(ho:o.op=.call {callee:=.builtin .len,args:= #[x],argTypes:= #[t]})
 (h:O8 P st x t=some d):pQ P κ Θ a w o d:=by
 obtain⟨b1,r1,z1⟩:=hs.ev x;unfold O8 at h;split at h
 ·rename_i s hx;split at h
  ·rename_i ht;cases h;rw[hx]at r1;obtain⟨u,hv,rfl⟩:=r1.nZ;have hu:P.underlying t=some .string:=by
    unfold BC at ht;split at ht
    ·assumption
    ·cases ht
   refine⟨.int .i64 (u.data.toList.length:Nat),[],?_,.of (.int _ _ (EX r1.Ma)),by simp⟩;simp only[execOp,ho,resolve,invoke,builtin,jw,b8,bV,hv];simp[Builtin.len_,run_underlying hu,goInt]
  ·cases h
 ·rename_i rows hx;split at h
  ·rename_i ht;cases h;rw[hx]at r1;obtain⟨⟨e,sz⟩,ht⟩:=cu.1 ht;obtain⟨hu,_,_⟩:=kD ht;have hrd:=r1.Ek;generalize IN:a.eval x=vx at hrd;have hlen:∃q c,vx=.slice q rows.length c:=by
    cases hrd with
    |qz=>exact⟨_,_,rfl⟩
    |jo=>exact⟨_,_,rfl⟩
    |sl=>exact⟨_,_,rfl⟩
   have yj:rows.length<=maxLen:=by
    cases hrd with
    |qz=>simp
    |jo=>simp
    |sl b off cap sz _ cs bs hb h1 h2=>omega
   obtain⟨q,c,rfl⟩:=hlen;refine⟨.int .i64 rows.length,[],?_,.of (.int _ _ (EX yj)),by simp⟩;simp only[execOp,ho,resolve,invoke,builtin,jw,b8,bV,IN];simp[Builtin.len_,run_underlying hu,goInt]
  ·cases h
 ·rename_i hx;split at h
  ·rename_i ht;cases h;rw[hx]at r1;obtain⟨⟨e,sz⟩,ht⟩:=cu.1 ht;obtain⟨hu,_,_⟩:=kD ht;have hv:=r1.zx;refine⟨.int .i64 0,[],?_,.of (.int _ _ (nk.zero _)),by simp⟩;simp only[execOp,ho,resolve,invoke,builtin,jw,b8,bV,hv];simp[Builtin.len_,run_underlying hu,goInt]
  ·cases h
 ·rename_i id hx;split at h
  ·rename_i p dp e' sz' rows ht hH;cases h;rw[hx]at r1;obtain⟨hv,_⟩:=r1.oL;obtain⟨e,sz⟩:=p;obtain⟨hu,_,_⟩:=kD ht;obtain⟨Qj,hrl,vk,cs,bs,IM,hown,hrs,hΘ,hz⟩:=hs.ob id _ hH;rw[hv]at IM;cases IM;have hlen:∃q c,a.eval x=.slice q rows.length c:=by
    rcases hown.2 with⟨oF,qX⟩|⟨g,cap,cur,hkv,_⟩
    ·exact⟨none,0,by rw[oF,qX]⟩
    ·exact⟨_,_,hkv⟩
   have yj:rows.length<=maxLen:=by
    rcases hown.2 with⟨oF,qX⟩|⟨g,cap,cur,hkv,_,_,h1,h2,_⟩
    ·omega
    ·omega
   obtain⟨q,c,hk⟩:=hlen;refine⟨.int .i64 rows.length,[],?_,.of (.int _ _ (EX yj)),by simp⟩;simp only[execOp,ho,resolve,invoke,builtin,jw,b8,bV,hk];simp[Builtin.len_,run_underlying hu,goInt]
  ·cases h
 ·cases h
theorem uZ.at{vs:b9}{ds:aG}{bs:aI}(h:uZ w κ vs ds bs){i:Nat}{d:D}(hd:ds[i]?=some d):
 ∃v b,vs[i]?=some v/\C1 w κ v d b/\∀x∈b,x∈bs:=by
 induction ds generalizing vs bs i with
 |nil=>simp at hd
 |cons e ds ih=>
  cases h with
  |cons v vs _ _ b1 b2 h2 h3=>
   cases i with
   |zero=>simp at hd;subst hd;exact⟨v,b1,by simp,h2,by intro x hx;simp[hx]⟩
   |succ i=>
    simp at hd;obtain⟨u,b,k1,k3,k4⟩:=ih h3 hd;exact⟨u,b,by simpa using k1,k3,fun x hx=>by simp[k4 x hx]⟩
theorem lf.OV{v:Value}{ds:aG}{bs:aI}(h:lf w κ v (.gj ds) bs):∃vs:b9,v=.tuple vs.toArray/\uZ w κ vs ds bs:=by
 cases h with
 |v h=>cases h with|cell h=>cases h with|pure h=>cases h
 |gj vs _ _ h=>exact⟨vs,rfl,h⟩
theorem D5{o:Oper}{i:Nat}{x:Operand}{d:D}(hs:cX Γ st κ Θ a w)(ho:o.op=.extract x i)
 (h:pv P st (.extract x i)=some d):pQ P κ Θ a w o d:=by
 obtain⟨b1,r1,z1⟩:=hs.ev x;simp only[pv]at h;split at h
 ·rename_i vs hx;rw[hx]at r1;obtain⟨us,hv,hr⟩:=r1.OV;obtain⟨v,b,k1,k2,k3⟩:=hr.at h;exact⟨v,b,by simp only[execOp,ho,hv];simp[Instr.extract,k1],.v k2,fun y hy=>z1 y (k3 y hy)⟩
 ·cases h
theorem pu{t:Nat}(ht:BC P t=true):P.underlying t=some .string:=by
 unfold BC at ht;split at ht
 ·assumption
 ·cases ht
theorem Fe{o:Oper}{t:Nat}{x i:Operand}{d:D}(hs:cX Γ st κ Θ a w)(ho:o.op=.index t x i)
 (h:pv P st (.index t x i)=some d):pQ P κ Θ a w o d:=by
 obtain⟨b1,r1,z1⟩:=hs.ev x;obtain⟨b2,r2,z2⟩:=hs.ev i;simp only[pv]at h;split at h
 ·rename_i s k n ht hx hi;rw[hx]at r1;rw[hi]at r2;obtain⟨u,hv,rfl⟩:=r1.nZ;have hn:=r2.lK;have hu:=pu ht;split at h
  ·rename_i h0;split at h
   ·rename_i b hb;cases h;have hlt:n.toNat<u.size:=by
     have:=(aB.1 hb).1;simpa using this
    have Gn:u[n.toNat]?=some b:=by
     have hb':u.data[n.toNat]?=some b:=by simpa using hb
     rw[getElem?_pos u n.toNat hlt];rw[aX]at hb';obtain⟨_,he⟩:=hb';rw[<-he];rfl
    refine⟨.int .u8 b.toNat,[],?_,.of (.int _ _ (nk.u8.2 (by have:=b.toNat_lt;omega))),by simp⟩;simp only[execOp,ho,hv,hn];simp[Instr.index,asIntOf,run_underlying hu,h0,Gn]
   ·cases h
  ·cases h
 ·cases h
theorem Eg{lo hi:Option Operand}{l h':Nat}{isSlice:Bool}{len cap:Nat}(hs:cX Γ st κ Θ a w)
 (hlc:len<=cap) (h:oH len (lo.map st.ev) (hi.map st.ev)=some (l,h')):
 (Instr.sliceBounds isSlice len cap (lo.map a.eval) (hi.map a.eval) none).run P w=.ok (l,h',cap) w/\l<=h'/\h'<=len:=by
 have hv:∀ {x:Operand} {k:IntKind} {n:Int},st.ev x=.int k n->a.eval x=.int k n:=by
  intro x k n hx;obtain⟨b,r,_⟩:=hs.ev x;rw[hx]at r;exact r.lK
 unfold oH at h;cases hi with
 |none=>
  simp only[qd]at h⊢;cases lo with
  |none=>
   simp only[qd,aS,bq]at h⊢;obtain⟨rfl,rfl⟩:=h;exact⟨by simp[Instr.sliceBounds],by omega,by omega⟩
  |some lo=>
   simp only[bp]at h⊢;cases hlo:st.ev lo<;>simp only[hlo,reduceCtorEq]at h;rename_i k n;split at h
   ·cases h
   ·rename_i l0 hm;split at hm
    ·rename_i hb;cases hm;cases h;have GJ:0<=n/\n<=(h':Int):=⟨hb.1,by omega⟩
     exact⟨by simp[Instr.sliceBounds,Instr.sliceBound,hv hlo,asIntOf,GJ],hb.2,by omega⟩
    ·cases hm
 |some hi=>
  simp only[bp]at h⊢;cases hhi:st.ev hi<;>simp only[hhi,reduceCtorEq]at h;rename_i k m;split at h
  ·cases h
  ·rename_i h0 hm;split at hm
   ·rename_i hb;cases hm;have GJ:0<=m/\m<=(cap:Int):=⟨hb.1,by omega⟩
    cases lo with
    |none=>
     simp only[qd,aS,bq]at h⊢;obtain⟨rfl,rfl⟩:=h;exact⟨by simp[Instr.sliceBounds,Instr.sliceBound,hv hhi,asIntOf,GJ],by omega,hb.2⟩
    |some lo=>
     simp only[bp]at h⊢;cases hlo:st.ev lo<;>simp only[hlo,reduceCtorEq]at h;rename_i k' n;split at h
     ·cases h
     ·rename_i l0 hm;split at hm
      ·rename_i IE;cases hm;cases h;have Xs:0<=n/\n<=max m 0:=⟨IE.1,by omega⟩
       exact⟨by simp[Instr.sliceBounds,Instr.sliceBound,hv hhi,hv hlo,asIntOf,GJ,Xs],IE.2,hb.2⟩
      ·cases hm
   ·cases hm
theorem MC{rows:List aG}{sz l h':Nat}(hrl:∀r∈rows,r.length=sz)(h1:l<=h')(h2:h'<=rows.length):
 ((rows.take h').drop l).flatten=(rows.flatten.drop (l*sz)).take ((h'-l)*sz):=by
 have e:rows=(rows.take l)++(((rows.take h').drop l)++rows.drop h'):=by
  have hA:rows.take h'=(rows.take h').take l++(rows.take h').drop l:=(bR _ _).symm;have hB:(rows.take h').take l=rows.take l:=by rw[nA,dN h1]
  rw[hB]at hA;rw[<-eP,<-hA,bR]
 have l1:(rows.take l).flatten.length=l*sz:=by
  rw[jN (fun r hr=>hrl r (bC hr)),bK,dN (by omega)]
 have l2:((rows.take h').drop l).flatten.length=(h'-l)*sz:=by
  rw[jN (fun r hr=>hrl r (bC (cM hr))),jv,bK,dN (by omega)]
 have hf:rows.flatten=(rows.take l).flatten++(((rows.take h').drop l).flatten++(rows.drop h').flatten):=by
  rw[<-fZ,<-fZ,<-e]
 rw[hf,dw l1,fL l2]
theorem G9{o:Oper}{t:Nat}{x:Operand}{lo hi:Option Operand}{d:D}(hs:cX Γ st κ Θ a w)(ho:o.op=.slice t x lo hi none)
 (h:pv P st (.slice t x lo hi none)=some d):pQ P κ Θ a w o d:=by
 obtain⟨b1,r1,z1⟩:=hs.ev x;simp only[pv]at h;split at h
 ·rename_i s hx;rw[hx]at r1;obtain⟨u,hv,rfl⟩:=r1.nZ;split at h
  ·rename_i ht;have hu:=pu ht;split at h
   ·rename_i l h' hc;cases h;obtain⟨hr,hl,hh⟩:=Eg (P:=P) (isSlice:=false) (cap:=u.data.toList.length) hs (bM _) hc;have hsz:u.data.toList.length=u.size:=by simp
    rw[hsz]at hr;refine⟨.string (u.extract l h'),[],?_,?_,by simp⟩
    ·simp only[execOp,ho,hv];simp[Instr.sliceAt,Instr.slice,run_underlying hu,hr]
    ·have:=Rd.str (w:=w) (u.extract l h') (by
      have h1:=r1.Ma;simp at h1⊢;omega)
     have e:(u.extract l h').data.toList=(u.data.toList.take h').drop l:=by
      simp[ByteArray.data_extract,List.drop_take]
     rw[e]at this;exact .of this
   ·cases h
  ·cases h
 ·rename_i rows hx;rw[hx]at r1;have hrd:=r1.Ek;split at h
  ·rename_i e sz l h' ht hc;split at h
   ·rename_i hall;cases h;obtain⟨hu,B1,zj⟩:=kD ht;have hsz:=oI (P:=P) B1 w;have hrl:∀r∈rows,r.length=sz:=by
     intro r hr;have:=aQ.1 hall r hr;simpa using this
    generalize IN:a.eval x=vx at hrd;have main:∀(q:Option Addr) (cap:Nat),vx=.slice q rows.length cap->rows.length<=cap->
     (execOp a.eval o).run P w=.ok (.value (.slice (if cap=l then q else q.map (·.add (l*sz))) (h'-l) (cap-l))) w/\l<=h'/\h'<=rows.length:=by
     intro q cap hq hcap;obtain⟨hr,hl,hh⟩:=Eg (P:=P) (isSlice:=true) (cap:=cap) hs hcap hc;refine⟨?_,hl,hh⟩;simp only[execOp,ho,IN,hq];simp[Instr.sliceAt,Instr.slice,run_underlying hu,hr,hsz,zj]
    cases hrd with
    |qz=>
     obtain⟨hr,hl,hh⟩:=main none 0 rfl (by simp);simp only[bH]at hh;have e1:h'=0:=by omega
     have e2:l=0:=by omega
     subst e1;subst e2;exact⟨_,[],hr,by simpa using lf.of (κ:=κ) (Rd.qz (w:=w)),by simp⟩
    |jo ad cap hm=>
     obtain⟨hr,hl,hh⟩:=main (some ad) cap rfl (by simp);simp only[bH]at hh;have e1:h'=0:=by omega
     have e2:l=0:=by omega
     subst e1;subst e2;refine⟨_,[],hr,?_,by simp⟩;have:(if cap=0 then some ad else(some ad).map (·.add (0*sz)))=some ad:=by simp[Addr.add]
     rw[this];exact .of (by simpa using Rd.jo (w:=w) ad cap hm)
    |sl b off cap sz' _ cs bs hb hcap yj Bj Xx hrs=>
     obtain⟨hr,hl,hh⟩:=main (some ⟨b,off,none⟩) cap rfl hcap;by_cases he:h'=l
     ·subst he;refine⟨_,[],hr,?_,by simp⟩;have e1:(rows.take h').drop h'=[]:=by simp
      rw[e1,nP];split
      ·exact .of (.jo _ _ (by omega))
      ·simp only[bp];exact .of (.jo _ _ (by omega))
     ·have hne:cap≠l:=by omega
      rw[ai hne,bp,Addr.add_lit]at hr;obtain⟨b',hm,hsub⟩:=hrs.mid (l*sz) ((h'-l)*sz);rw[<-MC hrl hl hh]at hm;refine⟨_,b::b',hr,?_,?_⟩
      ·have hlen:((rows.take h').drop l).length=h'-l:=by simp;omega
       rw[<-hlen];refine .of (.sl b (off+l*sz) (cap-l) sz _ _ b' hb (by omega) (by omega) (fun r hr=>hrl r (bC (cM hr))) ?_ hm);intro j c hj;rw[bg]at hj;split at hj
       ·rw[dB]at hj;rw[gl];exact Xx _ _ hj
       ·cases hj
      ·intro y hy;rcases au.1 hy with rfl|hy
       ·exact z1 _ (by simp)
       ·exact z1 _ (by simp[hsub y hy])
   ·cases h
  ·cases h
 ·cases h
theorem Dd{v:Value}(h:v.oneCell'=true):v.cells.toList=[v]:=by
 cases v<;>first|rfl|cases h
theorem rD.one{v:Value}{d:D}{bs:aI}(h:rD w κ v d bs)(hk:∀(id:Nat) u,κ id=some u->u.oneCell'=true)(hna:∀es,d≠ .agg es)(hc:d.cellsOf=some [d]):v.oneCell'=true:=by
 cases h with
 |pure h=>
  cases h<;>first
   |rfl
   | (exfalso;exact hna _ rfl)
   | (simp[D.cellsOf]at hc;done)
   | (simp only[D.cellsOf]at hc;split at hc<;>first|assumption|cases hc)
 |acc i v h=>exact hk i v h
 |ptr=>rfl
 |op=>rfl
theorem tZ{v:Value}{d:D}{bs:aI}{ds:aG}(hk:∀(id:Nat) u,κ id=some u->u.oneCell'=true)(h:lf w κ v d bs)(hc:d.cellsOf=some ds):dQ w κ v.cells.toList ds bs:=by
 have single:∀ {v d bs},rD w κ v d bs->(∀es,d≠ .agg es)->d.cellsOf=some [d]->dQ w κ v.cells.toList [d] bs:=by
  intro v d bs h hna hc;have h1:=h.one hk hna hc;rw[Dd h1];have:=dQ.cons v [] d [] bs [] h1 h .nil;simpa using this
 cases h with
 |gj=>simp[D.cellsOf]at hc
 |v h=>
  cases h with
  |agg cs _ _ h=>simp only[D.cellsOf,aS]at hc;subst hc;simpa[Value.cells]using h
  |cell h=>
   by_cases mr:∃es,d=.agg es
   ·obtain⟨es,rfl⟩:=mr;simp only[D.cellsOf,aS]at hc;subst hc;cases h with
    |pure h=>cases h with|agg cs _ _ h=>simpa[Value.cells]using dQ.vH (κ:=κ) h
   ·have e:ds=[d]:=by
     cases d<;>simp only[D.cellsOf,aS,reduceCtorEq]at hc<;>first
      |exact hc.symm
      | (exfalso;exact mr ⟨_,rfl⟩)
      | (split at hc<;>first| (simp at hc;exact hc.symm)|cases hc)
    subst e;exact single h (fun es he=>mr ⟨es,he⟩) hc
theorem pz{T:TypeId}{zs:aG}(hz:tz P T=some zs):∃i z,P.info? T=some i/\i.zero=some z/\z.cells.size=i.size/\zs.length=i.size/\(∀c∈z.cells.toList,c.oneCell'=true)/\zs=z.cells.toList.map D.Fz:=by
 unfold tz at hz;split at hz
 ·rename_i i hi;split at hz
  ·rename_i z Cu;split at hz
   ·rename_i hc;cases hz;simp only[aN,aQ,cD]at hc;exact⟨i,z,hi,Cu,hc.2,by simp[hc.2],hc.1,rfl⟩
   ·cases hz
  ·cases hz
 ·cases hz
theorem uF(cs:b9)(h:∀c∈cs,c.oneCell'=true):dQ w κ cs (cs.map D.Fz) []:=by
 induction cs with
 |nil=>exact .nil
 |cons c cs ih=>
  have hrd:Rd w c (D.Fz c) []:=by
   unfold D.Fz;split
   ·exact .bool _
   ·split
    ·rename_i h;exact .int _ _ h
    ·exact .val _
   ·split
    ·rename_i h;exact .str _ h
    ·exact .val _
   ·exact .nil
   ·exact .val _
  have:=dQ.cons (κ:=κ) c cs _ _ [] [] (h c (by simp)) (.pure hrd) (ih (fun x hx=>h x (by simp[hx])));simpa using this
theorem foldl_set(off:Nat):∀(vs:b9) (k:Nat) (cells:Array Value),off+k+vs.length<=cells.size->
 ((vs.zipIdx k).foldl (fun cs (x:Value×Nat)=>cs.setIfInBounds (off+x.2) x.1) cells).toList=cells.toList.take (off+k)++vs++cells.toList.drop (off+k+vs.length):=by
 intro vs
 induction vs with
 |nil=>intro k cells _;simp
 |cons v vs ih=>
  intro k cells h;simp only[aO]at h;rw[List.zipIdx_cons,qZ,ih (k+1) _ (by simp;omega)];simp only[Array.toList_setIfInBounds,aO];have hlt:off+k<cells.toList.length:=by simp;omega
  rw[show off+(k+1)=off+k+1 from by omega,List.take_set,List.drop_set,av (by omega)];rw[show off+k+1+vs.length=off+k+(vs.length+1)from by omega]
  congr 1
  rw[show v::vs=[v]++vs from rfl,<-eP]
  congr 1
  rw[List.take_succ_eq_append_getElem hlt,pP _ _ (by simp;omega)];have:(List.take (off+k) cells.toList).length=off+k:=by rw[bK];omega
  rw[this,nP];rfl
theorem I8(hs:cX Γ st κ Θ a w){places:List (Nat×Nat)}:∀(parts:List (Nat×Operand)) (cs:Array Value) (cells ds:aG) (bs:aI),
 dQ w κ cs.toList cells bs->(∀b∈bs,Θ b=0)->qS places cells (parts.map fun p=>(p.1,st.ev p.2))=some ds->
 ∃arr bs',Instr.fill (places.toArray[·]?) cs (parts.map fun p=>(p.1,a.eval p.2))=some arr/\dQ w κ arr.toList ds bs'/\∀b∈bs',Θ b=0:=by
 intro parts
 induction parts with
 |nil=>
  intro cs cells ds bs hr hz hf;simp only[bV,qS,aS]at hf;subst hf;exact⟨cs,bs,rfl,hr,hz⟩
 |cons p parts ih=>
  intro cs cells ds bs hr hz hf
  ·obtain⟨i,x⟩:=p;obtain⟨b,hv,hb⟩:=hs.ev x;generalize UT:a.eval x=v at hv;simp only[b8,qS]at hf;split at hf
   ·rename_i off sz es hpl Y1;split at hf
    ·rename_i hc;have hcs:=tZ hs.kC hv Y1;have hl1:=hcs.length;have uP:=hr.length;have e:cells=cells.take off++((cells.drop off).take sz++(cells.drop off).drop sz):=by rw[bR,bR]
     rw[e]at hr;obtain⟨v1,v2,c1,c2,Bk,rfl,k1,k2⟩:=hr.split;obtain⟨v3,v4,c3,c4,rfl,rfl,k3,k4⟩:=k2.split;have l1:v1.length=off:=by rw[k1.length];simp;omega
     have l3:v3.length=sz:=by rw[k3.length];simp;omega
     have hvs:v.cells.size=sz:=by rw[<-hc.1,<-hl1];simp
     have hcl:cs.size=cells.length:=by rw[<-uP];simp
     have Ku:=foldl_set off v.cells.toList 0 cs (by simp;omega);simp only[rA,nj,hvs]at Ku;have e1:cs.toList.take off=v1:=by rw[Bk];exact fL l1
     have e4:cs.toList.drop (off+sz)=v4:=by rw[Bk,<-eC,dw l1];exact dw l3
     rw[e1,e4]at Ku;rw[eC]at k4;have hnew:=(k1.app hcs).app k4;obtain⟨arr,bs',h1,h2,h3⟩:=ih (v.cells.zipIdx.foldl (fun cs (x:Value×Nat)=>cs.setIfInBounds (off+x.2) x.1) cs) _ ds ((c1++b)++c4)
      (by rw[<-Array.foldl_toList,Array.toList_zipIdx,Ku];exact hnew)
      (by
       intro x hx;simp only[aH]at hx;rcases hx with(hx|hx)|hx
       ·exact hz x (by simp[hx])
       ·exact hb x hx
       ·exact hz x (by simp[hx])) hf
     refine⟨arr,bs',?_,h2,h3⟩;simp only[b8,Instr.fill,dW,hpl,UT];rw[ai (by simp;omega)];simpa using h1
    ·cases hf
   ·cases hf
theorem FH{o:Oper}{t:TypeId}{parts:Array (Nat×Operand)}{d:D}(hs:cX Γ st κ Θ a w)(ho:o.op=.build t parts)
 (h:pv P st (.build t parts)=some d):pQ P κ Θ a w o d:=by
 simp only[pv]at h;split at h
 ·rename_i zs ps hz hp;cases hf:qS ps zs (parts.toList.map fun p=>(p.1,st.ev p.2))with
  |none=>simp[hf]at h
  |some ds=>
   simp only[hf,bp,aS]at h;subst h;obtain⟨i,z,hi,qX,hsz,hlen,hone,rfl⟩:=pz hz;obtain⟨arr,bs',h1,h2,h3⟩:=I8 hs parts.toList z.cells _ ds [] (uF z.cells.toList hone) (by simp) hf;have hb:P.built t (parts.map fun(i,x)=>(i,a.eval x)).toList=some arr:=by
    unfold Ii at hp;split at hp
    ·rename_i fs hu;unfold Program.built;simp only[hi,hu,qX,hp];rw[ec];exact h1
    ·cases hp
   refine⟨.agg arr,bs',?_,?_,h3⟩
   ·simp only[execOp,ho];simp[run_build w t _ arr hb]
   ·have:=C1.agg (w:=w) (κ:=κ) arr.toList ds bs' h2;exact .v (by simpa using this)
 ·cases h
theorem run_equalIn_bool{t:TypeId}{a b:Bool}(h:P.underlying t=some .bool)(d:Nat):(Op.equalIn (d+1) t (.bool a) (.bool b)).run P w=.ok (a==b) w:=by
 simp[Op.equalIn,run_underlying h]
theorem vI{t:TypeId}{a b:ByteArray}(h:P.underlying t=some .string)(d:Nat):(Op.equalIn (d+1) t (.string a) (.string b)).run P w=.ok (a==b) w:=by
 simp[Op.equalIn,run_underlying h]
theorem AA{t:TypeId}(h:BC P t=true){xs:Array Value}{off:Nat}{v:Value}(hx:xs[off]?=some v):(part t xs off).run P w=.ok v w:=by
 simp[part,isAgg,run_underlying (pu h),hx]
theorem BA{t:TypeId}{a b c e:ByteArray}(h:Ih P t=true)(d:Nat):(Op.equalIn (d+2) t (.agg #[.string a,.string b]) (.agg #[.string c,.string e])).run P w=.ok (a==c&&b==e) w:=by
 unfold Ih at h;split at h
 ·rename_i fs hu;split at h
  ·rename_i f g hfs;simp only[aN,bne_iff_ne,ne_eq,cD,jT]at h;obtain⟨⟨⟨⟨⟨⟨⟨h1,h2⟩,h3⟩,h4⟩,h5⟩,h6⟩,h7⟩,h8⟩:=h;have VD:fs= #[f,g]:=by apply lM.mp;simpa using hfs
   subst VD;have p1:=fun(xs:Array Value) (v:Value) (hx:xs[0]?=some v)=>AA (w:=w) h5 hx
   have p2:=fun(xs:Array Value) (v:Value) (hx:xs[1]?=some v)=>AA (w:=w) h6 hx
   have q1:=vI (P:=P) (w:=w) (a:=a) (b:=c) (pu h5) d;have q2:=vI (P:=P) (w:=w) (a:=b) (b:=e) (pu h6) d;rw[Op.equalIn];generalize(a==c)=r1 at q1⊢;generalize(b==e)=r2 at q2⊢;cases r1<;>cases r2<;>simp[run_underlying hu,h7,h1,h2,h3,h4,p1,p2,q1,q2]
  ·cases h
 ·cases h
theorem dQ.Ik{κ:Nat->Option Value}{cs:b9}{p q:Bytes}{bs:aI}(h:dQ w κ cs [.str p,.str q] bs):∃u v:ByteArray,cs=[.string u,.string v]/\u.data.toList=p/\v.data.toList=q:=by
 cases h with
 |cons v1 vs _ _ b1 b2 _ h1 h2=>
  cases h2 with
  |cons v2 vs' _ _ b3 b4 _ h3 h4=>
   cases h4;obtain⟨u,rfl,hu⟩:=(lf.v (.cell h1):lf w κ _ _ _).nZ;obtain⟨v,rfl,hv⟩:=(lf.v (.cell h3):lf w κ _ _ _).nZ;exact⟨u,v,rfl,hu,hv⟩
theorem KN(u v:ByteArray):(u==v)=(u.data==v.data):=by cases u;cases v;rfl
theorem JS{o:Oper}{op:BinOp}{t t':TypeId}{x y:Operand}{d:D}(hs:cX Γ st κ Θ a w)(ho:o.op=.binOp op t x y t')
 (h:peq P op t (st.ev x) (st.ev y)=some d):pQ P κ Θ a w o d:=by
 obtain⟨b1,r1,_⟩:=hs.ev x;obtain⟨b2,r2,_⟩:=hs.ev y;generalize st.ev x=dx at*;generalize st.ev y=dy at*;unfold peq at h;split at h
 ·rename_i p q;split at h
  ·rename_i hb;have hu:P.underlying t=some .bool:=by
    unfold Ps at hb;split at hb
    ·assumption
    ·cases hb
   have e1:=r1.oz;have e2:=r2.oz;have hq:=run_equalIn_bool (P:=P) (w:=w) (a:=p) (b:=q) hu 9999;have q':(Op.equal t (.bool p) (.bool q)).run P w=.ok (p==q) w:=hq;cases op<;>simp only[aS,reduceCtorEq]at h
   all_goals subst h
   all_goals exact⟨_,[],by(simp[execOp,ho,e1,e2,binOp,eqGuard,q'])<;>(cases p<;>cases q<;>rfl),.of (.bool _),by simp⟩
  ·cases h
 ·rename_i p1 p2 q1 q2;split at h
  ·rename_i hb;obtain⟨Z4,e1,k1⟩:=r1.xC;obtain⟨UN,e2,k2⟩:=r2.xC;obtain⟨u1,u2,rfl,rfl,rfl⟩:=dQ.Ik k1;obtain⟨v1,v2,rfl,rfl,rfl⟩:=dQ.Ik k2;have hg:P.eqGuardType P.depth t=false:=by
    unfold Ih at hb;split at hb
    ·split at hb
     ·simp only[aN,jT]at hb;exact hb.2
     ·cases hb
    ·cases hb
   have q:=BA (P:=P) (w:=w) (a:=u1) (b:=u2) (c:=v1) (e:=v2) hb 9998;have q':(Op.equal t (.agg #[.string u1,.string u2]) (.agg #[.string v1,.string v2])).run P w=.ok (u1==v1&&u2==v2) w:=q;cases op<;>simp only[aS,reduceCtorEq]at h
   all_goals subst h
   all_goals exact⟨_,[],by(simp[execOp,ho,e1,e2,binOp,eqGuard,hg,q'])<;>(rw[KN,KN]),.of (.bool _),by simp⟩
  ·cases h
 ·cases h
theorem lf.Nq{v:Value}{b:Bool}{bs:aI}(h:lf w κ v (.P7 b) bs):(b=false/\v=.nilIface)\/(b=true/\∃t u,v=.iface t u):=by
 cases h with|v h=>cases h with|cell h=>cases h with|pure h=>cases h with
  |JF=>exact .inl ⟨rfl,rfl⟩
  |JG t u=>exact .inr ⟨rfl,t,u,rfl⟩
theorem A9{t:TypeId}{ms:Array (String×TypeId)}(hu:P.underlying t=some (.interface ms)):(Op.equal t .nilIface .nilIface).run P w=.ok true w:=by
 unfold Op.equal Op.maxDepth;rw[Op.equalIn];simp[run_underlying hu]
theorem yJ{t:TypeId}{ms:Array (String×TypeId)}{t1:TypeId}{v1:Value}(hu:P.underlying t=some (.interface ms)):(Op.equal t (.iface t1 v1) .nilIface).run P w=.ok false w:=by
 unfold Op.equal Op.maxDepth;rw[Op.equalIn];simp[run_underlying hu]
theorem HI{o:Oper}{op:BinOp}{t t':TypeId}{x y:Operand}{d:D}(hs:cX Γ st κ Θ a w)(ho:o.op=.binOp op t x y t')
 (h:RH op (st.ev x) (st.ev y)=some d):pQ P κ Θ a w o d:=by
 obtain⟨b1,r1,_⟩:=hs.ev x;obtain⟨b2,r2,_⟩:=hs.ev y;generalize st.ev x=dx at*;generalize st.ev y=dy at*;unfold RH at h;split at h
 ·rename_i k p k' q;have e1:=r1.lK;have e2:=r2.lK;cases op<;>simp only[reduceCtorEq]at h
  case shr=>
   split at h
   ·rename_i hq;cases h;exact⟨_,[],by simp[execOp,ho,e1,e2,binOp,eqGuard,Op.shift,show¬q<0 by omega,G8],.of (.int _ _ (r1.CP.shr q)),by simp⟩
   ·cases h
  all_goals
   split at h
   ·rename_i hk;subst hk;cases h;exact⟨_,[],by simp[execOp,ho,e1,e2,binOp,eqGuard,Op.intBits,yE,SE,Hz],.of (.int _ _ (nk.wrap _ _)),by simp⟩
   ·cases h
 ·cases h
theorem HJ{o:Oper}{op:BinOp}{t t':TypeId}{x y:Operand}{d:D}(hs:cX Γ st κ Θ a w)(ho:o.op=.binOp op t x y t')
 (h:RJ P op t (st.ev x) y=some d):pQ P κ Θ a w o d:=by
 obtain⟨b1,r1,_⟩:=hs.ev x;generalize st.ev x=dx at*;unfold RJ at h;split at h
 ·rename_i b;have hy:a.eval (.const .nilIface)=.nilIface:=rfl;have hT:∀ {op'},Rf P t=true->op=op'->∃ms,P.underlying t=some (.interface ms):=by
   intro _ ht _;unfold Rf at ht;split at ht
   ·rename_i ms hu;exact⟨ms,hu⟩
   ·cases ht
  rcases r1.Nq with⟨rfl,hx⟩|⟨rfl,t1,v1,hx⟩
  ·split at h
   ·rename_i ht;cases h;obtain⟨ms,hu⟩:=hT ht rfl;exact⟨.bool true,[],by simp[execOp,ho,hx,hy,binOp,eqGuard_nil_constR,A9 hu],.of (.bool _),by simp⟩
   ·rename_i ht;cases h;obtain⟨ms,hu⟩:=hT ht rfl;exact⟨.bool false,[],by simp[execOp,ho,hx,hy,binOp,eqGuard_nil_constR,A9 hu],.of (.bool _),by simp⟩
   ·cases h
  ·split at h
   ·rename_i ht;cases h;obtain⟨ms,hu⟩:=hT ht rfl;exact⟨.bool false,[],by simp[execOp,ho,hx,hy,binOp,eqGuard,yJ hu],.of (.bool _),by simp⟩
   ·rename_i ht;cases h;obtain⟨ms,hu⟩:=hT ht rfl;exact⟨.bool true,[],by simp[execOp,ho,hx,hy,binOp,eqGuard,yJ hu],.of (.bool _),by simp⟩
   ·cases h
 ·cases h
theorem qo.cons{w:World}{e:MapEntry}{es:List MapEntry}{p:D×D}{kv:List (D×D)}(h:qo w (e::es) (p::kv)):Rd w e.key p.1 []/\Rd w e.val p.2 []/\qo w es kv:=
 ⟨(h.2 0 e p rfl rfl).1,(h.2 0 e p rfl rfl).2,by simpa using h.1,fun j e' p' h1 h2=>h.2 (j+1) e' p' (by simpa using h1) (by simpa using h2)⟩
theorem Oh{x y:ByteArray}:(x==y)=(x.data.toList==y.data.toList):=by
 rw[bP,MapKept.bytes_beq,cD];constructor
 ·intro h;rw[h]
 ·intro h;obtain⟨a⟩:=x;obtain⟨b⟩:=y;simp only at h;rw[lM]at h;rw[h]
theorem Br{w:World}{kd:TypeDesc}{k k':D}{u u':Value}{b:Bool}(D8:B3 kd k=true)(hu:Rd w u k [])(om:Rd w u' k' [])(h:UU k k'=some b):Instr.sameNow kd u u'=some b/\(b=true->u'=u):=by
 unfold UU at h;split at h
 ·rename_i s s';cases h;cases hu with
  |str x hx=>
   cases om with
   |str y hy=>
    cases kd<;>simp[B3]at D8;refine⟨by simp only[Instr.sameNow];rw[Oh],fun e=>?_⟩;rw[<-Oh,MapKept.bytes_beq]at e;rw[e]
 ·rename_i k1 a k2 b';split at h
  ·rename_i e;subst e;cases h;cases hu with
   |int _ _ hx=>
    cases om with
    |int _ _ hy=>
     cases kd<;>simp[B3]at D8;refine⟨by simp[Instr.sameNow],fun e=>?_⟩;have:a=b':=by simpa using e
     rw[this]
  ·cases h
 ·cases h
theorem Nu{w:World}{kd:TypeDesc}{k:D}{u:Value}(D8:B3 kd k=true)(hu:Rd w u k []):∀ {es:List MapEntry} {kv:List (D×D)} {r:Option D} (i:Nat),qo w es kv->CR k kv=some r->
 (r=none/\Instr.findNow kd u es i=some none)\/∃d v j,r=some d/\Instr.findNow kd u es i=some (some (j,v))/\Rd w v d []:=by
 intro es
 induction es with
 |nil=>
  intro kv r i hr h;cases kv with
  |nil=>cases h;exact .inl ⟨rfl,rfl⟩
  |cons p kv=>exact absurd hr.1 (by simp)
 |cons e es ih=>
  intro kv r i hr h;cases kv with
  |nil=>exact absurd hr.1 (by simp)
  |cons p kv=>
   obtain⟨r1,r2,r3⟩:=hr.cons;simp only[CR]at h;split at h
   ·rename_i hq;cases h;exact .inr ⟨p.2,e.val,i,rfl,by simp[Instr.findNow,(Br D8 hu r1 hq).1],r2⟩
   ·rename_i hq;have:=ih (i+1) r3 h;simpa[Instr.findNow,(Br D8 hu r1 hq).1]using this
   ·cases h
theorem Ff{w:World}{kd:TypeDesc}{k:D}{u:Value}(D8:B3 kd k=true)(hu:Rd w u k []):MapKept.IsKey kd u:=by
 cases kd<;>cases k<;>simp[B3]at D8
 all_goals cases hu
 ·simp[MapKept.IsKey,D8]
 ·simp[MapKept.IsKey]
theorem DZ{w:World}{κ:Nat->Option Value}{kd:TypeDesc}{k:D}{u:Value}{bs:aI}(D8:B3 kd k=true)(hu:lf w κ u k bs):Rd w u k []:=by
 cases kd<;>cases k<;>simp[B3]at D8
 all_goals cases hu with|v h=>cases h with|cell h=>cases h with|pure h=>cases h<;>(constructor;assumption)
theorem Eo{t:TypeId}{i:TypeInfo}(h:P.info? t=some i){w:World}:(typeInfo t).run P w=.ok i w:=by
 simp[typeInfo,h]
theorem Co{T:TypeId}{kd:TypeDesc}{dz:D}(h:Mf P T=some (kd,dz)):∃kt et z,P.underlying T=some (.map kt et)/\P.underlying kt=some kd/\dz=D.Fz z/\∀w:World,(zeroValue et).run P w=.ok z w:=by
 unfold Mf at h;split at h
 ·rename_i kt et h1;split at h
  ·rename_i d i h2 h3;split at h
   ·rename_i z h4;split at h
    ·cases h;exact⟨kt,et,z,h1,h2,rfl,fun w=>by simp[zeroValue,Eo h3,h4]⟩
    ·cases h
   ·cases h
  ·cases h
 ·cases h
theorem ET{o:Oper}{T:Nat}{x i:Operand}{ok:Bool}{d:D}(hs:cX Γ st κ Θ a w)(ho:o.op=.lookup T x i ok)
 (h:pv P st (.lookup T x i ok)=some d):pQ P κ Θ a w o d:=by
 simp only[pv]at h;split at h
 ·rename_i id hx;split at h
  ·rename_i kv hH;obtain⟨g,es,c,q1,q2,q3,q4⟩:=hs.ob id _ hH;obtain⟨bs,r,_⟩:=hs.ev x;rw[hx]at r;obtain⟨hk,_⟩:=r.oL;rw[q1]at hk;have Fb:a.eval x=.map (some g):=(mE hk).symm;obtain⟨bi,ri,_⟩:=hs.ev i;unfold WH at h;split at h
   ·rename_i kd dz hT;obtain⟨kt,et,z,t1,t2,t3,t4⟩:=Co hT;have fin:∀(r:Option D),B3 kd (st.ev i)=true->CR (st.ev i) kv=some r->d=(match r with|some d=>(bif ok then .gj [d,.bool true]else d)|none=>(bif ok then .gj [dz,.bool false]else dz))->pQ P κ Θ a w o d:=by
     intro r D8 hf hd;have hu:=DZ D8 ri;have QS:=MapKept.run_checkKey (P:=P) (w:=w) t2 (Ff D8 hu) es.isEmpty 9999;rcases Nu D8 hu 0 q4 hf with⟨rfl,hn⟩|⟨d',v,j,rfl,hn,hv⟩
     ·have Kt:=MapKept.run_findKey (P:=P) (w:=w) t2 hn;subst hd;cases ok with
      |false=>exact⟨z,[],by simp[execOp,ho,Fb,Instr.lookup,run_underlying t1,MapKept.run_getObj_map q2,QS,Kt,t4],by rw[t3];exact HG z,by simp⟩
      |true=>
       refine⟨.tuple #[z,.bool false],[],by simp[execOp,ho,Fb,Instr.lookup,run_underlying t1,MapKept.run_getObj_map q2,QS,Kt,t4],?_,by simp⟩;have hz:C1 w κ z dz []:=by
        have:=HG (w:=w) (κ:=κ) z;rw[<-t3]at this;cases this with
        |v h=>exact h
        |gj vs ds bs h=>exact absurd t3 (by simp[D.Fz])
       exact .gj [z,.bool false] [dz,.bool false] [] (.cons _ _ _ _ [] [] hz (.cons _ _ _ _ [] [] (.cell (.pure (.bool _))) .nil))
     ·have Kt:=MapKept.run_findKey (P:=P) (w:=w) t2 hn;subst hd;cases ok with
      |false=>exact⟨v,[],by simp[execOp,ho,Fb,Instr.lookup,run_underlying t1,MapKept.run_getObj_map q2,QS,Kt],.of hv,by simp⟩
      |true=>
       refine⟨.tuple #[v,.bool true],[],by simp[execOp,ho,Fb,Instr.lookup,run_underlying t1,MapKept.run_getObj_map q2,QS,Kt],?_,by simp⟩;exact .gj [v,.bool true] [d',.bool true] [] (.cons _ _ _ _ [] [] (.cell (.pure hv)) (.cons _ _ _ _ [] [] (.cell (.pure (.bool _))) .nil))
    split at h
    ·rename_i d' h1 h2;cases h;exact fin _ h1 h2 rfl
    ·rename_i h1 h2;cases h;exact fin _ h1 h2 rfl
    ·cases h
   ·cases h
  ·cases h
 ·cases h
theorem Rd.QF{w:World}{v:Value}{row:aG}{o:Nat}{bs:aI}(h:Rd w v (.ep row o) bs):∃q,v=.pointer (some q):=by
 cases h;exact⟨_,rfl⟩
theorem wq{o:Oper}{d:D}(hs:cX Γ st κ Θ a w)(h:pv P st o.op=some d):pQ P κ Θ a w o d:=by
 cases ho:o.op
 all_goals rw[ho]at h
 case load t x=>exact CX hs ho h
 case lookup t x i ok=>exact ET hs ho h
 case build t parts=>exact FH hs ho h
 case fieldAddr t x f=>exact Bf hs ho h
 case field t x f=>exact FP hs ho h
 case indexAddr t x i=>exact Bl hs ho h
 case extract x i=>exact D5 hs ho h
 case index t x i=>exact Fe hs ho h
 case binOp op t x y t'=>
  simp only[pv]at h;split at h
  ·rename_i e;cases h;exact HH hs ho e
  ·split at h
   ·rename_i e;cases h;exact JS hs ho e
   ·split at h
    ·rename_i e;cases h;exact HJ hs ho e
    ·exact HI hs ho h
 case nilCheck x=>
  simp only[pv]at h;obtain⟨b,r,z⟩:=hs.ev x;have Qb:∀q,a.eval x=.pointer (some q)->pQ P κ Θ a w o (st.ev x):=fun q hq=>⟨_,b,by simp[execOp,ho,hq],hq▸r,z⟩
  split at h<;>rename_i hx<;>cases h<;>rw[hx]at r Qb
  ·obtain⟨g,_,hv⟩:=r.rJ;exact Qb _ hv
  ·obtain⟨_,_,_,_,_,hv⟩:=r.wm;exact Qb _ hv
  ·obtain⟨_,hv⟩:=Rd.QF r.Gd;exact Qb _ hv
 case slice t x lo hi mx=>
  cases mx with
  |none=>exact G9 hs ho h
  |some m=>simp[pv]at h
 case move x=>
  simp only[pv,aS]at h;subst h;obtain⟨b,r,z⟩:=hs.ev x;exact⟨_,b,by simp[execOp,ho],r,z⟩
 case assign x=>
  simp only[pv,aS]at h;subst h;obtain⟨b,r,z⟩:=hs.ev x;exact⟨_,b,by simp[execOp,ho],r,z⟩
 case pick c x y=>
  simp only[pv]at h;split at h
  ·rename_i t hc;cases h;obtain⟨b,r,z⟩:=hs.ev c;rw[hc]at r;have hv:=r.oz;cases t
   ·obtain⟨b,r,z⟩:=hs.ev y;exact⟨_,b,by simp[execOp,ho,hv,asBool],r,z⟩
   ·obtain⟨b,r,z⟩:=hs.ev x;exact⟨_,b,by simp[execOp,ho,hv,asBool],r,z⟩
  ·cases h
 case unOp op t x=>
  obtain⟨b,r,z⟩:=hs.ev x;cases op<;>simp only[pv,reduceCtorEq]at h
  case neg=>
   split at h
   ·rename_i k n hx;cases h;rw[hx]at r;have hv:=r.lK;exact⟨_,[],by simp[execOp,ho,hv,Op.unary,Op.intArith],.of (.int _ _ (nk.wrap _ _)),by simp⟩
   ·cases h
  case not=>
   split at h
   ·rename_i bb hx;cases h;rw[hx]at r;have hv:=r.oz;exact⟨_,[],by simp[execOp,ho,hv,Op.unary],.of (.bool _),by simp⟩
   ·cases h
 case convert s d' x=>
  obtain⟨b,r,z⟩:=hs.ev x;simp only[pv]at h;split at h
  ·rename_i k0 n k1 k hx h1 h2;cases h;rw[hx]at r;have hv:=r.lK;have u1:P.underlying s=some (.int k1):=by
    unfold HX at h1;split at h1
    ·cases h1;assumption
    ·cases h1
   have u2:P.underlying d'=some (.int k):=by
    unfold HX at h2;split at h2
    ·cases h2;assumption
    ·cases h2
   exact⟨_,[],by simp[execOp,ho,hv,convert,run_underlying u1,run_underlying u2,Conv.intToInt],.of (.int _ _ (nk.wrap _ _)),by simp⟩
  ·cases h
 case call c=>
  simp only[pv]at h;split at h
  ·rename_i x t h1 h2 h3;refine JK hs (x:=x) (t:=t) ?_ h;rw[ho];obtain⟨callee,args,argTypes⟩:=c;simp only at h1 h2 h3;subst h1;have e1:args= #[x]:=by cases args;simp_all
   have e2:argTypes= #[t]:=by cases argTypes;simp_all
   subst e1;subst e2;rfl
  ·rename_i x y t t' h1 h2 h3;refine JO hs (x:=x) (y:=y) (t:=t) (t':=t') ?_ h;rw[ho];obtain⟨callee,args,argTypes⟩:=c;simp only at h1 h2 h3;subst h1;have e1:args= #[x,y]:=by cases args;simp_all
   have e2:argTypes= #[t,t']:=by cases argTypes;simp_all
   subst e1;subst e2;rfl
  ·cases h
 all_goals simp[pv]at h
theorem Oa{Q:Exit->St->Prop}{all:Array Oper}{rest:List Oper}{o:Oper}{t:Nat}{d:D}(hd:o.dst=some t)(hg:o.guard=none)(ht:t<Γ.nt)
 (hv:pv P st o.op=some d) (h:AO P Γ all rest Q (st.set t d)):AO P Γ all (o::rest) Q st:=by
 intro κ Θ a w hs;obtain⟨v,bs,hr,hrd,hz⟩:=wq hs hv;refine wpList_plain hg fun K hK=>?_
 unfold Oper.wp;rw[hr,Oper.upon_value,hd];exact hK _ _ (h κ Θ _ w (hs.set ht hrd hz))
end
end Go.Cx
namespace Go.Cx
open Go.RowKit
structure fD(w w':World)(Θ Θ':Nat->Nat)(tag:Nat):Prop where
 two:2<=tag
 os:w'.os=w.os
 tape:w'.tape=w.tape
 output:w'.output=w.output
 size:w.heap.size<=w'.heap.size
 block:∀b,b<w.heap.size->Θ b≠tag->w'.heap[b]?=w.heap[b]?
 owner:∀b,b<w.heap.size->Θ b≠tag->Θ' b=Θ b
 own:∀b,Θ' b≠0->b<w'.heap.size
section
variable{w w':World}{κ κ':Nat->Option Value}{Θ Θ':Nat->Nat}{tag id:Nat}{r:D}
theorem fD.free(k:fD w w' Θ Θ' tag){b:Nat}(hb:b<w.heap.size)(hz:Θ b=0):Θ' b=0:=by
 have:=k.two;rw[k.owner b hb (by omega)];exact hz
theorem Rd.over{v:Value}{d:D}{bs:aI}(k:fD w w' Θ Θ' tag)(h:Rd w v d bs)(hz:∀b∈bs,Θ b=0):Rd w' v d bs/\∀b∈bs,Θ' b=0:=by
 have:=k.two;exact⟨h.keep fun b hb=>k.block b (h.lt b hb) (by rw[hz b hb];omega),fun b hb=>k.free (h.lt b hb) (hz b hb)⟩
theorem iT.over{vs:b9}{ds:aG}{bs:aI}(k:fD w w' Θ Θ' tag)(h:iT w vs ds bs)(hz:∀b∈bs,Θ b=0):iT w' vs ds bs/\∀b∈bs,Θ' b=0:=by
 have:=k.two;exact⟨h.keep fun b hb=>k.block b (h.lt b hb) (by rw[hz b hb];omega),fun b hb=>k.free (h.lt b hb) (hz b hb)⟩
section
variable(hn:∀(j:Nat) v,κ j=some v->κ' j=some v)
include hn
end
theorem QC.lt{v:Value}{rows:List aG}{p n:Nat}{bs:aI}(h:QC w κ v rows p n bs):∀b∈bs,b<w.heap.size:=by
 obtain⟨b,off,cap,cs,ns,rfl,h1,h2,h3,h4,h5,rfl,_⟩:=h;intro x hx;rcases au.1 hx with rfl|hx
 ·exact h1
 ·exact h5.lt x hx
section
variable(hn:∀(j:Nat) v,κ j=some v->κ' j=some v)
include hn
theorem QC.stay{v:Value}{rows:List aG}{p n:Nat}{bs:aI}(h:QC w κ v rows p n bs)(hb:∀b∈bs,w'.heap[b]?=w.heap[b]?):QC w' κ' v rows p n bs:=by
 obtain⟨b,off,cap,cs,ns,rfl,h1,h2,h3,h4,h5,rfl,c,h6,h7⟩:=h;exact⟨b,off,cap,cs,ns,rfl,zn h1 (hb b (by simp)),h2,h3,fun j c hc=>(tY (hb b (by simp))).trans (h4 j c hc),h5.keep (fun x hx=>hb x (by simp[hx])),rfl,c,h6,hn _ _ h7⟩
end
section
variable(k:fD w w' Θ Θ' tag)(hn:∀(j:Nat) v,κ j=some v->κ' j=some v)
include k hn
theorem rD.stay{v:Value}{d:D}{bs:aI}(h:rD w κ v d bs)(hz:∀b∈bs,Θ b=0):rD w' κ' v d bs/\∀b∈bs,Θ' b=0:=by
 cases h with
 |pure h=>exact⟨.pure (Rd.over k h hz).1,(Rd.over k h hz).2⟩
 |acc i v hk=>exact⟨.acc i v (hn _ _ hk),by simp⟩
 |ptr i off b hk=>exact⟨.ptr i off b (hn _ _ hk),by simp⟩
 |op i j sz off b o0 len cap hk=>exact⟨.op i j sz off b o0 len cap (hn _ _ hk),by simp⟩
theorem dQ.stay{vs:b9}{ds:aG}{bs:aI}(h:dQ w κ vs ds bs)(hz:∀b∈bs,Θ b=0):dQ w' κ' vs ds bs/\∀b∈bs,Θ' b=0:=by
 induction ds generalizing vs bs with
 |nil=>cases h;exact⟨.nil,by simp⟩
 |cons d ds ih=>
  cases h with
  |cons v vs _ _ b1 b2 h1 h2 h3=>
   obtain⟨k1,k2⟩:=rD.stay k hn h2 (fun b hb=>hz b (by simp[hb]));obtain⟨k3,k4⟩:=ih h3 (fun b hb=>hz b (by simp[hb]));refine⟨.cons _ _ _ _ _ _ h1 k1 k3,fun b hb=>?_⟩;rcases aH.1 hb with hb|hb
   ·exact k2 b hb
   ·exact k4 b hb
theorem C1.stay{v:Value}{d:D}{bs:aI}(h:C1 w κ v d bs)(hz:∀b∈bs,Θ b=0):C1 w' κ' v d bs/\∀b∈bs,Θ' b=0:=by
 cases h with
 |cell h=>exact⟨.cell (rD.stay k hn h hz).1,(rD.stay k hn h hz).2⟩
 |agg cs ds bs h=>exact⟨.agg _ _ _ (dQ.stay k hn h hz).1,(dQ.stay k hn h hz).2⟩
theorem uZ.stay{vs:b9}{ds:aG}{bs:aI}(h:uZ w κ vs ds bs)(hz:∀b∈bs,Θ b=0):uZ w' κ' vs ds bs/\∀b∈bs,Θ' b=0:=by
 induction ds generalizing vs bs with
 |nil=>cases h;exact⟨.nil,by simp⟩
 |cons d ds ih=>
  cases h with
  |cons v vs _ _ b1 b2 h2 h3=>
   obtain⟨k1,k2⟩:=C1.stay k hn h2 (fun b hb=>hz b (by simp[hb]));obtain⟨k3,k4⟩:=ih h3 (fun b hb=>hz b (by simp[hb]));refine⟨.cons _ _ _ _ _ _ k1 k3,fun b hb=>?_⟩;rcases aH.1 hb with hb|hb
   ·exact k2 b hb
   ·exact k4 b hb
theorem lf.stay{v:Value}{d:D}{bs:aI}(h:lf w κ v d bs)(hz:∀b∈bs,Θ b=0):lf w' κ' v d bs/\∀b∈bs,Θ' b=0:=by
 cases h with
 |v h=>exact⟨.v (C1.stay k hn h hz).1,(C1.stay k hn h hz).2⟩
 |gj vs ds bs h=>exact⟨.gj _ _ _ (uZ.stay k hn h hz).1,(uZ.stay k hn h hz).2⟩
theorem oU.stay{j:Nat}{o:Ob}(hj:j+2≠tag)(h:oU w κ Θ j o):oU w' κ' Θ' j o:=by
 cases o with
 |gone=>trivial
 |tk rows=>
  obtain⟨v,bs,hk,hrd,hz⟩:=h;obtain⟨h1,h2⟩:=Rd.over k hrd hz;exact⟨v,bs,hn _ _ hk,h1,h2⟩
 |tf e sz rows=>
  obtain⟨v,bs,hk,hrd,hz⟩:=h;obtain⟨h1,h2⟩:=Rd.over k hrd hz;exact⟨v,bs,hn _ _ hk,h1,h2⟩
 |mp kv=>
  obtain⟨g,es,c,q1,q2,q3,q4⟩:=h;have hlt:g<w.heap.size:=(aX.1 q2).1;have hne:Θ g≠tag:=by rw[q3];exact hj
  exact⟨g,es,c,hn _ _ q1,(k.block g hlt hne).trans q2,by rw[k.owner g hlt hne];exact q3,q4.stay⟩
 |pK sz rows u=>
  obtain⟨hrl,Nh,v,bs,hk,hrd,hnd,vh⟩:=h;have hsame:∀b∈bs,w'.heap[b]?=w.heap[b]?:=fun b hb=>k.block b (hrd.lt b hb) (by rw[(vh b hb).1];exact hj)
  refine⟨hrl,fun x hx=>hn _ _ (Nh x hx),v,bs,hn _ _ hk,hrd.keep hsame,hnd,fun b hb=>⟨?_,?_⟩⟩
  ·rw[k.owner b (hrd.lt b hb) (by rw[(vh b hb).1];exact hj)];exact(vh b hb).1
  ·obtain⟨x,T,hx⟩:=(vh b hb).2;exact⟨x,T,(hsame b hb).trans hx⟩
 |hole sz rows u p n=>
  obtain⟨hrl,Nh,v,bs,hk,hrd,hnd,vh⟩:=h;have hsame:∀b∈bs,w'.heap[b]?=w.heap[b]?:=fun b hb=>k.block b (hrd.lt b hb) (by rw[(vh b hb).1];exact hj)
  refine⟨hrl,fun x hx=>hn _ _ (Nh x hx),v,bs,hn _ _ hk,QC.stay hn hrd hsame,hnd,fun b hb=>⟨?_,?_⟩⟩
  ·rw[k.owner b (hrd.lt b hb) (by rw[(vh b hb).1];exact hj)];exact(vh b hb).1
  ·obtain⟨x,T,hx⟩:=(vh b hb).2;exact⟨x,T,(hsame b hb).trans hx⟩
 |box cells=>
  obtain⟨g,cs,T,hk,hg,hΘ,bs,hrs,hz⟩:=h;have hlt:g<w.heap.size:=(aX.1 hg).1;have hne:Θ g≠tag:=by rw[hΘ];exact hj
  obtain⟨h1,h2⟩:=dQ.stay k hn hrs hz;exact⟨g,cs,T,hn _ _ hk,(k.block g hlt hne).trans hg,(k.owner g hlt hne).trans hΘ,bs,h1,h2⟩
 |AU cells u=>
  obtain⟨hu,g,cs,T,hk,hg,hΘ,bs,hrs,hz⟩:=h;have hlt:g<w.heap.size:=(aX.1 hg).1;have hne:Θ g≠tag:=by rw[hΘ];exact hj
  obtain⟨h1,h2⟩:=dQ.stay k hn hrs hz;exact⟨⟨hn _ _ hu.1,hu.2.same hk hg (hn _ _ hk) ((k.block g hlt hne).trans hg)⟩,g,cs,T,hn _ _ hk,(k.block g hlt hne).trans hg,(k.owner g hlt hne).trans hΘ,bs,h1,h2⟩
 |row deep e sz rows=>
  obtain⟨hsz,hrl,v,cs,bs,hk,hown,hrs,hΘ,hd⟩:=h;refine⟨hsz,hrl,v,cs,bs,hn _ _ hk,?_,?_,?_,?_⟩
  ·refine⟨hown.1,?_⟩;rcases hown.2 with oF|⟨g,cap,cur,rfl,hb,EH,rest⟩
   ·exact .inl oF
   ·have hlt:g<w.heap.size:=(aX.1 EH).1;have hne:Θ g≠tag:=by rw[hΘ g (by simp[Value.ownBlock])];exact hj
    exact .inr ⟨g,cap,cur,rfl,hb,(k.block g hlt hne).trans EH,rest⟩
  ·refine hrs.keep fun b hb=>k.block b (hrs.lt b hb) ?_
   have:=k.two;cases deep with
   |cl=>rw[(hd.2.1 b hb).1];exact hj
   |sh=>rw[hd b hb];omega
   |uq=>rw[hd b hb];omega
   |mv n=>rw[hd b hb];omega
   |ho p n=>rw[hd b hb];omega
  ·intro g hg;have hlt:=(hown.lt g hg).2;have e:=hΘ g hg;rw[k.owner g hlt (by rw[e];exact hj)];exact e
  ·cases deep with
   |cl=>
    refine⟨hd.1,fun b hb=>⟨?_,?_⟩,hd.2.2.1,hd.2.2.2.keep fun b hb=>k.block b (hrs.lt b hb) (by rw[(hd.2.1 b hb).1];exact hj)⟩
    ·rw[k.owner b (hrs.lt b hb) (by rw[(hd.2.1 b hb).1];exact hj)];exact(hd.2.1 b hb).1
    ·obtain⟨x,T,hx⟩:=(hd.2.1 b hb).2;exact⟨x,T,(k.block b (hrs.lt b hb) (by rw[(hd.2.1 b hb).1];exact hj)).trans hx⟩
   |sh=>exact fun b hb=>k.free (hrs.lt b hb) (hd b hb)
   |uq=>exact fun b hb=>k.free (hrs.lt b hb) (hd b hb)
   |mv n=>exact fun b hb=>k.free (hrs.lt b hb) (hd b hb)
   |ho p n=>exact fun b hb=>k.free (hrs.lt b hb) (hd b hb)
end
end
section
variable{Γ:oK}{st:St}{κ κ':Nat->Option Value}{Θ Θ':Nat->Nat}{a:Act}{w w':World}{tag:Nat}
theorem cX.base(hs:cX Γ st κ Θ a w):Γ.W0.heap.size<=w.heap.size:=hs.stays.size
theorem cX.H9(hs:cX Γ st κ Θ a w)(k:fD w w' Θ Θ' tag):Ht Γ w':=by
 refine⟨k.os.trans hs.stays.os,k.tape.trans hs.stays.tape,k.output.trans hs.stays.output,dZ hs.stays.size k.size,fun b hb hx=>?_⟩;have:=k.two;have h1:=(hs.old b hb hx).2;exact(k.block b (cK hb hs.base) (by omega)).trans (hs.stays.block b hb hx)
theorem cX.LZ(hs:cX Γ st κ Θ a w)(k:fD w w' Θ Θ' tag):∀b,b<Γ.W0.heap.size->¬Γ.X b->Θ' b=Γ.Θ0 b/\Θ' b<=1:=by
 intro b hb hx;have:=k.two;have h1:=hs.old b hb hx;rw[k.owner b (cK hb hs.base) (by omega)];exact h1
theorem cX.jh(hs:cX Γ st κ Θ a w)(k:fD w w' Θ Θ' tag)(hn:∀(j:Nat) v,κ j=some v->κ' j=some v){ρ:Nat->Nat}(hu:rY Γ st.H κ Θ w ρ):
 (∀b,ρ b≠0->Θ' b=0/\Hr Γ b/\Wr w' b)/\(∀id e sz rows,id+2≠tag->st.H[id]?=some (.row .uq e sz rows)->
  ∃v cs bs,κ' id=some v/\w'.ownsRow 0 e sz v rows.length cs/\qG w' (ol e) 0 cs rows.flatten bs/\bs.Nodup/\∀b∈bs,ρ b=id+1)/\
  ∀id o,id+2≠tag->st.H[id]?=some o->Ct w' κ' ρ id o:=by
 have h2:=k.two;refine⟨?_,?_,?_⟩
 ·intro b hb;obtain⟨h0,hm,x,T,hx⟩:=hu.free b hb;have hlt:b<w.heap.size:=(aX.1 hx).1;exact⟨k.free hlt h0,hm,x,T,(k.block b hlt (by omega)).trans hx⟩
 ·intro id e sz rows hid hH;obtain⟨v,cs,bs,hk,hown,hrs,hnd,hρ⟩:=hu.rows id e sz rows hH;obtain⟨_,_,v2,_,_,hk2,_,_,hΘ,_⟩:=hs.ob id _ hH;rw[hk]at hk2;cases hk2;refine⟨v,cs,bs,hn _ _ hk,⟨hown.1,?_⟩,hrs.keep fun b hb=>k.block b (hrs.lt b hb) ?_,hnd,hρ⟩
  ·rcases hown.2 with oF|⟨g,cap,cur,rfl,hb,EH,rest⟩
   ·exact .inl oF
   ·have hlt:g<w.heap.size:=(aX.1 EH).1;have hne:Θ g≠tag:=by rw[hΘ g (by simp[Value.ownBlock])];exact hid
    exact .inr ⟨g,cap,cur,rfl,hb,(k.block g hlt hne).trans EH,rest⟩
  ·have:=hρ b hb;have:=(hu.free b (by omega)).1;omega
 ·intro id o hid hH;have hm:=hu.more id o hH;have hb0:∀ {bs:aI},(∀b∈bs,ρ b=id+1)->∀b∈bs,Θ b≠tag:=fun hρ b hb=>by
   have:=hρ b hb;have:=(hu.free b (by omega)).1;omega
  cases o with
  |tk rows=>
   obtain⟨v,bs,hk,hrd,hnd,hρ⟩:=hm;exact⟨v,bs,hn _ _ hk,hrd.keep fun b hb=>k.block b (hrd.lt b hb) (hb0 hρ b hb),hnd,hρ⟩
  |tf e sz rows=>
   obtain⟨v,bs,hk,hrd,hlt,hnd,hρ⟩:=hm;exact⟨v,bs,hn _ _ hk,hrd.keep fun b hb=>k.block b (hlt b hb) (hb0 hρ b hb),fun b hb=>cK (hlt b hb) k.size,hnd,hρ⟩
  |row kd e sz rows=>
   cases kd with
   |mv n=>
    obtain⟨v,cs,bs,hk,hown,hrs,hnd,hρ⟩:=hm;obtain⟨_,_,v2,_,_,hk2,_,_,hΘ,_⟩:=hs.ob id _ hH;rw[hk]at hk2;cases hk2;refine⟨v,cs,bs,hn _ _ hk,⟨hown.1,?_⟩,hrs.keep fun b hb=>k.block b (hrs.lt b hb) (hb0 hρ b hb),hnd,hρ⟩;rcases hown.2 with oF|⟨g,cap,cur,rfl,hb,EH,rest⟩
    ·exact .inl oF
    ·have hlt:g<w.heap.size:=(aX.1 EH).1;have hne:Θ g≠tag:=by rw[hΘ g (by simp[Value.ownBlock])];exact hid
     exact .inr ⟨g,cap,cur,rfl,hb,(k.block g hlt hne).trans EH,rest⟩
   |ho p n=>
    obtain⟨v,cs,bs,hk,hown,hrs,hnd,hρ,c,hc,hkc⟩:=hm;obtain⟨_,_,v2,_,_,hk2,_,_,hΘ,_⟩:=hs.ob id _ hH;rw[hk]at hk2;cases hk2;exact⟨v,cs,bs,hn _ _ hk,A5 hown (fun g hg=>k.block g (hown.lt g hg).2 (by rw[hΘ g hg];exact hid)),hrs.keep fun b hb=>k.block b (hrs.lt b hb) (hb0 hρ b hb),hnd,hρ,c,hc,hn _ _ hkc⟩
   |_=>trivial
  |_=>trivial
theorem Ct.re{ρ ρ':Nat->Nat}{id:Nat}{o:Ob}(h:Ct w κ ρ id o)(hr:∀b,ρ b=id+1->ρ' b=id+1):Ct w κ ρ' id o:=by
 cases o with
 |tk rows=>
  obtain⟨v,bs,hk,hrd,hnd,hρ⟩:=h;exact⟨v,bs,hk,hrd,hnd,fun b hb=>hr b (hρ b hb)⟩
 |tf e sz rows=>
  obtain⟨v,bs,hk,hrd,hlt,hnd,hρ⟩:=h;exact⟨v,bs,hk,hrd,hlt,hnd,fun b hb=>hr b (hρ b hb)⟩
 |row kd e sz rows=>
  cases kd with
  |mv n=>
   obtain⟨v,cs,bs,hk,hown,hrs,hnd,hρ⟩:=h;exact⟨v,cs,bs,hk,hown,hrs,hnd,fun b hb=>hr b (hρ b hb)⟩
  |ho p n=>
   obtain⟨v,cs,bs,hk,hown,hrs,hnd,hρ,hc⟩:=h;exact⟨v,cs,bs,hk,hown,hrs,hnd,fun b hb=>hr b (hρ b hb),hc⟩
  |_=>trivial
 |_=>trivial
theorem cX.step(hs:cX Γ st κ Θ a w){H':ax}(k:fD w w' Θ Θ' tag)(hm:∀b,2<=Θ' b->rC Γ b)(hn:∀(j:Nat) v,κ j=some v->κ' j=some v)
 (Sd:∀id,H'.length<=id->κ' id=none) (hk1:∀(id:Nat) u,κ' id=some u->u.oneCell'=true)
 (rO:∀(j:Nat) o,H'[j]?=some o->o=.gone\/(j+2≠tag/\st.H[j]?=some o)\/oU w' κ' Θ' j o) (hu:∃ρ,rY Γ H' κ' Θ' w' ρ):cX Γ ⟨st.σ,H'⟩ κ' Θ' a w':=by
 refine⟨hs.defers,hs.size,Sd,hk1,?_,?_,k.own,hs.LZ k,hm,hs.H9 k,hu⟩
 ·intro t;obtain⟨bs,hr,hz⟩:=hs.slot t;exact⟨bs,lf.stay k hn hr hz⟩
 ·intro j o hj;rcases rO j o hj with rfl|⟨hne,hj'⟩|h
  ·trivial
  ·exact oU.stay k hn hne (hs.ob j o hj')
  ·exact h
def qY(κ:Nat->Option Value)(id:Nat)(v:Option Value):Nat->Option Value:=fun i=>if i=id then v else κ i
theorem iB(κ:Nat->Option Value)(id:Nat)(v:Option Value):qY κ id v id=v:=by simp[qY]
theorem qD{κ:Nat->Option Value}{id:Nat}(h:κ id=none)(v:Option Value):∀(j:Nat) u,κ j=some u->qY κ id v j=some u:=by
 intro j u hj;unfold qY;rw[ai (fun e=>by subst e;rw[h]at hj;cases hj)];exact hj
def Ob.Hf:Ob->Bool
 | .row .uq _ _ _=>true
 | .row (.mv _) _ _ _=>true
 | .row (.ho _ _) _ _ _=>true
 | .tk _=>true
 | .tf _ _ _=>true
 |_=>false
def Ob.PA:Ob->Bool
 | .row (.mv _) _ _ _=>true
 | .row (.ho _ _) _ _ _=>true
 | .tk _=>true
 | .tf _ _ _=>true
 |_=>false
theorem Ct.wo{ρ:Nat->Nat}{id:Nat}{o:Ob}(h:o.PA=false):Ct w κ ρ id o:=by
 cases o with
 |tk rows=>simp[Ob.PA]at h
 |tf e sz rows=>simp[Ob.PA]at h
 |row kd e sz rows=>
  cases kd with
  |mv n=>simp[Ob.PA]at h
  |ho p n=>simp[Ob.PA]at h
  |_=>trivial
 |_=>trivial
theorem Ct.plain{ρ:Nat->Nat}{id:Nat}{o:Ob}(h:o.Hf=false):Ct w κ ρ id o:=by
 cases o with
 |tk rows=>simp[Ob.Hf]at h
 |tf e sz rows=>simp[Ob.Hf]at h
 |row kd e sz rows=>
  cases kd with
  |mv n=>simp[Ob.Hf]at h
  |ho p n=>simp[Ob.Hf]at h
  |_=>trivial
 |_=>trivial
theorem cX.push(hs:cX Γ st κ Θ a w){v:Value}{o:Ob}(h1:v.oneCell'=true)(k:fD w w' Θ Θ' (st.H.length+2))(hm:∀b,2<=Θ' b->rC Γ b)
 (ho:oU w' (qY κ st.H.length (some v)) Θ' st.H.length o) (hq:o.Hf=false):cX Γ ⟨st.σ,st.H++[o]⟩ (qY κ st.H.length (some v)) Θ' a w':=by
 have hn:=qD (hs.kQ _ (bM _)) (some v);have key:∀(j:Nat) x,(st.H++[o])[j]?=some x->(j=st.H.length/\x=o)\/(j+2≠st.H.length+2/\st.H[j]?=some x):=by
  intro j x hj;by_cases hlt:j<st.H.length
  ·rw[aV hlt]at hj;exact .inr ⟨by omega,hj⟩
  ·have hj':=(aB.1 hj).1;simp only[af,aO,bH]at hj';have e:j=st.H.length:=by omega
   subst e;rw[aY (bM _)]at hj;simp at hj;exact .inl ⟨rfl,hj.symm⟩
 obtain⟨ρ,hu⟩:=hs.mi;have mw:=hs.jh k hn hu;refine hs.step k hm hn ?_ ?_ ?_ ⟨ρ,mw.1,?_,?_⟩
 ·intro i hi;simp only[af,aO,bH]at hi;unfold qY;rw[ai (by omega)];exact hs.kQ i (by omega)
 ·intro i u hu;unfold qY at hu;split at hu
  ·cases hu;exact h1
  ·exact hs.kC i u hu
 ·intro j x hj;rcases key j x hj with⟨rfl,rfl⟩|h
  ·exact .inr (.inr ho)
  ·exact .inr (.inl h)
 ·intro id e sz rows hj;rcases key id _ hj with⟨rfl,rfl⟩|h
  ·simp[Ob.Hf]at hq
  ·exact mw.2.1 id e sz rows h.1 h.2
 ·intro id x hj;rcases key id _ hj with⟨rfl,rfl⟩|h
  ·exact Ct.plain hq
  ·exact mw.2.2 id x h.1 h.2
theorem cX.change(hs:cX Γ st κ Θ a w){id:Nat}{o:Ob}(k:fD w w' Θ Θ' (id+2))(hm:∀b,2<=Θ' b->rC Γ b)(ho:oU w' κ Θ' id o)(hq:o.Hf=false):
 cX Γ ⟨st.σ,st.H.set id o⟩ κ Θ' a w':=by
 have key:∀(j:Nat) x,(st.H.set id o)[j]?=some x->(j=id/\x=o)\/(j+2≠id+2/\st.H[j]?=some x):=by
  intro j x hj;by_cases e:id=j
  ·subst e;have hlt:id<st.H.length:=by
    have:=(aB.1 hj).1;simpa using this
   rw[cT hlt]at hj;cases hj;exact .inl ⟨rfl,rfl⟩
  ·rw[bO e]at hj;exact .inr ⟨by omega,hj⟩
 obtain⟨ρ,hu⟩:=hs.mi;have mw:=hs.jh k (fun _ _ h=>h) hu;refine hs.step k hm (fun _ _ h=>h) (fun i hi=>hs.kQ i (by simpa using hi)) hs.kC ?_ ⟨ρ,mw.1,?_,?_⟩
 ·intro j x hj;rcases key j x hj with⟨rfl,rfl⟩|h
  ·exact .inr (.inr ho)
  ·exact .inr (.inl h)
 ·intro i e sz rows hj;rcases key i _ hj with⟨rfl,rfl⟩|h
  ·simp[Ob.Hf]at hq
  ·exact mw.2.1 i e sz rows h.1 h.2
 ·intro i x hj;rcases key i _ hj with⟨rfl,rfl⟩|h
  ·exact Ct.plain hq
  ·exact mw.2.2 i x h.1 h.2
theorem cX.rP(hs:cX Γ st κ Θ a w)(h:∀b,2<=Θ' b->2<=Θ b\/w.heap.size<=b):∀b,2<=Θ' b->rC Γ b:=by
 intro b hb;rcases h b hb with h|h
 ·exact hs.mine b h
 ·exact .inl (dZ hs.base h)
theorem fD.refl(h:∀b,Θ b≠0->b<w.heap.size)(h2:2<=tag):fD w w Θ Θ tag:=⟨h2,rfl,rfl,rfl,bM _,fun _ _ _=>rfl,fun _ _ _=>rfl,h⟩
theorem fD.O7(h:∀b,Θ b≠0->b<w.heap.size)(hb:Below w.heap.size w w')(h2:2<=tag):fD w w' Θ Θ tag:=
 ⟨h2,hb.os,hb.tape,hb.output,hb.size,fun b hlt _=>hb.block b hlt,fun _ _ _=>rfl,fun b hn=>cK (h b hn) hb.size⟩
theorem cX.grow(hs:cX Γ st κ Θ a w)(hb:Below w.heap.size w w'):cX Γ st κ Θ a w':=by
 have k:fD w w' Θ Θ (st.H.length+2):=fD.O7 hs.own hb (by omega);obtain⟨ρ,hu⟩:=hs.mi;have mw:=hs.jh k (fun _ _ h=>h) hu;have hlt:∀(j:Nat) o,st.H[j]?=some o->j+2≠st.H.length+2:=fun j o h=>by
  have:=(aB.1 h).1;omega
 exact hs.step k hs.mine (fun _ _ h=>h) hs.kQ hs.kC (fun j o h=>.inr (.inl ⟨hlt j o h,h⟩)) ⟨ρ,mw.1,fun id e sz rows h=>mw.2.1 id e sz rows (hlt _ _ h) h,fun id o h=>mw.2.2 id o (hlt _ _ h) h⟩
theorem cX.drew(hs:cX Γ st κ Θ a w):cX Γ st κ Θ a w.drew:=hs.grow ((Below.refl _ _).drew)
def kill(H:ax):aI->ax
 | []=>H
 |m::ms=>kill (H.set m .gone) ms
theorem dY(H:ax)(ms:aI):(kill H ms).length=H.length:=by
 induction ms generalizing H with
 |nil=>rfl
 |cons m ms ih=>simp[kill,ih]
theorem jf{H:ax}{ms:aI}{j:Nat}{o:Ob}(h:(kill H ms)[j]?=some o):o=.gone\/(j∉ms/\H[j]?=some o):=by
 induction ms generalizing H with
 |nil=>exact .inr ⟨by simp,h⟩
 |cons m ms ih=>
  rcases ih h with h|⟨h1,h2⟩
  ·exact .inl h
  ·by_cases e:m=j
   ·subst e;have hlt:=(aB.1 h2).1;rw[cT (by simpa using hlt)]at h2;cases h2;exact .inl rfl
   ·rw[bO e]at h2;exact .inr ⟨by simp[h1,ld e],h2⟩
def qf(κ:Nat->Option Value)(Θ ρ:Nat->Nat)(w:World)(m:Nat)(k:RK)(rows:List aG)(t:Option (TypeId×Nat):=none):Prop:=
 ∃v bs,κ m=some v/\Rd w v (.sl rows) bs/\(∀b∈bs,Θ b=0)/\(k=.uq->bs.Nodup/\∀b∈bs,ρ b=m+1)/\(∀t',t=some t'->BF w t' v (.sl rows) bs)
def Ob.Rz:Ob->Option (TypeId×Nat)
 | .row _ e sz _=>some (e,sz)
 |_=>Option.none
theorem mC{e sz:Nat}{v:Value}{rows:List aG}{cs:b9}{bs:aI}(hrl:∀r∈rows,r.length=sz)(hown:w.ownsRow 0 e sz v rows.length cs)(hrs:iT w cs rows.flatten bs):
 Rd w v (.sl rows) (v.ownBlock.toList++bs):=by
 rcases hown.2 with⟨rfl,hn⟩|⟨g,cap,cur,rfl,_,hg,hnc,hcm,_,ht⟩
 ·have:rows=[]:=cF hn;subst this;cases hrs;exact .qz
 ·have hlt:g<w.heap.size:=(aX.1 hg).1;refine .sl g 0 cap sz rows cs bs hlt hnc hcm hrl (fun j c hc=>?_) hrs;have:=hown.cells (g:=g) (by simp[Value.ownBlock]) j c hc;simpa[Addr.add_lit]using this
theorem cX.RB(hs:cX Γ st κ Θ a w){ρ:Nat->Nat}(hu:rY Γ st.H κ Θ w ρ){m e sz:Nat}{k:RK}{rows:List aG}(hH:st.H[m]?=some (.row k e sz rows))(hk:k.EZ=true):
 ∃Θ' ρ',cX Γ ⟨st.σ,st.H.set m .gone⟩ κ Θ' a w/\rY Γ (st.H.set m .gone) κ Θ' w ρ'/\qf κ Θ' ρ' w m k rows (some (e,sz))/\
  (∀b,Θ b=0->Θ' b=0)/\(∀b,ρ b≠0->ρ' b=ρ b):=by
 obtain⟨hsz,hrl,v,cs,bs,hkm,hown,hrs,hΘ,hz⟩:=hs.ob m _ hH;have qX:∀b∈bs,Θ b=0:=by cases k<;>first|exact hz|simp[RK.EZ]at hk
 let Θ':Nat->Nat:=fun b=>if Θ b=m+2 then 0 else Θ b
 let ρ':Nat->Nat:=fun b=>if some b=v.ownBlock then m+1 else ρ b
 have hk':fD w w Θ Θ' (m+2):=⟨by omega,rfl,rfl,rfl,bM _,fun _ _ _=>rfl,fun b _ hne=>ai hne,fun b hb=>hs.own b (fun h0=>hb (by simp only[Θ'];split<;>simp_all))⟩
 have Ux:∀b,Θ b=0->Θ' b=0:=fun b h=>by simp only[Θ'];split<;>omega
 have II:∀b,2<=Θ' b->rC Γ b:=fun b hb=>hs.mine b (by simp only[Θ']at hb;split at hb<;>omega)
 have wZ:∀g,v.ownBlock=some g->ρ g=0:=by
  intro g hg;cases h:ρ g with
  |zero=>rfl
  |succ n=>have:=(hu.free g (by omega)).1;rw[hΘ g hg]at this;omega
 have hρ:∀b,ρ b≠0->ρ' b=ρ b:=fun b hb=>ai (fun h=>hb (wZ b h.symm))
 have key:∀(j:Nat) x,(st.H.set m .gone)[j]?=some x->x=.gone\/(j+2≠m+2/\st.H[j]?=some x):=by
  intro j x hj;rcases jf (ms:=[m]) hj with h|⟨h1,h2⟩
  ·exact .inl h
  ·exact .inr ⟨by simp at h1;omega,h2⟩
 have mw:=hs.jh hk' (fun _ _ h=>h) hu;have hU:rY Γ (st.H.set m .gone) κ Θ' w ρ':=by
  refine⟨fun b hb=>?_,fun id e sz rows h=>?_,fun id x h=>?_⟩
  ·by_cases hb':some b=v.ownBlock
   ·have e1:=hΘ b hb'.symm;refine⟨by simp only[Θ'];rw[av e1],.inl (hs.mine b (by omega)),?_⟩;rcases hown.2 with⟨rfl,_⟩|⟨g,cap,cur,rfl,_,hg,_⟩
    ·simp[Value.ownBlock]at hb'
    ·simp[Value.ownBlock]at hb';subst hb';exact⟨_,_,hg⟩
   ·exact mw.1 b (by simp only[ρ']at hb;rwa[ai hb']at hb)
  ·rcases key id _ h with h|⟨h1,h2⟩
   ·cases h
   ·obtain⟨v2,c2,b2,q1,q2,q3,q4,q5⟩:=mw.2.1 id e sz rows h1 h2;exact⟨v2,c2,b2,q1,q2,q3,q4,fun b hb=>by rw[hρ b (by rw[q5 b hb];omega)];exact q5 b hb⟩
  ·rcases key id _ h with h|⟨h1,h2⟩
   ·subst h;trivial
   ·exact(mw.2.2 id x h1 h2).re fun b hb=>(hρ b (by omega)).trans hb
 refine⟨Θ',ρ',?_,hU,?_,Ux,hρ⟩
 ·exact hs.step hk' II (fun _ _ h=>h) (fun i hi=>hs.kQ i (by simpa using hi)) hs.kC (fun j x hj=>by
   rcases key j x hj with h|h
   ·exact .inl h
   ·exact .inr (.inl h)) ⟨ρ',hU⟩
 ·have plain:k≠ .uq->qf κ Θ' ρ' w m k rows (some (e,sz)):=fun hne=>by
   refine⟨v,_,hkm,mC hrl hown hrs,fun b hb=>?_,fun h=>absurd h hne,fun t ht=>by cases ht;exact .inr ⟨rows,cs,bs,rfl,hsz,hrl,hown,hrs,rfl⟩⟩;rcases aH.1 hb with hb|hb
   ·simp only[ew]at hb;simp only[Θ'];rw[av (hΘ b hb)]
   ·exact Ux b (qX b hb)
  cases k with
  |cl=>simp[RK.EZ]at hk
  |sh=>exact plain (by simp)
  |mv n=>exact plain (by simp)
  |ho p n=>exact plain (by simp)
  |uq=>
   obtain⟨v2,c2,b2,q1,q2,q3,q4,q5⟩:=hu.rows m e sz rows hH;rw[hkm]at q1;cases q1;have hfr:∀b∈b2,ρ b≠0:=fun b hb=>by rw[q5 b hb];omega
   refine⟨v,_,hkm,mC hrl q2 q3.rd,fun b hb=>?_,fun _=>⟨?_,fun b hb=>?_⟩,fun t ht=>by cases ht;exact .inr ⟨rows,c2,b2,rfl,hsz,hrl,q2,q3.rd,rfl⟩⟩
   ·rcases aH.1 hb with hb|hb
    ·simp only[ew]at hb;simp only[Θ'];rw[av (hΘ b hb)]
    ·exact Ux b (hu.free b (hfr b hb)).1
   ·rw[aq];refine⟨by cases v.ownBlock<;>simp,q4,fun x hx y hy e=>?_⟩;simp only[ew]at hx;subst e;exact hfr x hy (wZ x hx)
   ·rcases aH.1 hb with hb|hb
    ·simp only[ew]at hb;simp only[ρ'];rw[av hb.symm]
    ·rw[hρ b (hfr b hb)];exact q5 b hb
theorem cX.TL(hs:cX Γ st κ Θ a w){ρ:Nat->Nat}(hu:rY Γ st.H κ Θ w ρ){m:Nat}{rows:List aG}(hH:st.H[m]?=some (.tk rows)):
 cX Γ ⟨st.σ,st.H.set m .gone⟩ κ Θ a w/\rY Γ (st.H.set m .gone) κ Θ w ρ/\qf κ Θ ρ w m .uq rows:=by
 have key:∀(j:Nat) x,(st.H.set m .gone)[j]?=some x->x=.gone\/(j≠m/\st.H[j]?=some x):=by
  intro j x hj;rcases jf (ms:=[m]) hj with h|⟨h1,h2⟩
  ·exact .inl h
  ·exact .inr ⟨by simpa using h1,h2⟩
 have hU:rY Γ (st.H.set m .gone) κ Θ w ρ:=by
  refine⟨hu.free,fun id e sz rows h=>?_,fun id x h=>?_⟩
  ·rcases key id _ h with h|⟨_,h2⟩
   ·cases h
   ·exact hu.rows id e sz rows h2
  ·rcases key id _ h with h|⟨_,h2⟩
   ·subst h;trivial
   ·exact hu.more id x h2
 obtain⟨v,bs,q1,q2,q3,q4⟩:=hu.more m _ hH;refine⟨⟨hs.defers,hs.size,fun i hi=>hs.kQ i (by simpa using hi),hs.kC,hs.slot,fun id o h=>?_,hs.own,hs.old,hs.mine,hs.stays,ρ,hU⟩,hU,v,bs,q1,q2,fun b hb=>(hu.free b (by rw[q4 b hb];omega)).1,fun _=>⟨q3,q4⟩,fun _ h=>by cases h⟩;rcases key id _ h with h|⟨_,h2⟩
 ·subst h;trivial
 ·exact hs.ob id o h2
def Ob.AD:Ob->Option (RK×List aG)
 | .row k _ _ rows=>(match k with| .cl=>none|_=>some (k,rows))
 | .tk rows=>some (.uq,rows)
 |_=>none
theorem Ob.MT{o:Ob}{k:RK}{rows:List aG}(h:o.AD=some (k,rows)):(∃e sz,o=.row k e sz rows/\k.EZ=true)\/(o=.tk rows/\k=.uq):=by
 cases o with
 |row k' e sz r=>
  cases k' with
  |cl=>simp[Ob.AD]at h
  |_=>simp only[Ob.AD,aS,bq]at h;obtain⟨rfl,rfl⟩:=h;exact .inl ⟨e,sz,rfl,rfl⟩
 |tk r=>simp only[Ob.AD,aS,bq]at h;obtain⟨rfl,rfl⟩:=h;exact .inr ⟨rfl,rfl⟩
 |_=>simp[Ob.AD]at h
theorem cX.TJ(hs:cX Γ st κ Θ a w){ρ:Nat->Nat}(hu:rY Γ st.H κ Θ w ρ){m:Nat}{o:Ob}{k:RK}{rows:List aG}(hH:st.H[m]?=some o)(ho:o.AD=some (k,rows)):
 ∃Θ' ρ',cX Γ ⟨st.σ,st.H.set m .gone⟩ κ Θ' a w/\rY Γ (st.H.set m .gone) κ Θ' w ρ'/\qf κ Θ' ρ' w m k rows o.Rz/\
  (∀b,Θ b=0->Θ' b=0)/\(∀b,ρ b≠0->ρ' b=ρ b):=by
 rcases Ob.MT ho with⟨e,sz,rfl,hk⟩|⟨rfl,rfl⟩
 ·exact hs.RB hu hH hk
 ·obtain⟨h1,h2,h3⟩:=hs.TL hu hH;exact⟨Θ,ρ,h1,h2,h3,fun _ h=>h,fun _ _=>rfl⟩
theorem cX.Fm:∀(ms:aI) {st:St} {Θ ρ:Nat->Nat},cX Γ st κ Θ a w->rY Γ st.H κ Θ w ρ->ms.Nodup->
 (∀m∈ms,∃o k rows,st.H[m]?=some o/\o.AD=some (k,rows))->
 ∃Θ' ρ',cX Γ ⟨st.σ,kill st.H ms⟩ κ Θ' a w/\rY Γ (kill st.H ms) κ Θ' w ρ'/\(∀m∈ms,∀o k rows,st.H[m]?=some o->o.AD=some (k,rows)->qf κ Θ' ρ' w m k rows o.Rz)/\
  (∀b,Θ b=0->Θ' b=0)/\(∀b,ρ b≠0->ρ' b=ρ b):=by
 intro ms
 induction ms with
 |nil=>intro st Θ ρ hs hu _ _;exact⟨Θ,ρ,hs,hu,by simp,fun _ h=>h,fun _ _=>rfl⟩
 |cons m ms ih=>
  intro st Θ ρ hs hu hnd hall;obtain⟨hnm,xx⟩:=cz.1 hnd;obtain⟨o,k,rows,hH,hk⟩:=hall m (by simp);obtain⟨Θ1,ρ1,hs1,hu1,hm1,hz1,Jo⟩:=hs.TJ hu hH hk;have Gn:∀m'∈ms,(st.H.set m .gone)[m']?=st.H[m']?:=fun m' hm'=>bO (fun e:m=m'=>hnm (by rw[e];exact hm'))
  obtain⟨Θ2,ρ2,hs2,Mu,hm2,Gx,hr2⟩:=ih (st:=⟨st.σ,st.H.set m .gone⟩) hs1 hu1 xx (fun m' hm'=>by
   obtain⟨o',k',cw,h1,h2⟩:=hall m' (by simp[hm']);exact⟨o',k',cw,(Gn m' hm').trans h1,h2⟩)
  refine⟨Θ2,ρ2,hs2,Mu,?_,fun b h=>Gx b (hz1 b h),fun b h=>(hr2 b (by rw[Jo b h];exact h)).trans (Jo b h)⟩;intro m' hm' o' k' cw xD ho';rcases au.1 hm' with rfl|Kz
  ·rw[hH]at xD;cases xD;rw[hk]at ho';cases ho';obtain⟨v,bs,q1,q2,q3,q4,q7⟩:=hm1;refine⟨v,bs,q1,q2,fun b hb=>Gx b (q3 b hb),fun hq=>?_,fun _ h=>q7 _ h⟩;obtain⟨q5,q6⟩:=q4 hq;exact⟨q5,fun b hb=>by rw[hr2 b (by rw[q6 b hb];omega)];exact q6 b hb⟩
  ·exact hm2 m' Kz o' k' cw ((Gn m' Kz).trans xD) ho'
theorem cX.zq:∀(ms:aI) {st:St} {Θ ρ:Nat->Nat},cX Γ st κ Θ a w->rY Γ st.H κ Θ w ρ->ms.Nodup->
 (∀m∈ms,∃k e sz rows,st.H[m]?=some (.row k e sz rows)/\k.EZ=true)->
 ∃Θ' ρ',cX Γ ⟨st.σ,kill st.H ms⟩ κ Θ' a w/\rY Γ (kill st.H ms) κ Θ' w ρ'/\(∀m∈ms,∀k e sz rows,st.H[m]?=some (.row k e sz rows)->qf κ Θ' ρ' w m k rows)/\
  (∀b,Θ b=0->Θ' b=0)/\(∀b,ρ b≠0->ρ' b=ρ b):=by
 intro ms
 induction ms with
 |nil=>intro st Θ ρ hs hu _ _;exact⟨Θ,ρ,hs,hu,by simp,fun _ h=>h,fun _ _=>rfl⟩
 |cons m ms ih=>
  intro st Θ ρ hs hu hnd hall;obtain⟨hnm,xx⟩:=cz.1 hnd;obtain⟨k,e,sz,rows,hH,hk⟩:=hall m (by simp);obtain⟨Θ1,ρ1,hs1,hu1,hm1,hz1,Jo⟩:=hs.RB hu hH hk;have Gn:∀m'∈ms,(st.H.set m .gone)[m']?=st.H[m']?:=fun m' hm'=>bO (fun e:m=m'=>hnm (by rw[e];exact hm'))
  obtain⟨Θ2,ρ2,hs2,Mu,hm2,Gx,hr2⟩:=ih (st:=⟨st.σ,st.H.set m .gone⟩) hs1 hu1 xx (fun m' hm'=>by
   obtain⟨k',e',sz',cw,h1,h2⟩:=hall m' (by simp[hm']);exact⟨k',e',sz',cw,(Gn m' hm').trans h1,h2⟩)
  refine⟨Θ2,ρ2,hs2,Mu,?_,fun b h=>Gx b (hz1 b h),fun b h=>(hr2 b (by rw[Jo b h];exact h)).trans (Jo b h)⟩;intro m' hm' k' e' sz' cw xD;rcases au.1 hm' with rfl|Kz
  ·rw[hH]at xD;cases xD;obtain⟨v,bs,q1,q2,q3,q4,q7⟩:=hm1;refine⟨v,bs,q1,q2,fun b hb=>Gx b (q3 b hb),fun hq=>?_,fun _ h=>by cases h⟩;obtain⟨q5,q6⟩:=q4 hq;exact⟨q5,fun b hb=>by rw[hr2 b (by rw[q6 b hb];omega)];exact q6 b hb⟩
  ·exact hm2 m' Kz k' e' sz' cw ((Gn m' Kz).trans xD)
end
end Go.Cx
namespace Go.Cx
open Go.RowKit
section
variable{P:Program}{Γ:oK}{Q:Exit->St->Prop}{st:St}{κ:Nat->Option Value}{Θ:Nat->Nat}{a:Act}{w:World}{all:Array Oper}{rest:List Oper}
theorem NE{c:Operand}{x y:Code}{b:Bool}(hc:st.ev c=.bool b)(ht:b=true->AW P Γ x Q st)(hf:b=false->AW P Γ y Q st):AW P Γ (.cond c x y) Q st:=by
 intro κ Θ a w hs;obtain⟨bs,r,_⟩:=hs.ev c;rw[hc]at r;exact wp_cond_split r.oz (fun h=>ht h κ Θ a w hs) (fun h=>hf h κ Θ a w hs)
theorem Bz{o:Oper}{j s:Nat}{want b:Bool}(hg:o.guard=some (j,want))(hj:(all[j]?).bind (·.dst)=some s)(hb:lk st.σ s=.bool b)
 (hd:∀t,o.dst=some t->t<Γ.nt)
 (Vo:b=want->AO P Γ all ({o with guard:=none}::rest) Q st) (hno:b≠want->AO P Γ all rest Q (st.put o.dst (.gj []))):AO P Γ all (o::rest) Q st:=by
 intro κ Θ a w hs;obtain⟨bs,r,_⟩:=hs.slot s;rw[hb]at r;have hv:=r.oz;have hlt:s<a.tmps.size:=by
  rcases cg s a.tmps.size with h|h
  ·exact h
  ·exfalso;rw[bU,lZ h]at hv;simp[undef]at hv
 have hy:yielded all a.tmps j=some b:=by
  have h1:a.tmps[s]?=some (.bool b):=by
   rw[bU,bf hlt]at hv;rw[bf hlt];simpa using hv
  simp[yielded,hj,h1]
 by_cases e:b=want
 ·have:=Vo e κ Θ a w hs;unfold wpList at this⊢;have hw:Region.wanted o (yielded all a.tmps)=true:=by simp[Region.wanted,hg,hy,e]
  have hw':Region.wanted {o with guard:=none} (yielded all a.tmps)=true:=rfl;rw[av hw];rw[av hw']at this;exact this
 ·have hw:Region.wanted o (yielded all a.tmps)=false:=by simp[Region.wanted,hg,hy,e]
  unfold wpList;rw[hw,ai (by simp)];refine hno e κ Θ _ w ?_;cases EF:o.dst with
  |none=>exact hs
  |some t=>exact hs.set (hd t EF) (.gj [] [] [] .nil) (by simp)
theorem lf.Dk{w:World}{κ:Nat->Option Value}{v:Value}{bs:aI}(h:lf w κ v (.gj []) bs):v=.tuple #[]:=by
 cases h with
 |v h=>cases h with|cell h=>cases h with|pure h=>cases h
 |gj vs ds bs h=>cases h;rfl
theorem DH{o:Oper}{j s:Nat}{want:Bool}(hg:o.guard=some (j,want))(hj:(all[j]?).bind (·.dst)=some s)(hb:lk st.σ s=.gj [])
 (hd:∀t,o.dst=some t->t<Γ.nt) (hno:AO P Γ all rest Q (st.put o.dst (.gj []))):AO P Γ all (o::rest) Q st:=by
 intro κ Θ a w hs;obtain⟨bs,r,_⟩:=hs.slot s;rw[hb]at r;have hv:=r.Dk;have hy:yielded all a.tmps j=none:=by
  rcases cg s a.tmps.size with hlt|hlt
  ·have h1:a.tmps[s]?=some (.tuple #[]):=by
    rw[bU,bf hlt]at hv;rw[bf hlt];simpa using hv
   simp[yielded,hj,h1]
  ·simp[yielded,hj,lZ hlt]
 have hw:Region.wanted o (yielded all a.tmps)=false:=by simp[Region.wanted,hg,hy]
 unfold wpList;rw[hw,ai (by simp)];refine hno κ Θ _ w ?_;cases EF:o.dst with
 |none=>exact hs
 |some t=>exact hs.set (hd t EF) (.gj [] [] [] .nil) (by simp)
theorem fD.alloc(hs:cX Γ st κ Θ a w)(o:Obj){tag:Nat}(h2:2<=tag):fD w (w.alloc o) Θ (fun b=>if b=w.heap.size then tag else Θ b) tag:=by
 refine⟨h2,rfl,rfl,rfl,by simp,fun b hb _=>Below.heap_alloc w o b hb,fun b hb _=>?_,fun b hb=>?_⟩
 ·rw[ai (by omega)]
 ·by_cases e:b=w.heap.size
  ·subst e;simp
  ·rw[ai e]at hb;have:=hs.own b hb;simp;omega
theorem cX.Lt(hs:cX Γ st κ Θ a w){cs:Array Value}{ds:aG}{bs:aI}(T:TypeId)(hr:dQ w κ cs.toList ds bs)(hz:∀b∈bs,Θ b=0):
 cX Γ ⟨st.σ,st.H++[.box ds]⟩ (qY κ st.H.length (some (.pointer (some ⟨w.heap.size,0,none⟩)))) (fun b=>if b=w.heap.size then st.H.length+2 else Θ b) a (w.alloc (.cells cs T)):=by
 have k:=fD.alloc hs (.cells cs T) (tag:=st.H.length+2) (by omega);refine hs.push rfl k (hs.rP (fun b hb=>by by_cases e:b=w.heap.size<;>simp_all)) ?_ rfl;have hn:=qD (hs.kQ _ (bM _)) (some (Value.pointer (some ⟨w.heap.size,0,none⟩)));obtain⟨h1,h2⟩:=dQ.stay k hn hr hz;exact⟨w.heap.size,cs,T,by simp[qY],heap_alloc_new w _,by simp,bs,h1,h2⟩
theorem Q5{o:Oper}{T t:Nat}{x:Operand}{ds:aG}(hop:o.op=.box T x)(hd:o.dst=some t)(hg:o.guard=none)(ht:t<Γ.nt)
 (hc:(st.ev x).cellsOf=some ds) (h:AO P Γ all rest Q ⟨(t,.ptr st.H.length 0)::st.σ,st.H++[.box ds]⟩):AO P Γ all (o::rest) Q st:=by
 intro κ Θ a w hs;obtain⟨bs,r,hz⟩:=hs.ev x;have hcs:=tZ hs.kC r hc;have hs':=hs.Lt T hcs hz;refine wpList_plain hg fun K hK=>?_
 unfold Oper.wp;have hrun:(execOp a.eval o).run P w=.ok (.value (.pointer (some ⟨w.heap.size,0,none⟩))) (w.alloc (.cells (a.eval x).cells T)):=by
  simp[execOp,hop,Instr.box,newVar,newRow]
 rw[hrun,Oper.upon_value,hd];refine hK _ _ (h _ _ _ _ (hs'.set (t:=t) (d:=.ptr st.H.length 0) (bs:=[]) ht ?_ (by simp)));exact(rD.ptr st.H.length 0 w.heap.size (by simp[qY])).Dj
theorem Ju{o:Oper}{T t:Nat}{zs:aG}(hop:o.op=.alloc T)(hd:o.dst=some t)(hg:o.guard=none)(ht:t<Γ.nt)
 (hz:tz P T=some zs) (h:AO P Γ all rest Q ⟨(t,.ptr st.H.length 0)::st.σ,st.H++[.box zs]⟩):AO P Γ all (o::rest) Q st:=by
 intro κ Θ a w hs;obtain⟨i,z,hi,qX,hsz,hlen,hone,rfl⟩:=pz hz;have hs':=hs.Lt T (cs:=z.cells) (uF z.cells.toList hone) (by simp);refine wpList_plain hg fun K hK=>?_
 unfold Oper.wp;have hrun:(execOp a.eval o).run P w=.ok (.value (.pointer (some ⟨w.heap.size,0,none⟩))) (w.alloc (.cells z.cells T)):=by
  simp[execOp,hop,Instr.alloc,zeroValue,typeInfo,hi,qX,newVar,newRow]
 rw[hrun,Oper.upon_value,hd];refine hK _ _ (h _ _ _ _ (hs'.set (t:=t) (d:=.ptr st.H.length 0) (bs:=[]) ht ?_ (by simp)));exact(rD.ptr st.H.length 0 w.heap.size (by simp[qY])).Dj
theorem fD.setRow(hs:cX Γ st κ Θ a w){g:Nat}{cs:Array Value}{tag:Nat}(h2:2<=tag)(hg:Θ g=tag):fD w (w.setRow g cs) Θ Θ tag:=by
 refine⟨h2,rfl,rfl,rfl,by simp,fun b _ hne=>setRow_other w g b cs (fun e=>hne (e▸hg)),fun b _ _=>rfl,fun b hb=>?_⟩;simpa using hs.own b hb
theorem wv{T g off:Nat}{v:Value}{cur:Array Value}{e:TypeId}(hg:w.heap[g]?=some (.cells cur e (0,0)))(hsz:v.cells.size=rQ P T)(B1:∃i,P.info? T=some i)
 (hfit:off+v.cells.size<=cur.size) (hone:∀c∈v.cells.toList,c.oneCell'=true):
 (Instr.storeAt T (.pointer (some ⟨g,off,none⟩)) v).run P w=.ok () (w.setRow g (cur.toList.take off++v.cells.toList++cur.toList.drop (off+v.cells.toList.length)).toArray):=by
 have:=run_storeCells_at P g off e v.cells.toList 0 cur w hg (by simpa using hfit) hone;simp only[rA]at this;simp[Instr.storeAt,Instr.sureAddr,storeVar,oI B1,hsz,this]
def En(P:Program)(t:TypeId):Bool:=(P.info? t).isSome
theorem Dh{o:Oper}{T id off:Nat}{x y:Operand}{cells ds:aG}(hop:o.op=.store T x y)
 (hx:st.ev x=.ptr id off) {ob:Ob} (hH:st.H[id]?=some ob) (rO:ob.I5=some cells) (hc:(st.ev y).cellsOf=some ds) (hT:En P T=true) (hl:ds.length=rQ P T) (hfit:off+ds.length<=cells.length) (hkp:ob.IR off=true) (hs:cX Γ st κ Θ a w):
 ∃w',(execOp a.eval o).run P w=.ok .skip w'/\cX Γ ⟨st.σ,st.H.set id (ob.re (cells.take off++ds++cells.drop (off+ds.length)))⟩ κ Θ a w':=by
 obtain⟨b1,r1,_⟩:=hs.ev x;obtain⟨b2,r2,Gx⟩:=hs.ev y;rw[hx]at r1;obtain⟨g,hk,hv⟩:=r1.rJ;obtain⟨g',cs,Tb,hk',J7,hΘ,bs,hrs,hz⟩:=(hs.ob id _ hH).cs rO;rw[hk]at hk';cases hk';have hcs:=tZ hs.kC r2 hc;have hl1:=hcs.length;have uP:=hrs.length;have hsz:(a.eval y).cells.size=rQ P T:=by rw[<-hl,<-hl1];simp
 have hst:=wv (P:=P) (T:=T) (off:=off) J7 hsz (cu.1 hT) (by
  have:(a.eval y).cells.size=ds.length:=by rw[<-hl1];simp
  have h3:cs.size=cells.length:=by rw[<-uP];simp
  omega) hcs.one
 have k:=fD.setRow hs (g:=g) (cs:=(cs.toList.take off++(a.eval y).cells.toList++cs.toList.drop (off+(a.eval y).cells.toList.length)).toArray) (tag:=id+2) (by omega) hΘ;have hrun:(execOp a.eval o).run P w=.ok .skip (w.setRow g (cs.toList.take off++(a.eval y).cells.toList++cs.toList.drop (off+(a.eval y).cells.toList.length)).toArray):=by
  simp only[execOp,hop,hv];simp[hst]
 refine⟨_,hrun,hs.change k hs.mine (oU.TZ rO (hs.ob id _ hH) (fun _ h=>h) (fun c0 u0 e0=>?_) ?_) (by cases ob<;>rfl)⟩
 ·subst e0;intro c QO g2 UN T2 hk2 IF;rw[hk]at hk2;cases hk2;rw[setRow_heap w g cs _ Tb _ J7]at IF;cases IF;obtain⟨z1,z2⟩:=(hs.ob id _ hH).1.2 c QO g cs Tb hk J7;simp only[Ob.I5,aS]at rO;subst rO;have h3:c0.length=3:=by rw[<-uP];simpa using z1
  have hoff:1<=off:=by
   simp only[Ob.IR,h3,jx,bX,mQ]at hkp;exact kL hkp
  have Xz:cs.toList.length=3:=by simpa using z1
  have hel:(a.eval y).cells.toList.length=ds.length:=hl1;refine⟨by simp only[oq,af,bK,jv];omega,?_⟩;rw[dW,eP,aV (by rw[bK];omega),o5 (by omega)];simpa using z2
 have e:cells=cells.take off++((cells.drop off).take ds.length++(cells.drop off).drop ds.length):=by rw[bR,bR]
 rw[e]at hrs;obtain⟨v1,v2,c1,c2,Bk,rfl,k1,k2⟩:=hrs.split;obtain⟨v3,v4,c3,c4,rfl,rfl,k3,k4⟩:=k2.split;have l1:v1.length=off:=by rw[k1.length];simp;omega
 have l3:v3.length=ds.length:=by rw[k3.length];simp;omega
 have e1:cs.toList.take off=v1:=by rw[Bk];exact fL l1
 have e4:cs.toList.drop (off+(a.eval y).cells.toList.length)=v4:=by
  rw[Bk,<-eC,dw l1,hl1];exact dw l3
 have hnew:dQ w κ (v1++(a.eval y).cells.toList++v4) (cells.take off++ds++cells.drop (off+ds.length)) ((c1++b2)++c4):=by
  rw[eC]at k4;exact(k1.app hcs).app k4
 have Cu:∀b∈((c1++b2)++c4),Θ b=0:=by
  intro b hb;simp only[aH]at hb;rcases hb with(hb|hb)|hb
  ·exact hz b (by simp[hb])
  ·exact Gx b hb
  ·exact hz b (by simp[hb])
 obtain⟨h1,h2⟩:=dQ.stay k (fun _ _ h=>h) hnew Cu;refine⟨g,_,Tb,hk,setRow_heap w g cs _ Tb _ J7,hΘ,_,?_,h2⟩;rw[e1,e4]at h1⊢;exact h1
theorem K9{o:Oper}{T id off:Nat}{x y:Operand}{cells ds:aG}(hop:o.op=.store T x y)(hd:o.dst=none)(hg:o.guard=none)
 (hx:st.ev x=.ptr id off) {ob:Ob} (hH:st.H[id]?=some ob) (rO:ob.I5=some cells) (hc:(st.ev y).cellsOf=some ds) (hT:En P T=true) (hl:ds.length=rQ P T) (hfit:off+ds.length<=cells.length) (hkp:ob.IR off=true)
 (h:AO P Γ all rest Q ⟨st.σ,st.H.set id (ob.re (cells.take off++ds++cells.drop (off+ds.length)))⟩):AO P Γ all (o::rest) Q st:=by
 intro κ Θ a w hs;obtain⟨w',hrun,hs'⟩:=Dh hop hx hH rO hc hT hl hfit hkp hs;refine wpList_plain hg fun K hK=>?_
 unfold Oper.wp;rw[hrun,Oper.upon_skip,hd];exact hK _ _ (h _ _ _ _ hs')
end
def D.Ey:D->Bool
 | .acc _=>false
 | .ptr _ _=>false
 | .op _ _ _ _=>false
 |_=>true
def Mc(P:Program)(t:TypeId):Nat:=P.bytesOf t
theorem Db{α:Type}{l:List α}{i:Nat}{x:α}(h:l[i]?=some x):∃p q,l=p++x::q/\p.length=i:=by
 have hlt:=(aB.1 h).1;have hx:=(aB.1 h).2;refine⟨l.take i,l.drop (i+1),?_,by simp;omega⟩;rw[<-hx,uU,bR]
theorem wT{rows:List aG}{sz i off:Nat}{row ds:aG}(hrl:∀r∈rows,r.length=sz)(hr:rows[i]?=some row)(hfit:off+ds.length<=sz):
 (rows.set i (row.take off++ds++row.drop (off+ds.length))).flatten=rows.flatten.take (i*sz+off)++ds++rows.flatten.drop (i*sz+off+ds.length):=by
 obtain⟨p,q,rfl,rfl⟩:=Db hr;have hrow:row.length=sz:=hrl row (by simp);have hp:p.flatten.length=p.length*sz:=jN (fun r hr=>hrl r (by simp[hr]));rw[pP _ _ (bM _),nP,List.set_cons_zero];simp only[fZ,dO];rw[<-hp,List.take_length_add_append,gl,List.drop_length_add_append,List.take_append_of_le_length (by omega),List.drop_append_of_le_length (by omega)];simp only[eP]
theorem CY(z:Array Value)(n:Nat):(madeCells z (n*z.size)).toList=(List.replicate n z.toList).flatten:=by
 induction n with
 |zero=>simp[madeCells]
 |succ n ih=>
  rw[List.replicate_succ',fZ,<-ih];apply kX;intro j;by_cases hz:z.size=0
  ·have:z= #[]:=Array.size_eq_zero_iff.1 hz;subst this;simp[madeCells]
  ·by_cases h1:j<n*z.size
   ·rw[aV (by simpa[madeCells]using h1)];have h2:j<(n+1)*z.size:=by rw[gT];omega
    simp[madeCells,h1,h2]
   ·rw[aY (by simpa[madeCells]using h1)];by_cases h2:j<(n+1)*z.size
    ·rw[gT,jG]at h2;have hm:j%z.size=j-n*z.size:=by
      have Z8:=z6 z.size n;have e:j=(j-n*z.size)+z.size*n:=by omega
      conv=>lhs;rw[e]
      rw[Nat.add_mul_mod_self_left,Nat.mod_eq_of_lt (by omega)]
     have h3:j-n*z.size<z.size:=by omega
     have h2':j<(n+1)*z.size:=by rw[gT,jG];exact h2
     simp[madeCells,h2',hm,h3]
    ·rw[bZ (by simp[madeCells];omega),bZ];rw[gT,jG]at h2;simp[madeCells];omega
section
variable{P:Program}{Γ:oK}{Q:Exit->St->Prop}{st:St}{κ:Nat->Option Value}{Θ:Nat->Nat}{a:Act}{w:World}{all:Array Oper}{rest:List Oper}
theorem dQ.pure{vs:b9}{ds:aG}{bs:aI}(h:dQ w κ vs ds bs)(hp:ds.all D.Ey=true):iT w vs ds bs:=by
 induction ds generalizing vs bs with
 |nil=>cases h;exact .nil
 |cons d ds ih=>
  simp only[cm,aN]at hp;cases h with
  |cons v vs _ _ b1 b2 h1 h2 h3=>
   refine .cons _ _ _ _ _ _ h1 ?_ (ih h3 hp.2);cases h2 with
   |pure h=>exact h
   |acc=>simp[D.Ey]at hp
   |ptr=>simp[D.Ey]at hp
   |op=>simp[D.Ey]at hp
theorem iT.X5{vs:b9}{ds:aG}(h:iT w vs ds [])(m:Nat):iT w (List.replicate m vs).flatten (List.replicate m ds).flatten []:=by
 induction m with
 |zero=>exact .nil
 |succ m ih=>
  simp only[List.replicate_succ,dO];have:=h.app ih;simpa using this
def D.uJ(d:D):D:=match d with
 | .nil=>.sl []
 |d=>d
theorem Rd.soft{v:Value}{d:D}{bs:aI}(h:Rd w v d bs):Rd w v d.uJ bs:=by
 cases h with
 |nil=>exact .qz
 |any=>exact .any _
 |int _ _ h=>exact .int _ _ h
 |bool=>exact .bool _
 |str _ h=>exact .str _ h
 |val=>exact .val _
 |qz=>exact .qz
 |jo a cap h=>exact .jo a cap h
 |sl b off cap sz rows cs bs h0 h1 h2 h3 h4 h5=>exact .sl b off cap sz rows cs bs h0 h1 h2 h3 h4 h5
 |agg cs ds bs h=>exact .agg cs ds bs h
 |ep b off cs row o bs h0 h4 h5=>exact .ep b off cs row o bs h0 h4 h5
 |JF=>exact .JF
 |JG t u=>exact .JG t u
theorem iT.soft{vs:b9}{ds:aG}{bs:aI}(h:iT w vs ds bs):iT w vs (ds.map D.uJ) bs:=by
 induction ds generalizing vs bs with
 |nil=>cases h;exact .nil
 |cons d ds ih=>cases h with|cons v vs _ _ b1 b2 h1 h2 h3=>exact .cons _ _ _ _ _ _ h1 h2.soft (ih h3)
def D.flat:D->Bool
 | .any=>true
 | .nil=>true
 | .int _ _=>true
 | .bool _=>true
 | .str _=>true
 | .val _=>true
 |_=>false
def Iw(H:ax)(d:D):Option (D×aI):=match d with
 | .acc m=>(match(H[m]?).bind Ob.AD with|some (_,rows)=>some (.sl rows,[m])|none=>none)
 | .ptr _ _=>none
 | .op _ _ _ _=>none
 |d=>some (d.uJ,[])
def zA(H:ax):aG->Option (aG×aI)
 | []=>some ([],[])
 |d::ds=>match Iw H d,zA H ds with|some (e,m),some (es,ms)=>some (e::es,m++ms)|_,_=>none
def U3(H:ax)(d:D):Bool:=match d with
 | .acc m=>(match(H[m]?).bind Ob.AD with|some (k,_)=>(match k with| .uq=>true|_=>false)|none=>false)
 |d=>d.flat
def pg(b:Bool):RK:=match b with|true=>.uq|false=>.sh
def Gh(H:ax)(t:Option (TypeId×Nat))(d:D):Bool:=match t with
 |none=>true
 |some t'=>(match d with
  | .acc m=>(match(H[m]?).bind Ob.Rz with|some t2=>t2.1==t'.1&&t2.2==t'.2|none=>false)
  | .nil=>Nat.blt 0 t'.2
  | .any=>true
  |_=>false)
def Nc(H:ax)(f:Nat->Option (TypeId×Nat)):Nat->aG->Bool
 |_,[]=>true
 |i,d::ds=>Gh H (f i) d&&Nc H f (i+1) ds
def Mj(e:Nat):Bool:=match BK e with|none=>true|some _=>false
theorem AG{e:Nat}(h:Mj e=true):BK e=none:=by
 unfold Mj at h;split at h
 ·assumption
 ·cases h
def Jd(H:ax)(e i:Nat)(ds:aG):Bool:=ds.all (U3 H)&&(match BK e with|none=>true|some _=>Nc H (ol e) i ds)
theorem Ob.Fo(u:Bool)(e:TypeId)(sz:Nat)(rows:List aG):(Ob.row (pg u) e sz rows).PA=false:=by cases u<;>rfl
theorem Rd.flat{v:Value}{d:D}{bs:aI}(h:Rd w v d bs)(hf:d.flat=true):bs=[]:=by
 cases h<;>first|rfl|simp[D.flat]at hf
theorem F5{H:ax}{d e:D}{m:aI}(h:Iw H d=some (e,m)):
 (∃m0 o k rows,d=.acc m0/\H[m0]?=some o/\o.AD=some (k,rows)/\e=.sl rows/\m=[m0])\/(d.Ey=true/\(∀i,d≠ .acc i)/\e=d.uJ/\m=[]):=by
 cases d with
 |acc m0=>
  simp only[Iw]at h;split at h
  ·rename_i k rows hH;simp only[aS,bq]at h;obtain⟨rfl,rfl⟩:=h;obtain⟨o,hH,ho⟩:=jU.1 hH;exact .inl ⟨m0,o,k,rows,rfl,hH,ho,rfl,rfl⟩
  ·cases h
 |ptr i o=>simp[Iw]at h
 |op i j s o=>simp[Iw]at h
 |_=>simp only[Iw,aS,bq]at h;obtain⟨rfl,rfl⟩:=h;exact .inr ⟨rfl,by simp,rfl,rfl⟩
theorem F6{H:ax}:∀ {ds es:aG} {ms:aI},zA H ds=some (es,ms)->∀m∈ms,∃o k rows,H[m]?=some o/\o.AD=some (k,rows):=by
 intro ds
 induction ds with
 |nil=>intro es ms h;simp only[zA,aS,bq]at h;obtain⟨rfl,rfl⟩:=h;simp
 |cons d ds ih=>
  intro es ms h;simp only[zA]at h;split at h
  ·rename_i e m es' ms' h1 h2;simp only[aS,bq]at h;obtain⟨rfl,rfl⟩:=h;intro x hx;rcases aH.1 hx with hx|hx
   ·rcases F5 h1 with⟨m0,o,k,cw,rfl,hH,hk,rfl,rfl⟩|⟨_,_,_,rfl⟩
    ·simp at hx;subst hx;exact⟨o,k,_,hH,hk⟩
    ·simp at hx
   ·exact ih h2 x hx
  ·cases h
theorem Ki{H:ax}{t':TypeId×Nat}{m:Nat}{o:Ob}(h:Gh H (some t') (.acc m)=true)(hH:H[m]?=some o):o.Rz=some t':=by
 simp only[Gh,hH,aA]at h;split at h
 ·rename_i t2 e;rw[e];simp only[aN,cD]at h;obtain⟨h1,h2⟩:=h;obtain⟨a1,a2⟩:=t2;obtain⟨c1,c2⟩:=t';simp only at h1 h2;rw[h1,h2]
 ·cases h
theorem Nb{H:ax}{t':TypeId×Nat}{d:D}{v:Value}{bs:aI}(h:Gh H (some t') d=true)(hna:∀i,d≠ .acc i)(hr:Rd w v d bs):BF w t' v d.uJ bs:=by
 cases d with
 |acc i=>exact absurd rfl (hna i)
 |nil=>
  simp only[Gh]at h;cases hr;exact .inr ⟨[],[],[],rfl,cK Nat.zero_lt_one (by simpa[Nat.blt]using h),by simp,World.ownsRow_nil w 0 _ _,.nil,by simp[Value.ownBlock]⟩
 |any=>cases hr;exact .inl ⟨rfl,rfl⟩
 |_=>simp[Gh]at h
theorem NI{H:ax}{ρ:Nat->Nat}{f:Nat->Option (TypeId×Nat)}:∀ {ds es:aG} {ms:aI} {vs:b9} {b0:aI} (i:Nat),zA H ds=some (es,ms)->ms.Nodup->dQ w κ vs ds b0->(∀b∈b0,Θ b=0)->
 (∀m∈ms,∀o k rows,H[m]?=some o->o.AD=some (k,rows)->qf κ Θ ρ w m k rows o.Rz)->
 ∃bs,iT w vs es bs/\(∀b∈bs,Θ b=0)/\(ds.all (U3 H)=true->bs.Nodup/\∀b∈bs,∃m∈ms,ρ b=m+1)/\(Nc H f i ds=true->qG w f i vs es bs):=by
 intro ds
 induction ds with
 |nil=>
  intro es ms vs b0 i h _ hr _ _;simp only[zA,aS,bq]at h;obtain⟨rfl,rfl⟩:=h;cases hr;exact⟨[],.nil,by simp,by simp,fun _=>.nil _⟩
 |cons d ds ih=>
  intro es ms vs b0 i h hnd hr hz hm;simp only[zA]at h;split at h
  ·rename_i e m es' ms' h1 h2;simp only[aS,bq]at h;obtain⟨rfl,rfl⟩:=h;obtain⟨n1,n2,n3⟩:=aq.1 hnd;cases hr with
   |cons v vs _ _ b1 b2 hv hc hcs=>
    obtain⟨Mr,q1,q2,q3,q7⟩:=ih (i+1) h2 n2 hcs (fun b hb=>hz b (by simp[hb])) (fun x hx=>hm x (by simp[hx]));have one:∃NM,Rd w v e NM/\(∀b∈NM,Θ b=0)/\(U3 H d=true->NM.Nodup/\∀b∈NM,∃x∈m,ρ b=x+1)/\(∀t,f i=some t->Gh H (f i) d=true->BF w t v e NM):=by
     rcases F5 h1 with⟨m0,o,k,cw,rfl,hH,hk,rfl,rfl⟩|⟨hp,hna,rfl,rfl⟩
     ·obtain⟨v',bs,r1,r2,r3,r4,r7⟩:=hm m0 (by simp) o k cw hH hk;cases hc with
      |pure hc=>cases hc
      |acc _ _ hkv=>
       rw[hkv]at r1;cases r1;refine⟨bs,r2,r3,fun hq=>?_,fun t ht hf=>r7 t (Ki (by rwa[ht]at hf) hH)⟩;simp only[U3,hH,aA,hk]at hq;split at hq
       ·obtain⟨r5,r6⟩:=r4 rfl;exact⟨r5,fun b hb=>⟨m0,by simp,r6 b hb⟩⟩
       ·cases hq
     ·have hrd:Rd w v d b1:=by
       cases hc with
       |pure hc=>exact hc
       |acc i _ _=>exact absurd rfl (hna i)
       |ptr i o _ _=>simp[D.Ey]at hp
       |op i j s o _ _ _ _ _=>simp[D.Ey]at hp
      refine⟨b1,hrd.soft,fun b hb=>hz b (by simp[hb]),fun hq=>?_,fun t ht hf=>Nb (by rwa[ht]at hf) hna hrd⟩;have hf:d.flat=true:=by
       unfold U3 at hq;split at hq
       ·exact absurd rfl (hna _)
       ·exact hq
      rw[hrd.flat hf];exact⟨by simp,by simp⟩
    obtain⟨NM,p1,p2,p3,p7⟩:=one;refine⟨NM++Mr,.cons _ _ _ _ _ _ hv p1 q1,fun b hb=>?_,fun hq=>?_,fun hf=>?_⟩
    ·rcases aH.1 hb with hb|hb
     ·exact p2 b hb
     ·exact q2 b hb
    ·simp only[cm,aN]at hq;obtain⟨p4,p5⟩:=p3 hq.1;obtain⟨q4,q5⟩:=q3 hq.2;refine⟨aq.2 ⟨p4,q4,fun x hx y hy SG=>?_⟩,fun b hb=>?_⟩
     ·subst SG;obtain⟨m1,hm1,e1⟩:=p5 x hx;obtain⟨m2,hm2,e2⟩:=q5 x hy;exact n3 m1 hm1 m2 hm2 (by omega)
     ·rcases aH.1 hb with hb|hb
      ·obtain⟨x,hx,ex⟩:=p5 b hb;exact⟨x,by simp[hx],ex⟩
      ·obtain⟨x,hx,ex⟩:=q5 b hb;exact⟨x,by simp[hx],ex⟩
    ·simp only[Nc,aN]at hf;exact .cons _ _ _ _ _ _ _ hv p1 (fun t ht=>p7 t ht hf.1) (q7 hf.2)
  ·cases h
theorem GR{H:ax}{ρ:Nat->Nat}{ds es:aG}{ms:aI}{vs:b9}{b0:aI}(h:zA H ds=some (es,ms))(hnd:ms.Nodup)(hr:dQ w κ vs ds b0)(hz:∀b∈b0,Θ b=0)
 (hm:∀m∈ms,∀o k rows,H[m]?=some o->o.AD=some (k,rows)->qf κ Θ ρ w m k rows o.Rz) (e i:Nat:=0):
 ∃bs,iT w vs es bs/\(∀b∈bs,Θ b=0)/\(Jd H e i ds=true->bs.Nodup/\(∀b∈bs,∃m∈ms,ρ b=m+1)/\qG w (ol e) i vs es bs):=by
 obtain⟨bs,q1,q2,q3,q4⟩:=NI (f:=ol e) i h hnd hr hz hm;refine⟨bs,q1,q2,fun hq=>?_⟩;simp only[Jd,aN]at hq;obtain⟨p1,p2⟩:=q3 hq.1;refine⟨p1,p2,?_⟩;have h2:=hq.2;split at h2
 ·rename_i hn;exact .of q1 (u7 hn)
 ·exact q4 h2
theorem qG.over{w':World}{Θ':Nat->Nat}{tag i:Nat}{f:Nat->Option (TypeId×Nat)}{vs:b9}{ds:aG}{bs:aI}(h:qG w f i vs ds bs)(k:fD w w' Θ Θ' tag)(hz:∀b∈bs,Θ b=0):qG w' f i vs ds bs:=by
 have:=k.two;exact h.keep fun b hb=>k.block b (h.lt b hb) (by rw[hz b hb];omega)
theorem cX.put(hs:cX Γ st κ Θ a w){H':ax}{κ':Nat->Option Value}{Θ' ρ:Nat->Nat}{w':World}{id:Nat}{o:Ob}(ms:aI)
 (key:∀(j:Nat) x,H'[j]?=some x->(j=id/\x=o)\/(j≠id/\st.H[j]?=some x)) (hn:∀(j:Nat) v,κ j=some v->κ' j=some v)
 (Sd:∀i,H'.length<=i->κ' i=none) (hk1:∀(i:Nat) u,κ' i=some u->u.oneCell'=true) (k:fD w w' Θ Θ' (id+2)) (hm:∀b,2<=Θ' b->rC Γ b) (ho:oU w' κ' Θ' id o)
 (hu:rY Γ st.H κ Θ w ρ) (DA:∀m∈ms,∀x,m≠id->st.H[m]?=some x->x.Hf=false)
 (hq:∀e sz rows,o=.row .uq e sz rows->∃v cs bs,κ' id=some v/\w'.ownsRow 0 e sz v rows.length cs/\qG w' (ol e) 0 cs rows.flatten bs/\bs.Nodup/\∀b∈bs,ρ b=id+1\/∃m∈ms,ρ b=m+1)
 (YE:o.PA=false:=by first|rfl|exact Ob.Fo _ _ _ _):
 cX Γ ⟨st.σ,H'⟩ κ' Θ' a w':=by
 have mw:=hs.jh k hn hu;let ρ':Nat->Nat:=fun b=>if ms.any (fun m=>ρ b==m+1)then id+1 else ρ b
 have Vs:∀b,ρ' b≠0->ρ b≠0:=by
  intro b hb h0;simp only[ρ',h0]at hb;split at hb
  ·rename_i h;obtain⟨m,_,hm⟩:=cL.1 h;simp at hm
  ·exact hb rfl
 refine hs.step k hm hn Sd hk1 ?_ ⟨ρ',fun b hb=>mw.1 b (Vs b hb),?_,?_⟩
 ·intro j x hj;rcases key j x hj with⟨rfl,rfl⟩|⟨h1,h2⟩
  ·exact .inr (.inr ho)
  ·exact .inr (.inl ⟨by omega,h2⟩)
 ·intro j e sz rows hj;rcases key j _ hj with⟨rfl,ho'⟩|⟨h1,h2⟩
  ·obtain⟨v,cs,bs,q1,q2,q3,q4,q5⟩:=hq e sz rows ho'.symm;refine⟨v,cs,bs,q1,q2,q3,q4,fun b hb=>?_⟩;simp only[ρ'];split
   ·rfl
   ·rename_i hno;rcases q5 b hb with h|⟨m,hm1,hm2⟩
    ·exact h
    ·exact absurd (cL.2 ⟨m,hm1,by simp[hm2]⟩) hno
  ·obtain⟨v,cs,bs,q1,q2,q3,q4,q5⟩:=mw.2.1 j e sz rows (by omega) h2;refine⟨v,cs,bs,q1,q2,q3,q4,fun b hb=>?_⟩;simp only[ρ'];rw[ai]
   ·exact q5 b hb
   ·intro h;obtain⟨m,hm1,hm2⟩:=cL.1 h;simp only[q5 b hb,cD]at hm2;have:j=m:=by omega
    subst this;have:=DA j hm1 _ h1 h2;simp[Ob.Hf]at this
 ·intro j x hj;rcases key j _ hj with⟨rfl,rfl⟩|⟨h1,h2⟩
  ·exact Ct.wo YE
  ·by_cases hx:x.Hf=false
   ·exact Ct.plain hx
   ·refine(mw.2.2 j x (by omega) h2).re fun b hb=>?_
    simp only[ρ'];rw[ai]
    ·exact hb
    ·intro h;obtain⟨m,hm1,hm2⟩:=cL.1 h;simp only[hb,cD]at hm2;have:j=m:=by omega
     subst this;exact hx (DA j hm1 _ h1 h2)
theorem uG{H:ax}{o:Ob}:∀(j:Nat) x,(H++[o])[j]?=some x->(j=H.length/\x=o)\/(j≠H.length/\H[j]?=some x):=by
 intro j x hj;by_cases hlt:j<H.length
 ·rw[aV hlt]at hj;exact .inr ⟨by omega,hj⟩
 ·have hj':=(aB.1 hj).1;simp only[af,aO,bH]at hj';have e:j=H.length:=by omega
  subst e;rw[aY (bM _)]at hj;simp at hj;exact .inl ⟨rfl,hj.symm⟩
theorem rK{H:ax}{o:Ob}{id:Nat}:∀(j:Nat) x,(H.set id o)[j]?=some x->(j=id/\x=o)\/(j≠id/\H[j]?=some x):=by
 intro j x hj;by_cases e:id=j
 ·subst e;have hlt:id<H.length:=by
   have:=(aB.1 hj).1;simpa using this
  rw[cT hlt]at hj;cases hj;exact .inl ⟨rfl,rfl⟩
 ·rw[bO e]at hj;exact .inr ⟨fun h=>e h.symm,hj⟩
theorem cX.newRow(hs:cX Γ st κ Θ a w){ρ:Nat->Nat}(hu:rY Γ st.H κ Θ w ρ){u:Bool}{ms:aI}{e sz cap:Nat}{rows:List aG}{bs:aI}(cur:Array Value)(hsz:0<sz)(hrl:∀r∈rows,r.length=sz)
 (CL:cur.size=cap*sz) (hn:rows.length<=cap) (hcap:cap<=maxLen) (hr:iT w (cur.toList.take (rows.length*sz)) rows.flatten bs) (hz:∀b∈bs,Θ b=0)
 (DA:∀m∈ms,∀x,st.H[m]?=some x->x.Hf=false) (hq:u=true->bs.Nodup/\(∀b∈bs,∃m∈ms,ρ b=m+1)/\qG w (ol e) 0 (cur.toList.take (rows.length*sz)) rows.flatten bs):
 cX Γ ⟨st.σ,st.H++[.row (pg u) e sz rows]⟩ (qY κ st.H.length (some (.slice (some ⟨w.heap.size,0,none⟩) rows.length cap))) (fun b=>if b=w.heap.size then st.H.length+2 else Θ b) a (w.alloc (.cells cur e)):=by
 have k:=fD.alloc hs (.cells cur e) (tag:=st.H.length+2) (by omega);obtain⟨h1,h2⟩:=iT.over k hr hz;have hlen:(cur.toList.take (rows.length*sz)).length=rows.length*sz:=by
  have:rows.length*sz<=cap*sz:=cr _ hn;have h3:cur.toList.length=cap*sz:=by rw[<-CL];simp
  rw[bK,h3,dN this]
 have hown:(w.alloc (.cells cur e)).ownsRow 0 e sz (.slice (some ⟨w.heap.size,0,none⟩) rows.length cap) rows.length (cur.toList.take (rows.length*sz)):=
  ⟨hlen,.inr ⟨w.heap.size,cap,cur,rfl,by omega,heap_alloc_new w _,hn,hcap,CL,rfl⟩⟩
 refine hs.put ms uG (qD (hs.kQ _ (bM _)) _) ?_ ?_ k (hs.rP (fun b hb=>by by_cases e:b=w.heap.size<;>simp_all)) ?_ hu (fun m hm x _=>DA m hm x) ?_
 ·intro i hi;simp only[af,aO,bH]at hi;unfold qY;rw[ai (by omega)];exact hs.kQ i (by omega)
 ·intro i x hx;unfold qY at hx;split at hx
  ·cases hx;rfl
  ·exact hs.kC i x hx
 ·refine⟨hsz,hrl,_,_,bs,by simp[qY],hown,h1,?_,?_⟩
  ·intro g hg;simp only[Value.ownBlock,aS]at hg;subst hg;simp
  ·cases u<;>exact h2
 ·intro e' sz' cw he;cases u with
  |false=>simp[pg]at he
  |true=>
   simp only[pg,Ob.row.injEq,rX]at he;obtain⟨rfl,rfl,rfl⟩:=he;obtain⟨q1,q2,q3⟩:=hq rfl;exact⟨_,_,bs,by simp[qY],hown,q3.over k hz,q1,fun b hb=>.inr (q2 b hb)⟩
theorem Dt{o:Oper}{T e sz t:Nat}{x y:Operand}{k k':IntKind}{n:Int}{zs:aG}(hop:o.op=.makeSlice T x y)(hd:o.dst=some t)(hg:o.guard=none)(ht:t<Γ.nt)
 (hT:xJ P T=some (e,sz)) (hz:tz P e=some zs) (hsz:0<sz) (hx:st.ev x=.int k n) (hy:st.ev y=.int k' n) (h0:0<=n) (hroom:Mc P e*n.toNat<=281474976710656) (yj:n.toNat<=4611686018427387904)
 (h:AO P Γ all rest Q ⟨(t,.acc st.H.length)::st.σ,st.H++[.row (pg (Mj e)) e sz (List.replicate n.toNat (zs.map D.uJ))]⟩):AO P Γ all (o::rest) Q st:=by
 intro κ Θ a w hs;obtain⟨b1,r1,_⟩:=hs.ev x;obtain⟨b2,r2,_⟩:=hs.ev y;rw[hx]at r1;rw[hy]at r2;have e1:=r1.lK;have e2:=r2.lK;obtain⟨hu,_,zj⟩:=kD hT;obtain⟨i,z,hi,qX,EJ,hlen,hone,rfl⟩:=pz hz;have uw:i.size=sz:=by rw[<-zj];simp[rQ,Program.cellsOf,hi]
 have hby:i.bytes=Mc P e:=by simp[Mc,Program.bytesOf,hi]
 obtain⟨m,rfl⟩:=Int.eq_ofNat_of_zero_le h0;simp only[sj]at hroom yj h;have hrun:=run_make (P:=P) w T e i z hu hi qX k k' m m (by omega) (by omega) (by rw[hby];have:=Int.ofNat_le.2 hroom;rw[Int.natCast_mul]at this;exact this) (by omega);simp only[sj]at hrun;rw[<-EJ]at hrun;have L4:=CY z.cells m;obtain⟨ρ,Vm⟩:=hs.mi;have Wv:iT w ((madeCells z.cells (m*z.cells.size)).toList.take ((List.replicate m ((z.cells.toList.map D.Fz).map D.uJ)).length*sz)) (List.replicate m ((z.cells.toList.map D.Fz).map D.uJ)).flatten []:=by
  rw[vL,gu (by simp[size_madeCells,EJ,uw]),L4];have hcell:=(uF (w:=w) (κ:=κ) z.cells.toList hone).pure (by
   rw[yz,aQ];intro c _;simp only[Function.comp];unfold D.Fz;split<;>(try split)<;>rfl)
  exact hcell.soft.X5 m
 have hs':=hs.newRow Vm (u:=Mj e) (ms:=[]) (e:=e) (sz:=sz) (cap:=m) (rows:=List.replicate m ((z.cells.toList.map D.Fz).map D.uJ)) (bs:=[]) (madeCells z.cells (m*z.cells.size)) hsz
  (by intro r hr;rw[tG hr];simp[EJ,uw]) (by rw[size_madeCells,EJ,uw]) (by simp) (by unfold maxLen;omega)
  Wv (by simp) (by simp) (fun hq=>⟨by simp,by simp,.of Wv (u7 (AG hq))⟩)
 refine wpList_plain hg fun K hK=>?_
 unfold Oper.wp;have FZ:(execOp a.eval o).run P w=.ok (.value (.slice (some ⟨w.heap.size,0,none⟩) m m)) (w.alloc (.cells (madeCells z.cells (m*z.cells.size)) e)):=by
  simp only[execOp,hop,e1,e2];simp[hrun]
 rw[FZ,Oper.upon_value,hd];simp only[vL]at hs';refine hK _ _ (h _ _ _ _ (hs'.set (t:=t) (d:=.acc st.H.length) (bs:=[]) ht ?_ (by simp)));exact(rD.acc st.H.length _ (by simp[qY])).Dj
def mX(len sz:Nat):List (Nat×Nat):=(List.range len).map fun i=>(i*sz,sz)
def chunk(sz:Nat):Nat->aG->List aG
 |0,_=>[]
 |n+1,ds=>ds.take sz::chunk sz n (ds.drop sz)
theorem w4(sz:Nat):∀(n:Nat) (ds:aG),ds.length=n*sz->(chunk sz n ds).length=n/\(chunk sz n ds).flatten=ds/\∀r∈chunk sz n ds,r.length=sz:=by
 intro n
 induction n with
 |zero=>intro ds h;simp at h;subst h;simp[chunk]
 |succ n ih=>
  intro ds h;rw[gT,jG]at h;obtain⟨h1,h2,h3⟩:=ih (ds.drop sz) (by rw[jv];omega);refine⟨by simp[chunk,h1],by simp[chunk,h2],fun r hr=>?_⟩;rcases au.1 hr with rfl|hr
  ·rw[bK];omega
  ·exact h3 r hr
theorem Gf{len sz:Nat}:∀(parts:List (Nat×Value)) (cs arr:Array Value),Instr.fill ((mX len sz).toArray[·]?) cs parts=some arr->Instr.fill (fun i=>some (i*sz,sz)) cs parts=some arr:=by
 intro parts
 induction parts with
 |nil=>intro cs arr h;exact h
 |cons p parts ih=>
  intro cs arr h;obtain⟨i,v⟩:=p;simp only[Instr.fill]at h⊢;split at h
  ·cases h
  ·rename_i off size hp;have e:(off,size)=(i*sz,sz):=by
    simp only[mX,dW,bS]at hp;cases hr:(List.range len)[i]? with
    |none=>simp[hr]at hp
    |some j=>
     have hj:=(aB.1 hr)
     simp only[hr,bp,aS]at hp;have:j=i:=by have:=hj.2;simp at this;omega
     rw[<-hp,this]
   cases e;split at h
   ·cases h
   ·rename_i hc;rw[ai hc];exact ih _ _ h
theorem Ea{places:List (Nat×Nat)}:∀(ps:List (Nat×D)) (cells ds:aG),qS places cells ps=some ds->ds.length=cells.length:=by
 intro ps
 induction ps with
 |nil=>intro cells ds h;simp only[qS,aS]at h;rw[h]
 |cons p ps ih=>
  intro cells ds h;obtain⟨i,d⟩:=p;simp only[qS]at h;split at h
  ·split at h
   ·rename_i hc;rw[ih _ _ h];simp;omega
   ·cases h
  ·cases h
theorem rp{o:Oper}{T e sz len:Nat}{parts:Array (Nat×Operand)}{zs ds:aG}(hop:o.op=.buildSlice T len parts)
 (hT:xJ P T=some (e,sz)) (hz:tz P e=some zs) (hsz:0<sz) (hsmall:len*sz<=16777216)
 (hf:qS (mX len sz) (List.replicate len zs).flatten (parts.toList.map fun p=>(p.1,st.ev p.2))=some ds) (hs:cX Γ st κ Θ a w):
 ∃(arr:Array Value) (b0:aI),(execOp a.eval o).run P w=.ok (.value (.slice (some ⟨w.heap.size,0,none⟩) len len)) (w.alloc (.cells arr e))/\dQ w κ arr.toList ds b0/\(∀b∈b0,Θ b=0)/\arr.size=len*sz/\ds.length=len*sz:=by
 obtain⟨hu,_,zj⟩:=kD hT;obtain⟨i,z,hi,qX,EJ,hlen,hone,rfl⟩:=pz hz;have uw:i.size=sz:=by rw[<-zj];simp[rQ,Program.cellsOf,hi]
 have L4:=CY z.cells len;have hzero:dQ w κ (madeCells z.cells (len*z.cells.size)).toList (List.replicate len (z.cells.toList.map D.Fz)).flatten []:=by
  rw[L4];have hcell:=(uF (w:=w) (κ:=κ) z.cells.toList hone).pure (by
   rw[yz,aQ];intro c _;simp only[Function.comp];unfold D.Fz;split<;>(try split)<;>rfl)
  exact dQ.vH (hcell.X5 len)
 obtain⟨arr,b0,SW,D6,hb0⟩:=I8 hs parts.toList _ _ ds [] hzero (by simp) hf;have Gl:=Gf _ _ _ SW;have hdl:ds.length=len*sz:=by
  rw[Ea _ _ _ hf,jN (sz:=sz) (by intro r hr;rw[tG hr];simp[EJ,uw])];simp
 have hal:arr.size=len*sz:=by have:=D6.length;simp at this;omega
 refine⟨arr,b0,?_,D6,hb0,hal,hdl⟩;simp only[execOp,hop];by_cases h0:len*i.size=0
 ·have hl0:len=0:=by
   rw[uw]at h0;rcases Nat.mul_eq_zero.1 h0 with h|h
   ·exact h
   ·omega
  subst hl0;have hma:madeCells z.cells (0*z.cells.size)= #[]:=by simp[madeCells]
  rw[hma]at Gl;have hpe:(parts.map fun(x:Nat×Operand)=>(x.1,a.eval x.2)).toList=parts.toList.map fun p=>(p.1,a.eval p.2):=by simp
  have SV:=Gl;rw[<-hpe,<-uw]at SV;simp at SV;have Jn:Array.range 0= #[]:=rfl;simp[Instr.buildSlice,run_underlying hu,sizeOf,typeInfo,hi,newRow,Jn,SV]
 ·have hpe:(parts.map fun(x:Nat×Operand)=>(x.1,a.eval x.2)).toList=parts.toList.map fun p=>(p.1,a.eval p.2):=by simp
  have:=run_buildSlice (P:=P) w T e len (parts.map fun(x:Nat×Operand)=>(x.1,a.eval x.2)) arr i z hu hi qX (by rw[uw];omega) h0 (by
   rw[hpe,uw];have e2:(Array.range (len*sz)).map (z.cells[· %z.cells.size]!)=madeCells z.cells (len*z.cells.size):=by unfold madeCells;rw[EJ,uw]
   rw[e2];exact Gl)
  simp[this]
theorem Cz{o:Oper}{T e sz len t:Nat}{parts:Array (Nat×Operand)}{zs ds es:aG}{ms:aI}(hop:o.op=.buildSlice T len parts)(hd:o.dst=some t)(hg:o.guard=none)(ht:t<Γ.nt)
 (hT:xJ P T=some (e,sz)) (hz:tz P e=some zs) (hsz:0<sz) (hsmall:len*sz<=16777216)
 (hf:qS (mX len sz) (List.replicate len zs).flatten (parts.toList.map fun p=>(p.1,st.ev p.2))=some ds) (habs:zA st.H ds=some (es,ms)) (hnd:ms.Nodup)
 (h:AO P Γ all rest Q ⟨(t,.acc st.H.length)::st.σ,kill st.H ms++[.row (pg (Jd st.H e 0 ds)) e sz (chunk sz len es)]⟩):AO P Γ all (o::rest) Q st:=by
 intro κ Θ a w hs;obtain⟨arr,b0,hrun,D6,hb0,hal,hdl⟩:=rp hop hT hz hsz hsmall hf hs;obtain⟨ρ,Vm⟩:=hs.mi;obtain⟨Θ1,ρ1,hs1,hu1,hm1,hz1,Jo⟩:=cX.Fm ms hs Vm hnd (F6 habs);obtain⟨bs,q1,q2,q3⟩:=GR (H:=st.H) (ρ:=ρ1) habs hnd D6 (fun b hb=>hz1 b (hb0 b hb)) hm1 e 0;have hel:es.length=len*sz:=by rw[<-q1.length,D6.length,hdl]
 obtain⟨c1,c2,c3⟩:=w4 sz len es hel;have hs':=hs1.newRow hu1 (u:=Jd st.H e 0 ds) (ms:=ms) (e:=e) (sz:=sz) (cap:=len) (rows:=chunk sz len es) (bs:=bs) arr hsz c3 hal (by rw[c1];exact bM _)
  (by unfold maxLen;have:len*1<=len*sz:=fe _ hsz;omega) (by rw[c1,c2,gu (by simp[hal])];exact q1) q2
  (by
   intro m hm x hH;rcases jf hH with h|⟨h,_⟩
   ·subst h;rfl
   ·exact absurd hm h) (fun hq=>⟨(q3 hq).1,(q3 hq).2.1,by rw[c1,c2,gu (by simp[hal])];exact(q3 hq).2.2⟩)
 refine wpList_plain hg fun K hK=>?_
 unfold Oper.wp;rw[hrun,Oper.upon_value,hd];rw[c1,dY]at hs';refine hK _ _ (h _ _ _ _ (hs'.set (t:=t) (d:=.acc st.H.length) (bs:=[]) ht ?_ (by simp)));exact(rD.acc st.H.length _ (by simp[qY])).Dj
end
end Go.Cx
namespace Go.Cx
open Go.RowKit
section
variable{P:Program}{Γ:oK}{Q:Exit->St->Prop}{st:St}{κ:Nat->Option Value}{Θ:Nat->Nat}{a:Act}{w:World}{all:Array Oper}{rest:List Oper}
theorem Bm(w:World)(t ty e:TypeId)(i:TypeInfo)(ht:P.underlying t=some (.slice e))(hi:P.info? e=some i)(b:Option Addr)(n cap:Nat)(hn:n<=cap):
 (Builtin.append_ #[t,t] ty #[.slice b n cap,.slice none 0 0]).run P w=.ok (.slice b n cap) w:=by
 cases b<;>simp[Builtin.append_,run_underlying ht,sizeOf,typeInfo,hi,Builtin.lenOf,Builtin.firstCells,hn,storeCells]
structure KC(w:World)(Θ ρ:Nat->Nat)(e sz:Nat)(v:Value)(rows:List (List D))(u1:Bool)(i1:Nat)(bs:List Nat)(cs:List Value):Prop where
 rl:∀r∈rows,r.length=sz
 own:w.ownsRow 0 e sz v rows.length cs
 rd:iT w cs rows.flatten bs
 zero:∀b∈bs,Θ b=0
 top:∀g,v.ownBlock=some g->Θ g=i1+2
 uq:u1=true->bs.Nodup/\∀b∈bs,ρ b=i1+1
 SI:u1=true->qG w (ol e) 0 cs rows.flatten bs
structure Dw(w:World)(Θ ρ:Nat->Nat)(e sz:Nat)(u:Value)(rows:List (List D))(u2:Bool)(i2:Nat)(bs:List Nat)(cs:List Value):Prop where
 rl:∀r∈rows,r.length=sz
 at_:(u=.slice none 0 0/\rows=[])\/∃ad c,u=.slice (some ad) rows.length c/\∀j x,cs[j]?=some x->w.cell? (ad.add j)=some x
 rd:iT w cs rows.flatten bs
 zero:∀b∈bs,Θ b=0
 uq:u2=true->bs.Nodup/\∀b∈bs,ρ b=i2+1
 SI:u2=true->qG w (ol e) 0 cs rows.flatten bs
theorem GV{T e sz i1 i2:Nat}{v u:Value}{rows dV:List aG}{u1 u2:Bool}{b1 b2:aI}{c1 c2:b9}{ρ:Nat->Nat}{zs:aG}{ty:TypeId}(hT:xJ P T=some (e,sz))(hz:tz P e=some zs)(hsz:0<sz)
 (hS:KC w Θ ρ e sz v rows u1 i1 b1 c1) (hX:Dw w Θ ρ e sz u dV u2 i2 b2 c2) (h63:rows.length+dV.length<=maxLen) (hby:(rows.length+dV.length)*Mc P e<=140737488355328):
 ∃v' w',(Builtin.append_ #[T,T] ty #[v,u]).run P w=.ok v' w'/\w'.ownsRow 0 e sz v' (rows++dV).length (c1++c2)/\w.grownBy w' v.ownBlock/\(v'.ownBlock=v.ownBlock\/v'.ownBlock=some w.heap.size)/\
  iT w (c1++c2) (rows++dV).flatten (b1++b2):=by
 obtain⟨hu,_,zj⟩:=kD hT;obtain⟨i,z,hi,qX,EJ,hlen,hone,rfl⟩:=pz hz;have uw:i.size=sz:=by rw[<-zj];simp[rQ,Program.cellsOf,hi]
 have hib:i.bytes=Mc P e:=by simp[Mc,Program.bytesOf,hi]
 have hr:iT w (c1++c2) (rows++dV).flatten (b1++b2):=by rw[fZ];exact hS.rd.app hX.rd
 have qW:c2.length=dV.length*sz:=by rw[hX.rd.length,jN hX.rl]
 rcases hX.at_ with⟨rfl,rfl⟩|⟨ad,c,rfl,hcell⟩
 ·have hc:c2=[]:=cF (by simpa using qW);subst hc;have hv:∃b n cap,v=.slice b n cap/\n<=cap:=by
   rcases hS.own.2 with⟨rfl,_⟩|⟨g,cap,cur,rfl,_,_,hn,_⟩
   ·exact⟨_,_,_,rfl,bM _⟩
   ·exact⟨_,_,_,rfl,hn⟩
  obtain⟨b,n,cap,rfl,hn⟩:=hv;exact⟨_,w,Bm w T ty e i hu hi b n cap hn,by simpa using hS.own,⟨rfl,rfl,rfl,bM _,fun _ _ _=>rfl⟩,.inl rfl,hr⟩
 ·obtain⟨v',w',q1,q2,q3,_,q5⟩:=run_append_own_at (P:=P) w 0 T ty e i z sz (Mc P e) hu hi qX uw hib (by rw[EJ,uw]) hsz v rows.length c1 hS.own ad dV.length c c2 qW hcell hX.rd.one h63 hby (sr _);exact⟨v',w',q1,by simpa using q2,q3,q5,hr⟩
theorem Ir{o:Oper}{T e sz t:Nat}{s x:Operand}{rows dV:List aG}{zs:aG}{u:Bool}{ks:aI}(hop:o.op=.call {callee:=.builtin .append,args:= #[s,x],argTypes:= #[T,T]})
 (hd:o.dst=some t) (hg:o.guard=none) (ht:t<Γ.nt) (hT:xJ P T=some (e,sz)) (hz:tz P e=some zs) (hsz:0<sz)
 (h63:rows.length+dV.length<=maxLen) (hby:(rows.length+dV.length)*Mc P e<=140737488355328)
 (hin:∀κ Θ a w ρ,cX Γ st κ Θ a w->rY Γ st.H κ Θ w ρ->∃u1 u2 i1 i2 b1 b2 c1 c2,KC w Θ ρ e sz (a.eval s) rows u1 i1 b1 c1/\Dw w Θ ρ e sz (a.eval x) dV u2 i2 b2 c2/\
  (i1∈ks\/i1=st.H.length)/\(u=true->u1=true/\u2=true/\(b2=[]\/(i2∈ks/\i1≠i2))/\Kh e sz=true))
 (h:AO P Γ all rest Q ⟨(t,.acc st.H.length)::st.σ,kill st.H ks++[.row (pg u) e sz (rows++dV)]⟩):AO P Γ all (o::rest) Q st:=by
 intro κ Θ a w hs;obtain⟨ρ,hu⟩:=hs.mi;obtain⟨u1,u2,i1,i2,b1,b2,c1,c2,hS,hX,hi1,hq⟩:=hin κ Θ a w ρ hs hu;obtain⟨v',w',hrun,hown,Ru,ID,hrd⟩:=GV (P:=P) (ty:=o.type) hT hz hsz hS hX h63 hby;refine wpList_plain hg fun K hK=>?_
 have FZ:(execOp a.eval o).run P w=.ok (.value v') w':=by
  simp only[execOp,hop,resolve,invoke,builtin,Sem.run_bind,Sem.run_pure,Result.andThen_ok,jw,b8,bV,hrun]
 unfold Oper.wp;rw[FZ,Oper.upon_value,hd];let id:=st.H.length
 let Θ':Nat->Nat:=fun b=>if some b=v'.ownBlock then id+2 else Θ b
 have Mw:∀g,v'.ownBlock=some g->Θ g=i1+2\/g=w.heap.size:=by
  intro g J8;rcases ID with h|h
  ·exact .inl (hS.top g (h▸J8))
  ·rw[h]at J8;cases J8;exact .inr rfl
 have hnew:Θ w.heap.size=0:=by
  cases h0:Θ w.heap.size with
  |zero=>rfl
  |succ n=>exact absurd (hs.own w.heap.size (by omega)) (by omega)
 have k:fD w w' Θ Θ' (i1+2):=by
  refine⟨by omega,Ru.os,Ru.tape,Ru.output,Ru.size,fun b hb hne=>Ru.block b hb (fun e=>hne (hS.top b e.symm)),fun b hb hne=>?_,fun b hb=>?_⟩
  ·simp only[Θ'];rw[ai];intro e;rcases Mw b e.symm with h|h
   ·exact hne h
   ·omega
  ·simp only[Θ']at hb;split at hb
   ·rename_i e;exact(hown.lt b e.symm).2
   ·exact cK (hs.own b hb) Ru.size
 have hm:∀b,2<=Θ' b->rC Γ b:=by
  intro b hb;simp only[Θ']at hb;split at hb
  ·rename_i e;rcases Mw b e.symm with h|h
   ·exact hs.mine b (by omega)
   ·exact .inl (by rw[h];exact hs.base)
  ·exact hs.mine b hb
 have hn:=qD (hs.kQ id (bM _)) (some v');have Su:v'.oneCell'=true:=by
  rcases hown.2 with⟨rfl,_⟩|⟨g,cap,cur,rfl,_⟩<;>rfl
 have qX:∀b∈b1++b2,Θ b=0:=by
  intro b hb;rcases aH.1 hb with hb|hb
  ·exact hS.zero b hb
  ·exact hX.zero b hb
 obtain⟨DC,Cu⟩:=iT.over k hrd qX;have hrl:∀r∈rows++dV,r.length=sz:=by
  intro r hr;rcases aH.1 hr with hr|hr
  ·exact hS.rl r hr
  ·exact hX.rl r hr
 have wZ:∀g,v'.ownBlock=some g->Θ' g=id+2:=fun g J8=>by simp only[Θ'];rw[av J8.symm]
 have key:∀(j:Nat) y,(kill st.H ks++[.row (pg u) e sz (rows++dV)])[j]?=some y->(j=id/\y=.row (pg u) e sz (rows++dV))\/(j≠id/\(y=.gone\/(j∉ks/\st.H[j]?=some y))):=by
  intro j y hj;rcases uG j y hj with⟨h1,h2⟩|⟨h1,h2⟩
  ·rw[dY]at h1;exact .inl ⟨h1,h2⟩
  ·rw[dY]at h1;exact .inr ⟨h1,jf h2⟩
 have hne:∀(j:Nat) y,j∉ks->st.H[j]?=some y->j+2≠i1+2:=by
  intro j y hj hy;have:=(aB.1 hy).1;rcases hi1 with h|h
  ·intro e;exact hj (by
    have:j=i1:=by omega
    rw[this];exact h)
  ·omega
 have mw:=hs.jh k hn hu;let ρ':Nat->Nat:=fun b=>if u=true/\(b∈b1\/b∈b2)then id+1 else ρ b
 have hold:∀(j:Nat) y,j∉ks->st.H[j]?=some y->∀b,ρ b=j+1->ρ' b=j+1:=by
  intro j y hjk hy b hb;simp only[ρ'];rw[ai]
  ·exact hb
  ·rintro⟨om,hmem⟩;obtain⟨p1,p2,p3,_⟩:=hq om;rcases hmem with h|h
   ·have:=(hS.uq p1).2 b h;exact hne j _ hjk hy (by omega)
   ·have:=(hX.uq p2).2 b h;rcases p3 with h0|⟨h0,_⟩
    ·rw[h0]at h;cases h
    ·have:j=i2:=by omega
     subst this;exact hjk h0
 have hU:rY Γ (kill st.H ks++[.row (pg u) e sz (rows++dV)]) (qY κ id (some v')) Θ' w' ρ':=by
  refine⟨fun b hb=>?_,fun j e' sz' cw hj=>?_,fun j x hj=>?_⟩
  ·simp only[ρ']at hb;split at hb
   ·rename_i hc;obtain⟨om,hmem⟩:=hc;obtain⟨q1,q2,q3,_⟩:=hq om;rcases hmem with h|h
    ·exact mw.1 b (by rw[(hS.uq q1).2 b h];omega)
    ·exact mw.1 b (by rw[(hX.uq q2).2 b h];omega)
   ·exact mw.1 b hb
  ·rcases key j _ hj with⟨rfl,hy⟩|⟨_,hy|⟨hjk,hy⟩⟩
   ·cases om:u with
    |false=>rw[om]at hy;simp[pg]at hy
    |true=>
     rw[om]at hy;simp only[pg,Ob.row.injEq,rX]at hy;obtain⟨rfl,rfl,rfl⟩:=hy;obtain⟨q1,q2,q3,q8⟩:=hq om;have hF:qG w (ol e') 0 (c1++c2) (rows++dV).flatten (b1++b2):=by
      rw[fZ];refine(hS.SI q1).app ?_;rw[jN hS.rl];exact(hX.SI q2).rows q8
     refine⟨v',c1++c2,b1++b2,iB _ _ _,hown,hF.over k qX,?_,fun b hb=>?_⟩
     ·obtain⟨n1,r1⟩:=hS.uq q1;obtain⟨n2,r2⟩:=hX.uq q2;refine aq.2 ⟨n1,n2,fun y hy z hz hyz=>?_⟩;subst hyz;rcases q3 with h|⟨_,h⟩
      ·rw[h]at hz;cases hz
      ·have:=r1 y hy;have:=r2 y hz;omega
     ·simp only[ρ'];rw[av ⟨om,aH.1 hb⟩]
   ·cases hy
   ·obtain⟨v2,cs,bs,q1,q2,q3,q4,q5⟩:=mw.2.1 j e' sz' cw (hne j _ hjk hy) hy;exact⟨v2,cs,bs,q1,q2,q3,q4,fun b hb=>hold j _ hjk hy b (q5 b hb)⟩
  ·rcases key j _ hj with⟨rfl,hy⟩|⟨_,hy|⟨hjk,hy⟩⟩
   ·subst hy;exact Ct.wo (Ob.Fo _ _ _ _)
   ·subst hy;trivial
   ·exact(mw.2.2 j x (hne j _ hjk hy) hy).re fun b hb=>hold j _ hjk hy b hb
 have hs':cX Γ ⟨st.σ,kill st.H ks++[.row (pg u) e sz (rows++dV)]⟩ (qY κ id (some v')) Θ' a w':=by
  refine hs.step k hm hn ?_ ?_ ?_ ⟨ρ',hU⟩
  ·intro i hi;simp only[af,aO,bH,dY]at hi;unfold qY;rw[ai (by omega)];exact hs.kQ i (by omega)
  ·intro i y hy;unfold qY at hy;split at hy
   ·cases hy;exact Su
   ·exact hs.kC i y hy
  ·intro j y hj;rcases key j y hj with⟨rfl,rfl⟩|⟨_,hy|⟨hjk,hy⟩⟩
   ·exact .inr (.inr ⟨hsz,hrl,v',_,_,iB _ _ _,hown,DC,wZ,by cases u<;>exact Cu⟩)
   ·exact .inl hy
   ·exact .inr (.inl ⟨hne j y hjk hy,hy⟩)
 refine hK _ _ (h _ _ _ _ (hs'.set (t:=t) (d:=.acc id) (bs:=[]) ht ?_ (by simp)));exact(rD.acc id _ (iB _ _ _)).Dj
def D.fK(rows:List aG):Bool:=rows.all fun r=>r.all D.flat
theorem iT.flat{vs:b9}{ds:aG}{bs:aI}(h:iT w vs ds bs)(hf:ds.all D.flat=true):bs=[]:=by
 induction ds generalizing vs bs with
 |nil=>cases h;rfl
 |cons d ds ih=>
  simp only[cm,aN]at hf;cases h with
  |cons v vs _ _ b1 b2 h1 h2 h3=>rw[h2.flat hf.1,ih h3 hf.2];rfl
theorem KL{e sz i1:Nat}{ρ:Nat->Nat}:KC w Θ ρ e sz (.slice none 0 0) [] true i1 [] []:=
 ⟨by simp,World.ownsRow_nil w 0 e sz,.nil,by simp,by simp[Value.ownBlock],by simp,fun _=>.nil _⟩
theorem zB{ρ:Nat->Nat}(hs:cX Γ st κ Θ a w)(hu:rY Γ st.H κ Θ w ρ){id e sz:Nat}{k:RK}{rows:List aG}{v:Value}(hk:κ id=some v)(hH:st.H[id]?=some (.row k e sz rows))(ho:k.EZ=true):
 ∃bs cs,KC w Θ ρ e sz v rows k.ub id bs cs:=by
 obtain⟨_,hrl,v2,cs,bs,hk2,hown,hrs,hΘ,hz⟩:=hs.ob id _ hH;rw[hk]at hk2;cases hk2;cases k with
 |cl=>simp[RK.EZ]at ho
 |sh=>exact⟨bs,cs,hrl,hown,hrs,hz,hΘ,by simp[RK.ub],by simp[RK.ub]⟩
 |mv n=>exact⟨bs,cs,hrl,hown,hrs,hz,hΘ,by simp[RK.ub],by simp[RK.ub]⟩
 |ho p n=>
  obtain⟨v2,c2,b2,q1,q2,q3,q4,q5,_⟩:=hu.more id _ hH;rw[hk]at q1;cases q1;exact⟨b2,c2,hrl,q2,q3.rd,fun b hb=>(hu.free b (by rw[q5 b hb];omega)).1,hΘ,fun _=>⟨q4,q5⟩,fun _=>q3⟩
 |uq=>
  obtain⟨v2,c2,b2,q1,q2,q3,q4,q5⟩:=hu.rows id e sz rows hH;rw[hk]at q1;cases q1;exact⟨b2,c2,hrl,q2,q3.rd,fun b hb=>(hu.free b (by rw[q5 b hb];omega)).1,hΘ,fun _=>⟨q4,q5⟩,fun _=>q3⟩
theorem FA{ρ:Nat->Nat}(hs:cX Γ st κ Θ a w)(hu:rY Γ st.H κ Θ w ρ){id e sz:Nat}{k:RK}{rows:List aG}{v:Value}(hk:κ id=some v)(hH:st.H[id]?=some (.row k e sz rows))(ho:k.EZ=true):
 ∃bs cs,Dw w Θ ρ e sz v rows k.ub id bs cs:=by
 obtain⟨bs,cs,h⟩:=zB hs hu hk hH ho;refine⟨bs,cs,h.rl,?_,h.rd,h.zero,h.uq,h.SI⟩;rcases h.own.2 with⟨rfl,hn⟩|⟨g,cap,cur,rfl,_⟩
 ·exact .inl ⟨rfl,cF hn⟩
 ·exact .inr ⟨_,cap,rfl,h.own.cells (g:=g) (by simp[Value.ownBlock])⟩
theorem Dw.sh{e e' sz:Nat}{ρ:Nat->Nat}{u:Value}{rows:List aG}{i:Nat}{bs:aI}{cs:b9}(h:Dw w Θ ρ e' sz u rows false i bs cs):Dw w Θ ρ e sz u rows false i bs cs:=
 ⟨h.rl,h.at_,h.rd,h.zero,h.uq,by simp⟩
theorem KM{e sz i2:Nat}{ρ:Nat->Nat}:Dw w Θ ρ e sz (.slice none 0 0) [] true i2 [] []:=
 ⟨by simp,.inl ⟨rfl,rfl⟩,.nil,by simp,by simp,fun _=>.nil _⟩
theorem NK{ρ:Nat->Nat}{v:Value}{rows:List aG}{bs:aI}{sz:Nat}(h:Rd w v (.sl rows) bs)(hz:∀b∈bs,Θ b=0)(hrl:∀r∈rows,r.length=sz)(i2:Nat)(fl:Bool)(hf:fl=true->D.fK rows=true)(e:Nat)(he:fl=true->BK e=none):
 ∃b2 cs,Dw w Θ ρ e sz v rows fl i2 b2 cs/\(fl=true->b2=[]):=by
 cases h with
 |qz=>exact⟨[],[],⟨by simp,.inl ⟨rfl,rfl⟩,.nil,by simp,by simp,fun _=>.nil _⟩,by simp⟩
 |jo ad cap hc=>exact⟨[],[],⟨by simp,.inr ⟨ad,cap,rfl,by simp⟩,.nil,by simp,by simp,fun _=>.nil _⟩,by simp⟩
 |sl b off cap sz' _ cs bs' h0 h1 h2 h3 h4 h5=>
  have hfl:fl=true->bs'=[]:=fun e=>h5.flat (by
   have:=hf e;unfold D.fK at this;rw[aQ]at this⊢;intro d hd;obtain⟨r,hr,yu⟩:=eE.1 hd;exact aQ.1 (this r hr) d yu)
  refine⟨bs',cs,⟨hrl,.inr ⟨_,cap,rfl,fun j x hj=>?_⟩,h5,fun y hy=>hz y (by simp[hy]),fun e=>by rw[hfl e];simp,fun e=>.of h5 (u7 (he e))⟩,hfl⟩;have:=h4 j x hj;simpa[Addr.add_lit]using this
end
end Go.Cx
namespace Go.Cx
open Go.RowKit
section
variable{P:Program}{Γ:oK}{Q:Exit->St->Prop}{st:St}{κ:Nat->Option Value}{Θ:Nat->Nat}{a:Act}{w:World}{all:Array Oper}{rest:List Oper}
theorem cj{H:ax}{ms:aI}{j:Nat}(h:j∉ms):(kill H ms)[j]?=H[j]?:=by
 induction ms generalizing H with
 |nil=>rfl
 |cons m ms ih=>
  simp only[au,AV]at h;simp only[kill];rw[ih h.2,bO (fun e=>h.1 e.symm)]
def RK.after(k:RK)(b:Bool):RK:=match k with
 | .uq=>pg b
 | .mv _=>.sh
 | .ho _ _=>pg b
 |k=>k
theorem RK.Iy(k:RK)(b:Bool)(e:TypeId)(sz:Nat)(rows:List aG):(Ob.row (k.after b) e sz rows).PA=false:=by cases k<;>cases b<;>rfl
theorem Ez{o:Oper}{T id i sz off e:Nat}{k0:RK}{x y:Operand}{rows:List aG}{row ds es:aG}{ms:aI}(hop:o.op=.store T x y)(hd:o.dst=none)(hg:o.guard=none)
 (hx:st.ev x=.op id i sz off) (hH:st.H[id]?=some (.row k0 e sz rows)) (hk0:k0.EZ=true) (hrow:rows[i]?=some row) (hc:(st.ev y).cellsOf=some ds) (habs:zA st.H ds=some (es,ms)) (hnd:ms.Nodup) (hid:id∉ms)
 (hT:En P T=true) (hl:ds.length=rQ P T) (hfit:off+ds.length<=sz)
 (h:AO P Γ all rest Q ⟨st.σ,(kill st.H ms).set id (.row (k0.after (Jd st.H e off ds&&Kh e sz)) e sz (rows.set i (row.take off++es++row.drop (off+ds.length))))⟩):AO P Γ all (o::rest) Q st:=by
 intro κ Θ0 a w hs0;obtain⟨b1,r1,_⟩:=hs0.ev x;obtain⟨Z2,r2,Vq⟩:=hs0.ev y;rw[hx]at r1;obtain⟨g,o0,len,cap,hk,hv⟩:=r1.wm;have V5:=tZ hs0.kC r2 hc;obtain⟨ρ0,Ql⟩:=hs0.mi;obtain⟨Θ,ρ,hs,hu,hm1,hz1,Jo⟩:=cX.Fm ms hs0 Ql hnd (F6 habs);obtain⟨b2,SR,Gx,qx⟩:=GR (H:=st.H) (ρ:=ρ) habs hnd V5 (fun b hb=>hz1 b (Vq b hb)) hm1 e off;have EC:(kill st.H ms)[id]?=some (.row k0 e sz rows):=by rw[cj hid];exact hH
 obtain⟨bs,cs,hA⟩:=zB hs hu hk EC hk0;have hrl:=hA.rl;have hown:=hA.own;have Jm:=rI hown;subst Jm;rw[cP]at hv;have hrs:=hA.rd;have hsz:0<sz:=by
  obtain⟨hsz,_⟩:=hs.ob id _ EC;exact hsz
 rcases hown.2 with⟨oF,_⟩|⟨g',cap2,cur,hkv,hb,EH,hnc,hcm,hcs,Fa⟩
 ·cases oF
 ·cases hkv;have EL:=hA.top g (by simp[Value.ownBlock]);have hl1:=V5.length;have hle:es.length=ds.length:=by rw[<-SR.length,hl1]
  have hilt:i<rows.length:=(aB.1 hrow).1;have QV:(i+1)*sz<=rows.length*sz:=cr _ hilt;have YF:rows.length*sz<=cap*sz:=cr _ hnc;rw[gT,jG]at QV;have Qk:(a.eval y).cells.size=rQ P T:=by rw[<-hl,<-hl1];simp
  have YQ:(a.eval y).cells.size=ds.length:=by rw[<-hl1];simp
  have hst:=wv (P:=P) (T:=T) (off:=i*sz+off) EH Qk (cu.1 hT) (by omega) V5.one;have k:=fD.setRow hs (g:=g) (cs:=(cur.toList.take (i*sz+off)++(a.eval y).cells.toList++cur.toList.drop (i*sz+off+(a.eval y).cells.toList.length)).toArray) (tag:=id+2) (by omega) EL;refine wpList_plain hg fun K hK=>?_
  unfold Oper.wp;have hrun:(execOp a.eval o).run P w=.ok .skip (w.setRow g (cur.toList.take (i*sz+off)++(a.eval y).cells.toList++cur.toList.drop (i*sz+off+(a.eval y).cells.toList.length)).toArray):=by
   simp only[execOp,hop,hv];simp[hst]
  rw[hrun,Oper.upon_skip,hd];have hfl:=jN hrl;have e0:rows.flatten=rows.flatten.take (i*sz+off)++((rows.flatten.drop (i*sz+off)).take ds.length++(rows.flatten.drop (i*sz+off)).drop ds.length):=by rw[bR,bR]
  rw[e0]at hrs;obtain⟨v1,v2,c1,c2,Bk,vh,k1,k2⟩:=hrs.split;obtain⟨v3,v4,c3,c4,rfl,rfl,k3,k4⟩:=k2.split;have l1:v1.length=i*sz+off:=by rw[k1.length,bK];omega
  have l3:v3.length=ds.length:=by rw[k3.length,bK,jv];omega
  rw[eC]at k4;have hnew:=(k1.app SR).app k4;have Cu:∀b∈((c1++b2)++c4),Θ b=0:=by
   intro b hb;simp only[aH]at hb;rcases hb with(hb|hb)|hb
   ·exact hA.zero b (by rw[vh];simp[hb])
   ·exact Gx b hb
   ·exact hA.zero b (by rw[vh];simp[hb])
  obtain⟨n1,n2⟩:=iT.over k hnew Cu;have hfs:=wT (ds:=es) (off:=off) hrl hrow (by omega);rw[hle]at hfs;rw[<-hfs]at n1;have Kp:cs.length=rows.length*sz:=hown.1;have SU:cur.toList=v1++(v3++(v4++cur.toList.drop (rows.length*sz))):=by
   have:cur.toList=cs++cur.toList.drop (rows.length*sz):=by rw[<-Fa,bR]
   rw[Bk]at this;simpa using this
  have t1:cur.toList.take (i*sz+off)=v1:=by rw[SU];exact fL l1
  have t2:cur.toList.drop (i*sz+off+(a.eval y).cells.toList.length)=v4++cur.toList.drop (rows.length*sz):=by
   rw[hl1,<-eC]
   conv=>lhs;rw[SU]
   rw[dw l1,dw l3]
  have Sg:(v1++(a.eval y).cells.toList++v4).length=rows.length*sz:=by
   have:=Kp;rw[Bk]at this;simp only[af]at this⊢;omega
  have zh:(w.setRow g (cur.toList.take (i*sz+off)++(a.eval y).cells.toList++cur.toList.drop (i*sz+off+(a.eval y).cells.toList.length)).toArray).ownsRow 0 e sz (.slice (some ⟨g,0,none⟩) rows.length cap)
   (rows.set i (row.take off++es++row.drop (off+ds.length))).length (v1++(a.eval y).cells.toList++v4):=by
   refine⟨by simpa using Sg,.inr ⟨g,cap,_,by simp,hb,setRow_heap w g cur _ e _ EH,by simpa using hnc,hcm,?_,?_⟩⟩
   ·simp only[oq,af,bK,jv,nj];omega
   ·rw[t1,t2];simp only[kS];rw[<-eP];exact fL Sg
  have Bj:∀r∈rows.set i (row.take off++es++row.drop (off+ds.length)),r.length=sz:=by
   intro r hr;rcases ng hr with hr|rfl
   ·exact hrl r hr
   ·have:=hrl row (aE hrow);simp;omega
  have wZ:∀g2,(Value.slice (some ⟨g,0,none⟩) rows.length cap).ownBlock=some g2->Θ g2=id+2:=by
   intro g2 IF;simp only[Value.ownBlock,aS]at IF;subst IF;exact EL
  refine hK _ _ (h _ _ _ _ (hs.put ms rK (fun _ _ h=>h) (fun i hi=>hs.kQ i (by simpa using hi)) hs.kC k hs.mine ?_ hu ?_ ?_ (RK.Iy _ _ _ _ _)))
  ·refine⟨hsz,Bj,_,_,_,hk,zh,n1,wZ,?_⟩;cases k0 with
   |cl=>simp[RK.EZ]at hk0
   |sh=>exact n2
   |mv n=>exact n2
   |ho p n=>simp only[RK.after];cases(Jd st.H e off ds&&Kh e sz)<;>exact n2
   |uq=>simp only[RK.after];cases(Jd st.H e off ds&&Kh e sz)<;>exact n2
  ·intro m hm x _ xD;rcases jf xD with h|⟨h,_⟩
   ·subst h;rfl
   ·exact absurd hm h
  ·intro e' sz' cw he;cases k0
   case cl=>simp[RK.EZ]at hk0
   case sh=>simp[RK.after]at he
   case mv n=>simp[RK.after]at he
   all_goals
    simp only[RK.after]at he;cases hq:(Jd st.H e off ds&&Kh e sz)with
    |false=>rw[hq]at he;simp[pg]at he
    |true=>
     rw[hq]at he;simp only[pg,Ob.row.injEq,rX]at he;obtain⟨rfl,rfl,rfl⟩:=he;rw[aN]at hq;obtain⟨q1,q2,q7⟩:=qx hq.1;obtain⟨p1,p2⟩:=hA.uq rfl;have WZ:=hA.SI rfl;rw[e0]at WZ;obtain⟨x1,x2,y1,y2,ex,ey,s1,s2⟩:=WZ.split;obtain⟨x3,x4,y3,y4,rfl,rfl,s3,s4⟩:=s2.split;rw[Bk]at ex;obtain⟨rfl,Xf⟩:=List.append_inj ex (by rw[s1.length,k1.length]);obtain⟨rfl,rfl⟩:=List.append_inj Xf (by rw[s3.length,k3.length]);have WL:(rows.flatten.take (i*sz+off)).length=i*sz+off:=by rw[<-k1.length];exact l1
     have Yb:((rows.flatten.drop (i*sz+off)).take ds.length).length=ds.length:=by rw[<-k3.length];exact l3
     rw[eC]at s4;have q8:=q7.rows (n:=i) hq.2;have hF:=(s1.app (by rw[WL];rwa[show 0+(i*sz+off)=off+i*sz by omega])).app (us:=v4) (es:=rows.flatten.drop (i*sz+off+ds.length)) (cs:=y4) (by rw[af,WL,hle];rwa[WL,Yb,gl]at s4);rw[<-hfs]at hF;have YS:∀b∈((y1++b2)++y4),Θ b=0:=by
      intro b hb;simp only[aH]at hb;rcases hb with(hb|hb)|hb
      ·exact hA.zero b (by rw[ey];simp[hb])
      ·exact Gx b hb
      ·exact hA.zero b (by rw[ey];simp[hb])
     refine⟨_,_,_,hk,zh,hF.over k YS,?_,fun b hb=>?_⟩
     all_goals rw[ey]at p1 p2
     all_goals obtain⟨m1,m2,m3⟩:=aq.1 p1
     all_goals obtain⟨m4,m5,m6⟩:=aq.1 m2
     ·refine aq.2 ⟨aq.2 ⟨m1,q1,fun x hx y hy e=>?_⟩,m5,fun x hx y hy e=>?_⟩
      ·subst e;obtain⟨m,hm,he⟩:=q2 x hy;have:=p2 x (by simp[hx]);exact hid (by
        have:id=m:=by omega
        rw[this];exact hm)
      ·subst e;rcases aH.1 hx with hx|hx
       ·exact m3 x hx x (by simp[hy]) rfl
       ·obtain⟨m,hm,he⟩:=q2 x hx;have:=p2 x (by simp[hy]);exact hid (by
         have:id=m:=by omega
         rw[this];exact hm)
     ·simp only[aH]at hb;rcases hb with(hb|hb)|hb
      ·exact .inl (p2 b (by simp[hb]))
      ·exact .inr (q2 b hb)
      ·exact .inl (p2 b (by simp[hb]))
end
end Go.Cx
