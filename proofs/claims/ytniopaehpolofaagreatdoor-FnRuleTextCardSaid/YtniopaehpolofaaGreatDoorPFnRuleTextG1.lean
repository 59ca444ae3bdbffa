/- The core of an abstract reading of Go's data: what a value shows in memory (D), which blocks it uses, and that this stays where those blocks stay. No condition; plain lemmas. -/
import Derived.WalkKit
import Derived.ProofKit
import Derived.Deep.LoopGhost
import Derived.MapKept
import Derived.Great.BuildSlice
import Derived.Maps.AppendAt
set_option linter.unusedVariables false
set_option linter.unusedSimpArgs false
namespace Go.Cx
open Go.RowKit
set_option linter.defProp false
def aA:=@Option.bind_some
def aB:=@List.getElem?_eq_some_iff
def aD:=@List.mem_of_getElem?
def aF:=@List.mem_append
def aJ:=@Option.bind_eq_some_iff
def aK:=@cond_true
def aM:=@Bool.and_eq_true
def aN:=@List.getElem?_eq_getElem
def aO:=@List.all_eq_true
def aP:=@cond_false
def aQ:=@Option.some.injEq
def aR:=@List.length_cons
def aS:=@List.getElem?_append_left
def aV:=@List.getElem?_append_right
def aX:=@Array.getElem?_eq_some_iff
def aY:=@List.mem_cons
def aZ:=@List.nodup_append
def aa:=@List.map_append
def af:=@List.length_append
def ar:=@if_neg
def au:=@List.map_drop
def av:=@of_decide_eq_true
def ax:=@List.map_cons
def ay:=@List.map_take
def az:=@List.mem_range
def b8:=@Nat.le_refl
def b9:=@List.getElem?_map
def bA:=@decide_eq_true_eq
def bB:=@Bool.not_true
def bC:=@List.length_nil
def bD:=@List.length_take
def bG:=@if_pos
def bH:=@List.getElem?_set_ne
def bI:=@List.map_nil
def bJ:=@List.mem_filterMap
def bK:=@List.take_append_drop
def bL:=@List.length_map
def bM:=@Array.getD_eq_getD_getElem?
def bN:=@decide_eq_true
def bO:=@Bool.eq_iff_iff
def bQ:=@List.mem_of_mem_take
def bR:=@List.getElem?_eq_none
def bS:=@Array.getElem?_eq_getElem
def bU:=@List.getElem?_take
def bV:=@List.mem_flatMap
def bW:=@Prod.mk.injEq
def bX:=@beq_iff_eq
def bZ:=@Option.map_some
def bf:=@decide_eq_false
def bn:=@List.eq_nil_of_length_eq_zero
def bq:=@Nat.zero_add
def bt:=@List.any_eq_true
def bu:=@List.mem_singleton
def bw:=@Nat.lt_of_lt_of_le
def cC:=@Nat.add_sub_cancel_left
def cF:=@List.append_assoc
def cI:=@List.getElem?_set_self
def cL:=@List.mem_reverse
def cO:=@Classical.byContradiction
def cQ:=@List.mem_map
def cS:=@List.mem_iff_getElem
def cT:=@Option.isSome_iff_exists
def cW:=@List.getElem?_drop
def cY:=@Nat.lt_or_ge
def ck:=@List.all_cons
def cu:=@List.mem_flatten
def cv:=@Nat.min_eq_left
def cw:=@List.flatten_cons
def cx:=@Nat.mul_le_mul_right
def dM:=@List.drop_left'
def dN:=@List.nil_append
def dO:=@Array.getElem?_append_left
def dP:=@List.drop_drop
def dQ:=@List.isPrefixOf_iff_prefix
def dR:=@List.not_mem_nil
def dX:=@List.getElem?_set
def dw:=@List.append_nil
def eB:=@Array.toList_map
def eC:=@List.cons_append
def eE:=@beq_eq_false_iff_ne
def eH:=@List.getElem?_toArray
def eN:=@Option.mem_toList
def eR:=@Nat.add_mul
def eY:=@List.take_left'
def ed:=@List.take_of_length_le
def eg:=@Nat.le_trans
def fB:=@List.flatten_append
def fI:=@Bool.not_false
def fJ:=@Nat.add_assoc
def fM:=@Bool.or_eq_true
def fN:=@List.mem_filter
def fO:=@List.nodup_cons
def fW:=@Array.toArray_toList
def fX:=@List.getElem?_cons_succ
def fY:=@List.getElem?_of_mem
def fZ:=@List.length_drop
def fc:=@List.mem_of_mem_drop
def gD:=@List.flatMap_cons
def gE:=@List.getD_eq_getElem?_getD
def gF:=@List.size_toArray
def gR:=@Array.toList_append
def gh:=@Array.getElem?_toList
def gm:=@List.pairwise_cons
def ig:=@List.map_congr_left
def ij:=@Nat.mul_le_mul_left
def j3:=@Nat.one_mul
def j6:=@Array.toList_inj
def j7:=@List.map_toArray
def jK:=@Nat.le_of_ble_eq_true
def jM:=@Array.mapM_eq_mapM_toList
def jO:=@List.length_set
def jU:=@List.ext_getElem?
def jV:=@if_true
def jo:=@Array.length_toList
def jq:=@List.take_succ_cons
def jt:=@List.eq_nil_iff_forall_not_mem
def ju:=@beq_self_eq_true
def kB:=@List.drop_append_of_le_length
def kC:=@Array.getElem?_eq_none
def kD:=@List.drop_of_length_le
def kE:=@Ne.symm
def kZ:=@Bool.false_or
def kz:=@Bool.not_eq_true'
def lG:=@List.mem_cons_of_mem
def lH:=@List.take_take
def lI:=@or_false
def lW:=@Nat.sub_self
def lX:=@Option.getD_some
def mC:=@List.exists_mem_of_ne_nil
def mD:=@List.mem_or_eq_of_mem_set
def mK:=@List.getElem?_take_of_lt
def mL:=@List.length_erase_of_mem
def mP:=@Option.some.inj
def mT:=@Array.all_eq_true'
def mU:=@Nat.lt_or_gt_of_ne
def n9:=@Int.toNat_natCast
def nA:=@Nat.lt_trichotomy
def nI:=@Array.getElem?_modify
def nK:=@List.set_append_right
def nQ:=@Bool.not_eq_true
def nR:=@List.getElem_mem
def nc:=@Bool.or_false
def nk:=@List.Pairwise.filter
def oH:=@List.cons.injEq
def oI:=@Nat.not_lt_zero
def oJ:=@Option.map_none
def oZ:=@List.filterMap_cons
def ou:=@Nat.add_zero
def pM:=@Array.getElem_append_right
def pN:=@Bool.false_eq_true
def pO:=@List.drop_zero
def pP:=@List.filter_filter
def pQ:=@List.isSuffixOf_iff_suffix
def pR:=@Nat.add_sub_cancel
def pS:=@true_and
def qW:=@Array.getElem_append_left
def qX:=@List.drop_eq_getElem_cons
def qY:=@List.mem_of_find?_eq_some
def qh:=@List.filter_congr
def qw:=@List.eq_of_mem_replicate
def rI:=@List.getElem?_cons_zero
def rJ:=@List.length_eq_zero_iff
def rK:=@List.nodup_range
def rq:=@ByteArray.size_extract
def ru:=@Int.le_of_lt
def rz:=@Int.le_trans
def s7:=@List.getElem_cons_drop
def s8:=@Nat.sub_zero
def sY:=@Int.ediv_nonneg
def sZ:=@List.foldl_cons
def tB:=@Bool.and_eq_false_iff
def tC:=@List.length_replicate
def tD:=@List.singleton_append
def tZ:=@List.mapM_cons
def td:=@Nat.mul_one
def tg:=@Nat.zero_le
def th:=@if_false
def vr:=@Bool.true_and
def wj:=@List.all_map
def wk:=@and_self
def yH:=@not_or
abbrev Bytes:=List UInt8
inductive D where
 |any
 |nil
 |int (k:IntKind) (n:Int)
 |bool (b:Bool)
 |str (s:Bytes)
 |sl (rows:List (List D))
 |agg (cells:List D)
 |fy (vs:List D)
 |ep (row:List D) (off:Nat)
 |acc (id:Nat)
 |ptr (id off:Nat)
 |op (id i sz off:Nat)
 |val (v:Value)
 |fr (e:TypeId) (sz:Nat) (rows:List (List D))
 |fs (e:TypeId) (sz:Nat) (rows:List (List D))
 |pt (cells:List D)
 |MA (b:Bool)
def nM(k:IntKind)(n:Int):Prop:=k.min<=n/\n<=k.max
instance (k:IntKind) (n:Int):Decidable (nM k n):=by unfold nM;infer_instance
theorem nM.wrap(k:IntKind)(n:Int):nM k (k.wrap n):=by
 unfold nM;cases k<;>simp[IntKind.min,IntKind.max,IntKind.wrap,IntKind.bits,IntKind.signed]<;>(try split)<;>omega
theorem nM.i64{n:Int}:nM .i64 n↔ -9223372036854775808<=n/\n<=9223372036854775807:=by
 simp[nM,IntKind.min,IntKind.max,IntKind.bits,IntKind.signed]
theorem nM.u8{n:Int}:nM .u8 n↔0<=n/\n<=255:=by
 simp[nM,IntKind.min,IntKind.max,IntKind.bits,IntKind.signed]
theorem nM.zero(k:IntKind):nM k 0:=by
 unfold nM;cases k<;>simp[IntKind.min,IntKind.max,IntKind.bits,IntKind.signed]
theorem nM.down{k:IntKind}{n m:Int}(h:nM k n)(h0:0<=m)(h1:m<=n):nM k m:=
 ⟨rz (nM.zero k).1 h0,rz h1 h.2⟩
mutual
inductive Rd(w:World):Value->D->List Nat->Prop
 |any (v:Value):Rd w v .any []
 |nil:Rd w (.slice none 0 0) .nil []
 |int (k:IntKind) (n:Int):nM k n->Rd w (.int k n) (.int k n) []
 |bool (b:Bool):Rd w (.bool b) (.bool b) []
 |str (s:ByteArray):s.size<=maxLen->Rd w (.string s) (.str s.data.toList) []
 |val (v:Value):Rd w v (.val v) []
 |oB:Rd w (.slice none 0 0) (.sl []) []
 |iU (a:Addr) (cap:Nat):cap<=maxLen->Rd w (.slice (some a) 0 cap) (.sl []) []
 |sl (b off cap sz:Nat) (rows:List (List D)) (cs:List Value) (bs:List Nat):b<w.heap.size->rows.length<=cap->cap<=maxLen->
  (∀r∈rows,r.length=sz)->(∀j c,cs[j]?=some c->w.cell? ⟨b,off+j,none⟩=some c)->gG w cs rows.flatten bs->
  Rd w (.slice (some ⟨b,off,none⟩) rows.length cap) (.sl rows) (b::bs)
 |agg (cs:List Value) (ds:List D) (bs:List Nat):gG w cs ds bs->Rd w (.agg cs.toArray) (.agg ds) bs
 |ep (b off:Nat) (cs:List Value) (row:List D) (o:Nat) (bs:List Nat):b<w.heap.size->(∀j c,cs[j]?=some c->w.cell? ⟨b,off+j,none⟩=some c)->
  gG w cs row bs->Rd w (.pointer (some ⟨b,off+o,none⟩)) (.ep row o) (b::bs)
 |Gb:Rd w .nilIface (.MA false) []
 |Gc (t:TypeId) (v:Value):Rd w (.iface t v) (.MA true) []
inductive gG(w:World):List Value->List D->List Nat->Prop
 |nil:gG w [] [] []
 |cons (v:Value) (vs:List Value) (d:D) (ds:List D) (b1 b2:List Nat):v.oneCell'=true->Rd w v d b1->gG w vs ds b2->gG w (v::vs) (d::ds) (b1++b2)
end
section
variable{w w':World}
theorem rL{b o:Nat}(h:w'.heap[b]?=w.heap[b]?):w'.cell? ⟨b,o,none⟩=w.cell? ⟨b,o,none⟩:=World.cell?_of_block (a:=⟨b,o,none⟩) h
theorem xZ{b:Nat}(hb:b<w.heap.size)(h:w'.heap[b]?=w.heap[b]?):b<w'.heap.size:=by
 rw[bS hb]at h;exact(aX.1 h).1
theorem BY:
 (∀ {v d bs},Rd w v d bs->(∀b∈bs,w'.heap[b]?=w.heap[b]?)->Rd w' v d bs)/\
 (∀ {vs ds bs},gG w vs ds bs->(∀b∈bs,w'.heap[b]?=w.heap[b]?)->gG w' vs ds bs):=by
 have key:∀(m1:∀v d bs,Rd w v d bs->Prop) (m2:∀vs ds bs,gG w vs ds bs->Prop),
  m1=(fun v d bs _=>(∀b∈bs,w'.heap[b]?=w.heap[b]?)->Rd w' v d bs)->m2=(fun vs ds bs _=>(∀b∈bs,w'.heap[b]?=w.heap[b]?)->gG w' vs ds bs)->
  (∀v d bs h,m1 v d bs h)/\(∀vs ds bs h,m2 vs ds bs h):=by
  intro m1 m2 e1 e2;subst e1;subst e2;constructor
  all_goals intro v d bs h
  ·refine Rd.rec (motive_1:=fun v d bs _=>(∀b∈bs,w'.heap[b]?=w.heap[b]?)->Rd w' v d bs) (motive_2:=fun vs ds bs _=>(∀b∈bs,w'.heap[b]?=w.heap[b]?)->gG w' vs ds bs) ?_ ?_ ?_ ?_ ?_ ?_ ?_ ?_ ?_ ?_ ?_ ?_ ?_ ?_ ?_ h
   ·intro v _;exact .any _
   ·intro _;exact .nil
   ·intro k n h _;exact .int _ _ h
   ·intro b _;exact .bool _
   ·intro s h _;exact .str _ h
   ·intro v _;exact .val _
   ·intro _;exact .oB
   ·intro a cap h _;exact .iU a cap h
   ·intro b off cap sz rows cs bs h0 h1 h2 h3 h4 _ ih hb;exact .sl b off cap sz rows cs bs (xZ h0 (hb b (by simp))) h1 h2 h3 (fun j c hc=>(rL (hb b (by simp))).trans (h4 j c hc)) (ih (fun x hx=>hb x (by simp[hx])))
   ·intro cs ds bs _ ih hb;exact .agg cs ds bs (ih hb)
   ·intro b off cs row o bs h0 h4 _ ih hb;exact .ep b off cs row o bs (xZ h0 (hb b (by simp))) (fun j c hc=>(rL (hb b (by simp))).trans (h4 j c hc)) (ih (fun x hx=>hb x (by simp[hx])))
   ·intro _;exact .Gb
   ·intro t v _;exact .Gc t v
   ·intro _;exact .nil
   ·intro v vs d ds b1 b2 h1 _ _ ih1 ih2 hb;exact .cons v vs d ds b1 b2 h1 (ih1 (fun x hx=>hb x (by simp[hx]))) (ih2 (fun x hx=>hb x (by simp[hx])))
  ·refine gG.rec (motive_1:=fun v d bs _=>(∀b∈bs,w'.heap[b]?=w.heap[b]?)->Rd w' v d bs) (motive_2:=fun vs ds bs _=>(∀b∈bs,w'.heap[b]?=w.heap[b]?)->gG w' vs ds bs) ?_ ?_ ?_ ?_ ?_ ?_ ?_ ?_ ?_ ?_ ?_ ?_ ?_ ?_ ?_ h
   ·intro v _;exact .any _
   ·intro _;exact .nil
   ·intro k n h _;exact .int _ _ h
   ·intro b _;exact .bool _
   ·intro s h _;exact .str _ h
   ·intro v _;exact .val _
   ·intro _;exact .oB
   ·intro a cap h _;exact .iU a cap h
   ·intro b off cap sz rows cs bs h0 h1 h2 h3 h4 _ ih hb;exact .sl b off cap sz rows cs bs (xZ h0 (hb b (by simp))) h1 h2 h3 (fun j c hc=>(rL (hb b (by simp))).trans (h4 j c hc)) (ih (fun x hx=>hb x (by simp[hx])))
   ·intro cs ds bs _ ih hb;exact .agg cs ds bs (ih hb)
   ·intro b off cs row o bs h0 h4 _ ih hb;exact .ep b off cs row o bs (xZ h0 (hb b (by simp))) (fun j c hc=>(rL (hb b (by simp))).trans (h4 j c hc)) (ih (fun x hx=>hb x (by simp[hx])))
   ·intro _;exact .Gb
   ·intro t v _;exact .Gc t v
   ·intro _;exact .nil
   ·intro v vs d ds b1 b2 h1 _ _ ih1 ih2 hb;exact .cons v vs d ds b1 b2 h1 (ih1 (fun x hx=>hb x (by simp[hx]))) (ih2 (fun x hx=>hb x (by simp[hx])))
 obtain⟨k1,k2⟩:=key _ _ rfl rfl;exact⟨fun h=>k1 _ _ _ h,fun h=>k2 _ _ _ h⟩
theorem Rd.keep{v:Value}{d:D}{bs:List Nat}(h:Rd w v d bs)(hb:∀b∈bs,w'.heap[b]?=w.heap[b]?):Rd w' v d bs:=BY.1 h hb
theorem gG.keep{vs:List Value}{ds:List D}{bs:List Nat}(h:gG w vs ds bs)(hb:∀b∈bs,w'.heap[b]?=w.heap[b]?):gG w' vs ds bs:=BY.2 h hb
theorem Rd.lt{v:Value}{d:D}{bs:List Nat}(h:Rd w v d bs):∀b∈bs,b<w.heap.size:=by
 refine Rd.rec (motive_1:=fun v d bs _=>∀b∈bs,b<w.heap.size) (motive_2:=fun vs ds bs _=>∀b∈bs,b<w.heap.size) ?_ ?_ ?_ ?_ ?_ ?_ ?_ ?_ ?_ ?_ ?_ ?_ ?_ ?_ ?_ h
 case refine_9=>
  intro b off cap sz rows cs bs h0 h1 h2 h3 h4 _ ih x hx;rcases aY.1 hx with rfl|hx
  ·exact h0
  ·exact ih x hx
 case refine_10=>intro cs ds bs _ ih;exact ih
 case refine_11=>
  intro b off cs row o bs h0 h4 _ ih x hx;rcases aY.1 hx with rfl|hx
  ·exact h0
  ·exact ih x hx
 case refine_15=>
  intro v vs d ds b1 b2 h1 _ _ ih1 ih2 x hx;rcases aF.1 hx with hx|hx
  ·exact ih1 x hx
  ·exact ih2 x hx
 all_goals intros;simp_all
theorem gG.lt{vs:List Value}{ds:List D}{bs:List Nat}(h:gG w vs ds bs):∀b∈bs,b<w.heap.size:=by
 induction ds generalizing vs bs with
 |nil=>cases h;simp
 |cons d ds ih=>
  cases h with
  |cons v vs _ _ b1 b2 h1 h2 h3=>
   intro x hx;rcases aF.1 hx with hx|hx
   ·exact h2.lt x hx
   ·exact ih h3 x hx
theorem gG.length{vs:List Value}{ds:List D}{bs:List Nat}(h:gG w vs ds bs):vs.length=ds.length:=by
 induction ds generalizing vs bs with
 |nil=>cases h;rfl
 |cons d ds ih=>cases h with|cons v vs _ _ b1 b2 h1 h2 h3=>simp[ih h3]
theorem gG.one{vs:List Value}{ds:List D}{bs:List Nat}(h:gG w vs ds bs):∀v∈vs,v.oneCell'=true:=by
 induction ds generalizing vs bs with
 |nil=>cases h;simp
 |cons d ds ih=>
  cases h with
  |cons v vs _ _ b1 b2 h1 h2 h3=>
   intro u hu;rcases aY.1 hu with rfl|hu
   ·exact h1
   ·exact ih h3 u hu
theorem gG.app{vs us:List Value}{ds es:List D}{bs cs:List Nat}(h:gG w vs ds bs)(k:gG w us es cs):gG w (vs++us) (ds++es) (bs++cs):=by
 induction ds generalizing vs bs with
 |nil=>cases h;simpa using k
 |cons d ds ih=>
  cases h with
  |cons v vs _ _ b1 b2 h1 h2 h3=>
   rw[cF];exact .cons _ _ _ _ _ _ h1 h2 (ih h3)
theorem gG.split{vs:List Value}{ds es:List D}{bs:List Nat}(h:gG w vs (ds++es) bs):
 ∃v1 v2 b1 b2,vs=v1++v2/\bs=b1++b2/\gG w v1 ds b1/\gG w v2 es b2:=by
 induction ds generalizing vs bs with
 |nil=>exact⟨[],vs,[],bs,by simp,by simp,.nil,h⟩
 |cons d ds ih=>
  cases h with
  |cons v vs _ _ b1 b2 h1 h2 h3=>
   obtain⟨v1,v2,c1,c2,rfl,rfl,k1,k2⟩:=ih h3;exact⟨v::v1,v2,b1++c1,c2,by simp,by simp,.cons _ _ _ _ _ _ h1 h2 k1,k2⟩
theorem gG.mid{vs:List Value}{ds:List D}{bs:List Nat}(h:gG w vs ds bs)(i n:Nat):
 ∃b,gG w ((vs.drop i).take n) ((ds.drop i).take n) b/\∀x∈b,x∈bs:=by
 have e:ds=ds.take i++((ds.drop i).take n++(ds.drop i).drop n):=by rw[bK,bK]
 rw[e]at h;obtain⟨v1,v2,b1,b2,rfl,rfl,k1,k2⟩:=h.split;obtain⟨v3,v4,b3,b4,rfl,rfl,k3,k4⟩:=k2.split;refine⟨b3,?_,by intro x hx;simp[hx]⟩;have l1:=k1.length;have l3:=k3.length;by_cases hi:i<=ds.length
 ·have h1:v1.length=i:=by rw[l1];simp[hi]
  rw[dM h1];by_cases hn:n<=(ds.drop i).length
  ·have h3:v3.length=n:=by rw[l3,bD];omega
   rw[eY h3];exact k3
  ·have h4:v4.length=0:=by rw[k4.length];simp at hn⊢;omega
   have h4':v4=[]:=bn h4;subst h4';have h3:v3.length<=n:=by rw[l3,bD];omega
   simp only[dw];rw[ed h3];exact k3
 ·have h5:ds.drop i=[]:=List.drop_eq_nil_of_le (by omega);rw[h5]at k3 k4⊢;simp only[List.take_nil,List.drop_nil]at k3 k4⊢;cases k3;cases k4;have h1:v1.length<=i:=by rw[l1];simp;omega
  simp[kD h1];exact .nil
theorem gG.at{vs:List Value}{ds:List D}{bs:List Nat}(h:gG w vs ds bs){i:Nat}{d:D}(hd:ds[i]?=some d):
 ∃v b,vs[i]?=some v/\v.oneCell'=true/\Rd w v d b/\∀x∈b,x∈bs:=by
 induction ds generalizing vs bs i with
 |nil=>simp at hd
 |cons e ds ih=>
  cases h with
  |cons v vs _ _ b1 b2 h1 h2 h3=>
   cases i with
   |zero=>simp at hd;subst hd;exact⟨v,b1,by simp,h1,h2,by intro x hx;simp[hx]⟩
   |succ i=>
    simp at hd;obtain⟨u,b,k1,k2,k3,k4⟩:=ih h3 hd;exact⟨u,b,by simpa using k1,k2,k3,fun x hx=>by simp[k4 x hx]⟩
end
theorem iL{α:Type}{rows:List (List α)}{sz:Nat}(h:∀r∈rows,r.length=sz):rows.flatten.length=rows.length*sz:=by
 induction rows with
 |nil=>simp
 |cons r rows ih=>
  simp only[cw,af,aR];rw[ih (fun x hx=>h x (by simp[hx])),h r (by simp),eR];omega
theorem uV{α:Type}{rows:List (List α)}{sz:Nat}(h:∀r∈rows,r.length=sz){i:Nat}{r:List α}(hr:rows[i]?=some r):
 (rows.flatten.drop (i*sz)).take sz=r:=by
 induction rows generalizing i with
 |nil=>simp at hr
 |cons s rows ih=>
  have hs:=h s (by simp);cases i with
  |zero=>
   simp at hr;subst hr;simp only[Nat.zero_mul,pO,cw];exact eY hs
  |succ i=>
   simp only[fX]at hr;have:=ih (fun x hx=>h x (by simp[hx])) hr;rw[cw,eR,j3,Nat.add_comm,<-dP,dM hs];exact this
def zB(e:TypeId):Option (Nat×Nat×TypeId×Nat):=none
def mX(e:TypeId)(i:Nat):Option (TypeId×Nat):=match zB e with
 |some (m,off,t)=>if i%m=off then some t else none
 |none=>none
def I3(e:TypeId)(sz:Nat):Bool:=match zB e with
 |some (m,_,_)=>m==sz
 |none=>true
theorem rS{e:TypeId}(h:zB e=none)(i:Nat):mX e i=none:=by simp[mX,h]
theorem ET{e:TypeId}{sz:Nat}(h:I3 e sz=true)(i n:Nat):mX e (i+n*sz)=mX e i:=by
 unfold mX;unfold I3 at h;cases hf:zB e with
 |none=>rfl
 |some x=>
  obtain⟨m,off,t⟩:=x;rw[hf]at h;have e1:m=sz:=by simpa using h
  subst e1;simp only[Nat.add_mul_mod_self_right]
section
variable{w w':World}
def yz(w:World)(t:TypeId×Nat)(v:Value)(d:D)(bs:List Nat):Prop:=
 (d=.any/\bs=[])\/∃rows cs ns,d=.sl rows/\0<t.2/\(∀r∈rows,r.length=t.2)/\w.ownsRow 0 t.1 t.2 v rows.length cs/\gG w cs rows.flatten ns/\bs=v.ownBlock.toList++ns
theorem xf{e:TypeId}{sz n:Nat}{v:Value}{cs:List Value}(h:w.ownsRow 0 e sz v n cs)(hb:∀g,v.ownBlock=some g->w'.heap[g]?=w.heap[g]?):w'.ownsRow 0 e sz v n cs:=by
 refine⟨h.1,?_⟩;rcases h.2 with hn|⟨g,cap,cur,rfl,h1,h2,rest⟩
 ·exact .inl hn
 ·exact .inr ⟨g,cap,cur,rfl,h1,(hb g (by simp[Value.ownBlock])).trans h2,rest⟩
theorem yz.keep{t:TypeId×Nat}{v:Value}{d:D}{bs:List Nat}(h:yz w t v d bs)(hb:∀b∈bs,w'.heap[b]?=w.heap[b]?):yz w' t v d bs:=by
 rcases h with h|⟨rows,cs,ns,rfl,h1,h2,h3,h4,rfl⟩
 ·exact .inl h
 ·exact .inr ⟨rows,cs,ns,rfl,h1,h2,xf h3 (fun g hg=>hb g (by simp[hg])),h4.keep (fun b hx=>hb b (by simp[hx])),rfl⟩
inductive ng(w:World)(f:Nat->Option (TypeId×Nat)):Nat->List Value->List D->List Nat->Prop
 |nil (i:Nat):ng w f i [] [] []
 |cons (i:Nat) (v:Value) (vs:List Value) (d:D) (ds:List D) (b1 b2:List Nat):v.oneCell'=true->Rd w v d b1->(∀t,f i=some t->yz w t v d b1)->ng w f (i+1) vs ds b2->ng w f i (v::vs) (d::ds) (b1++b2)
variable{f:Nat->Option (TypeId×Nat)}
theorem ng.rd{i:Nat}{vs:List Value}{ds:List D}{bs:List Nat}(h:ng w f i vs ds bs):gG w vs ds bs:=by
 induction ds generalizing vs bs i with
 |nil=>cases h;exact .nil
 |cons d ds ih=>cases h with|cons _ v vs _ _ b1 b2 h1 h2 _ h3=>exact .cons _ _ _ _ _ _ h1 h2 (ih h3)
theorem ng.of{i:Nat}{vs:List Value}{ds:List D}{bs:List Nat}(h:gG w vs ds bs)(hf:∀j,f j=none):ng w f i vs ds bs:=by
 induction ds generalizing vs bs i with
 |nil=>cases h;exact .nil _
 |cons d ds ih=>cases h with|cons v vs _ _ b1 b2 h1 h2 h3=>exact .cons _ _ _ _ _ _ _ h1 h2 (fun t ht=>by rw[hf]at ht;cases ht) (ih h3)
theorem ng.keep{i:Nat}{vs:List Value}{ds:List D}{bs:List Nat}(h:ng w f i vs ds bs)(hb:∀b∈bs,w'.heap[b]?=w.heap[b]?):ng w' f i vs ds bs:=by
 induction ds generalizing vs bs i with
 |nil=>cases h;exact .nil _
 |cons d ds ih=>
  cases h with
  |cons _ v vs _ _ b1 b2 h1 h2 h4 h3=>
   exact .cons _ _ _ _ _ _ _ h1 (h2.keep (fun b hx=>hb b (by simp[hx]))) (fun t ht=>(h4 t ht).keep (fun b hx=>hb b (by simp[hx]))) (ih h3 (fun b hx=>hb b (by simp[hx])))
theorem ng.lt{i:Nat}{vs:List Value}{ds:List D}{bs:List Nat}(h:ng w f i vs ds bs):∀b∈bs,b<w.heap.size:=h.rd.lt
theorem ng.length{i:Nat}{vs:List Value}{ds:List D}{bs:List Nat}(h:ng w f i vs ds bs):vs.length=ds.length:=h.rd.length
theorem ng.app{i:Nat}{vs us:List Value}{ds es:List D}{bs cs:List Nat}(h:ng w f i vs ds bs)(k:ng w f (i+ds.length) us es cs):ng w f i (vs++us) (ds++es) (bs++cs):=by
 induction ds generalizing vs bs i with
 |nil=>cases h;simpa using k
 |cons d ds ih=>
  cases h with
  |cons _ v vs _ _ b1 b2 h1 h2 h4 h3=>
   rw[cF];exact .cons _ _ _ _ _ _ _ h1 h2 h4 (ih h3 (by rw[aR]at k;rwa[show i+1+ds.length=i+(ds.length+1)by omega]))
theorem ng.split{i:Nat}{vs:List Value}{ds es:List D}{bs:List Nat}(h:ng w f i vs (ds++es) bs):
 ∃v1 v2 b1 b2,vs=v1++v2/\bs=b1++b2/\ng w f i v1 ds b1/\ng w f (i+ds.length) v2 es b2:=by
 induction ds generalizing vs bs i with
 |nil=>exact⟨[],vs,[],bs,by simp,by simp,.nil _,h⟩
 |cons d ds ih=>
  cases h with
  |cons _ v vs _ _ b1 b2 h1 h2 h4 h3=>
   obtain⟨v1,v2,c1,c2,rfl,rfl,k1,k2⟩:=ih h3;exact⟨v::v1,v2,b1++c1,c2,by simp,by simp,.cons _ _ _ _ _ _ _ h1 h2 h4 k1,by rw[aR];rwa[show i+(ds.length+1)=i+1+ds.length by omega]⟩
theorem ng.at_{i k:Nat}{vs:List Value}{ds:List D}{bs:List Nat}(h:ng w f i vs ds bs)(hf:∀j,f (k+j)=f (i+j)):ng w f k vs ds bs:=by
 induction ds generalizing vs bs i k with
 |nil=>cases h;exact .nil _
 |cons d ds ih=>
  cases h with
  |cons _ v vs _ _ b1 b2 h1 h2 h4 h3=>
   exact .cons _ _ _ _ _ _ _ h1 h2 (fun t ht=>h4 t ((hf 0).symm.trans ht)) (ih h3 fun j=>by rw[fJ,fJ];exact hf (1+j))
theorem ng.rows{e:TypeId}{sz i n:Nat}{vs:List Value}{ds:List D}{bs:List Nat}(hk:I3 e sz=true)(h:ng w (mX e) i vs ds bs):ng w (mX e) (i+n*sz) vs ds bs:=
 h.at_ fun j=>by rw[show i+n*sz+j=(i+j)+n*sz by omega];exact ET hk _ _
end
end Go.Cx
namespace Go.Cx
open Go.RowKit
abbrev aC:=List Bytes
abbrev aG:=List D
abbrev aH:=List Nat
abbrev aq:=List Value
abbrev bz:=List Int
def lV:List (Nat×(aq->Prop)):=[(4,fun cs:aq=>cs=[.int .u64 1,.int .u64 10,.int .u64 100,.int .u64 1000,.int .u64 10000,.int .u64 100000,.int .u64 1000000,.int .u64 10000000,.int .u64 100000000,.int .u64 1000000000,.int .u64 10000000000,.int .u64 100000000000,.int .u64 1000000000000,.int .u64 10000000000000,.int .u64 100000000000000,.int .u64 1000000000000000,.int .u64 10000000000000000,.int .u64 100000000000000000,.int .u64 1000000000000000000,.int .u64 10000000000000000000]),(2,fun cs:aq=>∃tp p,cs=[Value.iface tp p]),(0,fun cs:aq=>cs=([[32,61,32],[32,33,61,32],[32,60,32]]:aC).map fun b=>Value.string ⟨b.toArray⟩),(1,fun cs:aq=>∃m,cs=[Value.int .i64 m])]
def Oz(w:World)(B:Nat->Prop):Prop:=∀x∈lV,B x.1/\∃cs t z,w.heap[x.1]?=some (.cells cs t z)/\x.2 cs.toList
def B0(w:World)(X:Nat->Prop):Prop:=∃B:Nat->Prop,Oz w B/\∀b,B b->b<w.heap.size/\¬X b
def yA:List (Nat×aG):=[(0,([[32,61,32],[32,33,61,32],[32,60,32]]:aC).map D.str)]
def Ln(g:Nat)(ds:aG):Prop:=∃p,(g,p)∈lV/\∀cs:aq,p cs->∀(o:Nat) d,ds[o]?=some d->∃v,cs[o]?=some v/\∀w,Rd w v d []
theorem Gx{xs:aC}(hx:∀x∈xs,x.length<=maxLen){o:Nat}{d:D}(h:(xs.map D.str)[o]?=some d):∃v,(xs.map fun b=>Value.string ⟨b.toArray⟩)[o]?=some v/\∀w,Rd w v d []:=by
 rw[b9]at h;cases hb:xs[o]? with
 |none=>rw[hb]at h;cases h
 |some b=>
  rw[hb]at h;cases h;refine⟨_,by rw[b9,hb];rfl,fun w=>?_⟩;have:=Rd.str (w:=w) ⟨b.toArray⟩ (by have:=hx b (aD hb);simpa[ByteArray.size]using this);simpa using this
theorem Aw:∀x∈yA,Ln x.1 x.2:=by intro x hx;simp only[yA,bu]at hx;subst hx;exact⟨_,aD (i:=2) rfl,fun cs hcs o d hd=>by subst hcs;exact Gx (by decide) hd⟩
def Bs(g o:Nat):Option D:=(yA.find? fun x=>x.1==g).bind fun x=>x.2[o]?
theorem Jr{g o:Nat}{d:D}(h:Bs g o=some d):∃ds,Ln g ds/\ds[o]?=some d:=by
 unfold Bs at h;cases hf:yA.find? fun x=>x.1==g with
 |none=>rw[hf]at h;cases h
 |some x=>
  rw[hf,aA]at h;have h1:=List.find?_some hf;have h2:=qY hf;have e:x.1=g:=by simpa using h1
  exact⟨x.2,by rw[<-e];exact Aw x h2,h⟩
def D.isStr:D->Bool| .str _=>true|_=>false
def FF(g o n:Nat):Option D:=match yA.find? fun x=>x.1==g with
 |some x=>if(x.2.all D.isStr&&o==0&&n==x.2.length)=true then some (.agg x.2)else none
 |none=>none
theorem E9{w:World}:∀ {ds:aG} {cs:aq},(∀d∈ds,d.isStr=true)->(∀(o:Nat) d,ds[o]?=some d->∃v,cs[o]?=some v/\Rd w v d [])->ds.length<=cs.length/\gG w (cs.take ds.length) ds []
 | [],cs,_,_=>⟨by simp,by simpa using gG.nil⟩
 |d::ds,cs,h1,h2=>by
  obtain⟨v,hv,hr⟩:=h2 0 d rfl;cases cs with
  |nil=>cases hv
  |cons c cs=>
   have e:c=v:=by simpa using hv
   subst e;obtain⟨i1,i2⟩:=E9 (ds:=ds) (cs:=cs) (fun x hx=>h1 x (by simp[hx])) (fun o x hx=>h2 (o+1) x hx);have hd:=h1 d (by simp);refine⟨by simpa using i1,?_⟩;rw[aR,jq];have h1c:c.oneCell'=true:=by
    cases d<;>first|cases hd|skip
    cases hr;rfl
   exact .cons c _ d ds [] [] h1c hr i2
theorem Oz.stays{w w':World}{B:Nat->Prop}(h:Oz w B)(hb:∀b,B b->w'.heap[b]?=w.heap[b]?):Oz w' B:=fun x hx=>by
 obtain⟨h1,cs,t,z,h2,h3⟩:=h x hx;exact⟨h1,cs,t,z,by rw[hb _ h1,h2],h3⟩
theorem B0.cells{w:World}{X:Nat->Prop}(h:B0 w X){g:Nat}{p:aq->Prop}(hx:(g,p)∈lV):∃cs t z,w.heap[g]?=some (.cells cs t z)/\p cs.toList:=by
 obtain⟨B,h1,h2⟩:=h;exact(h1 _ hx).2
theorem B0.var{P:Program}{w:World}{X:Nat->Prop}(h:B0 w X){g:Nat}{p:aq->Prop}{name:String}(hx:(g,p)∈lV)(hg:P.globalNamed name=some g):∃cs,w.var? P name=some cs/\p cs.toList:=by
 obtain⟨cs,t,z,h1,h2⟩:=h.cells hx;refine⟨cs,?_,h2⟩;unfold World.var?;rw[hg,aA,h1]
theorem B0.O7{P:Program}{w:World}(hs:∀x∈lV,∃name cs,P.globalNamed name=some x.1/\w.var? P name=some cs/\x.2 cs.toList):B0 w fun _=>False:=by
 refine⟨fun b=>b∈lV.map Prod.fst,fun x hx=>?_,fun b hb=>?_⟩
 ·obtain⟨name,cs,h1,h2,h3⟩:=hs x hx;unfold World.var? at h2;rw[h1,aA]at h2;refine⟨cQ.2 ⟨x,hx,rfl⟩,?_⟩;split at h2
  ·rename_i cs' t z h4;cases h2;exact⟨_,t,z,h4,h3⟩
  ·cases h2
 ·obtain⟨x,hx,rfl⟩:=cQ.1 hb;obtain⟨name,cs,h1,h2,h3⟩:=hs x hx;unfold World.var? at h2;rw[h1,aA]at h2;refine⟨?_,id⟩;split at h2
  ·rename_i cs' t z h4;exact(aX.1 h4).1
  ·cases h2
end Go.Cx
namespace Go.Cx
open Go.RowKit
structure lY where
 W0:World
 Θ0:Nat->Nat
 X:Nat->Prop
 nt:Nat
 U:Nat->Prop
 vs:B0 W0 X
inductive RK where
 |sh
 |uq
 |cl
 |mv (n:Nat)
 |ho (p n:Nat)
def RK.CW:RK->Bool
 | .cl=>false
 |_=>true
def RK.ub:RK->Bool
 | .uq=>true
 | .ho _ _=>true
 |_=>false
def RK.hand:RK->Bool
 | .sh=>true
 | .uq=>true
 |_=>false
inductive Ob where
 |box (cells:aG)
 |B1 (cells:aG) (v:Value)
 |row (k:RK) (e:TypeId) (sz:Nat) (rows:List aG)
 |nF (sz:Nat) (rows:List aG) (v:Option Value)
 |hole (sz:Nat) (rows:List aG) (v:Option Value) (p n:Nat)
 |mp (kv:List (D×D))
 |tk (rows:List aG)
 |tf (e:TypeId) (sz:Nat) (rows:List aG)
 |gone
def Ob.FW:Ob->Option aG
 | .box c=>some c
 | .B1 c _=>some c
 |_=>none
def Ob.re(o:Ob)(c:aG):Ob:=match o with
 | .B1 _ v=>.B1 c v
 |_=>.box c
def G0(u:Value):Value:=match u with
 | .tuple ⟨[p,_]⟩=>p
 |u=>u
def uj(u:Value):Option Value:=match u with
 | .tuple ⟨[_,c]⟩=>some c
 |_=>none
def Ob.Fu(o:Ob)(off:Nat):Bool:=match o with
 | .B1 cells _=> !(cells.length==3)||Nat.ble 1 off
 |_=>true
structure St where
 σ:List (Nat×D)
 H:List Ob
def lk:List (Nat×D)->Nat->D
 | [],_=>.any
 | (t,d)::r,n=>if n=t then d else lk r n
def D.Dw:Value->D
 | .bool b=>.bool b
 | .int k n=>if nM k n then .int k n else .val (.int k n)
 | .string s=>if s.size<=maxLen then .str s.data.toList else .val (.string s)
 | .slice none 0 0=>.nil
 |v=>.val v
def St.ev(st:St):Operand->D
 | .tmp t=>lk st.σ t
 | .const v=>D.Dw v
 | .global g=>.val (.pointer (some ⟨g,0,none⟩))
 | .func f=>.val (.func (.func f) #[] #[])
def St.set(st:St)(t:Nat)(d:D):St:=⟨(t,d)::st.σ,st.H⟩
def St.put(st:St)(t:Option Nat)(d:D):St:=match t with|some t=>st.set t d|none=>st
inductive oz(w:World)(κ:Nat->Option Value):Value->D->List Nat->Prop
 |pure {v:Value} {d:D} {bs:aH}:Rd w v d bs->oz w κ v d bs
 |acc (id:Nat) (v:Value):κ id=some v->oz w κ v (.acc id) []
 |ptr (id off b:Nat):κ id=some (.pointer (some ⟨b,0,none⟩))->oz w κ (.pointer (some ⟨b,off,none⟩)) (.ptr id off) []
 |op (id i sz off b o0 len cap:Nat):κ id=some (.slice (some ⟨b,o0,none⟩) len cap)->oz w κ (.pointer (some ⟨b,o0+(i*sz+off),none⟩)) (.op id i sz off) []
inductive dA(w:World)(κ:Nat->Option Value):List Value->List D->List Nat->Prop
 |nil:dA w κ [] [] []
 |cons (v:Value) (vs:aq) (d:D) (ds:aG) (b1 b2:aH):v.oneCell'=true->oz w κ v d b1->dA w κ vs ds b2->dA w κ (v::vs) (d::ds) (b1++b2)
inductive A7(w:World)(κ:Nat->Option Value):Value->D->List Nat->Prop
 |cell {v:Value} {d:D} {bs:aH}:oz w κ v d bs->A7 w κ v d bs
 |agg (cs:aq) (ds:aG) (bs:aH):dA w κ cs ds bs->A7 w κ (.agg cs.toArray) (.agg ds) bs
inductive sA(w:World)(κ:Nat->Option Value):List Value->List D->List Nat->Prop
 |nil:sA w κ [] [] []
 |cons (v:Value) (vs:aq) (d:D) (ds:aG) (b1 b2:aH):A7 w κ v d b1->sA w κ vs ds b2->sA w κ (v::vs) (d::ds) (b1++b2)
inductive kF(w:World)(κ:Nat->Option Value):Value->D->List Nat->Prop
 |v {v:Value} {d:D} {bs:aH}:A7 w κ v d bs->kF w κ v d bs
 |fy (vs:aq) (ds:aG) (bs:aH):sA w κ vs ds bs->kF w κ (.tuple vs.toArray) (.fy ds) bs
theorem kF.of{w:World}{κ:Nat->Option Value}{v:Value}{d:D}{bs:aH}(h:Rd w v d bs):kF w κ v d bs:=.v (.cell (.pure h))
def Wr(w:World)(b:Nat):Prop:=∃cs T,w.heap[b]?=some (.cells cs T (0,0))
def N9(w:World)(κ:Nat->Option Value)(v:Value)(rows:List aG)(p n:Nat)(bs:aH):Prop:=
 ∃b off cap cs ns,v=.slice (some ⟨b,off,none⟩) rows.length cap/\b<w.heap.size/\rows.length<=cap/\cap<=maxLen/\(∀j c,cs[j]?=some c->w.cell? ⟨b,off+j,none⟩=some c)/\gG w cs rows.flatten ns/\bs=b::ns/\
  ∃c,cs[p]?=some c/\κ n=some c
def oa(w:World)(es:List MapEntry)(kv:List (D×D)):Prop:=
 es.length=kv.length/\∀(j:Nat) e p,es[j]?=some e->kv[j]?=some p->Rd w e.key p.1 []/\Rd w e.val p.2 []
theorem oa.stay{w w':World}{es:List MapEntry}{kv:List (D×D)}(h:oa w es kv):oa w' es kv:=
 ⟨h.1,fun j e p h1 h2=>⟨(h.2 j e p h1 h2).1.keep (by simp),(h.2 j e p h1 h2).2.keep (by simp)⟩⟩
def Kept(w:World)(κ:Nat->Option Value)(id:Nat)(u:Value):Prop:=
 ∀c,uj u=some c->∀g cs T,κ id=some (.pointer (some ⟨g,0,none⟩))->w.heap[g]?=some (.cells cs T (0,0))->cs.size=3/\cs[0]?=some c
theorem Kept.same{w w':World}{κ κ':Nat->Option Value}{id id':Nat}{u:Value}{g:Nat}{cs:Array Value}{T:TypeId}(h:Kept w κ id u)(hk:κ id=some (.pointer (some ⟨g,0,none⟩)))(hg:w.heap[g]?=some (.cells cs T (0,0)))
 (hk':κ' id'=some (.pointer (some ⟨g,0,none⟩))) (hg':w'.heap[g]?=some (.cells cs T (0,0))):Kept w' κ' id' u:=by
 intro c hc g2 Qx T2 h2 h3;rw[hk']at h2;cases h2;rw[hg']at h3;cases h3;exact h c hc g cs T hk hg
def mh(w:World)(κ:Nat->Option Value)(Θ:Nat->Nat)(id:Nat):Ob->Prop
 | .box cells=>∃g cs T,κ id=some (.pointer (some ⟨g,0,none⟩))/\w.heap[g]?=some (.cells cs T (0,0))/\Θ g=id+2/\
  ∃bs,dA w κ cs.toList cells bs/\∀b∈bs,Θ b=0
 | .B1 cells u=>(κ id=some (G0 u)/\Kept w κ id u)/\∃g cs T,κ id=some (.pointer (some ⟨g,0,none⟩))/\w.heap[g]?=some (.cells cs T (0,0))/\Θ g=id+2/\
  ∃bs,dA w κ cs.toList cells bs/\∀b∈bs,Θ b=0
 | .row k e sz rows=>0<sz/\(∀r∈rows,r.length=sz)/\∃v cs bs,κ id=some v/\w.ownsRow 0 e sz v rows.length cs/\gG w cs rows.flatten bs/\
  (∀g,v.ownBlock=some g->Θ g=id+2)/\
  (match k with
   | .cl=>bs.Nodup/\(∀b∈bs,Θ b=id+2/\Wr w b)/\(∀g,v.ownBlock=some g->g∉bs)/\ng w (mX e) 0 cs rows.flatten bs
   |_=>∀b∈bs,Θ b=0)
 | .nF sz rows u=>(∀r∈rows,r.length=sz)/\(∀x,u=some x->κ id=some x)/\∃v bs,κ id=some v/\Rd w v (.sl rows) bs/\bs.Nodup/\∀b∈bs,Θ b=id+2/\Wr w b
 | .hole sz rows u p n=>(∀r∈rows,r.length=sz)/\(∀x,u=some x->κ id=some x)/\∃v bs,κ id=some v/\N9 w κ v rows p n bs/\bs.Nodup/\∀b∈bs,Θ b=id+2/\Wr w b
 | .mp kv=>∃g es clock,κ id=some (.map (some g))/\w.heap[g]?=some (.map es clock)/\Θ g=id+2/\oa w es.toList kv
 | .tk rows=>∃v bs,κ id=some v/\Rd w v (.sl rows) bs/\∀b∈bs,Θ b=0
 | .tf e sz rows=>∃v bs,κ id=some v/\Rd w v (.sl rows) bs/\∀b∈bs,Θ b=0
 | .gone=>True
def oy(Γ:lY)(b:Nat):Prop:=Γ.W0.heap.size<=b\/Γ.X b
def FJ(Γ:lY)(b:Nat):Prop:=oy Γ b\/Γ.U b
theorem mh.cs{w:World}{κ:Nat->Option Value}{Θ:Nat->Nat}{id:Nat}{o:Ob}{cells:aG}(hc:o.FW=some cells)(h:mh w κ Θ id o):
 ∃g cs T,κ id=some (.pointer (some ⟨g,0,none⟩))/\w.heap[g]?=some (.cells cs T (0,0))/\Θ g=id+2/\∃bs,dA w κ cs.toList cells bs/\∀b∈bs,Θ b=0:=by
 cases o<;>simp only[Ob.FW,reduceCtorEq,aQ]at hc
 ·subst hc;exact h
 ·subst hc;exact h.2
theorem mh.QK{w w':World}{κ κ':Nat->Option Value}{Θ Θ':Nat->Nat}{id:Nat}{o:Ob}{cells cells':aG}(hc:o.FW=some cells)(h:mh w κ Θ id o)(hk:∀v,κ id=some v->κ' id=some v)
 (hK:∀c u,o=.B1 c u->Kept w' κ' id u)
 (h':∃g cs T,κ' id=some (.pointer (some ⟨g,0,none⟩))/\w'.heap[g]?=some (.cells cs T (0,0))/\Θ' g=id+2/\∃bs,dA w' κ' cs.toList cells' bs/\∀b∈bs,Θ' b=0):mh w' κ' Θ' id (o.re cells'):=by
 cases o<;>simp only[Ob.FW,reduceCtorEq,aQ]at hc
 ·exact h'
 ·exact⟨⟨hk _ h.1.1,hK _ _ rfl⟩,h'⟩
structure FL(Γ:lY)(w:World):Prop where
 os:w.os=Γ.W0.os
 tape:w.tape=Γ.W0.tape
 output:w.output=Γ.W0.output
 size:Γ.W0.heap.size<=w.heap.size
 block:∀b,b<Γ.W0.heap.size->¬Γ.X b->w.heap[b]?=Γ.W0.heap[b]?
def Az(w:World)(κ:Nat->Option Value)(ρ:Nat->Nat)(id:Nat):Ob->Prop
 | .row (.mv n) e sz rows=>∃v cs bs,κ id=some v/\w.ownsRow 0 e sz v rows.length cs/\gG w (cs.drop (n*sz)) (rows.drop n).flatten bs/\bs.Nodup/\∀b∈bs,ρ b=id+1
 | .row (.ho p n) e sz rows=>∃v cs bs,κ id=some v/\w.ownsRow 0 e sz v rows.length cs/\ng w (mX e) 0 cs rows.flatten bs/\bs.Nodup/\(∀b∈bs,ρ b=id+1)/\∃c,cs[p]?=some c/\κ n=some c
 | .tk rows=>∃v bs,κ id=some v/\Rd w v (.sl rows) bs/\bs.Nodup/\∀b∈bs,ρ b=id+1
 | .tf e sz rows=>∃v bs,κ id=some v/\yz w (e,sz) v (.sl rows) bs/\(∀b∈bs,b<w.heap.size)/\bs.Nodup/\∀b∈bs,ρ b=id+1
 |_=>True
structure pU(Γ:lY)(H:List Ob)(κ:Nat->Option Value)(Θ:Nat->Nat)(w:World)(ρ:Nat->Nat):Prop where
 free:∀b,ρ b≠0->Θ b=0/\FJ Γ b/\Wr w b
 rows:∀id e sz rows,H[id]?=some (.row .uq e sz rows)->∃v cs bs,κ id=some v/\w.ownsRow 0 e sz v rows.length cs/\ng w (mX e) 0 cs rows.flatten bs/\bs.Nodup/\∀b∈bs,ρ b=id+1
 more:∀id o,H[id]?=some o->Az w κ ρ id o
structure cN(Γ:lY)(st:St)(κ:Nat->Option Value)(Θ:Nat->Nat)(a:Act)(w:World):Prop where
 defers:a.defers=[]
 size:a.tmps.size=Γ.nt
 jN:∀id,st.H.length<=id->κ id=none
 j9:∀(id:Nat) u,κ id=some u->u.oneCell'=true
 slot:∀t,∃bs,kF w κ (a.tmps.getD t undef) (lk st.σ t) bs/\∀b∈bs,Θ b=0
 ob:∀id o,st.H[id]?=some o->mh w κ Θ id o
 own:∀b,Θ b≠0->b<w.heap.size
 old:∀b,b<Γ.W0.heap.size->¬Γ.X b->Θ b=Γ.Θ0 b/\Θ b<=1
 mine:∀b,2<=Θ b->oy Γ b
 stays:FL Γ w
 kx:∃ρ,pU Γ st.H κ Θ w ρ
theorem cN.OO{Γ:lY}{st:St}{κ:Nat->Option Value}{Θ:Nat->Nat}{a:Act}{w:World}(h:cN Γ st κ Θ a w):∃B:Nat->Prop,Oz w B/\∀b,B b->b<Γ.W0.heap.size/\b<w.heap.size/\¬Γ.X b:=by
 obtain⟨B,h1,h2⟩:=Γ.vs;exact⟨B,h1.stays fun b hb=>h.stays.block b (h2 b hb).1 (h2 b hb).2,fun b hb=>⟨(h2 b hb).1,bw (h2 b hb).1 h.stays.size,(h2 b hb).2⟩⟩
theorem cN.Om{Γ:lY}{st:St}{κ:Nat->Option Value}{Θ:Nat->Nat}{a:Act}{w:World}(h:cN Γ st κ Θ a w):B0 w fun _=>False:=by
 obtain⟨B,h1,h2⟩:=h.OO;exact⟨B,h1,fun b hb=>⟨(h2 b hb).2.1,id⟩⟩
def AW(P:Program)(Γ:lY)(c:Code)(Q:Exit->St->Prop)(st:St):Prop:=
 ∀κ Θ a w,cN Γ st κ Θ a w->c.wp P (fun e a' w'=>∃mO κ' Θ',cN Γ mO κ' Θ' a' w'/\Q e mO) a w
def AO(P:Program)(Γ:lY)(all:Array Oper)(ops:List Oper)(Q:Exit->St->Prop)(st:St):Prop:=
 ∀κ Θ a w,cN Γ st κ Θ a w->wpList P all (fun e a' w'=>∃mO κ' Θ',cN Γ mO κ' Θ' a' w'/\Q e mO) ops a w
section
variable{P:Program}{Γ:lY}{Q:Exit->St->Prop}{st:St}
theorem KK(h:Q .normal st):AW P Γ .skip Q st:=fun _ _ _ _ hs=>wp_skip ⟨_,_,_,hs,h⟩
theorem N6(h:Q .ret st):AW P Γ .ret Q st:=fun _ _ _ _ hs=>wp_ret ⟨_,_,_,hs,h⟩
theorem KI{id:Nat}(h:Q (.exit id) st):AW P Γ (.exit id) Q st:=fun _ _ _ _ hs=>wp_exit ⟨_,_,_,hs,h⟩
def Jl(next:St->Prop)(Q:Exit->St->Prop):Exit->St->Prop
 | .normal,st=>next st
 |e,st=>Q e st
def C7(id:Nat)(Q:Exit->St->Prop):Exit->St->Prop
 | .exit id',st=>if id'=id then Q .normal st else Q (.exit id') st
 |e,st=>Q e st
theorem N7{x y:Code}(h:AW P Γ x (Jl (AW P Γ y Q) Q) st):AW P Γ (.seq x y) Q st:=by
 intro κ Θ a w hs;refine wp_seq (wp_mono (h κ Θ a w hs) ?_);rintro e a' w' ⟨mO,κ',Θ',hs',hq⟩;cases e with
 |normal=>exact hq κ' Θ' a' w' hs'
 |exit id=>exact⟨_,_,_,hs',hq⟩
 |goto l=>exact⟨_,_,_,hs',hq⟩
 |ret=>exact⟨_,_,_,hs',hq⟩
 |panic c=>exact⟨_,_,_,hs',hq⟩
 |outgrown=>exact⟨_,_,_,hs',hq⟩
theorem He{id:Nat}{c:Code}(h:AW P Γ c (C7 id Q) st):AW P Γ (.block id c) Q st:=by
 intro κ Θ a w hs;refine wp_block (wp_mono (h κ Θ a w hs) ?_);rintro e a' w' ⟨mO,κ',Θ',hs',hq⟩;cases e with
 |exit id'=>
  simp only[Exit.inBlock,C7]at hq⊢;split
  ·rename_i he;rw[bG he]at hq;exact⟨_,_,_,hs',hq⟩
  ·rename_i he;rw[ar he]at hq;exact⟨_,_,_,hs',hq⟩
 |normal=>exact⟨_,_,_,hs',hq⟩
 |goto l=>exact⟨_,_,_,hs',hq⟩
 |ret=>exact⟨_,_,_,hs',hq⟩
 |panic c=>exact⟨_,_,_,hs',hq⟩
 |outgrown=>exact⟨_,_,_,hs',hq⟩
theorem GH{id:Nat}{l:List Oper}(h:AO P Γ l.toArray l Q st):AW P Γ (.region id l.toArray false) Q st:=
 fun κ Θ a w hs=>wp_region_lit (h κ Θ a w hs)
theorem Mz{all:Array Oper}(h:Q .normal st):AO P Γ all [] Q st:=fun _ _ _ _ hs=>wpList_nil ⟨_,_,_,hs,h⟩
end
section
variable{w:World}{κ:Nat->Option Value}{v:Value}{bs:aH}
theorem kF.jc{k:IntKind}{n:Int}(h:kF w κ v (.int k n) bs):v=.int k n:=by
 cases h with|v h=>cases h with|cell h=>cases h with|pure h=>cases h;rfl
theorem kF.AY{k:IntKind}{n:Int}(h:kF w κ v (.int k n) bs):nM k n:=by
 cases h with|v h=>cases h with|cell h=>cases h with|pure h=>cases h with|int _ _ hr=>exact hr
theorem kF.Ji{s:Bytes}(h:kF w κ v (.str s) bs):s.length<=maxLen:=by
 cases h with|v h=>cases h with|cell h=>cases h with|pure h=>cases h with|str x hx=>simpa using hx
theorem kF.nC{b:Bool}(h:kF w κ v (.bool b) bs):v=.bool b:=by
 cases h with|v h=>cases h with|cell h=>cases h with|pure h=>cases h;rfl
theorem kF.iW{s:Bytes}(h:kF w κ v (.str s) bs):∃x:ByteArray,v=.string x/\x.data.toList=s:=by
 cases h with|v h=>cases h with|cell h=>cases h with|pure h=>cases h;exact⟨_,rfl,rfl⟩
theorem kF.GA{u:Value}(h:kF w κ v (.val u) bs):v=u:=by
 cases h with|v h=>cases h with|cell h=>cases h with|pure h=>cases h;rfl
theorem kF.xd(h:kF w κ v .nil bs):v=.slice none 0 0:=by
 cases h with|v h=>cases h with|cell h=>cases h with|pure h=>cases h;rfl
theorem kF.Cg{rows:List aG}(h:kF w κ v (.sl rows) bs):Rd w v (.sl rows) bs:=by
 cases h with|v h=>cases h with|cell h=>cases h with|pure h=>exact h
theorem kF.ES{row:aG}{o:Nat}(h:kF w κ v (.ep row o) bs):Rd w v (.ep row o) bs:=by
 cases h with|v h=>cases h with|cell h=>cases h with|pure h=>exact h
theorem kF.mQ{id:Nat}(h:kF w κ v (.acc id) bs):κ id=some v/\bs=[]:=by
 cases h with|v h=>cases h with|cell h=>cases h with|pure h=>cases h|acc _ _ hk=>exact⟨hk,rfl⟩
theorem kF.pF{id off:Nat}(h:kF w κ v (.ptr id off) bs):∃b,κ id=some (.pointer (some ⟨b,0,none⟩))/\v=.pointer (some ⟨b,off,none⟩):=by
 cases h with|v h=>cases h with|cell h=>cases h with|pure h=>cases h|ptr _ _ b hk=>exact⟨b,hk,rfl⟩
theorem kF.uw{id i sz off:Nat}(h:kF w κ v (.op id i sz off) bs):∃b o0 len cap,κ id=some (.slice (some ⟨b,o0,none⟩) len cap)/\v=.pointer (some ⟨b,o0+(i*sz+off),none⟩):=by
 cases h with|v h=>cases h with|cell h=>cases h with|pure h=>cases h|op _ _ _ _ b o0 len cap hk=>exact⟨b,o0,len,cap,hk,rfl⟩
theorem dA.sx{vs:aq}{ds:aG}(h:gG w vs ds bs):dA w κ vs ds bs:=by
 induction ds generalizing vs bs with
 |nil=>cases h;exact .nil
 |cons d ds ih=>cases h with|cons v vs _ _ b1 b2 h1 h2 h3=>exact .cons _ _ _ _ _ _ h1 (.pure h2) (ih h3)
theorem pE{w:World}{e sz b o0 len cap n:Nat}{cs:aq}(h:w.ownsRow 0 e sz (.slice (some ⟨b,o0,none⟩) len cap) n cs):o0=0:=by
 rcases h.2 with⟨h,_⟩|⟨g,cap,cur,h,_⟩
 ·cases h
 ·cases h;rfl
theorem kF.sC{ds:aG}(h:kF w κ v (.agg ds) bs):∃cs:aq,v=.agg cs.toArray/\dA w κ cs ds bs:=by
 cases h with
 |v h=>
  cases h with
  |cell h=>cases h with|pure h=>cases h with|agg cs _ _ h=>exact⟨cs,rfl,dA.sx h⟩
  |agg cs _ _ h=>exact⟨cs,rfl,h⟩
theorem dA.length{vs:aq}{ds:aG}(h:dA w κ vs ds bs):vs.length=ds.length:=by
 induction ds generalizing vs bs with
 |nil=>cases h;rfl
 |cons d ds ih=>cases h with|cons v vs _ _ b1 b2 h1 h2 h3=>simp[ih h3]
theorem dA.one{vs:aq}{ds:aG}(h:dA w κ vs ds bs):∀v∈vs,v.oneCell'=true:=by
 induction ds generalizing vs bs with
 |nil=>cases h;simp
 |cons d ds ih=>
  cases h with
  |cons v vs _ _ b1 b2 h1 h2 h3=>
   intro u hu;rcases aY.1 hu with rfl|hu
   ·exact h1
   ·exact ih h3 u hu
theorem dA.app{vs us:aq}{ds es:aG}{cs:aH}(h:dA w κ vs ds bs)(k:dA w κ us es cs):dA w κ (vs++us) (ds++es) (bs++cs):=by
 induction ds generalizing vs bs with
 |nil=>cases h;simpa using k
 |cons d ds ih=>
  cases h with
  |cons v vs _ _ b1 b2 h1 h2 h3=>
   rw[cF];exact .cons _ _ _ _ _ _ h1 h2 (ih h3)
theorem dA.split{vs:aq}{ds es:aG}(h:dA w κ vs (ds++es) bs):
 ∃v1 v2 b1 b2,vs=v1++v2/\bs=b1++b2/\dA w κ v1 ds b1/\dA w κ v2 es b2:=by
 induction ds generalizing vs bs with
 |nil=>exact⟨[],vs,[],bs,by simp,by simp,.nil,h⟩
 |cons d ds ih=>
  cases h with
  |cons v vs _ _ b1 b2 h1 h2 h3=>
   obtain⟨v1,v2,c1,c2,rfl,rfl,k1,k2⟩:=ih h3;exact⟨v::v1,v2,b1++c1,c2,by simp,by simp,.cons _ _ _ _ _ _ h1 h2 k1,k2⟩
theorem dA.mid{vs:aq}{ds:aG}(h:dA w κ vs ds bs)(i n:Nat)(hn:i+n<=ds.length):
 ∃b,dA w κ ((vs.drop i).take n) ((ds.drop i).take n) b/\∀x∈b,x∈bs:=by
 have e:ds=ds.take i++((ds.drop i).take n++(ds.drop i).drop n):=by rw[bK,bK]
 rw[e]at h;obtain⟨v1,v2,b1,b2,rfl,rfl,k1,k2⟩:=h.split;obtain⟨v3,v4,b3,b4,rfl,rfl,k3,k4⟩:=k2.split;refine⟨b3,?_,by intro x hx;simp[hx]⟩;have h1:v1.length=i:=by rw[k1.length];simp;omega
 have h3:v3.length=n:=by rw[k3.length];simp;omega
 rw[dM h1,eY h3];exact k3
theorem dA.at{vs:aq}{ds:aG}(h:dA w κ vs ds bs){i:Nat}{d:D}(hd:ds[i]?=some d):
 ∃v b,vs[i]?=some v/\v.oneCell'=true/\oz w κ v d b/\∀x∈b,x∈bs:=by
 induction ds generalizing vs bs i with
 |nil=>simp at hd
 |cons e ds ih=>
  cases h with
  |cons v vs _ _ b1 b2 h1 h2 h3=>
   cases i with
   |zero=>simp at hd;subst hd;exact⟨v,b1,by simp,h1,h2,by intro x hx;simp[hx]⟩
   |succ i=>
    simp at hd;obtain⟨u,b,k1,k2,k3,k4⟩:=ih h3 hd;exact⟨u,b,by simpa using k1,k2,k3,fun x hx=>by simp[k4 x hx]⟩
theorem Eu(v:Value):kF w κ v (D.Dw v) []:=by
 unfold D.Dw;split
 ·exact .of (.bool _)
 ·split
  ·rename_i h;exact .of (.int _ _ h)
  ·exact .of (.val _)
 ·split
  ·rename_i h;exact .of (.str _ h)
  ·exact .of (.val _)
 ·exact .of .nil
 ·exact .of (.val _)
end
section
variable{Γ:lY}{st:St}{κ:Nat->Option Value}{Θ:Nat->Nat}{a:Act}{w:World}
theorem cN.ev(h:cN Γ st κ Θ a w)(x:Operand):∃bs,kF w κ (a.eval x) (st.ev x) bs/\∀b∈bs,Θ b=0:=by
 cases x with
 |tmp t=>exact h.slot t
 |const v=>exact⟨[],Eu v,by simp⟩
 |global g=>exact⟨[],.of (.val _),by simp⟩
 |func f=>exact⟨[],.of (.val _),by simp⟩
theorem cN.set(h:cN Γ st κ Θ a w){t:Nat}{v:Value}{d:D}{bs:aH}(ht:t<Γ.nt)(hv:kF w κ v d bs)(hb:∀b∈bs,Θ b=0):
 cN Γ (st.set t d) κ Θ (a.put (some t) v) w:=by
 refine⟨h.defers,by simp[Act.put,h.size],h.jN,h.j9,?_,h.ob,h.own,h.old,h.mine,h.stays,h.kx⟩;intro u;show∃bs,kF w κ ((a.tmps.setIfInBounds t v).getD u undef) (if u=t then d else lk st.σ u) bs/\_;have hsz:=h.size;by_cases hu:u=t
 ·subst hu;rw[bG rfl];have:(a.tmps.setIfInBounds u v).getD u undef=v:=by
   simp[bM,hsz,ht]
  rw[this];exact⟨bs,hv,hb⟩
 ·rw[ar hu];have:(a.tmps.setIfInBounds t v).getD u undef=a.tmps.getD u undef:=by
   simp[bM,kE hu]
  rw[this];exact h.slot u
end
end Go.Cx
namespace Go.Cx
open Go.RowKit
abbrev ai:=List Ob
def pH(P:Program)(t:TypeId):Option Bool:=
 match P.underlying t with
 |some (.struct _)=>some true
 |some (.array _ _)=>some true
 |some _=>some false
 |none=>none
def oX(P:Program)(t:TypeId):Nat:=P.cellsOf t
def Sw(P:Program)(t f:Nat):Option Nat:=
 match P.underlying t with
 |some (.struct fs)=>(match fs[f]? with
  |some x=>if(P.info? x.type).isSome/\P.cellsOf x.type≠0 then some x.offset else none
  |none=>none)
 |_=>none
def Td(P:Program)(t f:Nat):Option (Nat×TypeId):=
 match P.underlying t with
 |some (.struct fs)=>(match fs[f]? with|some x=>some (x.offset,x.type)|none=>none)
 |_=>none
def vJ(P:Program)(t:TypeId):Option (TypeId×Nat):=
 match P.underlying t with
 |some (.slice e)=>if(P.info? e).isSome then some (e,P.cellsOf e)else none
 |_=>none
def OL(P:Program)(t:TypeId):Option (Nat×Nat):=
 match P.underlying t with
 |some (.array n e)=>if(P.info? e).isSome then some (P.cellsOf e,n)else none
 |_=>none
def OM(P:Program)(t:TypeId):Option Nat:=match P.underlying t with
 |some (.array n e)=>(match pH P e with|some false=>if oX P e=1 then some n else none|_=>none)
 |_=>none
def yq(P:Program)(t:TypeId):Bool:=match P.underlying t with|some .string=>true|_=>false
def FA(P:Program)(t:TypeId):Option IntKind:=match P.underlying t with|some (.int k)=>some k|_=>none
def Mm(P:Program)(t:TypeId):Bool:=match P.underlying t with|some .bool=>true|_=>false
def G5(P:Program)(t:TypeId):Bool:=match P.underlying t with
 |some (.struct fs)=>match fs.toList with
  | [f,g]=>f.name != "_" &&g.name != "_" &&f.offset==0&&g.offset==1&&yq P f.type&&yq P g.type&& !P.stoodInHeld t&& !P.eqGuardType P.depth t
  |_=>false
 |_=>false
def peq(P:Program)(op:BinOp)(t:TypeId):D->D->Option D
 | .bool a,.bool b=>if Mm P t=true then match op with| .eql=>some (.bool (a==b))| .neq=>some (.bool (a != b))|_=>none else none
 | .agg [.str a,.str b],.agg [.str c,.str d]=>if G5 P t=true then match op with| .eql=>some (.bool (a==c&&b==d))| .neq=>some (.bool (!(a==c&&b==d)))|_=>none else none
 |_,_=>none
def ON(P:Program)(t:TypeId):Bool:=match P.underlying t with|some (.interface _)=>true|_=>false
def OB(P:Program)(op:BinOp)(t:TypeId)(x:D)(y:Operand):Option D:=match x,y with
 | .MA b,.const .nilIface=>(match ON P t,op with|true,.eql=>some (.bool (!b))|true,.neq=>some (.bool b)|_,_=>none)
 |_,_=>none
def Gp(op:BinOp):D->D->Option D
 | .int k a,.int k' b=>
  if k=k' then
   match op with
   | .add=>some (.int k (k.wrap (a+b)))
   | .sub=>some (.int k (k.wrap (a-b)))
   | .mul=>some (.int k (k.wrap (a*b)))
   | .quo=>if 0<=a/\0<b then some (.int k (a/b))else none
   | .rem=>if 0<=a/\0<b then some (.int k (a%b))else none
   | .eql=>some (.bool (a==b))
   | .neq=>some (.bool (a != b))
   | .lss=>some (.bool (a<b))
   | .leq=>some (.bool (a<=b))
   | .gtr=>some (.bool (a>b))
   | .geq=>some (.bool (a>=b))
   |_=>none
  else none
 | .str a,.str b=>
  match op with
  | .add=>if a.length+b.length<=maxLen then some (.str (a++b))else none
  | .eql=>some (.bool (a==b))
  | .neq=>some (.bool (!(a==b)))
  | .lss=>some (.bool (Op.bytesLess a b))
  | .leq=>some (.bool (Op.bytesLess a b||a==b))
  | .gtr=>some (.bool (!(Op.bytesLess a b||a==b)))
  | .geq=>some (.bool (!(Op.bytesLess a b)))
  |_=>none
 |_,_=>none
def w8(ag:Bool)(n:Nat)(row:aG)(off:Nat):Option D:=
 if ag then(if off+n<=row.length then some (.agg ((row.drop off).take n))else none)else row[off]?
def o8(len:Nat)(lo hi:Option D):Option (Nat×Nat):=
 match(match hi with|none=>some len|some (.int _ h)=>if 0<=h/\h.toNat<=len then some h.toNat else none|_=>none)with
 |none=>none
 |some h=>match(match lo with|none=>some 0|some (.int _ l)=>if 0<=l/\l.toNat<=h then some l.toNat else none|_=>none)with
  |none=>none
  |some l=>some (l,h)
def BI(a b:Int):Int:=if b<a then b else a
def OA:D->D->Option D
 | .int k m,.int k' n=>if k=k' then some (.int k (BI m n))else none
 |_,_=>none
def LH(P:Program)(st:St)(x:Operand)(t:TypeId):Option D:=
 match st.ev x with
 | .str s=>if yq P t then some (.int .i64 s.length)else none
 | .sl rows=>if(vJ P t).isSome then some (.int .i64 rows.length)else none
 | .nil=>if(vJ P t).isSome then some (.int .i64 0)else none
 | .acc id=>(match vJ P t,st.H[id]? with|some _,some (.row _ _ _ rows)=>some (.int .i64 rows.length)|_,_=>none)
 |_=>none
def D.cellsOf:D->Option aG
 | .agg ds=>some ds
 | .any=>none
 | .fy _=>none
 | .val v=>if v.oneCell' then some [.val v]else none
 |d=>some [d]
def tz(P:Program)(t:TypeId):Option aG:=
 match P.info? t with
 |some i=>(match i.zero with
  |some z=>if z.cells.toList.all (fun c=>c.oneCell')&&z.cells.size==i.size then some (z.cells.toList.map D.Dw)else none
  |none=>none)
 |none=>none
def G6(P:Program)(t:TypeId):Option (List (Nat×Nat)):=
 match P.underlying t with
 |some (.struct fs)=>fs.toList.mapM (fun f=>(P.info? f.type).map fun i=>(f.offset,i.size))
 |_=>none
def o9(places:List (Nat×Nat))(cells:aG):List (Nat×D)->Option aG
 | []=>some cells
 | (i,d)::rest=>match places[i]?,d.cellsOf with
  |some (off,sz),some ds=>if ds.length=sz/\off+sz<=cells.length then o9 places (cells.take off++ds++cells.drop (off+sz)) rest else none
  |_,_=>none
def R5:D->D->Option Bool
 | .str a,.str b=>some (a==b)
 | .int k a,.int k' b=>if k=k' then some (a==b)else none
 |_,_=>none
def ye:TypeDesc->D->Bool
 | .string,.str _=>true
 | .int k,.int k' _=>decide (k=k')
 |_,_=>false
def Aa(k:D):List (D×D)->Option (Option D)
 | []=>some none
 |p::r=>match R5 k p.1 with|some true=>some (some p.2)|some false=>Aa k r|none=>none
def Ba(k v:D):List (D×D)->Option (List (D×D))
 | []=>some [(k,v)]
 |p::r=>match R5 k p.1 with|some true=>some ((k,v)::r)|some false=>(Ba k v r).map (p:: ·)|none=>none
def Jm(P:Program)(T:TypeId):Option (TypeDesc×D):=
 match P.underlying T with
 |some (.map kt et)=>(match P.underlying kt,P.info? et with
  |some d,some i=>(match i.zero with|some z=>if z.oneCell'=true then some (d,D.Dw z)else none|none=>none)
  |_,_=>none)
 |_=>none
def Sq(P:Program)(T:TypeId)(kv:List (D×D))(k:D)(ok:Bool):Option D:=
 match Jm P T with
 |some (kd,dz)=>(match ye kd k,Aa k kv with
  |true,some (some d)=>some (bif ok then .fy [d,.bool true]else d)
  |true,some none=>some (bif ok then .fy [dz,.bool false]else dz)
  |_,_=>none)
 |none=>none
def vv(k:IntKind)(a b:Int):Int:=k.wrap ((BitVec.ofInt k.bits a&&& BitVec.ofInt k.bits b).toNat)
def P5(k:IntKind)(a b:Int):Int:=k.wrap ((BitVec.ofInt k.bits a|||BitVec.ofInt k.bits b).toNat)
def FT(k:IntKind)(a b:Int):Int:=k.wrap ((BitVec.ofInt k.bits a^^^BitVec.ofInt k.bits b).toNat)
def E6(k:IntKind)(a b:Int):Int:=a.fdiv (2^(min b.toNat k.bits))
def O9(op:BinOp)(x y:D):Option D:=match x,y with
 | .int k a,.int k' b=>(match op with
  | .and=>if k=k' then some (.int k (vv k a b))else none
  | .or=>if k=k' then some (.int k (P5 k a b))else none
  | .xor=>if k=k' then some (.int k (FT k a b))else none
  | .shr=>if 0<=b then some (.int k (E6 k a b))else none
  |_=>none)
 |_,_=>none
theorem nM.shr{k:IntKind}{a:Int}(h:nM k a)(b:Int):nM k (E6 k a b):=by
 have hm:(0:Int)<2^(min b.toNat k.bits):=Int.pow_pos (by decide);unfold E6;rw[Int.fdiv_eq_ediv_of_nonneg _ (ru hm)];generalize(2:Int)^(min b.toNat k.bits)=m at hm;have hz:=nM.zero k;rcases Int.lt_or_le a 0 with h0|h0
 ·refine⟨rz h.1 (Int.le_ediv_of_mul_le hm ?_),rz (ru (Int.ediv_lt_of_lt_mul (b:=0) hm (by omega))) hz.2⟩;have:a*m<=a*1:=Int.mul_le_mul_of_nonpos_left (ru h0) (by omega);omega
 ·exact h.down (sY h0 (ru hm)) (Int.ediv_le_self m h0)
def pv(P:Program)(st:St):Op->Option D
 | .lookup T x i ok=>match st.ev x with
  | .acc id=>(match st.H[id]? with|some (.mp kv)=>Sq P T kv (st.ev i) ok|_=>none)
  |_=>none
 | .build t parts=>match tz P t,G6 P t with
  |some zs,some ps=>(o9 ps zs (parts.toList.map fun p=>(p.1,st.ev p.2))).map D.agg
  |_,_=>none
 | .move x=>some (st.ev x)
 | .assign x=>some (st.ev x)
 | .pick c a b=>match st.ev c with| .bool t=>some (bif t then st.ev a else st.ev b)|_=>none
 | .binOp op t x y _=>match Gp op (st.ev x) (st.ev y)with|some d=>some d|none=>(match peq P op t (st.ev x) (st.ev y)with|some d=>some d|none=>(match OB P op t (st.ev x) y with|some d=>some d|none=>O9 op (st.ev x) (st.ev y)))
 | .nilCheck x=>match st.ev x with| .ptr i o=>some (.ptr i o)| .op i a b c=>some (.op i a b c)| .ep r o=>some (.ep r o)|_=>none
 | .unOp .not _ x=>match st.ev x with| .bool b=>some (.bool (!b))|_=>none
 | .unOp .neg _ x=>match st.ev x with| .int k n=>some (.int k (k.wrap (0-n)))|_=>none
 | .convert s d x=>match st.ev x,FA P s,FA P d with| .int _ n,some _,some k=>some (.int k (k.wrap n))|_,_,_=>none
 | .field t x f=>match Td P t f,st.ev x with
  |some (off,ft),.agg cells=>(match pH P ft with|some ag=>w8 ag (oX P ft) cells off|none=>none)
  |_,_=>none
 | .fieldAddr t x f=>match Sw P t f,st.ev x with
  |some o,.ptr id off=>some (.ptr id (off+o))
  |some o,.ep row off=>some (.ep row (off+o))
  |some o,.op id i sz off=>some (.op id i sz (off+o))
  |_,_=>none
 | .indexAddr t x i=>match vJ P t,st.ev x,st.ev i with
  |some (_,sz),.sl rows,.int _ n=>if 0<=n then(match rows[n.toNat]? with|some row=>if row.length=sz then some (.ep row 0)else none|none=>none)else none
  |some (_,sz),.acc id,.int _ n=>(match st.H[id]? with
   |some (.row _ _ sz' rows)=>if sz=sz'/\0<=n/\n.toNat<rows.length then some (.op id n.toNat sz 0)else none
   |_=>none)
  |_,.val (.pointer (some ⟨g,o,none⟩)),.int _ n=>(match OL P t with
   |some (sz,len)=>if 0<=n/\n.toNat<len then some (.val (.pointer (some ⟨g,o+n.toNat*sz,none⟩)))else none
   |none=>none)
  |_,_,_=>none
 | .load t x=>match pH P t,st.ev x with
  |some ag,.ep row off=>w8 ag (oX P t) row off
  |some ag,.ptr id off=>(match(st.H[id]?).bind Ob.FW with|some cells=>w8 ag (oX P t) cells off|none=>none)
  |some ag,.op id i sz off=>(match st.H[id]? with
   |some (.row (.ho p n) _ sz' _)=>(match ag with|false=>if sz'=sz/\i*sz+off=p then some (.acc n)else none|true=>none)
   |some (.row k _ sz' rows)=>(match rows[i]? with|some row=>if sz'=sz/\k.CW=true/\off+(bif ag then oX P t else 1)<=sz then w8 ag (oX P t) row off else none|none=>none)
   |_=>none)
  |some ag,.val (.pointer (some ⟨g,o,none⟩))=>(match ag with|false=>Bs g o|true=>FF g o (oX P t))
  |_,_=>none
 | .extract x i=>match st.ev x with| .fy vs=>vs[i]? |_=>none
 | .index t x i=>match yq P t,st.ev x,st.ev i with
  |true,.str s,.int _ n=>if 0<=n then(match s[n.toNat]? with|some b=>some (.int .u8 b.toNat)|none=>none)else none
  |false,.agg cells,.int _ n=>(match OM P t with|some len=>if 0<=n/\n<(len:Int)then cells[n.toNat]? else none|none=>none)
  |_,_,_=>none
 | .slice t x lo hi none=>match st.ev x with
  | .str s=>if yq P t then(match o8 s.length (lo.map st.ev) (hi.map st.ev)with|some (l,h)=>some (.str ((s.take h).drop l))|none=>none)else none
  | .sl rows=>(match vJ P t,o8 rows.length (lo.map st.ev) (hi.map st.ev)with
   |some (_,sz),some (l,h)=>if(rows.all (fun r=>r.length==sz))then some (.sl ((rows.take h).drop l))else none
   |_,_=>none)
  |_=>none
 | .call c=>match c.callee,c.args.toList,c.argTypes.toList with
  | .builtin .len,[x],[t]=>LH P st x t
  | .builtin .min,[x,y],[_,_]=>OA (st.ev x) (st.ev y)
  |_,_,_=>none
 |_=>none
section
variable{P:Program}{Γ:lY}{st:St}{κ:Nat->Option Value}{Θ:Nat->Nat}{a:Act}{w:World}
def nL(P:Program)(κ:Nat->Option Value)(Θ:Nat->Nat)(a:Act)(w:World)(o:Oper)(d:D):Prop:=
 ∃v bs,(execOp a.eval o).run P w=.ok (.value v) w/\kF w κ v d bs/\∀b∈bs,Θ b=0
theorem CT{n:Nat}(h:n<=maxLen):nM .i64 (n:Int):=by
 rw[nM.i64];unfold maxLen at h;omega
theorem mB{k:IntKind}{n:Int}(h:nM k n):k.wrap n=n:=by
 unfold nM at h;cases k<;>simp[IntKind.min,IntKind.max,IntKind.wrap,IntKind.bits,IntKind.signed]at h⊢ <;>(try split)<;>omega
theorem Ev{o:Oper}{op:BinOp}{t t':TypeId}{x y:Operand}{d:D}(hs:cN Γ st κ Θ a w)(ho:o.op=.binOp op t x y t')
 (h:Gp op (st.ev x) (st.ev y)=some d):nL P κ Θ a w o d:=by
 obtain⟨b1,r1,_⟩:=hs.ev x;obtain⟨b2,r2,_⟩:=hs.ev y;generalize st.ev x=dx at*;generalize st.ev y=dy at*;unfold Gp at h;split at h
 ·rename_i k p k' q;split at h
  ·rename_i hk;subst hk;have e1:=r1.jc;have e2:=r2.jc;cases op<;>simp only[aQ,reduceCtorEq]at h
   case quo=>
    split at h
    ·rename_i hq;cases h;have Pd:q≠0:=by omega
     have hle:p/q<=p:=Int.ediv_le_self q hq.1;have h0:0<=p/q:=sY hq.1 (by omega);have hin:=r1.AY.down h0 hle;have hw:k.wrap (p.tdiv q)=p/q:=by
      rw[Int.tdiv_eq_ediv_of_nonneg hq.1];exact mB hin
     exact⟨_,[],by simp[execOp,ho,e1,e2,binOp,eqGuard,Op.intDiv,Pd,hw],.of (.int _ _ hin),by simp⟩
    ·cases h
   case rem=>
    split at h
    ·rename_i hq;cases h;have Pd:q≠0:=by omega
     have h0:0<=p%q:=Int.emod_nonneg p Pd;have hle:p%q<=p:=by
      have h1:=Int.emod_add_mul_ediv p q;have h2:0<=q*(p/q):=Int.mul_nonneg (by omega) (sY hq.1 (by omega));omega
     have hin:=r1.AY.down h0 hle;have hw:p.tmod q=p%q:=Int.tmod_eq_emod_of_nonneg hq.1;exact⟨_,[],by simp[execOp,ho,e1,e2,binOp,eqGuard,Op.intDiv,Pd,hw],.of (.int _ _ hin),by simp⟩
    ·cases h
   all_goals subst h
   all_goals first
    |exact⟨_,[],by simp[execOp,ho,e1,e2,binOp,eqGuard,Op.intArith],.of (.int _ _ (nM.wrap _ _)),by simp⟩
    |exact⟨_,[],by simp[execOp,ho,e1,e2,binOp,eqGuard,Op.intCmp],.of (.bool _),by simp⟩
  ·cases h
 ·rename_i p q;obtain⟨u,e1,rfl⟩:=r1.iW;obtain⟨v,e2,rfl⟩:=r2.iW;cases op<;>simp only[aQ,reduceCtorEq]at h
  case add=>
   split at h
   ·rename_i hl;cases h;have hsz:u.size+v.size<=9223372036854775807:=by
     simp only[jo,maxLen]at hl;exact hl
    refine⟨.string (u++v),[],?_,?_,by simp⟩
    ·simp[execOp,ho,e1,e2,binOp,eqGuard,run_string_add_sum w u v hsz]
    ·have:=Rd.str (w:=w) (u++v) (by rw[ByteArray.size_append'];unfold maxLen;omega);simp only[ByteArray.data_append,gR]at this;exact .of this
   ·cases h
  all_goals subst h
  all_goals exact⟨_,[],by simp[execOp,ho,e1,e2,binOp,eqGuard,Op.stringOp,ByteArray.toList_eq],.of (.bool _),by simp⟩
 ·cases h
theorem rY{t:TypeId}{b:Bool}(h:pH P t=some b)(w:World):(isAgg t).run P w=.ok b w:=by
 unfold pH at h;split at h<;>first
  | (rename_i hu;cases h;simp[isAgg,run_underlying hu])
  | (rename_i d _ _ hu;cases h;cases d<;>simp_all [isAgg,run_underlying hu])
  |cases h
theorem info_of_underlying{t:TypeId}{d:TypeDesc}(h:P.underlying t=some d):∃i,P.info? t=some i:=by
 unfold Program.underlying at h;cases hi:P.info? t with
 |none=>simp[hi]at h
 |some i=>exact⟨i,rfl⟩
theorem sP{t:TypeId}{b:Bool}(h:pH P t=some b):∃i,P.info? t=some i:=by
 unfold pH at h;split at h<;>first
  | (rename_i hu;exact info_of_underlying hu)
  |cases h
theorem lT{t:TypeId}(h:∃i,P.info? t=some i)(w:World):(sizeOf t).run P w=.ok (oX P t) w:=by
 obtain⟨i,hi⟩:=h;simp[sizeOf,typeInfo,hi,oX,Program.cellsOf]
theorem gP{t:TypeId}{ag:Bool}(ht:pH P t=some ag){b off o:Nat}{cs:aq}
 (hc:∀j c,cs[j]?=some c->w.cell? ⟨b,off+j,none⟩=some c):
 (ag=true->o+oX P t<=cs.length->(Instr.loadAt t (.pointer (some ⟨b,off+o,none⟩))).run P w=.ok (.agg ((cs.drop o).take (oX P t)).toArray) w)/\
 (ag=false->∀c,cs[o]?=some c->(Instr.loadAt t (.pointer (some ⟨b,off+o,none⟩))).run P w=.ok c w):=by
 constructor
 ·intro e hl;subst e;have hlen:((cs.drop o).take (oX P t)).length=oX P t:=by simp;omega
  have:=run_loadCells_list (P:=P) w ⟨b,off+o,none⟩ ((cs.drop o).take (oX P t)) (by
   intro j v hj;rw[Addr.add_lit];rw[bU]at hj;split at hj
   ·rw[cW]at hj;rw[fJ];exact hc _ _ hj
   ·cases hj)
  rw[hlen]at this;simp[Instr.loadAt,Instr.sureAddr,loadVar,rY ht,lT (sP ht),this]
 ·intro e c hj;subst e;have:=hc o c hj;simp[Instr.loadAt,Instr.sureAddr,loadVar,rY ht,this]
theorem oz.Bq{v:Value}{d:D}{bs:aH}(h:oz w κ v d bs):kF w κ v d bs:=.v (.cell h)
theorem Af{o:Oper}{t:TypeId}{x:Operand}{d:D}(hs:cN Γ st κ Θ a w)(ho:o.op=.load t x)
 (h:pv P st (.load t x)=some d):nL P κ Θ a w o d:=by
 obtain⟨b1,r1,z1⟩:=hs.ev x;simp only[pv]at h;split at h
 ·rename_i ag row off ht hx;rw[hx]at r1;have hrd:=r1.ES;generalize Fo:a.eval x=vx at hrd;cases hrd with
  |ep b base cs _ _ bs h0 hc hrs=>
   have L:=gP (P:=P) (w:=w) ht (o:=off) hc;unfold w8 at h;split at h
   ·rename_i hag;split at h
    ·rename_i hl;cases h;have hl':off+oX P t<=cs.length:=by rw[hrs.length];exact hl
     obtain⟨b',hm,hsub⟩:=hrs.mid off (oX P t);exact⟨_,b',by simp only[execOp,ho,Fo];simp[L.1 hag hl'],.of (.agg _ _ _ hm),fun y hy=>z1 y (by simp[hsub y hy])⟩
    ·cases h
   ·rename_i hag;simp only[nQ]at hag;obtain⟨v,b',hv,_,hr,hsub⟩:=hrs.at h;exact⟨v,b',by simp only[execOp,ho,Fo];simp[L.2 hag v hv],.of hr,fun y hy=>z1 y (by simp[hsub y hy])⟩
 ·rename_i ag id off ht hx;rw[hx]at r1;obtain⟨g,hk,hv⟩:=r1.pF;split at h
  ·rename_i cells hH;obtain⟨ob,hH,pK⟩:=aJ.1 hH;obtain⟨g',cs,T,hk',hg,hΘ,bs,hrs,hz⟩:=(hs.ob id _ hH).cs pK;rw[hk]at hk';cases hk';have hc:∀j c,cs.toList[j]?=some c->w.cell? ⟨g,0+j,none⟩=some c:=by
    intro j c hj;simp only[bq,World.cell?,hg];simpa using hj
   have L:=gP (P:=P) (w:=w) ht (o:=off) hc;simp only[bq]at L;unfold w8 at h;split at h
   ·rename_i hag;split at h
    ·rename_i hl;cases h;have hl':off+oX P t<=cs.toList.length:=by rw[hrs.length];exact hl
     obtain⟨b',hm,hsub⟩:=hrs.mid off (oX P t) hl;exact⟨_,b',by simp only[execOp,ho,hv];simp[L.1 hag hl'],.v (.agg _ _ _ hm),fun y hy=>hz y (hsub y hy)⟩
    ·cases h
   ·rename_i hag;simp only[nQ]at hag;obtain⟨v,b',Od,_,hr,hsub⟩:=hrs.at h;exact⟨v,b',by simp only[execOp,ho,hv];simp[L.2 hag v Od],hr.Bq,fun y hy=>hz y (hsub y hy)⟩
  ·cases h
 ·rename_i ag id i sz off ht hx;rw[hx]at r1;obtain⟨g,o0,len,cap,hk,hv⟩:=r1.uw;split at h
  ·rename_i p n e sz' rows hH;split at h
   ·split at h
    ·rename_i BU;obtain⟨rfl,rfl⟩:=BU;cases h;obtain⟨ρ,hu⟩:=hs.kx;obtain⟨vk,cs,bs,Fm,hown,_,_,_,c,hc,hkc⟩:=hu.more id _ hH;rw[hk]at Fm;cases Fm;have Fi:=pE hown;subst Fi;rw[bq]at hv;have hcells:∀j c,cs[j]?=some c->w.cell? ⟨g,0+j,none⟩=some c:=by
      intro j c hj;have:=hown.cells (g:=g) (by simp[Value.ownBlock]) j c hj;simpa[Addr.add_lit]using this
     have L:=gP (P:=P) (w:=w) ht (o:=i*sz'+off) hcells;simp only[bq]at L;exact⟨c,[],by simp only[execOp,ho,hv];simp[L.2 trivial c hc],(oz.acc n c hkc).Bq,by simp⟩
    ·cases h
   ·cases h
  ·rename_i k e sz' rows R2 hH;split at h
   ·rename_i row hrow;split at h
    ·rename_i BU;obtain⟨rfl,hk0,hoff⟩:=BU;obtain⟨hsz,hrl,vk,cs,bs,Fm,hown,hrs,hΘ,hz⟩:=hs.ob id _ hH;have oF:∀b∈bs,Θ b=0:=by cases k<;>first|exact hz|simp[RK.CW]at hk0
     rw[hk]at Fm;cases Fm;have Fi:=pE hown;subst Fi;rw[bq]at hv;have Fl:row.length=sz':=hrl row (aD hrow);have hcells:∀j c,cs[j]?=some c->w.cell? ⟨g,0+j,none⟩=some c:=by
      intro j c hj;have:=hown.cells (g:=g) (by simp[Value.ownBlock]) j c hj;simpa[Addr.add_lit]using this
     have L:=gP (P:=P) (w:=w) ht (o:=i*sz'+off) hcells;simp only[bq]at L;have SK:=hrs.length;have hmid:=uV hrl hrow;have hlt:i<rows.length:=(aB.1 hrow).1;have hfl:=iL hrl;have hle:(i+1)*sz'<=rows.length*sz':=cx _ hlt;rw[eR,j3]at hle;unfold w8 at h;split at h
     ·rename_i hag;subst hag;simp only[aK]at hoff;split at h
      ·rename_i hl;cases h;have hl':i*sz'+off+oX P t<=cs.length:=by rw[SK,hfl];omega
       obtain⟨b',hm,hsub⟩:=hrs.mid (i*sz'+off) (oX P t);have e:(rows.flatten.drop (i*sz'+off)).take (oX P t)=(row.drop off).take (oX P t):=by
        rw[<-hmid,List.drop_take,lH,dP,cv (by omega)]
       rw[e]at hm;exact⟨_,b',by simp only[execOp,ho,hv];simp[L.1 rfl hl'],.of (.agg _ _ _ hm),fun y hy=>oF y (hsub y hy)⟩
      ·cases h
     ·rename_i hag;simp only[nQ]at hag;subst hag;simp only[aP]at hoff;have e:rows.flatten[i*sz'+off]?=some d:=by
       rw[<-hmid,bU,bG (by omega),cW]at h;exact h
      obtain⟨v,b',Od,_,hr,hsub⟩:=hrs.at e;exact⟨v,b',by simp only[execOp,ho,hv];simp[L.2 rfl v Od],.of hr,fun y hy=>oF y (hsub y hy)⟩
    ·cases h
   ·cases h
  ·cases h
 ·rename_i ag g o' ht hx;rw[hx]at r1;have hv:=r1.GA;split at h
  ·obtain⟨ds,⟨p,hp,hcs⟩,hd⟩:=Jr h;obtain⟨B,hB,_⟩:=hs.OO;obtain⟨_,cs,T,z,hg,hpc⟩:=hB _ hp;obtain⟨v,hv2,hrd⟩:=hcs _ hpc _ _ hd;have hc:∀j c,cs.toList[j]?=some c->w.cell? ⟨g,0+j,none⟩=some c:=by
    intro j c hj;simp only[bq,World.cell?,hg];simpa using hj
   have L:=(gP (P:=P) (w:=w) ht (o:=o') hc).2 rfl v hv2;rw[bq]at L;exact⟨v,[],by simp only[execOp,ho,hv];simp[L],.of (hrd w),by simp⟩
  ·unfold FF at h;split at h
   ·rename_i x hf;split at h
    ·rename_i BU;cases h;simp only[aM,bX]at BU;obtain⟨⟨hal,Fi⟩,hsz⟩:=BU;subst Fi;have h1:=List.find?_some hf;have h2:=qY hf;have e:x.1=g:=by simpa using h1
     obtain⟨p,hp,hcs⟩:=Aw x h2;rw[e]at hp;obtain⟨B,hB,_⟩:=hs.OO;obtain⟨_,cs,T,z,hg,hpc⟩:=hB _ hp;have hc:∀j c,cs.toList[j]?=some c->w.cell? ⟨g,0+j,none⟩=some c:=by
      intro j c hj;simp only[bq,World.cell?,hg];simpa using hj
     obtain⟨hle,hrs⟩:=E9 (w:=w) (ds:=x.2) (cs:=cs.toList) (fun d hd=>aO.1 hal d hd) (fun o d hd=>by obtain⟨v,hv2,hr⟩:=hcs _ hpc o d hd;exact⟨v,hv2,hr w⟩);have L:=(gP (P:=P) (w:=w) ht (o:=0) hc).1 rfl (by rw[bq,hsz];exact hle);rw[bq,pO,hsz]at L;exact⟨_,[],by simp only[execOp,ho,hv];simp[L],.of (.agg _ _ _ hrs),by simp⟩
    ·cases h
   ·cases h
 ·cases h
theorem DI{o:Oper}{t f:Nat}{x:Operand}{d:D}(hs:cN Γ st κ Θ a w)(ho:o.op=.field t x f)
 (h:pv P st (.field t x f)=some d):nL P κ Θ a w o d:=by
 obtain⟨b1,r1,z1⟩:=hs.ev x;simp only[pv]at h;split at h
 ·rename_i off ft cells ht hx;rw[hx]at r1;obtain⟨cs,hv,hrs⟩:=r1.sC;unfold Td at ht;split at ht
  ·rename_i fs hu;split at ht
   ·rename_i fl hfl;cases ht;split at h
    ·rename_i ag SP;unfold w8 at h;split at h
     ·rename_i hag;subst hag;split at h
      ·rename_i hl;cases h;obtain⟨b',hm,hsub⟩:=hrs.mid fl.offset (oX P fl.type) hl;refine⟨.agg ((cs.drop fl.offset).take (oX P fl.type)).toArray,b',?_,.v (.agg _ _ _ hm),fun y hy=>z1 y (hsub y hy)⟩;have e:cs.toArray.extract fl.offset (fl.offset+oX P fl.type)=((cs.drop fl.offset).take (oX P fl.type)).toArray:=by
        rw[List.extract_toArray,List.extract_eq_take_drop];congr 1;congr 1;omega
       simp only[execOp,ho,hv];simp[Instr.field,run_underlying hu,hfl,asAgg,part,rY SP,lT (sP SP),e]
      ·cases h
     ·rename_i hag;simp only[nQ]at hag;subst hag;obtain⟨v,b',hv2,_,hr,hsub⟩:=hrs.at h;refine⟨v,b',?_,.v (.cell hr),fun y hy=>z1 y (hsub y hy)⟩;simp only[execOp,ho,hv];simp[Instr.field,run_underlying hu,hfl,asAgg,part,rY SP,hv2]
    ·cases h
   ·cases ht
  ·cases ht
 ·cases h
theorem zV{o:Oper}{t f:Nat}{x:Operand}{d:D}(hs:cN Γ st κ Θ a w)(ho:o.op=.fieldAddr t x f)
 (h:pv P st (.fieldAddr t x f)=some d):nL P κ Θ a w o d:=by
 obtain⟨b1,r1,z1⟩:=hs.ev x;have hf:∀ {o':Nat},Sw P t f=some o'->∀(b off:Nat),(Instr.fieldAt t (.pointer (some ⟨b,off,none⟩)) f).run P w=.ok (.pointer (some ⟨b,off+o',none⟩)) w:=by
  intro o' h b off;unfold Sw at h;split at h
  ·rename_i fs hu;split at h
   ·rename_i fl hfl;split at h
    ·rename_i hc;cases h;obtain⟨i,hi⟩:=cT.1 hc.1;have hsz:=lT (P:=P) ⟨i,hi⟩ w;have h0:oX P fl.type≠0:=hc.2;simp[Instr.fieldAt,run_underlying hu,hfl,Instr.sureAddr,fieldPlace,hsz,h0,Addr.add_lit]
    ·cases h
   ·cases h
  ·cases h
 simp only[pv]at h;split at h
 ·rename_i o' id off ht hx;cases h;rw[hx]at r1;obtain⟨g,hk,hv⟩:=r1.pF;exact⟨_,[],by simp only[execOp,ho,hv];simp[hf ht g off],(oz.ptr id (off+o') g hk).Bq,by simp⟩
 ·rename_i o' row off ht hx;cases h;rw[hx]at r1;have hrd:=r1.ES;generalize Fo:a.eval x=vx at hrd;cases hrd with
  |ep b base cs _ _ bs h0 hc hrs=>
   refine⟨.pointer (some ⟨b,base+off+o',none⟩),b::bs,by simp only[execOp,ho,Fo];simp[hf ht b (base+off)],?_,z1⟩;rw[fJ];exact .of (.ep b base cs row (off+o') bs h0 hc hrs)
 ·rename_i o' id i sz off ht hx;cases h;rw[hx]at r1;obtain⟨g,o0,len,cap,hk,hv⟩:=r1.uw;refine⟨.pointer (some ⟨g,o0+(i*sz+off)+o',none⟩),[],by simp only[execOp,ho,hv];simp[hf ht g (o0+(i*sz+off))],?_,by simp⟩;rw[fJ,fJ];exact(oz.op id i sz (off+o') g o0 len cap hk).Bq
 ·cases h
theorem jA{t e sz:Nat}(h:vJ P t=some (e,sz)):P.underlying t=some (.slice e)/\(∃i,P.info? e=some i)/\oX P e=sz:=by
 unfold vJ at h;split at h
 ·rename_i e' hu;split at h
  ·rename_i hi;cases h;exact⟨hu,cT.1 hi,rfl⟩
  ·cases h
 ·cases h
theorem zb{o:Oper}{t:Nat}{x i:Operand}{d:D}(hs:cN Γ st κ Θ a w)(ho:o.op=.indexAddr t x i)
 (h:pv P st (.indexAddr t x i)=some d):nL P κ Θ a w o d:=by
 obtain⟨b1,r1,z1⟩:=hs.ev x;obtain⟨b2,r2,z2⟩:=hs.ev i;simp only[pv]at h;split at h
 ·rename_i e sz rows k n ht hx hi;rw[hx]at r1;rw[hi]at r2;have hn:=r2.jc;obtain⟨hu,yc,xV⟩:=jA ht;have hsz:=lT (P:=P) yc w;split at h
  ·rename_i h0;split at h
   ·rename_i row hrow;split at h
    ·rename_i hlen;cases h;have hrd:=r1.Cg;have hlt:n.toNat<rows.length:=(aB.1 hrow).1;generalize Fo:a.eval x=vx at hrd;cases hrd with
     |oB=>simp at hrow
     |iU=>simp at hrow
     |sl b off cap sz' _ cs bs hb hcap wW hrl hc hrs=>
      have SO:sz'=sz:=by rw[<-hrl row (aD hrow)];exact hlen
      subst SO;obtain⟨b',hm,hsub⟩:=hrs.mid (n.toNat*sz') sz';rw[uV hrl hrow]at hm;have hn':0<=n/\n<(rows.length:Int):=⟨h0,by omega⟩
      refine⟨.pointer (some ⟨b,off+n.toNat*sz',none⟩),b::b',?_,?_,?_⟩
      ·simp only[execOp,ho,Fo,hn];simp[Instr.indexAt,asIntOf,run_underlying hu,hn',hsz,xV,Addr.add_lit]
      ·have SL:∀j c,((cs.drop (n.toNat*sz')).take sz')[j]?=some c->w.cell? ⟨b,off+n.toNat*sz'+j,none⟩=some c:=by
        intro j c hj;rw[bU]at hj;split at hj
        ·rw[cW]at hj;rw[fJ];exact hc _ _ hj
        ·cases hj
       exact .of (.ep b (off+n.toNat*sz') _ row 0 b' hb SL hm)
      ·intro y hy;rcases aY.1 hy with rfl|hy
       ·exact z1 _ (by simp)
       ·exact z1 _ (by simp[hsub y hy])
    ·cases h
   ·cases h
  ·cases h
 ·rename_i e sz id k n ht hx hi;rw[hx]at r1;rw[hi]at r2;have hn:=r2.jc;obtain⟨hv,_⟩:=r1.mQ;obtain⟨hu,yc,xV⟩:=jA ht;have hsz:=lT (P:=P) yc w;split at h
  ·rename_i dp e' sz' rows hH;split at h
   ·rename_i hc;cases h;obtain⟨rfl,h0,hlt⟩:=hc;obtain⟨Nf,hrl,vk,cs,bs,Fm,hown,hrs,hΘ,hz⟩:=hs.ob id _ hH;rw[hv]at Fm;cases Fm;rcases hown.2 with⟨ua,oF⟩|⟨g,cap,cur,hkv,_⟩
    ·omega
    ·have hn':0<=n/\n<(rows.length:Int):=⟨h0,by omega⟩
     refine⟨_,[],?_,(oz.op id n.toNat sz 0 g 0 _ _ (hkv▸hv)).Bq,by simp⟩;simp only[execOp,ho,hn,hkv];simp[Instr.indexAt,asIntOf,run_underlying hu,hn',hsz,xV,Addr.add_lit]
   ·cases h
  ·cases h
 ·rename_i g o' kk n hx hi;rw[hx]at r1;rw[hi]at r2;have hn:=r2.jc;have hv:=r1.GA;split at h
  ·rename_i sz len hT;split at h
   ·rename_i hc;cases h;obtain⟨h0,hlt⟩:=hc;unfold OL at hT;split at hT
    ·rename_i len' e hu;split at hT
     ·rename_i yc;cases hT;have hsz:=lT (P:=P) (cT.1 yc) w;have hn':0<=n/\n<(len:Int):=⟨h0,by omega⟩
      refine⟨_,[],?_,.of (.val _),by simp⟩;simp only[execOp,ho,hn,hv];simp[Instr.indexAt,Instr.sureAddr,asIntOf,run_underlying hu,hn',hsz,oX,Addr.add_lit]
     ·cases hT
    ·cases hT
   ·cases h
  ·cases h
 ·cases h
theorem Gk{o:Oper}{t t':Nat}{x y:Operand}{d:D}(hs:cN Γ st κ Θ a w)(ho:o.op=.call {callee:=.builtin .min,args:= #[x,y],argTypes:= #[t,t']})
 (h:OA (st.ev x) (st.ev y)=some d):nL P κ Θ a w o d:=by
 obtain⟨b1,r1,z1⟩:=hs.ev x;obtain⟨b2,r2,z2⟩:=hs.ev y;unfold OA at h;split at h
 ·rename_i k m k' n hx hy;split at h
  ·rename_i hk;subst hk;cases h;rw[hx]at r1;rw[hy]at r2;have e1:=r1.jc;have e2:=r2.jc;refine⟨.int k (BI m n),[],?_,.of (.int _ _ ?_),by simp⟩
   ·simp only[execOp,ho,resolve,invoke,builtin,j7,ax,bI,e1,e2];simp[Builtin.min_,Builtin.min2,BI]
   ·unfold BI;split
    ·exact r2.AY
    ·exact r1.AY
  ·cases h
 ·cases h
theorem Gh{o:Oper}{t:Nat}{x:Operand}{d:D}(hs:cN Γ st κ Θ a w)(ho:o.op=.call {callee:=.builtin .len,args:= #[x],argTypes:= #[t]})
 (h:LH P st x t=some d):nL P κ Θ a w o d:=by
 obtain⟨b1,r1,z1⟩:=hs.ev x;unfold LH at h;split at h
 ·rename_i s hx;split at h
  ·rename_i ht;cases h;rw[hx]at r1;obtain⟨u,hv,rfl⟩:=r1.iW;have hu:P.underlying t=some .string:=by
    unfold yq at ht;split at ht
    ·assumption
    ·cases ht
   refine⟨.int .i64 (u.data.toList.length:Nat),[],?_,.of (.int _ _ (CT r1.Ji)),by simp⟩;simp only[execOp,ho,resolve,invoke,builtin,j7,ax,bI,hv];simp[Builtin.len_,run_underlying hu,goInt]
  ·cases h
 ·rename_i rows hx;split at h
  ·rename_i ht;cases h;rw[hx]at r1;obtain⟨⟨e,sz⟩,ht⟩:=cT.1 ht;obtain⟨hu,_,_⟩:=jA ht;have hrd:=r1.Cg;generalize Fo:a.eval x=vx at hrd;have hlen:∃q c,vx=.slice q rows.length c:=by
    cases hrd with
    |oB=>exact⟨_,_,rfl⟩
    |iU=>exact⟨_,_,rfl⟩
    |sl=>exact⟨_,_,rfl⟩
   have wW:rows.length<=maxLen:=by
    cases hrd with
    |oB=>simp
    |iU=>simp
    |sl b off cap sz _ cs bs hb h1 h2=>omega
   obtain⟨q,c,rfl⟩:=hlen;refine⟨.int .i64 rows.length,[],?_,.of (.int _ _ (CT wW)),by simp⟩;simp only[execOp,ho,resolve,invoke,builtin,j7,ax,bI,Fo];simp[Builtin.len_,run_underlying hu,goInt]
  ·cases h
 ·rename_i hx;split at h
  ·rename_i ht;cases h;rw[hx]at r1;obtain⟨⟨e,sz⟩,ht⟩:=cT.1 ht;obtain⟨hu,_,_⟩:=jA ht;have hv:=r1.xd;refine⟨.int .i64 0,[],?_,.of (.int _ _ (nM.zero _)),by simp⟩;simp only[execOp,ho,resolve,invoke,builtin,j7,ax,bI,hv];simp[Builtin.len_,run_underlying hu,goInt]
  ·cases h
 ·rename_i id hx;split at h
  ·rename_i p dp e' sz' rows ht hH;cases h;rw[hx]at r1;obtain⟨hv,_⟩:=r1.mQ;obtain⟨e,sz⟩:=p;obtain⟨hu,_,_⟩:=jA ht;obtain⟨Nf,hrl,vk,cs,bs,Fm,hown,hrs,hΘ,hz⟩:=hs.ob id _ hH;rw[hv]at Fm;cases Fm;have hlen:∃q c,a.eval x=.slice q rows.length c:=by
    rcases hown.2 with⟨ua,oF⟩|⟨g,cap,cur,hkv,_⟩
    ·exact⟨none,0,by rw[ua,oF]⟩
    ·exact⟨_,_,hkv⟩
   have wW:rows.length<=maxLen:=by
    rcases hown.2 with⟨ua,oF⟩|⟨g,cap,cur,hkv,_,_,h1,h2,_⟩
    ·omega
    ·omega
   obtain⟨q,c,hk⟩:=hlen;refine⟨.int .i64 rows.length,[],?_,.of (.int _ _ (CT wW)),by simp⟩;simp only[execOp,ho,resolve,invoke,builtin,j7,ax,bI,hk];simp[Builtin.len_,run_underlying hu,goInt]
  ·cases h
 ·cases h
theorem sA.at{vs:aq}{ds:aG}{bs:aH}(h:sA w κ vs ds bs){i:Nat}{d:D}(hd:ds[i]?=some d):
 ∃v b,vs[i]?=some v/\A7 w κ v d b/\∀x∈b,x∈bs:=by
 induction ds generalizing vs bs i with
 |nil=>simp at hd
 |cons e ds ih=>
  cases h with
  |cons v vs _ _ b1 b2 h2 h3=>
   cases i with
   |zero=>simp at hd;subst hd;exact⟨v,b1,by simp,h2,by intro x hx;simp[hx]⟩
   |succ i=>
    simp at hd;obtain⟨u,b,k1,k3,k4⟩:=ih h3 hd;exact⟨u,b,by simpa using k1,k3,fun x hx=>by simp[k4 x hx]⟩
theorem kF.Lc{v:Value}{ds:aG}{bs:aH}(h:kF w κ v (.fy ds) bs):∃vs:aq,v=.tuple vs.toArray/\sA w κ vs ds bs:=by
 cases h with
 |v h=>cases h with|cell h=>cases h with|pure h=>cases h
 |fy vs _ _ h=>exact⟨vs,rfl,h⟩
theorem B8{o:Oper}{i:Nat}{x:Operand}{d:D}(hs:cN Γ st κ Θ a w)(ho:o.op=.extract x i)
 (h:pv P st (.extract x i)=some d):nL P κ Θ a w o d:=by
 obtain⟨b1,r1,z1⟩:=hs.ev x;simp only[pv]at h;split at h
 ·rename_i vs hx;rw[hx]at r1;obtain⟨us,hv,hr⟩:=r1.Lc;obtain⟨v,b,k1,k2,k3⟩:=hr.at h;exact⟨v,b,by simp only[execOp,ho,hv];simp[Instr.extract,k1],.v k2,fun y hy=>z1 y (k3 y hy)⟩
 ·cases h
theorem nX{t:Nat}(ht:yq P t=true):P.underlying t=some .string:=by
 unfold yq at ht;split at ht
 ·assumption
 ·cases ht
theorem DX{o:Oper}{t:Nat}{x i:Operand}{d:D}(hs:cN Γ st κ Θ a w)(ho:o.op=.index t x i)
 (h:pv P st (.index t x i)=some d):nL P κ Θ a w o d:=by
 obtain⟨b1,r1,z1⟩:=hs.ev x;obtain⟨b2,r2,z2⟩:=hs.ev i;simp only[pv]at h;split at h
 ·rename_i s k n ht hx hi;rw[hx]at r1;rw[hi]at r2;obtain⟨u,hv,rfl⟩:=r1.iW;have hn:=r2.jc;have hu:=nX ht;split at h
  ·rename_i h0;split at h
   ·rename_i b hb;cases h;have hlt:n.toNat<u.size:=by
     have:=(aB.1 hb).1;simpa using this
    have Ea:u[n.toNat]?=some b:=by
     have hb':u.data[n.toNat]?=some b:=by simpa using hb
     rw[getElem?_pos u n.toNat hlt];rw[aX]at hb';obtain⟨_,he⟩:=hb';rw[<-he];rfl
    refine⟨.int .u8 b.toNat,[],?_,.of (.int _ _ (nM.u8.2 (by have:=b.toNat_lt;omega))),by simp⟩;simp only[execOp,ho,hv,hn];simp[Instr.index,asIntOf,run_underlying hu,h0,Ea]
   ·cases h
  ·cases h
 ·rename_i cells k n ht hx hi;rw[hx]at r1;rw[hi]at r2;obtain⟨cs,hv,hrs⟩:=r1.sC;have hn:=r2.jc;unfold OM at h;split at h
  ·rename_i len hT;split at hT
   ·rename_i len' e hu;split at hT
    ·rename_i hag;split at hT
     ·rename_i hsz;cases hT;split at h
      ·rename_i hb;obtain⟨v,b',hv2,_,hr,hsub⟩:=hrs.at h;refine⟨v,b',?_,.v (.cell hr),fun y hy=>z1 y (hsub y hy)⟩;simp only[execOp,ho,hv,hn];simp[Instr.index,asIntOf,run_underlying hu,hb,part,rY hag,lT (sP hag),hsz,hv2]
      ·cases h
     ·cases hT
    ·cases hT
   ·cases hT
  ·cases h
 ·cases h
theorem Cc{lo hi:Option Operand}{l h':Nat}{isSlice:Bool}{len cap:Nat}(hs:cN Γ st κ Θ a w)
 (hlc:len<=cap) (h:o8 len (lo.map st.ev) (hi.map st.ev)=some (l,h')):
 (Instr.sliceBounds isSlice len cap (lo.map a.eval) (hi.map a.eval) none).run P w=.ok (l,h',cap) w/\l<=h'/\h'<=len:=by
 have hv:∀ {x:Operand} {k:IntKind} {n:Int},st.ev x=.int k n->a.eval x=.int k n:=by
  intro x k n hx;obtain⟨b,r,_⟩:=hs.ev x;rw[hx]at r;exact r.jc
 unfold o8 at h;cases hi with
 |none=>
  simp only[oJ]at h⊢;cases lo with
  |none=>
   simp only[oJ,aQ,bW]at h⊢;obtain⟨rfl,rfl⟩:=h;exact⟨by simp[Instr.sliceBounds],by omega,by omega⟩
  |some lo=>
   simp only[bZ]at h⊢;cases hlo:st.ev lo<;>simp only[hlo,reduceCtorEq]at h;rename_i k n;split at h
   ·cases h
   ·rename_i l0 hm;split at hm
    ·rename_i hb;cases hm;cases h;have EF:0<=n/\n<=(h':Int):=⟨hb.1,by omega⟩
     exact⟨by simp[Instr.sliceBounds,Instr.sliceBound,hv hlo,asIntOf,EF],hb.2,by omega⟩
    ·cases hm
 |some hi=>
  simp only[bZ]at h⊢;cases hhi:st.ev hi<;>simp only[hhi,reduceCtorEq]at h;rename_i k m;split at h
  ·cases h
  ·rename_i h0 hm;split at hm
   ·rename_i hb;cases hm;have EF:0<=m/\m<=(cap:Int):=⟨hb.1,by omega⟩
    cases lo with
    |none=>
     simp only[oJ,aQ,bW]at h⊢;obtain⟨rfl,rfl⟩:=h;exact⟨by simp[Instr.sliceBounds,Instr.sliceBound,hv hhi,asIntOf,EF],by omega,hb.2⟩
    |some lo=>
     simp only[bZ]at h⊢;cases hlo:st.ev lo<;>simp only[hlo,reduceCtorEq]at h;rename_i k' n;split at h
     ·cases h
     ·rename_i l0 hm;split at hm
      ·rename_i Fe;cases hm;cases h;have UQ:0<=n/\n<=max m 0:=⟨Fe.1,by omega⟩
       exact⟨by simp[Instr.sliceBounds,Instr.sliceBound,hv hhi,hv hlo,asIntOf,EF,UQ],Fe.2,hb.2⟩
      ·cases hm
   ·cases hm
theorem JN{rows:List aG}{sz l h':Nat}(hrl:∀r∈rows,r.length=sz)(h1:l<=h')(h2:h'<=rows.length):
 ((rows.take h').drop l).flatten=(rows.flatten.drop (l*sz)).take ((h'-l)*sz):=by
 have e:rows=(rows.take l)++(((rows.take h').drop l)++rows.drop h'):=by
  have hA:rows.take h'=(rows.take h').take l++(rows.take h').drop l:=(bK _ _).symm;have hB:(rows.take h').take l=rows.take l:=by rw[lH,cv h1]
  rw[hB]at hA;rw[<-cF,<-hA,bK]
 have l1:(rows.take l).flatten.length=l*sz:=by
  rw[iL (fun r hr=>hrl r (bQ hr)),bD,cv (by omega)]
 have l2:((rows.take h').drop l).flatten.length=(h'-l)*sz:=by
  rw[iL (fun r hr=>hrl r (bQ (fc hr))),fZ,bD,cv (by omega)]
 have hf:rows.flatten=(rows.take l).flatten++(((rows.take h').drop l).flatten++(rows.drop h').flatten):=by
  rw[<-fB,<-fB,<-e]
 rw[hf,dM l1,eY l2]
theorem E7{o:Oper}{t:Nat}{x:Operand}{lo hi:Option Operand}{d:D}(hs:cN Γ st κ Θ a w)(ho:o.op=.slice t x lo hi none)
 (h:pv P st (.slice t x lo hi none)=some d):nL P κ Θ a w o d:=by
 obtain⟨b1,r1,z1⟩:=hs.ev x;simp only[pv]at h;split at h
 ·rename_i s hx;rw[hx]at r1;obtain⟨u,hv,rfl⟩:=r1.iW;split at h
  ·rename_i ht;have hu:=nX ht;split at h
   ·rename_i l h' hc;cases h;obtain⟨hr,hl,hh⟩:=Cc (P:=P) (isSlice:=false) (cap:=u.data.toList.length) hs (b8 _) hc;have hsz:u.data.toList.length=u.size:=by simp
    rw[hsz]at hr;refine⟨.string (u.extract l h'),[],?_,?_,by simp⟩
    ·simp only[execOp,ho,hv];simp[Instr.sliceAt,Instr.slice,run_underlying hu,hr]
    ·have:=Rd.str (w:=w) (u.extract l h') (by
      have h1:=r1.Ji;simp at h1⊢;omega)
     have e:(u.extract l h').data.toList=(u.data.toList.take h').drop l:=by
      simp[ByteArray.data_extract,List.drop_take]
     rw[e]at this;exact .of this
   ·cases h
  ·cases h
 ·rename_i rows hx;rw[hx]at r1;have hrd:=r1.Cg;split at h
  ·rename_i e sz l h' ht hc;split at h
   ·rename_i hall;cases h;obtain⟨hu,yc,xV⟩:=jA ht;have hsz:=lT (P:=P) yc w;have hrl:∀r∈rows,r.length=sz:=by
     intro r hr;have:=aO.1 hall r hr;simpa using this
    generalize Fo:a.eval x=vx at hrd;have main:∀(q:Option Addr) (cap:Nat),vx=.slice q rows.length cap->rows.length<=cap->
     (execOp a.eval o).run P w=.ok (.value (.slice (if cap=l then q else q.map (·.add (l*sz))) (h'-l) (cap-l))) w/\l<=h'/\h'<=rows.length:=by
     intro q cap hq hcap;obtain⟨hr,hl,hh⟩:=Cc (P:=P) (isSlice:=true) (cap:=cap) hs hcap hc;refine⟨?_,hl,hh⟩;simp only[execOp,ho,Fo,hq];simp[Instr.sliceAt,Instr.slice,run_underlying hu,hr,hsz,xV]
    cases hrd with
    |oB=>
     obtain⟨hr,hl,hh⟩:=main none 0 rfl (by simp);simp only[bC]at hh;have e1:h'=0:=by omega
     have e2:l=0:=by omega
     subst e1;subst e2;exact⟨_,[],hr,by simpa using kF.of (κ:=κ) (Rd.oB (w:=w)),by simp⟩
    |iU ad cap hm=>
     obtain⟨hr,hl,hh⟩:=main (some ad) cap rfl (by simp);simp only[bC]at hh;have e1:h'=0:=by omega
     have e2:l=0:=by omega
     subst e1;subst e2;refine⟨_,[],hr,?_,by simp⟩;have:(if cap=0 then some ad else(some ad).map (·.add (0*sz)))=some ad:=by simp[Addr.add]
     rw[this];exact .of (by simpa using Rd.iU (w:=w) ad cap hm)
    |sl b off cap sz' _ cs bs hb hcap wW zZ UW hrs=>
     obtain⟨hr,hl,hh⟩:=main (some ⟨b,off,none⟩) cap rfl hcap;by_cases he:h'=l
     ·subst he;refine⟨_,[],hr,?_,by simp⟩;have e1:(rows.take h').drop h'=[]:=by simp
      rw[e1,lW];split
      ·exact .of (.iU _ _ (by omega))
      ·simp only[bZ];exact .of (.iU _ _ (by omega))
     ·have hne:cap≠l:=by omega
      rw[ar hne,bZ,Addr.add_lit]at hr;obtain⟨b',hm,hsub⟩:=hrs.mid (l*sz) ((h'-l)*sz);rw[<-JN hrl hl hh]at hm;refine⟨_,b::b',hr,?_,?_⟩
      ·have hlen:((rows.take h').drop l).length=h'-l:=by simp;omega
       rw[<-hlen];refine .of (.sl b (off+l*sz) (cap-l) sz _ _ b' hb (by omega) (by omega) (fun r hr=>hrl r (bQ (fc hr))) ?_ hm);intro j c hj;rw[bU]at hj;split at hj
       ·rw[cW]at hj;rw[fJ];exact UW _ _ hj
       ·cases hj
      ·intro y hy;rcases aY.1 hy with rfl|hy
       ·exact z1 _ (by simp)
       ·exact z1 _ (by simp[hsub y hy])
   ·cases h
  ·cases h
 ·cases h
theorem Bh{v:Value}(h:v.oneCell'=true):v.cells.toList=[v]:=by
 cases v<;>first|rfl|cases h
theorem oz.one{v:Value}{d:D}{bs:aH}(h:oz w κ v d bs)(hk:∀(id:Nat) u,κ id=some u->u.oneCell'=true)(hna:∀es,d≠ .agg es)(hc:d.cellsOf=some [d]):v.oneCell'=true:=by
 cases h with
 |pure h=>
  cases h<;>first
   |rfl
   | (exfalso;exact hna _ rfl)
   | (simp[D.cellsOf]at hc;done)
   | (simp only[D.cellsOf]at hc;split at hc<;>first|assumption|cases hc)
 |acc i v h=>exact hk i v h
 |ptr=>rfl
 |op=>rfl
theorem rM{v:Value}{d:D}{bs:aH}{ds:aG}(hk:∀(id:Nat) u,κ id=some u->u.oneCell'=true)(h:kF w κ v d bs)(hc:d.cellsOf=some ds):dA w κ v.cells.toList ds bs:=by
 have single:∀ {v d bs},oz w κ v d bs->(∀es,d≠ .agg es)->d.cellsOf=some [d]->dA w κ v.cells.toList [d] bs:=by
  intro v d bs h hna hc;have h1:=h.one hk hna hc;rw[Bh h1];have:=dA.cons v [] d [] bs [] h1 h .nil;simpa using this
 cases h with
 |fy=>simp[D.cellsOf]at hc
 |v h=>
  cases h with
  |agg cs _ _ h=>simp only[D.cellsOf,aQ]at hc;subst hc;simpa[Value.cells]using h
  |cell h=>
   by_cases lE:∃es,d=.agg es
   ·obtain⟨es,rfl⟩:=lE;simp only[D.cellsOf,aQ]at hc;subst hc;cases h with
    |pure h=>cases h with|agg cs _ _ h=>simpa[Value.cells]using dA.sx (κ:=κ) h
   ·have e:ds=[d]:=by
     cases d<;>simp only[D.cellsOf,aQ,reduceCtorEq]at hc<;>first
      |exact hc.symm
      | (exfalso;exact lE ⟨_,rfl⟩)
      | (split at hc<;>first| (simp at hc;exact hc.symm)|cases hc)
    subst e;exact single h (fun es he=>lE ⟨es,he⟩) hc
theorem nZ{T:TypeId}{zs:aG}(hz:tz P T=some zs):∃i z,P.info? T=some i/\i.zero=some z/\z.cells.size=i.size/\zs.length=i.size/\(∀c∈z.cells.toList,c.oneCell'=true)/\zs=z.cells.toList.map D.Dw:=by
 unfold tz at hz;split at hz
 ·rename_i i hi;split at hz
  ·rename_i z zl;split at hz
   ·rename_i hc;cases hz;simp only[aM,aO,bX]at hc;exact⟨i,z,hi,zl,hc.2,by simp[hc.2],hc.1,rfl⟩
   ·cases hz
  ·cases hz
 ·cases hz
theorem rU(cs:aq)(h:∀c∈cs,c.oneCell'=true):dA w κ cs (cs.map D.Dw) []:=by
 induction cs with
 |nil=>exact .nil
 |cons c cs ih=>
  have hrd:Rd w c (D.Dw c) []:=by
   unfold D.Dw;split
   ·exact .bool _
   ·split
    ·rename_i h;exact .int _ _ h
    ·exact .val _
   ·split
    ·rename_i h;exact .str _ h
    ·exact .val _
   ·exact .nil
   ·exact .val _
  have:=dA.cons (κ:=κ) c cs _ _ [] [] (h c (by simp)) (.pure hrd) (ih (fun x hx=>h x (by simp[hx])));simpa using this
theorem foldl_set(off:Nat):∀(vs:aq) (k:Nat) (cells:Array Value),off+k+vs.length<=cells.size->
 ((vs.zipIdx k).foldl (fun cs (x:Value×Nat)=>cs.setIfInBounds (off+x.2) x.1) cells).toList=cells.toList.take (off+k)++vs++cells.toList.drop (off+k+vs.length):=by
 intro vs
 induction vs with
 |nil=>intro k cells _;simp
 |cons v vs ih=>
  intro k cells h;simp only[aR]at h;rw[List.zipIdx_cons,sZ,ih (k+1) _ (by simp;omega)];simp only[Array.toList_setIfInBounds,aR];have hlt:off+k<cells.toList.length:=by simp;omega
  rw[show off+(k+1)=off+k+1 from by omega,List.take_set,List.drop_set,bG (by omega)];rw[show off+k+1+vs.length=off+k+(vs.length+1)from by omega]
  congr 1
  rw[show v::vs=[v]++vs from rfl,<-cF]
  congr 1
  rw[List.take_succ_eq_append_getElem hlt,nK _ _ (by simp;omega)];have:(List.take (off+k) cells.toList).length=off+k:=by rw[bD];omega
  rw[this,lW];rfl
theorem FY(hs:cN Γ st κ Θ a w){places:List (Nat×Nat)}:∀(parts:List (Nat×Operand)) (cs:Array Value) (cells ds:aG) (bs:aH),
 dA w κ cs.toList cells bs->(∀b∈bs,Θ b=0)->o9 places cells (parts.map fun p=>(p.1,st.ev p.2))=some ds->
 ∃arr bs',Instr.fill (places.toArray[·]?) cs (parts.map fun p=>(p.1,a.eval p.2))=some arr/\dA w κ arr.toList ds bs'/\∀b∈bs',Θ b=0:=by
 intro parts
 induction parts with
 |nil=>
  intro cs cells ds bs hr hz hf;simp only[bI,o9,aQ]at hf;subst hf;exact⟨cs,bs,rfl,hr,hz⟩
 |cons p parts ih=>
  intro cs cells ds bs hr hz hf
  ·obtain⟨i,x⟩:=p;obtain⟨b,hv,hb⟩:=hs.ev x;generalize V1:a.eval x=v at hv;simp only[ax,o9]at hf;split at hf
   ·rename_i off sz es hpl Ua;split at hf
    ·rename_i hc;have hcs:=rM hs.j9 hv Ua;have hl1:=hcs.length;have sO:=hr.length;have e:cells=cells.take off++((cells.drop off).take sz++(cells.drop off).drop sz):=by rw[bK,bK]
     rw[e]at hr;obtain⟨v1,v2,c1,c2,za,rfl,k1,k2⟩:=hr.split;obtain⟨v3,v4,c3,c4,rfl,rfl,k3,k4⟩:=k2.split;have l1:v1.length=off:=by rw[k1.length];simp;omega
     have l3:v3.length=sz:=by rw[k3.length];simp;omega
     have hvs:v.cells.size=sz:=by rw[<-hc.1,<-hl1];simp
     have hcl:cs.size=cells.length:=by rw[<-sO];simp
     have ID:=foldl_set off v.cells.toList 0 cs (by simp;omega);simp only[ou,jo,hvs]at ID;have e1:cs.toList.take off=v1:=by rw[za];exact eY l1
     have e4:cs.toList.drop (off+sz)=v4:=by rw[za,<-dP,dM l1];exact dM l3
     rw[e1,e4]at ID;rw[dP]at k4;have hnew:=(k1.app hcs).app k4;obtain⟨arr,bs',h1,h2,h3⟩:=ih (v.cells.zipIdx.foldl (fun cs (x:Value×Nat)=>cs.setIfInBounds (off+x.2) x.1) cs) _ ds ((c1++b)++c4)
      (by rw[<-Array.foldl_toList,Array.toList_zipIdx,ID];exact hnew)
      (by
       intro x hx;simp only[aF]at hx;rcases hx with(hx|hx)|hx
       ·exact hz x (by simp[hx])
       ·exact hb x hx
       ·exact hz x (by simp[hx])) hf
     refine⟨arr,bs',?_,h2,h3⟩;simp only[ax,Instr.fill,eH,hpl,V1];rw[ar (by simp;omega)];simpa using h1
    ·cases hf
   ·cases hf
theorem DC{o:Oper}{t:TypeId}{parts:Array (Nat×Operand)}{d:D}(hs:cN Γ st κ Θ a w)(ho:o.op=.build t parts)
 (h:pv P st (.build t parts)=some d):nL P κ Θ a w o d:=by
 simp only[pv]at h;split at h
 ·rename_i zs ps hz hp;cases hf:o9 ps zs (parts.toList.map fun p=>(p.1,st.ev p.2))with
  |none=>simp[hf]at h
  |some ds=>
   simp only[hf,bZ,aQ]at h;subst h;obtain⟨i,z,hi,oF,hsz,hlen,hone,rfl⟩:=nZ hz;obtain⟨arr,bs',h1,h2,h3⟩:=FY hs parts.toList z.cells _ ds [] (rU z.cells.toList hone) (by simp) hf;have hb:P.built t (parts.map fun(i,x)=>(i,a.eval x)).toList=some arr:=by
    unfold G6 at hp;split at hp
    ·rename_i fs hu;unfold Program.built;simp only[hi,hu,oF,hp];rw[eB];exact h1
    ·cases hp
   refine⟨.agg arr,bs',?_,?_,h3⟩
   ·simp only[execOp,ho];simp[run_build w t _ arr hb]
   ·have:=A7.agg (w:=w) (κ:=κ) arr.toList ds bs' h2;exact .v (by simpa using this)
 ·cases h
theorem run_equalIn_bool{t:TypeId}{a b:Bool}(h:P.underlying t=some .bool)(d:Nat):(Op.equalIn (d+1) t (.bool a) (.bool b)).run P w=.ok (a==b) w:=by
 simp[Op.equalIn,run_underlying h]
theorem sy{t:TypeId}{a b:ByteArray}(h:P.underlying t=some .string)(d:Nat):(Op.equalIn (d+1) t (.string a) (.string b)).run P w=.ok (a==b) w:=by
 simp[Op.equalIn,run_underlying h]
theorem xo{t:TypeId}(h:yq P t=true){xs:Array Value}{off:Nat}{v:Value}(hx:xs[off]?=some v):(part t xs off).run P w=.ok v w:=by
 simp[part,isAgg,run_underlying (nX h),hx]
theorem yp{t:TypeId}{a b c e:ByteArray}(h:G5 P t=true)(d:Nat):(Op.equalIn (d+2) t (.agg #[.string a,.string b]) (.agg #[.string c,.string e])).run P w=.ok (a==c&&b==e) w:=by
 unfold G5 at h;split at h
 ·rename_i fs hu;split at h
  ·rename_i f g hfs;simp only[aM,bne_iff_ne,ne_eq,bX,kz]at h;obtain⟨⟨⟨⟨⟨⟨⟨h1,h2⟩,h3⟩,h4⟩,h5⟩,h6⟩,h7⟩,h8⟩:=h;have Rr:fs= #[f,g]:=by apply j6.mp;simpa using hfs
   subst Rr;have p1:=fun(xs:Array Value) (v:Value) (hx:xs[0]?=some v)=>xo (w:=w) h5 hx
   have p2:=fun(xs:Array Value) (v:Value) (hx:xs[1]?=some v)=>xo (w:=w) h6 hx
   have q1:=sy (P:=P) (w:=w) (a:=a) (b:=c) (nX h5) d;have q2:=sy (P:=P) (w:=w) (a:=b) (b:=e) (nX h6) d;rw[Op.equalIn];generalize(a==c)=r1 at q1⊢;generalize(b==e)=r2 at q2⊢;cases r1<;>cases r2<;>simp[run_underlying hu,h7,h1,h2,h3,h4,p1,p2,q1,q2]
  ·cases h
 ·cases h
theorem dA.G8{κ:Nat->Option Value}{cs:aq}{p q:Bytes}{bs:aH}(h:dA w κ cs [.str p,.str q] bs):∃u v:ByteArray,cs=[.string u,.string v]/\u.data.toList=p/\v.data.toList=q:=by
 cases h with
 |cons v1 vs _ _ b1 b2 _ h1 h2=>
  cases h2 with
  |cons v2 vs' _ _ b3 b4 _ h3 h4=>
   cases h4;obtain⟨u,rfl,hu⟩:=(kF.v (.cell h1):kF w κ _ _ _).iW;obtain⟨v,rfl,hv⟩:=(kF.v (.cell h3):kF w κ _ _ _).iW;exact⟨u,v,rfl,hu,hv⟩
theorem Hr(u v:ByteArray):(u==v)=(u.data==v.data):=by cases u;cases v;rfl
theorem Gq{o:Oper}{op:BinOp}{t t':TypeId}{x y:Operand}{d:D}(hs:cN Γ st κ Θ a w)(ho:o.op=.binOp op t x y t')
 (h:peq P op t (st.ev x) (st.ev y)=some d):nL P κ Θ a w o d:=by
 obtain⟨b1,r1,_⟩:=hs.ev x;obtain⟨b2,r2,_⟩:=hs.ev y;generalize st.ev x=dx at*;generalize st.ev y=dy at*;unfold peq at h;split at h
 ·rename_i p q;split at h
  ·rename_i hb;have hu:P.underlying t=some .bool:=by
    unfold Mm at hb;split at hb
    ·assumption
    ·cases hb
   have e1:=r1.nC;have e2:=r2.nC;have hq:=run_equalIn_bool (P:=P) (w:=w) (a:=p) (b:=q) hu 9999;have q':(Op.equal t (.bool p) (.bool q)).run P w=.ok (p==q) w:=hq;cases op<;>simp only[aQ,reduceCtorEq]at h
   all_goals subst h
   all_goals exact⟨_,[],by(simp[execOp,ho,e1,e2,binOp,eqGuard,q'])<;>(cases p<;>cases q<;>rfl),.of (.bool _),by simp⟩
  ·cases h
 ·rename_i p1 p2 q1 q2;split at h
  ·rename_i hb;obtain⟨Vk,e1,k1⟩:=r1.sC;obtain⟨Qx,e2,k2⟩:=r2.sC;obtain⟨u1,u2,rfl,rfl,rfl⟩:=dA.G8 k1;obtain⟨v1,v2,rfl,rfl,rfl⟩:=dA.G8 k2;have hg:P.eqGuardType P.depth t=false:=by
    unfold G5 at hb;split at hb
    ·split at hb
     ·simp only[aM,kz]at hb;exact hb.2
     ·cases hb
    ·cases hb
   have q:=yp (P:=P) (w:=w) (a:=u1) (b:=u2) (c:=v1) (e:=v2) hb 9998;have q':(Op.equal t (.agg #[.string u1,.string u2]) (.agg #[.string v1,.string v2])).run P w=.ok (u1==v1&&u2==v2) w:=q;cases op<;>simp only[aQ,reduceCtorEq]at h
   all_goals subst h
   all_goals exact⟨_,[],by(simp[execOp,ho,e1,e2,binOp,eqGuard,hg,q'])<;>(rw[Hr,Hr]),.of (.bool _),by simp⟩
  ·cases h
 ·cases h
theorem kF.Kq{v:Value}{b:Bool}{bs:aH}(h:kF w κ v (.MA b) bs):(b=false/\v=.nilIface)\/(b=true/\∃t u,v=.iface t u):=by
 cases h with|v h=>cases h with|cell h=>cases h with|pure h=>cases h with
  |Gb=>exact .inl ⟨rfl,rfl⟩
  |Gc t u=>exact .inr ⟨rfl,t,u,rfl⟩
theorem xm{t:TypeId}{ms:Array (String×TypeId)}(hu:P.underlying t=some (.interface ms)):(Op.equal t .nilIface .nilIface).run P w=.ok true w:=by
 unfold Op.equal Op.maxDepth;rw[Op.equalIn];simp[run_underlying hu]
theorem wA{t:TypeId}{ms:Array (String×TypeId)}{t1:TypeId}{v1:Value}(hu:P.underlying t=some (.interface ms)):(Op.equal t (.iface t1 v1) .nilIface).run P w=.ok false w:=by
 unfold Op.equal Op.maxDepth;rw[Op.equalIn];simp[run_underlying hu]
theorem Ew{o:Oper}{op:BinOp}{t t':TypeId}{x y:Operand}{d:D}(hs:cN Γ st κ Θ a w)(ho:o.op=.binOp op t x y t')
 (h:O9 op (st.ev x) (st.ev y)=some d):nL P κ Θ a w o d:=by
 obtain⟨b1,r1,_⟩:=hs.ev x;obtain⟨b2,r2,_⟩:=hs.ev y;generalize st.ev x=dx at*;generalize st.ev y=dy at*;unfold O9 at h;split at h
 ·rename_i k p k' q;have e1:=r1.jc;have e2:=r2.jc;cases op<;>simp only[reduceCtorEq]at h
  case shr=>
   split at h
   ·rename_i hq;cases h;exact⟨_,[],by simp[execOp,ho,e1,e2,binOp,eqGuard,Op.shift,show¬q<0 by omega,E6],.of (.int _ _ (r1.AY.shr q)),by simp⟩
   ·cases h
  all_goals
   split at h
   ·rename_i hk;subst hk;cases h;exact⟨_,[],by simp[execOp,ho,e1,e2,binOp,eqGuard,Op.intBits,vv,P5,FT],.of (.int _ _ (nM.wrap _ _)),by simp⟩
   ·cases h
 ·cases h
theorem Ex{o:Oper}{op:BinOp}{t t':TypeId}{x y:Operand}{d:D}(hs:cN Γ st κ Θ a w)(ho:o.op=.binOp op t x y t')
 (h:OB P op t (st.ev x) y=some d):nL P κ Θ a w o d:=by
 obtain⟨b1,r1,_⟩:=hs.ev x;generalize st.ev x=dx at*;unfold OB at h;split at h
 ·rename_i b;have hy:a.eval (.const .nilIface)=.nilIface:=rfl;have hT:∀ {op'},ON P t=true->op=op'->∃ms,P.underlying t=some (.interface ms):=by
   intro _ ht _;unfold ON at ht;split at ht
   ·rename_i ms hu;exact⟨ms,hu⟩
   ·cases ht
  rcases r1.Kq with⟨rfl,hx⟩|⟨rfl,t1,v1,hx⟩
  ·split at h
   ·rename_i ht;cases h;obtain⟨ms,hu⟩:=hT ht rfl;exact⟨.bool true,[],by simp[execOp,ho,hx,hy,binOp,eqGuard_nil_constR,xm hu],.of (.bool _),by simp⟩
   ·rename_i ht;cases h;obtain⟨ms,hu⟩:=hT ht rfl;exact⟨.bool false,[],by simp[execOp,ho,hx,hy,binOp,eqGuard_nil_constR,xm hu],.of (.bool _),by simp⟩
   ·cases h
  ·split at h
   ·rename_i ht;cases h;obtain⟨ms,hu⟩:=hT ht rfl;exact⟨.bool false,[],by simp[execOp,ho,hx,hy,binOp,eqGuard,wA hu],.of (.bool _),by simp⟩
   ·rename_i ht;cases h;obtain⟨ms,hu⟩:=hT ht rfl;exact⟨.bool true,[],by simp[execOp,ho,hx,hy,binOp,eqGuard,wA hu],.of (.bool _),by simp⟩
   ·cases h
 ·cases h
theorem oa.cons{w:World}{e:MapEntry}{es:List MapEntry}{p:D×D}{kv:List (D×D)}(h:oa w (e::es) (p::kv)):Rd w e.key p.1 []/\Rd w e.val p.2 []/\oa w es kv:=
 ⟨(h.2 0 e p rfl rfl).1,(h.2 0 e p rfl rfl).2,by simpa using h.1,fun j e' p' h1 h2=>h.2 (j+1) e' p' (by simpa using h1) (by simpa using h2)⟩
theorem Lo{x y:ByteArray}:(x==y)=(x.data.toList==y.data.toList):=by
 rw[bO,MapKept.bytes_beq,bX];constructor
 ·intro h;rw[h]
 ·intro h;obtain⟨a⟩:=x;obtain⟨b⟩:=y;simp only at h;rw[j6]at h;rw[h]
theorem zm{w:World}{kd:TypeDesc}{k k':D}{u u':Value}{b:Bool}(BD:ye kd k=true)(hu:Rd w u k [])(n8:Rd w u' k' [])(h:R5 k k'=some b):Instr.sameNow kd u u'=some b/\(b=true->u'=u):=by
 unfold R5 at h;split at h
 ·rename_i s s';cases h;cases hu with
  |str x hx=>
   cases n8 with
   |str y hy=>
    cases kd<;>simp[ye]at BD;refine⟨by simp only[Instr.sameNow];rw[Lo],fun e=>?_⟩;rw[<-Lo,MapKept.bytes_beq]at e;rw[e]
 ·rename_i k1 a k2 b';split at h
  ·rename_i e;subst e;cases h;cases hu with
   |int _ _ hx=>
    cases n8 with
    |int _ _ hy=>
     cases kd<;>simp[ye]at BD;refine⟨by simp[Instr.sameNow],fun e=>?_⟩;have:a=b':=by simpa using e
     rw[this]
  ·cases h
 ·cases h
theorem Kv{w:World}{kd:TypeDesc}{k:D}{u:Value}(BD:ye kd k=true)(hu:Rd w u k []):∀ {es:List MapEntry} {kv:List (D×D)} {r:Option D} (i:Nat),oa w es kv->Aa k kv=some r->
 (r=none/\Instr.findNow kd u es i=some none)\/∃d v j,r=some d/\Instr.findNow kd u es i=some (some (j,v))/\Rd w v d []:=by
 intro es
 induction es with
 |nil=>
  intro kv r i hr h;cases kv with
  |nil=>cases h;exact .inl ⟨rfl,rfl⟩
  |cons p kv=>exact absurd hr.1 (by simp)
 |cons e es ih=>
  intro kv r i hr h;cases kv with
  |nil=>exact absurd hr.1 (by simp)
  |cons p kv=>
   obtain⟨r1,r2,r3⟩:=hr.cons;simp only[Aa]at h;split at h
   ·rename_i hq;cases h;exact .inr ⟨p.2,e.val,i,rfl,by simp[Instr.findNow,(zm BD hu r1 hq).1],r2⟩
   ·rename_i hq;have:=ih (i+1) r3 h;simpa[Instr.findNow,(zm BD hu r1 hq).1]using this
   ·cases h
theorem DY{w:World}{kd:TypeDesc}{k:D}{u:Value}(BD:ye kd k=true)(hu:Rd w u k []):MapKept.IsKey kd u:=by
 cases kd<;>cases k<;>simp[ye]at BD
 all_goals cases hu
 ·simp[MapKept.IsKey,BD]
 ·simp[MapKept.IsKey]
theorem BZ{w:World}{κ:Nat->Option Value}{kd:TypeDesc}{k:D}{u:Value}{bs:aH}(BD:ye kd k=true)(hu:kF w κ u k bs):Rd w u k []:=by
 cases kd<;>cases k<;>simp[ye]at BD
 all_goals cases hu with|v h=>cases h with|cell h=>cases h with|pure h=>cases h<;>(constructor;assumption)
theorem Cl{t:TypeId}{i:TypeInfo}(h:P.info? t=some i){w:World}:(typeInfo t).run P w=.ok i w:=by
 simp[typeInfo,h]
theorem Aq{T:TypeId}{kd:TypeDesc}{dz:D}(h:Jm P T=some (kd,dz)):∃kt et z,P.underlying T=some (.map kt et)/\P.underlying kt=some kd/\dz=D.Dw z/\∀w:World,(zeroValue et).run P w=.ok z w:=by
 unfold Jm at h;split at h
 ·rename_i kt et h1;split at h
  ·rename_i d i h2 h3;split at h
   ·rename_i z h4;split at h
    ·cases h;exact⟨kt,et,z,h1,h2,rfl,fun w=>by simp[zeroValue,Cl h3,h4]⟩
    ·cases h
   ·cases h
  ·cases h
 ·cases h
theorem CP{o:Oper}{T:Nat}{x i:Operand}{ok:Bool}{d:D}(hs:cN Γ st κ Θ a w)(ho:o.op=.lookup T x i ok)
 (h:pv P st (.lookup T x i ok)=some d):nL P κ Θ a w o d:=by
 simp only[pv]at h;split at h
 ·rename_i id hx;split at h
  ·rename_i kv hH;obtain⟨g,es,c,q1,q2,q3,q4⟩:=hs.ob id _ hH;obtain⟨bs,r,_⟩:=hs.ev x;rw[hx]at r;obtain⟨hk,_⟩:=r.mQ;rw[q1]at hk;have Nl:a.eval x=.map (some g):=(mP hk).symm;obtain⟨bi,ri,_⟩:=hs.ev i;unfold Sq at h;split at h
   ·rename_i kd dz hT;obtain⟨kt,et,z,t1,t2,t3,t4⟩:=Aq hT;have fin:∀(r:Option D),ye kd (st.ev i)=true->Aa (st.ev i) kv=some r->d=(match r with|some d=>(bif ok then .fy [d,.bool true]else d)|none=>(bif ok then .fy [dz,.bool false]else dz))->nL P κ Θ a w o d:=by
     intro r BD hf hd;have hu:=BZ BD ri;have NQ:=MapKept.run_checkKey (P:=P) (w:=w) t2 (DY BD hu) es.isEmpty 9999;rcases Kv BD hu 0 q4 hf with⟨rfl,hn⟩|⟨d',v,j,rfl,hn,hv⟩
     ·have IC:=MapKept.run_findKey (P:=P) (w:=w) t2 hn;subst hd;cases ok with
      |false=>exact⟨z,[],by simp[execOp,ho,Nl,Instr.lookup,run_underlying t1,MapKept.run_getObj_map q2,NQ,IC,t4],by rw[t3];exact Eu z,by simp⟩
      |true=>
       refine⟨.tuple #[z,.bool false],[],by simp[execOp,ho,Nl,Instr.lookup,run_underlying t1,MapKept.run_getObj_map q2,NQ,IC,t4],?_,by simp⟩;have hz:A7 w κ z dz []:=by
        have:=Eu (w:=w) (κ:=κ) z;rw[<-t3]at this;cases this with
        |v h=>exact h
        |fy vs ds bs h=>exact absurd t3 (by simp[D.Dw])
       exact .fy [z,.bool false] [dz,.bool false] [] (.cons _ _ _ _ [] [] hz (.cons _ _ _ _ [] [] (.cell (.pure (.bool _))) .nil))
     ·have IC:=MapKept.run_findKey (P:=P) (w:=w) t2 hn;subst hd;cases ok with
      |false=>exact⟨v,[],by simp[execOp,ho,Nl,Instr.lookup,run_underlying t1,MapKept.run_getObj_map q2,NQ,IC],.of hv,by simp⟩
      |true=>
       refine⟨.tuple #[v,.bool true],[],by simp[execOp,ho,Nl,Instr.lookup,run_underlying t1,MapKept.run_getObj_map q2,NQ,IC],?_,by simp⟩;exact .fy [v,.bool true] [d',.bool true] [] (.cons _ _ _ _ [] [] (.cell (.pure hv)) (.cons _ _ _ _ [] [] (.cell (.pure (.bool _))) .nil))
    split at h
    ·rename_i d' h1 h2;cases h;exact fin _ h1 h2 rfl
    ·rename_i h1 h2;cases h;exact fin _ h1 h2 rfl
    ·cases h
   ·cases h
  ·cases h
 ·cases h
theorem Rd.NF{w:World}{v:Value}{row:aG}{o:Nat}{bs:aH}(h:Rd w v (.ep row o) bs):∃q,v=.pointer (some q):=by
 cases h;exact⟨_,rfl⟩
theorem uy{o:Oper}{d:D}(hs:cN Γ st κ Θ a w)(h:pv P st o.op=some d):nL P κ Θ a w o d:=by
 cases ho:o.op
 all_goals rw[ho]at h
 case load t x=>exact Af hs ho h
 case lookup t x i ok=>exact CP hs ho h
 case build t parts=>exact DC hs ho h
 case fieldAddr t x f=>exact zV hs ho h
 case field t x f=>exact DI hs ho h
 case indexAddr t x i=>exact zb hs ho h
 case extract x i=>exact B8 hs ho h
 case index t x i=>exact DX hs ho h
 case binOp op t x y t'=>
  simp only[pv]at h;split at h
  ·rename_i e;cases h;exact Ev hs ho e
  ·split at h
   ·rename_i e;cases h;exact Gq hs ho e
   ·split at h
    ·rename_i e;cases h;exact Ex hs ho e
    ·exact Ew hs ho h
 case nilCheck x=>
  simp only[pv]at h;obtain⟨b,r,z⟩:=hs.ev x;have NY:∀q,a.eval x=.pointer (some q)->nL P κ Θ a w o (st.ev x):=fun q hq=>⟨_,b,by simp[execOp,ho,hq],hq▸r,z⟩
  split at h<;>rename_i hx<;>cases h<;>rw[hx]at r NY
  ·obtain⟨g,_,hv⟩:=r.pF;exact NY _ hv
  ·obtain⟨_,_,_,_,_,hv⟩:=r.uw;exact NY _ hv
  ·obtain⟨_,hv⟩:=Rd.NF r.ES;exact NY _ hv
 case slice t x lo hi mx=>
  cases mx with
  |none=>exact E7 hs ho h
  |some m=>simp[pv]at h
 case move x=>
  simp only[pv,aQ]at h;subst h;obtain⟨b,r,z⟩:=hs.ev x;exact⟨_,b,by simp[execOp,ho],r,z⟩
 case assign x=>
  simp only[pv,aQ]at h;subst h;obtain⟨b,r,z⟩:=hs.ev x;exact⟨_,b,by simp[execOp,ho],r,z⟩
 case pick c x y=>
  simp only[pv]at h;split at h
  ·rename_i t hc;cases h;obtain⟨b,r,z⟩:=hs.ev c;rw[hc]at r;have hv:=r.nC;cases t
   ·obtain⟨b,r,z⟩:=hs.ev y;exact⟨_,b,by simp[execOp,ho,hv,asBool],r,z⟩
   ·obtain⟨b,r,z⟩:=hs.ev x;exact⟨_,b,by simp[execOp,ho,hv,asBool],r,z⟩
  ·cases h
 case unOp op t x=>
  obtain⟨b,r,z⟩:=hs.ev x;cases op<;>simp only[pv,reduceCtorEq]at h
  case neg=>
   split at h
   ·rename_i k n hx;cases h;rw[hx]at r;have hv:=r.jc;exact⟨_,[],by simp[execOp,ho,hv,Op.unary,Op.intArith],.of (.int _ _ (nM.wrap _ _)),by simp⟩
   ·cases h
  case not=>
   split at h
   ·rename_i bb hx;cases h;rw[hx]at r;have hv:=r.nC;exact⟨_,[],by simp[execOp,ho,hv,Op.unary],.of (.bool _),by simp⟩
   ·cases h
 case convert s d' x=>
  obtain⟨b,r,z⟩:=hs.ev x;simp only[pv]at h;split at h
  ·rename_i k0 n k1 k hx h1 h2;cases h;rw[hx]at r;have hv:=r.jc;have u1:P.underlying s=some (.int k1):=by
    unfold FA at h1;split at h1
    ·cases h1;assumption
    ·cases h1
   have u2:P.underlying d'=some (.int k):=by
    unfold FA at h2;split at h2
    ·cases h2;assumption
    ·cases h2
   exact⟨_,[],by simp[execOp,ho,hv,convert,run_underlying u1,run_underlying u2,Conv.intToInt],.of (.int _ _ (nM.wrap _ _)),by simp⟩
  ·cases h
 case call c=>
  simp only[pv]at h;split at h
  ·rename_i x t h1 h2 h3;refine Gh hs (x:=x) (t:=t) ?_ h;rw[ho];obtain⟨callee,args,argTypes⟩:=c;simp only at h1 h2 h3;subst h1;have e1:args= #[x]:=by cases args;simp_all
   have e2:argTypes= #[t]:=by cases argTypes;simp_all
   subst e1;subst e2;rfl
  ·rename_i x y t t' h1 h2 h3;refine Gk hs (x:=x) (y:=y) (t:=t) (t':=t') ?_ h;rw[ho];obtain⟨callee,args,argTypes⟩:=c;simp only at h1 h2 h3;subst h1;have e1:args= #[x,y]:=by cases args;simp_all
   have e2:argTypes= #[t,t']:=by cases argTypes;simp_all
   subst e1;subst e2;rfl
  ·cases h
 all_goals simp[pv]at h
theorem Lj{Q:Exit->St->Prop}{all:Array Oper}{rest:List Oper}{o:Oper}{t:Nat}{d:D}(hd:o.dst=some t)(hg:o.guard=none)(ht:t<Γ.nt)
 (hv:pv P st o.op=some d) (h:AO P Γ all rest Q (st.set t d)):AO P Γ all (o::rest) Q st:=by
 intro κ Θ a w hs;obtain⟨v,bs,hr,hrd,hz⟩:=uy hs hv;refine wpList_plain hg fun K hK=>?_
 unfold Oper.wp;rw[hr,Oper.upon_value,hd];exact hK _ _ (h κ Θ _ w (hs.set ht hrd hz))
end
end Go.Cx
namespace Go.Cx
open Go.RowKit
structure eT(w w':World)(Θ Θ':Nat->Nat)(tag:Nat):Prop where
 two:2<=tag
 os:w'.os=w.os
 tape:w'.tape=w.tape
 output:w'.output=w.output
 size:w.heap.size<=w'.heap.size
 block:∀b,b<w.heap.size->Θ b≠tag->w'.heap[b]?=w.heap[b]?
 owner:∀b,b<w.heap.size->Θ b≠tag->Θ' b=Θ b
 own:∀b,Θ' b≠0->b<w'.heap.size
section
variable{w w':World}{κ κ':Nat->Option Value}{Θ Θ':Nat->Nat}{tag id:Nat}{r:D}
theorem eT.free(k:eT w w' Θ Θ' tag){b:Nat}(hb:b<w.heap.size)(hz:Θ b=0):Θ' b=0:=by
 have:=k.two;rw[k.owner b hb (by omega)];exact hz
theorem Rd.over{v:Value}{d:D}{bs:aH}(k:eT w w' Θ Θ' tag)(h:Rd w v d bs)(hz:∀b∈bs,Θ b=0):Rd w' v d bs/\∀b∈bs,Θ' b=0:=by
 have:=k.two;exact⟨h.keep fun b hb=>k.block b (h.lt b hb) (by rw[hz b hb];omega),fun b hb=>k.free (h.lt b hb) (hz b hb)⟩
theorem gG.over{vs:aq}{ds:aG}{bs:aH}(k:eT w w' Θ Θ' tag)(h:gG w vs ds bs)(hz:∀b∈bs,Θ b=0):gG w' vs ds bs/\∀b∈bs,Θ' b=0:=by
 have:=k.two;exact⟨h.keep fun b hb=>k.block b (h.lt b hb) (by rw[hz b hb];omega),fun b hb=>k.free (h.lt b hb) (hz b hb)⟩
section
variable(hn:∀(j:Nat) v,κ j=some v->κ' j=some v)
include hn
end
theorem N9.lt{v:Value}{rows:List aG}{p n:Nat}{bs:aH}(h:N9 w κ v rows p n bs):∀b∈bs,b<w.heap.size:=by
 obtain⟨b,off,cap,cs,ns,rfl,h1,h2,h3,h4,h5,rfl,_⟩:=h;intro x hx;rcases aY.1 hx with rfl|hx
 ·exact h1
 ·exact h5.lt x hx
section
variable(hn:∀(j:Nat) v,κ j=some v->κ' j=some v)
include hn
theorem N9.stay{v:Value}{rows:List aG}{p n:Nat}{bs:aH}(h:N9 w κ v rows p n bs)(hb:∀b∈bs,w'.heap[b]?=w.heap[b]?):N9 w' κ' v rows p n bs:=by
 obtain⟨b,off,cap,cs,ns,rfl,h1,h2,h3,h4,h5,rfl,c,h6,h7⟩:=h;exact⟨b,off,cap,cs,ns,rfl,xZ h1 (hb b (by simp)),h2,h3,fun j c hc=>(rL (hb b (by simp))).trans (h4 j c hc),h5.keep (fun x hx=>hb x (by simp[hx])),rfl,c,h6,hn _ _ h7⟩
end
section
variable(k:eT w w' Θ Θ' tag)(hn:∀(j:Nat) v,κ j=some v->κ' j=some v)
include k hn
theorem oz.stay{v:Value}{d:D}{bs:aH}(h:oz w κ v d bs)(hz:∀b∈bs,Θ b=0):oz w' κ' v d bs/\∀b∈bs,Θ' b=0:=by
 cases h with
 |pure h=>exact⟨.pure (Rd.over k h hz).1,(Rd.over k h hz).2⟩
 |acc i v hk=>exact⟨.acc i v (hn _ _ hk),by simp⟩
 |ptr i off b hk=>exact⟨.ptr i off b (hn _ _ hk),by simp⟩
 |op i j sz off b o0 len cap hk=>exact⟨.op i j sz off b o0 len cap (hn _ _ hk),by simp⟩
theorem dA.stay{vs:aq}{ds:aG}{bs:aH}(h:dA w κ vs ds bs)(hz:∀b∈bs,Θ b=0):dA w' κ' vs ds bs/\∀b∈bs,Θ' b=0:=by
 induction ds generalizing vs bs with
 |nil=>cases h;exact⟨.nil,by simp⟩
 |cons d ds ih=>
  cases h with
  |cons v vs _ _ b1 b2 h1 h2 h3=>
   obtain⟨k1,k2⟩:=oz.stay k hn h2 (fun b hb=>hz b (by simp[hb]));obtain⟨k3,k4⟩:=ih h3 (fun b hb=>hz b (by simp[hb]));refine⟨.cons _ _ _ _ _ _ h1 k1 k3,fun b hb=>?_⟩;rcases aF.1 hb with hb|hb
   ·exact k2 b hb
   ·exact k4 b hb
theorem A7.stay{v:Value}{d:D}{bs:aH}(h:A7 w κ v d bs)(hz:∀b∈bs,Θ b=0):A7 w' κ' v d bs/\∀b∈bs,Θ' b=0:=by
 cases h with
 |cell h=>exact⟨.cell (oz.stay k hn h hz).1,(oz.stay k hn h hz).2⟩
 |agg cs ds bs h=>exact⟨.agg _ _ _ (dA.stay k hn h hz).1,(dA.stay k hn h hz).2⟩
theorem sA.stay{vs:aq}{ds:aG}{bs:aH}(h:sA w κ vs ds bs)(hz:∀b∈bs,Θ b=0):sA w' κ' vs ds bs/\∀b∈bs,Θ' b=0:=by
 induction ds generalizing vs bs with
 |nil=>cases h;exact⟨.nil,by simp⟩
 |cons d ds ih=>
  cases h with
  |cons v vs _ _ b1 b2 h2 h3=>
   obtain⟨k1,k2⟩:=A7.stay k hn h2 (fun b hb=>hz b (by simp[hb]));obtain⟨k3,k4⟩:=ih h3 (fun b hb=>hz b (by simp[hb]));refine⟨.cons _ _ _ _ _ _ k1 k3,fun b hb=>?_⟩;rcases aF.1 hb with hb|hb
   ·exact k2 b hb
   ·exact k4 b hb
theorem kF.stay{v:Value}{d:D}{bs:aH}(h:kF w κ v d bs)(hz:∀b∈bs,Θ b=0):kF w' κ' v d bs/\∀b∈bs,Θ' b=0:=by
 cases h with
 |v h=>exact⟨.v (A7.stay k hn h hz).1,(A7.stay k hn h hz).2⟩
 |fy vs ds bs h=>exact⟨.fy _ _ _ (sA.stay k hn h hz).1,(sA.stay k hn h hz).2⟩
theorem mh.stay{j:Nat}{o:Ob}(hj:j+2≠tag)(h:mh w κ Θ j o):mh w' κ' Θ' j o:=by
 cases o with
 |gone=>trivial
 |tk rows=>
  obtain⟨v,bs,hk,hrd,hz⟩:=h;obtain⟨h1,h2⟩:=Rd.over k hrd hz;exact⟨v,bs,hn _ _ hk,h1,h2⟩
 |tf e sz rows=>
  obtain⟨v,bs,hk,hrd,hz⟩:=h;obtain⟨h1,h2⟩:=Rd.over k hrd hz;exact⟨v,bs,hn _ _ hk,h1,h2⟩
 |mp kv=>
  obtain⟨g,es,c,q1,q2,q3,q4⟩:=h;have hlt:g<w.heap.size:=(aX.1 q2).1;have hne:Θ g≠tag:=by rw[q3];exact hj
  exact⟨g,es,c,hn _ _ q1,(k.block g hlt hne).trans q2,by rw[k.owner g hlt hne];exact q3,q4.stay⟩
 |nF sz rows u=>
  obtain⟨hrl,Ki,v,bs,hk,hrd,hnd,tR⟩:=h;have hsame:∀b∈bs,w'.heap[b]?=w.heap[b]?:=fun b hb=>k.block b (hrd.lt b hb) (by rw[(tR b hb).1];exact hj)
  refine⟨hrl,fun x hx=>hn _ _ (Ki x hx),v,bs,hn _ _ hk,hrd.keep hsame,hnd,fun b hb=>⟨?_,?_⟩⟩
  ·rw[k.owner b (hrd.lt b hb) (by rw[(tR b hb).1];exact hj)];exact(tR b hb).1
  ·obtain⟨x,T,hx⟩:=(tR b hb).2;exact⟨x,T,(hsame b hb).trans hx⟩
 |hole sz rows u p n=>
  obtain⟨hrl,Ki,v,bs,hk,hrd,hnd,tR⟩:=h;have hsame:∀b∈bs,w'.heap[b]?=w.heap[b]?:=fun b hb=>k.block b (hrd.lt b hb) (by rw[(tR b hb).1];exact hj)
  refine⟨hrl,fun x hx=>hn _ _ (Ki x hx),v,bs,hn _ _ hk,N9.stay hn hrd hsame,hnd,fun b hb=>⟨?_,?_⟩⟩
  ·rw[k.owner b (hrd.lt b hb) (by rw[(tR b hb).1];exact hj)];exact(tR b hb).1
  ·obtain⟨x,T,hx⟩:=(tR b hb).2;exact⟨x,T,(hsame b hb).trans hx⟩
 |box cells=>
  obtain⟨g,cs,T,hk,hg,hΘ,bs,hrs,hz⟩:=h;have hlt:g<w.heap.size:=(aX.1 hg).1;have hne:Θ g≠tag:=by rw[hΘ];exact hj
  obtain⟨h1,h2⟩:=dA.stay k hn hrs hz;exact⟨g,cs,T,hn _ _ hk,(k.block g hlt hne).trans hg,(k.owner g hlt hne).trans hΘ,bs,h1,h2⟩
 |B1 cells u=>
  obtain⟨hu,g,cs,T,hk,hg,hΘ,bs,hrs,hz⟩:=h;have hlt:g<w.heap.size:=(aX.1 hg).1;have hne:Θ g≠tag:=by rw[hΘ];exact hj
  obtain⟨h1,h2⟩:=dA.stay k hn hrs hz;exact⟨⟨hn _ _ hu.1,hu.2.same hk hg (hn _ _ hk) ((k.block g hlt hne).trans hg)⟩,g,cs,T,hn _ _ hk,(k.block g hlt hne).trans hg,(k.owner g hlt hne).trans hΘ,bs,h1,h2⟩
 |row deep e sz rows=>
  obtain⟨hsz,hrl,v,cs,bs,hk,hown,hrs,hΘ,hd⟩:=h;refine⟨hsz,hrl,v,cs,bs,hn _ _ hk,?_,?_,?_,?_⟩
  ·refine⟨hown.1,?_⟩;rcases hown.2 with ua|⟨g,cap,cur,rfl,hb,CE,rest⟩
   ·exact .inl ua
   ·have hlt:g<w.heap.size:=(aX.1 CE).1;have hne:Θ g≠tag:=by rw[hΘ g (by simp[Value.ownBlock])];exact hj
    exact .inr ⟨g,cap,cur,rfl,hb,(k.block g hlt hne).trans CE,rest⟩
  ·refine hrs.keep fun b hb=>k.block b (hrs.lt b hb) ?_
   have:=k.two;cases deep with
   |cl=>rw[(hd.2.1 b hb).1];exact hj
   |sh=>rw[hd b hb];omega
   |uq=>rw[hd b hb];omega
   |mv n=>rw[hd b hb];omega
   |ho p n=>rw[hd b hb];omega
  ·intro g hg;have hlt:=(hown.lt g hg).2;have e:=hΘ g hg;rw[k.owner g hlt (by rw[e];exact hj)];exact e
  ·cases deep with
   |cl=>
    refine⟨hd.1,fun b hb=>⟨?_,?_⟩,hd.2.2.1,hd.2.2.2.keep fun b hb=>k.block b (hrs.lt b hb) (by rw[(hd.2.1 b hb).1];exact hj)⟩
    ·rw[k.owner b (hrs.lt b hb) (by rw[(hd.2.1 b hb).1];exact hj)];exact(hd.2.1 b hb).1
    ·obtain⟨x,T,hx⟩:=(hd.2.1 b hb).2;exact⟨x,T,(k.block b (hrs.lt b hb) (by rw[(hd.2.1 b hb).1];exact hj)).trans hx⟩
   |sh=>exact fun b hb=>k.free (hrs.lt b hb) (hd b hb)
   |uq=>exact fun b hb=>k.free (hrs.lt b hb) (hd b hb)
   |mv n=>exact fun b hb=>k.free (hrs.lt b hb) (hd b hb)
   |ho p n=>exact fun b hb=>k.free (hrs.lt b hb) (hd b hb)
end
end
section
variable{Γ:lY}{st:St}{κ κ':Nat->Option Value}{Θ Θ':Nat->Nat}{a:Act}{w w':World}{tag:Nat}
theorem cN.base(hs:cN Γ st κ Θ a w):Γ.W0.heap.size<=w.heap.size:=hs.stays.size
theorem cN.En(hs:cN Γ st κ Θ a w)(k:eT w w' Θ Θ' tag):FL Γ w':=by
 refine⟨k.os.trans hs.stays.os,k.tape.trans hs.stays.tape,k.output.trans hs.stays.output,eg hs.stays.size k.size,fun b hb hx=>?_⟩;have:=k.two;have h1:=(hs.old b hb hx).2;exact(k.block b (bw hb hs.base) (by omega)).trans (hs.stays.block b hb hx)
theorem cN.Ir(hs:cN Γ st κ Θ a w)(k:eT w w' Θ Θ' tag):∀b,b<Γ.W0.heap.size->¬Γ.X b->Θ' b=Γ.Θ0 b/\Θ' b<=1:=by
 intro b hb hx;have:=k.two;have h1:=hs.old b hb hx;rw[k.owner b (bw hb hs.base) (by omega)];exact h1
theorem cN.iw(hs:cN Γ st κ Θ a w)(k:eT w w' Θ Θ' tag)(hn:∀(j:Nat) v,κ j=some v->κ' j=some v){ρ:Nat->Nat}(hu:pU Γ st.H κ Θ w ρ):
 (∀b,ρ b≠0->Θ' b=0/\FJ Γ b/\Wr w' b)/\(∀id e sz rows,id+2≠tag->st.H[id]?=some (.row .uq e sz rows)->
  ∃v cs bs,κ' id=some v/\w'.ownsRow 0 e sz v rows.length cs/\ng w' (mX e) 0 cs rows.flatten bs/\bs.Nodup/\∀b∈bs,ρ b=id+1)/\
  ∀id o,id+2≠tag->st.H[id]?=some o->Az w' κ' ρ id o:=by
 have h2:=k.two;refine⟨?_,?_,?_⟩
 ·intro b hb;obtain⟨h0,hm,x,T,hx⟩:=hu.free b hb;have hlt:b<w.heap.size:=(aX.1 hx).1;exact⟨k.free hlt h0,hm,x,T,(k.block b hlt (by omega)).trans hx⟩
 ·intro id e sz rows hid hH;obtain⟨v,cs,bs,hk,hown,hrs,hnd,hρ⟩:=hu.rows id e sz rows hH;obtain⟨_,_,v2,_,_,hk2,_,_,hΘ,_⟩:=hs.ob id _ hH;rw[hk]at hk2;cases hk2;refine⟨v,cs,bs,hn _ _ hk,⟨hown.1,?_⟩,hrs.keep fun b hb=>k.block b (hrs.lt b hb) ?_,hnd,hρ⟩
  ·rcases hown.2 with ua|⟨g,cap,cur,rfl,hb,CE,rest⟩
   ·exact .inl ua
   ·have hlt:g<w.heap.size:=(aX.1 CE).1;have hne:Θ g≠tag:=by rw[hΘ g (by simp[Value.ownBlock])];exact hid
    exact .inr ⟨g,cap,cur,rfl,hb,(k.block g hlt hne).trans CE,rest⟩
  ·have:=hρ b hb;have:=(hu.free b (by omega)).1;omega
 ·intro id o hid hH;have hm:=hu.more id o hH;have hb0:∀ {bs:aH},(∀b∈bs,ρ b=id+1)->∀b∈bs,Θ b≠tag:=fun hρ b hb=>by
   have:=hρ b hb;have:=(hu.free b (by omega)).1;omega
  cases o with
  |tk rows=>
   obtain⟨v,bs,hk,hrd,hnd,hρ⟩:=hm;exact⟨v,bs,hn _ _ hk,hrd.keep fun b hb=>k.block b (hrd.lt b hb) (hb0 hρ b hb),hnd,hρ⟩
  |tf e sz rows=>
   obtain⟨v,bs,hk,hrd,hlt,hnd,hρ⟩:=hm;exact⟨v,bs,hn _ _ hk,hrd.keep fun b hb=>k.block b (hlt b hb) (hb0 hρ b hb),fun b hb=>bw (hlt b hb) k.size,hnd,hρ⟩
  |row kd e sz rows=>
   cases kd with
   |mv n=>
    obtain⟨v,cs,bs,hk,hown,hrs,hnd,hρ⟩:=hm;obtain⟨_,_,v2,_,_,hk2,_,_,hΘ,_⟩:=hs.ob id _ hH;rw[hk]at hk2;cases hk2;refine⟨v,cs,bs,hn _ _ hk,⟨hown.1,?_⟩,hrs.keep fun b hb=>k.block b (hrs.lt b hb) (hb0 hρ b hb),hnd,hρ⟩;rcases hown.2 with ua|⟨g,cap,cur,rfl,hb,CE,rest⟩
    ·exact .inl ua
    ·have hlt:g<w.heap.size:=(aX.1 CE).1;have hne:Θ g≠tag:=by rw[hΘ g (by simp[Value.ownBlock])];exact hid
     exact .inr ⟨g,cap,cur,rfl,hb,(k.block g hlt hne).trans CE,rest⟩
   |ho p n=>
    obtain⟨v,cs,bs,hk,hown,hrs,hnd,hρ,c,hc,hkc⟩:=hm;obtain⟨_,_,v2,_,_,hk2,_,_,hΘ,_⟩:=hs.ob id _ hH;rw[hk]at hk2;cases hk2;exact⟨v,cs,bs,hn _ _ hk,xf hown (fun g hg=>k.block g (hown.lt g hg).2 (by rw[hΘ g hg];exact hid)),hrs.keep fun b hb=>k.block b (hrs.lt b hb) (hb0 hρ b hb),hnd,hρ,c,hc,hn _ _ hkc⟩
   |_=>trivial
  |_=>trivial
theorem Az.re{ρ ρ':Nat->Nat}{id:Nat}{o:Ob}(h:Az w κ ρ id o)(hr:∀b,ρ b=id+1->ρ' b=id+1):Az w κ ρ' id o:=by
 cases o with
 |tk rows=>
  obtain⟨v,bs,hk,hrd,hnd,hρ⟩:=h;exact⟨v,bs,hk,hrd,hnd,fun b hb=>hr b (hρ b hb)⟩
 |tf e sz rows=>
  obtain⟨v,bs,hk,hrd,hlt,hnd,hρ⟩:=h;exact⟨v,bs,hk,hrd,hlt,hnd,fun b hb=>hr b (hρ b hb)⟩
 |row kd e sz rows=>
  cases kd with
  |mv n=>
   obtain⟨v,cs,bs,hk,hown,hrs,hnd,hρ⟩:=h;exact⟨v,cs,bs,hk,hown,hrs,hnd,fun b hb=>hr b (hρ b hb)⟩
  |ho p n=>
   obtain⟨v,cs,bs,hk,hown,hrs,hnd,hρ,hc⟩:=h;exact⟨v,cs,bs,hk,hown,hrs,hnd,fun b hb=>hr b (hρ b hb),hc⟩
  |_=>trivial
 |_=>trivial
theorem cN.step(hs:cN Γ st κ Θ a w){H':ai}(k:eT w w' Θ Θ' tag)(hm:∀b,2<=Θ' b->oy Γ b)(hn:∀(j:Nat) v,κ j=some v->κ' j=some v)
 (PU:∀id,H'.length<=id->κ' id=none) (hk1:∀(id:Nat) u,κ' id=some u->u.oneCell'=true)
 (pK:∀(j:Nat) o,H'[j]?=some o->o=.gone\/(j+2≠tag/\st.H[j]?=some o)\/mh w' κ' Θ' j o) (hu:∃ρ,pU Γ H' κ' Θ' w' ρ):cN Γ ⟨st.σ,H'⟩ κ' Θ' a w':=by
 refine⟨hs.defers,hs.size,PU,hk1,?_,?_,k.own,hs.Ir k,hm,hs.En k,hu⟩
 ·intro t;obtain⟨bs,hr,hz⟩:=hs.slot t;exact⟨bs,kF.stay k hn hr hz⟩
 ·intro j o hj;rcases pK j o hj with rfl|⟨hne,hj'⟩|h
  ·trivial
  ·exact mh.stay k hn hne (hs.ob j o hj')
  ·exact h
def oG(κ:Nat->Option Value)(id:Nat)(v:Option Value):Nat->Option Value:=fun i=>if i=id then v else κ i
theorem gQ(κ:Nat->Option Value)(id:Nat)(v:Option Value):oG κ id v id=v:=by simp[oG]
theorem nj{κ:Nat->Option Value}{id:Nat}(h:κ id=none)(v:Option Value):∀(j:Nat) u,κ j=some u->oG κ id v j=some u:=by
 intro j u hj;unfold oG;rw[ar (fun e=>by subst e;rw[h]at hj;cases hj)];exact hj
def Ob.FE:Ob->Bool
 | .row .uq _ _ _=>true
 | .row (.mv _) _ _ _=>true
 | .row (.ho _ _) _ _ _=>true
 | .tk _=>true
 | .tf _ _ _=>true
 |_=>false
def Ob.ME:Ob->Bool
 | .row (.mv _) _ _ _=>true
 | .row (.ho _ _) _ _ _=>true
 | .tk _=>true
 | .tf _ _ _=>true
 |_=>false
theorem Az.ux{ρ:Nat->Nat}{id:Nat}{o:Ob}(h:o.ME=false):Az w κ ρ id o:=by
 cases o with
 |tk rows=>simp[Ob.ME]at h
 |tf e sz rows=>simp[Ob.ME]at h
 |row kd e sz rows=>
  cases kd with
  |mv n=>simp[Ob.ME]at h
  |ho p n=>simp[Ob.ME]at h
  |_=>trivial
 |_=>trivial
theorem Az.plain{ρ:Nat->Nat}{id:Nat}{o:Ob}(h:o.FE=false):Az w κ ρ id o:=by
 cases o with
 |tk rows=>simp[Ob.FE]at h
 |tf e sz rows=>simp[Ob.FE]at h
 |row kd e sz rows=>
  cases kd with
  |mv n=>simp[Ob.FE]at h
  |ho p n=>simp[Ob.FE]at h
  |_=>trivial
 |_=>trivial
theorem cN.push(hs:cN Γ st κ Θ a w){v:Value}{o:Ob}(h1:v.oneCell'=true)(k:eT w w' Θ Θ' (st.H.length+2))(hm:∀b,2<=Θ' b->oy Γ b)
 (ho:mh w' (oG κ st.H.length (some v)) Θ' st.H.length o) (hq:o.FE=false):cN Γ ⟨st.σ,st.H++[o]⟩ (oG κ st.H.length (some v)) Θ' a w':=by
 have hn:=nj (hs.jN _ (b8 _)) (some v);have key:∀(j:Nat) x,(st.H++[o])[j]?=some x->(j=st.H.length/\x=o)\/(j+2≠st.H.length+2/\st.H[j]?=some x):=by
  intro j x hj;by_cases hlt:j<st.H.length
  ·rw[aS hlt]at hj;exact .inr ⟨by omega,hj⟩
  ·have hj':=(aB.1 hj).1;simp only[af,aR,bC]at hj';have e:j=st.H.length:=by omega
   subst e;rw[aV (b8 _)]at hj;simp at hj;exact .inl ⟨rfl,hj.symm⟩
 obtain⟨ρ,hu⟩:=hs.kx;have lF:=hs.iw k hn hu;refine hs.step k hm hn ?_ ?_ ?_ ⟨ρ,lF.1,?_,?_⟩
 ·intro i hi;simp only[af,aR,bC]at hi;unfold oG;rw[ar (by omega)];exact hs.jN i (by omega)
 ·intro i u hu;unfold oG at hu;split at hu
  ·cases hu;exact h1
  ·exact hs.j9 i u hu
 ·intro j x hj;rcases key j x hj with⟨rfl,rfl⟩|h
  ·exact .inr (.inr ho)
  ·exact .inr (.inl h)
 ·intro id e sz rows hj;rcases key id _ hj with⟨rfl,rfl⟩|h
  ·simp[Ob.FE]at hq
  ·exact lF.2.1 id e sz rows h.1 h.2
 ·intro id x hj;rcases key id _ hj with⟨rfl,rfl⟩|h
  ·exact Az.plain hq
  ·exact lF.2.2 id x h.1 h.2
theorem cN.change(hs:cN Γ st κ Θ a w){id:Nat}{o:Ob}(k:eT w w' Θ Θ' (id+2))(hm:∀b,2<=Θ' b->oy Γ b)(ho:mh w' κ Θ' id o)(hq:o.FE=false):
 cN Γ ⟨st.σ,st.H.set id o⟩ κ Θ' a w':=by
 have key:∀(j:Nat) x,(st.H.set id o)[j]?=some x->(j=id/\x=o)\/(j+2≠id+2/\st.H[j]?=some x):=by
  intro j x hj;by_cases e:id=j
  ·subst e;have hlt:id<st.H.length:=by
    have:=(aB.1 hj).1;simpa using this
   rw[cI hlt]at hj;cases hj;exact .inl ⟨rfl,rfl⟩
  ·rw[bH e]at hj;exact .inr ⟨by omega,hj⟩
 obtain⟨ρ,hu⟩:=hs.kx;have lF:=hs.iw k (fun _ _ h=>h) hu;refine hs.step k hm (fun _ _ h=>h) (fun i hi=>hs.jN i (by simpa using hi)) hs.j9 ?_ ⟨ρ,lF.1,?_,?_⟩
 ·intro j x hj;rcases key j x hj with⟨rfl,rfl⟩|h
  ·exact .inr (.inr ho)
  ·exact .inr (.inl h)
 ·intro i e sz rows hj;rcases key i _ hj with⟨rfl,rfl⟩|h
  ·simp[Ob.FE]at hq
  ·exact lF.2.1 i e sz rows h.1 h.2
 ·intro i x hj;rcases key i _ hj with⟨rfl,rfl⟩|h
  ·exact Az.plain hq
  ·exact lF.2.2 i x h.1 h.2
theorem cN.pL(hs:cN Γ st κ Θ a w)(h:∀b,2<=Θ' b->2<=Θ b\/w.heap.size<=b):∀b,2<=Θ' b->oy Γ b:=by
 intro b hb;rcases h b hb with h|h
 ·exact hs.mine b h
 ·exact .inl (eg hs.base h)
theorem eT.refl(h:∀b,Θ b≠0->b<w.heap.size)(h2:2<=tag):eT w w Θ Θ tag:=⟨h2,rfl,rfl,rfl,b8 _,fun _ _ _=>rfl,fun _ _ _=>rfl,h⟩
theorem eT.LG(h:∀b,Θ b≠0->b<w.heap.size)(hb:Below w.heap.size w w')(h2:2<=tag):eT w w' Θ Θ tag:=
 ⟨h2,hb.os,hb.tape,hb.output,hb.size,fun b hlt _=>hb.block b hlt,fun _ _ _=>rfl,fun b hn=>bw (h b hn) hb.size⟩
theorem cN.grow(hs:cN Γ st κ Θ a w)(hb:Below w.heap.size w w'):cN Γ st κ Θ a w':=by
 have k:eT w w' Θ Θ (st.H.length+2):=eT.LG hs.own hb (by omega);obtain⟨ρ,hu⟩:=hs.kx;have lF:=hs.iw k (fun _ _ h=>h) hu;have hlt:∀(j:Nat) o,st.H[j]?=some o->j+2≠st.H.length+2:=fun j o h=>by
  have:=(aB.1 h).1;omega
 exact hs.step k hs.mine (fun _ _ h=>h) hs.jN hs.j9 (fun j o h=>.inr (.inl ⟨hlt j o h,h⟩)) ⟨ρ,lF.1,fun id e sz rows h=>lF.2.1 id e sz rows (hlt _ _ h) h,fun id o h=>lF.2.2 id o (hlt _ _ h) h⟩
theorem cN.drew(hs:cN Γ st κ Θ a w):cN Γ st κ Θ a w.drew:=hs.grow ((Below.refl _ _).drew)
def kill(H:ai):aH->ai
 | []=>H
 |m::ms=>kill (H.set m .gone) ms
theorem dH(H:ai)(ms:aH):(kill H ms).length=H.length:=by
 induction ms generalizing H with
 |nil=>rfl
 |cons m ms ih=>simp[kill,ih]
theorem iv{H:ai}{ms:aH}{j:Nat}{o:Ob}(h:(kill H ms)[j]?=some o):o=.gone\/(j∉ms/\H[j]?=some o):=by
 induction ms generalizing H with
 |nil=>exact .inr ⟨by simp,h⟩
 |cons m ms ih=>
  rcases ih h with h|⟨h1,h2⟩
  ·exact .inl h
  ·by_cases e:m=j
   ·subst e;have hlt:=(aB.1 h2).1;rw[cI (by simpa using hlt)]at h2;cases h2;exact .inl rfl
   ·rw[bH e]at h2;exact .inr ⟨by simp[h1,kE e],h2⟩
def oM(κ:Nat->Option Value)(Θ ρ:Nat->Nat)(w:World)(m:Nat)(k:RK)(rows:List aG)(t:Option (TypeId×Nat):=none):Prop:=
 ∃v bs,κ m=some v/\Rd w v (.sl rows) bs/\(∀b∈bs,Θ b=0)/\(k=.uq->bs.Nodup/\∀b∈bs,ρ b=m+1)/\(∀t',t=some t'->yz w t' v (.sl rows) bs)
def Ob.Oj:Ob->Option (TypeId×Nat)
 | .row _ e sz _=>some (e,sz)
 |_=>Option.none
theorem kN{e sz:Nat}{v:Value}{rows:List aG}{cs:aq}{bs:aH}(hrl:∀r∈rows,r.length=sz)(hown:w.ownsRow 0 e sz v rows.length cs)(hrs:gG w cs rows.flatten bs):
 Rd w v (.sl rows) (v.ownBlock.toList++bs):=by
 rcases hown.2 with⟨rfl,hn⟩|⟨g,cap,cur,rfl,_,hg,hnc,hcm,_,ht⟩
 ·have:rows=[]:=bn hn;subst this;cases hrs;exact .oB
 ·have hlt:g<w.heap.size:=(aX.1 hg).1;refine .sl g 0 cap sz rows cs bs hlt hnc hcm hrl (fun j c hc=>?_) hrs;have:=hown.cells (g:=g) (by simp[Value.ownBlock]) j c hc;simpa[Addr.add_lit]using this
theorem cN.O4(hs:cN Γ st κ Θ a w){ρ:Nat->Nat}(hu:pU Γ st.H κ Θ w ρ){m e sz:Nat}{k:RK}{rows:List aG}(hH:st.H[m]?=some (.row k e sz rows))(hk:k.CW=true):
 ∃Θ' ρ',cN Γ ⟨st.σ,st.H.set m .gone⟩ κ Θ' a w/\pU Γ (st.H.set m .gone) κ Θ' w ρ'/\oM κ Θ' ρ' w m k rows (some (e,sz))/\
  (∀b,Θ b=0->Θ' b=0)/\(∀b,ρ b≠0->ρ' b=ρ b):=by
 obtain⟨hsz,hrl,v,cs,bs,hkm,hown,hrs,hΘ,hz⟩:=hs.ob m _ hH;have oF:∀b∈bs,Θ b=0:=by cases k<;>first|exact hz|simp[RK.CW]at hk
 let Θ':Nat->Nat:=fun b=>if Θ b=m+2 then 0 else Θ b
 let ρ':Nat->Nat:=fun b=>if some b=v.ownBlock then m+1 else ρ b
 have hk':eT w w Θ Θ' (m+2):=⟨by omega,rfl,rfl,rfl,b8 _,fun _ _ _=>rfl,fun b _ hne=>ar hne,fun b hb=>hs.own b (fun h0=>hb (by simp only[Θ'];split<;>simp_all))⟩
 have RX:∀b,Θ b=0->Θ' b=0:=fun b h=>by simp only[Θ'];split<;>omega
 have Fh:∀b,2<=Θ' b->oy Γ b:=fun b hb=>hs.mine b (by simp only[Θ']at hb;split at hb<;>omega)
 have uf:∀g,v.ownBlock=some g->ρ g=0:=by
  intro g hg;cases h:ρ g with
  |zero=>rfl
  |succ n=>have:=(hu.free g (by omega)).1;rw[hΘ g hg]at this;omega
 have hρ:∀b,ρ b≠0->ρ' b=ρ b:=fun b hb=>ar (fun h=>hb (uf b h.symm))
 have key:∀(j:Nat) x,(st.H.set m .gone)[j]?=some x->x=.gone\/(j+2≠m+2/\st.H[j]?=some x):=by
  intro j x hj;rcases iv (ms:=[m]) hj with h|⟨h1,h2⟩
  ·exact .inl h
  ·exact .inr ⟨by simp at h1;omega,h2⟩
 have lF:=hs.iw hk' (fun _ _ h=>h) hu;have hU:pU Γ (st.H.set m .gone) κ Θ' w ρ':=by
  refine⟨fun b hb=>?_,fun id e sz rows h=>?_,fun id x h=>?_⟩
  ·by_cases hb':some b=v.ownBlock
   ·have e1:=hΘ b hb'.symm;refine⟨by simp only[Θ'];rw[bG e1],.inl (hs.mine b (by omega)),?_⟩;rcases hown.2 with⟨rfl,_⟩|⟨g,cap,cur,rfl,_,hg,_⟩
    ·simp[Value.ownBlock]at hb'
    ·simp[Value.ownBlock]at hb';subst hb';exact⟨_,_,hg⟩
   ·exact lF.1 b (by simp only[ρ']at hb;rwa[ar hb']at hb)
  ·rcases key id _ h with h|⟨h1,h2⟩
   ·cases h
   ·obtain⟨v2,c2,b2,q1,q2,q3,q4,q5⟩:=lF.2.1 id e sz rows h1 h2;exact⟨v2,c2,b2,q1,q2,q3,q4,fun b hb=>by rw[hρ b (by rw[q5 b hb];omega)];exact q5 b hb⟩
  ·rcases key id _ h with h|⟨h1,h2⟩
   ·subst h;trivial
   ·exact(lF.2.2 id x h1 h2).re fun b hb=>(hρ b (by omega)).trans hb
 refine⟨Θ',ρ',?_,hU,?_,RX,hρ⟩
 ·exact hs.step hk' Fh (fun _ _ h=>h) (fun i hi=>hs.jN i (by simpa using hi)) hs.j9 (fun j x hj=>by
   rcases key j x hj with h|h
   ·exact .inl h
   ·exact .inr (.inl h)) ⟨ρ',hU⟩
 ·have plain:k≠ .uq->oM κ Θ' ρ' w m k rows (some (e,sz)):=fun hne=>by
   refine⟨v,_,hkm,kN hrl hown hrs,fun b hb=>?_,fun h=>absurd h hne,fun t ht=>by cases ht;exact .inr ⟨rows,cs,bs,rfl,hsz,hrl,hown,hrs,rfl⟩⟩;rcases aF.1 hb with hb|hb
   ·simp only[eN]at hb;simp only[Θ'];rw[bG (hΘ b hb)]
   ·exact RX b (oF b hb)
  cases k with
  |cl=>simp[RK.CW]at hk
  |sh=>exact plain (by simp)
  |mv n=>exact plain (by simp)
  |ho p n=>exact plain (by simp)
  |uq=>
   obtain⟨v2,c2,b2,q1,q2,q3,q4,q5⟩:=hu.rows m e sz rows hH;rw[hkm]at q1;cases q1;have hfr:∀b∈b2,ρ b≠0:=fun b hb=>by rw[q5 b hb];omega
   refine⟨v,_,hkm,kN hrl q2 q3.rd,fun b hb=>?_,fun _=>⟨?_,fun b hb=>?_⟩,fun t ht=>by cases ht;exact .inr ⟨rows,c2,b2,rfl,hsz,hrl,q2,q3.rd,rfl⟩⟩
   ·rcases aF.1 hb with hb|hb
    ·simp only[eN]at hb;simp only[Θ'];rw[bG (hΘ b hb)]
    ·exact RX b (hu.free b (hfr b hb)).1
   ·rw[aZ];refine⟨by cases v.ownBlock<;>simp,q4,fun x hx y hy e=>?_⟩;simp only[eN]at hx;subst e;exact hfr x hy (uf x hx)
   ·rcases aF.1 hb with hb|hb
    ·simp only[eN]at hb;simp only[ρ'];rw[bG hb.symm]
    ·rw[hρ b (hfr b hb)];exact q5 b hb
theorem cN.Q7(hs:cN Γ st κ Θ a w){ρ:Nat->Nat}(hu:pU Γ st.H κ Θ w ρ){m:Nat}{rows:List aG}(hH:st.H[m]?=some (.tk rows)):
 cN Γ ⟨st.σ,st.H.set m .gone⟩ κ Θ a w/\pU Γ (st.H.set m .gone) κ Θ w ρ/\oM κ Θ ρ w m .uq rows:=by
 have key:∀(j:Nat) x,(st.H.set m .gone)[j]?=some x->x=.gone\/(j≠m/\st.H[j]?=some x):=by
  intro j x hj;rcases iv (ms:=[m]) hj with h|⟨h1,h2⟩
  ·exact .inl h
  ·exact .inr ⟨by simpa using h1,h2⟩
 have hU:pU Γ (st.H.set m .gone) κ Θ w ρ:=by
  refine⟨hu.free,fun id e sz rows h=>?_,fun id x h=>?_⟩
  ·rcases key id _ h with h|⟨_,h2⟩
   ·cases h
   ·exact hu.rows id e sz rows h2
  ·rcases key id _ h with h|⟨_,h2⟩
   ·subst h;trivial
   ·exact hu.more id x h2
 obtain⟨v,bs,q1,q2,q3,q4⟩:=hu.more m _ hH;refine⟨⟨hs.defers,hs.size,fun i hi=>hs.jN i (by simpa using hi),hs.j9,hs.slot,fun id o h=>?_,hs.own,hs.old,hs.mine,hs.stays,ρ,hU⟩,hU,v,bs,q1,q2,fun b hb=>(hu.free b (by rw[q4 b hb];omega)).1,fun _=>⟨q3,q4⟩,fun _ h=>by cases h⟩;rcases key id _ h with h|⟨_,h2⟩
 ·subst h;trivial
 ·exact hs.ob id o h2
def Ob.xq:Ob->Option (RK×List aG)
 | .row k _ _ rows=>(match k with| .cl=>none|_=>some (k,rows))
 | .tk rows=>some (.uq,rows)
 |_=>none
theorem Ob.Jc{o:Ob}{k:RK}{rows:List aG}(h:o.xq=some (k,rows)):(∃e sz,o=.row k e sz rows/\k.CW=true)\/(o=.tk rows/\k=.uq):=by
 cases o with
 |row k' e sz r=>
  cases k' with
  |cl=>simp[Ob.xq]at h
  |_=>simp only[Ob.xq,aQ,bW]at h;obtain⟨rfl,rfl⟩:=h;exact .inl ⟨e,sz,rfl,rfl⟩
 |tk r=>simp only[Ob.xq,aQ,bW]at h;obtain⟨rfl,rfl⟩:=h;exact .inr ⟨rfl,rfl⟩
 |_=>simp[Ob.xq]at h
theorem cN.Q6(hs:cN Γ st κ Θ a w){ρ:Nat->Nat}(hu:pU Γ st.H κ Θ w ρ){m:Nat}{o:Ob}{k:RK}{rows:List aG}(hH:st.H[m]?=some o)(ho:o.xq=some (k,rows)):
 ∃Θ' ρ',cN Γ ⟨st.σ,st.H.set m .gone⟩ κ Θ' a w/\pU Γ (st.H.set m .gone) κ Θ' w ρ'/\oM κ Θ' ρ' w m k rows o.Oj/\
  (∀b,Θ b=0->Θ' b=0)/\(∀b,ρ b≠0->ρ' b=ρ b):=by
 rcases Ob.Jc ho with⟨e,sz,rfl,hk⟩|⟨rfl,rfl⟩
 ·exact hs.O4 hu hH hk
 ·obtain⟨h1,h2,h3⟩:=hs.Q7 hu hH;exact⟨Θ,ρ,h1,h2,h3,fun _ h=>h,fun _ _=>rfl⟩
theorem cN.Dm:∀(ms:aH) {st:St} {Θ ρ:Nat->Nat},cN Γ st κ Θ a w->pU Γ st.H κ Θ w ρ->ms.Nodup->
 (∀m∈ms,∃o k rows,st.H[m]?=some o/\o.xq=some (k,rows))->
 ∃Θ' ρ',cN Γ ⟨st.σ,kill st.H ms⟩ κ Θ' a w/\pU Γ (kill st.H ms) κ Θ' w ρ'/\(∀m∈ms,∀o k rows,st.H[m]?=some o->o.xq=some (k,rows)->oM κ Θ' ρ' w m k rows o.Oj)/\
  (∀b,Θ b=0->Θ' b=0)/\(∀b,ρ b≠0->ρ' b=ρ b):=by
 intro ms
 induction ms with
 |nil=>intro st Θ ρ hs hu _ _;exact⟨Θ,ρ,hs,hu,by simp,fun _ h=>h,fun _ _=>rfl⟩
 |cons m ms ih=>
  intro st Θ ρ hs hu hnd hall;obtain⟨hnm,vm⟩:=fO.1 hnd;obtain⟨o,k,rows,hH,hk⟩:=hall m (by simp);obtain⟨Θ1,ρ1,hs1,hu1,hm1,hz1,HG⟩:=hs.Q6 hu hH hk;have Ea:∀m'∈ms,(st.H.set m .gone)[m']?=st.H[m']?:=fun m' hm'=>bH (fun e:m=m'=>hnm (by rw[e];exact hm'))
  obtain⟨Θ2,ρ2,hs2,K1,hm2,GZ,hr2⟩:=ih (st:=⟨st.σ,st.H.set m .gone⟩) hs1 hu1 vm (fun m' hm'=>by
   obtain⟨o',k',cU,h1,h2⟩:=hall m' (by simp[hm']);exact⟨o',k',cU,(Ea m' hm').trans h1,h2⟩)
  refine⟨Θ2,ρ2,hs2,K1,?_,fun b h=>GZ b (hz1 b h),fun b h=>(hr2 b (by rw[HG b h];exact h)).trans (HG b h)⟩;intro m' hm' o' k' cU vG ho';rcases aY.1 hm' with rfl|IJ
  ·rw[hH]at vG;cases vG;rw[hk]at ho';cases ho';obtain⟨v,bs,q1,q2,q3,q4,q7⟩:=hm1;refine⟨v,bs,q1,q2,fun b hb=>GZ b (q3 b hb),fun hq=>?_,fun _ h=>q7 _ h⟩;obtain⟨q5,q6⟩:=q4 hq;exact⟨q5,fun b hb=>by rw[hr2 b (by rw[q6 b hb];omega)];exact q6 b hb⟩
  ·exact hm2 m' IJ o' k' cU ((Ea m' IJ).trans vG) ho'
theorem cN.xa:∀(ms:aH) {st:St} {Θ ρ:Nat->Nat},cN Γ st κ Θ a w->pU Γ st.H κ Θ w ρ->ms.Nodup->
 (∀m∈ms,∃k e sz rows,st.H[m]?=some (.row k e sz rows)/\k.CW=true)->
 ∃Θ' ρ',cN Γ ⟨st.σ,kill st.H ms⟩ κ Θ' a w/\pU Γ (kill st.H ms) κ Θ' w ρ'/\(∀m∈ms,∀k e sz rows,st.H[m]?=some (.row k e sz rows)->oM κ Θ' ρ' w m k rows)/\
  (∀b,Θ b=0->Θ' b=0)/\(∀b,ρ b≠0->ρ' b=ρ b):=by
 intro ms
 induction ms with
 |nil=>intro st Θ ρ hs hu _ _;exact⟨Θ,ρ,hs,hu,by simp,fun _ h=>h,fun _ _=>rfl⟩
 |cons m ms ih=>
  intro st Θ ρ hs hu hnd hall;obtain⟨hnm,vm⟩:=fO.1 hnd;obtain⟨k,e,sz,rows,hH,hk⟩:=hall m (by simp);obtain⟨Θ1,ρ1,hs1,hu1,hm1,hz1,HG⟩:=hs.O4 hu hH hk;have Ea:∀m'∈ms,(st.H.set m .gone)[m']?=st.H[m']?:=fun m' hm'=>bH (fun e:m=m'=>hnm (by rw[e];exact hm'))
  obtain⟨Θ2,ρ2,hs2,K1,hm2,GZ,hr2⟩:=ih (st:=⟨st.σ,st.H.set m .gone⟩) hs1 hu1 vm (fun m' hm'=>by
   obtain⟨k',e',sz',cU,h1,h2⟩:=hall m' (by simp[hm']);exact⟨k',e',sz',cU,(Ea m' hm').trans h1,h2⟩)
  refine⟨Θ2,ρ2,hs2,K1,?_,fun b h=>GZ b (hz1 b h),fun b h=>(hr2 b (by rw[HG b h];exact h)).trans (HG b h)⟩;intro m' hm' k' e' sz' cU vG;rcases aY.1 hm' with rfl|IJ
  ·rw[hH]at vG;cases vG;obtain⟨v,bs,q1,q2,q3,q4,q7⟩:=hm1;refine⟨v,bs,q1,q2,fun b hb=>GZ b (q3 b hb),fun hq=>?_,fun _ h=>by cases h⟩;obtain⟨q5,q6⟩:=q4 hq;exact⟨q5,fun b hb=>by rw[hr2 b (by rw[q6 b hb];omega)];exact q6 b hb⟩
  ·exact hm2 m' IJ k' e' sz' cU ((Ea m' IJ).trans vG)
end
end Go.Cx
namespace Go.Cx
open Go.RowKit
section
variable{P:Program}{Γ:lY}{Q:Exit->St->Prop}{st:St}{κ:Nat->Option Value}{Θ:Nat->Nat}{a:Act}{w:World}{all:Array Oper}{rest:List Oper}
theorem KG{c:Operand}{x y:Code}{b:Bool}(hc:st.ev c=.bool b)(ht:b=true->AW P Γ x Q st)(hf:b=false->AW P Γ y Q st):AW P Γ (.cond c x y) Q st:=by
 intro κ Θ a w hs;obtain⟨bs,r,_⟩:=hs.ev c;rw[hc]at r;exact wp_cond_split r.nC (fun h=>ht h κ Θ a w hs) (fun h=>hf h κ Θ a w hs)
theorem A5{o:Oper}{j s:Nat}{want b:Bool}(hg:o.guard=some (j,want))(hj:(all[j]?).bind (·.dst)=some s)(hb:lk st.σ s=.bool b)
 (hd:∀t,o.dst=some t->t<Γ.nt)
 (SY:b=want->AO P Γ all ({o with guard:=none}::rest) Q st) (hno:b≠want->AO P Γ all rest Q (st.put o.dst (.fy []))):AO P Γ all (o::rest) Q st:=by
 intro κ Θ a w hs;obtain⟨bs,r,_⟩:=hs.slot s;rw[hb]at r;have hv:=r.nC;have hlt:s<a.tmps.size:=by
  rcases cY s a.tmps.size with h|h
  ·exact h
  ·exfalso;rw[bM,kC h]at hv;simp[undef]at hv
 have hy:yielded all a.tmps j=some b:=by
  have h1:a.tmps[s]?=some (.bool b):=by
   rw[bM,bS hlt]at hv;rw[bS hlt];simpa using hv
  simp[yielded,hj,h1]
 by_cases e:b=want
 ·have:=SY e κ Θ a w hs;unfold wpList at this⊢;have hw:Region.wanted o (yielded all a.tmps)=true:=by simp[Region.wanted,hg,hy,e]
  have hw':Region.wanted {o with guard:=none} (yielded all a.tmps)=true:=rfl;rw[bG hw];rw[bG hw']at this;exact this
 ·have hw:Region.wanted o (yielded all a.tmps)=false:=by simp[Region.wanted,hg,hy,e]
  unfold wpList;rw[hw,ar (by simp)];refine hno e κ Θ _ w ?_;cases CC:o.dst with
  |none=>exact hs
  |some t=>exact hs.set (hd t CC) (.fy [] [] [] .nil) (by simp)
theorem kF.Br{w:World}{κ:Nat->Option Value}{v:Value}{bs:aH}(h:kF w κ v (.fy []) bs):v=.tuple #[]:=by
 cases h with
 |v h=>cases h with|cell h=>cases h with|pure h=>cases h
 |fy vs ds bs h=>cases h;rfl
theorem BQ{o:Oper}{j s:Nat}{want:Bool}(hg:o.guard=some (j,want))(hj:(all[j]?).bind (·.dst)=some s)(hb:lk st.σ s=.fy [])
 (hd:∀t,o.dst=some t->t<Γ.nt) (hno:AO P Γ all rest Q (st.put o.dst (.fy []))):AO P Γ all (o::rest) Q st:=by
 intro κ Θ a w hs;obtain⟨bs,r,_⟩:=hs.slot s;rw[hb]at r;have hv:=r.Br;have hy:yielded all a.tmps j=none:=by
  rcases cY s a.tmps.size with hlt|hlt
  ·have h1:a.tmps[s]?=some (.tuple #[]):=by
    rw[bM,bS hlt]at hv;rw[bS hlt];simpa using hv
   simp[yielded,hj,h1]
  ·simp[yielded,hj,kC hlt]
 have hw:Region.wanted o (yielded all a.tmps)=false:=by simp[Region.wanted,hg,hy]
 unfold wpList;rw[hw,ar (by simp)];refine hno κ Θ _ w ?_;cases CC:o.dst with
 |none=>exact hs
 |some t=>exact hs.set (hd t CC) (.fy [] [] [] .nil) (by simp)
theorem eT.alloc(hs:cN Γ st κ Θ a w)(o:Obj){tag:Nat}(h2:2<=tag):eT w (w.alloc o) Θ (fun b=>if b=w.heap.size then tag else Θ b) tag:=by
 refine⟨h2,rfl,rfl,rfl,by simp,fun b hb _=>Below.heap_alloc w o b hb,fun b hb _=>?_,fun b hb=>?_⟩
 ·rw[ar (by omega)]
 ·by_cases e:b=w.heap.size
  ·subst e;simp
  ·rw[ar e]at hb;have:=hs.own b hb;simp;omega
theorem cN.J3(hs:cN Γ st κ Θ a w){cs:Array Value}{ds:aG}{bs:aH}(T:TypeId)(hr:dA w κ cs.toList ds bs)(hz:∀b∈bs,Θ b=0):
 cN Γ ⟨st.σ,st.H++[.box ds]⟩ (oG κ st.H.length (some (.pointer (some ⟨w.heap.size,0,none⟩)))) (fun b=>if b=w.heap.size then st.H.length+2 else Θ b) a (w.alloc (.cells cs T)):=by
 have k:=eT.alloc hs (.cells cs T) (tag:=st.H.length+2) (by omega);refine hs.push rfl k (hs.pL (fun b hb=>by by_cases e:b=w.heap.size<;>simp_all)) ?_ rfl;have hn:=nj (hs.jN _ (b8 _)) (some (Value.pointer (some ⟨w.heap.size,0,none⟩)));obtain⟨h1,h2⟩:=dA.stay k hn hr hz;exact⟨w.heap.size,cs,T,by simp[oG],heap_alloc_new w _,by simp,bs,h1,h2⟩
theorem Mx{o:Oper}{T t:Nat}{x:Operand}{ds:aG}(hop:o.op=.box T x)(hd:o.dst=some t)(hg:o.guard=none)(ht:t<Γ.nt)
 (hc:(st.ev x).cellsOf=some ds) (h:AO P Γ all rest Q ⟨(t,.ptr st.H.length 0)::st.σ,st.H++[.box ds]⟩):AO P Γ all (o::rest) Q st:=by
 intro κ Θ a w hs;obtain⟨bs,r,hz⟩:=hs.ev x;have hcs:=rM hs.j9 r hc;have hs':=hs.J3 T hcs hz;refine wpList_plain hg fun K hK=>?_
 unfold Oper.wp;have hrun:(execOp a.eval o).run P w=.ok (.value (.pointer (some ⟨w.heap.size,0,none⟩))) (w.alloc (.cells (a.eval x).cells T)):=by
  simp[execOp,hop,Instr.box,newVar,newRow]
 rw[hrun,Oper.upon_value,hd];refine hK _ _ (h _ _ _ _ (hs'.set (t:=t) (d:=.ptr st.H.length 0) (bs:=[]) ht ?_ (by simp)));exact(oz.ptr st.H.length 0 w.heap.size (by simp[oG])).Bq
theorem HN{o:Oper}{T t:Nat}{zs:aG}(hop:o.op=.alloc T)(hd:o.dst=some t)(hg:o.guard=none)(ht:t<Γ.nt)
 (hz:tz P T=some zs) (h:AO P Γ all rest Q ⟨(t,.ptr st.H.length 0)::st.σ,st.H++[.box zs]⟩):AO P Γ all (o::rest) Q st:=by
 intro κ Θ a w hs;obtain⟨i,z,hi,oF,hsz,hlen,hone,rfl⟩:=nZ hz;have hs':=hs.J3 T (cs:=z.cells) (rU z.cells.toList hone) (by simp);refine wpList_plain hg fun K hK=>?_
 unfold Oper.wp;have hrun:(execOp a.eval o).run P w=.ok (.value (.pointer (some ⟨w.heap.size,0,none⟩))) (w.alloc (.cells z.cells T)):=by
  simp[execOp,hop,Instr.alloc,zeroValue,typeInfo,hi,oF,newVar,newRow]
 rw[hrun,Oper.upon_value,hd];refine hK _ _ (h _ _ _ _ (hs'.set (t:=t) (d:=.ptr st.H.length 0) (bs:=[]) ht ?_ (by simp)));exact(oz.ptr st.H.length 0 w.heap.size (by simp[oG])).Bq
theorem eT.setRow(hs:cN Γ st κ Θ a w){g:Nat}{cs:Array Value}{tag:Nat}(h2:2<=tag)(hg:Θ g=tag):eT w (w.setRow g cs) Θ Θ tag:=by
 refine⟨h2,rfl,rfl,rfl,by simp,fun b _ hne=>setRow_other w g b cs (fun e=>hne (e▸hg)),fun b _ _=>rfl,fun b hb=>?_⟩;simpa using hs.own b hb
theorem uz{T g off:Nat}{v:Value}{cur:Array Value}{e:TypeId}(hg:w.heap[g]?=some (.cells cur e (0,0)))(hsz:v.cells.size=oX P T)(yc:∃i,P.info? T=some i)
 (hfit:off+v.cells.size<=cur.size) (hone:∀c∈v.cells.toList,c.oneCell'=true):
 (Instr.storeAt T (.pointer (some ⟨g,off,none⟩)) v).run P w=.ok () (w.setRow g (cur.toList.take off++v.cells.toList++cur.toList.drop (off+v.cells.toList.length)).toArray):=by
 have:=run_storeCells_at P g off e v.cells.toList 0 cur w hg (by simpa using hfit) hone;simp only[ou]at this;simp[Instr.storeAt,Instr.sureAddr,storeVar,lT yc,hsz,this]
def Ck(P:Program)(t:TypeId):Bool:=(P.info? t).isSome
theorem Bo{o:Oper}{T id off:Nat}{x y:Operand}{cells ds:aG}(hop:o.op=.store T x y)
 (hx:st.ev x=.ptr id off) {ob:Ob} (hH:st.H[id]?=some ob) (pK:ob.FW=some cells) (hc:(st.ev y).cellsOf=some ds) (hT:Ck P T=true) (hl:ds.length=oX P T) (hfit:off+ds.length<=cells.length) (hkp:ob.Fu off=true) (hs:cN Γ st κ Θ a w):
 ∃w',(execOp a.eval o).run P w=.ok .skip w'/\cN Γ ⟨st.σ,st.H.set id (ob.re (cells.take off++ds++cells.drop (off+ds.length)))⟩ κ Θ a w':=by
 obtain⟨b1,r1,_⟩:=hs.ev x;obtain⟨b2,r2,GZ⟩:=hs.ev y;rw[hx]at r1;obtain⟨g,hk,hv⟩:=r1.pF;obtain⟨g',cs,Tb,hk',GS,hΘ,bs,hrs,hz⟩:=(hs.ob id _ hH).cs pK;rw[hk]at hk';cases hk';have hcs:=rM hs.j9 r2 hc;have hl1:=hcs.length;have sO:=hrs.length;have hsz:(a.eval y).cells.size=oX P T:=by rw[<-hl,<-hl1];simp
 have hst:=uz (P:=P) (T:=T) (off:=off) GS hsz (cT.1 hT) (by
  have:(a.eval y).cells.size=ds.length:=by rw[<-hl1];simp
  have h3:cs.size=cells.length:=by rw[<-sO];simp
  omega) hcs.one
 have k:=eT.setRow hs (g:=g) (cs:=(cs.toList.take off++(a.eval y).cells.toList++cs.toList.drop (off+(a.eval y).cells.toList.length)).toArray) (tag:=id+2) (by omega) hΘ;have hrun:(execOp a.eval o).run P w=.ok .skip (w.setRow g (cs.toList.take off++(a.eval y).cells.toList++cs.toList.drop (off+(a.eval y).cells.toList.length)).toArray):=by
  simp only[execOp,hop,hv];simp[hst]
 refine⟨_,hrun,hs.change k hs.mine (mh.QK pK (hs.ob id _ hH) (fun _ h=>h) (fun c0 u0 e0=>?_) ?_) (by cases ob<;>rfl)⟩
 ·subst e0;intro c NN g2 Qx T2 hk2 Ff;rw[hk]at hk2;cases hk2;rw[setRow_heap w g cs _ Tb _ GS]at Ff;cases Ff;obtain⟨z1,z2⟩:=(hs.ob id _ hH).1.2 c NN g cs Tb hk GS;simp only[Ob.FW,aQ]at pK;subst pK;have h3:c0.length=3:=by rw[<-sO];simpa using z1
  have hoff:1<=off:=by
   simp only[Ob.Fu,h3,ju,bB,kZ]at hkp;exact jK hkp
  have UY:cs.toList.length=3:=by simpa using z1
  have hel:(a.eval y).cells.toList.length=ds.length:=hl1;refine⟨by simp only[gF,af,bD,fZ];omega,?_⟩;rw[eH,cF,aS (by rw[bD];omega),mK (by omega)];simpa using z2
 have e:cells=cells.take off++((cells.drop off).take ds.length++(cells.drop off).drop ds.length):=by rw[bK,bK]
 rw[e]at hrs;obtain⟨v1,v2,c1,c2,za,rfl,k1,k2⟩:=hrs.split;obtain⟨v3,v4,c3,c4,rfl,rfl,k3,k4⟩:=k2.split;have l1:v1.length=off:=by rw[k1.length];simp;omega
 have l3:v3.length=ds.length:=by rw[k3.length];simp;omega
 have e1:cs.toList.take off=v1:=by rw[za];exact eY l1
 have e4:cs.toList.drop (off+(a.eval y).cells.toList.length)=v4:=by
  rw[za,<-dP,dM l1,hl1];exact dM l3
 have hnew:dA w κ (v1++(a.eval y).cells.toList++v4) (cells.take off++ds++cells.drop (off+ds.length)) ((c1++b2)++c4):=by
  rw[dP]at k4;exact(k1.app hcs).app k4
 have zl:∀b∈((c1++b2)++c4),Θ b=0:=by
  intro b hb;simp only[aF]at hb;rcases hb with(hb|hb)|hb
  ·exact hz b (by simp[hb])
  ·exact GZ b hb
  ·exact hz b (by simp[hb])
 obtain⟨h1,h2⟩:=dA.stay k (fun _ _ h=>h) hnew zl;refine⟨g,_,Tb,hk,setRow_heap w g cs _ Tb _ GS,hΘ,_,?_,h2⟩;rw[e1,e4]at h1⊢;exact h1
theorem HZ{o:Oper}{T id off:Nat}{x y:Operand}{cells ds:aG}(hop:o.op=.store T x y)(hd:o.dst=none)(hg:o.guard=none)
 (hx:st.ev x=.ptr id off) {ob:Ob} (hH:st.H[id]?=some ob) (pK:ob.FW=some cells) (hc:(st.ev y).cellsOf=some ds) (hT:Ck P T=true) (hl:ds.length=oX P T) (hfit:off+ds.length<=cells.length) (hkp:ob.Fu off=true)
 (h:AO P Γ all rest Q ⟨st.σ,st.H.set id (ob.re (cells.take off++ds++cells.drop (off+ds.length)))⟩):AO P Γ all (o::rest) Q st:=by
 intro κ Θ a w hs;obtain⟨w',hrun,hs'⟩:=Bo hop hx hH pK hc hT hl hfit hkp hs;refine wpList_plain hg fun K hK=>?_
 unfold Oper.wp;rw[hrun,Oper.upon_skip,hd];exact hK _ _ (h _ _ _ _ hs')
end
def D.Cu:D->Bool
 | .acc _=>false
 | .ptr _ _=>false
 | .op _ _ _ _=>false
 |_=>true
def Jk(P:Program)(t:TypeId):Nat:=P.bytesOf t
theorem Bb{α:Type}{l:List α}{i:Nat}{x:α}(h:l[i]?=some x):∃p q,l=p++x::q/\p.length=i:=by
 have hlt:=(aB.1 h).1;have hx:=(aB.1 h).2;refine⟨l.take i,l.drop (i+1),?_,by simp;omega⟩;rw[<-hx,s7,bK]
theorem uW{rows:List aG}{sz i off:Nat}{row ds:aG}(hrl:∀r∈rows,r.length=sz)(hr:rows[i]?=some row)(hfit:off+ds.length<=sz):
 (rows.set i (row.take off++ds++row.drop (off+ds.length))).flatten=rows.flatten.take (i*sz+off)++ds++rows.flatten.drop (i*sz+off+ds.length):=by
 obtain⟨p,q,rfl,rfl⟩:=Bb hr;have hrow:row.length=sz:=hrl row (by simp);have hp:p.flatten.length=p.length*sz:=iL (fun r hr=>hrl r (by simp[hr]));rw[nK _ _ (b8 _),lW,List.set_cons_zero];simp only[fB,cw];rw[<-hp,List.take_length_add_append,fJ,List.drop_length_add_append,List.take_append_of_le_length (by omega),kB (by omega)];simp only[cF]
theorem Ag(z:Array Value)(n:Nat):(madeCells z (n*z.size)).toList=(List.replicate n z.toList).flatten:=by
 induction n with
 |zero=>simp[madeCells]
 |succ n ih=>
  rw[List.replicate_succ',fB,<-ih];apply jU;intro j;by_cases hz:z.size=0
  ·have:z= #[]:=Array.size_eq_zero_iff.1 hz;subst this;simp[madeCells]
  ·by_cases h1:j<n*z.size
   ·rw[aS (by simpa[madeCells]using h1)];have h2:j<(n+1)*z.size:=by rw[eR];omega
    simp[madeCells,h1,h2]
   ·rw[aV (by simpa[madeCells]using h1)];by_cases h2:j<(n+1)*z.size
    ·rw[eR,j3]at h2;have hm:j%z.size=j-n*z.size:=by
      have Vn:=Nat.mul_comm z.size n;have e:j=(j-n*z.size)+z.size*n:=by omega
      conv=>lhs;rw[e]
      rw[Nat.add_mul_mod_self_left,Nat.mod_eq_of_lt (by omega)]
     have h3:j-n*z.size<z.size:=by omega
     have h2':j<(n+1)*z.size:=by rw[eR,j3];exact h2
     simp[madeCells,h2',hm,h3]
    ·rw[bR (by simp[madeCells];omega),bR];rw[eR,j3]at h2;simp[madeCells];omega
section
variable{P:Program}{Γ:lY}{Q:Exit->St->Prop}{st:St}{κ:Nat->Option Value}{Θ:Nat->Nat}{a:Act}{w:World}{all:Array Oper}{rest:List Oper}
theorem dA.pure{vs:aq}{ds:aG}{bs:aH}(h:dA w κ vs ds bs)(hp:ds.all D.Cu=true):gG w vs ds bs:=by
 induction ds generalizing vs bs with
 |nil=>cases h;exact .nil
 |cons d ds ih=>
  simp only[ck,aM]at hp;cases h with
  |cons v vs _ _ b1 b2 h1 h2 h3=>
   refine .cons _ _ _ _ _ _ h1 ?_ (ih h3 hp.2);cases h2 with
   |pure h=>exact h
   |acc=>simp[D.Cu]at hp
   |ptr=>simp[D.Cu]at hp
   |op=>simp[D.Cu]at hp
theorem gG.TY{vs:aq}{ds:aG}(h:gG w vs ds [])(m:Nat):gG w (List.replicate m vs).flatten (List.replicate m ds).flatten []:=by
 induction m with
 |zero=>exact .nil
 |succ m ih=>
  simp only[List.replicate_succ,cw];have:=h.app ih;simpa using this
def D.rZ(d:D):D:=match d with
 | .nil=>.sl []
 |d=>d
theorem Rd.soft{v:Value}{d:D}{bs:aH}(h:Rd w v d bs):Rd w v d.rZ bs:=by
 cases h with
 |nil=>exact .oB
 |any=>exact .any _
 |int _ _ h=>exact .int _ _ h
 |bool=>exact .bool _
 |str _ h=>exact .str _ h
 |val=>exact .val _
 |oB=>exact .oB
 |iU a cap h=>exact .iU a cap h
 |sl b off cap sz rows cs bs h0 h1 h2 h3 h4 h5=>exact .sl b off cap sz rows cs bs h0 h1 h2 h3 h4 h5
 |agg cs ds bs h=>exact .agg cs ds bs h
 |ep b off cs row o bs h0 h4 h5=>exact .ep b off cs row o bs h0 h4 h5
 |Gb=>exact .Gb
 |Gc t u=>exact .Gc t u
theorem gG.soft{vs:aq}{ds:aG}{bs:aH}(h:gG w vs ds bs):gG w vs (ds.map D.rZ) bs:=by
 induction ds generalizing vs bs with
 |nil=>cases h;exact .nil
 |cons d ds ih=>cases h with|cons v vs _ _ b1 b2 h1 h2 h3=>exact .cons _ _ _ _ _ _ h1 h2.soft (ih h3)
def D.flat:D->Bool
 | .any=>true
 | .nil=>true
 | .int _ _=>true
 | .bool _=>true
 | .str _=>true
 | .val _=>true
 |_=>false
def GJ(H:ai)(d:D):Option (D×aH):=match d with
 | .acc m=>(match(H[m]?).bind Ob.xq with|some (_,rows)=>some (.sl rows,[m])|none=>none)
 | .ptr _ _=>none
 | .op _ _ _ _=>none
 |d=>some (d.rZ,[])
def wq(H:ai):aG->Option (aG×aH)
 | []=>some ([],[])
 |d::ds=>match GJ H d,wq H ds with|some (e,m),some (es,ms)=>some (e::es,m++ms)|_,_=>none
def Qh(H:ai)(d:D):Bool:=match d with
 | .acc m=>(match(H[m]?).bind Ob.xq with|some (k,_)=>(match k with| .uq=>true|_=>false)|none=>false)
 |d=>d.flat
def nV(b:Bool):RK:=match b with|true=>.uq|false=>.sh
def EW(H:ai)(t:Option (TypeId×Nat))(d:D):Bool:=match t with
 |none=>true
 |some t'=>(match d with
  | .acc m=>(match(H[m]?).bind Ob.Oj with|some t2=>t2.1==t'.1&&t2.2==t'.2|none=>false)
  | .nil=>Nat.blt 0 t'.2
  | .any=>true
  |_=>false)
def Ka(H:ai)(f:Nat->Option (TypeId×Nat)):Nat->aG->Bool
 |_,[]=>true
 |i,d::ds=>EW H (f i) d&&Ka H f (i+1) ds
def Jq(e:Nat):Bool:=match zB e with|none=>true|some _=>false
theorem xz{e:Nat}(h:Jq e=true):zB e=none:=by
 unfold Jq at h;split at h
 ·assumption
 ·cases h
def H6(H:ai)(e i:Nat)(ds:aG):Bool:=ds.all (Qh H)&&(match zB e with|none=>true|some _=>Ka H (mX e) i ds)
theorem Ob.Dn(u:Bool)(e:TypeId)(sz:Nat)(rows:List aG):(Ob.row (nV u) e sz rows).ME=false:=by cases u<;>rfl
theorem Rd.flat{v:Value}{d:D}{bs:aH}(h:Rd w v d bs)(hf:d.flat=true):bs=[]:=by
 cases h<;>first|rfl|simp[D.flat]at hf
theorem D4{H:ai}{d e:D}{m:aH}(h:GJ H d=some (e,m)):
 (∃m0 o k rows,d=.acc m0/\H[m0]?=some o/\o.xq=some (k,rows)/\e=.sl rows/\m=[m0])\/(d.Cu=true/\(∀i,d≠ .acc i)/\e=d.rZ/\m=[]):=by
 cases d with
 |acc m0=>
  simp only[GJ]at h;split at h
  ·rename_i k rows hH;simp only[aQ,bW]at h;obtain⟨rfl,rfl⟩:=h;obtain⟨o,hH,ho⟩:=aJ.1 hH;exact .inl ⟨m0,o,k,rows,rfl,hH,ho,rfl,rfl⟩
  ·cases h
 |ptr i o=>simp[GJ]at h
 |op i j s o=>simp[GJ]at h
 |_=>simp only[GJ,aQ,bW]at h;obtain⟨rfl,rfl⟩:=h;exact .inr ⟨rfl,by simp,rfl,rfl⟩
theorem D5{H:ai}:∀ {ds es:aG} {ms:aH},wq H ds=some (es,ms)->∀m∈ms,∃o k rows,H[m]?=some o/\o.xq=some (k,rows):=by
 intro ds
 induction ds with
 |nil=>intro es ms h;simp only[wq,aQ,bW]at h;obtain⟨rfl,rfl⟩:=h;simp
 |cons d ds ih=>
  intro es ms h;simp only[wq]at h;split at h
  ·rename_i e m es' ms' h1 h2;simp only[aQ,bW]at h;obtain⟨rfl,rfl⟩:=h;intro x hx;rcases aF.1 hx with hx|hx
   ·rcases D4 h1 with⟨m0,o,k,cU,rfl,hH,hk,rfl,rfl⟩|⟨_,_,_,rfl⟩
    ·simp at hx;subst hx;exact⟨o,k,_,hH,hk⟩
    ·simp at hx
   ·exact ih h2 x hx
  ·cases h
theorem I4{H:ai}{t':TypeId×Nat}{m:Nat}{o:Ob}(h:EW H (some t') (.acc m)=true)(hH:H[m]?=some o):o.Oj=some t':=by
 simp only[EW,hH,aA]at h;split at h
 ·rename_i t2 e;rw[e];simp only[aM,bX]at h;obtain⟨h1,h2⟩:=h;obtain⟨a1,a2⟩:=t2;obtain⟨c1,c2⟩:=t';simp only at h1 h2;rw[h1,h2]
 ·cases h
theorem KZ{H:ai}{t':TypeId×Nat}{d:D}{v:Value}{bs:aH}(h:EW H (some t') d=true)(hna:∀i,d≠ .acc i)(hr:Rd w v d bs):yz w t' v d.rZ bs:=by
 cases d with
 |acc i=>exact absurd rfl (hna i)
 |nil=>
  simp only[EW]at h;cases hr;exact .inr ⟨[],[],[],rfl,bw Nat.zero_lt_one (by simpa[Nat.blt]using h),by simp,World.ownsRow_nil w 0 _ _,.nil,by simp[Value.ownBlock]⟩
 |any=>cases hr;exact .inl ⟨rfl,rfl⟩
 |_=>simp[EW]at h
theorem KL{H:ai}{ρ:Nat->Nat}{f:Nat->Option (TypeId×Nat)}:∀ {ds es:aG} {ms:aH} {vs:aq} {b0:aH} (i:Nat),wq H ds=some (es,ms)->ms.Nodup->dA w κ vs ds b0->(∀b∈b0,Θ b=0)->
 (∀m∈ms,∀o k rows,H[m]?=some o->o.xq=some (k,rows)->oM κ Θ ρ w m k rows o.Oj)->
 ∃bs,gG w vs es bs/\(∀b∈bs,Θ b=0)/\(ds.all (Qh H)=true->bs.Nodup/\∀b∈bs,∃m∈ms,ρ b=m+1)/\(Ka H f i ds=true->ng w f i vs es bs):=by
 intro ds
 induction ds with
 |nil=>
  intro es ms vs b0 i h _ hr _ _;simp only[wq,aQ,bW]at h;obtain⟨rfl,rfl⟩:=h;cases hr;exact⟨[],.nil,by simp,by simp,fun _=>.nil _⟩
 |cons d ds ih=>
  intro es ms vs b0 i h hnd hr hz hm;simp only[wq]at h;split at h
  ·rename_i e m es' ms' h1 h2;simp only[aQ,bW]at h;obtain⟨rfl,rfl⟩:=h;obtain⟨n1,n2,n3⟩:=aZ.1 hnd;cases hr with
   |cons v vs _ _ b1 b2 hv hc hcs=>
    obtain⟨Jy,q1,q2,q3,q7⟩:=ih (i+1) h2 n2 hcs (fun b hb=>hz b (by simp[hb])) (fun x hx=>hm x (by simp[hx]));have one:∃KS,Rd w v e KS/\(∀b∈KS,Θ b=0)/\(Qh H d=true->KS.Nodup/\∀b∈KS,∃x∈m,ρ b=x+1)/\(∀t,f i=some t->EW H (f i) d=true->yz w t v e KS):=by
     rcases D4 h1 with⟨m0,o,k,cU,rfl,hH,hk,rfl,rfl⟩|⟨hp,hna,rfl,rfl⟩
     ·obtain⟨v',bs,r1,r2,r3,r4,r7⟩:=hm m0 (by simp) o k cU hH hk;cases hc with
      |pure hc=>cases hc
      |acc _ _ hkv=>
       rw[hkv]at r1;cases r1;refine⟨bs,r2,r3,fun hq=>?_,fun t ht hf=>r7 t (I4 (by rwa[ht]at hf) hH)⟩;simp only[Qh,hH,aA,hk]at hq;split at hq
       ·obtain⟨r5,r6⟩:=r4 rfl;exact⟨r5,fun b hb=>⟨m0,by simp,r6 b hb⟩⟩
       ·cases hq
     ·have hrd:Rd w v d b1:=by
       cases hc with
       |pure hc=>exact hc
       |acc i _ _=>exact absurd rfl (hna i)
       |ptr i o _ _=>simp[D.Cu]at hp
       |op i j s o _ _ _ _ _=>simp[D.Cu]at hp
      refine⟨b1,hrd.soft,fun b hb=>hz b (by simp[hb]),fun hq=>?_,fun t ht hf=>KZ (by rwa[ht]at hf) hna hrd⟩;have hf:d.flat=true:=by
       unfold Qh at hq;split at hq
       ·exact absurd rfl (hna _)
       ·exact hq
      rw[hrd.flat hf];exact⟨by simp,by simp⟩
    obtain⟨KS,p1,p2,p3,p7⟩:=one;refine⟨KS++Jy,.cons _ _ _ _ _ _ hv p1 q1,fun b hb=>?_,fun hq=>?_,fun hf=>?_⟩
    ·rcases aF.1 hb with hb|hb
     ·exact p2 b hb
     ·exact q2 b hb
    ·simp only[ck,aM]at hq;obtain⟨p4,p5⟩:=p3 hq.1;obtain⟨q4,q5⟩:=q3 hq.2;refine⟨aZ.2 ⟨p4,q4,fun x hx y hy RM=>?_⟩,fun b hb=>?_⟩
     ·subst RM;obtain⟨m1,hm1,e1⟩:=p5 x hx;obtain⟨m2,hm2,e2⟩:=q5 x hy;exact n3 m1 hm1 m2 hm2 (by omega)
     ·rcases aF.1 hb with hb|hb
      ·obtain⟨x,hx,ex⟩:=p5 b hb;exact⟨x,by simp[hx],ex⟩
      ·obtain⟨x,hx,ex⟩:=q5 b hb;exact⟨x,by simp[hx],ex⟩
    ·simp only[Ka,aM]at hf;exact .cons _ _ _ _ _ _ _ hv p1 (fun t ht=>p7 t ht hf.1) (q7 hf.2)
  ·cases h
theorem EK{H:ai}{ρ:Nat->Nat}{ds es:aG}{ms:aH}{vs:aq}{b0:aH}(h:wq H ds=some (es,ms))(hnd:ms.Nodup)(hr:dA w κ vs ds b0)(hz:∀b∈b0,Θ b=0)
 (hm:∀m∈ms,∀o k rows,H[m]?=some o->o.xq=some (k,rows)->oM κ Θ ρ w m k rows o.Oj) (e i:Nat:=0):
 ∃bs,gG w vs es bs/\(∀b∈bs,Θ b=0)/\(H6 H e i ds=true->bs.Nodup/\(∀b∈bs,∃m∈ms,ρ b=m+1)/\ng w (mX e) i vs es bs):=by
 obtain⟨bs,q1,q2,q3,q4⟩:=KL (f:=mX e) i h hnd hr hz hm;refine⟨bs,q1,q2,fun hq=>?_⟩;simp only[H6,aM]at hq;obtain⟨p1,p2⟩:=q3 hq.1;refine⟨p1,p2,?_⟩;have h2:=hq.2;split at h2
 ·rename_i hn;exact .of q1 (rS hn)
 ·exact q4 h2
theorem ng.over{w':World}{Θ':Nat->Nat}{tag i:Nat}{f:Nat->Option (TypeId×Nat)}{vs:aq}{ds:aG}{bs:aH}(h:ng w f i vs ds bs)(k:eT w w' Θ Θ' tag)(hz:∀b∈bs,Θ b=0):ng w' f i vs ds bs:=by
 have:=k.two;exact h.keep fun b hb=>k.block b (h.lt b hb) (by rw[hz b hb];omega)
theorem cN.put(hs:cN Γ st κ Θ a w){H':ai}{κ':Nat->Option Value}{Θ' ρ:Nat->Nat}{w':World}{id:Nat}{o:Ob}(ms:aH)
 (key:∀(j:Nat) x,H'[j]?=some x->(j=id/\x=o)\/(j≠id/\st.H[j]?=some x)) (hn:∀(j:Nat) v,κ j=some v->κ' j=some v)
 (PU:∀i,H'.length<=i->κ' i=none) (hk1:∀(i:Nat) u,κ' i=some u->u.oneCell'=true) (k:eT w w' Θ Θ' (id+2)) (hm:∀b,2<=Θ' b->oy Γ b) (ho:mh w' κ' Θ' id o)
 (hu:pU Γ st.H κ Θ w ρ) (BE:∀m∈ms,∀x,m≠id->st.H[m]?=some x->x.FE=false)
 (hq:∀e sz rows,o=.row .uq e sz rows->∃v cs bs,κ' id=some v/\w'.ownsRow 0 e sz v rows.length cs/\ng w' (mX e) 0 cs rows.flatten bs/\bs.Nodup/\∀b∈bs,ρ b=id+1\/∃m∈ms,ρ b=m+1)
 (Uo:o.ME=false:=by first|rfl|exact Ob.Dn _ _ _ _):
 cN Γ ⟨st.σ,H'⟩ κ' Θ' a w':=by
 have lF:=hs.iw k hn hu;let ρ':Nat->Nat:=fun b=>if ms.any (fun m=>ρ b==m+1)then id+1 else ρ b
 have Sc:∀b,ρ' b≠0->ρ b≠0:=by
  intro b hb h0;simp only[ρ',h0]at hb;split at hb
  ·rename_i h;obtain⟨m,_,hm⟩:=bt.1 h;simp at hm
  ·exact hb rfl
 refine hs.step k hm hn PU hk1 ?_ ⟨ρ',fun b hb=>lF.1 b (Sc b hb),?_,?_⟩
 ·intro j x hj;rcases key j x hj with⟨rfl,rfl⟩|⟨h1,h2⟩
  ·exact .inr (.inr ho)
  ·exact .inr (.inl ⟨by omega,h2⟩)
 ·intro j e sz rows hj;rcases key j _ hj with⟨rfl,ho'⟩|⟨h1,h2⟩
  ·obtain⟨v,cs,bs,q1,q2,q3,q4,q5⟩:=hq e sz rows ho'.symm;refine⟨v,cs,bs,q1,q2,q3,q4,fun b hb=>?_⟩;simp only[ρ'];split
   ·rfl
   ·rename_i hno;rcases q5 b hb with h|⟨m,hm1,hm2⟩
    ·exact h
    ·exact absurd (bt.2 ⟨m,hm1,by simp[hm2]⟩) hno
  ·obtain⟨v,cs,bs,q1,q2,q3,q4,q5⟩:=lF.2.1 j e sz rows (by omega) h2;refine⟨v,cs,bs,q1,q2,q3,q4,fun b hb=>?_⟩;simp only[ρ'];rw[ar]
   ·exact q5 b hb
   ·intro h;obtain⟨m,hm1,hm2⟩:=bt.1 h;simp only[q5 b hb,bX]at hm2;have:j=m:=by omega
    subst this;have:=BE j hm1 _ h1 h2;simp[Ob.FE]at this
 ·intro j x hj;rcases key j _ hj with⟨rfl,rfl⟩|⟨h1,h2⟩
  ·exact Az.ux Uo
  ·by_cases hx:x.FE=false
   ·exact Az.plain hx
   ·refine(lF.2.2 j x (by omega) h2).re fun b hb=>?_
    simp only[ρ'];rw[ar]
    ·exact hb
    ·intro h;obtain⟨m,hm1,hm2⟩:=bt.1 h;simp only[hb,bX]at hm2;have:j=m:=by omega
     subst this;exact hx (BE j hm1 _ h1 h2)
theorem rV{H:ai}{o:Ob}:∀(j:Nat) x,(H++[o])[j]?=some x->(j=H.length/\x=o)\/(j≠H.length/\H[j]?=some x):=by
 intro j x hj;by_cases hlt:j<H.length
 ·rw[aS hlt]at hj;exact .inr ⟨by omega,hj⟩
 ·have hj':=(aB.1 hj).1;simp only[af,aR,bC]at hj';have e:j=H.length:=by omega
  subst e;rw[aV (b8 _)]at hj;simp at hj;exact .inl ⟨rfl,hj.symm⟩
theorem pG{H:ai}{o:Ob}{id:Nat}:∀(j:Nat) x,(H.set id o)[j]?=some x->(j=id/\x=o)\/(j≠id/\H[j]?=some x):=by
 intro j x hj;by_cases e:id=j
 ·subst e;have hlt:id<H.length:=by
   have:=(aB.1 hj).1;simpa using this
  rw[cI hlt]at hj;cases hj;exact .inl ⟨rfl,rfl⟩
 ·rw[bH e]at hj;exact .inr ⟨fun h=>e h.symm,hj⟩
theorem cN.newRow(hs:cN Γ st κ Θ a w){ρ:Nat->Nat}(hu:pU Γ st.H κ Θ w ρ){u:Bool}{ms:aH}{e sz cap:Nat}{rows:List aG}{bs:aH}(cur:Array Value)(hsz:0<sz)(hrl:∀r∈rows,r.length=sz)
 (AS:cur.size=cap*sz) (hn:rows.length<=cap) (hcap:cap<=maxLen) (hr:gG w (cur.toList.take (rows.length*sz)) rows.flatten bs) (hz:∀b∈bs,Θ b=0)
 (BE:∀m∈ms,∀x,st.H[m]?=some x->x.FE=false) (hq:u=true->bs.Nodup/\(∀b∈bs,∃m∈ms,ρ b=m+1)/\ng w (mX e) 0 (cur.toList.take (rows.length*sz)) rows.flatten bs):
 cN Γ ⟨st.σ,st.H++[.row (nV u) e sz rows]⟩ (oG κ st.H.length (some (.slice (some ⟨w.heap.size,0,none⟩) rows.length cap))) (fun b=>if b=w.heap.size then st.H.length+2 else Θ b) a (w.alloc (.cells cur e)):=by
 have k:=eT.alloc hs (.cells cur e) (tag:=st.H.length+2) (by omega);obtain⟨h1,h2⟩:=gG.over k hr hz;have hlen:(cur.toList.take (rows.length*sz)).length=rows.length*sz:=by
  have:rows.length*sz<=cap*sz:=cx _ hn;have h3:cur.toList.length=cap*sz:=by rw[<-AS];simp
  rw[bD,h3,cv this]
 have hown:(w.alloc (.cells cur e)).ownsRow 0 e sz (.slice (some ⟨w.heap.size,0,none⟩) rows.length cap) rows.length (cur.toList.take (rows.length*sz)):=
  ⟨hlen,.inr ⟨w.heap.size,cap,cur,rfl,by omega,heap_alloc_new w _,hn,hcap,AS,rfl⟩⟩
 refine hs.put ms rV (nj (hs.jN _ (b8 _)) _) ?_ ?_ k (hs.pL (fun b hb=>by by_cases e:b=w.heap.size<;>simp_all)) ?_ hu (fun m hm x _=>BE m hm x) ?_
 ·intro i hi;simp only[af,aR,bC]at hi;unfold oG;rw[ar (by omega)];exact hs.jN i (by omega)
 ·intro i x hx;unfold oG at hx;split at hx
  ·cases hx;rfl
  ·exact hs.j9 i x hx
 ·refine⟨hsz,hrl,_,_,bs,by simp[oG],hown,h1,?_,?_⟩
  ·intro g hg;simp only[Value.ownBlock,aQ]at hg;subst hg;simp
  ·cases u<;>exact h2
 ·intro e' sz' cU he;cases u with
  |false=>simp[nV]at he
  |true=>
   simp only[nV,Ob.row.injEq,pS]at he;obtain⟨rfl,rfl,rfl⟩:=he;obtain⟨q1,q2,q3⟩:=hq rfl;exact⟨_,_,bs,by simp[oG],hown,q3.over k hz,q1,fun b hb=>.inr (q2 b hb)⟩
theorem Bx{o:Oper}{T e sz t:Nat}{x y:Operand}{k k':IntKind}{n:Int}{zs:aG}(hop:o.op=.makeSlice T x y)(hd:o.dst=some t)(hg:o.guard=none)(ht:t<Γ.nt)
 (hT:vJ P T=some (e,sz)) (hz:tz P e=some zs) (hsz:0<sz) (hx:st.ev x=.int k n) (hy:st.ev y=.int k' n) (h0:0<=n) (hroom:Jk P e*n.toNat<=281474976710656) (wW:n.toNat<=4611686018427387904)
 (h:AO P Γ all rest Q ⟨(t,.acc st.H.length)::st.σ,st.H++[.row (nV (Jq e)) e sz (List.replicate n.toNat (zs.map D.rZ))]⟩):AO P Γ all (o::rest) Q st:=by
 intro κ Θ a w hs;obtain⟨b1,r1,_⟩:=hs.ev x;obtain⟨b2,r2,_⟩:=hs.ev y;rw[hx]at r1;rw[hy]at r2;have e1:=r1.jc;have e2:=r2.jc;obtain⟨hu,_,xV⟩:=jA hT;obtain⟨i,z,hi,oF,CG,hlen,hone,rfl⟩:=nZ hz;have sN:i.size=sz:=by rw[<-xV];simp[oX,Program.cellsOf,hi]
 have hby:i.bytes=Jk P e:=by simp[Jk,Program.bytesOf,hi]
 obtain⟨m,rfl⟩:=Int.eq_ofNat_of_zero_le h0;simp only[n9]at hroom wW h;have hrun:=run_make (P:=P) w T e i z hu hi oF k k' m m (by omega) (by omega) (by rw[hby];have:=Int.ofNat_le.2 hroom;rw[Int.natCast_mul]at this;exact this) (by omega);simp only[n9]at hrun;rw[<-CG]at hrun;have IL:=Ag z.cells m;obtain⟨ρ,SW⟩:=hs.kx;have TO:gG w ((madeCells z.cells (m*z.cells.size)).toList.take ((List.replicate m ((z.cells.toList.map D.Dw).map D.rZ)).length*sz)) (List.replicate m ((z.cells.toList.map D.Dw).map D.rZ)).flatten []:=by
  rw[tC,ed (by simp[size_madeCells,CG,sN]),IL];have hcell:=(rU (w:=w) (κ:=κ) z.cells.toList hone).pure (by
   rw[wj,aO];intro c _;simp only[Function.comp];unfold D.Dw;split<;>(try split)<;>rfl)
  exact hcell.soft.TY m
 have hs':=hs.newRow SW (u:=Jq e) (ms:=[]) (e:=e) (sz:=sz) (cap:=m) (rows:=List.replicate m ((z.cells.toList.map D.Dw).map D.rZ)) (bs:=[]) (madeCells z.cells (m*z.cells.size)) hsz
  (by intro r hr;rw[qw hr];simp[CG,sN]) (by rw[size_madeCells,CG,sN]) (by simp) (by unfold maxLen;omega)
  TO (by simp) (by simp) (fun hq=>⟨by simp,by simp,.of TO (rS (xz hq))⟩)
 refine wpList_plain hg fun K hK=>?_
 unfold Oper.wp;have DS:(execOp a.eval o).run P w=.ok (.value (.slice (some ⟨w.heap.size,0,none⟩) m m)) (w.alloc (.cells (madeCells z.cells (m*z.cells.size)) e)):=by
  simp only[execOp,hop,e1,e2];simp[hrun]
 rw[DS,Oper.upon_value,hd];simp only[tC]at hs';refine hK _ _ (h _ _ _ _ (hs'.set (t:=t) (d:=.acc st.H.length) (bs:=[]) ht ?_ (by simp)));exact(oz.acc st.H.length _ (by simp[oG])).Bq
def kp(len sz:Nat):List (Nat×Nat):=(List.range len).map fun i=>(i*sz,sz)
def chunk(sz:Nat):Nat->aG->List aG
 |0,_=>[]
 |n+1,ds=>ds.take sz::chunk sz n (ds.drop sz)
theorem u7(sz:Nat):∀(n:Nat) (ds:aG),ds.length=n*sz->(chunk sz n ds).length=n/\(chunk sz n ds).flatten=ds/\∀r∈chunk sz n ds,r.length=sz:=by
 intro n
 induction n with
 |zero=>intro ds h;simp at h;subst h;simp[chunk]
 |succ n ih=>
  intro ds h;rw[eR,j3]at h;obtain⟨h1,h2,h3⟩:=ih (ds.drop sz) (by rw[fZ];omega);refine⟨by simp[chunk,h1],by simp[chunk,h2],fun r hr=>?_⟩;rcases aY.1 hr with rfl|hr
  ·rw[bD];omega
  ·exact h3 r hr
theorem EU{len sz:Nat}:∀(parts:List (Nat×Value)) (cs arr:Array Value),Instr.fill ((kp len sz).toArray[·]?) cs parts=some arr->Instr.fill (fun i=>some (i*sz,sz)) cs parts=some arr:=by
 intro parts
 induction parts with
 |nil=>intro cs arr h;exact h
 |cons p parts ih=>
  intro cs arr h;obtain⟨i,v⟩:=p;simp only[Instr.fill]at h⊢;split at h
  ·cases h
  ·rename_i off size hp;have e:(off,size)=(i*sz,sz):=by
    simp only[kp,eH,b9]at hp;cases hr:(List.range len)[i]? with
    |none=>simp[hr]at hp
    |some j=>
     have hj:=(aB.1 hr)
     simp only[hr,bZ,aQ]at hp;have:j=i:=by have:=hj.2;simp at this;omega
     rw[<-hp,this]
   cases e;split at h
   ·cases h
   ·rename_i hc;rw[ar hc];exact ih _ _ h
theorem CX{places:List (Nat×Nat)}:∀(ps:List (Nat×D)) (cells ds:aG),o9 places cells ps=some ds->ds.length=cells.length:=by
 intro ps
 induction ps with
 |nil=>intro cells ds h;simp only[o9,aQ]at h;rw[h]
 |cons p ps ih=>
  intro cells ds h;obtain⟨i,d⟩:=p;simp only[o9]at h;split at h
  ·split at h
   ·rename_i hc;rw[ih _ _ h];simp;omega
   ·cases h
  ·cases h
theorem pX{o:Oper}{T e sz len:Nat}{parts:Array (Nat×Operand)}{zs ds:aG}(hop:o.op=.buildSlice T len parts)
 (hT:vJ P T=some (e,sz)) (hz:tz P e=some zs) (hsz:0<sz) (hsmall:len*sz<=16777216)
 (hf:o9 (kp len sz) (List.replicate len zs).flatten (parts.toList.map fun p=>(p.1,st.ev p.2))=some ds) (hs:cN Γ st κ Θ a w):
 ∃(arr:Array Value) (b0:aH),(execOp a.eval o).run P w=.ok (.value (.slice (some ⟨w.heap.size,0,none⟩) len len)) (w.alloc (.cells arr e))/\dA w κ arr.toList ds b0/\(∀b∈b0,Θ b=0)/\arr.size=len*sz/\ds.length=len*sz:=by
 obtain⟨hu,_,xV⟩:=jA hT;obtain⟨i,z,hi,oF,CG,hlen,hone,rfl⟩:=nZ hz;have sN:i.size=sz:=by rw[<-xV];simp[oX,Program.cellsOf,hi]
 have IL:=Ag z.cells len;have hzero:dA w κ (madeCells z.cells (len*z.cells.size)).toList (List.replicate len (z.cells.toList.map D.Dw)).flatten []:=by
  rw[IL];have hcell:=(rU (w:=w) (κ:=κ) z.cells.toList hone).pure (by
   rw[wj,aO];intro c _;simp only[Function.comp];unfold D.Dw;split<;>(try split)<;>rfl)
  exact dA.sx (hcell.TY len)
 obtain⟨arr,b0,PL,BB,hb0⟩:=FY hs parts.toList _ _ ds [] hzero (by simp) hf;have EZ:=EU _ _ _ PL;have hdl:ds.length=len*sz:=by
  rw[CX _ _ _ hf,iL (sz:=sz) (by intro r hr;rw[qw hr];simp[CG,sN])];simp
 have hal:arr.size=len*sz:=by have:=BB.length;simp at this;omega
 refine⟨arr,b0,?_,BB,hb0,hal,hdl⟩;simp only[execOp,hop];by_cases h0:len*i.size=0
 ·have hl0:len=0:=by
   rw[sN]at h0;rcases Nat.mul_eq_zero.1 h0 with h|h
   ·exact h
   ·omega
  subst hl0;have hma:madeCells z.cells (0*z.cells.size)= #[]:=by simp[madeCells]
  rw[hma]at EZ;have hpe:(parts.map fun(x:Nat×Operand)=>(x.1,a.eval x.2)).toList=parts.toList.map fun p=>(p.1,a.eval p.2):=by simp
  have Rm:=EZ;rw[<-hpe,<-sN]at Rm;simp at Rm;have HF:Array.range 0= #[]:=rfl;simp[Instr.buildSlice,run_underlying hu,sizeOf,typeInfo,hi,newRow,HF,Rm]
 ·have hpe:(parts.map fun(x:Nat×Operand)=>(x.1,a.eval x.2)).toList=parts.toList.map fun p=>(p.1,a.eval p.2):=by simp
  have:=run_buildSlice (P:=P) w T e len (parts.map fun(x:Nat×Operand)=>(x.1,a.eval x.2)) arr i z hu hi oF (by rw[sN];omega) h0 (by
   rw[hpe,sN];have e2:(Array.range (len*sz)).map (z.cells[· %z.cells.size]!)=madeCells z.cells (len*z.cells.size):=by unfold madeCells;rw[CG,sN]
   rw[e2];exact EZ)
  simp[this]
theorem B3{o:Oper}{T e sz len t:Nat}{parts:Array (Nat×Operand)}{zs ds es:aG}{ms:aH}(hop:o.op=.buildSlice T len parts)(hd:o.dst=some t)(hg:o.guard=none)(ht:t<Γ.nt)
 (hT:vJ P T=some (e,sz)) (hz:tz P e=some zs) (hsz:0<sz) (hsmall:len*sz<=16777216)
 (hf:o9 (kp len sz) (List.replicate len zs).flatten (parts.toList.map fun p=>(p.1,st.ev p.2))=some ds) (habs:wq st.H ds=some (es,ms)) (hnd:ms.Nodup)
 (h:AO P Γ all rest Q ⟨(t,.acc st.H.length)::st.σ,kill st.H ms++[.row (nV (H6 st.H e 0 ds)) e sz (chunk sz len es)]⟩):AO P Γ all (o::rest) Q st:=by
 intro κ Θ a w hs;obtain⟨arr,b0,hrun,BB,hb0,hal,hdl⟩:=pX hop hT hz hsz hsmall hf hs;obtain⟨ρ,SW⟩:=hs.kx;obtain⟨Θ1,ρ1,hs1,hu1,hm1,hz1,HG⟩:=cN.Dm ms hs SW hnd (D5 habs);obtain⟨bs,q1,q2,q3⟩:=EK (H:=st.H) (ρ:=ρ1) habs hnd BB (fun b hb=>hz1 b (hb0 b hb)) hm1 e 0;have hel:es.length=len*sz:=by rw[<-q1.length,BB.length,hdl]
 obtain⟨c1,c2,c3⟩:=u7 sz len es hel;have hs':=hs1.newRow hu1 (u:=H6 st.H e 0 ds) (ms:=ms) (e:=e) (sz:=sz) (cap:=len) (rows:=chunk sz len es) (bs:=bs) arr hsz c3 hal (by rw[c1];exact b8 _)
  (by unfold maxLen;have:len*1<=len*sz:=ij _ hsz;omega) (by rw[c1,c2,ed (by simp[hal])];exact q1) q2
  (by
   intro m hm x hH;rcases iv hH with h|⟨h,_⟩
   ·subst h;rfl
   ·exact absurd hm h) (fun hq=>⟨(q3 hq).1,(q3 hq).2.1,by rw[c1,c2,ed (by simp[hal])];exact(q3 hq).2.2⟩)
 refine wpList_plain hg fun K hK=>?_
 unfold Oper.wp;rw[hrun,Oper.upon_value,hd];rw[c1,dH]at hs';refine hK _ _ (h _ _ _ _ (hs'.set (t:=t) (d:=.acc st.H.length) (bs:=[]) ht ?_ (by simp)));exact(oz.acc st.H.length _ (by simp[oG])).Bq
end
end Go.Cx
namespace Go.Cx
open Go.RowKit
section
variable{P:Program}{Γ:lY}{Q:Exit->St->Prop}{st:St}{κ:Nat->Option Value}{Θ:Nat->Nat}{a:Act}{w:World}{all:Array Oper}{rest:List Oper}
theorem ze(w:World)(t ty e:TypeId)(i:TypeInfo)(ht:P.underlying t=some (.slice e))(hi:P.info? e=some i)(b:Option Addr)(n cap:Nat)(hn:n<=cap):
 (Builtin.append_ #[t,t] ty #[.slice b n cap,.slice none 0 0]).run P w=.ok (.slice b n cap) w:=by
 cases b<;>simp[Builtin.append_,run_underlying ht,sizeOf,typeInfo,hi,Builtin.lenOf,Builtin.firstCells,hn,storeCells]
structure Hf(w:World)(Θ ρ:Nat->Nat)(e sz:Nat)(v:Value)(rows:List (List D))(u1:Bool)(i1:Nat)(bs:List Nat)(cs:List Value):Prop where
 rl:∀r∈rows,r.length=sz
 own:w.ownsRow 0 e sz v rows.length cs
 rd:gG w cs rows.flatten bs
 zero:∀b∈bs,Θ b=0
 top:∀g,v.ownBlock=some g->Θ g=i1+2
 uq:u1=true->bs.Nodup/\∀b∈bs,ρ b=i1+1
 P8:u1=true->ng w (mX e) 0 cs rows.flatten bs
structure C0(w:World)(Θ ρ:Nat->Nat)(e sz:Nat)(u:Value)(rows:List (List D))(u2:Bool)(i2:Nat)(bs:List Nat)(cs:List Value):Prop where
 rl:∀r∈rows,r.length=sz
 at_:(u=.slice none 0 0/\rows=[])\/∃ad c,u=.slice (some ad) rows.length c/\∀j x,cs[j]?=some x->w.cell? (ad.add j)=some x
 rd:gG w cs rows.flatten bs
 zero:∀b∈bs,Θ b=0
 uq:u2=true->bs.Nodup/\∀b∈bs,ρ b=i2+1
 P8:u2=true->ng w (mX e) 0 cs rows.flatten bs
theorem EN{T e sz i1 i2:Nat}{v u:Value}{rows dF:List aG}{u1 u2:Bool}{b1 b2:aH}{c1 c2:aq}{ρ:Nat->Nat}{zs:aG}{ty:TypeId}(hT:vJ P T=some (e,sz))(hz:tz P e=some zs)(hsz:0<sz)
 (hS:Hf w Θ ρ e sz v rows u1 i1 b1 c1) (hX:C0 w Θ ρ e sz u dF u2 i2 b2 c2) (h63:rows.length+dF.length<=maxLen) (hby:(rows.length+dF.length)*Jk P e<=140737488355328):
 ∃v' w',(Builtin.append_ #[T,T] ty #[v,u]).run P w=.ok v' w'/\w'.ownsRow 0 e sz v' (rows++dF).length (c1++c2)/\w.grownBy w' v.ownBlock/\(v'.ownBlock=v.ownBlock\/v'.ownBlock=some w.heap.size)/\
  gG w (c1++c2) (rows++dF).flatten (b1++b2):=by
 obtain⟨hu,_,xV⟩:=jA hT;obtain⟨i,z,hi,oF,CG,hlen,hone,rfl⟩:=nZ hz;have sN:i.size=sz:=by rw[<-xV];simp[oX,Program.cellsOf,hi]
 have hib:i.bytes=Jk P e:=by simp[Jk,Program.bytesOf,hi]
 have hr:gG w (c1++c2) (rows++dF).flatten (b1++b2):=by rw[fB];exact hS.rd.app hX.rd
 have su:c2.length=dF.length*sz:=by rw[hX.rd.length,iL hX.rl]
 rcases hX.at_ with⟨rfl,rfl⟩|⟨ad,c,rfl,hcell⟩
 ·have hc:c2=[]:=bn (by simpa using su);subst hc;have hv:∃b n cap,v=.slice b n cap/\n<=cap:=by
   rcases hS.own.2 with⟨rfl,_⟩|⟨g,cap,cur,rfl,_,_,hn,_⟩
   ·exact⟨_,_,_,rfl,b8 _⟩
   ·exact⟨_,_,_,rfl,hn⟩
  obtain⟨b,n,cap,rfl,hn⟩:=hv;exact⟨_,w,ze w T ty e i hu hi b n cap hn,by simpa using hS.own,⟨rfl,rfl,rfl,b8 _,fun _ _ _=>rfl⟩,.inl rfl,hr⟩
 ·obtain⟨v',w',q1,q2,q3,_,q5⟩:=run_append_own_at (P:=P) w 0 T ty e i z sz (Jk P e) hu hi oF sN hib (by rw[CG,sN]) hsz v rows.length c1 hS.own ad dF.length c c2 su hcell hX.rd.one h63 hby (tg _);exact⟨v',w',q1,by simpa using q2,q3,q5,hr⟩
theorem GD{o:Oper}{T e sz t:Nat}{s x:Operand}{rows dF:List aG}{zs:aG}{u:Bool}{ks:aH}(hop:o.op=.call {callee:=.builtin .append,args:= #[s,x],argTypes:= #[T,T]})
 (hd:o.dst=some t) (hg:o.guard=none) (ht:t<Γ.nt) (hT:vJ P T=some (e,sz)) (hz:tz P e=some zs) (hsz:0<sz)
 (h63:rows.length+dF.length<=maxLen) (hby:(rows.length+dF.length)*Jk P e<=140737488355328)
 (hin:∀κ Θ a w ρ,cN Γ st κ Θ a w->pU Γ st.H κ Θ w ρ->∃u1 u2 i1 i2 b1 b2 c1 c2,Hf w Θ ρ e sz (a.eval s) rows u1 i1 b1 c1/\C0 w Θ ρ e sz (a.eval x) dF u2 i2 b2 c2/\
  (i1∈ks\/i1=st.H.length)/\(u=true->u1=true/\u2=true/\(b2=[]\/(i2∈ks/\i1≠i2))/\I3 e sz=true))
 (h:AO P Γ all rest Q ⟨(t,.acc st.H.length)::st.σ,kill st.H ks++[.row (nV u) e sz (rows++dF)]⟩):AO P Γ all (o::rest) Q st:=by
 intro κ Θ a w hs;obtain⟨ρ,hu⟩:=hs.kx;obtain⟨u1,u2,i1,i2,b1,b2,c1,c2,hS,hX,hi1,hq⟩:=hin κ Θ a w ρ hs hu;obtain⟨v',w',hrun,hown,Oc,GQ,hrd⟩:=EN (P:=P) (ty:=o.type) hT hz hsz hS hX h63 hby;refine wpList_plain hg fun K hK=>?_
 have DS:(execOp a.eval o).run P w=.ok (.value v') w':=by
  simp only[execOp,hop,resolve,invoke,builtin,Sem.run_bind,Sem.run_pure,Result.andThen_ok,j7,ax,bI,hrun]
 unfold Oper.wp;rw[DS,Oper.upon_value,hd];let id:=st.H.length
 let Θ':Nat->Nat:=fun b=>if some b=v'.ownBlock then id+2 else Θ b
 have K3:∀g,v'.ownBlock=some g->Θ g=i1+2\/g=w.heap.size:=by
  intro g GU;rcases GQ with h|h
  ·exact .inl (hS.top g (h▸GU))
  ·rw[h]at GU;cases GU;exact .inr rfl
 have hnew:Θ w.heap.size=0:=by
  cases h0:Θ w.heap.size with
  |zero=>rfl
  |succ n=>exact absurd (hs.own w.heap.size (by omega)) (by omega)
 have k:eT w w' Θ Θ' (i1+2):=by
  refine⟨by omega,Oc.os,Oc.tape,Oc.output,Oc.size,fun b hb hne=>Oc.block b hb (fun e=>hne (hS.top b e.symm)),fun b hb hne=>?_,fun b hb=>?_⟩
  ·simp only[Θ'];rw[ar];intro e;rcases K3 b e.symm with h|h
   ·exact hne h
   ·omega
  ·simp only[Θ']at hb;split at hb
   ·rename_i e;exact(hown.lt b e.symm).2
   ·exact bw (hs.own b hb) Oc.size
 have hm:∀b,2<=Θ' b->oy Γ b:=by
  intro b hb;simp only[Θ']at hb;split at hb
  ·rename_i e;rcases K3 b e.symm with h|h
   ·exact hs.mine b (by omega)
   ·exact .inl (by rw[h];exact hs.base)
  ·exact hs.mine b hb
 have hn:=nj (hs.jN id (b8 _)) (some v');have hv1:v'.oneCell'=true:=by
  rcases hown.2 with⟨rfl,_⟩|⟨g,cap,cur,rfl,_⟩<;>rfl
 have oF:∀b∈b1++b2,Θ b=0:=by
  intro b hb;rcases aF.1 hb with hb|hb
  ·exact hS.zero b hb
  ·exact hX.zero b hb
 obtain⟨BG,zl⟩:=gG.over k hrd oF;have hrl:∀r∈rows++dF,r.length=sz:=by
  intro r hr;rcases aF.1 hr with hr|hr
  ·exact hS.rl r hr
  ·exact hX.rl r hr
 have uf:∀g,v'.ownBlock=some g->Θ' g=id+2:=fun g GU=>by simp only[Θ'];rw[bG GU.symm]
 have key:∀(j:Nat) y,(kill st.H ks++[.row (nV u) e sz (rows++dF)])[j]?=some y->(j=id/\y=.row (nV u) e sz (rows++dF))\/(j≠id/\(y=.gone\/(j∉ks/\st.H[j]?=some y))):=by
  intro j y hj;rcases rV j y hj with⟨h1,h2⟩|⟨h1,h2⟩
  ·rw[dH]at h1;exact .inl ⟨h1,h2⟩
  ·rw[dH]at h1;exact .inr ⟨h1,iv h2⟩
 have hne:∀(j:Nat) y,j∉ks->st.H[j]?=some y->j+2≠i1+2:=by
  intro j y hj hy;have:=(aB.1 hy).1;rcases hi1 with h|h
  ·intro e;exact hj (by
    have:j=i1:=by omega
    rw[this];exact h)
  ·omega
 have lF:=hs.iw k hn hu;let ρ':Nat->Nat:=fun b=>if u=true/\(b∈b1\/b∈b2)then id+1 else ρ b
 have hold:∀(j:Nat) y,j∉ks->st.H[j]?=some y->∀b,ρ b=j+1->ρ' b=j+1:=by
  intro j y hjk hy b hb;simp only[ρ'];rw[ar]
  ·exact hb
  ·rintro⟨n8,hmem⟩;obtain⟨p1,p2,p3,_⟩:=hq n8;rcases hmem with h|h
   ·have:=(hS.uq p1).2 b h;exact hne j _ hjk hy (by omega)
   ·have:=(hX.uq p2).2 b h;rcases p3 with h0|⟨h0,_⟩
    ·rw[h0]at h;cases h
    ·have:j=i2:=by omega
     subst this;exact hjk h0
 have hU:pU Γ (kill st.H ks++[.row (nV u) e sz (rows++dF)]) (oG κ id (some v')) Θ' w' ρ':=by
  refine⟨fun b hb=>?_,fun j e' sz' cU hj=>?_,fun j x hj=>?_⟩
  ·simp only[ρ']at hb;split at hb
   ·rename_i hc;obtain⟨n8,hmem⟩:=hc;obtain⟨q1,q2,q3,_⟩:=hq n8;rcases hmem with h|h
    ·exact lF.1 b (by rw[(hS.uq q1).2 b h];omega)
    ·exact lF.1 b (by rw[(hX.uq q2).2 b h];omega)
   ·exact lF.1 b hb
  ·rcases key j _ hj with⟨rfl,hy⟩|⟨_,hy|⟨hjk,hy⟩⟩
   ·cases n8:u with
    |false=>rw[n8]at hy;simp[nV]at hy
    |true=>
     rw[n8]at hy;simp only[nV,Ob.row.injEq,pS]at hy;obtain⟨rfl,rfl,rfl⟩:=hy;obtain⟨q1,q2,q3,q8⟩:=hq n8;have hF:ng w (mX e') 0 (c1++c2) (rows++dF).flatten (b1++b2):=by
      rw[fB];refine(hS.P8 q1).app ?_;rw[iL hS.rl];exact(hX.P8 q2).rows q8
     refine⟨v',c1++c2,b1++b2,gQ _ _ _,hown,hF.over k oF,?_,fun b hb=>?_⟩
     ·obtain⟨n1,r1⟩:=hS.uq q1;obtain⟨n2,r2⟩:=hX.uq q2;refine aZ.2 ⟨n1,n2,fun y hy z hz hyz=>?_⟩;subst hyz;rcases q3 with h|⟨_,h⟩
      ·rw[h]at hz;cases hz
      ·have:=r1 y hy;have:=r2 y hz;omega
     ·simp only[ρ'];rw[bG ⟨n8,aF.1 hb⟩]
   ·cases hy
   ·obtain⟨v2,cs,bs,q1,q2,q3,q4,q5⟩:=lF.2.1 j e' sz' cU (hne j _ hjk hy) hy;exact⟨v2,cs,bs,q1,q2,q3,q4,fun b hb=>hold j _ hjk hy b (q5 b hb)⟩
  ·rcases key j _ hj with⟨rfl,hy⟩|⟨_,hy|⟨hjk,hy⟩⟩
   ·subst hy;exact Az.ux (Ob.Dn _ _ _ _)
   ·subst hy;trivial
   ·exact(lF.2.2 j x (hne j _ hjk hy) hy).re fun b hb=>hold j _ hjk hy b hb
 have hs':cN Γ ⟨st.σ,kill st.H ks++[.row (nV u) e sz (rows++dF)]⟩ (oG κ id (some v')) Θ' a w':=by
  refine hs.step k hm hn ?_ ?_ ?_ ⟨ρ',hU⟩
  ·intro i hi;simp only[af,aR,bC,dH]at hi;unfold oG;rw[ar (by omega)];exact hs.jN i (by omega)
  ·intro i y hy;unfold oG at hy;split at hy
   ·cases hy;exact hv1
   ·exact hs.j9 i y hy
  ·intro j y hj;rcases key j y hj with⟨rfl,rfl⟩|⟨_,hy|⟨hjk,hy⟩⟩
   ·exact .inr (.inr ⟨hsz,hrl,v',_,_,gQ _ _ _,hown,BG,uf,by cases u<;>exact zl⟩)
   ·exact .inl hy
   ·exact .inr (.inl ⟨hne j y hjk hy,hy⟩)
 refine hK _ _ (h _ _ _ _ (hs'.set (t:=t) (d:=.acc id) (bs:=[]) ht ?_ (by simp)));exact(oz.acc id _ (gQ _ _ _)).Bq
def D.qH(rows:List aG):Bool:=rows.all fun r=>r.all D.flat
theorem gG.flat{vs:aq}{ds:aG}{bs:aH}(h:gG w vs ds bs)(hf:ds.all D.flat=true):bs=[]:=by
 induction ds generalizing vs bs with
 |nil=>cases h;rfl
 |cons d ds ih=>
  simp only[ck,aM]at hf;cases h with
  |cons v vs _ _ b1 b2 h1 h2 h3=>rw[h2.flat hf.1,ih h3 hf.2];rfl
theorem Hp{e sz i1:Nat}{ρ:Nat->Nat}:Hf w Θ ρ e sz (.slice none 0 0) [] true i1 [] []:=
 ⟨by simp,World.ownsRow_nil w 0 e sz,.nil,by simp,by simp[Value.ownBlock],by simp,fun _=>.nil _⟩
theorem wu{ρ:Nat->Nat}(hs:cN Γ st κ Θ a w)(hu:pU Γ st.H κ Θ w ρ){id e sz:Nat}{k:RK}{rows:List aG}{v:Value}(hk:κ id=some v)(hH:st.H[id]?=some (.row k e sz rows))(ho:k.CW=true):
 ∃bs cs,Hf w Θ ρ e sz v rows k.ub id bs cs:=by
 obtain⟨_,hrl,v2,cs,bs,hk2,hown,hrs,hΘ,hz⟩:=hs.ob id _ hH;rw[hk]at hk2;cases hk2;cases k with
 |cl=>simp[RK.CW]at ho
 |sh=>exact⟨bs,cs,hrl,hown,hrs,hz,hΘ,by simp[RK.ub],by simp[RK.ub]⟩
 |mv n=>exact⟨bs,cs,hrl,hown,hrs,hz,hΘ,by simp[RK.ub],by simp[RK.ub]⟩
 |ho p n=>
  obtain⟨v2,c2,b2,q1,q2,q3,q4,q5,_⟩:=hu.more id _ hH;rw[hk]at q1;cases q1;exact⟨b2,c2,hrl,q2,q3.rd,fun b hb=>(hu.free b (by rw[q5 b hb];omega)).1,hΘ,fun _=>⟨q4,q5⟩,fun _=>q3⟩
 |uq=>
  obtain⟨v2,c2,b2,q1,q2,q3,q4,q5⟩:=hu.rows id e sz rows hH;rw[hk]at q1;cases q1;exact⟨b2,c2,hrl,q2,q3.rd,fun b hb=>(hu.free b (by rw[q5 b hb];omega)).1,hΘ,fun _=>⟨q4,q5⟩,fun _=>q3⟩
theorem D7{ρ:Nat->Nat}(hs:cN Γ st κ Θ a w)(hu:pU Γ st.H κ Θ w ρ){id e sz:Nat}{k:RK}{rows:List aG}{v:Value}(hk:κ id=some v)(hH:st.H[id]?=some (.row k e sz rows))(ho:k.CW=true):
 ∃bs cs,C0 w Θ ρ e sz v rows k.ub id bs cs:=by
 obtain⟨bs,cs,h⟩:=wu hs hu hk hH ho;refine⟨bs,cs,h.rl,?_,h.rd,h.zero,h.uq,h.P8⟩;rcases h.own.2 with⟨rfl,hn⟩|⟨g,cap,cur,rfl,_⟩
 ·exact .inl ⟨rfl,bn hn⟩
 ·exact .inr ⟨_,cap,rfl,h.own.cells (g:=g) (by simp[Value.ownBlock])⟩
theorem C0.sh{e e' sz:Nat}{ρ:Nat->Nat}{u:Value}{rows:List aG}{i:Nat}{bs:aH}{cs:aq}(h:C0 w Θ ρ e' sz u rows false i bs cs):C0 w Θ ρ e sz u rows false i bs cs:=
 ⟨h.rl,h.at_,h.rd,h.zero,h.uq,by simp⟩
theorem Hq{e sz i2:Nat}{ρ:Nat->Nat}:C0 w Θ ρ e sz (.slice none 0 0) [] true i2 [] []:=
 ⟨by simp,.inl ⟨rfl,rfl⟩,.nil,by simp,by simp,fun _=>.nil _⟩
theorem KO{ρ:Nat->Nat}{v:Value}{rows:List aG}{bs:aH}{sz:Nat}(h:Rd w v (.sl rows) bs)(hz:∀b∈bs,Θ b=0)(hrl:∀r∈rows,r.length=sz)(i2:Nat)(fl:Bool)(hf:fl=true->D.qH rows=true)(e:Nat)(he:fl=true->zB e=none):
 ∃b2 cs,C0 w Θ ρ e sz v rows fl i2 b2 cs/\(fl=true->b2=[]):=by
 cases h with
 |oB=>exact⟨[],[],⟨by simp,.inl ⟨rfl,rfl⟩,.nil,by simp,by simp,fun _=>.nil _⟩,by simp⟩
 |iU ad cap hc=>exact⟨[],[],⟨by simp,.inr ⟨ad,cap,rfl,by simp⟩,.nil,by simp,by simp,fun _=>.nil _⟩,by simp⟩
 |sl b off cap sz' _ cs bs' h0 h1 h2 h3 h4 h5=>
  have hfl:fl=true->bs'=[]:=fun e=>h5.flat (by
   have:=hf e;unfold D.qH at this;rw[aO]at this⊢;intro d hd;obtain⟨r,hr,wi⟩:=cu.1 hd;exact aO.1 (this r hr) d wi)
  refine⟨bs',cs,⟨hrl,.inr ⟨_,cap,rfl,fun j x hj=>?_⟩,h5,fun y hy=>hz y (by simp[hy]),fun e=>by rw[hfl e];simp,fun e=>.of h5 (rS (he e))⟩,hfl⟩;have:=h4 j x hj;simpa[Addr.add_lit]using this
end
end Go.Cx
namespace Go.Cx
open Go.RowKit
section
variable{P:Program}{Γ:lY}{Q:Exit->St->Prop}{st:St}{κ:Nat->Option Value}{Θ:Nat->Nat}{a:Act}{w:World}{all:Array Oper}{rest:List Oper}
theorem cR{H:ai}{ms:aH}{j:Nat}(h:j∉ms):(kill H ms)[j]?=H[j]?:=by
 induction ms generalizing H with
 |nil=>rfl
 |cons m ms ih=>
  simp only[aY,yH]at h;simp only[kill];rw[ih h.2,bH (fun e=>h.1 e.symm)]
def RK.after(k:RK)(b:Bool):RK:=match k with
 | .uq=>nV b
 | .mv _=>.sh
 | .ho _ _=>nV b
 |k=>k
theorem RK.GK(k:RK)(b:Bool)(e:TypeId)(sz:Nat)(rows:List aG):(Ob.row (k.after b) e sz rows).ME=false:=by cases k<;>cases b<;>rfl
theorem Cw{o:Oper}{T id i sz off e:Nat}{k0:RK}{x y:Operand}{rows:List aG}{row ds es:aG}{ms:aH}(hop:o.op=.store T x y)(hd:o.dst=none)(hg:o.guard=none)
 (hx:st.ev x=.op id i sz off) (hH:st.H[id]?=some (.row k0 e sz rows)) (hk0:k0.CW=true) (hrow:rows[i]?=some row) (hc:(st.ev y).cellsOf=some ds) (habs:wq st.H ds=some (es,ms)) (hnd:ms.Nodup) (hid:id∉ms)
 (hT:Ck P T=true) (hl:ds.length=oX P T) (hfit:off+ds.length<=sz)
 (h:AO P Γ all rest Q ⟨st.σ,(kill st.H ms).set id (.row (k0.after (H6 st.H e off ds&&I3 e sz)) e sz (rows.set i (row.take off++es++row.drop (off+ds.length))))⟩):AO P Γ all (o::rest) Q st:=by
 intro κ Θ0 a w hs0;obtain⟨b1,r1,_⟩:=hs0.ev x;obtain⟨Vi,r2,Sa⟩:=hs0.ev y;rw[hx]at r1;obtain⟨g,o0,len,cap,hk,hv⟩:=r1.uw;have Rg:=rM hs0.j9 r2 hc;obtain⟨ρ0,Nh⟩:=hs0.kx;obtain⟨Θ,ρ,hs,hu,hm1,hz1,HG⟩:=cN.Dm ms hs0 Nh hnd (D5 habs);obtain⟨b2,PJ,GZ,qJ⟩:=EK (H:=st.H) (ρ:=ρ) habs hnd Rg (fun b hb=>hz1 b (Sa b hb)) hm1 e off;have C9:(kill st.H ms)[id]?=some (.row k0 e sz rows):=by rw[cR hid];exact hH
 obtain⟨bs,cs,hA⟩:=wu hs hu hk C9 hk0;have hrl:=hA.rl;have hown:=hA.own;have Fi:=pE hown;subst Fi;rw[bq]at hv;have hrs:=hA.rd;have hsz:0<sz:=by
  obtain⟨hsz,_⟩:=hs.ob id _ C9;exact hsz
 rcases hown.2 with⟨ua,_⟩|⟨g',cap2,cur,hkv,hb,CE,hnc,hcm,hcs,DT⟩
 ·cases ua
 ·cases hkv;have CI:=hA.top g (by simp[Value.ownBlock]);have hl1:=Rg.length;have hle:es.length=ds.length:=by rw[<-PJ.length,hl1]
  have hilt:i<rows.length:=(aB.1 hrow).1;have NT:(i+1)*sz<=rows.length*sz:=cx _ hilt;have Up:rows.length*sz<=cap*sz:=cx _ hnc;rw[eR,j3]at NT;have Ng:(a.eval y).cells.size=oX P T:=by rw[<-hl,<-hl1];simp
  have V0:(a.eval y).cells.size=ds.length:=by rw[<-hl1];simp
  have hst:=uz (P:=P) (T:=T) (off:=i*sz+off) CE Ng (cT.1 hT) (by omega) Rg.one;have k:=eT.setRow hs (g:=g) (cs:=(cur.toList.take (i*sz+off)++(a.eval y).cells.toList++cur.toList.drop (i*sz+off+(a.eval y).cells.toList.length)).toArray) (tag:=id+2) (by omega) CI;refine wpList_plain hg fun K hK=>?_
  unfold Oper.wp;have hrun:(execOp a.eval o).run P w=.ok .skip (w.setRow g (cur.toList.take (i*sz+off)++(a.eval y).cells.toList++cur.toList.drop (i*sz+off+(a.eval y).cells.toList.length)).toArray):=by
   simp only[execOp,hop,hv];simp[hst]
  rw[hrun,Oper.upon_skip,hd];have hfl:=iL hrl;have e0:rows.flatten=rows.flatten.take (i*sz+off)++((rows.flatten.drop (i*sz+off)).take ds.length++(rows.flatten.drop (i*sz+off)).drop ds.length):=by rw[bK,bK]
  rw[e0]at hrs;obtain⟨v1,v2,c1,c2,za,tR,k1,k2⟩:=hrs.split;obtain⟨v3,v4,c3,c4,rfl,rfl,k3,k4⟩:=k2.split;have l1:v1.length=i*sz+off:=by rw[k1.length,bD];omega
  have l3:v3.length=ds.length:=by rw[k3.length,bD,fZ];omega
  rw[dP]at k4;have hnew:=(k1.app PJ).app k4;have zl:∀b∈((c1++b2)++c4),Θ b=0:=by
   intro b hb;simp only[aF]at hb;rcases hb with(hb|hb)|hb
   ·exact hA.zero b (by rw[tR];simp[hb])
   ·exact GZ b hb
   ·exact hA.zero b (by rw[tR];simp[hb])
  obtain⟨n1,n2⟩:=gG.over k hnew zl;have hfs:=uW (ds:=es) (off:=off) hrl hrow (by omega);rw[hle]at hfs;rw[<-hfs]at n1;have I9:cs.length=rows.length*sz:=hown.1;have PK:cur.toList=v1++(v3++(v4++cur.toList.drop (rows.length*sz))):=by
   have:cur.toList=cs++cur.toList.drop (rows.length*sz):=by rw[<-DT,bK]
   rw[za]at this;simpa using this
  have t1:cur.toList.take (i*sz+off)=v1:=by rw[PK];exact eY l1
  have t2:cur.toList.drop (i*sz+off+(a.eval y).cells.toList.length)=v4++cur.toList.drop (rows.length*sz):=by
   rw[hl1,<-dP]
   conv=>lhs;rw[PK]
   rw[dM l1,dM l3]
  have PX:(v1++(a.eval y).cells.toList++v4).length=rows.length*sz:=by
   have:=I9;rw[za]at this;simp only[af]at this⊢;omega
  have xT:(w.setRow g (cur.toList.take (i*sz+off)++(a.eval y).cells.toList++cur.toList.drop (i*sz+off+(a.eval y).cells.toList.length)).toArray).ownsRow 0 e sz (.slice (some ⟨g,0,none⟩) rows.length cap)
   (rows.set i (row.take off++es++row.drop (off+ds.length))).length (v1++(a.eval y).cells.toList++v4):=by
   refine⟨by simpa using PX,.inr ⟨g,cap,_,by simp,hb,setRow_heap w g cur _ e _ CE,by simpa using hnc,hcm,?_,?_⟩⟩
   ·simp only[gF,af,bD,fZ,jo];omega
   ·rw[t1,t2];simp only[jO];rw[<-cF];exact eY PX
  have zZ:∀r∈rows.set i (row.take off++es++row.drop (off+ds.length)),r.length=sz:=by
   intro r hr;rcases mD hr with hr|rfl
   ·exact hrl r hr
   ·have:=hrl row (aD hrow);simp;omega
  have uf:∀g2,(Value.slice (some ⟨g,0,none⟩) rows.length cap).ownBlock=some g2->Θ g2=id+2:=by
   intro g2 Ff;simp only[Value.ownBlock,aQ]at Ff;subst Ff;exact CI
  refine hK _ _ (h _ _ _ _ (hs.put ms pG (fun _ _ h=>h) (fun i hi=>hs.jN i (by simpa using hi)) hs.j9 k hs.mine ?_ hu ?_ ?_ (RK.GK _ _ _ _ _)))
  ·refine⟨hsz,zZ,_,_,_,hk,xT,n1,uf,?_⟩;cases k0 with
   |cl=>simp[RK.CW]at hk0
   |sh=>exact n2
   |mv n=>exact n2
   |ho p n=>simp only[RK.after];cases(H6 st.H e off ds&&I3 e sz)<;>exact n2
   |uq=>simp only[RK.after];cases(H6 st.H e off ds&&I3 e sz)<;>exact n2
  ·intro m hm x _ vG;rcases iv vG with h|⟨h,_⟩
   ·subst h;rfl
   ·exact absurd hm h
  ·intro e' sz' cU he;cases k0
   case cl=>simp[RK.CW]at hk0
   case sh=>simp[RK.after]at he
   case mv n=>simp[RK.after]at he
   all_goals
    simp only[RK.after]at he;cases hq:(H6 st.H e off ds&&I3 e sz)with
    |false=>rw[hq]at he;simp[nV]at he
    |true=>
     rw[hq]at he;simp only[nV,Ob.row.injEq,pS]at he;obtain⟨rfl,rfl,rfl⟩:=he;rw[aM]at hq;obtain⟨q1,q2,q7⟩:=qJ hq.1;obtain⟨p1,p2⟩:=hA.uq rfl;have T4:=hA.P8 rfl;rw[e0]at T4;obtain⟨x1,x2,y1,y2,ex,ey,s1,s2⟩:=T4.split;obtain⟨x3,x4,y3,y4,rfl,rfl,s3,s4⟩:=s2.split;rw[za]at ex;obtain⟨rfl,UC⟩:=List.append_inj ex (by rw[s1.length,k1.length]);obtain⟨rfl,rfl⟩:=List.append_inj UC (by rw[s3.length,k3.length]);have Sv:(rows.flatten.take (i*sz+off)).length=i*sz+off:=by rw[<-k1.length];exact l1
     have VG:((rows.flatten.drop (i*sz+off)).take ds.length).length=ds.length:=by rw[<-k3.length];exact l3
     rw[dP]at s4;have q8:=q7.rows (n:=i) hq.2;have hF:=(s1.app (by rw[Sv];rwa[show 0+(i*sz+off)=off+i*sz by omega])).app (us:=v4) (es:=rows.flatten.drop (i*sz+off+ds.length)) (cs:=y4) (by rw[af,Sv,hle];rwa[Sv,VG,fJ]at s4);rw[<-hfs]at hF;have V3:∀b∈((y1++b2)++y4),Θ b=0:=by
      intro b hb;simp only[aF]at hb;rcases hb with(hb|hb)|hb
      ·exact hA.zero b (by rw[ey];simp[hb])
      ·exact GZ b hb
      ·exact hA.zero b (by rw[ey];simp[hb])
     refine⟨_,_,_,hk,xT,hF.over k V3,?_,fun b hb=>?_⟩
     all_goals rw[ey]at p1 p2
     all_goals obtain⟨m1,m2,m3⟩:=aZ.1 p1
     all_goals obtain⟨m4,m5,m6⟩:=aZ.1 m2
     ·refine aZ.2 ⟨aZ.2 ⟨m1,q1,fun x hx y hy e=>?_⟩,m5,fun x hx y hy e=>?_⟩
      ·subst e;obtain⟨m,hm,he⟩:=q2 x hy;have:=p2 x (by simp[hx]);exact hid (by
        have:id=m:=by omega
        rw[this];exact hm)
      ·subst e;rcases aF.1 hx with hx|hx
       ·exact m3 x hx x (by simp[hy]) rfl
       ·obtain⟨m,hm,he⟩:=q2 x hx;have:=p2 x (by simp[hy]);exact hid (by
         have:id=m:=by omega
         rw[this];exact hm)
     ·simp only[aF]at hb;rcases hb with(hb|hb)|hb
      ·exact .inl (p2 b (by simp[hb]))
      ·exact .inr (q2 b hb)
      ·exact .inl (p2 b (by simp[hb]))
end
end Go.Cx
