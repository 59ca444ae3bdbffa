/- The core of an abstract reading of Go's data: what a value shows in memory (D), which blocks it uses, and that this stays where those blocks stay. No condition; plain lemmas. -/
import Derived.WalkKit
import Derived.ProofKit
import Derived.Deep.LoopGhost
import Derived.MapKept
import Derived.Great.BuildSlice
import Derived.Maps.AppendAt
set_option linter.unusedVariables false
set_option linter.unusedSimpArgs false
namespace Go.Cx
open Go.RowKit
set_option linter.defProp false
def aA:=@Option.bind_some
def aD:=@List.mem_of_getElem?
def aF:=@List.getElem?_eq_some_iff
def aH:=@cond_true
def aR:=@Bool.and_eq_true
def aS:=@cond_false
def aT:=@List.length_cons
def aU:=@List.mem_append
def aa:=@List.getElem?_eq_getElem
def ai:=@List.all_eq_true
def aj:=@Option.some.injEq
def ar:=@List.length_append
def au:=@List.length_map
def av:=@List.getElem?_append_left
def ay:=@List.map_cons
def az:=@List.getElem?_append_right
def b8:=@if_neg
def bA:=@decide_eq_true_eq
def bC:=@Array.getElem?_eq_some_iff
def bD:=@decide_eq_true
def bE:=@List.mem_cons
def bH:=@List.nodup_append
def bI:=@List.map_append
def bL:=@if_pos
def bM:=@decide_eq_false
def bO:=@Nat.le_refl
def bW:=@List.length_nil
def bY:=@of_decide_eq_true
def bf:=@List.mem_range
def bg:=@List.mem_flatMap
def bh:=@Bool.not_true
def bn:=@Bool.eq_iff_iff
def br:=@List.map_drop
def bt:=@List.map_nil
def bu:=@List.getElem?_map
def bw:=@List.length_take
def bz:=@List.mem_of_mem_take
def cA:=@List.mem_map
def cB:=@List.map_take
def cE:=@List.getElem?_set_ne
def cG:=@List.mem_filterMap
def cH:=@Array.getD_eq_getD_getElem?
def cI:=@List.mem_singleton
def cJ:=@List.take_append_drop
def cN:=@Nat.zero_add
def cO:=@List.eq_nil_of_length_eq_zero
def cQ:=@List.getElem?_eq_none
def cR:=@Array.getElem?_eq_getElem
def cS:=@List.getElem?_take
def cT:=@List.foldl_cons
def cU:=@Option.map_some
def cV:=@beq_iff_eq
def cY:=@Prod.mk.injEq
def cc:=@List.append_assoc
def cm:=@List.flatMap_cons
def cq:=@Nat.lt_of_lt_of_le
def cr:=@Nat.mul_le_mul_left
def cu:=@beq_eq_false_iff_ne
def cy:=@Bool.not_false
def cz:=@List.any_eq_true
def dA:=@List.append_nil
def dD:=@List.all_cons
def dF:=@List.getElem?_set_self
def dM:=@List.nil_append
def dN:=@List.nodup_cons
def dQ:=@Nat.add_sub_cancel_left
def dR:=@Classical.byContradiction
def dS:=@List.length_singleton
def dW:=@Nat.mul_le_mul_right
def dZ:=@List.mem_reverse
def dh:=@Nat.le_trans
def eF:=@Nat.lt_or_ge
def eH:=@Bool.true_and
def eL:=@List.getElem?_of_mem
def eM:=@List.mem_iff_getElem
def eN:=@Option.isSome_iff_exists
def eP:=@List.flatten_cons
def eR:=@List.length_set
def eX:=@Array.getElem?_append_left
def eY:=@List.getElem?_drop
def fF:=@List.mem_flatten
def fG:=@Nat.min_eq_left
def fc:=@List.drop_left'
def fe:=@List.drop_drop
def ff:=@List.getElem?_cons_succ
def gH:=@List.getElem?_set
def gL:=@List.mem_of_mem_drop
def gj:=@List.mem_filter
def gm:=@Array.toList_map
def hY:=@List.getElem?_toArray
def ic:=@List.take_left'
def iy:=@List.getElem_mem
def jF:=@List.flatten_append
def jY:=@Array.getElem?_toList
def jZ:=@Nat.le_of_ble_eq_true
def k6:=@Array.toArray_toList
def k7:=@Nat.add_mul
def kj:=@Nat.add_assoc
def kr:=@List.getD_eq_getElem?_getD
def kw:=@List.take_of_length_le
def kx:=@Option.mem_toList
def lR:=@Array.toList_append
def lq:=@Option.some.inj
def mH:=@Array.mapM_eq_mapM_toList
def mI:=@List.mem_or_eq_of_mem_set
def mL:=@List.set_append_right
def mQ:=@List.pairwise_cons
def nE:=@List.cons.inj
def nH:=@List.getLast?_concat
def nI:=@Nat.one_mul
def nW:=@Int.eq_ofNat_of_zero_le
def nX:=@List.ext_getElem?
def nY:=@Option.bind_eq_some_iff
def nu:=@Bool.or_eq_true
def oB:=@List.map_congr_left
def oT:=@List.length_drop
def oU:=@List.map_toArray
def oV:=@beq_self_eq_true
def p9:=@if_true
def pT:=@Bool.not_eq_true'
def pU:=@Int.toNat_natCast
def pV:=@Nat.sub_self
def pW:=@Prod.mk.inj
def qN:=@List.length_erase_of_mem
def qn:=@Array.toList_inj
def qo:=@List.cons_append
def qp:=@decide_eq_false_iff_not
def qt:=@true_and
def rU:=@Array.getElem?_eq_none
def rV:=@Nat.add_zero
def rW:=@Ne.symm
def sR:=@Bool.false_or
def sS:=@Bool.or_false
def tH:=@List.take_take
def tI:=@Nat.pow_le_pow_right
def tY:=@Option.getD_some
def uB:=@List.drop_eq_getElem_cons
def uC:=@List.exists_mem_of_ne_nil
def uI:=@Array.length_toList
def uJ:=@List.take_succ_cons
def uQ:=@List.getElem?_take_of_lt
def ug:=@Nat.not_lt_zero
def uo:=@Array.all_eq_true'
def ur:=@Nat.lt_or_gt_of_ne
def vZ:=@Bool.and_false
def vb:=@List.drop_eq_nil_of_le
def vc:=@List.size_toArray
def ve:=@Nat.lt_trichotomy
def vf:=@Nat.pow_succ
def vg:=@Nat.sub_zero
def wN:=@Array.getElem?_modify
def wO:=@List.concat_eq_append
def wP:=@List.eq_nil_or_concat
def wh:=@Bool.not_eq_true
def wi:=@List.eq_nil_iff_forall_not_mem
def wj:=@List.take_length
def wk:=@eq_iff_iff
def xG:=@Bool.and_true
def xJ:=@List.Pairwise.filter
def xK:=@if_false
def xx:=@Option.map_none
def yO:=@List.filterMap_cons
def yd:=@Nat.succ_mul
def z7:=@Array.getElem_append_right
def z8:=@Bool.false_eq_true
def zA:=@List.drop_zero
def zB:=@List.filter_filter
def zC:=@Nat.add_sub_cancel
def A8:=@Array.getElem_append_left
def AG:=@List.filter_congr
def AU:=@List.any_cons
def AV:=@List.eq_of_mem_replicate
def AX:=@not_or
def Az:=@List.getElem?_cons_zero
def B0:=@List.nodup_range
def B1:=@Nat.le_mul_of_pos_right
def Bp:=@Int.le_of_lt
def Bq:=@Int.le_trans
def Br:=@List.drop_of_length_le
def Bs:=@List.getElem_cons_drop
def Bt:=@List.length_pos_of_mem
def Bu:=@List.map_map
def Bv:=@Nat.mul_comm
def Cf:=@Int.ediv_nonneg
def Ct:=@Bool.and_eq_false_iff
def Cu:=@List.length_filter_le
def Cv:=@List.length_replicate
def Cw:=@List.pairwise_flatMap
def Cy:=@List.singleton_append
def Cz:=@UInt8.lt_iff_toNat_lt
def Dh:=@List.mapM_cons
def Di:=@Nat.zero_le
def Dj:=@decide_true
def GK:=@Nat.mul_assoc
def Hg:=@List.all_map
def Hh:=@List.any_nil
abbrev Bytes:=List UInt8
inductive D where
 |any
 |nil
 |int (k:IntKind) (n:Int)
 |bool (b:Bool)
 |str (s:Bytes)
 |sl (rows:List (List D))
 |agg (cells:List D)
 |gw (vs:List D)
 |ep (row:List D) (off:Nat)
 |acc (id:Nat)
 |ptr (id off:Nat)
 |op (id i sz off:Nat)
 |val (v:Value)
 |fr (e:TypeId) (sz:Nat) (rows:List (List D))
 |pt (cells:List D)
 |ifc (b:Bool)
def pF(k:IntKind)(n:Int):Prop:=k.min<=n/\n<=k.max
instance (k:IntKind) (n:Int):Decidable (pF k n):=by unfold pF;infer_instance
theorem pF.wrap(k:IntKind)(n:Int):pF k (k.wrap n):=by
 unfold pF;cases k<;>simp[IntKind.min,IntKind.max,IntKind.wrap,IntKind.bits,IntKind.signed]<;>(try split)<;>omega
theorem pF.i64{n:Int}:pF .i64 n↔ -9223372036854775808<=n/\n<=9223372036854775807:=by
 simp[pF,IntKind.min,IntKind.max,IntKind.bits,IntKind.signed]
theorem pF.u8{n:Int}:pF .u8 n↔0<=n/\n<=255:=by
 simp[pF,IntKind.min,IntKind.max,IntKind.bits,IntKind.signed]
theorem pF.zero(k:IntKind):pF k 0:=by
 unfold pF;cases k<;>simp[IntKind.min,IntKind.max,IntKind.bits,IntKind.signed]
theorem pF.down{k:IntKind}{n m:Int}(h:pF k n)(h0:0<=m)(h1:m<=n):pF k m:=
 ⟨Bq (pF.zero k).1 h0,Bq h1 h.2⟩
mutual
inductive Rd(w:World):Value->D->List Nat->Prop
 |any (v:Value):Rd w v .any []
 |nil:Rd w (.slice none 0 0) .nil []
 |int (k:IntKind) (n:Int):pF k n->Rd w (.int k n) (.int k n) []
 |bool (b:Bool):Rd w (.bool b) (.bool b) []
 |str (s:ByteArray):s.size<=maxLen->Rd w (.string s) (.str s.data.toList) []
 |val (v:Value):Rd w v (.val v) []
 |wI:Rd w (.slice none 0 0) (.sl []) []
 |lP (a:Addr) (cap:Nat):cap<=maxLen->Rd w (.slice (some a) 0 cap) (.sl []) []
 |sl (b off cap sz:Nat) (rows:List (List D)) (cs:List Value) (bs:List Nat):b<w.heap.size->rows.length<=cap->cap<=maxLen->
  (∀r∈rows,r.length=sz)->(∀j c,cs[j]?=some c->w.cell? ⟨b,off+j,none⟩=some c)->mR w cs rows.flatten bs->
  Rd w (.slice (some ⟨b,off,none⟩) rows.length cap) (.sl rows) (b::bs)
 |agg (cs:List Value) (ds:List D) (bs:List Nat):mR w cs ds bs->Rd w (.agg cs.toArray) (.agg ds) bs
 |ep (b off:Nat) (cs:List Value) (row:List D) (o:Nat) (bs:List Nat):b<w.heap.size->(∀j c,cs[j]?=some c->w.cell? ⟨b,off+j,none⟩=some c)->
  mR w cs row bs->Rd w (.pointer (some ⟨b,off+o,none⟩)) (.ep row o) (b::bs)
 |UJ:Rd w .nilIface (.ifc false) []
 |UK (t:TypeId) (v:Value):Rd w (.iface t v) (.ifc true) []
inductive mR(w:World):List Value->List D->List Nat->Prop
 |nil:mR w [] [] []
 |cons (v:Value) (vs:List Value) (d:D) (ds:List D) (b1 b2:List Nat):v.oneCell'=true->Rd w v d b1->mR w vs ds b2->mR w (v::vs) (d::ds) (b1++b2)
end
section
variable{w w':World}
theorem B3{b o:Nat}(h:w'.heap[b]?=w.heap[b]?):w'.cell? ⟨b,o,none⟩=w.cell? ⟨b,o,none⟩:=World.cell?_of_block (a:=⟨b,o,none⟩) h
theorem Ir{b:Nat}(hb:b<w.heap.size)(h:w'.heap[b]?=w.heap[b]?):b<w'.heap.size:=by
 rw[cR hb]at h;exact(bC.1 h).1
theorem NX:
 (∀ {v d bs},Rd w v d bs->(∀b∈bs,w'.heap[b]?=w.heap[b]?)->Rd w' v d bs)/\
 (∀ {vs ds bs},mR w vs ds bs->(∀b∈bs,w'.heap[b]?=w.heap[b]?)->mR w' vs ds bs):=by
 have key:∀(m1:∀v d bs,Rd w v d bs->Prop) (m2:∀vs ds bs,mR w vs ds bs->Prop),
  m1=(fun v d bs _=>(∀b∈bs,w'.heap[b]?=w.heap[b]?)->Rd w' v d bs)->m2=(fun vs ds bs _=>(∀b∈bs,w'.heap[b]?=w.heap[b]?)->mR w' vs ds bs)->
  (∀v d bs h,m1 v d bs h)/\(∀vs ds bs h,m2 vs ds bs h):=by
  intro m1 m2 e1 e2;subst e1;subst e2;constructor
  all_goals intro v d bs h
  ·refine Rd.rec (motive_1:=fun v d bs _=>(∀b∈bs,w'.heap[b]?=w.heap[b]?)->Rd w' v d bs) (motive_2:=fun vs ds bs _=>(∀b∈bs,w'.heap[b]?=w.heap[b]?)->mR w' vs ds bs) ?_ ?_ ?_ ?_ ?_ ?_ ?_ ?_ ?_ ?_ ?_ ?_ ?_ ?_ ?_ h
   ·intro v _;exact .any _
   ·intro _;exact .nil
   ·intro k n h _;exact .int _ _ h
   ·intro b _;exact .bool _
   ·intro s h _;exact .str _ h
   ·intro v _;exact .val _
   ·intro _;exact .wI
   ·intro a cap h _;exact .lP a cap h
   ·intro b off cap sz rows cs bs h0 h1 h2 h3 h4 _ ih hb;exact .sl b off cap sz rows cs bs (Ir h0 (hb b (by simp))) h1 h2 h3 (fun j c hc=>(B3 (hb b (by simp))).trans (h4 j c hc)) (ih (fun x hx=>hb x (by simp[hx])))
   ·intro cs ds bs _ ih hb;exact .agg cs ds bs (ih hb)
   ·intro b off cs row o bs h0 h4 _ ih hb;exact .ep b off cs row o bs (Ir h0 (hb b (by simp))) (fun j c hc=>(B3 (hb b (by simp))).trans (h4 j c hc)) (ih (fun x hx=>hb x (by simp[hx])))
   ·intro _;exact .UJ
   ·intro t v _;exact .UK t v
   ·intro _;exact .nil
   ·intro v vs d ds b1 b2 h1 _ _ ih1 ih2 hb;exact .cons v vs d ds b1 b2 h1 (ih1 (fun x hx=>hb x (by simp[hx]))) (ih2 (fun x hx=>hb x (by simp[hx])))
  ·refine mR.rec (motive_1:=fun v d bs _=>(∀b∈bs,w'.heap[b]?=w.heap[b]?)->Rd w' v d bs) (motive_2:=fun vs ds bs _=>(∀b∈bs,w'.heap[b]?=w.heap[b]?)->mR w' vs ds bs) ?_ ?_ ?_ ?_ ?_ ?_ ?_ ?_ ?_ ?_ ?_ ?_ ?_ ?_ ?_ h
   ·intro v _;exact .any _
   ·intro _;exact .nil
   ·intro k n h _;exact .int _ _ h
   ·intro b _;exact .bool _
   ·intro s h _;exact .str _ h
   ·intro v _;exact .val _
   ·intro _;exact .wI
   ·intro a cap h _;exact .lP a cap h
   ·intro b off cap sz rows cs bs h0 h1 h2 h3 h4 _ ih hb;exact .sl b off cap sz rows cs bs (Ir h0 (hb b (by simp))) h1 h2 h3 (fun j c hc=>(B3 (hb b (by simp))).trans (h4 j c hc)) (ih (fun x hx=>hb x (by simp[hx])))
   ·intro cs ds bs _ ih hb;exact .agg cs ds bs (ih hb)
   ·intro b off cs row o bs h0 h4 _ ih hb;exact .ep b off cs row o bs (Ir h0 (hb b (by simp))) (fun j c hc=>(B3 (hb b (by simp))).trans (h4 j c hc)) (ih (fun x hx=>hb x (by simp[hx])))
   ·intro _;exact .UJ
   ·intro t v _;exact .UK t v
   ·intro _;exact .nil
   ·intro v vs d ds b1 b2 h1 _ _ ih1 ih2 hb;exact .cons v vs d ds b1 b2 h1 (ih1 (fun x hx=>hb x (by simp[hx]))) (ih2 (fun x hx=>hb x (by simp[hx])))
 obtain⟨k1,k2⟩:=key _ _ rfl rfl;exact⟨fun h=>k1 _ _ _ h,fun h=>k2 _ _ _ h⟩
theorem Rd.keep{v:Value}{d:D}{bs:List Nat}(h:Rd w v d bs)(hb:∀b∈bs,w'.heap[b]?=w.heap[b]?):Rd w' v d bs:=NX.1 h hb
theorem mR.keep{vs:List Value}{ds:List D}{bs:List Nat}(h:mR w vs ds bs)(hb:∀b∈bs,w'.heap[b]?=w.heap[b]?):mR w' vs ds bs:=NX.2 h hb
theorem Rd.lt{v:Value}{d:D}{bs:List Nat}(h:Rd w v d bs):∀b∈bs,b<w.heap.size:=by
 refine Rd.rec (motive_1:=fun v d bs _=>∀b∈bs,b<w.heap.size) (motive_2:=fun vs ds bs _=>∀b∈bs,b<w.heap.size) ?_ ?_ ?_ ?_ ?_ ?_ ?_ ?_ ?_ ?_ ?_ ?_ ?_ ?_ ?_ h
 case refine_9=>
  intro b off cap sz rows cs bs h0 h1 h2 h3 h4 _ ih x hx;rcases bE.1 hx with rfl|hx
  ·exact h0
  ·exact ih x hx
 case refine_10=>intro cs ds bs _ ih;exact ih
 case refine_11=>
  intro b off cs row o bs h0 h4 _ ih x hx;rcases bE.1 hx with rfl|hx
  ·exact h0
  ·exact ih x hx
 case refine_15=>
  intro v vs d ds b1 b2 h1 _ _ ih1 ih2 x hx;rcases aU.1 hx with hx|hx
  ·exact ih1 x hx
  ·exact ih2 x hx
 all_goals intros;simp_all
theorem mR.lt{vs:List Value}{ds:List D}{bs:List Nat}(h:mR w vs ds bs):∀b∈bs,b<w.heap.size:=by
 induction ds generalizing vs bs with
 |nil=>cases h;simp
 |cons d ds ih=>
  cases h with
  |cons v vs _ _ b1 b2 h1 h2 h3=>
   intro x hx;rcases aU.1 hx with hx|hx
   ·exact h2.lt x hx
   ·exact ih h3 x hx
theorem mR.length{vs:List Value}{ds:List D}{bs:List Nat}(h:mR w vs ds bs):vs.length=ds.length:=by
 induction ds generalizing vs bs with
 |nil=>cases h;rfl
 |cons d ds ih=>cases h with|cons v vs _ _ b1 b2 h1 h2 h3=>simp[ih h3]
theorem mR.one{vs:List Value}{ds:List D}{bs:List Nat}(h:mR w vs ds bs):∀v∈vs,v.oneCell'=true:=by
 induction ds generalizing vs bs with
 |nil=>cases h;simp
 |cons d ds ih=>
  cases h with
  |cons v vs _ _ b1 b2 h1 h2 h3=>
   intro u hu;rcases bE.1 hu with rfl|hu
   ·exact h1
   ·exact ih h3 u hu
theorem mR.app{vs us:List Value}{ds es:List D}{bs cs:List Nat}(h:mR w vs ds bs)(k:mR w us es cs):mR w (vs++us) (ds++es) (bs++cs):=by
 induction ds generalizing vs bs with
 |nil=>cases h;simpa using k
 |cons d ds ih=>
  cases h with
  |cons v vs _ _ b1 b2 h1 h2 h3=>
   rw[cc];exact .cons _ _ _ _ _ _ h1 h2 (ih h3)
theorem mR.split{vs:List Value}{ds es:List D}{bs:List Nat}(h:mR w vs (ds++es) bs):
 ∃v1 v2 b1 b2,vs=v1++v2/\bs=b1++b2/\mR w v1 ds b1/\mR w v2 es b2:=by
 induction ds generalizing vs bs with
 |nil=>exact⟨[],vs,[],bs,by simp,by simp,.nil,h⟩
 |cons d ds ih=>
  cases h with
  |cons v vs _ _ b1 b2 h1 h2 h3=>
   obtain⟨v1,v2,c1,c2,rfl,rfl,k1,k2⟩:=ih h3;exact⟨v::v1,v2,b1++c1,c2,by simp,by simp,.cons _ _ _ _ _ _ h1 h2 k1,k2⟩
theorem mR.mid{vs:List Value}{ds:List D}{bs:List Nat}(h:mR w vs ds bs)(i n:Nat):
 ∃b,mR w ((vs.drop i).take n) ((ds.drop i).take n) b/\∀x∈b,x∈bs:=by
 have e:ds=ds.take i++((ds.drop i).take n++(ds.drop i).drop n):=by rw[cJ,cJ]
 rw[e]at h;obtain⟨v1,v2,b1,b2,rfl,rfl,k1,k2⟩:=h.split;obtain⟨v3,v4,b3,b4,rfl,rfl,k3,k4⟩:=k2.split;refine⟨b3,?_,by intro x hx;simp[hx]⟩;have l1:=k1.length;have l3:=k3.length;by_cases hi:i<=ds.length
 ·have h1:v1.length=i:=by rw[l1];simp[hi]
  rw[fc h1];by_cases hn:n<=(ds.drop i).length
  ·have h3:v3.length=n:=by rw[l3,bw];omega
   rw[ic h3];exact k3
  ·have h4:v4.length=0:=by rw[k4.length];simp at hn⊢;omega
   have h4':v4=[]:=cO h4;subst h4';have h3:v3.length<=n:=by rw[l3,bw];omega
   simp only[dA];rw[kw h3];exact k3
 ·have h5:ds.drop i=[]:=vb (by omega);rw[h5]at k3 k4⊢;simp only[List.take_nil,List.drop_nil]at k3 k4⊢;cases k3;cases k4;have h1:v1.length<=i:=by rw[l1];simp;omega
  simp[Br h1];exact .nil
theorem mR.at{vs:List Value}{ds:List D}{bs:List Nat}(h:mR w vs ds bs){i:Nat}{d:D}(hd:ds[i]?=some d):
 ∃v b,vs[i]?=some v/\v.oneCell'=true/\Rd w v d b/\∀x∈b,x∈bs:=by
 induction ds generalizing vs bs i with
 |nil=>simp at hd
 |cons e ds ih=>
  cases h with
  |cons v vs _ _ b1 b2 h1 h2 h3=>
   cases i with
   |zero=>simp at hd;subst hd;exact⟨v,b1,by simp,h1,h2,by intro x hx;simp[hx]⟩
   |succ i=>
    simp at hd;obtain⟨u,b,k1,k2,k3,k4⟩:=ih h3 hd;exact⟨u,b,by simpa using k1,k2,k3,fun x hx=>by simp[k4 x hx]⟩
end
theorem nP{α:Type}{rows:List (List α)}{sz:Nat}(h:∀r∈rows,r.length=sz):rows.flatten.length=rows.length*sz:=by
 induction rows with
 |nil=>simp
 |cons r rows ih=>
  simp only[eP,ar,aT];rw[ih (fun x hx=>h x (by simp[hx])),h r (by simp),k7];omega
theorem EZ{α:Type}{rows:List (List α)}{sz:Nat}(h:∀r∈rows,r.length=sz){i:Nat}{r:List α}(hr:rows[i]?=some r):
 (rows.flatten.drop (i*sz)).take sz=r:=by
 induction rows generalizing i with
 |nil=>simp at hr
 |cons s rows ih=>
  have hs:=h s (by simp);cases i with
  |zero=>
   simp at hr;subst hr;simp only[Nat.zero_mul,zA,eP];exact ic hs
  |succ i=>
   simp only[ff]at hr;have:=ih (fun x hx=>h x (by simp[hx])) hr;rw[eP,k7,nI,Nat.add_comm,<-fe,fc hs];exact this
def KL(e:TypeId):Option (Nat×Nat×TypeId×Nat):=if e=74 then some (8,7,77,2)else none
def tT(e:TypeId)(i:Nat):Option (TypeId×Nat):=match KL e with
 |some (m,off,t)=>if i%m=off then some t else none
 |none=>none
def UB(e:TypeId)(sz:Nat):Bool:=match KL e with
 |some (m,_,_)=>m==sz
 |none=>true
theorem wv{e:TypeId}(h:KL e=none)(i:Nat):tT e i=none:=by simp[tT,h]
theorem Lf{e:TypeId}{sz:Nat}(h:UB e sz=true)(i n:Nat):tT e (i+n*sz)=tT e i:=by
 unfold tT;unfold UB at h;cases hf:KL e with
 |none=>rfl
 |some x=>
  obtain⟨m,off,t⟩:=x;rw[hf]at h;have e1:m=sz:=by simpa using h
  subst e1;simp only[Nat.add_mul_mod_self_right]
section
variable{w w':World}
def GL(w:World)(t:TypeId×Nat)(v:Value)(d:D)(bs:List Nat):Prop:=
 (d=.any/\bs=[])\/∃rows cs ns,d=.sl rows/\0<t.2/\(∀r∈rows,r.length=t.2)/\w.ownsRow 0 t.1 t.2 v rows.length cs/\mR w cs rows.flatten ns/\bs=v.ownBlock.toList++ns
theorem J0{e:TypeId}{sz n:Nat}{v:Value}{cs:List Value}(h:w.ownsRow 0 e sz v n cs)(hb:∀g,v.ownBlock=some g->w'.heap[g]?=w.heap[g]?):w'.ownsRow 0 e sz v n cs:=by
 refine⟨h.1,?_⟩;rcases h.2 with hn|⟨g,cap,cur,rfl,h1,h2,rest⟩
 ·exact .inl hn
 ·exact .inr ⟨g,cap,cur,rfl,h1,(hb g (by simp[Value.ownBlock])).trans h2,rest⟩
theorem GL.keep{t:TypeId×Nat}{v:Value}{d:D}{bs:List Nat}(h:GL w t v d bs)(hb:∀b∈bs,w'.heap[b]?=w.heap[b]?):GL w' t v d bs:=by
 rcases h with h|⟨rows,cs,ns,rfl,h1,h2,h3,h4,rfl⟩
 ·exact .inl h
 ·exact .inr ⟨rows,cs,ns,rfl,h1,h2,J0 h3 (fun g hg=>hb g (by simp[hg])),h4.keep (fun b hx=>hb b (by simp[hx])),rfl⟩
inductive wK(w:World)(f:Nat->Option (TypeId×Nat)):Nat->List Value->List D->List Nat->Prop
 |nil (i:Nat):wK w f i [] [] []
 |cons (i:Nat) (v:Value) (vs:List Value) (d:D) (ds:List D) (b1 b2:List Nat):v.oneCell'=true->Rd w v d b1->(∀t,f i=some t->GL w t v d b1)->wK w f (i+1) vs ds b2->wK w f i (v::vs) (d::ds) (b1++b2)
variable{f:Nat->Option (TypeId×Nat)}
theorem wK.rd{i:Nat}{vs:List Value}{ds:List D}{bs:List Nat}(h:wK w f i vs ds bs):mR w vs ds bs:=by
 induction ds generalizing vs bs i with
 |nil=>cases h;exact .nil
 |cons d ds ih=>cases h with|cons _ v vs _ _ b1 b2 h1 h2 _ h3=>exact .cons _ _ _ _ _ _ h1 h2 (ih h3)
theorem wK.of{i:Nat}{vs:List Value}{ds:List D}{bs:List Nat}(h:mR w vs ds bs)(hf:∀j,f j=none):wK w f i vs ds bs:=by
 induction ds generalizing vs bs i with
 |nil=>cases h;exact .nil _
 |cons d ds ih=>cases h with|cons v vs _ _ b1 b2 h1 h2 h3=>exact .cons _ _ _ _ _ _ _ h1 h2 (fun t ht=>by rw[hf]at ht;cases ht) (ih h3)
theorem wK.keep{i:Nat}{vs:List Value}{ds:List D}{bs:List Nat}(h:wK w f i vs ds bs)(hb:∀b∈bs,w'.heap[b]?=w.heap[b]?):wK w' f i vs ds bs:=by
 induction ds generalizing vs bs i with
 |nil=>cases h;exact .nil _
 |cons d ds ih=>
  cases h with
  |cons _ v vs _ _ b1 b2 h1 h2 h4 h3=>
   exact .cons _ _ _ _ _ _ _ h1 (h2.keep (fun b hx=>hb b (by simp[hx]))) (fun t ht=>(h4 t ht).keep (fun b hx=>hb b (by simp[hx]))) (ih h3 (fun b hx=>hb b (by simp[hx])))
theorem wK.lt{i:Nat}{vs:List Value}{ds:List D}{bs:List Nat}(h:wK w f i vs ds bs):∀b∈bs,b<w.heap.size:=h.rd.lt
theorem wK.length{i:Nat}{vs:List Value}{ds:List D}{bs:List Nat}(h:wK w f i vs ds bs):vs.length=ds.length:=h.rd.length
theorem wK.app{i:Nat}{vs us:List Value}{ds es:List D}{bs cs:List Nat}(h:wK w f i vs ds bs)(k:wK w f (i+ds.length) us es cs):wK w f i (vs++us) (ds++es) (bs++cs):=by
 induction ds generalizing vs bs i with
 |nil=>cases h;simpa using k
 |cons d ds ih=>
  cases h with
  |cons _ v vs _ _ b1 b2 h1 h2 h4 h3=>
   rw[cc];exact .cons _ _ _ _ _ _ _ h1 h2 h4 (ih h3 (by rw[aT]at k;rwa[show i+1+ds.length=i+(ds.length+1)by omega]))
theorem wK.split{i:Nat}{vs:List Value}{ds es:List D}{bs:List Nat}(h:wK w f i vs (ds++es) bs):
 ∃v1 v2 b1 b2,vs=v1++v2/\bs=b1++b2/\wK w f i v1 ds b1/\wK w f (i+ds.length) v2 es b2:=by
 induction ds generalizing vs bs i with
 |nil=>exact⟨[],vs,[],bs,by simp,by simp,.nil _,h⟩
 |cons d ds ih=>
  cases h with
  |cons _ v vs _ _ b1 b2 h1 h2 h4 h3=>
   obtain⟨v1,v2,c1,c2,rfl,rfl,k1,k2⟩:=ih h3;exact⟨v::v1,v2,b1++c1,c2,by simp,by simp,.cons _ _ _ _ _ _ _ h1 h2 h4 k1,by rw[aT];rwa[show i+(ds.length+1)=i+1+ds.length by omega]⟩
theorem wK.at_{i k:Nat}{vs:List Value}{ds:List D}{bs:List Nat}(h:wK w f i vs ds bs)(hf:∀j,f (k+j)=f (i+j)):wK w f k vs ds bs:=by
 induction ds generalizing vs bs i k with
 |nil=>cases h;exact .nil _
 |cons d ds ih=>
  cases h with
  |cons _ v vs _ _ b1 b2 h1 h2 h4 h3=>
   exact .cons _ _ _ _ _ _ _ h1 h2 (fun t ht=>h4 t ((hf 0).symm.trans ht)) (ih h3 fun j=>by rw[kj,kj];exact hf (1+j))
theorem wK.rows{e:TypeId}{sz i n:Nat}{vs:List Value}{ds:List D}{bs:List Nat}(hk:UB e sz=true)(h:wK w (tT e) i vs ds bs):wK w (tT e) (i+n*sz) vs ds bs:=
 h.at_ fun j=>by rw[show i+n*sz+j=(i+j)+n*sz by omega];exact Lf hk _ _
end
end Go.Cx
namespace Go.Cx
open Go.RowKit
abbrev aG:=List Bytes
abbrev aL:=List D
abbrev aW:=List Nat
abbrev bK:=List Int
abbrev bZ:=List Value
def xu:List (Nat×(bZ->Prop)):=[(3,fun cs:bZ=>cs=[.int .u64 1,.int .u64 10,.int .u64 100,.int .u64 1000,.int .u64 10000,.int .u64 100000,.int .u64 1000000,.int .u64 10000000,.int .u64 100000000,.int .u64 1000000000,.int .u64 10000000000,.int .u64 100000000000,.int .u64 1000000000000,.int .u64 10000000000000,.int .u64 100000000000000,.int .u64 1000000000000000,.int .u64 10000000000000000,.int .u64 100000000000000000,.int .u64 1000000000000000000,.int .u64 10000000000000000000]),(1,fun cs:bZ=>∃tp p,cs=[Value.iface tp p])]
def VsB(w:World)(B:Nat->Prop):Prop:=∀x∈xu,B x.1/\∃cs t z,w.heap[x.1]?=some (.cells cs t z)/\x.2 cs.toList
def Ms(w:World)(X:Nat->Prop):Prop:=∃B:Nat->Prop,VsB w B/\∀b,B b->b<w.heap.size/\¬X b
def P9:List (Nat×aL):=[]
def a0h(g:Nat)(ds:aL):Prop:=∃p,(g,p)∈xu/\∀cs:bZ,p cs->∀(o:Nat) d,ds[o]?=some d->∃v,cs[o]?=some v/\∀w,Rd w v d []
theorem SU:∀x∈P9,a0h x.1 x.2:=by intro x hx;cases hx
def Tq(g o:Nat):Option D:=(P9.find? fun x=>x.1==g).bind fun x=>x.2[o]?
theorem YL{g o:Nat}{d:D}(h:Tq g o=some d):∃ds,a0h g ds/\ds[o]?=some d:=by
 unfold Tq at h;cases hf:P9.find? fun x=>x.1==g with
 |none=>rw[hf]at h;cases h
 |some x=>
  rw[hf,aA]at h;have h1:=List.find?_some hf;have h2:=List.mem_of_find?_eq_some hf;have e:x.1=g:=by simpa using h1
  exact⟨x.2,by rw[<-e];exact SU x h2,h⟩
theorem VsB.stays{w w':World}{B:Nat->Prop}(h:VsB w B)(hb:∀b,B b->w'.heap[b]?=w.heap[b]?):VsB w' B:=fun x hx=>by
 obtain⟨h1,cs,t,z,h2,h3⟩:=h x hx;exact⟨h1,cs,t,z,by rw[hb _ h1,h2],h3⟩
theorem Ms.cells{w:World}{X:Nat->Prop}(h:Ms w X){g:Nat}{p:bZ->Prop}(hx:(g,p)∈xu):∃cs t z,w.heap[g]?=some (.cells cs t z)/\p cs.toList:=by
 obtain⟨B,h1,h2⟩:=h;exact(h1 _ hx).2
theorem Ms.var{P:Program}{w:World}{X:Nat->Prop}(h:Ms w X){g:Nat}{p:bZ->Prop}{name:String}(hx:(g,p)∈xu)(hg:P.globalNamed name=some g):∃cs,w.var? P name=some cs/\p cs.toList:=by
 obtain⟨cs,t,z,h1,h2⟩:=h.cells hx;refine⟨cs,?_,h2⟩;unfold World.var?;rw[hg,aA,h1]
theorem Ms.a3H{P:Program}{w:World}(hs:∀x∈xu,∃name cs,P.globalNamed name=some x.1/\w.var? P name=some cs/\x.2 cs.toList):Ms w fun _=>False:=by
 refine⟨fun b=>b∈xu.map Prod.fst,fun x hx=>?_,fun b hb=>?_⟩
 ·obtain⟨name,cs,h1,h2,h3⟩:=hs x hx;unfold World.var? at h2;rw[h1,aA]at h2;refine⟨cA.2 ⟨x,hx,rfl⟩,?_⟩;split at h2
  ·rename_i cs' t z h4;cases h2;exact⟨_,t,z,h4,h3⟩
  ·cases h2
 ·obtain⟨x,hx,rfl⟩:=cA.1 hb;obtain⟨name,cs,h1,h2,h3⟩:=hs x hx;unfold World.var? at h2;rw[h1,aA]at h2;refine⟨?_,id⟩;split at h2
  ·rename_i cs' t z h4;exact(bC.1 h4).1
  ·cases h2
end Go.Cx
namespace Go.Cx
open Go.RowKit
structure tZ where
 W0:World
 Θ0:Nat->Nat
 X:Nat->Prop
 nt:Nat
 U:Nat->Prop
 vs:Ms W0 X
inductive RK where
 |sh
 |uq
 |cl
 |mv (n:Nat)
 |ho (p n:Nat)
def RK.Oh:RK->Bool
 | .cl=>false
 |_=>true
def RK.ub:RK->Bool
 | .uq=>true
 | .ho _ _=>true
 |_=>false
def RK.hand:RK->Bool
 | .sh=>true
 | .uq=>true
 |_=>false
inductive Ob where
 |box (cells:aL)
 |zq (cells:aL) (v:Value)
 |row (k:RK) (e:TypeId) (sz:Nat) (rows:List aL)
 |vW (sz:Nat) (rows:List aL) (v:Option Value)
 |hole (sz:Nat) (rows:List aL) (v:Option Value) (p n:Nat)
 |mp (kv:List (D×D))
 |tk (rows:List aL)
 |tf (e:TypeId) (sz:Nat) (rows:List aL)
 |gone
def Ob.Sx:Ob->Option aL
 | .box c=>some c
 | .zq c _=>some c
 |_=>none
def Ob.re(o:Ob)(c:aL):Ob:=match o with
 | .zq _ v=>.zq c v
 |_=>.box c
def TY(u:Value):Value:=match u with
 | .tuple ⟨[p,_]⟩=>p
 |u=>u
def Ek(u:Value):Option Value:=match u with
 | .tuple ⟨[_,c]⟩=>some c
 |_=>none
def Ob.TO(o:Ob)(off:Nat):Bool:=match o with
 | .zq cells _=> !(cells.length==3)||Nat.ble 1 off
 |_=>true
structure St where
 σ:List (Nat×D)
 H:List Ob
def lk:List (Nat×D)->Nat->D
 | [],_=>.any
 | (t,d)::r,n=>if n=t then d else lk r n
def D.QX:Value->D
 | .bool b=>.bool b
 | .int k n=>if pF k n then .int k n else .val (.int k n)
 | .string s=>if s.size<=maxLen then .str s.data.toList else .val (.string s)
 | .slice none 0 0=>.nil
 |v=>.val v
def St.ev(st:St):Operand->D
 | .tmp t=>lk st.σ t
 | .const v=>D.QX v
 | .global g=>.val (.pointer (some ⟨g,0,none⟩))
 | .func f=>.val (.func (.func f) #[] #[])
def St.set(st:St)(t:Nat)(d:D):St:=⟨(t,d)::st.σ,st.H⟩
def St.put(st:St)(t:Option Nat)(d:D):St:=match t with|some t=>st.set t d|none=>st
inductive yQ(w:World)(κ:Nat->Option Value):Value->D->List Nat->Prop
 |pure {v:Value} {d:D} {bs:aW}:Rd w v d bs->yQ w κ v d bs
 |acc (id:Nat) (v:Value):κ id=some v->yQ w κ v (.acc id) []
 |ptr (id off b:Nat):κ id=some (.pointer (some ⟨b,0,none⟩))->yQ w κ (.pointer (some ⟨b,off,none⟩)) (.ptr id off) []
 |op (id i sz off b o0 len cap:Nat):κ id=some (.slice (some ⟨b,o0,none⟩) len cap)->yQ w κ (.pointer (some ⟨b,o0+(i*sz+off),none⟩)) (.op id i sz off) []
inductive fH(w:World)(κ:Nat->Option Value):List Value->List D->List Nat->Prop
 |nil:fH w κ [] [] []
 |cons (v:Value) (vs:bZ) (d:D) (ds:aL) (b1 b2:aW):v.oneCell'=true->yQ w κ v d b1->fH w κ vs ds b2->fH w κ (v::vs) (d::ds) (b1++b2)
inductive LJ(w:World)(κ:Nat->Option Value):Value->D->List Nat->Prop
 |cell {v:Value} {d:D} {bs:aW}:yQ w κ v d bs->LJ w κ v d bs
 |agg (cs:bZ) (ds:aL) (bs:aW):fH w κ cs ds bs->LJ w κ (.agg cs.toArray) (.agg ds) bs
inductive By(w:World)(κ:Nat->Option Value):List Value->List D->List Nat->Prop
 |nil:By w κ [] [] []
 |cons (v:Value) (vs:bZ) (d:D) (ds:aL) (b1 b2:aW):LJ w κ v d b1->By w κ vs ds b2->By w κ (v::vs) (d::ds) (b1++b2)
inductive rS(w:World)(κ:Nat->Option Value):Value->D->List Nat->Prop
 |v {v:Value} {d:D} {bs:aW}:LJ w κ v d bs->rS w κ v d bs
 |gw (vs:bZ) (ds:aL) (bs:aW):By w κ vs ds bs->rS w κ (.tuple vs.toArray) (.gw ds) bs
theorem rS.of{w:World}{κ:Nat->Option Value}{v:Value}{d:D}{bs:aW}(h:Rd w v d bs):rS w κ v d bs:=.v (.cell (.pure h))
def Wr(w:World)(b:Nat):Prop:=∃cs T,w.heap[b]?=some (.cells cs T (0,0))
def RdH(w:World)(κ:Nat->Option Value)(v:Value)(rows:List aL)(p n:Nat)(bs:aW):Prop:=
 ∃b off cap cs ns,v=.slice (some ⟨b,off,none⟩) rows.length cap/\b<w.heap.size/\rows.length<=cap/\cap<=maxLen/\(∀j c,cs[j]?=some c->w.cell? ⟨b,off+j,none⟩=some c)/\mR w cs rows.flatten ns/\bs=b::ns/\
  ∃c,cs[p]?=some c/\κ n=some c
def yP(w:World)(es:List MapEntry)(kv:List (D×D)):Prop:=
 es.length=kv.length/\∀(j:Nat) e p,es[j]?=some e->kv[j]?=some p->Rd w e.key p.1 []/\Rd w e.val p.2 []
theorem yP.stay{w w':World}{es:List MapEntry}{kv:List (D×D)}(h:yP w es kv):yP w' es kv:=
 ⟨h.1,fun j e p h1 h2=>⟨(h.2 j e p h1 h2).1.keep (by simp),(h.2 j e p h1 h2).2.keep (by simp)⟩⟩
def Kept(w:World)(κ:Nat->Option Value)(id:Nat)(u:Value):Prop:=
 ∀c,Ek u=some c->∀g cs T,κ id=some (.pointer (some ⟨g,0,none⟩))->w.heap[g]?=some (.cells cs T (0,0))->cs.size=3/\cs[0]?=some c
theorem Kept.same{w w':World}{κ κ':Nat->Option Value}{id id':Nat}{u:Value}{g:Nat}{cs:Array Value}{T:TypeId}(h:Kept w κ id u)(hk:κ id=some (.pointer (some ⟨g,0,none⟩)))(hg:w.heap[g]?=some (.cells cs T (0,0)))
 (hk':κ' id'=some (.pointer (some ⟨g,0,none⟩))) (hg':w'.heap[g]?=some (.cells cs T (0,0))):Kept w' κ' id' u:=by
 intro c hc g2 Yb T2 h2 h3;rw[hk']at h2;cases h2;rw[hg']at h3;cases h3;exact h c hc g cs T hk hg
def vh(w:World)(κ:Nat->Option Value)(Θ:Nat->Nat)(id:Nat):Ob->Prop
 | .box cells=>∃g cs T,κ id=some (.pointer (some ⟨g,0,none⟩))/\w.heap[g]?=some (.cells cs T (0,0))/\Θ g=id+2/\
  ∃bs,fH w κ cs.toList cells bs/\∀b∈bs,Θ b=0
 | .zq cells u=>(κ id=some (TY u)/\Kept w κ id u)/\∃g cs T,κ id=some (.pointer (some ⟨g,0,none⟩))/\w.heap[g]?=some (.cells cs T (0,0))/\Θ g=id+2/\
  ∃bs,fH w κ cs.toList cells bs/\∀b∈bs,Θ b=0
 | .row k e sz rows=>0<sz/\(∀r∈rows,r.length=sz)/\∃v cs bs,κ id=some v/\w.ownsRow 0 e sz v rows.length cs/\mR w cs rows.flatten bs/\
  (∀g,v.ownBlock=some g->Θ g=id+2)/\
  (match k with
   | .cl=>bs.Nodup/\(∀b∈bs,Θ b=id+2/\Wr w b)/\(∀g,v.ownBlock=some g->g∉bs)/\wK w (tT e) 0 cs rows.flatten bs
   |_=>∀b∈bs,Θ b=0)
 | .vW sz rows u=>(∀r∈rows,r.length=sz)/\(∀x,u=some x->κ id=some x)/\∃v bs,κ id=some v/\Rd w v (.sl rows) bs/\bs.Nodup/\∀b∈bs,Θ b=id+2/\Wr w b
 | .hole sz rows u p n=>(∀r∈rows,r.length=sz)/\(∀x,u=some x->κ id=some x)/\∃v bs,κ id=some v/\RdH w κ v rows p n bs/\bs.Nodup/\∀b∈bs,Θ b=id+2/\Wr w b
 | .mp kv=>∃g es clock,κ id=some (.map (some g))/\w.heap[g]?=some (.map es clock)/\Θ g=id+2/\yP w es.toList kv
 | .tk rows=>∃v bs,κ id=some v/\Rd w v (.sl rows) bs/\∀b∈bs,Θ b=0
 | .tf e sz rows=>∃v bs,κ id=some v/\Rd w v (.sl rows) bs/\∀b∈bs,Θ b=0
 | .gone=>True
def xL(Γ:tZ)(b:Nat):Prop:=Γ.W0.heap.size<=b\/Γ.X b
def Sd(Γ:tZ)(b:Nat):Prop:=xL Γ b\/Γ.U b
theorem vh.cs{w:World}{κ:Nat->Option Value}{Θ:Nat->Nat}{id:Nat}{o:Ob}{cells:aL}(hc:o.Sx=some cells)(h:vh w κ Θ id o):
 ∃g cs T,κ id=some (.pointer (some ⟨g,0,none⟩))/\w.heap[g]?=some (.cells cs T (0,0))/\Θ g=id+2/\∃bs,fH w κ cs.toList cells bs/\∀b∈bs,Θ b=0:=by
 cases o<;>simp only[Ob.Sx,reduceCtorEq,aj]at hc
 ·subst hc;exact h
 ·subst hc;exact h.2
theorem vh.a62{w w':World}{κ κ':Nat->Option Value}{Θ Θ':Nat->Nat}{id:Nat}{o:Ob}{cells cells':aL}(hc:o.Sx=some cells)(h:vh w κ Θ id o)(hk:∀v,κ id=some v->κ' id=some v)
 (hK:∀c u,o=.zq c u->Kept w' κ' id u)
 (h':∃g cs T,κ' id=some (.pointer (some ⟨g,0,none⟩))/\w'.heap[g]?=some (.cells cs T (0,0))/\Θ' g=id+2/\∃bs,fH w' κ' cs.toList cells' bs/\∀b∈bs,Θ' b=0):vh w' κ' Θ' id (o.re cells'):=by
 cases o<;>simp only[Ob.Sx,reduceCtorEq,aj]at hc
 ·exact h'
 ·exact⟨⟨hk _ h.1.1,hK _ _ rfl⟩,h'⟩
structure PU(Γ:tZ)(w:World):Prop where
 os:w.os=Γ.W0.os
 tape:w.tape=Γ.W0.tape
 output:w.output=Γ.W0.output
 size:Γ.W0.heap.size<=w.heap.size
 block:∀b,b<Γ.W0.heap.size->¬Γ.X b->w.heap[b]?=Γ.W0.heap[b]?
def JQ(w:World)(κ:Nat->Option Value)(ρ:Nat->Nat)(id:Nat):Ob->Prop
 | .row (.mv n) e sz rows=>∃v cs bs,κ id=some v/\w.ownsRow 0 e sz v rows.length cs/\mR w (cs.drop (n*sz)) (rows.drop n).flatten bs/\bs.Nodup/\∀b∈bs,ρ b=id+1
 | .row (.ho p n) e sz rows=>∃v cs bs,κ id=some v/\w.ownsRow 0 e sz v rows.length cs/\wK w (tT e) 0 cs rows.flatten bs/\bs.Nodup/\(∀b∈bs,ρ b=id+1)/\∃c,cs[p]?=some c/\κ n=some c
 | .tk rows=>∃v bs,κ id=some v/\Rd w v (.sl rows) bs/\bs.Nodup/\∀b∈bs,ρ b=id+1
 | .tf e sz rows=>∃v bs,κ id=some v/\GL w (e,sz) v (.sl rows) bs/\(∀b∈bs,b<w.heap.size)/\bs.Nodup/\∀b∈bs,ρ b=id+1
 |_=>True
structure zF(Γ:tZ)(H:List Ob)(κ:Nat->Option Value)(Θ:Nat->Nat)(w:World)(ρ:Nat->Nat):Prop where
 free:∀b,ρ b≠0->Θ b=0/\Sd Γ b/\Wr w b
 rows:∀id e sz rows,H[id]?=some (.row .uq e sz rows)->∃v cs bs,κ id=some v/\w.ownsRow 0 e sz v rows.length cs/\wK w (tT e) 0 cs rows.flatten bs/\bs.Nodup/\∀b∈bs,ρ b=id+1
 more:∀id o,H[id]?=some o->JQ w κ ρ id o
structure dV(Γ:tZ)(st:St)(κ:Nat->Option Value)(Θ:Nat->Nat)(a:Act)(w:World):Prop where
 defers:a.defers=[]
 size:a.tmps.size=Γ.nt
 ol:∀id,st.H.length<=id->κ id=none
 o6:∀(id:Nat) u,κ id=some u->u.oneCell'=true
 slot:∀t,∃bs,rS w κ (a.tmps.getD t undef) (lk st.σ t) bs/\∀b∈bs,Θ b=0
 ob:∀id o,st.H[id]?=some o->vh w κ Θ id o
 own:∀b,Θ b≠0->b<w.heap.size
 old:∀b,b<Γ.W0.heap.size->¬Γ.X b->Θ b=Γ.Θ0 b/\Θ b<=1
 mine:∀b,2<=Θ b->xL Γ b
 stays:PU Γ w
 rR:∃ρ,zF Γ st.H κ Θ w ρ
theorem dV.vsb{Γ:tZ}{st:St}{κ:Nat->Option Value}{Θ:Nat->Nat}{a:Act}{w:World}(h:dV Γ st κ Θ a w):∃B:Nat->Prop,VsB w B/\∀b,B b->b<Γ.W0.heap.size/\b<w.heap.size/\¬Γ.X b:=by
 obtain⟨B,h1,h2⟩:=Γ.vs;exact⟨B,h1.stays fun b hb=>h.stays.block b (h2 b hb).1 (h2 b hb).2,fun b hb=>⟨(h2 b hb).1,cq (h2 b hb).1 h.stays.size,(h2 b hb).2⟩⟩
theorem dV.vok{Γ:tZ}{st:St}{κ:Nat->Option Value}{Θ:Nat->Nat}{a:Act}{w:World}(h:dV Γ st κ Θ a w):Ms w fun _=>False:=by
 obtain⟨B,h1,h2⟩:=h.vsb;exact⟨B,h1,fun b hb=>⟨(h2 b hb).2.1,id⟩⟩
def AW(P:Program)(Γ:tZ)(c:Code)(Q:Exit->St->Prop)(st:St):Prop:=
 ∀κ Θ a w,dV Γ st κ Θ a w->c.wp P (fun e a' w'=>∃ue κ' Θ',dV Γ ue κ' Θ' a' w'/\Q e ue) a w
def AO(P:Program)(Γ:tZ)(all:Array Oper)(ops:List Oper)(Q:Exit->St->Prop)(st:St):Prop:=
 ∀κ Θ a w,dV Γ st κ Θ a w->wpList P all (fun e a' w'=>∃ue κ' Θ',dV Γ ue κ' Θ' a' w'/\Q e ue) ops a w
section
variable{P:Program}{Γ:tZ}{Q:Exit->St->Prop}{st:St}
theorem Yy(h:Q .normal st):AW P Γ .skip Q st:=fun _ _ _ _ hs=>wp_skip ⟨_,_,_,hs,h⟩
theorem a23(h:Q .ret st):AW P Γ .ret Q st:=fun _ _ _ _ hs=>wp_ret ⟨_,_,_,hs,h⟩
theorem Yw{id:Nat}(h:Q (.exit id) st):AW P Γ (.exit id) Q st:=fun _ _ _ _ hs=>wp_exit ⟨_,_,_,hs,h⟩
def YF(next:St->Prop)(Q:Exit->St->Prop):Exit->St->Prop
 | .normal,st=>next st
 |e,st=>Q e st
def O7(id:Nat)(Q:Exit->St->Prop):Exit->St->Prop
 | .exit id',st=>if id'=id then Q .normal st else Q (.exit id') st
 |e,st=>Q e st
theorem a25{x y:Code}(h:AW P Γ x (YF (AW P Γ y Q) Q) st):AW P Γ (.seq x y) Q st:=by
 intro κ Θ a w hs;refine wp_seq (wp_mono (h κ Θ a w hs) ?_);rintro e a' w' ⟨ue,κ',Θ',hs',hq⟩;cases e with
 |normal=>exact hq κ' Θ' a' w' hs'
 |exit id=>exact⟨_,_,_,hs',hq⟩
 |goto l=>exact⟨_,_,_,hs',hq⟩
 |ret=>exact⟨_,_,_,hs',hq⟩
 |panic c=>exact⟨_,_,_,hs',hq⟩
 |outgrown=>exact⟨_,_,_,hs',hq⟩
theorem VS{id:Nat}{c:Code}(h:AW P Γ c (O7 id Q) st):AW P Γ (.block id c) Q st:=by
 intro κ Θ a w hs;refine wp_block (wp_mono (h κ Θ a w hs) ?_);rintro e a' w' ⟨ue,κ',Θ',hs',hq⟩;cases e with
 |exit id'=>
  simp only[Exit.inBlock,O7]at hq⊢;split
  ·rename_i he;rw[bL he]at hq;exact⟨_,_,_,hs',hq⟩
  ·rename_i he;rw[b8 he]at hq;exact⟨_,_,_,hs',hq⟩
 |normal=>exact⟨_,_,_,hs',hq⟩
 |goto l=>exact⟨_,_,_,hs',hq⟩
 |ret=>exact⟨_,_,_,hs',hq⟩
 |panic c=>exact⟨_,_,_,hs',hq⟩
 |outgrown=>exact⟨_,_,_,hs',hq⟩
theorem Tv{id:Nat}{l:List Oper}(h:AO P Γ l.toArray l Q st):AW P Γ (.region id l.toArray false) Q st:=
 fun κ Θ a w hs=>wp_region_lit (h κ Θ a w hs)
theorem a1z{all:Array Oper}(h:Q .normal st):AO P Γ all [] Q st:=fun _ _ _ _ hs=>wpList_nil ⟨_,_,_,hs,h⟩
end
section
variable{w:World}{κ:Nat->Option Value}{v:Value}{bs:aW}
theorem rS.ql{k:IntKind}{n:Int}(h:rS w κ v (.int k n) bs):v=.int k n:=by
 cases h with|v h=>cases h with|cell h=>cases h with|pure h=>cases h;rfl
theorem rS.M0{k:IntKind}{n:Int}(h:rS w κ v (.int k n) bs):pF k n:=by
 cases h with|v h=>cases h with|cell h=>cases h with|pure h=>cases h with|int _ _ hr=>exact hr
theorem rS.YC{s:Bytes}(h:rS w κ v (.str s) bs):s.length<=maxLen:=by
 cases h with|v h=>cases h with|cell h=>cases h with|pure h=>cases h with|str x hx=>simpa using hx
theorem rS.vo{b:Bool}(h:rS w κ v (.bool b) bs):v=.bool b:=by
 cases h with|v h=>cases h with|cell h=>cases h with|pure h=>cases h;rfl
theorem rS.u9{s:Bytes}(h:rS w κ v (.str s) bs):∃x:ByteArray,v=.string x/\x.data.toList=s:=by
 cases h with|v h=>cases h with|cell h=>cases h with|pure h=>cases h;exact⟨_,rfl,rfl⟩
theorem rS.Tp{u:Value}(h:rS w κ v (.val u) bs):v=u:=by
 cases h with|v h=>cases h with|cell h=>cases h with|pure h=>cases h;rfl
theorem rS.Iw(h:rS w κ v .nil bs):v=.slice none 0 0:=by
 cases h with|v h=>cases h with|cell h=>cases h with|pure h=>cases h;rfl
theorem rS.Oz{rows:List aL}(h:rS w κ v (.sl rows) bs):Rd w v (.sl rows) bs:=by
 cases h with|v h=>cases h with|cell h=>cases h with|pure h=>exact h
theorem rS.RO{row:aL}{o:Nat}(h:rS w κ v (.ep row o) bs):Rd w v (.ep row o) bs:=by
 cases h with|v h=>cases h with|cell h=>cases h with|pure h=>exact h
theorem rS.uh{id:Nat}(h:rS w κ v (.acc id) bs):κ id=some v/\bs=[]:=by
 cases h with|v h=>cases h with|cell h=>cases h with|pure h=>cases h|acc _ _ hk=>exact⟨hk,rfl⟩
theorem rS.yq{id off:Nat}(h:rS w κ v (.ptr id off) bs):∃b,κ id=some (.pointer (some ⟨b,0,none⟩))/\v=.pointer (some ⟨b,off,none⟩):=by
 cases h with|v h=>cases h with|cell h=>cases h with|pure h=>cases h|ptr _ _ b hk=>exact⟨b,hk,rfl⟩
theorem rS.Et{id i sz off:Nat}(h:rS w κ v (.op id i sz off) bs):∃b o0 len cap,κ id=some (.slice (some ⟨b,o0,none⟩) len cap)/\v=.pointer (some ⟨b,o0+(i*sz+off),none⟩):=by
 cases h with|v h=>cases h with|cell h=>cases h with|pure h=>cases h|op _ _ _ _ b o0 len cap hk=>exact⟨b,o0,len,cap,hk,rfl⟩
theorem fH.Co{vs:bZ}{ds:aL}(h:mR w vs ds bs):fH w κ vs ds bs:=by
 induction ds generalizing vs bs with
 |nil=>cases h;exact .nil
 |cons d ds ih=>cases h with|cons v vs _ _ b1 b2 h1 h2 h3=>exact .cons _ _ _ _ _ _ h1 (.pure h2) (ih h3)
theorem yp{w:World}{e sz b o0 len cap n:Nat}{cs:bZ}(h:w.ownsRow 0 e sz (.slice (some ⟨b,o0,none⟩) len cap) n cs):o0=0:=by
 rcases h.2 with⟨h,_⟩|⟨g,cap,cur,h,_⟩
 ·cases h
 ·cases h;rfl
theorem rS.F7{ds:aL}(h:rS w κ v (.agg ds) bs):∃cs:bZ,v=.agg cs.toArray/\fH w κ cs ds bs:=by
 cases h with
 |v h=>
  cases h with
  |cell h=>cases h with|pure h=>cases h with|agg cs _ _ h=>exact⟨cs,rfl,fH.Co h⟩
  |agg cs _ _ h=>exact⟨cs,rfl,h⟩
theorem fH.length{vs:bZ}{ds:aL}(h:fH w κ vs ds bs):vs.length=ds.length:=by
 induction ds generalizing vs bs with
 |nil=>cases h;rfl
 |cons d ds ih=>cases h with|cons v vs _ _ b1 b2 h1 h2 h3=>simp[ih h3]
theorem fH.one{vs:bZ}{ds:aL}(h:fH w κ vs ds bs):∀v∈vs,v.oneCell'=true:=by
 induction ds generalizing vs bs with
 |nil=>cases h;simp
 |cons d ds ih=>
  cases h with
  |cons v vs _ _ b1 b2 h1 h2 h3=>
   intro u hu;rcases bE.1 hu with rfl|hu
   ·exact h1
   ·exact ih h3 u hu
theorem fH.app{vs us:bZ}{ds es:aL}{cs:aW}(h:fH w κ vs ds bs)(k:fH w κ us es cs):fH w κ (vs++us) (ds++es) (bs++cs):=by
 induction ds generalizing vs bs with
 |nil=>cases h;simpa using k
 |cons d ds ih=>
  cases h with
  |cons v vs _ _ b1 b2 h1 h2 h3=>
   rw[cc];exact .cons _ _ _ _ _ _ h1 h2 (ih h3)
theorem fH.split{vs:bZ}{ds es:aL}(h:fH w κ vs (ds++es) bs):
 ∃v1 v2 b1 b2,vs=v1++v2/\bs=b1++b2/\fH w κ v1 ds b1/\fH w κ v2 es b2:=by
 induction ds generalizing vs bs with
 |nil=>exact⟨[],vs,[],bs,by simp,by simp,.nil,h⟩
 |cons d ds ih=>
  cases h with
  |cons v vs _ _ b1 b2 h1 h2 h3=>
   obtain⟨v1,v2,c1,c2,rfl,rfl,k1,k2⟩:=ih h3;exact⟨v::v1,v2,b1++c1,c2,by simp,by simp,.cons _ _ _ _ _ _ h1 h2 k1,k2⟩
theorem fH.mid{vs:bZ}{ds:aL}(h:fH w κ vs ds bs)(i n:Nat)(hn:i+n<=ds.length):
 ∃b,fH w κ ((vs.drop i).take n) ((ds.drop i).take n) b/\∀x∈b,x∈bs:=by
 have e:ds=ds.take i++((ds.drop i).take n++(ds.drop i).drop n):=by rw[cJ,cJ]
 rw[e]at h;obtain⟨v1,v2,b1,b2,rfl,rfl,k1,k2⟩:=h.split;obtain⟨v3,v4,b3,b4,rfl,rfl,k3,k4⟩:=k2.split;refine⟨b3,?_,by intro x hx;simp[hx]⟩;have h1:v1.length=i:=by rw[k1.length];simp;omega
 have h3:v3.length=n:=by rw[k3.length];simp;omega
 rw[fc h1,ic h3];exact k3
theorem fH.at{vs:bZ}{ds:aL}(h:fH w κ vs ds bs){i:Nat}{d:D}(hd:ds[i]?=some d):
 ∃v b,vs[i]?=some v/\v.oneCell'=true/\yQ w κ v d b/\∀x∈b,x∈bs:=by
 induction ds generalizing vs bs i with
 |nil=>simp at hd
 |cons e ds ih=>
  cases h with
  |cons v vs _ _ b1 b2 h1 h2 h3=>
   cases i with
   |zero=>simp at hd;subst hd;exact⟨v,b1,by simp,h1,h2,by intro x hx;simp[hx]⟩
   |succ i=>
    simp at hd;obtain⟨u,b,k1,k2,k3,k4⟩:=ih h3 hd;exact⟨u,b,by simpa using k1,k2,k3,fun x hx=>by simp[k4 x hx]⟩
theorem S2(v:Value):rS w κ v (D.QX v) []:=by
 unfold D.QX;split
 ·exact .of (.bool _)
 ·split
  ·rename_i h;exact .of (.int _ _ h)
  ·exact .of (.val _)
 ·split
  ·rename_i h;exact .of (.str _ h)
  ·exact .of (.val _)
 ·exact .of .nil
 ·exact .of (.val _)
end
section
variable{Γ:tZ}{st:St}{κ:Nat->Option Value}{Θ:Nat->Nat}{a:Act}{w:World}
theorem dV.ev(h:dV Γ st κ Θ a w)(x:Operand):∃bs,rS w κ (a.eval x) (st.ev x) bs/\∀b∈bs,Θ b=0:=by
 cases x with
 |tmp t=>exact h.slot t
 |const v=>exact⟨[],S2 v,by simp⟩
 |global g=>exact⟨[],.of (.val _),by simp⟩
 |func f=>exact⟨[],.of (.val _),by simp⟩
theorem dV.set(h:dV Γ st κ Θ a w){t:Nat}{v:Value}{d:D}{bs:aW}(ht:t<Γ.nt)(hv:rS w κ v d bs)(hb:∀b∈bs,Θ b=0):
 dV Γ (st.set t d) κ Θ (a.put (some t) v) w:=by
 refine⟨h.defers,by simp[Act.put,h.size],h.ol,h.o6,?_,h.ob,h.own,h.old,h.mine,h.stays,h.rR⟩;intro u;show∃bs,rS w κ ((a.tmps.setIfInBounds t v).getD u undef) (if u=t then d else lk st.σ u) bs/\_;have hsz:=h.size;by_cases hu:u=t
 ·subst hu;rw[bL rfl];have:(a.tmps.setIfInBounds u v).getD u undef=v:=by
   simp[cH,hsz,ht]
  rw[this];exact⟨bs,hv,hb⟩
 ·rw[b8 hu];have:(a.tmps.setIfInBounds t v).getD u undef=a.tmps.getD u undef:=by
   simp[cH,rW hu]
  rw[this];exact h.slot u
end
end Go.Cx
namespace Go.Cx
open Go.RowKit
abbrev bP:=List Ob
def zz(P:Program)(t:TypeId):Option Bool:=
 match P.underlying t with
 |some (.struct _)=>some true
 |some (.array _ _)=>some true
 |some _=>some false
 |none=>none
def z6(P:Program)(t:TypeId):Nat:=P.cellsOf t
def tfo(P:Program)(t f:Nat):Option Nat:=
 match P.underlying t with
 |some (.struct fs)=>(match fs[f]? with
  |some x=>if(P.info? x.type).isSome/\P.cellsOf x.type≠0 then some x.offset else none
  |none=>none)
 |_=>none
def tft(P:Program)(t f:Nat):Option (Nat×TypeId):=
 match P.underlying t with
 |some (.struct fs)=>(match fs[f]? with|some x=>some (x.offset,x.type)|none=>none)
 |_=>none
def FH(P:Program)(t:TypeId):Option (TypeId×Nat):=
 match P.underlying t with
 |some (.slice e)=>if(P.info? e).isSome then some (e,P.cellsOf e)else none
 |_=>none
def a3t(P:Program)(t:TypeId):Option (Nat×Nat):=
 match P.underlying t with
 |some (.array n e)=>if(P.info? e).isSome then some (P.cellsOf e,n)else none
 |_=>none
def KB(P:Program)(t:TypeId):Bool:=match P.underlying t with|some .string=>true|_=>false
def SM(P:Program)(t:TypeId):Option IntKind:=match P.underlying t with|some (.int k)=>some k|_=>none
def a1o(P:Program)(t:TypeId):Bool:=match P.underlying t with|some .bool=>true|_=>false
def Ti(P:Program)(t:TypeId):Bool:=match P.underlying t with
 |some (.struct fs)=>match fs.toList with
  | [f,g]=>f.name != "_" &&g.name != "_" &&f.offset==0&&g.offset==1&&KB P f.type&&KB P g.type&& !P.stoodInHeld t&& !P.eqGuardType P.depth t
  |_=>false
 |_=>false
def peq(P:Program)(op:BinOp)(t:TypeId):D->D->Option D
 | .bool a,.bool b=>if a1o P t=true then match op with| .eql=>some (.bool (a==b))| .neq=>some (.bool (a != b))|_=>none else none
 | .agg [.str a,.str b],.agg [.str c,.str d]=>if Ti P t=true then match op with| .eql=>some (.bool (a==c&&b==d))| .neq=>some (.bool (!(a==c&&b==d)))|_=>none else none
 |_,_=>none
def a3u(P:Program)(t:TypeId):Bool:=match P.underlying t with|some (.interface _)=>true|_=>false
def a3L(P:Program)(op:BinOp)(t:TypeId)(x:D)(y:Operand):Option D:=match x,y with
 | .ifc b,.const .nilIface=>(match a3u P t,op with|true,.eql=>some (.bool (!b))|true,.neq=>some (.bool b)|_,_=>none)
 |_,_=>none
def Ue(op:BinOp):D->D->Option D
 | .int k a,.int k' b=>
  if k=k' then
   match op with
   | .add=>some (.int k (k.wrap (a+b)))
   | .sub=>some (.int k (k.wrap (a-b)))
   | .mul=>some (.int k (k.wrap (a*b)))
   | .quo=>if 0<=a/\0<b then some (.int k (a/b))else none
   | .rem=>if 0<=a/\0<b then some (.int k (a%b))else none
   | .eql=>some (.bool (a==b))
   | .neq=>some (.bool (a != b))
   | .lss=>some (.bool (a<b))
   | .leq=>some (.bool (a<=b))
   | .gtr=>some (.bool (a>b))
   | .geq=>some (.bool (a>=b))
   |_=>none
  else none
 | .str a,.str b=>
  match op with
  | .add=>if a.length+b.length<=maxLen then some (.str (a++b))else none
  | .eql=>some (.bool (a==b))
  | .neq=>some (.bool (!(a==b)))
  | .lss=>some (.bool (Op.bytesLess a b))
  | .leq=>some (.bool (Op.bytesLess a b||a==b))
  | .gtr=>some (.bool (!(Op.bytesLess a b||a==b)))
  | .geq=>some (.bool (!(Op.bytesLess a b)))
  |_=>none
 |_,_=>none
def GY(ag:Bool)(n:Nat)(row:aL)(off:Nat):Option D:=
 if ag then(if off+n<=row.length then some (.agg ((row.drop off).take n))else none)else row[off]?
def yJ(len:Nat)(lo hi:Option D):Option (Nat×Nat):=
 match(match hi with|none=>some len|some (.int _ h)=>if 0<=h/\h.toNat<=len then some h.toNat else none|_=>none)with
 |none=>none
 |some h=>match(match lo with|none=>some 0|some (.int _ l)=>if 0<=l/\l.toNat<=h then some l.toNat else none|_=>none)with
  |none=>none
  |some l=>some (l,h)
def OP(a b:Int):Int:=if b<a then b else a
def a3K:D->D->Option D
 | .int k m,.int k' n=>if k=k' then some (.int k (OP m n))else none
 |_,_=>none
def a05(P:Program)(st:St)(x:Operand)(t:TypeId):Option D:=
 match st.ev x with
 | .str s=>if KB P t then some (.int .i64 s.length)else none
 | .sl rows=>if(FH P t).isSome then some (.int .i64 rows.length)else none
 | .nil=>if(FH P t).isSome then some (.int .i64 0)else none
 | .acc id=>(match FH P t,st.H[id]? with|some _,some (.row _ _ _ rows)=>some (.int .i64 rows.length)|_,_=>none)
 |_=>none
def D.cellsOf:D->Option aL
 | .agg ds=>some ds
 | .any=>none
 | .gw _=>none
 | .val v=>if v.oneCell' then some [.val v]else none
 |d=>some [d]
def tz(P:Program)(t:TypeId):Option aL:=
 match P.info? t with
 |some i=>(match i.zero with
  |some z=>if z.cells.toList.all (fun c=>c.oneCell')&&z.cells.size==i.size then some (z.cells.toList.map D.QX)else none
  |none=>none)
 |none=>none
def Tj(P:Program)(t:TypeId):Option (List (Nat×Nat)):=
 match P.underlying t with
 |some (.struct fs)=>fs.toList.mapM (fun f=>(P.info? f.type).map fun i=>(f.offset,i.size))
 |_=>none
def xk(places:List (Nat×Nat))(cells:aL):List (Nat×D)->Option aL
 | []=>some cells
 | (i,d)::rest=>match places[i]?,d.cellsOf with
  |some (off,sz),some ds=>if ds.length=sz/\off+sz<=cells.length then xk places (cells.take off++ds++cells.drop (off+sz)) rest else none
  |_,_=>none
def keq:D->D->Option Bool
 | .str a,.str b=>some (a==b)
 | .int k a,.int k' b=>if k=k' then some (a==b)else none
 |_,_=>none
def HQ:TypeDesc->D->Bool
 | .string,.str _=>true
 | .int k,.int k' _=>decide (k=k')
 |_,_=>false
def El(k:D):List (D×D)->Option (Option D)
 | []=>some none
 |p::r=>match keq k p.1 with|some true=>some (some p.2)|some false=>El k r|none=>none
def Iq(k v:D):List (D×D)->Option (List (D×D))
 | []=>some [(k,v)]
 |p::r=>match keq k p.1 with|some true=>some ((k,v)::r)|some false=>(Iq k v r).map (p:: ·)|none=>none
def Ur(P:Program)(T:TypeId):Option (TypeDesc×D):=
 match P.underlying T with
 |some (.map kt et)=>(match P.underlying kt,P.info? et with
  |some d,some i=>(match i.zero with|some z=>if z.oneCell'=true then some (d,D.QX z)else none|none=>none)
  |_,_=>none)
 |_=>none
def plk(P:Program)(T:TypeId)(kv:List (D×D))(k:D)(ok:Bool):Option D:=
 match Ur P T with
 |some (kd,dz)=>(match HQ kd k,El k kv with
  |true,some (some d)=>some (bif ok then .gw [d,.bool true]else d)
  |true,some none=>some (bif ok then .gw [dz,.bool false]else dz)
  |_,_=>none)
 |none=>none
def GO(k:IntKind)(a b:Int):Int:=k.wrap ((BitVec.ofInt k.bits a&&& BitVec.ofInt k.bits b).toNat)
def a4b(k:IntKind)(a b:Int):Int:=k.wrap ((BitVec.ofInt k.bits a|||BitVec.ofInt k.bits b).toNat)
def Sp(k:IntKind)(a b:Int):Int:=k.wrap ((BitVec.ofInt k.bits a^^^BitVec.ofInt k.bits b).toNat)
def Ql(k:IntKind)(a b:Int):Int:=a.fdiv (2^(min b.toNat k.bits))
def a3J(op:BinOp)(x y:D):Option D:=match x,y with
 | .int k a,.int k' b=>(match op with
  | .and=>if k=k' then some (.int k (GO k a b))else none
  | .or=>if k=k' then some (.int k (a4b k a b))else none
  | .xor=>if k=k' then some (.int k (Sp k a b))else none
  | .shr=>if 0<=b then some (.int k (Ql k a b))else none
  |_=>none)
 |_,_=>none
theorem pF.shr{k:IntKind}{a:Int}(h:pF k a)(b:Int):pF k (Ql k a b):=by
 have hm:(0:Int)<2^(min b.toNat k.bits):=Int.pow_pos (by decide);unfold Ql;rw[Int.fdiv_eq_ediv_of_nonneg _ (Bp hm)];generalize(2:Int)^(min b.toNat k.bits)=m at hm;have hz:=pF.zero k;rcases Int.lt_or_le a 0 with h0|h0
 ·refine⟨Bq h.1 (Int.le_ediv_of_mul_le hm ?_),Bq (Bp (Int.ediv_lt_of_lt_mul (b:=0) hm (by omega))) hz.2⟩;have:a*m<=a*1:=Int.mul_le_mul_of_nonpos_left (Bp h0) (by omega);omega
 ·exact h.down (Cf h0 (Bp hm)) (Int.ediv_le_self m h0)
def pv(P:Program)(st:St):Op->Option D
 | .lookup T x i ok=>match st.ev x with
  | .acc id=>(match st.H[id]? with|some (.mp kv)=>plk P T kv (st.ev i) ok|_=>none)
  |_=>none
 | .build t parts=>match tz P t,Tj P t with
  |some zs,some ps=>(xk ps zs (parts.toList.map fun p=>(p.1,st.ev p.2))).map D.agg
  |_,_=>none
 | .move x=>some (st.ev x)
 | .assign x=>some (st.ev x)
 | .pick c a b=>match st.ev c with| .bool t=>some (bif t then st.ev a else st.ev b)|_=>none
 | .binOp op t x y _=>match Ue op (st.ev x) (st.ev y)with|some d=>some d|none=>(match peq P op t (st.ev x) (st.ev y)with|some d=>some d|none=>(match a3L P op t (st.ev x) y with|some d=>some d|none=>a3J op (st.ev x) (st.ev y)))
 | .nilCheck x=>match st.ev x with| .ptr i o=>some (.ptr i o)| .op i a b c=>some (.op i a b c)| .ep r o=>some (.ep r o)|_=>none
 | .unOp .not _ x=>match st.ev x with| .bool b=>some (.bool (!b))|_=>none
 | .unOp .neg _ x=>match st.ev x with| .int k n=>some (.int k (k.wrap (0-n)))|_=>none
 | .convert s d x=>match st.ev x,SM P s,SM P d with| .int _ n,some _,some k=>some (.int k (k.wrap n))|_,_,_=>none
 | .field t x f=>match tft P t f,st.ev x with
  |some (off,ft),.agg cells=>(match zz P ft with|some ag=>GY ag (z6 P ft) cells off|none=>none)
  |_,_=>none
 | .fieldAddr t x f=>match tfo P t f,st.ev x with
  |some o,.ptr id off=>some (.ptr id (off+o))
  |some o,.ep row off=>some (.ep row (off+o))
  |some o,.op id i sz off=>some (.op id i sz (off+o))
  |_,_=>none
 | .indexAddr t x i=>match FH P t,st.ev x,st.ev i with
  |some (_,sz),.sl rows,.int _ n=>if 0<=n then(match rows[n.toNat]? with|some row=>if row.length=sz then some (.ep row 0)else none|none=>none)else none
  |some (_,sz),.acc id,.int _ n=>(match st.H[id]? with
   |some (.row _ _ sz' rows)=>if sz=sz'/\0<=n/\n.toNat<rows.length then some (.op id n.toNat sz 0)else none
   |_=>none)
  |_,.val (.pointer (some ⟨g,o,none⟩)),.int _ n=>(match a3t P t with
   |some (sz,len)=>if 0<=n/\n.toNat<len then some (.val (.pointer (some ⟨g,o+n.toNat*sz,none⟩)))else none
   |none=>none)
  |_,_,_=>none
 | .load t x=>match zz P t,st.ev x with
  |some ag,.ep row off=>GY ag (z6 P t) row off
  |some ag,.ptr id off=>(match(st.H[id]?).bind Ob.Sx with|some cells=>GY ag (z6 P t) cells off|none=>none)
  |some ag,.op id i sz off=>(match st.H[id]? with
   |some (.row (.ho p n) _ sz' _)=>(match ag with|false=>if sz'=sz/\i*sz+off=p then some (.acc n)else none|true=>none)
   |some (.row k _ sz' rows)=>(match rows[i]? with|some row=>if sz'=sz/\k.Oh=true/\off+(bif ag then z6 P t else 1)<=sz then GY ag (z6 P t) row off else none|none=>none)
   |_=>none)
  |some ag,.val (.pointer (some ⟨g,o,none⟩))=>(match ag with|false=>Tq g o|true=>none)
  |_,_=>none
 | .extract x i=>match st.ev x with| .gw vs=>vs[i]? |_=>none
 | .index t x i=>match KB P t,st.ev x,st.ev i with
  |true,.str s,.int _ n=>if 0<=n then(match s[n.toNat]? with|some b=>some (.int .u8 b.toNat)|none=>none)else none
  |_,_,_=>none
 | .slice t x lo hi none=>match st.ev x with
  | .str s=>if KB P t then(match yJ s.length (lo.map st.ev) (hi.map st.ev)with|some (l,h)=>some (.str ((s.take h).drop l))|none=>none)else none
  | .sl rows=>(match FH P t,yJ rows.length (lo.map st.ev) (hi.map st.ev)with
   |some (_,sz),some (l,h)=>if(rows.all (fun r=>r.length==sz))then some (.sl ((rows.take h).drop l))else none
   |_,_=>none)
  |_=>none
 | .call c=>match c.callee,c.args.toList,c.argTypes.toList with
  | .builtin .len,[x],[t]=>a05 P st x t
  | .builtin .min,[x,y],[_,_]=>a3K (st.ev x) (st.ev y)
  |_,_,_=>none
 |_=>none
section
variable{P:Program}{Γ:tZ}{st:St}{κ:Nat->Option Value}{Θ:Nat->Nat}{a:Act}{w:World}
def wQ(P:Program)(κ:Nat->Option Value)(Θ:Nat->Nat)(a:Act)(w:World)(o:Oper)(d:D):Prop:=
 ∃v bs,(execOp a.eval o).run P w=.ok (.value v) w/\rS w κ v d bs/\∀b∈bs,Θ b=0
theorem Od{n:Nat}(h:n<=maxLen):pF .i64 (n:Int):=by
 rw[pF.i64];unfold maxLen at h;omega
theorem di{k:IntKind}{n:Int}(h:pF k n):k.wrap n=n:=by
 unfold pF at h;cases k<;>simp[IntKind.min,IntKind.max,IntKind.wrap,IntKind.bits,IntKind.signed]at h⊢ <;>(try split)<;>omega
theorem S4{o:Oper}{op:BinOp}{t t':TypeId}{x y:Operand}{d:D}(hs:dV Γ st κ Θ a w)(ho:o.op=.binOp op t x y t')
 (h:Ue op (st.ev x) (st.ev y)=some d):wQ P κ Θ a w o d:=by
 obtain⟨b1,r1,_⟩:=hs.ev x;obtain⟨b2,r2,_⟩:=hs.ev y;generalize st.ev x=dx at*;generalize st.ev y=dy at*;unfold Ue at h;split at h
 ·rename_i k p k' q;split at h
  ·rename_i hk;subst hk;have e1:=r1.ql;have e2:=r2.ql;cases op<;>simp only[aj,reduceCtorEq]at h
   case quo=>
    split at h
    ·rename_i hq;cases h;have hq0:q≠0:=by omega
     have hle:p/q<=p:=Int.ediv_le_self q hq.1;have h0:0<=p/q:=Cf hq.1 (by omega);have hin:=r1.M0.down h0 hle;have hw:k.wrap (p.tdiv q)=p/q:=by
      rw[Int.tdiv_eq_ediv_of_nonneg hq.1];exact di hin
     exact⟨_,[],by simp[execOp,ho,e1,e2,binOp,eqGuard,Op.intDiv,hq0,hw],.of (.int _ _ hin),by simp⟩
    ·cases h
   case rem=>
    split at h
    ·rename_i hq;cases h;have hq0:q≠0:=by omega
     have h0:0<=p%q:=Int.emod_nonneg p hq0;have hle:p%q<=p:=by
      have h1:=Int.emod_add_mul_ediv p q;have h2:0<=q*(p/q):=Int.mul_nonneg (by omega) (Cf hq.1 (by omega));omega
     have hin:=r1.M0.down h0 hle;have hw:p.tmod q=p%q:=Int.tmod_eq_emod_of_nonneg hq.1;exact⟨_,[],by simp[execOp,ho,e1,e2,binOp,eqGuard,Op.intDiv,hq0,hw],.of (.int _ _ hin),by simp⟩
    ·cases h
   all_goals subst h
   all_goals first
    |exact⟨_,[],by simp[execOp,ho,e1,e2,binOp,eqGuard,Op.intArith],.of (.int _ _ (pF.wrap _ _)),by simp⟩
    |exact⟨_,[],by simp[execOp,ho,e1,e2,binOp,eqGuard,Op.intCmp],.of (.bool _),by simp⟩
  ·cases h
 ·rename_i p q;obtain⟨u,e1,rfl⟩:=r1.u9;obtain⟨v,e2,rfl⟩:=r2.u9;cases op<;>simp only[aj,reduceCtorEq]at h
  case add=>
   split at h
   ·rename_i hl;cases h;have hsz:u.size+v.size<=9223372036854775807:=by
     simp only[uI,maxLen]at hl;exact hl
    refine⟨.string (u++v),[],?_,?_,by simp⟩
    ·simp[execOp,ho,e1,e2,binOp,eqGuard,run_string_add_sum w u v hsz]
    ·have:=Rd.str (w:=w) (u++v) (by rw[ByteArray.size_append'];unfold maxLen;omega);simp only[ByteArray.data_append,lR]at this;exact .of this
   ·cases h
  all_goals subst h
  all_goals exact⟨_,[],by simp[execOp,ho,e1,e2,binOp,eqGuard,Op.stringOp,ByteArray.toList_eq],.of (.bool _),by simp⟩
 ·cases h
theorem FE{t:TypeId}{b:Bool}(h:zz P t=some b)(w:World):(isAgg t).run P w=.ok b w:=by
 unfold zz at h;split at h<;>first
  | (rename_i hu;cases h;simp[isAgg,run_underlying hu])
  | (rename_i d _ _ hu;cases h;cases d<;>simp_all [isAgg,run_underlying hu])
  |cases h
theorem info_of_underlying{t:TypeId}{d:TypeDesc}(h:P.underlying t=some d):∃i,P.info? t=some i:=by
 unfold Program.underlying at h;cases hi:P.info? t with
 |none=>simp[hi]at h
 |some i=>exact⟨i,rfl⟩
theorem Ip{t:TypeId}{b:Bool}(h:zz P t=some b):∃i,P.info? t=some i:=by
 unfold zz at h;split at h<;>first
  | (rename_i hu;exact info_of_underlying hu)
  |cases h
theorem ud{t:TypeId}(h:∃i,P.info? t=some i)(w:World):(sizeOf t).run P w=.ok (z6 P t) w:=by
 obtain⟨i,hi⟩:=h;simp[sizeOf,typeInfo,hi,z6,Program.cellsOf]
theorem nS{t:TypeId}{ag:Bool}(ht:zz P t=some ag){b off o:Nat}{cs:bZ}
 (hc:∀j c,cs[j]?=some c->w.cell? ⟨b,off+j,none⟩=some c):
 (ag=true->o+z6 P t<=cs.length->(Instr.loadAt t (.pointer (some ⟨b,off+o,none⟩))).run P w=.ok (.agg ((cs.drop o).take (z6 P t)).toArray) w)/\
 (ag=false->∀c,cs[o]?=some c->(Instr.loadAt t (.pointer (some ⟨b,off+o,none⟩))).run P w=.ok c w):=by
 constructor
 ·intro e hl;subst e;have hlen:((cs.drop o).take (z6 P t)).length=z6 P t:=by simp;omega
  have:=run_loadCells_list (P:=P) w ⟨b,off+o,none⟩ ((cs.drop o).take (z6 P t)) (by
   intro j v hj;rw[Addr.add_lit];rw[cS]at hj;split at hj
   ·rw[eY]at hj;rw[kj];exact hc _ _ hj
   ·cases hj)
  rw[hlen]at this;simp[Instr.loadAt,Instr.sureAddr,loadVar,FE ht,ud (Ip ht),this]
 ·intro e c hj;subst e;have:=hc o c hj;simp[Instr.loadAt,Instr.sureAddr,loadVar,FE ht,this]
theorem yQ.Nk{v:Value}{d:D}{bs:aW}(h:yQ w κ v d bs):rS w κ v d bs:=.v (.cell h)
theorem M8{o:Oper}{t:TypeId}{x:Operand}{d:D}(hs:dV Γ st κ Θ a w)(ho:o.op=.load t x)
 (h:pv P st (.load t x)=some d):wQ P κ Θ a w o d:=by
 obtain⟨b1,r1,z1⟩:=hs.ev x;simp only[pv]at h;split at h
 ·rename_i ag row off ht hx;rw[hx]at r1;have hrd:=r1.RO;generalize TI:a.eval x=vx at hrd;cases hrd with
  |ep b base cs _ _ bs h0 hc qk=>
   have L:=nS (P:=P) (w:=w) ht (o:=off) hc;unfold GY at h;split at h
   ·rename_i hag;split at h
    ·rename_i hl;cases h;have hl':off+z6 P t<=cs.length:=by rw[qk.length];exact hl
     obtain⟨b',hm,hsub⟩:=qk.mid off (z6 P t);exact⟨_,b',by simp only[execOp,ho,TI];simp[L.1 hag hl'],.of (.agg _ _ _ hm),fun y hy=>z1 y (by simp[hsub y hy])⟩
    ·cases h
   ·rename_i hag;simp only[wh]at hag;obtain⟨v,b',hv,_,hr,hsub⟩:=qk.at h;exact⟨v,b',by simp only[execOp,ho,TI];simp[L.2 hag v hv],.of hr,fun y hy=>z1 y (by simp[hsub y hy])⟩
 ·rename_i ag id off ht hx;rw[hx]at r1;obtain⟨g,hk,hv⟩:=r1.yq;split at h
  ·rename_i cells hH;obtain⟨ob,hH,xe⟩:=nY.1 hH;obtain⟨g',cs,T,hk',hg,hΘ,bs,qk,hz⟩:=(hs.ob id _ hH).cs xe;rw[hk]at hk';cases hk';have hc:∀j c,cs.toList[j]?=some c->w.cell? ⟨g,0+j,none⟩=some c:=by
    intro j c hj;simp only[cN,World.cell?,hg];simpa using hj
   have L:=nS (P:=P) (w:=w) ht (o:=off) hc;simp only[cN]at L;unfold GY at h;split at h
   ·rename_i hag;split at h
    ·rename_i hl;cases h;have hl':off+z6 P t<=cs.toList.length:=by rw[qk.length];exact hl
     obtain⟨b',hm,hsub⟩:=qk.mid off (z6 P t) hl;exact⟨_,b',by simp only[execOp,ho,hv];simp[L.1 hag hl'],.v (.agg _ _ _ hm),fun y hy=>hz y (hsub y hy)⟩
    ·cases h
   ·rename_i hag;simp only[wh]at hag;obtain⟨v,b',Yg,_,hr,hsub⟩:=qk.at h;exact⟨v,b',by simp only[execOp,ho,hv];simp[L.2 hag v Yg],hr.Nk,fun y hy=>hz y (hsub y hy)⟩
  ·cases h
 ·rename_i ag id i sz off ht hx;rw[hx]at r1;obtain⟨g,o0,len,cap,hk,hv⟩:=r1.Et;split at h
  ·rename_i p n e sz' rows hH;split at h
   ·split at h
    ·rename_i WC;obtain⟨rfl,rfl⟩:=WC;cases h;obtain⟨ρ,hu⟩:=hs.rR;obtain⟨vk,cs,bs,TH,hown,_,_,_,c,hc,hkc⟩:=hu.more id _ hH;rw[hk]at TH;cases TH;have VA:=yp hown;subst VA;rw[cN]at hv;have hcells:∀j c,cs[j]?=some c->w.cell? ⟨g,0+j,none⟩=some c:=by
      intro j c hj;have:=hown.cells (g:=g) (by simp[Value.ownBlock]) j c hj;simpa[Addr.add_lit]using this
     have L:=nS (P:=P) (w:=w) ht (o:=i*sz'+off) hcells;simp only[cN]at L;exact⟨c,[],by simp only[execOp,ho,hv];simp[L.2 trivial c hc],(yQ.acc n c hkc).Nk,by simp⟩
    ·cases h
   ·cases h
  ·rename_i k e sz' rows hnh hH;split at h
   ·rename_i row hrow;split at h
    ·rename_i WC;obtain⟨rfl,hk0,hoff⟩:=WC;obtain⟨hsz,hrl,vk,cs,bs,TH,hown,qk,hΘ,hz⟩:=hs.ob id _ hH;have xw:∀b∈bs,Θ b=0:=by cases k<;>first|exact hz|simp[RK.Oh]at hk0
     rw[hk]at TH;cases TH;have VA:=yp hown;subst VA;rw[cN]at hv;have TG:row.length=sz':=hrl row (aD hrow);have hcells:∀j c,cs[j]?=some c->w.cell? ⟨g,0+j,none⟩=some c:=by
      intro j c hj;have:=hown.cells (g:=g) (by simp[Value.ownBlock]) j c hj;simpa[Addr.add_lit]using this
     have L:=nS (P:=P) (w:=w) ht (o:=i*sz'+off) hcells;simp only[cN]at L;have a8Q:=qk.length;have hmid:=EZ hrl hrow;have hlt:i<rows.length:=(aF.1 hrow).1;have hfl:=nP hrl;have hle:(i+1)*sz'<=rows.length*sz':=dW _ hlt;rw[k7,nI]at hle;unfold GY at h;split at h
     ·rename_i hag;subst hag;simp only[aH]at hoff;split at h
      ·rename_i hl;cases h;have hl':i*sz'+off+z6 P t<=cs.length:=by rw[a8Q,hfl];omega
       obtain⟨b',hm,hsub⟩:=qk.mid (i*sz'+off) (z6 P t);have e:(rows.flatten.drop (i*sz'+off)).take (z6 P t)=(row.drop off).take (z6 P t):=by
        rw[<-hmid,List.drop_take,tH,fe,fG (by omega)]
       rw[e]at hm;exact⟨_,b',by simp only[execOp,ho,hv];simp[L.1 rfl hl'],.of (.agg _ _ _ hm),fun y hy=>xw y (hsub y hy)⟩
      ·cases h
     ·rename_i hag;simp only[wh]at hag;subst hag;simp only[aS]at hoff;have e:rows.flatten[i*sz'+off]?=some d:=by
       rw[<-hmid,cS,bL (by omega),eY]at h;exact h
      obtain⟨v,b',Yg,_,hr,hsub⟩:=qk.at e;exact⟨v,b',by simp only[execOp,ho,hv];simp[L.2 rfl v Yg],.of hr,fun y hy=>xw y (hsub y hy)⟩
    ·cases h
   ·cases h
  ·cases h
 ·rename_i ag g o' ht hx;rw[hx]at r1;have hv:=r1.Tp;split at h
  ·obtain⟨ds,⟨p,hp,hcs⟩,hd⟩:=YL h;obtain⟨B,hB,_⟩:=hs.vsb;obtain⟨_,cs,T,z,hg,hpc⟩:=hB _ hp;obtain⟨v,GV,hrd⟩:=hcs _ hpc _ _ hd;have hc:∀j c,cs.toList[j]?=some c->w.cell? ⟨g,0+j,none⟩=some c:=by
    intro j c hj;simp only[cN,World.cell?,hg];simpa using hj
   have L:=(nS (P:=P) (w:=w) ht (o:=o') hc).2 rfl v GV;rw[cN]at L;exact⟨v,[],by simp only[execOp,ho,hv];simp[L],.of (hrd w),by simp⟩
  ·cases h
 ·cases h
theorem Pt{o:Oper}{t f:Nat}{x:Operand}{d:D}(hs:dV Γ st κ Θ a w)(ho:o.op=.field t x f)
 (h:pv P st (.field t x f)=some d):wQ P κ Θ a w o d:=by
 obtain⟨b1,r1,z1⟩:=hs.ev x;simp only[pv]at h;split at h
 ·rename_i off ft cells ht hx;rw[hx]at r1;obtain⟨cs,hv,qk⟩:=r1.F7;unfold tft at ht;split at ht
  ·rename_i fs hu;split at ht
   ·rename_i fl hfl;cases ht;split at h
    ·rename_i ag hta;unfold GY at h;split at h
     ·rename_i hag;subst hag;split at h
      ·rename_i hl;cases h;obtain⟨b',hm,hsub⟩:=qk.mid fl.offset (z6 P fl.type) hl;refine⟨.agg ((cs.drop fl.offset).take (z6 P fl.type)).toArray,b',?_,.v (.agg _ _ _ hm),fun y hy=>z1 y (hsub y hy)⟩;have e:cs.toArray.extract fl.offset (fl.offset+z6 P fl.type)=((cs.drop fl.offset).take (z6 P fl.type)).toArray:=by
        rw[List.extract_toArray,List.extract_eq_take_drop];congr 1;congr 1;omega
       simp only[execOp,ho,hv];simp[Instr.field,run_underlying hu,hfl,asAgg,part,FE hta,ud (Ip hta),e]
      ·cases h
     ·rename_i hag;simp only[wh]at hag;subst hag;obtain⟨v,b',GV,_,hr,hsub⟩:=qk.at h;refine⟨v,b',?_,.v (.cell hr),fun y hy=>z1 y (hsub y hy)⟩;simp only[execOp,ho,hv];simp[Instr.field,run_underlying hu,hfl,asAgg,part,FE hta,GV]
    ·cases h
   ·cases ht
  ·cases ht
 ·cases h
theorem Ko{o:Oper}{t f:Nat}{x:Operand}{d:D}(hs:dV Γ st κ Θ a w)(ho:o.op=.fieldAddr t x f)
 (h:pv P st (.fieldAddr t x f)=some d):wQ P κ Θ a w o d:=by
 obtain⟨b1,r1,z1⟩:=hs.ev x;have hf:∀ {o':Nat},tfo P t f=some o'->∀(b off:Nat),(Instr.fieldAt t (.pointer (some ⟨b,off,none⟩)) f).run P w=.ok (.pointer (some ⟨b,off+o',none⟩)) w:=by
  intro o' h b off;unfold tfo at h;split at h
  ·rename_i fs hu;split at h
   ·rename_i fl hfl;split at h
    ·rename_i hc;cases h;obtain⟨i,hi⟩:=eN.1 hc.1;have hsz:=ud (P:=P) ⟨i,hi⟩ w;have h0:z6 P fl.type≠0:=hc.2;simp[Instr.fieldAt,run_underlying hu,hfl,Instr.sureAddr,fieldPlace,hsz,h0,Addr.add_lit]
    ·cases h
   ·cases h
  ·cases h
 simp only[pv]at h;split at h
 ·rename_i o' id off ht hx;cases h;rw[hx]at r1;obtain⟨g,hk,hv⟩:=r1.yq;exact⟨_,[],by simp only[execOp,ho,hv];simp[hf ht g off],(yQ.ptr id (off+o') g hk).Nk,by simp⟩
 ·rename_i o' row off ht hx;cases h;rw[hx]at r1;have hrd:=r1.RO;generalize TI:a.eval x=vx at hrd;cases hrd with
  |ep b base cs _ _ bs h0 hc qk=>
   refine⟨.pointer (some ⟨b,base+off+o',none⟩),b::bs,by simp only[execOp,ho,TI];simp[hf ht b (base+off)],?_,z1⟩;rw[kj];exact .of (.ep b base cs row (off+o') bs h0 hc qk)
 ·rename_i o' id i sz off ht hx;cases h;rw[hx]at r1;obtain⟨g,o0,len,cap,hk,hv⟩:=r1.Et;refine⟨.pointer (some ⟨g,o0+(i*sz+off)+o',none⟩),[],by simp only[execOp,ho,hv];simp[hf ht g (o0+(i*sz+off))],?_,by simp⟩;rw[kj,kj];exact(yQ.op id i sz (off+o') g o0 len cap hk).Nk
 ·cases h
theorem oo{t e sz:Nat}(h:FH P t=some (e,sz)):P.underlying t=some (.slice e)/\(∃i,P.info? e=some i)/\z6 P e=sz:=by
 unfold FH at h;split at h
 ·rename_i e' hu;split at h
  ·rename_i hi;cases h;exact⟨hu,eN.1 hi,rfl⟩
  ·cases h
 ·cases h
theorem Ks{o:Oper}{t:Nat}{x i:Operand}{d:D}(hs:dV Γ st κ Θ a w)(ho:o.op=.indexAddr t x i)
 (h:pv P st (.indexAddr t x i)=some d):wQ P κ Θ a w o d:=by
 obtain⟨b1,r1,z1⟩:=hs.ev x;obtain⟨b2,r2,z2⟩:=hs.ev i;simp only[pv]at h;split at h
 ·rename_i e sz rows k n ht hx hi;rw[hx]at r1;rw[hi]at r2;have hn:=r2.ql;obtain⟨hu,Ju,Io⟩:=oo ht;have hsz:=ud (P:=P) Ju w;split at h
  ·rename_i h0;split at h
   ·rename_i row hrow;split at h
    ·rename_i hlen;cases h;have hrd:=r1.Oz;have hlt:n.toNat<rows.length:=(aF.1 hrow).1;generalize TI:a.eval x=vx at hrd;cases hrd with
     |wI=>simp at hrow
     |lP=>simp at hrow
     |sl b off cap sz' _ cs bs hb hcap CS hrl hc qk=>
      have a8T:sz'=sz:=by rw[<-hrl row (aD hrow)];exact hlen
      subst a8T;obtain⟨b',hm,hsub⟩:=qk.mid (n.toNat*sz') sz';rw[EZ hrl hrow]at hm;have hn':0<=n/\n<(rows.length:Int):=⟨h0,by omega⟩
      refine⟨.pointer (some ⟨b,off+n.toNat*sz',none⟩),b::b',?_,?_,?_⟩
      ·simp only[execOp,ho,TI,hn];simp[Instr.indexAt,asIntOf,run_underlying hu,hn',hsz,Io,Addr.add_lit]
      ·have a8R:∀j c,((cs.drop (n.toNat*sz')).take sz')[j]?=some c->w.cell? ⟨b,off+n.toNat*sz'+j,none⟩=some c:=by
        intro j c hj;rw[cS]at hj;split at hj
        ·rw[eY]at hj;rw[kj];exact hc _ _ hj
        ·cases hj
       exact .of (.ep b (off+n.toNat*sz') _ row 0 b' hb a8R hm)
      ·intro y hy;rcases bE.1 hy with rfl|hy
       ·exact z1 _ (by simp)
       ·exact z1 _ (by simp[hsub y hy])
    ·cases h
   ·cases h
  ·cases h
 ·rename_i e sz id k n ht hx hi;rw[hx]at r1;rw[hi]at r2;have hn:=r2.ql;obtain⟨hv,_⟩:=r1.uh;obtain⟨hu,Ju,Io⟩:=oo ht;have hsz:=ud (P:=P) Ju w;split at h
  ·rename_i dp e' sz' rows hH;split at h
   ·rename_i hc;cases h;obtain⟨rfl,h0,hlt⟩:=hc;obtain⟨a2e,hrl,vk,cs,bs,TH,hown,qk,hΘ,hz⟩:=hs.ob id _ hH;rw[hv]at TH;cases TH;rcases hown.2 with⟨tu,xw⟩|⟨g,cap,cur,hkv,_⟩
    ·omega
    ·have hn':0<=n/\n<(rows.length:Int):=⟨h0,by omega⟩
     refine⟨_,[],?_,(yQ.op id n.toNat sz 0 g 0 _ _ (hkv▸hv)).Nk,by simp⟩;simp only[execOp,ho,hn,hkv];simp[Instr.indexAt,asIntOf,run_underlying hu,hn',hsz,Io,Addr.add_lit]
   ·cases h
  ·cases h
 ·rename_i g o' kk n hx hi;rw[hx]at r1;rw[hi]at r2;have hn:=r2.ql;have hv:=r1.Tp;split at h
  ·rename_i sz len hT;split at h
   ·rename_i hc;cases h;obtain⟨h0,hlt⟩:=hc;unfold a3t at hT;split at hT
    ·rename_i len' e hu;split at hT
     ·rename_i Ju;cases hT;have hsz:=ud (P:=P) (eN.1 Ju) w;have hn':0<=n/\n<(len:Int):=⟨h0,by omega⟩
      refine⟨_,[],?_,.of (.val _),by simp⟩;simp only[execOp,ho,hn,hv];simp[Instr.indexAt,Instr.sureAddr,asIntOf,run_underlying hu,hn',hsz,z6,Addr.add_lit]
     ·cases hT
    ·cases hT
   ·cases h
  ·cases h
 ·cases h
theorem UU{o:Oper}{t t':Nat}{x y:Operand}{d:D}(hs:dV Γ st κ Θ a w)(ho:o.op=.call {callee:=.builtin .min,args:= #[x,y],argTypes:= #[t,t']})
 (h:a3K (st.ev x) (st.ev y)=some d):wQ P κ Θ a w o d:=by
 obtain⟨b1,r1,z1⟩:=hs.ev x;obtain⟨b2,r2,z2⟩:=hs.ev y;unfold a3K at h;split at h
 ·rename_i k m k' n hx hy;split at h
  ·rename_i hk;subst hk;cases h;rw[hx]at r1;rw[hy]at r2;have e1:=r1.ql;have e2:=r2.ql;refine⟨.int k (OP m n),[],?_,.of (.int _ _ ?_),by simp⟩
   ·simp only[execOp,ho,resolve,invoke,builtin,oU,ay,bt,e1,e2];simp[Builtin.min_,Builtin.min2,OP]
   ·unfold OP;split
    ·exact r2.M0
    ·exact r1.M0
  ·cases h
 ·cases h
theorem UP{o:Oper}{t:Nat}{x:Operand}{d:D}(hs:dV Γ st κ Θ a w)(ho:o.op=.call {callee:=.builtin .len,args:= #[x],argTypes:= #[t]})
 (h:a05 P st x t=some d):wQ P κ Θ a w o d:=by
 obtain⟨b1,r1,z1⟩:=hs.ev x;unfold a05 at h;split at h
 ·rename_i s hx;split at h
  ·rename_i ht;cases h;rw[hx]at r1;obtain⟨u,hv,rfl⟩:=r1.u9;have hu:P.underlying t=some .string:=by
    unfold KB at ht;split at ht
    ·assumption
    ·cases ht
   refine⟨.int .i64 (u.data.toList.length:Nat),[],?_,.of (.int _ _ (Od r1.YC)),by simp⟩;simp only[execOp,ho,resolve,invoke,builtin,oU,ay,bt,hv];simp[Builtin.len_,run_underlying hu,goInt]
  ·cases h
 ·rename_i rows hx;split at h
  ·rename_i ht;cases h;rw[hx]at r1;obtain⟨⟨e,sz⟩,ht⟩:=eN.1 ht;obtain⟨hu,_,_⟩:=oo ht;have hrd:=r1.Oz;generalize TI:a.eval x=vx at hrd;have hlen:∃q c,vx=.slice q rows.length c:=by
    cases hrd with
    |wI=>exact⟨_,_,rfl⟩
    |lP=>exact⟨_,_,rfl⟩
    |sl=>exact⟨_,_,rfl⟩
   have CS:rows.length<=maxLen:=by
    cases hrd with
    |wI=>simp
    |lP=>simp
    |sl b off cap sz _ cs bs hb h1 h2=>omega
   obtain⟨q,c,rfl⟩:=hlen;refine⟨.int .i64 rows.length,[],?_,.of (.int _ _ (Od CS)),by simp⟩;simp only[execOp,ho,resolve,invoke,builtin,oU,ay,bt,TI];simp[Builtin.len_,run_underlying hu,goInt]
  ·cases h
 ·rename_i hx;split at h
  ·rename_i ht;cases h;rw[hx]at r1;obtain⟨⟨e,sz⟩,ht⟩:=eN.1 ht;obtain⟨hu,_,_⟩:=oo ht;have hv:=r1.Iw;refine⟨.int .i64 0,[],?_,.of (.int _ _ (pF.zero _)),by simp⟩;simp only[execOp,ho,resolve,invoke,builtin,oU,ay,bt,hv];simp[Builtin.len_,run_underlying hu,goInt]
  ·cases h
 ·rename_i id hx;split at h
  ·rename_i p dp e' sz' rows ht hH;cases h;rw[hx]at r1;obtain⟨hv,_⟩:=r1.uh;obtain⟨e,sz⟩:=p;obtain⟨hu,_,_⟩:=oo ht;obtain⟨a2e,hrl,vk,cs,bs,TH,hown,qk,hΘ,hz⟩:=hs.ob id _ hH;rw[hv]at TH;cases TH;have hlen:∃q c,a.eval x=.slice q rows.length c:=by
    rcases hown.2 with⟨tu,xw⟩|⟨g,cap,cur,hkv,_⟩
    ·exact⟨none,0,by rw[tu,xw]⟩
    ·exact⟨_,_,hkv⟩
   have CS:rows.length<=maxLen:=by
    rcases hown.2 with⟨tu,xw⟩|⟨g,cap,cur,hkv,_,_,h1,h2,_⟩
    ·omega
    ·omega
   obtain⟨q,c,hk⟩:=hlen;refine⟨.int .i64 rows.length,[],?_,.of (.int _ _ (Od CS)),by simp⟩;simp only[execOp,ho,resolve,invoke,builtin,oU,ay,bt,hk];simp[Builtin.len_,run_underlying hu,goInt]
  ·cases h
 ·cases h
theorem By.at{vs:bZ}{ds:aL}{bs:aW}(h:By w κ vs ds bs){i:Nat}{d:D}(hd:ds[i]?=some d):
 ∃v b,vs[i]?=some v/\LJ w κ v d b/\∀x∈b,x∈bs:=by
 induction ds generalizing vs bs i with
 |nil=>simp at hd
 |cons e ds ih=>
  cases h with
  |cons v vs _ _ b1 b2 h2 h3=>
   cases i with
   |zero=>simp at hd;subst hd;exact⟨v,b1,by simp,h2,by intro x hx;simp[hx]⟩
   |succ i=>
    simp at hd;obtain⟨u,b,k1,k3,k4⟩:=ih h3 hd;exact⟨u,b,by simpa using k1,k3,fun x hx=>by simp[k4 x hx]⟩
theorem rS.a0X{v:Value}{ds:aL}{bs:aW}(h:rS w κ v (.gw ds) bs):∃vs:bZ,v=.tuple vs.toArray/\By w κ vs ds bs:=by
 cases h with
 |v h=>cases h with|cell h=>cases h with|pure h=>cases h
 |gw vs _ _ h=>exact⟨vs,rfl,h⟩
theorem Mu{o:Oper}{i:Nat}{x:Operand}{d:D}(hs:dV Γ st κ Θ a w)(ho:o.op=.extract x i)
 (h:pv P st (.extract x i)=some d):wQ P κ Θ a w o d:=by
 obtain⟨b1,r1,z1⟩:=hs.ev x;simp only[pv]at h;split at h
 ·rename_i vs hx;rw[hx]at r1;obtain⟨us,hv,hr⟩:=r1.a0X;obtain⟨v,b,k1,k2,k3⟩:=hr.at h;exact⟨v,b,by simp only[execOp,ho,hv];simp[Instr.extract,k1],.v k2,fun y hy=>z1 y (k3 y hy)⟩
 ·cases h
theorem xB{t:Nat}(ht:KB P t=true):P.underlying t=some .string:=by
 unfold KB at ht;split at ht
 ·assumption
 ·cases ht
theorem QB{o:Oper}{t:Nat}{x i:Operand}{d:D}(hs:dV Γ st κ Θ a w)(ho:o.op=.index t x i)
 (h:pv P st (.index t x i)=some d):wQ P κ Θ a w o d:=by
 obtain⟨b1,r1,z1⟩:=hs.ev x;obtain⟨b2,r2,z2⟩:=hs.ev i;simp only[pv]at h;split at h
 ·rename_i s k n ht hx hi;rw[hx]at r1;rw[hi]at r2;obtain⟨u,hv,rfl⟩:=r1.u9;have hn:=r2.ql;have hu:=xB ht;split at h
  ·rename_i h0;split at h
   ·rename_i b hb;cases h;have hlt:n.toNat<u.size:=by
     have:=(aF.1 hb).1;simpa using this
    have Ls:u[n.toNat]?=some b:=by
     have hb':u.data[n.toNat]?=some b:=by simpa using hb
     rw[getElem?_pos u n.toNat hlt];rw[bC]at hb';obtain⟨_,he⟩:=hb';rw[<-he];rfl
    refine⟨.int .u8 b.toNat,[],?_,.of (.int _ _ (pF.u8.2 (by have:=b.toNat_lt;omega))),by simp⟩;simp only[execOp,ho,hv,hn];simp[Instr.index,asIntOf,run_underlying hu,h0,Ls]
   ·cases h
  ·cases h
 ·cases h
theorem Ot{lo hi:Option Operand}{l h':Nat}{isSlice:Bool}{len cap:Nat}(hs:dV Γ st κ Θ a w)
 (hlc:len<=cap) (h:yJ len (lo.map st.ev) (hi.map st.ev)=some (l,h')):
 (Instr.sliceBounds isSlice len cap (lo.map a.eval) (hi.map a.eval) none).run P w=.ok (l,h',cap) w/\l<=h'/\h'<=len:=by
 have hv:∀ {x:Operand} {k:IntKind} {n:Int},st.ev x=.int k n->a.eval x=.int k n:=by
  intro x k n hx;obtain⟨b,r,_⟩:=hs.ev x;rw[hx]at r;exact r.ql
 unfold yJ at h;cases hi with
 |none=>
  simp only[xx]at h⊢;cases lo with
  |none=>
   simp only[xx,aj,cY]at h⊢;obtain⟨rfl,rfl⟩:=h;exact⟨by simp[Instr.sliceBounds],by omega,by omega⟩
  |some lo=>
   simp only[cU]at h⊢;cases hlo:st.ev lo<;>simp only[hlo,reduceCtorEq]at h;rename_i k n;split at h
   ·cases h
   ·rename_i l0 hm;split at hm
    ·rename_i hb;cases hm;cases h;have L4:0<=n/\n<=(h':Int):=⟨hb.1,by omega⟩
     exact⟨by simp[Instr.sliceBounds,Instr.sliceBound,hv hlo,asIntOf,L4],hb.2,by omega⟩
    ·cases hm
 |some hi=>
  simp only[cU]at h⊢;cases hhi:st.ev hi<;>simp only[hhi,reduceCtorEq]at h;rename_i k m;split at h
  ·cases h
  ·rename_i h0 hm;split at hm
   ·rename_i hb;cases hm;have L4:0<=m/\m<=(cap:Int):=⟨hb.1,by omega⟩
    cases lo with
    |none=>
     simp only[xx,aj,cY]at h⊢;obtain⟨rfl,rfl⟩:=h;exact⟨by simp[Instr.sliceBounds,Instr.sliceBound,hv hhi,asIntOf,L4],by omega,hb.2⟩
    |some lo=>
     simp only[cU]at h⊢;cases hlo:st.ev lo<;>simp only[hlo,reduceCtorEq]at h;rename_i k' n;split at h
     ·cases h
     ·rename_i l0 hm;split at hm
      ·rename_i V7;cases hm;cases h;have hb3:0<=n/\n<=max m 0:=⟨V7.1,by omega⟩
       exact⟨by simp[Instr.sliceBounds,Instr.sliceBound,hv hhi,hv hlo,asIntOf,L4,hb3],V7.2,hb.2⟩
      ·cases hm
   ·cases hm
theorem Xa{rows:List aL}{sz l h':Nat}(hrl:∀r∈rows,r.length=sz)(h1:l<=h')(h2:h'<=rows.length):
 ((rows.take h').drop l).flatten=(rows.flatten.drop (l*sz)).take ((h'-l)*sz):=by
 have e:rows=(rows.take l)++(((rows.take h').drop l)++rows.drop h'):=by
  have hA:rows.take h'=(rows.take h').take l++(rows.take h').drop l:=(cJ _ _).symm;have hB:(rows.take h').take l=rows.take l:=by rw[tH,fG h1]
  rw[hB]at hA;rw[<-cc,<-hA,cJ]
 have l1:(rows.take l).flatten.length=l*sz:=by
  rw[nP (fun r hr=>hrl r (bz hr)),bw,fG (by omega)]
 have l2:((rows.take h').drop l).flatten.length=(h'-l)*sz:=by
  rw[nP (fun r hr=>hrl r (bz (gL hr))),oT,bw,fG (by omega)]
 have hf:rows.flatten=(rows.take l).flatten++(((rows.take h').drop l).flatten++(rows.drop h').flatten):=by
  rw[<-jF,<-jF,<-e]
 rw[hf,fc l1,ic l2]
theorem Qm{o:Oper}{t:Nat}{x:Operand}{lo hi:Option Operand}{d:D}(hs:dV Γ st κ Θ a w)(ho:o.op=.slice t x lo hi none)
 (h:pv P st (.slice t x lo hi none)=some d):wQ P κ Θ a w o d:=by
 obtain⟨b1,r1,z1⟩:=hs.ev x;simp only[pv]at h;split at h
 ·rename_i s hx;rw[hx]at r1;obtain⟨u,hv,rfl⟩:=r1.u9;split at h
  ·rename_i ht;have hu:=xB ht;split at h
   ·rename_i l h' hc;cases h;obtain⟨hr,hl,hh⟩:=Ot (P:=P) (isSlice:=false) (cap:=u.data.toList.length) hs (bO _) hc;have hsz:u.data.toList.length=u.size:=by simp
    rw[hsz]at hr;refine⟨.string (u.extract l h'),[],?_,?_,by simp⟩
    ·simp only[execOp,ho,hv];simp[Instr.sliceAt,Instr.slice,run_underlying hu,hr]
    ·have:=Rd.str (w:=w) (u.extract l h') (by
      have h1:=r1.YC;simp at h1⊢;omega)
     have e:(u.extract l h').data.toList=(u.data.toList.take h').drop l:=by
      simp[ByteArray.data_extract,List.drop_take]
     rw[e]at this;exact .of this
   ·cases h
  ·cases h
 ·rename_i rows hx;rw[hx]at r1;have hrd:=r1.Oz;split at h
  ·rename_i e sz l h' ht hc;split at h
   ·rename_i hall;cases h;obtain⟨hu,Ju,Io⟩:=oo ht;have hsz:=ud (P:=P) Ju w;have hrl:∀r∈rows,r.length=sz:=by
     intro r hr;have:=ai.1 hall r hr;simpa using this
    generalize TI:a.eval x=vx at hrd;have main:∀(q:Option Addr) (cap:Nat),vx=.slice q rows.length cap->rows.length<=cap->
     (execOp a.eval o).run P w=.ok (.value (.slice (if cap=l then q else q.map (·.add (l*sz))) (h'-l) (cap-l))) w/\l<=h'/\h'<=rows.length:=by
     intro q cap hq hcap;obtain⟨hr,hl,hh⟩:=Ot (P:=P) (isSlice:=true) (cap:=cap) hs hcap hc;refine⟨?_,hl,hh⟩;simp only[execOp,ho,TI,hq];simp[Instr.sliceAt,Instr.slice,run_underlying hu,hr,hsz,Io]
    cases hrd with
    |wI=>
     obtain⟨hr,hl,hh⟩:=main none 0 rfl (by simp);simp only[bW]at hh;have e1:h'=0:=by omega
     have e2:l=0:=by omega
     subst e1;subst e2;exact⟨_,[],hr,by simpa using rS.of (κ:=κ) (Rd.wI (w:=w)),by simp⟩
    |lP ad cap hm=>
     obtain⟨hr,hl,hh⟩:=main (some ad) cap rfl (by simp);simp only[bW]at hh;have e1:h'=0:=by omega
     have e2:l=0:=by omega
     subst e1;subst e2;refine⟨_,[],hr,?_,by simp⟩;have:(if cap=0 then some ad else(some ad).map (·.add (0*sz)))=some ad:=by simp[Addr.add]
     rw[this];exact .of (by simpa using Rd.lP (w:=w) ad cap hm)
    |sl b off cap sz' _ cs bs hb hcap CS Il hcc qk=>
     obtain⟨hr,hl,hh⟩:=main (some ⟨b,off,none⟩) cap rfl hcap;by_cases he:h'=l
     ·subst he;refine⟨_,[],hr,?_,by simp⟩;have e1:(rows.take h').drop h'=[]:=by simp
      rw[e1,pV];split
      ·exact .of (.lP _ _ (by omega))
      ·simp only[cU];exact .of (.lP _ _ (by omega))
     ·have hne:cap≠l:=by omega
      rw[b8 hne,cU,Addr.add_lit]at hr;obtain⟨b',hm,hsub⟩:=qk.mid (l*sz) ((h'-l)*sz);rw[<-Xa hrl hl hh]at hm;refine⟨_,b::b',hr,?_,?_⟩
      ·have hlen:((rows.take h').drop l).length=h'-l:=by simp;omega
       rw[<-hlen];refine .of (.sl b (off+l*sz) (cap-l) sz _ _ b' hb (by omega) (by omega) (fun r hr=>hrl r (bz (gL hr))) ?_ hm);intro j c hj;rw[cS]at hj;split at hj
       ·rw[eY]at hj;rw[kj];exact hcc _ _ hj
       ·cases hj
      ·intro y hy;rcases bE.1 hy with rfl|hy
       ·exact z1 _ (by simp)
       ·exact z1 _ (by simp[hsub y hy])
   ·cases h
  ·cases h
 ·cases h
theorem Nb{v:Value}(h:v.oneCell'=true):v.cells.toList=[v]:=by
 cases v<;>first|rfl|cases h
theorem yQ.one{v:Value}{d:D}{bs:aW}(h:yQ w κ v d bs)(hk:∀(id:Nat) u,κ id=some u->u.oneCell'=true)(hna:∀es,d≠ .agg es)(hc:d.cellsOf=some [d]):v.oneCell'=true:=by
 cases h with
 |pure h=>
  cases h<;>first
   |rfl
   | (exfalso;exact hna _ rfl)
   | (simp[D.cellsOf]at hc;done)
   | (simp only[D.cellsOf]at hc;split at hc<;>first|assumption|cases hc)
 |acc i v h=>exact hk i v h
 |ptr=>rfl
 |op=>rfl
theorem B4{v:Value}{d:D}{bs:aW}{ds:aL}(hk:∀(id:Nat) u,κ id=some u->u.oneCell'=true)(h:rS w κ v d bs)(hc:d.cellsOf=some ds):fH w κ v.cells.toList ds bs:=by
 have single:∀ {v d bs},yQ w κ v d bs->(∀es,d≠ .agg es)->d.cellsOf=some [d]->fH w κ v.cells.toList [d] bs:=by
  intro v d bs h hna hc;have h1:=h.one hk hna hc;rw[Nb h1];have:=fH.cons v [] d [] bs [] h1 h .nil;simpa using this
 cases h with
 |gw=>simp[D.cellsOf]at hc
 |v h=>
  cases h with
  |agg cs _ _ h=>simp only[D.cellsOf,aj]at hc;subst hc;simpa[Value.cells]using h
  |cell h=>
   by_cases tF:∃es,d=.agg es
   ·obtain⟨es,rfl⟩:=tF;simp only[D.cellsOf,aj]at hc;subst hc;cases h with
    |pure h=>cases h with|agg cs _ _ h=>simpa[Value.cells]using fH.Co (κ:=κ) h
   ·have e:ds=[d]:=by
     cases d<;>simp only[D.cellsOf,aj,reduceCtorEq]at hc<;>first
      |exact hc.symm
      | (exfalso;exact tF ⟨_,rfl⟩)
      | (split at hc<;>first| (simp at hc;exact hc.symm)|cases hc)
    subst e;exact single h (fun es he=>tF ⟨es,he⟩) hc
theorem xF{T:TypeId}{zs:aL}(hz:tz P T=some zs):∃i z,P.info? T=some i/\i.zero=some z/\z.cells.size=i.size/\zs.length=i.size/\(∀c∈z.cells.toList,c.oneCell'=true)/\zs=z.cells.toList.map D.QX:=by
 unfold tz at hz;split at hz
 ·rename_i i hi;split at hz
  ·rename_i z Mm;split at hz
   ·rename_i hc;cases hz;simp only[aR,ai,cV]at hc;exact⟨i,z,hi,Mm,hc.2,by simp[hc.2],hc.1,rfl⟩
   ·cases hz
  ·cases hz
 ·cases hz
theorem Bg(cs:bZ)(h:∀c∈cs,c.oneCell'=true):fH w κ cs (cs.map D.QX) []:=by
 induction cs with
 |nil=>exact .nil
 |cons c cs ih=>
  have hrd:Rd w c (D.QX c) []:=by
   unfold D.QX;split
   ·exact .bool _
   ·split
    ·rename_i h;exact .int _ _ h
    ·exact .val _
   ·split
    ·rename_i h;exact .str _ h
    ·exact .val _
   ·exact .nil
   ·exact .val _
  have:=fH.cons (κ:=κ) c cs _ _ [] [] (h c (by simp)) (.pure hrd) (ih (fun x hx=>h x (by simp[hx])));simpa using this
theorem foldl_set(off:Nat):∀(vs:bZ) (k:Nat) (cells:Array Value),off+k+vs.length<=cells.size->
 ((vs.zipIdx k).foldl (fun cs (x:Value×Nat)=>cs.setIfInBounds (off+x.2) x.1) cells).toList=cells.toList.take (off+k)++vs++cells.toList.drop (off+k+vs.length):=by
 intro vs
 induction vs with
 |nil=>intro k cells _;simp
 |cons v vs ih=>
  intro k cells h;simp only[aT]at h;rw[List.zipIdx_cons,cT,ih (k+1) _ (by simp;omega)];simp only[Array.toList_setIfInBounds,aT];have hlt:off+k<cells.toList.length:=by simp;omega
  rw[show off+(k+1)=off+k+1 from by omega,List.take_set,List.drop_set,bL (by omega)];rw[show off+k+1+vs.length=off+k+(vs.length+1)from by omega]
  congr 1
  rw[show v::vs=[v]++vs from rfl,<-cc]
  congr 1
  rw[List.take_succ_eq_append_getElem hlt,mL _ _ (by simp;omega)];have:(List.take (off+k) cells.toList).length=off+k:=by rw[bw];omega
  rw[this,pV];rfl
theorem T3(hs:dV Γ st κ Θ a w){places:List (Nat×Nat)}:∀(parts:List (Nat×Operand)) (cs:Array Value) (cells ds:aL) (bs:aW),
 fH w κ cs.toList cells bs->(∀b∈bs,Θ b=0)->xk places cells (parts.map fun p=>(p.1,st.ev p.2))=some ds->
 ∃arr bs',Instr.fill (places.toArray[·]?) cs (parts.map fun p=>(p.1,a.eval p.2))=some arr/\fH w κ arr.toList ds bs'/\∀b∈bs',Θ b=0:=by
 intro parts
 induction parts with
 |nil=>
  intro cs cells ds bs hr hz hf;simp only[bt,xk,aj]at hf;subst hf;exact⟨cs,bs,rfl,hr,hz⟩
 |cons p parts ih=>
  intro cs cells ds bs hr hz hf
  ·obtain⟨i,x⟩:=p;obtain⟨b,hv,hb⟩:=hs.ev x;generalize hvv:a.eval x=v at hv;simp only[ay,xk]at hf;split at hf
   ·rename_i off sz es hpl hes;split at hf
    ·rename_i hc;have hcs:=B4 hs.o6 hv hes;have hl1:=hcs.length;have BZ:=hr.length;have e:cells=cells.take off++((cells.drop off).take sz++(cells.drop off).drop sz):=by rw[cJ,cJ]
     rw[e]at hr;obtain⟨v1,v2,c1,c2,Kr,rfl,k1,k2⟩:=hr.split;obtain⟨v3,v4,c3,c4,rfl,rfl,k3,k4⟩:=k2.split;have l1:v1.length=off:=by rw[k1.length];simp;omega
     have l3:v3.length=sz:=by rw[k3.length];simp;omega
     have hvs:v.cells.size=sz:=by rw[<-hc.1,<-hl1];simp
     have hcl:cs.size=cells.length:=by rw[<-BZ];simp
     have WH:=foldl_set off v.cells.toList 0 cs (by simp;omega);simp only[rV,uI,hvs]at WH;have e1:cs.toList.take off=v1:=by rw[Kr];exact ic l1
     have e4:cs.toList.drop (off+sz)=v4:=by rw[Kr,<-fe,fc l1];exact fc l3
     rw[e1,e4]at WH;rw[fe]at k4;have hnew:=(k1.app hcs).app k4;obtain⟨arr,bs',h1,h2,h3⟩:=ih (v.cells.zipIdx.foldl (fun cs (x:Value×Nat)=>cs.setIfInBounds (off+x.2) x.1) cs) _ ds ((c1++b)++c4)
      (by rw[<-Array.foldl_toList,Array.toList_zipIdx,WH];exact hnew)
      (by
       intro x hx;simp only[aU]at hx;rcases hx with(hx|hx)|hx
       ·exact hz x (by simp[hx])
       ·exact hb x hx
       ·exact hz x (by simp[hx])) hf
     refine⟨arr,bs',?_,h2,h3⟩;simp only[ay,Instr.fill,hY,hpl,hvv];rw[b8 (by simp;omega)];simpa using h1
    ·cases hf
   ·cases hf
theorem Ph{o:Oper}{t:TypeId}{parts:Array (Nat×Operand)}{d:D}(hs:dV Γ st κ Θ a w)(ho:o.op=.build t parts)
 (h:pv P st (.build t parts)=some d):wQ P κ Θ a w o d:=by
 simp only[pv]at h;split at h
 ·rename_i zs ps hz hp;cases hf:xk ps zs (parts.toList.map fun p=>(p.1,st.ev p.2))with
  |none=>simp[hf]at h
  |some ds=>
   simp only[hf,cU,aj]at h;subst h;obtain⟨i,z,hi,xw,hsz,hlen,hone,rfl⟩:=xF hz;obtain⟨arr,bs',h1,h2,h3⟩:=T3 hs parts.toList z.cells _ ds [] (Bg z.cells.toList hone) (by simp) hf;have hb:P.built t (parts.map fun(i,x)=>(i,a.eval x)).toList=some arr:=by
    unfold Tj at hp;split at hp
    ·rename_i fs hu;unfold Program.built;simp only[hi,hu,xw,hp];rw[gm];exact h1
    ·cases hp
   refine⟨.agg arr,bs',?_,?_,h3⟩
   ·simp only[execOp,ho];simp[run_build w t _ arr hb]
   ·have:=LJ.agg (w:=w) (κ:=κ) arr.toList ds bs' h2;exact .v (by simpa using this)
 ·cases h
theorem run_equalIn_bool{t:TypeId}{a b:Bool}(h:P.underlying t=some .bool)(d:Nat):(Op.equalIn (d+1) t (.bool a) (.bool b)).run P w=.ok (a==b) w:=by
 simp[Op.equalIn,run_underlying h]
theorem Cr{t:TypeId}{a b:ByteArray}(h:P.underlying t=some .string)(d:Nat):(Op.equalIn (d+1) t (.string a) (.string b)).run P w=.ok (a==b) w:=by
 simp[Op.equalIn,run_underlying h]
theorem J7{t:TypeId}(h:KB P t=true){xs:Array Value}{off:Nat}{v:Value}(hx:xs[off]?=some v):(part t xs off).run P w=.ok v w:=by
 simp[part,isAgg,run_underlying (xB h),hx]
theorem K9{t:TypeId}{a b c e:ByteArray}(h:Ti P t=true)(d:Nat):(Op.equalIn (d+2) t (.agg #[.string a,.string b]) (.agg #[.string c,.string e])).run P w=.ok (a==c&&b==e) w:=by
 unfold Ti at h;split at h
 ·rename_i fs hu;split at h
  ·rename_i f g hfs;simp only[aR,bne_iff_ne,ne_eq,cV,pT]at h;obtain⟨⟨⟨⟨⟨⟨⟨h1,h2⟩,h3⟩,h4⟩,h5⟩,h6⟩,h7⟩,h8⟩:=h;have a7v:fs= #[f,g]:=by apply qn.mp;simpa using hfs
   subst a7v;have p1:=fun(xs:Array Value) (v:Value) (hx:xs[0]?=some v)=>J7 (w:=w) h5 hx
   have p2:=fun(xs:Array Value) (v:Value) (hx:xs[1]?=some v)=>J7 (w:=w) h6 hx
   have q1:=Cr (P:=P) (w:=w) (a:=a) (b:=c) (xB h5) d;have q2:=Cr (P:=P) (w:=w) (a:=b) (b:=e) (xB h6) d;rw[Op.equalIn];generalize(a==c)=r1 at q1⊢;generalize(b==e)=r2 at q2⊢;cases r1<;>cases r2<;>simp[run_underlying hu,h7,h1,h2,h3,h4,p1,p2,q1,q2]
  ·cases h
 ·cases h
theorem fH.Tl{κ:Nat->Option Value}{cs:bZ}{p q:Bytes}{bs:aW}(h:fH w κ cs [.str p,.str q] bs):∃u v:ByteArray,cs=[.string u,.string v]/\u.data.toList=p/\v.data.toList=q:=by
 cases h with
 |cons v1 vs _ _ b1 b2 _ h1 h2=>
  cases h2 with
  |cons v2 vs' _ _ b3 b4 _ h3 h4=>
   cases h4;obtain⟨u,rfl,hu⟩:=(rS.v (.cell h1):rS w κ _ _ _).u9;obtain⟨v,rfl,hv⟩:=(rS.v (.cell h3):rS w κ _ _ _).u9;exact⟨u,v,rfl,hu,hv⟩
theorem Vd(u v:ByteArray):(u==v)=(u.data==v.data):=by cases u;cases v;rfl
theorem Uf{o:Oper}{op:BinOp}{t t':TypeId}{x y:Operand}{d:D}(hs:dV Γ st κ Θ a w)(ho:o.op=.binOp op t x y t')
 (h:peq P op t (st.ev x) (st.ev y)=some d):wQ P κ Θ a w o d:=by
 obtain⟨b1,r1,_⟩:=hs.ev x;obtain⟨b2,r2,_⟩:=hs.ev y;generalize st.ev x=dx at*;generalize st.ev y=dy at*;unfold peq at h;split at h
 ·rename_i p q;split at h
  ·rename_i hb;have hu:P.underlying t=some .bool:=by
    unfold a1o at hb;split at hb
    ·assumption
    ·cases hb
   have e1:=r1.vo;have e2:=r2.vo;have hq:=run_equalIn_bool (P:=P) (w:=w) (a:=p) (b:=q) hu 9999;have q':(Op.equal t (.bool p) (.bool q)).run P w=.ok (p==q) w:=hq;cases op<;>simp only[aj,reduceCtorEq]at h
   all_goals subst h
   all_goals exact⟨_,[],by(simp[execOp,ho,e1,e2,binOp,eqGuard,q'])<;>(cases p<;>cases q<;>rfl),.of (.bool _),by simp⟩
  ·cases h
 ·rename_i p1 p2 q1 q2;split at h
  ·rename_i hb;obtain⟨cs1,e1,k1⟩:=r1.F7;obtain⟨Yb,e2,k2⟩:=r2.F7;obtain⟨u1,u2,rfl,rfl,rfl⟩:=fH.Tl k1;obtain⟨v1,v2,rfl,rfl,rfl⟩:=fH.Tl k2;have hg:P.eqGuardType P.depth t=false:=by
    unfold Ti at hb;split at hb
    ·split at hb
     ·simp only[aR,pT]at hb;exact hb.2
     ·cases hb
    ·cases hb
   have q:=K9 (P:=P) (w:=w) (a:=u1) (b:=u2) (c:=v1) (e:=v2) hb 9998;have q':(Op.equal t (.agg #[.string u1,.string u2]) (.agg #[.string v1,.string v2])).run P w=.ok (u1==v1&&u2==v2) w:=q;cases op<;>simp only[aj,reduceCtorEq]at h
   all_goals subst h
   all_goals exact⟨_,[],by(simp[execOp,ho,e1,e2,binOp,eqGuard,hg,q'])<;>(rw[Vd,Vd]),.of (.bool _),by simp⟩
  ·cases h
 ·cases h
theorem rS.Zk{v:Value}{b:Bool}{bs:aW}(h:rS w κ v (.ifc b) bs):(b=false/\v=.nilIface)\/(b=true/\∃t u,v=.iface t u):=by
 cases h with|v h=>cases h with|cell h=>cases h with|pure h=>cases h with
  |UJ=>exact .inl ⟨rfl,rfl⟩
  |UK t u=>exact .inr ⟨rfl,t,u,rfl⟩
theorem J6{t:TypeId}{ms:Array (String×TypeId)}(hu:P.underlying t=some (.interface ms)):(Op.equal t .nilIface .nilIface).run P w=.ok true w:=by
 unfold Op.equal Op.maxDepth;rw[Op.equalIn];simp[run_underlying hu]
theorem Ga{t:TypeId}{ms:Array (String×TypeId)}{t1:TypeId}{v1:Value}(hu:P.underlying t=some (.interface ms)):(Op.equal t (.iface t1 v1) .nilIface).run P w=.ok false w:=by
 unfold Op.equal Op.maxDepth;rw[Op.equalIn];simp[run_underlying hu]
theorem S5{o:Oper}{op:BinOp}{t t':TypeId}{x y:Operand}{d:D}(hs:dV Γ st κ Θ a w)(ho:o.op=.binOp op t x y t')
 (h:a3J op (st.ev x) (st.ev y)=some d):wQ P κ Θ a w o d:=by
 obtain⟨b1,r1,_⟩:=hs.ev x;obtain⟨b2,r2,_⟩:=hs.ev y;generalize st.ev x=dx at*;generalize st.ev y=dy at*;unfold a3J at h;split at h
 ·rename_i k p k' q;have e1:=r1.ql;have e2:=r2.ql;cases op<;>simp only[reduceCtorEq]at h
  case shr=>
   split at h
   ·rename_i hq;cases h;exact⟨_,[],by simp[execOp,ho,e1,e2,binOp,eqGuard,Op.shift,show¬q<0 by omega,Ql],.of (.int _ _ (r1.M0.shr q)),by simp⟩
   ·cases h
  all_goals
   split at h
   ·rename_i hk;subst hk;cases h;exact⟨_,[],by simp[execOp,ho,e1,e2,binOp,eqGuard,Op.intBits,GO,a4b,Sp],.of (.int _ _ (pF.wrap _ _)),by simp⟩
   ·cases h
 ·cases h
theorem S6{o:Oper}{op:BinOp}{t t':TypeId}{x y:Operand}{d:D}(hs:dV Γ st κ Θ a w)(ho:o.op=.binOp op t x y t')
 (h:a3L P op t (st.ev x) y=some d):wQ P κ Θ a w o d:=by
 obtain⟨b1,r1,_⟩:=hs.ev x;generalize st.ev x=dx at*;unfold a3L at h;split at h
 ·rename_i b;have hy:a.eval (.const .nilIface)=.nilIface:=rfl;have hT:∀ {op'},a3u P t=true->op=op'->∃ms,P.underlying t=some (.interface ms):=by
   intro _ ht _;unfold a3u at ht;split at ht
   ·rename_i ms hu;exact⟨ms,hu⟩
   ·cases ht
  rcases r1.Zk with⟨rfl,hx⟩|⟨rfl,t1,v1,hx⟩
  ·split at h
   ·rename_i ht;cases h;obtain⟨ms,hu⟩:=hT ht rfl;exact⟨.bool true,[],by simp[execOp,ho,hx,hy,binOp,eqGuard_nil_constR,J6 hu],.of (.bool _),by simp⟩
   ·rename_i ht;cases h;obtain⟨ms,hu⟩:=hT ht rfl;exact⟨.bool false,[],by simp[execOp,ho,hx,hy,binOp,eqGuard_nil_constR,J6 hu],.of (.bool _),by simp⟩
   ·cases h
  ·split at h
   ·rename_i ht;cases h;obtain⟨ms,hu⟩:=hT ht rfl;exact⟨.bool false,[],by simp[execOp,ho,hx,hy,binOp,eqGuard,Ga hu],.of (.bool _),by simp⟩
   ·rename_i ht;cases h;obtain⟨ms,hu⟩:=hT ht rfl;exact⟨.bool true,[],by simp[execOp,ho,hx,hy,binOp,eqGuard,Ga hu],.of (.bool _),by simp⟩
   ·cases h
 ·cases h
theorem yP.cons{w:World}{e:MapEntry}{es:List MapEntry}{p:D×D}{kv:List (D×D)}(h:yP w (e::es) (p::kv)):Rd w e.key p.1 []/\Rd w e.val p.2 []/\yP w es kv:=
 ⟨(h.2 0 e p rfl rfl).1,(h.2 0 e p rfl rfl).2,by simpa using h.1,fun j e' p' h1 h2=>h.2 (j+1) e' p' (by simpa using h1) (by simpa using h2)⟩
theorem a0i{x y:ByteArray}:(x==y)=(x.data.toList==y.data.toList):=by
 rw[bn,MapKept.bytes_beq,cV];constructor
 ·intro h;rw[h]
 ·intro h;obtain⟨a⟩:=x;obtain⟨b⟩:=y;simp only at h;rw[qn]at h;rw[h]
theorem L6{w:World}{kd:TypeDesc}{k k':D}{u u':Value}{b:Bool}(Mx:HQ kd k=true)(hu:Rd w u k [])(vV:Rd w u' k' [])(h:keq k k'=some b):Instr.sameNow kd u u'=some b/\(b=true->u'=u):=by
 unfold keq at h;split at h
 ·rename_i s s';cases h;cases hu with
  |str x hx=>
   cases vV with
   |str y hy=>
    cases kd<;>simp[HQ]at Mx;refine⟨by simp only[Instr.sameNow];rw[a0i],fun e=>?_⟩;rw[<-a0i,MapKept.bytes_beq]at e;rw[e]
 ·rename_i k1 a k2 b';split at h
  ·rename_i e;subst e;cases h;cases hu with
   |int _ _ hx=>
    cases vV with
    |int _ _ hy=>
     cases kd<;>simp[HQ]at Mx;refine⟨by simp[Instr.sameNow],fun e=>?_⟩;have:a=b':=by simpa using e
     rw[this]
  ·cases h
 ·cases h
theorem Zn{w:World}{kd:TypeDesc}{k:D}{u:Value}(Mx:HQ kd k=true)(hu:Rd w u k []):∀ {es:List MapEntry} {kv:List (D×D)} {r:Option D} (i:Nat),yP w es kv->El k kv=some r->
 (r=none/\Instr.findNow kd u es i=some none)\/∃d v j,r=some d/\Instr.findNow kd u es i=some (some (j,v))/\Rd w v d []:=by
 intro es
 induction es with
 |nil=>
  intro kv r i hr h;cases kv with
  |nil=>cases h;exact .inl ⟨rfl,rfl⟩
  |cons p kv=>exact absurd hr.1 (by simp)
 |cons e es ih=>
  intro kv r i hr h;cases kv with
  |nil=>exact absurd hr.1 (by simp)
  |cons p kv=>
   obtain⟨r1,r2,r3⟩:=hr.cons;simp only[El]at h;split at h
   ·rename_i hq;cases h;exact .inr ⟨p.2,e.val,i,rfl,by simp[Instr.findNow,(L6 Mx hu r1 hq).1],r2⟩
   ·rename_i hq;have:=ih (i+1) r3 h;simpa[Instr.findNow,(L6 Mx hu r1 hq).1]using this
   ·cases h
theorem QE{w:World}{kd:TypeDesc}{k:D}{u:Value}(Mx:HQ kd k=true)(hu:Rd w u k []):MapKept.IsKey kd u:=by
 cases kd<;>cases k<;>simp[HQ]at Mx
 all_goals cases hu
 ·simp[MapKept.IsKey,Mx]
 ·simp[MapKept.IsKey]
theorem NY{w:World}{κ:Nat->Option Value}{kd:TypeDesc}{k:D}{u:Value}{bs:aW}(Mx:HQ kd k=true)(hu:rS w κ u k bs):Rd w u k []:=by
 cases kd<;>cases k<;>simp[HQ]at Mx
 all_goals cases hu with|v h=>cases h with|cell h=>cases h with|pure h=>cases h<;>(constructor;assumption)
theorem P8{t:TypeId}{i:TypeInfo}(h:P.info? t=some i){w:World}:(typeInfo t).run P w=.ok i w:=by
 simp[typeInfo,h]
theorem Me{T:TypeId}{kd:TypeDesc}{dz:D}(h:Ur P T=some (kd,dz)):∃kt et z,P.underlying T=some (.map kt et)/\P.underlying kt=some kd/\dz=D.QX z/\∀w:World,(zeroValue et).run P w=.ok z w:=by
 unfold Ur at h;split at h
 ·rename_i kt et h1;split at h
  ·rename_i d i h2 h3;split at h
   ·rename_i z h4;split at h
    ·cases h;exact⟨kt,et,z,h1,h2,rfl,fun w=>by simp[zeroValue,P8 h3,h4]⟩
    ·cases h
   ·cases h
  ·cases h
 ·cases h
theorem OX{o:Oper}{T:Nat}{x i:Operand}{ok:Bool}{d:D}(hs:dV Γ st κ Θ a w)(ho:o.op=.lookup T x i ok)
 (h:pv P st (.lookup T x i ok)=some d):wQ P κ Θ a w o d:=by
 simp only[pv]at h;split at h
 ·rename_i id hx;split at h
  ·rename_i kv hH;obtain⟨g,es,c,q1,q2,q3,q4⟩:=hs.ob id _ hH;obtain⟨bs,r,_⟩:=hs.ev x;rw[hx]at r;obtain⟨hk,_⟩:=r.uh;rw[q1]at hk;have TJ:a.eval x=.map (some g):=(lq hk).symm;obtain⟨bi,ri,_⟩:=hs.ev i;unfold plk at h;split at h
   ·rename_i kd dz hT;obtain⟨kt,et,z,t1,t2,t3,t4⟩:=Me hT;have fin:∀(r:Option D),HQ kd (st.ev i)=true->El (st.ev i) kv=some r->d=(match r with|some d=>(bif ok then .gw [d,.bool true]else d)|none=>(bif ok then .gw [dz,.bool false]else dz))->wQ P κ Θ a w o d:=by
     intro r Mx hf hd;have hu:=NY Mx ri;have hck:=MapKept.run_checkKey (P:=P) (w:=w) t2 (QE Mx hu) es.isEmpty 9999;rcases Zn Mx hu 0 q4 hf with⟨rfl,hn⟩|⟨d',v,j,rfl,hn,hv⟩
     ·have RZ:=MapKept.run_findKey (P:=P) (w:=w) t2 hn;subst hd;cases ok with
      |false=>exact⟨z,[],by simp[execOp,ho,TJ,Instr.lookup,run_underlying t1,MapKept.run_getObj_map q2,hck,RZ,t4],by rw[t3];exact S2 z,by simp⟩
      |true=>
       refine⟨.tuple #[z,.bool false],[],by simp[execOp,ho,TJ,Instr.lookup,run_underlying t1,MapKept.run_getObj_map q2,hck,RZ,t4],?_,by simp⟩;have hz:LJ w κ z dz []:=by
        have:=S2 (w:=w) (κ:=κ) z;rw[<-t3]at this;cases this with
        |v h=>exact h
        |gw vs ds bs h=>exact absurd t3 (by simp[D.QX])
       exact .gw [z,.bool false] [dz,.bool false] [] (.cons _ _ _ _ [] [] hz (.cons _ _ _ _ [] [] (.cell (.pure (.bool _))) .nil))
     ·have RZ:=MapKept.run_findKey (P:=P) (w:=w) t2 hn;subst hd;cases ok with
      |false=>exact⟨v,[],by simp[execOp,ho,TJ,Instr.lookup,run_underlying t1,MapKept.run_getObj_map q2,hck,RZ],.of hv,by simp⟩
      |true=>
       refine⟨.tuple #[v,.bool true],[],by simp[execOp,ho,TJ,Instr.lookup,run_underlying t1,MapKept.run_getObj_map q2,hck,RZ],?_,by simp⟩;exact .gw [v,.bool true] [d',.bool true] [] (.cons _ _ _ _ [] [] (.cell (.pure hv)) (.cons _ _ _ _ [] [] (.cell (.pure (.bool _))) .nil))
    split at h
    ·rename_i d' h1 h2;cases h;exact fin _ h1 h2 rfl
    ·rename_i h1 h2;cases h;exact fin _ h1 h2 rfl
    ·cases h
   ·cases h
  ·cases h
 ·cases h
theorem Rd.a2F{w:World}{v:Value}{row:aL}{o:Nat}{bs:aW}(h:Rd w v (.ep row o) bs):∃q,v=.pointer (some q):=by
 cases h;exact⟨_,rfl⟩
theorem Eu{o:Oper}{d:D}(hs:dV Γ st κ Θ a w)(h:pv P st o.op=some d):wQ P κ Θ a w o d:=by
 cases ho:o.op
 all_goals rw[ho]at h
 case load t x=>exact M8 hs ho h
 case lookup t x i ok=>exact OX hs ho h
 case build t parts=>exact Ph hs ho h
 case fieldAddr t x f=>exact Ko hs ho h
 case field t x f=>exact Pt hs ho h
 case indexAddr t x i=>exact Ks hs ho h
 case extract x i=>exact Mu hs ho h
 case index t x i=>exact QB hs ho h
 case binOp op t x y t'=>
  simp only[pv]at h;split at h
  ·rename_i e;cases h;exact S4 hs ho e
  ·split at h
   ·rename_i e;cases h;exact Uf hs ho e
   ·split at h
    ·rename_i e;cases h;exact S6 hs ho e
    ·exact S5 hs ho h
 case nilCheck x=>
  simp only[pv]at h;obtain⟨b,r,z⟩:=hs.ev x;have hnn:∀q,a.eval x=.pointer (some q)->wQ P κ Θ a w o (st.ev x):=fun q hq=>⟨_,b,by simp[execOp,ho,hq],hq▸r,z⟩
  split at h<;>rename_i hx<;>cases h<;>rw[hx]at r hnn
  ·obtain⟨g,_,hv⟩:=r.yq;exact hnn _ hv
  ·obtain⟨_,_,_,_,_,hv⟩:=r.Et;exact hnn _ hv
  ·obtain⟨_,hv⟩:=Rd.a2F r.RO;exact hnn _ hv
 case slice t x lo hi mx=>
  cases mx with
  |none=>exact Qm hs ho h
  |some m=>simp[pv]at h
 case move x=>
  simp only[pv,aj]at h;subst h;obtain⟨b,r,z⟩:=hs.ev x;exact⟨_,b,by simp[execOp,ho],r,z⟩
 case assign x=>
  simp only[pv,aj]at h;subst h;obtain⟨b,r,z⟩:=hs.ev x;exact⟨_,b,by simp[execOp,ho],r,z⟩
 case pick c x y=>
  simp only[pv]at h;split at h
  ·rename_i t hc;cases h;obtain⟨b,r,z⟩:=hs.ev c;rw[hc]at r;have hv:=r.vo;cases t
   ·obtain⟨b,r,z⟩:=hs.ev y;exact⟨_,b,by simp[execOp,ho,hv,asBool],r,z⟩
   ·obtain⟨b,r,z⟩:=hs.ev x;exact⟨_,b,by simp[execOp,ho,hv,asBool],r,z⟩
  ·cases h
 case unOp op t x=>
  obtain⟨b,r,z⟩:=hs.ev x;cases op<;>simp only[pv,reduceCtorEq]at h
  case neg=>
   split at h
   ·rename_i k n hx;cases h;rw[hx]at r;have hv:=r.ql;exact⟨_,[],by simp[execOp,ho,hv,Op.unary,Op.intArith],.of (.int _ _ (pF.wrap _ _)),by simp⟩
   ·cases h
  case not=>
   split at h
   ·rename_i bb hx;cases h;rw[hx]at r;have hv:=r.vo;exact⟨_,[],by simp[execOp,ho,hv,Op.unary],.of (.bool _),by simp⟩
   ·cases h
 case convert s d' x=>
  obtain⟨b,r,z⟩:=hs.ev x;simp only[pv]at h;split at h
  ·rename_i k0 n k1 k hx h1 h2;cases h;rw[hx]at r;have hv:=r.ql;have u1:P.underlying s=some (.int k1):=by
    unfold SM at h1;split at h1
    ·cases h1;assumption
    ·cases h1
   have u2:P.underlying d'=some (.int k):=by
    unfold SM at h2;split at h2
    ·cases h2;assumption
    ·cases h2
   exact⟨_,[],by simp[execOp,ho,hv,convert,run_underlying u1,run_underlying u2,Conv.intToInt],.of (.int _ _ (pF.wrap _ _)),by simp⟩
  ·cases h
 case call c=>
  simp only[pv]at h;split at h
  ·rename_i x t h1 h2 h3;refine UP hs (x:=x) (t:=t) ?_ h;rw[ho];obtain⟨callee,args,argTypes⟩:=c;simp only at h1 h2 h3;subst h1;have e1:args= #[x]:=by cases args;simp_all
   have e2:argTypes= #[t]:=by cases argTypes;simp_all
   subst e1;subst e2;rfl
  ·rename_i x y t t' h1 h2 h3;refine UU hs (x:=x) (y:=y) (t:=t) (t':=t') ?_ h;rw[ho];obtain⟨callee,args,argTypes⟩:=c;simp only at h1 h2 h3;subst h1;have e1:args= #[x,y]:=by cases args;simp_all
   have e2:argTypes= #[t,t']:=by cases argTypes;simp_all
   subst e1;subst e2;rfl
  ·cases h
 all_goals simp[pv]at h
theorem a0f{Q:Exit->St->Prop}{all:Array Oper}{rest:List Oper}{o:Oper}{t:Nat}{d:D}(hd:o.dst=some t)(hg:o.guard=none)(ht:t<Γ.nt)
 (hv:pv P st o.op=some d) (h:AO P Γ all rest Q (st.set t d)):AO P Γ all (o::rest) Q st:=by
 intro κ Θ a w hs;obtain⟨v,bs,hr,hrd,hz⟩:=Eu hs hv;refine wpList_plain hg fun K hK=>?_
 unfold Oper.wp;rw[hr,Oper.upon_value,hd];exact hK _ _ (h κ Θ _ w (hs.set ht hrd hz))
end
end Go.Cx
namespace Go.Cx
open Go.RowKit
structure iF(w w':World)(Θ Θ':Nat->Nat)(tag:Nat):Prop where
 two:2<=tag
 os:w'.os=w.os
 tape:w'.tape=w.tape
 output:w'.output=w.output
 size:w.heap.size<=w'.heap.size
 block:∀b,b<w.heap.size->Θ b≠tag->w'.heap[b]?=w.heap[b]?
 owner:∀b,b<w.heap.size->Θ b≠tag->Θ' b=Θ b
 own:∀b,Θ' b≠0->b<w'.heap.size
section
variable{w w':World}{κ κ':Nat->Option Value}{Θ Θ':Nat->Nat}{tag id:Nat}{r:D}
theorem iF.free(k:iF w w' Θ Θ' tag){b:Nat}(hb:b<w.heap.size)(hz:Θ b=0):Θ' b=0:=by
 have:=k.two;rw[k.owner b hb (by omega)];exact hz
theorem Rd.over{v:Value}{d:D}{bs:aW}(k:iF w w' Θ Θ' tag)(h:Rd w v d bs)(hz:∀b∈bs,Θ b=0):Rd w' v d bs/\∀b∈bs,Θ' b=0:=by
 have:=k.two;exact⟨h.keep fun b hb=>k.block b (h.lt b hb) (by rw[hz b hb];omega),fun b hb=>k.free (h.lt b hb) (hz b hb)⟩
theorem mR.over{vs:bZ}{ds:aL}{bs:aW}(k:iF w w' Θ Θ' tag)(h:mR w vs ds bs)(hz:∀b∈bs,Θ b=0):mR w' vs ds bs/\∀b∈bs,Θ' b=0:=by
 have:=k.two;exact⟨h.keep fun b hb=>k.block b (h.lt b hb) (by rw[hz b hb];omega),fun b hb=>k.free (h.lt b hb) (hz b hb)⟩
section
variable(hn:∀(j:Nat) v,κ j=some v->κ' j=some v)
include hn
end
theorem RdH.lt{v:Value}{rows:List aL}{p n:Nat}{bs:aW}(h:RdH w κ v rows p n bs):∀b∈bs,b<w.heap.size:=by
 obtain⟨b,off,cap,cs,ns,rfl,h1,h2,h3,h4,h5,rfl,_⟩:=h;intro x hx;rcases bE.1 hx with rfl|hx
 ·exact h1
 ·exact h5.lt x hx
section
variable(hn:∀(j:Nat) v,κ j=some v->κ' j=some v)
include hn
theorem RdH.stay{v:Value}{rows:List aL}{p n:Nat}{bs:aW}(h:RdH w κ v rows p n bs)(hb:∀b∈bs,w'.heap[b]?=w.heap[b]?):RdH w' κ' v rows p n bs:=by
 obtain⟨b,off,cap,cs,ns,rfl,h1,h2,h3,h4,h5,rfl,c,h6,h7⟩:=h;exact⟨b,off,cap,cs,ns,rfl,Ir h1 (hb b (by simp)),h2,h3,fun j c hc=>(B3 (hb b (by simp))).trans (h4 j c hc),h5.keep (fun x hx=>hb x (by simp[hx])),rfl,c,h6,hn _ _ h7⟩
end
section
variable(k:iF w w' Θ Θ' tag)(hn:∀(j:Nat) v,κ j=some v->κ' j=some v)
include k hn
theorem yQ.stay{v:Value}{d:D}{bs:aW}(h:yQ w κ v d bs)(hz:∀b∈bs,Θ b=0):yQ w' κ' v d bs/\∀b∈bs,Θ' b=0:=by
 cases h with
 |pure h=>exact⟨.pure (Rd.over k h hz).1,(Rd.over k h hz).2⟩
 |acc i v hk=>exact⟨.acc i v (hn _ _ hk),by simp⟩
 |ptr i off b hk=>exact⟨.ptr i off b (hn _ _ hk),by simp⟩
 |op i j sz off b o0 len cap hk=>exact⟨.op i j sz off b o0 len cap (hn _ _ hk),by simp⟩
theorem fH.stay{vs:bZ}{ds:aL}{bs:aW}(h:fH w κ vs ds bs)(hz:∀b∈bs,Θ b=0):fH w' κ' vs ds bs/\∀b∈bs,Θ' b=0:=by
 induction ds generalizing vs bs with
 |nil=>cases h;exact⟨.nil,by simp⟩
 |cons d ds ih=>
  cases h with
  |cons v vs _ _ b1 b2 h1 h2 h3=>
   obtain⟨k1,k2⟩:=yQ.stay k hn h2 (fun b hb=>hz b (by simp[hb]));obtain⟨k3,k4⟩:=ih h3 (fun b hb=>hz b (by simp[hb]));refine⟨.cons _ _ _ _ _ _ h1 k1 k3,fun b hb=>?_⟩;rcases aU.1 hb with hb|hb
   ·exact k2 b hb
   ·exact k4 b hb
theorem LJ.stay{v:Value}{d:D}{bs:aW}(h:LJ w κ v d bs)(hz:∀b∈bs,Θ b=0):LJ w' κ' v d bs/\∀b∈bs,Θ' b=0:=by
 cases h with
 |cell h=>exact⟨.cell (yQ.stay k hn h hz).1,(yQ.stay k hn h hz).2⟩
 |agg cs ds bs h=>exact⟨.agg _ _ _ (fH.stay k hn h hz).1,(fH.stay k hn h hz).2⟩
theorem By.stay{vs:bZ}{ds:aL}{bs:aW}(h:By w κ vs ds bs)(hz:∀b∈bs,Θ b=0):By w' κ' vs ds bs/\∀b∈bs,Θ' b=0:=by
 induction ds generalizing vs bs with
 |nil=>cases h;exact⟨.nil,by simp⟩
 |cons d ds ih=>
  cases h with
  |cons v vs _ _ b1 b2 h2 h3=>
   obtain⟨k1,k2⟩:=LJ.stay k hn h2 (fun b hb=>hz b (by simp[hb]));obtain⟨k3,k4⟩:=ih h3 (fun b hb=>hz b (by simp[hb]));refine⟨.cons _ _ _ _ _ _ k1 k3,fun b hb=>?_⟩;rcases aU.1 hb with hb|hb
   ·exact k2 b hb
   ·exact k4 b hb
theorem rS.stay{v:Value}{d:D}{bs:aW}(h:rS w κ v d bs)(hz:∀b∈bs,Θ b=0):rS w' κ' v d bs/\∀b∈bs,Θ' b=0:=by
 cases h with
 |v h=>exact⟨.v (LJ.stay k hn h hz).1,(LJ.stay k hn h hz).2⟩
 |gw vs ds bs h=>exact⟨.gw _ _ _ (By.stay k hn h hz).1,(By.stay k hn h hz).2⟩
theorem vh.stay{j:Nat}{o:Ob}(hj:j+2≠tag)(h:vh w κ Θ j o):vh w' κ' Θ' j o:=by
 cases o with
 |gone=>trivial
 |tk rows=>
  obtain⟨v,bs,hk,hrd,hz⟩:=h;obtain⟨h1,h2⟩:=Rd.over k hrd hz;exact⟨v,bs,hn _ _ hk,h1,h2⟩
 |tf e sz rows=>
  obtain⟨v,bs,hk,hrd,hz⟩:=h;obtain⟨h1,h2⟩:=Rd.over k hrd hz;exact⟨v,bs,hn _ _ hk,h1,h2⟩
 |mp kv=>
  obtain⟨g,es,c,q1,q2,q3,q4⟩:=h;have hlt:g<w.heap.size:=(bC.1 q2).1;have hne:Θ g≠tag:=by rw[q3];exact hj
  exact⟨g,es,c,hn _ _ q1,(k.block g hlt hne).trans q2,by rw[k.owner g hlt hne];exact q3,q4.stay⟩
 |vW sz rows u=>
  obtain⟨hrl,ZX,v,bs,hk,hrd,hnd,Df⟩:=h;have hsame:∀b∈bs,w'.heap[b]?=w.heap[b]?:=fun b hb=>k.block b (hrd.lt b hb) (by rw[(Df b hb).1];exact hj)
  refine⟨hrl,fun x hx=>hn _ _ (ZX x hx),v,bs,hn _ _ hk,hrd.keep hsame,hnd,fun b hb=>⟨?_,?_⟩⟩
  ·rw[k.owner b (hrd.lt b hb) (by rw[(Df b hb).1];exact hj)];exact(Df b hb).1
  ·obtain⟨x,T,hx⟩:=(Df b hb).2;exact⟨x,T,(hsame b hb).trans hx⟩
 |hole sz rows u p n=>
  obtain⟨hrl,ZX,v,bs,hk,hrd,hnd,Df⟩:=h;have hsame:∀b∈bs,w'.heap[b]?=w.heap[b]?:=fun b hb=>k.block b (hrd.lt b hb) (by rw[(Df b hb).1];exact hj)
  refine⟨hrl,fun x hx=>hn _ _ (ZX x hx),v,bs,hn _ _ hk,RdH.stay hn hrd hsame,hnd,fun b hb=>⟨?_,?_⟩⟩
  ·rw[k.owner b (hrd.lt b hb) (by rw[(Df b hb).1];exact hj)];exact(Df b hb).1
  ·obtain⟨x,T,hx⟩:=(Df b hb).2;exact⟨x,T,(hsame b hb).trans hx⟩
 |box cells=>
  obtain⟨g,cs,T,hk,hg,hΘ,bs,qk,hz⟩:=h;have hlt:g<w.heap.size:=(bC.1 hg).1;have hne:Θ g≠tag:=by rw[hΘ];exact hj
  obtain⟨h1,h2⟩:=fH.stay k hn qk hz;exact⟨g,cs,T,hn _ _ hk,(k.block g hlt hne).trans hg,(k.owner g hlt hne).trans hΘ,bs,h1,h2⟩
 |zq cells u=>
  obtain⟨hu,g,cs,T,hk,hg,hΘ,bs,qk,hz⟩:=h;have hlt:g<w.heap.size:=(bC.1 hg).1;have hne:Θ g≠tag:=by rw[hΘ];exact hj
  obtain⟨h1,h2⟩:=fH.stay k hn qk hz;exact⟨⟨hn _ _ hu.1,hu.2.same hk hg (hn _ _ hk) ((k.block g hlt hne).trans hg)⟩,g,cs,T,hn _ _ hk,(k.block g hlt hne).trans hg,(k.owner g hlt hne).trans hΘ,bs,h1,h2⟩
 |row deep e sz rows=>
  obtain⟨hsz,hrl,v,cs,bs,hk,hown,qk,hΘ,hd⟩:=h;refine⟨hsz,hrl,v,cs,bs,hn _ _ hk,?_,?_,?_,?_⟩
  ·refine⟨hown.1,?_⟩;rcases hown.2 with tu|⟨g,cap,cur,rfl,hb,OG,rest⟩
   ·exact .inl tu
   ·have hlt:g<w.heap.size:=(bC.1 OG).1;have hne:Θ g≠tag:=by rw[hΘ g (by simp[Value.ownBlock])];exact hj
    exact .inr ⟨g,cap,cur,rfl,hb,(k.block g hlt hne).trans OG,rest⟩
  ·refine qk.keep fun b hb=>k.block b (qk.lt b hb) ?_
   have:=k.two;cases deep with
   |cl=>rw[(hd.2.1 b hb).1];exact hj
   |sh=>rw[hd b hb];omega
   |uq=>rw[hd b hb];omega
   |mv n=>rw[hd b hb];omega
   |ho p n=>rw[hd b hb];omega
  ·intro g hg;have hlt:=(hown.lt g hg).2;have e:=hΘ g hg;rw[k.owner g hlt (by rw[e];exact hj)];exact e
  ·cases deep with
   |cl=>
    refine⟨hd.1,fun b hb=>⟨?_,?_⟩,hd.2.2.1,hd.2.2.2.keep fun b hb=>k.block b (qk.lt b hb) (by rw[(hd.2.1 b hb).1];exact hj)⟩
    ·rw[k.owner b (qk.lt b hb) (by rw[(hd.2.1 b hb).1];exact hj)];exact(hd.2.1 b hb).1
    ·obtain⟨x,T,hx⟩:=(hd.2.1 b hb).2;exact⟨x,T,(k.block b (qk.lt b hb) (by rw[(hd.2.1 b hb).1];exact hj)).trans hx⟩
   |sh=>exact fun b hb=>k.free (qk.lt b hb) (hd b hb)
   |uq=>exact fun b hb=>k.free (qk.lt b hb) (hd b hb)
   |mv n=>exact fun b hb=>k.free (qk.lt b hb) (hd b hb)
   |ho p n=>exact fun b hb=>k.free (qk.lt b hb) (hd b hb)
end
end
section
variable{Γ:tZ}{st:St}{κ κ':Nat->Option Value}{Θ Θ':Nat->Nat}{a:Act}{w w':World}{tag:Nat}
theorem dV.base(hs:dV Γ st κ Θ a w):Γ.W0.heap.size<=w.heap.size:=hs.stays.size
theorem dV.Ru(hs:dV Γ st κ Θ a w)(k:iF w w' Θ Θ' tag):PU Γ w':=by
 refine⟨k.os.trans hs.stays.os,k.tape.trans hs.stays.tape,k.output.trans hs.stays.output,dh hs.stays.size k.size,fun b hb hx=>?_⟩;have:=k.two;have h1:=(hs.old b hb hx).2;exact(k.block b (cq hb hs.base) (by omega)).trans (hs.stays.block b hb hx)
theorem dV.Wy(hs:dV Γ st κ Θ a w)(k:iF w w' Θ Θ' tag):∀b,b<Γ.W0.heap.size->¬Γ.X b->Θ' b=Γ.Θ0 b/\Θ' b<=1:=by
 intro b hb hx;have:=k.two;have h1:=hs.old b hb hx;rw[k.owner b (cq hb hs.base) (by omega)];exact h1
theorem dV.nT(hs:dV Γ st κ Θ a w)(k:iF w w' Θ Θ' tag)(hn:∀(j:Nat) v,κ j=some v->κ' j=some v){ρ:Nat->Nat}(hu:zF Γ st.H κ Θ w ρ):
 (∀b,ρ b≠0->Θ' b=0/\Sd Γ b/\Wr w' b)/\(∀id e sz rows,id+2≠tag->st.H[id]?=some (.row .uq e sz rows)->
  ∃v cs bs,κ' id=some v/\w'.ownsRow 0 e sz v rows.length cs/\wK w' (tT e) 0 cs rows.flatten bs/\bs.Nodup/\∀b∈bs,ρ b=id+1)/\
  ∀id o,id+2≠tag->st.H[id]?=some o->JQ w' κ' ρ id o:=by
 have h2:=k.two;refine⟨?_,?_,?_⟩
 ·intro b hb;obtain⟨h0,hm,x,T,hx⟩:=hu.free b hb;have hlt:b<w.heap.size:=(bC.1 hx).1;exact⟨k.free hlt h0,hm,x,T,(k.block b hlt (by omega)).trans hx⟩
 ·intro id e sz rows hid hH;obtain⟨v,cs,bs,hk,hown,qk,hnd,hρ⟩:=hu.rows id e sz rows hH;obtain⟨_,_,v2,_,_,hk2,_,_,hΘ,_⟩:=hs.ob id _ hH;rw[hk]at hk2;cases hk2;refine⟨v,cs,bs,hn _ _ hk,⟨hown.1,?_⟩,qk.keep fun b hb=>k.block b (qk.lt b hb) ?_,hnd,hρ⟩
  ·rcases hown.2 with tu|⟨g,cap,cur,rfl,hb,OG,rest⟩
   ·exact .inl tu
   ·have hlt:g<w.heap.size:=(bC.1 OG).1;have hne:Θ g≠tag:=by rw[hΘ g (by simp[Value.ownBlock])];exact hid
    exact .inr ⟨g,cap,cur,rfl,hb,(k.block g hlt hne).trans OG,rest⟩
  ·have:=hρ b hb;have:=(hu.free b (by omega)).1;omega
 ·intro id o hid hH;have hm:=hu.more id o hH;have hb0:∀ {bs:aW},(∀b∈bs,ρ b=id+1)->∀b∈bs,Θ b≠tag:=fun hρ b hb=>by
   have:=hρ b hb;have:=(hu.free b (by omega)).1;omega
  cases o with
  |tk rows=>
   obtain⟨v,bs,hk,hrd,hnd,hρ⟩:=hm;exact⟨v,bs,hn _ _ hk,hrd.keep fun b hb=>k.block b (hrd.lt b hb) (hb0 hρ b hb),hnd,hρ⟩
  |tf e sz rows=>
   obtain⟨v,bs,hk,hrd,hlt,hnd,hρ⟩:=hm;exact⟨v,bs,hn _ _ hk,hrd.keep fun b hb=>k.block b (hlt b hb) (hb0 hρ b hb),fun b hb=>cq (hlt b hb) k.size,hnd,hρ⟩
  |row kd e sz rows=>
   cases kd with
   |mv n=>
    obtain⟨v,cs,bs,hk,hown,qk,hnd,hρ⟩:=hm;obtain⟨_,_,v2,_,_,hk2,_,_,hΘ,_⟩:=hs.ob id _ hH;rw[hk]at hk2;cases hk2;refine⟨v,cs,bs,hn _ _ hk,⟨hown.1,?_⟩,qk.keep fun b hb=>k.block b (qk.lt b hb) (hb0 hρ b hb),hnd,hρ⟩;rcases hown.2 with tu|⟨g,cap,cur,rfl,hb,OG,rest⟩
    ·exact .inl tu
    ·have hlt:g<w.heap.size:=(bC.1 OG).1;have hne:Θ g≠tag:=by rw[hΘ g (by simp[Value.ownBlock])];exact hid
     exact .inr ⟨g,cap,cur,rfl,hb,(k.block g hlt hne).trans OG,rest⟩
   |ho p n=>
    obtain⟨v,cs,bs,hk,hown,qk,hnd,hρ,c,hc,hkc⟩:=hm;obtain⟨_,_,v2,_,_,hk2,_,_,hΘ,_⟩:=hs.ob id _ hH;rw[hk]at hk2;cases hk2;exact⟨v,cs,bs,hn _ _ hk,J0 hown (fun g hg=>k.block g (hown.lt g hg).2 (by rw[hΘ g hg];exact hid)),qk.keep fun b hb=>k.block b (qk.lt b hb) (hb0 hρ b hb),hnd,hρ,c,hc,hn _ _ hkc⟩
   |_=>trivial
  |_=>trivial
theorem JQ.re{ρ ρ':Nat->Nat}{id:Nat}{o:Ob}(h:JQ w κ ρ id o)(hr:∀b,ρ b=id+1->ρ' b=id+1):JQ w κ ρ' id o:=by
 cases o with
 |tk rows=>
  obtain⟨v,bs,hk,hrd,hnd,hρ⟩:=h;exact⟨v,bs,hk,hrd,hnd,fun b hb=>hr b (hρ b hb)⟩
 |tf e sz rows=>
  obtain⟨v,bs,hk,hrd,hlt,hnd,hρ⟩:=h;exact⟨v,bs,hk,hrd,hlt,hnd,fun b hb=>hr b (hρ b hb)⟩
 |row kd e sz rows=>
  cases kd with
  |mv n=>
   obtain⟨v,cs,bs,hk,hown,qk,hnd,hρ⟩:=h;exact⟨v,cs,bs,hk,hown,qk,hnd,fun b hb=>hr b (hρ b hb)⟩
  |ho p n=>
   obtain⟨v,cs,bs,hk,hown,qk,hnd,hρ,hc⟩:=h;exact⟨v,cs,bs,hk,hown,qk,hnd,fun b hb=>hr b (hρ b hb),hc⟩
  |_=>trivial
 |_=>trivial
theorem dV.step(hs:dV Γ st κ Θ a w){H':bP}(k:iF w w' Θ Θ' tag)(hm:∀b,2<=Θ' b->xL Γ b)(hn:∀(j:Nat) v,κ j=some v->κ' j=some v)
 (hko:∀id,H'.length<=id->κ' id=none) (hk1:∀(id:Nat) u,κ' id=some u->u.oneCell'=true)
 (xe:∀(j:Nat) o,H'[j]?=some o->o=.gone\/(j+2≠tag/\st.H[j]?=some o)\/vh w' κ' Θ' j o) (hu:∃ρ,zF Γ H' κ' Θ' w' ρ):dV Γ ⟨st.σ,H'⟩ κ' Θ' a w':=by
 refine⟨hs.defers,hs.size,hko,hk1,?_,?_,k.own,hs.Wy k,hm,hs.Ru k,hu⟩
 ·intro t;obtain⟨bs,hr,hz⟩:=hs.slot t;exact⟨bs,rS.stay k hn hr hz⟩
 ·intro j o hj;rcases xe j o hj with rfl|⟨hne,hj'⟩|h
  ·trivial
  ·exact vh.stay k hn hne (hs.ob j o hj')
  ·exact h
def xD(κ:Nat->Option Value)(id:Nat)(v:Option Value):Nat->Option Value:=fun i=>if i=id then v else κ i
theorem jD(κ:Nat->Option Value)(id:Nat)(v:Option Value):xD κ id v id=v:=by simp[xD]
theorem wJ{κ:Nat->Option Value}{id:Nat}(h:κ id=none)(v:Option Value):∀(j:Nat) u,κ j=some u->xD κ id v j=some u:=by
 intro j u hj;unfold xD;rw[b8 (fun e=>by subst e;rw[h]at hj;cases hj)];exact hj
def Ob.SQ:Ob->Bool
 | .row .uq _ _ _=>true
 | .row (.mv _) _ _ _=>true
 | .row (.ho _ _) _ _ _=>true
 | .tk _=>true
 | .tf _ _ _=>true
 |_=>false
def Ob.mvB:Ob->Bool
 | .row (.mv _) _ _ _=>true
 | .row (.ho _ _) _ _ _=>true
 | .tk _=>true
 | .tf _ _ _=>true
 |_=>false
theorem JQ.wF{ρ:Nat->Nat}{id:Nat}{o:Ob}(h:o.mvB=false):JQ w κ ρ id o:=by
 cases o with
 |tk rows=>simp[Ob.mvB]at h
 |tf e sz rows=>simp[Ob.mvB]at h
 |row kd e sz rows=>
  cases kd with
  |mv n=>simp[Ob.mvB]at h
  |ho p n=>simp[Ob.mvB]at h
  |_=>trivial
 |_=>trivial
theorem JQ.plain{ρ:Nat->Nat}{id:Nat}{o:Ob}(h:o.SQ=false):JQ w κ ρ id o:=by
 cases o with
 |tk rows=>simp[Ob.SQ]at h
 |tf e sz rows=>simp[Ob.SQ]at h
 |row kd e sz rows=>
  cases kd with
  |mv n=>simp[Ob.SQ]at h
  |ho p n=>simp[Ob.SQ]at h
  |_=>trivial
 |_=>trivial
theorem dV.push(hs:dV Γ st κ Θ a w){v:Value}{o:Ob}(h1:v.oneCell'=true)(k:iF w w' Θ Θ' (st.H.length+2))(hm:∀b,2<=Θ' b->xL Γ b)
 (ho:vh w' (xD κ st.H.length (some v)) Θ' st.H.length o) (hq:o.SQ=false):dV Γ ⟨st.σ,st.H++[o]⟩ (xD κ st.H.length (some v)) Θ' a w':=by
 have hn:=wJ (hs.ol _ (bO _)) (some v);have key:∀(j:Nat) x,(st.H++[o])[j]?=some x->(j=st.H.length/\x=o)\/(j+2≠st.H.length+2/\st.H[j]?=some x):=by
  intro j x hj;by_cases hlt:j<st.H.length
  ·rw[av hlt]at hj;exact .inr ⟨by omega,hj⟩
  ·have hj':=(aF.1 hj).1;simp only[ar,aT,bW]at hj';have e:j=st.H.length:=by omega
   subst e;rw[az (bO _)]at hj;simp at hj;exact .inl ⟨rfl,hj.symm⟩
 obtain⟨ρ,hu⟩:=hs.rR;have s8:=hs.nT k hn hu;refine hs.step k hm hn ?_ ?_ ?_ ⟨ρ,s8.1,?_,?_⟩
 ·intro i hi;simp only[ar,aT,bW]at hi;unfold xD;rw[b8 (by omega)];exact hs.ol i (by omega)
 ·intro i u hu;unfold xD at hu;split at hu
  ·cases hu;exact h1
  ·exact hs.o6 i u hu
 ·intro j x hj;rcases key j x hj with⟨rfl,rfl⟩|h
  ·exact .inr (.inr ho)
  ·exact .inr (.inl h)
 ·intro id e sz rows hj;rcases key id _ hj with⟨rfl,rfl⟩|h
  ·simp[Ob.SQ]at hq
  ·exact s8.2.1 id e sz rows h.1 h.2
 ·intro id x hj;rcases key id _ hj with⟨rfl,rfl⟩|h
  ·exact JQ.plain hq
  ·exact s8.2.2 id x h.1 h.2
theorem dV.change(hs:dV Γ st κ Θ a w){id:Nat}{o:Ob}(k:iF w w' Θ Θ' (id+2))(hm:∀b,2<=Θ' b->xL Γ b)(ho:vh w' κ Θ' id o)(hq:o.SQ=false):
 dV Γ ⟨st.σ,st.H.set id o⟩ κ Θ' a w':=by
 have key:∀(j:Nat) x,(st.H.set id o)[j]?=some x->(j=id/\x=o)\/(j+2≠id+2/\st.H[j]?=some x):=by
  intro j x hj;by_cases e:id=j
  ·subst e;have hlt:id<st.H.length:=by
    have:=(aF.1 hj).1;simpa using this
   rw[dF hlt]at hj;cases hj;exact .inl ⟨rfl,rfl⟩
  ·rw[cE e]at hj;exact .inr ⟨by omega,hj⟩
 obtain⟨ρ,hu⟩:=hs.rR;have s8:=hs.nT k (fun _ _ h=>h) hu;refine hs.step k hm (fun _ _ h=>h) (fun i hi=>hs.ol i (by simpa using hi)) hs.o6 ?_ ⟨ρ,s8.1,?_,?_⟩
 ·intro j x hj;rcases key j x hj with⟨rfl,rfl⟩|h
  ·exact .inr (.inr ho)
  ·exact .inr (.inl h)
 ·intro i e sz rows hj;rcases key i _ hj with⟨rfl,rfl⟩|h
  ·simp[Ob.SQ]at hq
  ·exact s8.2.1 i e sz rows h.1 h.2
 ·intro i x hj;rcases key i _ hj with⟨rfl,rfl⟩|h
  ·exact JQ.plain hq
  ·exact s8.2.2 i x h.1 h.2
theorem dV.yw(hs:dV Γ st κ Θ a w)(h:∀b,2<=Θ' b->2<=Θ b\/w.heap.size<=b):∀b,2<=Θ' b->xL Γ b:=by
 intro b hb;rcases h b hb with h|h
 ·exact hs.mine b h
 ·exact .inl (dh hs.base h)
theorem iF.refl(h:∀b,Θ b≠0->b<w.heap.size)(h2:2<=tag):iF w w Θ Θ tag:=⟨h2,rfl,rfl,rfl,bO _,fun _ _ _=>rfl,fun _ _ _=>rfl,h⟩
theorem iF.a04(h:∀b,Θ b≠0->b<w.heap.size)(hb:Below w.heap.size w w')(h2:2<=tag):iF w w' Θ Θ tag:=
 ⟨h2,hb.os,hb.tape,hb.output,hb.size,fun b hlt _=>hb.block b hlt,fun _ _ _=>rfl,fun b hn=>cq (h b hn) hb.size⟩
theorem dV.grow(hs:dV Γ st κ Θ a w)(hb:Below w.heap.size w w'):dV Γ st κ Θ a w':=by
 have k:iF w w' Θ Θ (st.H.length+2):=iF.a04 hs.own hb (by omega);obtain⟨ρ,hu⟩:=hs.rR;have s8:=hs.nT k (fun _ _ h=>h) hu;have hlt:∀(j:Nat) o,st.H[j]?=some o->j+2≠st.H.length+2:=fun j o h=>by
  have:=(aF.1 h).1;omega
 exact hs.step k hs.mine (fun _ _ h=>h) hs.ol hs.o6 (fun j o h=>.inr (.inl ⟨hlt j o h,h⟩)) ⟨ρ,s8.1,fun id e sz rows h=>s8.2.1 id e sz rows (hlt _ _ h) h,fun id o h=>s8.2.2 id o (hlt _ _ h) h⟩
theorem dV.drew(hs:dV Γ st κ Θ a w):dV Γ st κ Θ a w.drew:=hs.grow ((Below.refl _ _).drew)
def kill(H:bP):aW->bP
 | []=>H
 |m::ms=>kill (H.set m .gone) ms
theorem fX(H:bP)(ms:aW):(kill H ms).length=H.length:=by
 induction ms generalizing H with
 |nil=>rfl
 |cons m ms ih=>simp[kill,ih]
theorem oG{H:bP}{ms:aW}{j:Nat}{o:Ob}(h:(kill H ms)[j]?=some o):o=.gone\/(j∉ms/\H[j]?=some o):=by
 induction ms generalizing H with
 |nil=>exact .inr ⟨by simp,h⟩
 |cons m ms ih=>
  rcases ih h with h|⟨h1,h2⟩
  ·exact .inl h
  ·by_cases e:m=j
   ·subst e;have hlt:=(aF.1 h2).1;rw[dF (by simpa using hlt)]at h2;cases h2;exact .inl rfl
   ·rw[cE e]at h2;exact .inr ⟨by simp[h1,rW e],h2⟩
def xz(κ:Nat->Option Value)(Θ ρ:Nat->Nat)(w:World)(m:Nat)(k:RK)(rows:List aL)(t:Option (TypeId×Nat):=none):Prop:=
 ∃v bs,κ m=some v/\Rd w v (.sl rows) bs/\(∀b∈bs,Θ b=0)/\(k=.uq->bs.Nodup/\∀b∈bs,ρ b=m+1)/\(∀t',t=some t'->GL w t' v (.sl rows) bs)
def Ob.tOf:Ob->Option (TypeId×Nat)
 | .row _ e sz _=>some (e,sz)
 |_=>Option.none
theorem vB{e sz:Nat}{v:Value}{rows:List aL}{cs:bZ}{bs:aW}(hrl:∀r∈rows,r.length=sz)(hown:w.ownsRow 0 e sz v rows.length cs)(qk:mR w cs rows.flatten bs):
 Rd w v (.sl rows) (v.ownBlock.toList++bs):=by
 rcases hown.2 with⟨rfl,hn⟩|⟨g,cap,cur,rfl,_,hg,hnc,hcm,_,ht⟩
 ·have:rows=[]:=cO hn;subst this;cases qk;exact .wI
 ·have hlt:g<w.heap.size:=(bC.1 hg).1;refine .sl g 0 cap sz rows cs bs hlt hnc hcm hrl (fun j c hc=>?_) qk;have:=hown.cells (g:=g) (by simp[Value.ownBlock]) j c hc;simpa[Addr.add_lit]using this
theorem dV.a3D(hs:dV Γ st κ Θ a w){ρ:Nat->Nat}(hu:zF Γ st.H κ Θ w ρ){m e sz:Nat}{k:RK}{rows:List aL}(hH:st.H[m]?=some (.row k e sz rows))(hk:k.Oh=true):
 ∃Θ' ρ',dV Γ ⟨st.σ,st.H.set m .gone⟩ κ Θ' a w/\zF Γ (st.H.set m .gone) κ Θ' w ρ'/\xz κ Θ' ρ' w m k rows (some (e,sz))/\
  (∀b,Θ b=0->Θ' b=0)/\(∀b,ρ b≠0->ρ' b=ρ b):=by
 obtain⟨hsz,hrl,v,cs,bs,hkm,hown,qk,hΘ,hz⟩:=hs.ob m _ hH;have xw:∀b∈bs,Θ b=0:=by cases k<;>first|exact hz|simp[RK.Oh]at hk
 let Θ':Nat->Nat:=fun b=>if Θ b=m+2 then 0 else Θ b
 let ρ':Nat->Nat:=fun b=>if some b=v.ownBlock then m+1 else ρ b
 have hk':iF w w Θ Θ' (m+2):=⟨by omega,rfl,rfl,rfl,bO _,fun _ _ _=>rfl,fun b _ hne=>b8 hne,fun b hb=>hs.own b (fun h0=>hb (by simp only[Θ'];split<;>simp_all))⟩
 have hT0:∀b,Θ b=0->Θ' b=0:=fun b h=>by simp only[Θ'];split<;>omega
 have NT:∀b,2<=Θ' b->xL Γ b:=fun b hb=>hs.mine b (by simp only[Θ']at hb;split at hb<;>omega)
 have Eg:∀g,v.ownBlock=some g->ρ g=0:=by
  intro g hg;cases h:ρ g with
  |zero=>rfl
  |succ n=>have:=(hu.free g (by omega)).1;rw[hΘ g hg]at this;omega
 have hρ:∀b,ρ b≠0->ρ' b=ρ b:=fun b hb=>b8 (fun h=>hb (Eg b h.symm))
 have key:∀(j:Nat) x,(st.H.set m .gone)[j]?=some x->x=.gone\/(j+2≠m+2/\st.H[j]?=some x):=by
  intro j x hj;rcases oG (ms:=[m]) hj with h|⟨h1,h2⟩
  ·exact .inl h
  ·exact .inr ⟨by simp at h1;omega,h2⟩
 have s8:=hs.nT hk' (fun _ _ h=>h) hu;have hU:zF Γ (st.H.set m .gone) κ Θ' w ρ':=by
  refine⟨fun b hb=>?_,fun id e sz rows h=>?_,fun id x h=>?_⟩
  ·by_cases hb':some b=v.ownBlock
   ·have e1:=hΘ b hb'.symm;refine⟨by simp only[Θ'];rw[bL e1],.inl (hs.mine b (by omega)),?_⟩;rcases hown.2 with⟨rfl,_⟩|⟨g,cap,cur,rfl,_,hg,_⟩
    ·simp[Value.ownBlock]at hb'
    ·simp[Value.ownBlock]at hb';subst hb';exact⟨_,_,hg⟩
   ·exact s8.1 b (by simp only[ρ']at hb;rwa[b8 hb']at hb)
  ·rcases key id _ h with h|⟨h1,h2⟩
   ·cases h
   ·obtain⟨v2,c2,b2,q1,q2,q3,q4,q5⟩:=s8.2.1 id e sz rows h1 h2;exact⟨v2,c2,b2,q1,q2,q3,q4,fun b hb=>by rw[hρ b (by rw[q5 b hb];omega)];exact q5 b hb⟩
  ·rcases key id _ h with h|⟨h1,h2⟩
   ·subst h;trivial
   ·exact(s8.2.2 id x h1 h2).re fun b hb=>(hρ b (by omega)).trans hb
 refine⟨Θ',ρ',?_,hU,?_,hT0,hρ⟩
 ·exact hs.step hk' NT (fun _ _ h=>h) (fun i hi=>hs.ol i (by simpa using hi)) hs.o6 (fun j x hj=>by
   rcases key j x hj with h|h
   ·exact .inl h
   ·exact .inr (.inl h)) ⟨ρ',hU⟩
 ·have plain:k≠ .uq->xz κ Θ' ρ' w m k rows (some (e,sz)):=fun hne=>by
   refine⟨v,_,hkm,vB hrl hown qk,fun b hb=>?_,fun h=>absurd h hne,fun t ht=>by cases ht;exact .inr ⟨rows,cs,bs,rfl,hsz,hrl,hown,qk,rfl⟩⟩;rcases aU.1 hb with hb|hb
   ·simp only[kx]at hb;simp only[Θ'];rw[bL (hΘ b hb)]
   ·exact hT0 b (xw b hb)
  cases k with
  |cl=>simp[RK.Oh]at hk
  |sh=>exact plain (by simp)
  |mv n=>exact plain (by simp)
  |ho p n=>exact plain (by simp)
  |uq=>
   obtain⟨v2,c2,b2,q1,q2,q3,q4,q5⟩:=hu.rows m e sz rows hH;rw[hkm]at q1;cases q1;have hfr:∀b∈b2,ρ b≠0:=fun b hb=>by rw[q5 b hb];omega
   refine⟨v,_,hkm,vB hrl q2 q3.rd,fun b hb=>?_,fun _=>⟨?_,fun b hb=>?_⟩,fun t ht=>by cases ht;exact .inr ⟨rows,c2,b2,rfl,hsz,hrl,q2,q3.rd,rfl⟩⟩
   ·rcases aU.1 hb with hb|hb
    ·simp only[kx]at hb;simp only[Θ'];rw[bL (hΘ b hb)]
    ·exact hT0 b (hu.free b (hfr b hb)).1
   ·rw[bH];refine⟨by cases v.ownBlock<;>simp,q4,fun x hx y hy e=>?_⟩;simp only[kx]at hx;subst e;exact hfr x hy (Eg x hx)
   ·rcases aU.1 hb with hb|hb
    ·simp only[kx]at hb;simp only[ρ'];rw[bL hb.symm]
    ·rw[hρ b (hfr b hb)];exact q5 b hb
theorem dV.a5o(hs:dV Γ st κ Θ a w){ρ:Nat->Nat}(hu:zF Γ st.H κ Θ w ρ){m:Nat}{rows:List aL}(hH:st.H[m]?=some (.tk rows)):
 dV Γ ⟨st.σ,st.H.set m .gone⟩ κ Θ a w/\zF Γ (st.H.set m .gone) κ Θ w ρ/\xz κ Θ ρ w m .uq rows:=by
 have key:∀(j:Nat) x,(st.H.set m .gone)[j]?=some x->x=.gone\/(j≠m/\st.H[j]?=some x):=by
  intro j x hj;rcases oG (ms:=[m]) hj with h|⟨h1,h2⟩
  ·exact .inl h
  ·exact .inr ⟨by simpa using h1,h2⟩
 have hU:zF Γ (st.H.set m .gone) κ Θ w ρ:=by
  refine⟨hu.free,fun id e sz rows h=>?_,fun id x h=>?_⟩
  ·rcases key id _ h with h|⟨_,h2⟩
   ·cases h
   ·exact hu.rows id e sz rows h2
  ·rcases key id _ h with h|⟨_,h2⟩
   ·subst h;trivial
   ·exact hu.more id x h2
 obtain⟨v,bs,q1,q2,q3,q4⟩:=hu.more m _ hH;refine⟨⟨hs.defers,hs.size,fun i hi=>hs.ol i (by simpa using hi),hs.o6,hs.slot,fun id o h=>?_,hs.own,hs.old,hs.mine,hs.stays,ρ,hU⟩,hU,v,bs,q1,q2,fun b hb=>(hu.free b (by rw[q4 b hb];omega)).1,fun _=>⟨q3,q4⟩,fun _ h=>by cases h⟩;rcases key id _ h with h|⟨_,h2⟩
 ·subst h;trivial
 ·exact hs.ob id o h2
def Ob.JA:Ob->Option (RK×List aL)
 | .row k _ _ rows=>(match k with| .cl=>none|_=>some (k,rows))
 | .tk rows=>some (.uq,rows)
 |_=>none
theorem Ob.Y6{o:Ob}{k:RK}{rows:List aL}(h:o.JA=some (k,rows)):(∃e sz,o=.row k e sz rows/\k.Oh=true)\/(o=.tk rows/\k=.uq):=by
 cases o with
 |row k' e sz r=>
  cases k' with
  |cl=>simp[Ob.JA]at h
  |_=>simp only[Ob.JA,aj,cY]at h;obtain⟨rfl,rfl⟩:=h;exact .inl ⟨e,sz,rfl,rfl⟩
 |tk r=>simp only[Ob.JA,aj,cY]at h;obtain⟨rfl,rfl⟩:=h;exact .inr ⟨rfl,rfl⟩
 |_=>simp[Ob.JA]at h
theorem dV.a5n(hs:dV Γ st κ Θ a w){ρ:Nat->Nat}(hu:zF Γ st.H κ Θ w ρ){m:Nat}{o:Ob}{k:RK}{rows:List aL}(hH:st.H[m]?=some o)(ho:o.JA=some (k,rows)):
 ∃Θ' ρ',dV Γ ⟨st.σ,st.H.set m .gone⟩ κ Θ' a w/\zF Γ (st.H.set m .gone) κ Θ' w ρ'/\xz κ Θ' ρ' w m k rows o.tOf/\
  (∀b,Θ b=0->Θ' b=0)/\(∀b,ρ b≠0->ρ' b=ρ b):=by
 rcases Ob.Y6 ho with⟨e,sz,rfl,hk⟩|⟨rfl,rfl⟩
 ·exact hs.a3D hu hH hk
 ·obtain⟨h1,h2,h3⟩:=hs.a5o hu hH;exact⟨Θ,ρ,h1,h2,h3,fun _ h=>h,fun _ _=>rfl⟩
theorem dV.QM:∀(ms:aW) {st:St} {Θ ρ:Nat->Nat},dV Γ st κ Θ a w->zF Γ st.H κ Θ w ρ->ms.Nodup->
 (∀m∈ms,∃o k rows,st.H[m]?=some o/\o.JA=some (k,rows))->
 ∃Θ' ρ',dV Γ ⟨st.σ,kill st.H ms⟩ κ Θ' a w/\zF Γ (kill st.H ms) κ Θ' w ρ'/\(∀m∈ms,∀o k rows,st.H[m]?=some o->o.JA=some (k,rows)->xz κ Θ' ρ' w m k rows o.tOf)/\
  (∀b,Θ b=0->Θ' b=0)/\(∀b,ρ b≠0->ρ' b=ρ b):=by
 intro ms
 induction ms with
 |nil=>intro st Θ ρ hs hu _ _;exact⟨Θ,ρ,hs,hu,by simp,fun _ h=>h,fun _ _=>rfl⟩
 |cons m ms ih=>
  intro st Θ ρ hs hu hnd hall;obtain⟨hnm,DZ⟩:=dN.1 hnd;obtain⟨o,k,rows,hH,hk⟩:=hall m (by simp);obtain⟨Θ1,ρ1,hs1,hu1,hm1,N7,R1⟩:=hs.a5n hu hH hk;have Ls:∀m'∈ms,(st.H.set m .gone)[m']?=st.H[m']?:=fun m' hm'=>cE (fun e:m=m'=>hnm (by rw[e];exact hm'))
  obtain⟨Θ2,ρ2,hs2,Yf,hm2,Ro,ZT⟩:=ih (st:=⟨st.σ,st.H.set m .gone⟩) hs1 hu1 DZ (fun m' hm'=>by
   obtain⟨o',k',dO,h1,h2⟩:=hall m' (by simp[hm']);exact⟨o',k',dO,(Ls m' hm').trans h1,h2⟩)
  refine⟨Θ2,ρ2,hs2,Yf,?_,fun b h=>Ro b (N7 b h),fun b h=>(ZT b (by rw[R1 b h];exact h)).trans (R1 b h)⟩;intro m' hm' o' k' dO DY ho';rcases bE.1 hm' with rfl|WM
  ·rw[hH]at DY;cases DY;rw[hk]at ho';cases ho';obtain⟨v,bs,q1,q2,q3,q4,q7⟩:=hm1;refine⟨v,bs,q1,q2,fun b hb=>Ro b (q3 b hb),fun hq=>?_,fun _ h=>q7 _ h⟩;obtain⟨q5,q6⟩:=q4 hq;exact⟨q5,fun b hb=>by rw[ZT b (by rw[q6 b hb];omega)];exact q6 b hb⟩
  ·exact hm2 m' WM o' k' dO ((Ls m' WM).trans DY) ho'
theorem dV.FC:∀(ms:aW) {st:St} {Θ ρ:Nat->Nat},dV Γ st κ Θ a w->zF Γ st.H κ Θ w ρ->ms.Nodup->
 (∀m∈ms,∃k e sz rows,st.H[m]?=some (.row k e sz rows)/\k.Oh=true)->
 ∃Θ' ρ',dV Γ ⟨st.σ,kill st.H ms⟩ κ Θ' a w/\zF Γ (kill st.H ms) κ Θ' w ρ'/\(∀m∈ms,∀k e sz rows,st.H[m]?=some (.row k e sz rows)->xz κ Θ' ρ' w m k rows)/\
  (∀b,Θ b=0->Θ' b=0)/\(∀b,ρ b≠0->ρ' b=ρ b):=by
 intro ms
 induction ms with
 |nil=>intro st Θ ρ hs hu _ _;exact⟨Θ,ρ,hs,hu,by simp,fun _ h=>h,fun _ _=>rfl⟩
 |cons m ms ih=>
  intro st Θ ρ hs hu hnd hall;obtain⟨hnm,DZ⟩:=dN.1 hnd;obtain⟨k,e,sz,rows,hH,hk⟩:=hall m (by simp);obtain⟨Θ1,ρ1,hs1,hu1,hm1,N7,R1⟩:=hs.a3D hu hH hk;have Ls:∀m'∈ms,(st.H.set m .gone)[m']?=st.H[m']?:=fun m' hm'=>cE (fun e:m=m'=>hnm (by rw[e];exact hm'))
  obtain⟨Θ2,ρ2,hs2,Yf,hm2,Ro,ZT⟩:=ih (st:=⟨st.σ,st.H.set m .gone⟩) hs1 hu1 DZ (fun m' hm'=>by
   obtain⟨k',e',sz',dO,h1,h2⟩:=hall m' (by simp[hm']);exact⟨k',e',sz',dO,(Ls m' hm').trans h1,h2⟩)
  refine⟨Θ2,ρ2,hs2,Yf,?_,fun b h=>Ro b (N7 b h),fun b h=>(ZT b (by rw[R1 b h];exact h)).trans (R1 b h)⟩;intro m' hm' k' e' sz' dO DY;rcases bE.1 hm' with rfl|WM
  ·rw[hH]at DY;cases DY;obtain⟨v,bs,q1,q2,q3,q4,q7⟩:=hm1;refine⟨v,bs,q1,q2,fun b hb=>Ro b (q3 b hb),fun hq=>?_,fun _ h=>by cases h⟩;obtain⟨q5,q6⟩:=q4 hq;exact⟨q5,fun b hb=>by rw[ZT b (by rw[q6 b hb];omega)];exact q6 b hb⟩
  ·exact hm2 m' WM k' e' sz' dO ((Ls m' WM).trans DY)
end
end Go.Cx
namespace Go.Cx
open Go.RowKit
section
variable{P:Program}{Γ:tZ}{Q:Exit->St->Prop}{st:St}{κ:Nat->Option Value}{Θ:Nat->Nat}{a:Act}{w:World}{all:Array Oper}{rest:List Oper}
theorem Yu{c:Operand}{x y:Code}{b:Bool}(hc:st.ev c=.bool b)(ht:b=true->AW P Γ x Q st)(hf:b=false->AW P Γ y Q st):AW P Γ (.cond c x y) Q st:=by
 intro κ Θ a w hs;obtain⟨bs,r,_⟩:=hs.ev c;rw[hc]at r;exact wp_cond_split r.vo (fun h=>ht h κ Θ a w hs) (fun h=>hf h κ Θ a w hs)
theorem LH{o:Oper}{j s:Nat}{want b:Bool}(hg:o.guard=some (j,want))(hj:(all[j]?).bind (·.dst)=some s)(hb:lk st.σ s=.bool b)
 (hd:∀t,o.dst=some t->t<Γ.nt)
 (a8b:b=want->AO P Γ all ({o with guard:=none}::rest) Q st) (hno:b≠want->AO P Γ all rest Q (st.put o.dst (.gw []))):AO P Γ all (o::rest) Q st:=by
 intro κ Θ a w hs;obtain⟨bs,r,_⟩:=hs.slot s;rw[hb]at r;have hv:=r.vo;have hlt:s<a.tmps.size:=by
  rcases eF s a.tmps.size with h|h
  ·exact h
  ·exfalso;rw[cH,rU h]at hv;simp[undef]at hv
 have hy:yielded all a.tmps j=some b:=by
  have h1:a.tmps[s]?=some (.bool b):=by
   rw[cH,cR hlt]at hv;rw[cR hlt];simpa using hv
  simp[yielded,hj,h1]
 by_cases e:b=want
 ·have:=a8b e κ Θ a w hs;unfold wpList at this⊢;have hw:Region.wanted o (yielded all a.tmps)=true:=by simp[Region.wanted,hg,hy,e]
  have hw':Region.wanted {o with guard:=none} (yielded all a.tmps)=true:=rfl;rw[bL hw];rw[bL hw']at this;exact this
 ·have hw:Region.wanted o (yielded all a.tmps)=false:=by simp[Region.wanted,hg,hy,e]
  unfold wpList;rw[hw,b8 (by simp)];refine hno e κ Θ _ w ?_;cases OF:o.dst with
  |none=>exact hs
  |some t=>exact hs.set (hd t OF) (.gw [] [] [] .nil) (by simp)
theorem rS.Nl{w:World}{κ:Nat->Option Value}{v:Value}{bs:aW}(h:rS w κ v (.gw []) bs):v=.tuple #[]:=by
 cases h with
 |v h=>cases h with|cell h=>cases h with|pure h=>cases h
 |gw vs ds bs h=>cases h;rfl
theorem NC{o:Oper}{j s:Nat}{want:Bool}(hg:o.guard=some (j,want))(hj:(all[j]?).bind (·.dst)=some s)(hb:lk st.σ s=.gw [])
 (hd:∀t,o.dst=some t->t<Γ.nt) (hno:AO P Γ all rest Q (st.put o.dst (.gw []))):AO P Γ all (o::rest) Q st:=by
 intro κ Θ a w hs;obtain⟨bs,r,_⟩:=hs.slot s;rw[hb]at r;have hv:=r.Nl;have hy:yielded all a.tmps j=none:=by
  rcases eF s a.tmps.size with hlt|hlt
  ·have h1:a.tmps[s]?=some (.tuple #[]):=by
    rw[cH,cR hlt]at hv;rw[cR hlt];simpa using hv
   simp[yielded,hj,h1]
  ·simp[yielded,hj,rU hlt]
 have hw:Region.wanted o (yielded all a.tmps)=false:=by simp[Region.wanted,hg,hy]
 unfold wpList;rw[hw,b8 (by simp)];refine hno κ Θ _ w ?_;cases OF:o.dst with
 |none=>exact hs
 |some t=>exact hs.set (hd t OF) (.gw [] [] [] .nil) (by simp)
theorem iF.alloc(hs:dV Γ st κ Θ a w)(o:Obj){tag:Nat}(h2:2<=tag):iF w (w.alloc o) Θ (fun b=>if b=w.heap.size then tag else Θ b) tag:=by
 refine⟨h2,rfl,rfl,rfl,by simp,fun b hb _=>Below.heap_alloc w o b hb,fun b hb _=>?_,fun b hb=>?_⟩
 ·rw[b8 (by omega)]
 ·by_cases e:b=w.heap.size
  ·subst e;simp
  ·rw[b8 e]at hb;have:=hs.own b hb;simp;omega
theorem dV.XE(hs:dV Γ st κ Θ a w){cs:Array Value}{ds:aL}{bs:aW}(T:TypeId)(hr:fH w κ cs.toList ds bs)(hz:∀b∈bs,Θ b=0):
 dV Γ ⟨st.σ,st.H++[.box ds]⟩ (xD κ st.H.length (some (.pointer (some ⟨w.heap.size,0,none⟩)))) (fun b=>if b=w.heap.size then st.H.length+2 else Θ b) a (w.alloc (.cells cs T)):=by
 have k:=iF.alloc hs (.cells cs T) (tag:=st.H.length+2) (by omega);refine hs.push rfl k (hs.yw (fun b hb=>by by_cases e:b=w.heap.size<;>simp_all)) ?_ rfl;have hn:=wJ (hs.ol _ (bO _)) (some (Value.pointer (some ⟨w.heap.size,0,none⟩)));obtain⟨h1,h2⟩:=fH.stay k hn hr hz;exact⟨w.heap.size,cs,T,by simp[xD],heap_alloc_new w _,by simp,bs,h1,h2⟩
theorem a1x{o:Oper}{T t:Nat}{x:Operand}{ds:aL}(hop:o.op=.box T x)(hd:o.dst=some t)(hg:o.guard=none)(ht:t<Γ.nt)
 (hc:(st.ev x).cellsOf=some ds) (h:AO P Γ all rest Q ⟨(t,.ptr st.H.length 0)::st.σ,st.H++[.box ds]⟩):AO P Γ all (o::rest) Q st:=by
 intro κ Θ a w hs;obtain⟨bs,r,hz⟩:=hs.ev x;have hcs:=B4 hs.o6 r hc;have hs':=hs.XE T hcs hz;refine wpList_plain hg fun K hK=>?_
 unfold Oper.wp;have hrun:(execOp a.eval o).run P w=.ok (.value (.pointer (some ⟨w.heap.size,0,none⟩))) (w.alloc (.cells (a.eval x).cells T)):=by
  simp[execOp,hop,Instr.box,newVar,newRow]
 rw[hrun,Oper.upon_value,hd];refine hK _ _ (h _ _ _ _ (hs'.set (t:=t) (d:=.ptr st.H.length 0) (bs:=[]) ht ?_ (by simp)));exact(yQ.ptr st.H.length 0 w.heap.size (by simp[xD])).Nk
theorem VF{o:Oper}{T t:Nat}{zs:aL}(hop:o.op=.alloc T)(hd:o.dst=some t)(hg:o.guard=none)(ht:t<Γ.nt)
 (hz:tz P T=some zs) (h:AO P Γ all rest Q ⟨(t,.ptr st.H.length 0)::st.σ,st.H++[.box zs]⟩):AO P Γ all (o::rest) Q st:=by
 intro κ Θ a w hs;obtain⟨i,z,hi,xw,hsz,hlen,hone,rfl⟩:=xF hz;have hs':=hs.XE T (cs:=z.cells) (Bg z.cells.toList hone) (by simp);refine wpList_plain hg fun K hK=>?_
 unfold Oper.wp;have hrun:(execOp a.eval o).run P w=.ok (.value (.pointer (some ⟨w.heap.size,0,none⟩))) (w.alloc (.cells z.cells T)):=by
  simp[execOp,hop,Instr.alloc,zeroValue,typeInfo,hi,xw,newVar,newRow]
 rw[hrun,Oper.upon_value,hd];refine hK _ _ (h _ _ _ _ (hs'.set (t:=t) (d:=.ptr st.H.length 0) (bs:=[]) ht ?_ (by simp)));exact(yQ.ptr st.H.length 0 w.heap.size (by simp[xD])).Nk
theorem iF.setRow(hs:dV Γ st κ Θ a w){g:Nat}{cs:Array Value}{tag:Nat}(h2:2<=tag)(hg:Θ g=tag):iF w (w.setRow g cs) Θ Θ tag:=by
 refine⟨h2,rfl,rfl,rfl,by simp,fun b _ hne=>setRow_other w g b cs (fun e=>hne (e▸hg)),fun b _ _=>rfl,fun b hb=>?_⟩;simpa using hs.own b hb
theorem Ev{T g off:Nat}{v:Value}{cur:Array Value}{e:TypeId}(hg:w.heap[g]?=some (.cells cur e (0,0)))(hsz:v.cells.size=z6 P T)(Ju:∃i,P.info? T=some i)
 (hfit:off+v.cells.size<=cur.size) (hone:∀c∈v.cells.toList,c.oneCell'=true):
 (Instr.storeAt T (.pointer (some ⟨g,off,none⟩)) v).run P w=.ok () (w.setRow g (cur.toList.take off++v.cells.toList++cur.toList.drop (off+v.cells.toList.length)).toArray):=by
 have:=run_storeCells_at P g off e v.cells.toList 0 cur w hg (by simpa using hfit) hone;simp only[rV]at this;simp[Instr.storeAt,Instr.sureAddr,storeVar,ud Ju,hsz,this]
def P5(P:Program)(t:TypeId):Bool:=(P.info? t).isSome
theorem Ng{o:Oper}{T id off:Nat}{x y:Operand}{cells ds:aL}(hop:o.op=.store T x y)
 (hx:st.ev x=.ptr id off) {ob:Ob} (hH:st.H[id]?=some ob) (xe:ob.Sx=some cells) (hc:(st.ev y).cellsOf=some ds) (hT:P5 P T=true) (hl:ds.length=z6 P T) (hfit:off+ds.length<=cells.length) (hkp:ob.TO off=true) (hs:dV Γ st κ Θ a w):
 ∃w',(execOp a.eval o).run P w=.ok .skip w'/\dV Γ ⟨st.σ,st.H.set id (ob.re (cells.take off++ds++cells.drop (off+ds.length)))⟩ κ Θ a w':=by
 obtain⟨b1,r1,_⟩:=hs.ev x;obtain⟨b2,r2,Ro⟩:=hs.ev y;rw[hx]at r1;obtain⟨g,hk,hv⟩:=r1.yq;obtain⟨g',cs,Tb,hk',UE,hΘ,bs,qk,hz⟩:=(hs.ob id _ hH).cs xe;rw[hk]at hk';cases hk';have hcs:=B4 hs.o6 r2 hc;have hl1:=hcs.length;have BZ:=qk.length;have hsz:(a.eval y).cells.size=z6 P T:=by rw[<-hl,<-hl1];simp
 have hst:=Ev (P:=P) (T:=T) (off:=off) UE hsz (eN.1 hT) (by
  have:(a.eval y).cells.size=ds.length:=by rw[<-hl1];simp
  have h3:cs.size=cells.length:=by rw[<-BZ];simp
  omega) hcs.one
 have k:=iF.setRow hs (g:=g) (cs:=(cs.toList.take off++(a.eval y).cells.toList++cs.toList.drop (off+(a.eval y).cells.toList.length)).toArray) (tag:=id+2) (by omega) hΘ;have hrun:(execOp a.eval o).run P w=.ok .skip (w.setRow g (cs.toList.take off++(a.eval y).cells.toList++cs.toList.drop (off+(a.eval y).cells.toList.length)).toArray):=by
  simp only[execOp,hop,hv];simp[hst]
 refine⟨_,hrun,hs.change k hs.mine (vh.a62 xe (hs.ob id _ hH) (fun _ h=>h) (fun c0 u0 e0=>?_) ?_) (by cases ob<;>rfl)⟩
 ·subst e0;intro c W9 g2 Yb T2 hk2 TA;rw[hk]at hk2;cases hk2;rw[setRow_heap w g cs _ Tb _ UE]at TA;cases TA;obtain⟨z1,z2⟩:=(hs.ob id _ hH).1.2 c W9 g cs Tb hk UE;simp only[Ob.Sx,aj]at xe;subst xe;have h3:c0.length=3:=by rw[<-BZ];simpa using z1
  have hoff:1<=off:=by
   simp only[Ob.TO,h3,oV,bh,sR]at hkp;exact jZ hkp
  have aAh:cs.toList.length=3:=by simpa using z1
  have hel:(a.eval y).cells.toList.length=ds.length:=hl1;refine⟨by simp only[vc,ar,bw,oT];omega,?_⟩;rw[hY,cc,av (by rw[bw];omega),uQ (by omega)];simpa using z2
 have e:cells=cells.take off++((cells.drop off).take ds.length++(cells.drop off).drop ds.length):=by rw[cJ,cJ]
 rw[e]at qk;obtain⟨v1,v2,c1,c2,Kr,rfl,k1,k2⟩:=qk.split;obtain⟨v3,v4,c3,c4,rfl,rfl,k3,k4⟩:=k2.split;have l1:v1.length=off:=by rw[k1.length];simp;omega
 have l3:v3.length=ds.length:=by rw[k3.length];simp;omega
 have e1:cs.toList.take off=v1:=by rw[Kr];exact ic l1
 have e4:cs.toList.drop (off+(a.eval y).cells.toList.length)=v4:=by
  rw[Kr,<-fe,fc l1,hl1];exact fc l3
 have hnew:fH w κ (v1++(a.eval y).cells.toList++v4) (cells.take off++ds++cells.drop (off+ds.length)) ((c1++b2)++c4):=by
  rw[fe]at k4;exact(k1.app hcs).app k4
 have Mm:∀b∈((c1++b2)++c4),Θ b=0:=by
  intro b hb;simp only[aU]at hb;rcases hb with(hb|hb)|hb
  ·exact hz b (by simp[hb])
  ·exact Ro b hb
  ·exact hz b (by simp[hb])
 obtain⟨h1,h2⟩:=fH.stay k (fun _ _ h=>h) hnew Mm;refine⟨g,_,Tb,hk,setRow_heap w g cs _ Tb _ UE,hΘ,_,?_,h2⟩;rw[e1,e4]at h1⊢;exact h1
theorem VR{o:Oper}{T id off:Nat}{x y:Operand}{cells ds:aL}(hop:o.op=.store T x y)(hd:o.dst=none)(hg:o.guard=none)
 (hx:st.ev x=.ptr id off) {ob:Ob} (hH:st.H[id]?=some ob) (xe:ob.Sx=some cells) (hc:(st.ev y).cellsOf=some ds) (hT:P5 P T=true) (hl:ds.length=z6 P T) (hfit:off+ds.length<=cells.length) (hkp:ob.TO off=true)
 (h:AO P Γ all rest Q ⟨st.σ,st.H.set id (ob.re (cells.take off++ds++cells.drop (off+ds.length)))⟩):AO P Γ all (o::rest) Q st:=by
 intro κ Θ a w hs;obtain⟨w',hrun,hs'⟩:=Ng hop hx hH xe hc hT hl hfit hkp hs;refine wpList_plain hg fun K hK=>?_
 unfold Oper.wp;rw[hrun,Oper.upon_skip,hd];exact hK _ _ (h _ _ _ _ hs')
end
def D.PI:D->Bool
 | .acc _=>false
 | .ptr _ _=>false
 | .op _ _ _ _=>false
 |_=>true
def YE(P:Program)(t:TypeId):Nat:=P.bytesOf t
theorem Jx{α:Type}{l:List α}{i:Nat}{x:α}(h:l[i]?=some x):∃p q,l=p++x::q/\p.length=i:=by
 have hlt:=(aF.1 h).1;have hx:=(aF.1 h).2;refine⟨l.take i,l.drop (i+1),?_,by simp;omega⟩;rw[<-hx,Bs,cJ]
theorem Ea{rows:List aL}{sz i off:Nat}{row ds:aL}(hrl:∀r∈rows,r.length=sz)(hr:rows[i]?=some row)(hfit:off+ds.length<=sz):
 (rows.set i (row.take off++ds++row.drop (off+ds.length))).flatten=rows.flatten.take (i*sz+off)++ds++rows.flatten.drop (i*sz+off+ds.length):=by
 obtain⟨p,q,rfl,rfl⟩:=Jx hr;have hrow:row.length=sz:=hrl row (by simp);have hp:p.flatten.length=p.length*sz:=nP (fun r hr=>hrl r (by simp[hr]));rw[mL _ _ (bO _),pV,List.set_cons_zero];simp only[jF,eP];rw[<-hp,List.take_length_add_append,kj,List.drop_length_add_append,List.take_append_of_le_length (by omega),List.drop_append_of_le_length (by omega)];simp only[cc]
theorem MA(z:Array Value)(n:Nat):(madeCells z (n*z.size)).toList=(List.replicate n z.toList).flatten:=by
 induction n with
 |zero=>simp[madeCells]
 |succ n ih=>
  rw[List.replicate_succ',jF,<-ih];apply nX;intro j;by_cases hz:z.size=0
  ·have:z= #[]:=Array.size_eq_zero_iff.1 hz;subst this;simp[madeCells]
  ·by_cases h1:j<n*z.size
   ·rw[av (by simpa[madeCells]using h1)];have h2:j<(n+1)*z.size:=by rw[k7];omega
    simp[madeCells,h1,h2]
   ·rw[az (by simpa[madeCells]using h1)];by_cases h2:j<(n+1)*z.size
    ·rw[k7,nI]at h2;have hm:j%z.size=j-n*z.size:=by
      have hmc:=Bv z.size n;have e:j=(j-n*z.size)+z.size*n:=by omega
      conv=>lhs;rw[e]
      rw[Nat.add_mul_mod_self_left,Nat.mod_eq_of_lt (by omega)]
     have h3:j-n*z.size<z.size:=by omega
     have h2':j<(n+1)*z.size:=by rw[k7,nI];exact h2
     simp[madeCells,h2',hm,h3]
    ·rw[cQ (by simp[madeCells];omega),cQ];rw[k7,nI]at h2;simp[madeCells];omega
section
variable{P:Program}{Γ:tZ}{Q:Exit->St->Prop}{st:St}{κ:Nat->Option Value}{Θ:Nat->Nat}{a:Act}{w:World}{all:Array Oper}{rest:List Oper}
theorem fH.pure{vs:bZ}{ds:aL}{bs:aW}(h:fH w κ vs ds bs)(hp:ds.all D.PI=true):mR w vs ds bs:=by
 induction ds generalizing vs bs with
 |nil=>cases h;exact .nil
 |cons d ds ih=>
  simp only[dD,aR]at hp;cases h with
  |cons v vs _ _ b1 b2 h1 h2 h3=>
   refine .cons _ _ _ _ _ _ h1 ?_ (ih h3 hp.2);cases h2 with
   |pure h=>exact h
   |acc=>simp[D.PI]at hp
   |ptr=>simp[D.PI]at hp
   |op=>simp[D.PI]at hp
theorem mR.rep{vs:bZ}{ds:aL}(h:mR w vs ds [])(m:Nat):mR w (List.replicate m vs).flatten (List.replicate m ds).flatten []:=by
 induction m with
 |zero=>exact .nil
 |succ m ih=>
  simp only[List.replicate_succ,eP];have:=h.app ih;simpa using this
def D.Bk(d:D):D:=match d with
 | .nil=>.sl []
 |d=>d
theorem Rd.soft{v:Value}{d:D}{bs:aW}(h:Rd w v d bs):Rd w v d.Bk bs:=by
 cases h with
 |nil=>exact .wI
 |any=>exact .any _
 |int _ _ h=>exact .int _ _ h
 |bool=>exact .bool _
 |str _ h=>exact .str _ h
 |val=>exact .val _
 |wI=>exact .wI
 |lP a cap h=>exact .lP a cap h
 |sl b off cap sz rows cs bs h0 h1 h2 h3 h4 h5=>exact .sl b off cap sz rows cs bs h0 h1 h2 h3 h4 h5
 |agg cs ds bs h=>exact .agg cs ds bs h
 |ep b off cs row o bs h0 h4 h5=>exact .ep b off cs row o bs h0 h4 h5
 |UJ=>exact .UJ
 |UK t u=>exact .UK t u
theorem mR.soft{vs:bZ}{ds:aL}{bs:aW}(h:mR w vs ds bs):mR w vs (ds.map D.Bk) bs:=by
 induction ds generalizing vs bs with
 |nil=>cases h;exact .nil
 |cons d ds ih=>cases h with|cons v vs _ _ b1 b2 h1 h2 h3=>exact .cons _ _ _ _ _ _ h1 h2.soft (ih h3)
def D.flat:D->Bool
 | .any=>true
 | .nil=>true
 | .int _ _=>true
 | .bool _=>true
 | .str _=>true
 | .val _=>true
 |_=>false
def Tx(H:bP)(d:D):Option (D×aW):=match d with
 | .acc m=>(match(H[m]?).bind Ob.JA with|some (_,rows)=>some (.sl rows,[m])|none=>none)
 | .ptr _ _=>none
 | .op _ _ _ _=>none
 |d=>some (d.Bk,[])
def Ho(H:bP):aL->Option (aL×aW)
 | []=>some ([],[])
 |d::ds=>match Tx H d,Ho H ds with|some (e,m),some (es,ms)=>some (e::es,m++ms)|_,_=>none
def uqC(H:bP)(d:D):Bool:=match d with
 | .acc m=>(match(H[m]?).bind Ob.JA with|some (k,_)=>(match k with| .uq=>true|_=>false)|none=>false)
 |d=>d.flat
def x7(b:Bool):RK:=match b with|true=>.uq|false=>.sh
def RU(H:bP)(t:Option (TypeId×Nat))(d:D):Bool:=match t with
 |none=>true
 |some t'=>(match d with
  | .acc m=>(match(H[m]?).bind Ob.tOf with|some t2=>t2.1==t'.1&&t2.2==t'.2|none=>false)
  | .nil=>Nat.blt 0 t'.2
  | .any=>true
  |_=>false)
def ZQ(H:bP)(f:Nat->Option (TypeId×Nat)):Nat->aL->Bool
 |_,[]=>true
 |i,d::ds=>RU H (f i) d&&ZQ H f (i+1) ds
def Tn(e:Nat):Bool:=match KL e with|none=>true|some _=>false
theorem Bl{e:Nat}(h:Tn e=true):KL e=none:=by
 unfold Tn at h;split at h
 ·assumption
 ·cases h
def Uv(H:bP)(e i:Nat)(ds:aL):Bool:=ds.all (uqC H)&&(match KL e with|none=>true|some _=>ZQ H (tT e) i ds)
theorem Ob.QN(u:Bool)(e:TypeId)(sz:Nat)(rows:List aL):(Ob.row (x7 u) e sz rows).mvB=false:=by cases u<;>rfl
theorem Rd.flat{v:Value}{d:D}{bs:aW}(h:Rd w v d bs)(hf:d.flat=true):bs=[]:=by
 cases h<;>first|rfl|simp[D.flat]at hf
theorem PV{H:bP}{d e:D}{m:aW}(h:Tx H d=some (e,m)):
 (∃m0 o k rows,d=.acc m0/\H[m0]?=some o/\o.JA=some (k,rows)/\e=.sl rows/\m=[m0])\/(d.PI=true/\(∀i,d≠ .acc i)/\e=d.Bk/\m=[]):=by
 cases d with
 |acc m0=>
  simp only[Tx]at h;split at h
  ·rename_i k rows hH;simp only[aj,cY]at h;obtain⟨rfl,rfl⟩:=h;obtain⟨o,hH,ho⟩:=nY.1 hH;exact .inl ⟨m0,o,k,rows,rfl,hH,ho,rfl,rfl⟩
  ·cases h
 |ptr i o=>simp[Tx]at h
 |op i j s o=>simp[Tx]at h
 |_=>simp only[Tx,aj,cY]at h;obtain⟨rfl,rfl⟩:=h;exact .inr ⟨rfl,by simp,rfl,rfl⟩
theorem PW{H:bP}:∀ {ds es:aL} {ms:aW},Ho H ds=some (es,ms)->∀m∈ms,∃o k rows,H[m]?=some o/\o.JA=some (k,rows):=by
 intro ds
 induction ds with
 |nil=>intro es ms h;simp only[Ho,aj,cY]at h;obtain⟨rfl,rfl⟩:=h;simp
 |cons d ds ih=>
  intro es ms h;simp only[Ho]at h;split at h
  ·rename_i e m es' ms' h1 h2;simp only[aj,cY]at h;obtain⟨rfl,rfl⟩:=h;intro x hx;rcases aU.1 hx with hx|hx
   ·rcases PV h1 with⟨m0,o,k,dO,rfl,hH,hk,rfl,rfl⟩|⟨_,_,_,rfl⟩
    ·simp at hx;subst hx;exact⟨o,k,_,hH,hk⟩
    ·simp at hx
   ·exact ih h2 x hx
  ·cases h
theorem Vv{H:bP}{t':TypeId×Nat}{m:Nat}{o:Ob}(h:RU H (some t') (.acc m)=true)(hH:H[m]?=some o):o.tOf=some t':=by
 simp only[RU,hH,aA]at h;split at h
 ·rename_i t2 e;rw[e];simp only[aR,cV]at h;obtain⟨h1,h2⟩:=h;obtain⟨a1,a2⟩:=t2;obtain⟨c1,c2⟩:=t';simp only at h1 h2;rw[h1,h2]
 ·cases h
theorem ZP{H:bP}{t':TypeId×Nat}{d:D}{v:Value}{bs:aW}(h:RU H (some t') d=true)(hna:∀i,d≠ .acc i)(hr:Rd w v d bs):GL w t' v d.Bk bs:=by
 cases d with
 |acc i=>exact absurd rfl (hna i)
 |nil=>
  simp only[RU]at h;cases hr;exact .inr ⟨[],[],[],rfl,cq Nat.zero_lt_one (by simpa[Nat.blt]using h),by simp,World.ownsRow_nil w 0 _ _,.nil,by simp[Value.ownBlock]⟩
 |any=>cases hr;exact .inl ⟨rfl,rfl⟩
 |_=>simp[RU]at h
theorem Z0{H:bP}{ρ:Nat->Nat}{f:Nat->Option (TypeId×Nat)}:∀ {ds es:aL} {ms:aW} {vs:bZ} {b0:aW} (i:Nat),Ho H ds=some (es,ms)->ms.Nodup->fH w κ vs ds b0->(∀b∈b0,Θ b=0)->
 (∀m∈ms,∀o k rows,H[m]?=some o->o.JA=some (k,rows)->xz κ Θ ρ w m k rows o.tOf)->
 ∃bs,mR w vs es bs/\(∀b∈bs,Θ b=0)/\(ds.all (uqC H)=true->bs.Nodup/\∀b∈bs,∃m∈ms,ρ b=m+1)/\(ZQ H f i ds=true->wK w f i vs es bs):=by
 intro ds
 induction ds with
 |nil=>
  intro es ms vs b0 i h _ hr _ _;simp only[Ho,aj,cY]at h;obtain⟨rfl,rfl⟩:=h;cases hr;exact⟨[],.nil,by simp,by simp,fun _=>.nil _⟩
 |cons d ds ih=>
  intro es ms vs b0 i h hnd hr hz hm;simp only[Ho]at h;split at h
  ·rename_i e m es' ms' h1 h2;simp only[aj,cY]at h;obtain⟨rfl,rfl⟩:=h;obtain⟨n1,n2,n3⟩:=bH.1 hnd;cases hr with
   |cons v vs _ _ b1 b2 hv hc hcs=>
    obtain⟨Ya,q1,q2,q3,q7⟩:=ih (i+1) h2 n2 hcs (fun b hb=>hz b (by simp[hb])) (fun x hx=>hm x (by simp[hx]));have one:∃V5,Rd w v e V5/\(∀b∈V5,Θ b=0)/\(uqC H d=true->V5.Nodup/\∀b∈V5,∃x∈m,ρ b=x+1)/\(∀t,f i=some t->RU H (f i) d=true->GL w t v e V5):=by
     rcases PV h1 with⟨m0,o,k,dO,rfl,hH,hk,rfl,rfl⟩|⟨hp,hna,rfl,rfl⟩
     ·obtain⟨v',bs,r1,r2,r3,r4,r7⟩:=hm m0 (by simp) o k dO hH hk;cases hc with
      |pure hc=>cases hc
      |acc _ _ hkv=>
       rw[hkv]at r1;cases r1;refine⟨bs,r2,r3,fun hq=>?_,fun t ht hf=>r7 t (Vv (by rwa[ht]at hf) hH)⟩;simp only[uqC,hH,aA,hk]at hq;split at hq
       ·obtain⟨r5,r6⟩:=r4 rfl;exact⟨r5,fun b hb=>⟨m0,by simp,r6 b hb⟩⟩
       ·cases hq
     ·have hrd:Rd w v d b1:=by
       cases hc with
       |pure hc=>exact hc
       |acc i _ _=>exact absurd rfl (hna i)
       |ptr i o _ _=>simp[D.PI]at hp
       |op i j s o _ _ _ _ _=>simp[D.PI]at hp
      refine⟨b1,hrd.soft,fun b hb=>hz b (by simp[hb]),fun hq=>?_,fun t ht hf=>ZP (by rwa[ht]at hf) hna hrd⟩;have hf:d.flat=true:=by
       unfold uqC at hq;split at hq
       ·exact absurd rfl (hna _)
       ·exact hq
      rw[hrd.flat hf];exact⟨by simp,by simp⟩
    obtain⟨V5,p1,p2,p3,p7⟩:=one;refine⟨V5++Ya,.cons _ _ _ _ _ _ hv p1 q1,fun b hb=>?_,fun hq=>?_,fun hf=>?_⟩
    ·rcases aU.1 hb with hb|hb
     ·exact p2 b hb
     ·exact q2 b hb
    ·simp only[dD,aR]at hq;obtain⟨p4,p5⟩:=p3 hq.1;obtain⟨q4,q5⟩:=q3 hq.2;refine⟨bH.2 ⟨p4,q4,fun x hx y hy exy=>?_⟩,fun b hb=>?_⟩
     ·subst exy;obtain⟨m1,hm1,e1⟩:=p5 x hx;obtain⟨m2,hm2,e2⟩:=q5 x hy;exact n3 m1 hm1 m2 hm2 (by omega)
     ·rcases aU.1 hb with hb|hb
      ·obtain⟨x,hx,ex⟩:=p5 b hb;exact⟨x,by simp[hx],ex⟩
      ·obtain⟨x,hx,ex⟩:=q5 b hb;exact⟨x,by simp[hx],ex⟩
    ·simp only[ZQ,aR]at hf;exact .cons _ _ _ _ _ _ _ hv p1 (fun t ht=>p7 t ht hf.1) (q7 hf.2)
  ·cases h
theorem R6{H:bP}{ρ:Nat->Nat}{ds es:aL}{ms:aW}{vs:bZ}{b0:aW}(h:Ho H ds=some (es,ms))(hnd:ms.Nodup)(hr:fH w κ vs ds b0)(hz:∀b∈b0,Θ b=0)
 (hm:∀m∈ms,∀o k rows,H[m]?=some o->o.JA=some (k,rows)->xz κ Θ ρ w m k rows o.tOf) (e i:Nat:=0):
 ∃bs,mR w vs es bs/\(∀b∈bs,Θ b=0)/\(Uv H e i ds=true->bs.Nodup/\(∀b∈bs,∃m∈ms,ρ b=m+1)/\wK w (tT e) i vs es bs):=by
 obtain⟨bs,q1,q2,q3,q4⟩:=Z0 (f:=tT e) i h hnd hr hz hm;refine⟨bs,q1,q2,fun hq=>?_⟩;simp only[Uv,aR]at hq;obtain⟨p1,p2⟩:=q3 hq.1;refine⟨p1,p2,?_⟩;have h2:=hq.2;split at h2
 ·rename_i hn;exact .of q1 (wv hn)
 ·exact q4 h2
theorem wK.over{w':World}{Θ':Nat->Nat}{tag i:Nat}{f:Nat->Option (TypeId×Nat)}{vs:bZ}{ds:aL}{bs:aW}(h:wK w f i vs ds bs)(k:iF w w' Θ Θ' tag)(hz:∀b∈bs,Θ b=0):wK w' f i vs ds bs:=by
 have:=k.two;exact h.keep fun b hb=>k.block b (h.lt b hb) (by rw[hz b hb];omega)
theorem dV.put(hs:dV Γ st κ Θ a w){H':bP}{κ':Nat->Option Value}{Θ' ρ:Nat->Nat}{w':World}{id:Nat}{o:Ob}(ms:aW)
 (key:∀(j:Nat) x,H'[j]?=some x->(j=id/\x=o)\/(j≠id/\st.H[j]?=some x)) (hn:∀(j:Nat) v,κ j=some v->κ' j=some v)
 (hko:∀i,H'.length<=i->κ' i=none) (hk1:∀(i:Nat) u,κ' i=some u->u.oneCell'=true) (k:iF w w' Θ Θ' (id+2)) (hm:∀b,2<=Θ' b->xL Γ b) (ho:vh w' κ' Θ' id o)
 (hu:zF Γ st.H κ Θ w ρ) (Lu:∀m∈ms,∀x,m≠id->st.H[m]?=some x->x.SQ=false)
 (hq:∀e sz rows,o=.row .uq e sz rows->∃v cs bs,κ' id=some v/\w'.ownsRow 0 e sz v rows.length cs/\wK w' (tT e) 0 cs rows.flatten bs/\bs.Nodup/\∀b∈bs,ρ b=id+1\/∃m∈ms,ρ b=m+1)
 (hmv:o.mvB=false:=by first|rfl|exact Ob.QN _ _ _ _):
 dV Γ ⟨st.σ,H'⟩ κ' Θ' a w':=by
 have s8:=hs.nT k hn hu;let ρ':Nat->Nat:=fun b=>if ms.any (fun m=>ρ b==m+1)then id+1 else ρ b
 have a8f:∀b,ρ' b≠0->ρ b≠0:=by
  intro b hb h0;simp only[ρ',h0]at hb;split at hb
  ·rename_i h;obtain⟨m,_,hm⟩:=cz.1 h;simp at hm
  ·exact hb rfl
 refine hs.step k hm hn hko hk1 ?_ ⟨ρ',fun b hb=>s8.1 b (a8f b hb),?_,?_⟩
 ·intro j x hj;rcases key j x hj with⟨rfl,rfl⟩|⟨h1,h2⟩
  ·exact .inr (.inr ho)
  ·exact .inr (.inl ⟨by omega,h2⟩)
 ·intro j e sz rows hj;rcases key j _ hj with⟨rfl,ho'⟩|⟨h1,h2⟩
  ·obtain⟨v,cs,bs,q1,q2,q3,q4,q5⟩:=hq e sz rows ho'.symm;refine⟨v,cs,bs,q1,q2,q3,q4,fun b hb=>?_⟩;simp only[ρ'];split
   ·rfl
   ·rename_i hno;rcases q5 b hb with h|⟨m,hm1,hm2⟩
    ·exact h
    ·exact absurd (cz.2 ⟨m,hm1,by simp[hm2]⟩) hno
  ·obtain⟨v,cs,bs,q1,q2,q3,q4,q5⟩:=s8.2.1 j e sz rows (by omega) h2;refine⟨v,cs,bs,q1,q2,q3,q4,fun b hb=>?_⟩;simp only[ρ'];rw[b8]
   ·exact q5 b hb
   ·intro h;obtain⟨m,hm1,hm2⟩:=cz.1 h;simp only[q5 b hb,cV]at hm2;have:j=m:=by omega
    subst this;have:=Lu j hm1 _ h1 h2;simp[Ob.SQ]at this
 ·intro j x hj;rcases key j _ hj with⟨rfl,rfl⟩|⟨h1,h2⟩
  ·exact JQ.wF hmv
  ·by_cases hx:x.SQ=false
   ·exact JQ.plain hx
   ·refine(s8.2.2 j x (by omega) h2).re fun b hb=>?_
    simp only[ρ'];rw[b8]
    ·exact hb
    ·intro h;obtain⟨m,hm1,hm2⟩:=cz.1 h;simp only[hb,cV]at hm2;have:j=m:=by omega
     subst this;exact hx (Lu j hm1 _ h1 h2)
theorem zu{H:bP}{o:Ob}:∀(j:Nat) x,(H++[o])[j]?=some x->(j=H.length/\x=o)\/(j≠H.length/\H[j]?=some x):=by
 intro j x hj;by_cases hlt:j<H.length
 ·rw[av hlt]at hj;exact .inr ⟨by omega,hj⟩
 ·have hj':=(aF.1 hj).1;simp only[ar,aT,bW]at hj';have e:j=H.length:=by omega
  subst e;rw[az (bO _)]at hj;simp at hj;exact .inl ⟨rfl,hj.symm⟩
theorem wH{H:bP}{o:Ob}{id:Nat}:∀(j:Nat) x,(H.set id o)[j]?=some x->(j=id/\x=o)\/(j≠id/\H[j]?=some x):=by
 intro j x hj;by_cases e:id=j
 ·subst e;have hlt:id<H.length:=by
   have:=(aF.1 hj).1;simpa using this
  rw[dF hlt]at hj;cases hj;exact .inl ⟨rfl,rfl⟩
 ·rw[cE e]at hj;exact .inr ⟨fun h=>e h.symm,hj⟩
theorem dV.newRow(hs:dV Γ st κ Θ a w){ρ:Nat->Nat}(hu:zF Γ st.H κ Θ w ρ){u:Bool}{ms:aW}{e sz cap:Nat}{rows:List aL}{bs:aW}(cur:Array Value)(hsz:0<sz)(hrl:∀r∈rows,r.length=sz)
 (Lr:cur.size=cap*sz) (hn:rows.length<=cap) (hcap:cap<=maxLen) (hr:mR w (cur.toList.take (rows.length*sz)) rows.flatten bs) (hz:∀b∈bs,Θ b=0)
 (Lu:∀m∈ms,∀x,st.H[m]?=some x->x.SQ=false) (hq:u=true->bs.Nodup/\(∀b∈bs,∃m∈ms,ρ b=m+1)/\wK w (tT e) 0 (cur.toList.take (rows.length*sz)) rows.flatten bs):
 dV Γ ⟨st.σ,st.H++[.row (x7 u) e sz rows]⟩ (xD κ st.H.length (some (.slice (some ⟨w.heap.size,0,none⟩) rows.length cap))) (fun b=>if b=w.heap.size then st.H.length+2 else Θ b) a (w.alloc (.cells cur e)):=by
 have k:=iF.alloc hs (.cells cur e) (tag:=st.H.length+2) (by omega);obtain⟨h1,h2⟩:=mR.over k hr hz;have hlen:(cur.toList.take (rows.length*sz)).length=rows.length*sz:=by
  have:rows.length*sz<=cap*sz:=dW _ hn;have h3:cur.toList.length=cap*sz:=by rw[<-Lr];simp
  rw[bw,h3,fG this]
 have hown:(w.alloc (.cells cur e)).ownsRow 0 e sz (.slice (some ⟨w.heap.size,0,none⟩) rows.length cap) rows.length (cur.toList.take (rows.length*sz)):=
  ⟨hlen,.inr ⟨w.heap.size,cap,cur,rfl,by omega,heap_alloc_new w _,hn,hcap,Lr,rfl⟩⟩
 refine hs.put ms zu (wJ (hs.ol _ (bO _)) _) ?_ ?_ k (hs.yw (fun b hb=>by by_cases e:b=w.heap.size<;>simp_all)) ?_ hu (fun m hm x _=>Lu m hm x) ?_
 ·intro i hi;simp only[ar,aT,bW]at hi;unfold xD;rw[b8 (by omega)];exact hs.ol i (by omega)
 ·intro i x hx;unfold xD at hx;split at hx
  ·cases hx;rfl
  ·exact hs.o6 i x hx
 ·refine⟨hsz,hrl,_,_,bs,by simp[xD],hown,h1,?_,?_⟩
  ·intro g hg;simp only[Value.ownBlock,aj]at hg;subst hg;simp
  ·cases u<;>exact h2
 ·intro e' sz' dO he;cases u with
  |false=>simp[x7]at he
  |true=>
   simp only[x7,Ob.row.injEq,qt]at he;obtain⟨rfl,rfl,rfl⟩:=he;obtain⟨q1,q2,q3⟩:=hq rfl;exact⟨_,_,bs,by simp[xD],hown,q3.over k hz,q1,fun b hb=>.inr (q2 b hb)⟩
theorem Nw{o:Oper}{T e sz t:Nat}{x y:Operand}{k k':IntKind}{n:Int}{zs:aL}(hop:o.op=.makeSlice T x y)(hd:o.dst=some t)(hg:o.guard=none)(ht:t<Γ.nt)
 (hT:FH P T=some (e,sz)) (hz:tz P e=some zs) (hsz:0<sz) (hx:st.ev x=.int k n) (hy:st.ev y=.int k' n) (h0:0<=n) (hroom:YE P e*n.toNat<=281474976710656) (CS:n.toNat<=4611686018427387904)
 (h:AO P Γ all rest Q ⟨(t,.acc st.H.length)::st.σ,st.H++[.row (x7 (Tn e)) e sz (List.replicate n.toNat (zs.map D.Bk))]⟩):AO P Γ all (o::rest) Q st:=by
 intro κ Θ a w hs;obtain⟨b1,r1,_⟩:=hs.ev x;obtain⟨b2,r2,_⟩:=hs.ev y;rw[hx]at r1;rw[hy]at r2;have e1:=r1.ql;have e2:=r2.ql;obtain⟨hu,_,Io⟩:=oo hT;obtain⟨i,z,hi,xw,OL,hlen,hone,rfl⟩:=xF hz;have CR:i.size=sz:=by rw[<-Io];simp[z6,Program.cellsOf,hi]
 have hby:i.bytes=YE P e:=by simp[YE,Program.bytesOf,hi]
 obtain⟨m,rfl⟩:=nW h0;simp only[pU]at hroom CS h;have hrun:=run_make (P:=P) w T e i z hu hi xw k k' m m (by omega) (by omega) (by rw[hby];have:=Int.ofNat_le.2 hroom;rw[Int.natCast_mul]at this;exact this) (by omega);simp only[pU]at hrun;rw[<-OL]at hrun;have WO:=MA z.cells m;obtain⟨ρ,huq⟩:=hs.rR;have hrr:mR w ((madeCells z.cells (m*z.cells.size)).toList.take ((List.replicate m ((z.cells.toList.map D.QX).map D.Bk)).length*sz)) (List.replicate m ((z.cells.toList.map D.QX).map D.Bk)).flatten []:=by
  rw[Cv,kw (by simp[size_madeCells,OL,CR]),WO];have hcell:=(Bg (w:=w) (κ:=κ) z.cells.toList hone).pure (by
   rw[Hg,ai];intro c _;simp only[Function.comp];unfold D.QX;split<;>(try split)<;>rfl)
  exact hcell.soft.rep m
 have hs':=hs.newRow huq (u:=Tn e) (ms:=[]) (e:=e) (sz:=sz) (cap:=m) (rows:=List.replicate m ((z.cells.toList.map D.QX).map D.Bk)) (bs:=[]) (madeCells z.cells (m*z.cells.size)) hsz
  (by intro r hr;rw[AV hr];simp[OL,CR]) (by rw[size_madeCells,OL,CR]) (by simp) (by unfold maxLen;omega)
  hrr (by simp) (by simp) (fun hq=>⟨by simp,by simp,.of hrr (wv (Bl hq))⟩)
 refine wpList_plain hg fun K hK=>?_
 unfold Oper.wp;have Q9:(execOp a.eval o).run P w=.ok (.value (.slice (some ⟨w.heap.size,0,none⟩) m m)) (w.alloc (.cells (madeCells z.cells (m*z.cells.size)) e)):=by
  simp only[execOp,hop,e1,e2];simp[hrun]
 rw[Q9,Oper.upon_value,hd];simp only[Cv]at hs';refine hK _ _ (h _ _ _ _ (hs'.set (t:=t) (d:=.acc st.H.length) (bs:=[]) ht ?_ (by simp)));exact(yQ.acc st.H.length _ (by simp[xD])).Nk
def sZ(len sz:Nat):List (Nat×Nat):=(List.range len).map fun i=>(i*sz,sz)
def chunk(sz:Nat):Nat->aL->List aL
 |0,_=>[]
 |n+1,ds=>ds.take sz::chunk sz n (ds.drop sz)
theorem Dn(sz:Nat):∀(n:Nat) (ds:aL),ds.length=n*sz->(chunk sz n ds).length=n/\(chunk sz n ds).flatten=ds/\∀r∈chunk sz n ds,r.length=sz:=by
 intro n
 induction n with
 |zero=>intro ds h;simp at h;subst h;simp[chunk]
 |succ n ih=>
  intro ds h;rw[k7,nI]at h;obtain⟨h1,h2,h3⟩:=ih (ds.drop sz) (by rw[oT];omega);refine⟨by simp[chunk,h1],by simp[chunk,h2],fun r hr=>?_⟩;rcases bE.1 hr with rfl|hr
  ·rw[bw];omega
  ·exact h3 r hr
theorem RR{len sz:Nat}:∀(parts:List (Nat×Value)) (cs arr:Array Value),Instr.fill ((sZ len sz).toArray[·]?) cs parts=some arr->Instr.fill (fun i=>some (i*sz,sz)) cs parts=some arr:=by
 intro parts
 induction parts with
 |nil=>intro cs arr h;exact h
 |cons p parts ih=>
  intro cs arr h;obtain⟨i,v⟩:=p;simp only[Instr.fill]at h⊢;split at h
  ·cases h
  ·rename_i off size hp;have e:(off,size)=(i*sz,sz):=by
    simp only[sZ,hY,bu]at hp;cases hr:(List.range len)[i]? with
    |none=>simp[hr]at hp
    |some j=>
     have hj:=(aF.1 hr)
     simp only[hr,cU,aj]at hp;have:j=i:=by have:=hj.2;simp at this;omega
     rw[<-hp,this]
   cases e;split at h
   ·cases h
   ·rename_i hc;rw[b8 hc];exact ih _ _ h
theorem Oi{places:List (Nat×Nat)}:∀(ps:List (Nat×D)) (cells ds:aL),xk places cells ps=some ds->ds.length=cells.length:=by
 intro ps
 induction ps with
 |nil=>intro cells ds h;simp only[xk,aj]at h;rw[h]
 |cons p ps ih=>
  intro cells ds h;obtain⟨i,d⟩:=p;simp only[xk]at h;split at h
  ·split at h
   ·rename_i hc;rw[ih _ _ h];simp;omega
   ·cases h
  ·cases h
theorem zH{o:Oper}{T e sz len:Nat}{parts:Array (Nat×Operand)}{zs ds:aL}(hop:o.op=.buildSlice T len parts)
 (hT:FH P T=some (e,sz)) (hz:tz P e=some zs) (hsz:0<sz) (hsmall:len*sz<=16777216)
 (hf:xk (sZ len sz) (List.replicate len zs).flatten (parts.toList.map fun p=>(p.1,st.ev p.2))=some ds) (hs:dV Γ st κ Θ a w):
 ∃(arr:Array Value) (b0:aW),(execOp a.eval o).run P w=.ok (.value (.slice (some ⟨w.heap.size,0,none⟩) len len)) (w.alloc (.cells arr e))/\fH w κ arr.toList ds b0/\(∀b∈b0,Θ b=0)/\arr.size=len*sz/\ds.length=len*sz:=by
 obtain⟨hu,_,Io⟩:=oo hT;obtain⟨i,z,hi,xw,OL,hlen,hone,rfl⟩:=xF hz;have CR:i.size=sz:=by rw[<-Io];simp[z6,Program.cellsOf,hi]
 have WO:=MA z.cells len;have hzero:fH w κ (madeCells z.cells (len*z.cells.size)).toList (List.replicate len (z.cells.toList.map D.QX)).flatten []:=by
  rw[WO];have hcell:=(Bg (w:=w) (κ:=κ) z.cells.toList hone).pure (by
   rw[Hg,ai];intro c _;simp only[Function.comp];unfold D.QX;split<;>(try split)<;>rfl)
  exact fH.Co (hcell.rep len)
 obtain⟨arr,b0,a4r,Mv,hb0⟩:=T3 hs parts.toList _ _ ds [] hzero (by simp) hf;have RY:=RR _ _ _ a4r;have hdl:ds.length=len*sz:=by
  rw[Oi _ _ _ hf,nP (sz:=sz) (by intro r hr;rw[AV hr];simp[OL,CR])];simp
 have hal:arr.size=len*sz:=by have:=Mv.length;simp at this;omega
 refine⟨arr,b0,?_,Mv,hb0,hal,hdl⟩;simp only[execOp,hop];by_cases h0:len*i.size=0
 ·have hl0:len=0:=by
   rw[CR]at h0;rcases Nat.mul_eq_zero.1 h0 with h|h
   ·exact h
   ·omega
  subst hl0;have hma:madeCells z.cells (0*z.cells.size)= #[]:=by simp[madeCells]
  rw[hma]at RY;have hpe:(parts.map fun(x:Nat×Operand)=>(x.1,a.eval x.2)).toList=parts.toList.map fun p=>(p.1,a.eval p.2):=by simp
  have WG:=RY;rw[<-hpe,<-CR]at WG;simp at WG;have hr0:Array.range 0= #[]:=rfl;simp[Instr.buildSlice,run_underlying hu,sizeOf,typeInfo,hi,newRow,hr0,WG]
 ·have hpe:(parts.map fun(x:Nat×Operand)=>(x.1,a.eval x.2)).toList=parts.toList.map fun p=>(p.1,a.eval p.2):=by simp
  have:=run_buildSlice (P:=P) w T e len (parts.map fun(x:Nat×Operand)=>(x.1,a.eval x.2)) arr i z hu hi xw (by rw[CR];omega) h0 (by
   rw[hpe,CR];have e2:(Array.range (len*sz)).map (z.cells[· %z.cells.size]!)=madeCells z.cells (len*z.cells.size):=by unfold madeCells;rw[OL,CR]
   rw[e2];exact RY)
  simp[this]
theorem Mq{o:Oper}{T e sz len t:Nat}{parts:Array (Nat×Operand)}{zs ds es:aL}{ms:aW}(hop:o.op=.buildSlice T len parts)(hd:o.dst=some t)(hg:o.guard=none)(ht:t<Γ.nt)
 (hT:FH P T=some (e,sz)) (hz:tz P e=some zs) (hsz:0<sz) (hsmall:len*sz<=16777216)
 (hf:xk (sZ len sz) (List.replicate len zs).flatten (parts.toList.map fun p=>(p.1,st.ev p.2))=some ds) (habs:Ho st.H ds=some (es,ms)) (hnd:ms.Nodup)
 (h:AO P Γ all rest Q ⟨(t,.acc st.H.length)::st.σ,kill st.H ms++[.row (x7 (Uv st.H e 0 ds)) e sz (chunk sz len es)]⟩):AO P Γ all (o::rest) Q st:=by
 intro κ Θ a w hs;obtain⟨arr,b0,hrun,Mv,hb0,hal,hdl⟩:=zH hop hT hz hsz hsmall hf hs;obtain⟨ρ,huq⟩:=hs.rR;obtain⟨Θ1,ρ1,hs1,hu1,hm1,N7,R1⟩:=dV.QM ms hs huq hnd (PW habs);obtain⟨bs,q1,q2,q3⟩:=R6 (H:=st.H) (ρ:=ρ1) habs hnd Mv (fun b hb=>N7 b (hb0 b hb)) hm1 e 0;have hel:es.length=len*sz:=by rw[<-q1.length,Mv.length,hdl]
 obtain⟨c1,c2,c3⟩:=Dn sz len es hel;have hs':=hs1.newRow hu1 (u:=Uv st.H e 0 ds) (ms:=ms) (e:=e) (sz:=sz) (cap:=len) (rows:=chunk sz len es) (bs:=bs) arr hsz c3 hal (by rw[c1];exact bO _)
  (by unfold maxLen;have:len*1<=len*sz:=cr _ hsz;omega) (by rw[c1,c2,kw (by simp[hal])];exact q1) q2
  (by
   intro m hm x hH;rcases oG hH with h|⟨h,_⟩
   ·subst h;rfl
   ·exact absurd hm h) (fun hq=>⟨(q3 hq).1,(q3 hq).2.1,by rw[c1,c2,kw (by simp[hal])];exact(q3 hq).2.2⟩)
 refine wpList_plain hg fun K hK=>?_
 unfold Oper.wp;rw[hrun,Oper.upon_value,hd];rw[c1,fX]at hs';refine hK _ _ (h _ _ _ _ (hs'.set (t:=t) (d:=.acc st.H.length) (bs:=[]) ht ?_ (by simp)));exact(yQ.acc st.H.length _ (by simp[xD])).Nk
end
end Go.Cx
namespace Go.Cx
open Go.RowKit
section
variable{P:Program}{Γ:tZ}{Q:Exit->St->Prop}{st:St}{κ:Nat->Option Value}{Θ:Nat->Nat}{a:Act}{w:World}{all:Array Oper}{rest:List Oper}
theorem Ku(w:World)(t ty e:TypeId)(i:TypeInfo)(ht:P.underlying t=some (.slice e))(hi:P.info? e=some i)(b:Option Addr)(n cap:Nat)(hn:n<=cap):
 (Builtin.append_ #[t,t] ty #[.slice b n cap,.slice none 0 0]).run P w=.ok (.slice b n cap) w:=by
 cases b<;>simp[Builtin.append_,run_underlying ht,sizeOf,typeInfo,hi,Builtin.lenOf,Builtin.firstCells,hn,storeCells]
structure VT(w:World)(Θ ρ:Nat->Nat)(e sz:Nat)(v:Value)(rows:List (List D))(u1:Bool)(i1:Nat)(bs:List Nat)(cs:List Value):Prop where
 rl:∀r∈rows,r.length=sz
 own:w.ownsRow 0 e sz v rows.length cs
 rd:mR w cs rows.flatten bs
 zero:∀b∈bs,Θ b=0
 top:∀g,v.ownBlock=some g->Θ g=i1+2
 uq:u1=true->bs.Nodup/\∀b∈bs,ρ b=i1+1
 ful:u1=true->wK w (tT e) 0 cs rows.flatten bs
structure Nz(w:World)(Θ ρ:Nat->Nat)(e sz:Nat)(u:Value)(rows:List (List D))(u2:Bool)(i2:Nat)(bs:List Nat)(cs:List Value):Prop where
 rl:∀r∈rows,r.length=sz
 at_:(u=.slice none 0 0/\rows=[])\/∃ad c,u=.slice (some ad) rows.length c/\∀j x,cs[j]?=some x->w.cell? (ad.add j)=some x
 rd:mR w cs rows.flatten bs
 zero:∀b∈bs,Θ b=0
 uq:u2=true->bs.Nodup/\∀b∈bs,ρ b=i2+1
 ful:u2=true->wK w (tT e) 0 cs rows.flatten bs
theorem RA{T e sz i1 i2:Nat}{v u:Value}{rows dJ:List aL}{u1 u2:Bool}{b1 b2:aW}{c1 c2:bZ}{ρ:Nat->Nat}{zs:aL}{ty:TypeId}(hT:FH P T=some (e,sz))(hz:tz P e=some zs)(hsz:0<sz)
 (hS:VT w Θ ρ e sz v rows u1 i1 b1 c1) (hX:Nz w Θ ρ e sz u dJ u2 i2 b2 c2) (h63:rows.length+dJ.length<=maxLen) (hby:(rows.length+dJ.length)*YE P e<=140737488355328):
 ∃v' w',(Builtin.append_ #[T,T] ty #[v,u]).run P w=.ok v' w'/\w'.ownsRow 0 e sz v' (rows++dJ).length (c1++c2)/\w.grownBy w' v.ownBlock/\(v'.ownBlock=v.ownBlock\/v'.ownBlock=some w.heap.size)/\
  mR w (c1++c2) (rows++dJ).flatten (b1++b2):=by
 obtain⟨hu,_,Io⟩:=oo hT;obtain⟨i,z,hi,xw,OL,hlen,hone,rfl⟩:=xF hz;have CR:i.size=sz:=by rw[<-Io];simp[z6,Program.cellsOf,hi]
 have hib:i.bytes=YE P e:=by simp[YE,Program.bytesOf,hi]
 have hr:mR w (c1++c2) (rows++dJ).flatten (b1++b2):=by rw[jF];exact hS.rd.app hX.rd
 have zi:c2.length=dJ.length*sz:=by rw[hX.rd.length,nP hX.rl]
 rcases hX.at_ with⟨rfl,rfl⟩|⟨ad,c,rfl,hcell⟩
 ·have hc:c2=[]:=cO (by simpa using zi);subst hc;have hv:∃b n cap,v=.slice b n cap/\n<=cap:=by
   rcases hS.own.2 with⟨rfl,_⟩|⟨g,cap,cur,rfl,_,_,hn,_⟩
   ·exact⟨_,_,_,rfl,bO _⟩
   ·exact⟨_,_,_,rfl,hn⟩
  obtain⟨b,n,cap,rfl,hn⟩:=hv;exact⟨_,w,Ku w T ty e i hu hi b n cap hn,by simpa using hS.own,⟨rfl,rfl,rfl,bO _,fun _ _ _=>rfl⟩,.inl rfl,hr⟩
 ·obtain⟨v',w',q1,q2,q3,_,q5⟩:=run_append_own_at (P:=P) w 0 T ty e i z sz (YE P e) hu hi xw CR hib (by rw[OL,CR]) hsz v rows.length c1 hS.own ad dJ.length c c2 zi hcell hX.rd.one h63 hby (Di _);exact⟨v',w',q1,by simpa using q2,q3,q5,hr⟩
theorem Ts{o:Oper}{T e sz t:Nat}{s x:Operand}{rows dJ:List aL}{zs:aL}{u:Bool}{ks:aW}(hop:o.op=.call {callee:=.builtin .append,args:= #[s,x],argTypes:= #[T,T]})
 (hd:o.dst=some t) (hg:o.guard=none) (ht:t<Γ.nt) (hT:FH P T=some (e,sz)) (hz:tz P e=some zs) (hsz:0<sz)
 (h63:rows.length+dJ.length<=maxLen) (hby:(rows.length+dJ.length)*YE P e<=140737488355328)
 (hin:∀κ Θ a w ρ,dV Γ st κ Θ a w->zF Γ st.H κ Θ w ρ->∃u1 u2 i1 i2 b1 b2 c1 c2,VT w Θ ρ e sz (a.eval s) rows u1 i1 b1 c1/\Nz w Θ ρ e sz (a.eval x) dJ u2 i2 b2 c2/\
  (i1∈ks\/i1=st.H.length)/\(u=true->u1=true/\u2=true/\(b2=[]\/(i2∈ks/\i1≠i2))/\UB e sz=true))
 (h:AO P Γ all rest Q ⟨(t,.acc st.H.length)::st.σ,kill st.H ks++[.row (x7 u) e sz (rows++dJ)]⟩):AO P Γ all (o::rest) Q st:=by
 intro κ Θ a w hs;obtain⟨ρ,hu⟩:=hs.rR;obtain⟨u1,u2,i1,i2,b1,b2,c1,c2,hS,hX,hi1,hq⟩:=hin κ Θ a w ρ hs hu;obtain⟨v',w',hrun,hown,hgr,L3,hrd⟩:=RA (P:=P) (ty:=o.type) hT hz hsz hS hX h63 hby;refine wpList_plain hg fun K hK=>?_
 have Q9:(execOp a.eval o).run P w=.ok (.value v') w':=by
  simp only[execOp,hop,resolve,invoke,builtin,Sem.run_bind,Sem.run_pure,Result.andThen_ok,oU,ay,bt,hrun]
 unfold Oper.wp;rw[Q9,Oper.upon_value,hd];let id:=st.H.length
 let Θ':Nat->Nat:=fun b=>if some b=v'.ownBlock then id+2 else Θ b
 have Yh:∀g,v'.ownBlock=some g->Θ g=i1+2\/g=w.heap.size:=by
  intro g UF;rcases L3 with h|h
  ·exact .inl (hS.top g (h▸UF))
  ·rw[h]at UF;cases UF;exact .inr rfl
 have hnew:Θ w.heap.size=0:=by
  cases h0:Θ w.heap.size with
  |zero=>rfl
  |succ n=>exact absurd (hs.own w.heap.size (by omega)) (by omega)
 have k:iF w w' Θ Θ' (i1+2):=by
  refine⟨by omega,hgr.os,hgr.tape,hgr.output,hgr.size,fun b hb hne=>hgr.block b hb (fun e=>hne (hS.top b e.symm)),fun b hb hne=>?_,fun b hb=>?_⟩
  ·simp only[Θ'];rw[b8];intro e;rcases Yh b e.symm with h|h
   ·exact hne h
   ·omega
  ·simp only[Θ']at hb;split at hb
   ·rename_i e;exact(hown.lt b e.symm).2
   ·exact cq (hs.own b hb) hgr.size
 have hm:∀b,2<=Θ' b->xL Γ b:=by
  intro b hb;simp only[Θ']at hb;split at hb
  ·rename_i e;rcases Yh b e.symm with h|h
   ·exact hs.mine b (by omega)
   ·exact .inl (by rw[h];exact hs.base)
  ·exact hs.mine b hb
 have hn:=wJ (hs.ol id (bO _)) (some v');have hv1:v'.oneCell'=true:=by
  rcases hown.2 with⟨rfl,_⟩|⟨g,cap,cur,rfl,_⟩<;>rfl
 have xw:∀b∈b1++b2,Θ b=0:=by
  intro b hb;rcases aU.1 hb with hb|hb
  ·exact hS.zero b hb
  ·exact hX.zero b hb
 obtain⟨N0,Mm⟩:=mR.over k hrd xw;have hrl:∀r∈rows++dJ,r.length=sz:=by
  intro r hr;rcases aU.1 hr with hr|hr
  ·exact hS.rl r hr
  ·exact hX.rl r hr
 have Eg:∀g,v'.ownBlock=some g->Θ' g=id+2:=fun g UF=>by simp only[Θ'];rw[bL UF.symm]
 have key:∀(j:Nat) y,(kill st.H ks++[.row (x7 u) e sz (rows++dJ)])[j]?=some y->(j=id/\y=.row (x7 u) e sz (rows++dJ))\/(j≠id/\(y=.gone\/(j∉ks/\st.H[j]?=some y))):=by
  intro j y hj;rcases zu j y hj with⟨h1,h2⟩|⟨h1,h2⟩
  ·rw[fX]at h1;exact .inl ⟨h1,h2⟩
  ·rw[fX]at h1;exact .inr ⟨h1,oG h2⟩
 have hne:∀(j:Nat) y,j∉ks->st.H[j]?=some y->j+2≠i1+2:=by
  intro j y hj hy;have:=(aF.1 hy).1;rcases hi1 with h|h
  ·intro e;exact hj (by
    have:j=i1:=by omega
    rw[this];exact h)
  ·omega
 have s8:=hs.nT k hn hu;let ρ':Nat->Nat:=fun b=>if u=true/\(b∈b1\/b∈b2)then id+1 else ρ b
 have hold:∀(j:Nat) y,j∉ks->st.H[j]?=some y->∀b,ρ b=j+1->ρ' b=j+1:=by
  intro j y hjk hy b hb;simp only[ρ'];rw[b8]
  ·exact hb
  ·rintro⟨vV,hmem⟩;obtain⟨p1,p2,p3,_⟩:=hq vV;rcases hmem with h|h
   ·have:=(hS.uq p1).2 b h;exact hne j _ hjk hy (by omega)
   ·have:=(hX.uq p2).2 b h;rcases p3 with h0|⟨h0,_⟩
    ·rw[h0]at h;cases h
    ·have:j=i2:=by omega
     subst this;exact hjk h0
 have hU:zF Γ (kill st.H ks++[.row (x7 u) e sz (rows++dJ)]) (xD κ id (some v')) Θ' w' ρ':=by
  refine⟨fun b hb=>?_,fun j e' sz' dO hj=>?_,fun j x hj=>?_⟩
  ·simp only[ρ']at hb;split at hb
   ·rename_i hc;obtain⟨vV,hmem⟩:=hc;obtain⟨q1,q2,q3,_⟩:=hq vV;rcases hmem with h|h
    ·exact s8.1 b (by rw[(hS.uq q1).2 b h];omega)
    ·exact s8.1 b (by rw[(hX.uq q2).2 b h];omega)
   ·exact s8.1 b hb
  ·rcases key j _ hj with⟨rfl,hy⟩|⟨_,hy|⟨hjk,hy⟩⟩
   ·cases vV:u with
    |false=>rw[vV]at hy;simp[x7]at hy
    |true=>
     rw[vV]at hy;simp only[x7,Ob.row.injEq,qt]at hy;obtain⟨rfl,rfl,rfl⟩:=hy;obtain⟨q1,q2,q3,q8⟩:=hq vV;have hF:wK w (tT e') 0 (c1++c2) (rows++dJ).flatten (b1++b2):=by
      rw[jF];refine(hS.ful q1).app ?_;rw[nP hS.rl];exact(hX.ful q2).rows q8
     refine⟨v',c1++c2,b1++b2,jD _ _ _,hown,hF.over k xw,?_,fun b hb=>?_⟩
     ·obtain⟨n1,r1⟩:=hS.uq q1;obtain⟨n2,r2⟩:=hX.uq q2;refine bH.2 ⟨n1,n2,fun y hy z hz hyz=>?_⟩;subst hyz;rcases q3 with h|⟨_,h⟩
      ·rw[h]at hz;cases hz
      ·have:=r1 y hy;have:=r2 y hz;omega
     ·simp only[ρ'];rw[bL ⟨vV,aU.1 hb⟩]
   ·cases hy
   ·obtain⟨v2,cs,bs,q1,q2,q3,q4,q5⟩:=s8.2.1 j e' sz' dO (hne j _ hjk hy) hy;exact⟨v2,cs,bs,q1,q2,q3,q4,fun b hb=>hold j _ hjk hy b (q5 b hb)⟩
  ·rcases key j _ hj with⟨rfl,hy⟩|⟨_,hy|⟨hjk,hy⟩⟩
   ·subst hy;exact JQ.wF (Ob.QN _ _ _ _)
   ·subst hy;trivial
   ·exact(s8.2.2 j x (hne j _ hjk hy) hy).re fun b hb=>hold j _ hjk hy b hb
 have hs':dV Γ ⟨st.σ,kill st.H ks++[.row (x7 u) e sz (rows++dJ)]⟩ (xD κ id (some v')) Θ' a w':=by
  refine hs.step k hm hn ?_ ?_ ?_ ⟨ρ',hU⟩
  ·intro i hi;simp only[ar,aT,bW,fX]at hi;unfold xD;rw[b8 (by omega)];exact hs.ol i (by omega)
  ·intro i y hy;unfold xD at hy;split at hy
   ·cases hy;exact hv1
   ·exact hs.o6 i y hy
  ·intro j y hj;rcases key j y hj with⟨rfl,rfl⟩|⟨_,hy|⟨hjk,hy⟩⟩
   ·exact .inr (.inr ⟨hsz,hrl,v',_,_,jD _ _ _,hown,N0,Eg,by cases u<;>exact Mm⟩)
   ·exact .inl hy
   ·exact .inr (.inl ⟨hne j y hjk hy,hy⟩)
 refine hK _ _ (h _ _ _ _ (hs'.set (t:=t) (d:=.acc id) (bs:=[]) ht ?_ (by simp)));exact(yQ.acc id _ (jD _ _ _)).Nk
def D.lK(rows:List aL):Bool:=rows.all fun r=>r.all D.flat
theorem mR.flat{vs:bZ}{ds:aL}{bs:aW}(h:mR w vs ds bs)(hf:ds.all D.flat=true):bs=[]:=by
 induction ds generalizing vs bs with
 |nil=>cases h;rfl
 |cons d ds ih=>
  simp only[dD,aR]at hf;cases h with
  |cons v vs _ _ b1 b2 h1 h2 h3=>rw[h2.flat hf.1,ih h3 hf.2];rfl
theorem Vb{e sz i1:Nat}{ρ:Nat->Nat}:VT w Θ ρ e sz (.slice none 0 0) [] true i1 [] []:=
 ⟨by simp,World.ownsRow_nil w 0 e sz,.nil,by simp,by simp[Value.ownBlock],by simp,fun _=>.nil _⟩
theorem Hq{ρ:Nat->Nat}(hs:dV Γ st κ Θ a w)(hu:zF Γ st.H κ Θ w ρ){id e sz:Nat}{k:RK}{rows:List aL}{v:Value}(hk:κ id=some v)(hH:st.H[id]?=some (.row k e sz rows))(ho:k.Oh=true):
 ∃bs cs,VT w Θ ρ e sz v rows k.ub id bs cs:=by
 obtain⟨_,hrl,v2,cs,bs,hk2,hown,qk,hΘ,hz⟩:=hs.ob id _ hH;rw[hk]at hk2;cases hk2;cases k with
 |cl=>simp[RK.Oh]at ho
 |sh=>exact⟨bs,cs,hrl,hown,qk,hz,hΘ,by simp[RK.ub],by simp[RK.ub]⟩
 |mv n=>exact⟨bs,cs,hrl,hown,qk,hz,hΘ,by simp[RK.ub],by simp[RK.ub]⟩
 |ho p n=>
  obtain⟨v2,c2,b2,q1,q2,q3,q4,q5,_⟩:=hu.more id _ hH;rw[hk]at q1;cases q1;exact⟨b2,c2,hrl,q2,q3.rd,fun b hb=>(hu.free b (by rw[q5 b hb];omega)).1,hΘ,fun _=>⟨q4,q5⟩,fun _=>q3⟩
 |uq=>
  obtain⟨v2,c2,b2,q1,q2,q3,q4,q5⟩:=hu.rows id e sz rows hH;rw[hk]at q1;cases q1;exact⟨b2,c2,hrl,q2,q3.rd,fun b hb=>(hu.free b (by rw[q5 b hb];omega)).1,hΘ,fun _=>⟨q4,q5⟩,fun _=>q3⟩
theorem PY{ρ:Nat->Nat}(hs:dV Γ st κ Θ a w)(hu:zF Γ st.H κ Θ w ρ){id e sz:Nat}{k:RK}{rows:List aL}{v:Value}(hk:κ id=some v)(hH:st.H[id]?=some (.row k e sz rows))(ho:k.Oh=true):
 ∃bs cs,Nz w Θ ρ e sz v rows k.ub id bs cs:=by
 obtain⟨bs,cs,h⟩:=Hq hs hu hk hH ho;refine⟨bs,cs,h.rl,?_,h.rd,h.zero,h.uq,h.ful⟩;rcases h.own.2 with⟨rfl,hn⟩|⟨g,cap,cur,rfl,_⟩
 ·exact .inl ⟨rfl,cO hn⟩
 ·exact .inr ⟨_,cap,rfl,h.own.cells (g:=g) (by simp[Value.ownBlock])⟩
theorem Nz.sh{e e' sz:Nat}{ρ:Nat->Nat}{u:Value}{rows:List aL}{i:Nat}{bs:aW}{cs:bZ}(h:Nz w Θ ρ e' sz u rows false i bs cs):Nz w Θ ρ e sz u rows false i bs cs:=
 ⟨h.rl,h.at_,h.rd,h.zero,h.uq,by simp⟩
theorem Vc{e sz i2:Nat}{ρ:Nat->Nat}:Nz w Θ ρ e sz (.slice none 0 0) [] true i2 [] []:=
 ⟨by simp,.inl ⟨rfl,rfl⟩,.nil,by simp,by simp,fun _=>.nil _⟩
theorem Z3{ρ:Nat->Nat}{v:Value}{rows:List aL}{bs:aW}{sz:Nat}(h:Rd w v (.sl rows) bs)(hz:∀b∈bs,Θ b=0)(hrl:∀r∈rows,r.length=sz)(i2:Nat)(fl:Bool)(hf:fl=true->D.lK rows=true)(e:Nat)(he:fl=true->KL e=none):
 ∃b2 cs,Nz w Θ ρ e sz v rows fl i2 b2 cs/\(fl=true->b2=[]):=by
 cases h with
 |wI=>exact⟨[],[],⟨by simp,.inl ⟨rfl,rfl⟩,.nil,by simp,by simp,fun _=>.nil _⟩,by simp⟩
 |lP ad cap hc=>exact⟨[],[],⟨by simp,.inr ⟨ad,cap,rfl,by simp⟩,.nil,by simp,by simp,fun _=>.nil _⟩,by simp⟩
 |sl b off cap sz' _ cs bs' h0 h1 h2 h3 h4 h5=>
  have hfl:fl=true->bs'=[]:=fun e=>h5.flat (by
   have:=hf e;unfold D.lK at this;rw[ai]at this⊢;intro d hd;obtain⟨r,hr,GS⟩:=fF.1 hd;exact ai.1 (this r hr) d GS)
  refine⟨bs',cs,⟨hrl,.inr ⟨_,cap,rfl,fun j x hj=>?_⟩,h5,fun y hy=>hz y (by simp[hy]),fun e=>by rw[hfl e];simp,fun e=>.of h5 (wv (he e))⟩,hfl⟩;have:=h4 j x hj;simpa[Addr.add_lit]using this
end
end Go.Cx
namespace Go.Cx
open Go.RowKit
section
variable{P:Program}{Γ:tZ}{Q:Exit->St->Prop}{st:St}{κ:Nat->Option Value}{Θ:Nat->Nat}{a:Act}{w:World}{all:Array Oper}{rest:List Oper}
theorem gC{H:bP}{ms:aW}{j:Nat}(h:j∉ms):(kill H ms)[j]?=H[j]?:=by
 induction ms generalizing H with
 |nil=>rfl
 |cons m ms ih=>
  simp only[bE,AX]at h;simp only[kill];rw[ih h.2,cE (fun e=>h.1 e.symm)]
def RK.after(k:RK)(b:Bool):RK:=match k with
 | .uq=>x7 b
 | .mv _=>.sh
 | .ho _ _=>x7 b
 |k=>k
theorem RK.Ty(k:RK)(b:Bool)(e:TypeId)(sz:Nat)(rows:List aL):(Ob.row (k.after b) e sz rows).mvB=false:=by cases k<;>cases b<;>rfl
theorem PL{o:Oper}{T id i sz off e:Nat}{k0:RK}{x y:Operand}{rows:List aL}{row ds es:aL}{ms:aW}(hop:o.op=.store T x y)(hd:o.dst=none)(hg:o.guard=none)
 (hx:st.ev x=.op id i sz off) (hH:st.H[id]?=some (.row k0 e sz rows)) (hk0:k0.Oh=true) (hrow:rows[i]?=some row) (hc:(st.ev y).cellsOf=some ds) (habs:Ho st.H ds=some (es,ms)) (hnd:ms.Nodup) (hid:id∉ms)
 (hT:P5 P T=true) (hl:ds.length=z6 P T) (hfit:off+ds.length<=sz)
 (h:AO P Γ all rest Q ⟨st.σ,(kill st.H ms).set id (.row (k0.after (Uv st.H e off ds&&UB e sz)) e sz (rows.set i (row.take off++es++row.drop (off+ds.length))))⟩):AO P Γ all (o::rest) Q st:=by
 intro κ Θ0 a w hs0;obtain⟨b1,r1,_⟩:=hs0.ev x;obtain⟨b20,r2,a8d⟩:=hs0.ev y;rw[hx]at r1;obtain⟨g,o0,len,cap,hk,hv⟩:=r1.Et;have hcv:=B4 hs0.o6 r2 hc;obtain⟨ρ0,ZW⟩:=hs0.rR;obtain⟨Θ,ρ,hs,hu,hm1,N7,R1⟩:=dV.QM ms hs0 ZW hnd (PW habs);obtain⟨b2,hcp,Ro,Hf⟩:=R6 (H:=st.H) (ρ:=ρ) habs hnd hcv (fun b hb=>N7 b (a8d b hb)) hm1 e off;have Ml:(kill st.H ms)[id]?=some (.row k0 e sz rows):=by rw[gC hid];exact hH
 obtain⟨bs,cs,hA⟩:=Hq hs hu hk Ml hk0;have hrl:=hA.rl;have hown:=hA.own;have VA:=yp hown;subst VA;rw[cN]at hv;have qk:=hA.rd;have hsz:0<sz:=by
  obtain⟨hsz,_⟩:=hs.ob id _ Ml;exact hsz
 rcases hown.2 with⟨tu,_⟩|⟨g',cap2,cur,hkv,hb,OG,hnc,hcm,hcs,QA⟩
 ·cases tu
 ·cases hkv;have ON:=hA.top g (by simp[Value.ownBlock]);have hl1:=hcv.length;have hle:es.length=ds.length:=by rw[<-hcp.length,hl1]
  have hilt:i<rows.length:=(aF.1 hrow).1;have a2S:(i+1)*sz<=rows.length*sz:=dW _ hilt;have aAz:rows.length*sz<=cap*sz:=dW _ hnc;rw[k7,nI]at a2S;have a2f:(a.eval y).cells.size=z6 P T:=by rw[<-hl,<-hl1];simp
  have aBC:(a.eval y).cells.size=ds.length:=by rw[<-hl1];simp
  have hst:=Ev (P:=P) (T:=T) (off:=i*sz+off) OG a2f (eN.1 hT) (by omega) hcv.one;have k:=iF.setRow hs (g:=g) (cs:=(cur.toList.take (i*sz+off)++(a.eval y).cells.toList++cur.toList.drop (i*sz+off+(a.eval y).cells.toList.length)).toArray) (tag:=id+2) (by omega) ON;refine wpList_plain hg fun K hK=>?_
  unfold Oper.wp;have hrun:(execOp a.eval o).run P w=.ok .skip (w.setRow g (cur.toList.take (i*sz+off)++(a.eval y).cells.toList++cur.toList.drop (i*sz+off+(a.eval y).cells.toList.length)).toArray):=by
   simp only[execOp,hop,hv];simp[hst]
  rw[hrun,Oper.upon_skip,hd];have hfl:=nP hrl;have e0:rows.flatten=rows.flatten.take (i*sz+off)++((rows.flatten.drop (i*sz+off)).take ds.length++(rows.flatten.drop (i*sz+off)).drop ds.length):=by rw[cJ,cJ]
  rw[e0]at qk;obtain⟨v1,v2,c1,c2,Kr,Df,k1,k2⟩:=qk.split;obtain⟨v3,v4,c3,c4,rfl,rfl,k3,k4⟩:=k2.split;have l1:v1.length=i*sz+off:=by rw[k1.length,bw];omega
  have l3:v3.length=ds.length:=by rw[k3.length,bw,oT];omega
  rw[fe]at k4;have hnew:=(k1.app hcp).app k4;have Mm:∀b∈((c1++b2)++c4),Θ b=0:=by
   intro b hb;simp only[aU]at hb;rcases hb with(hb|hb)|hb
   ·exact hA.zero b (by rw[Df];simp[hb])
   ·exact Ro b hb
   ·exact hA.zero b (by rw[Df];simp[hb])
  obtain⟨n1,n2⟩:=mR.over k hnew Mm;have hfs:=Ea (ds:=es) (off:=off) hrl hrow (by omega);rw[hle]at hfs;rw[<-hfs]at n1;have WA:cs.length=rows.length*sz:=hown.1;have a4o:cur.toList=v1++(v3++(v4++cur.toList.drop (rows.length*sz))):=by
   have:cur.toList=cs++cur.toList.drop (rows.length*sz):=by rw[<-QA,cJ]
   rw[Kr]at this;simpa using this
  have t1:cur.toList.take (i*sz+off)=v1:=by rw[a4o];exact ic l1
  have t2:cur.toList.drop (i*sz+off+(a.eval y).cells.toList.length)=v4++cur.toList.drop (rows.length*sz):=by
   rw[hl1,<-fe]
   conv=>lhs;rw[a4o]
   rw[fc l1,fc l3]
  have hl4:(v1++(a.eval y).cells.toList++v4).length=rows.length*sz:=by
   have:=WA;rw[Kr]at this;simp only[ar]at this⊢;omega
  have Cm:(w.setRow g (cur.toList.take (i*sz+off)++(a.eval y).cells.toList++cur.toList.drop (i*sz+off+(a.eval y).cells.toList.length)).toArray).ownsRow 0 e sz (.slice (some ⟨g,0,none⟩) rows.length cap)
   (rows.set i (row.take off++es++row.drop (off+ds.length))).length (v1++(a.eval y).cells.toList++v4):=by
   refine⟨by simpa using hl4,.inr ⟨g,cap,_,by simp,hb,setRow_heap w g cur _ e _ OG,by simpa using hnc,hcm,?_,?_⟩⟩
   ·simp only[vc,ar,bw,oT,uI];omega
   ·rw[t1,t2];simp only[eR];rw[<-cc];exact ic hl4
  have Il:∀r∈rows.set i (row.take off++es++row.drop (off+ds.length)),r.length=sz:=by
   intro r hr;rcases mI hr with hr|rfl
   ·exact hrl r hr
   ·have:=hrl row (aD hrow);simp;omega
  have Eg:∀g2,(Value.slice (some ⟨g,0,none⟩) rows.length cap).ownBlock=some g2->Θ g2=id+2:=by
   intro g2 TA;simp only[Value.ownBlock,aj]at TA;subst TA;exact ON
  refine hK _ _ (h _ _ _ _ (hs.put ms wH (fun _ _ h=>h) (fun i hi=>hs.ol i (by simpa using hi)) hs.o6 k hs.mine ?_ hu ?_ ?_ (RK.Ty _ _ _ _ _)))
  ·refine⟨hsz,Il,_,_,_,hk,Cm,n1,Eg,?_⟩;cases k0 with
   |cl=>simp[RK.Oh]at hk0
   |sh=>exact n2
   |mv n=>exact n2
   |ho p n=>simp only[RK.after];cases(Uv st.H e off ds&&UB e sz)<;>exact n2
   |uq=>simp only[RK.after];cases(Uv st.H e off ds&&UB e sz)<;>exact n2
  ·intro m hm x _ DY;rcases oG DY with h|⟨h,_⟩
   ·subst h;rfl
   ·exact absurd hm h
  ·intro e' sz' dO he;cases k0
   case cl=>simp[RK.Oh]at hk0
   case sh=>simp[RK.after]at he
   case mv n=>simp[RK.after]at he
   all_goals
    simp only[RK.after]at he;cases hq:(Uv st.H e off ds&&UB e sz)with
    |false=>rw[hq]at he;simp[x7]at he
    |true=>
     rw[hq]at he;simp only[x7,Ob.row.injEq,qt]at he;obtain⟨rfl,rfl,rfl⟩:=he;rw[aR]at hq;obtain⟨q1,q2,q7⟩:=Hf hq.1;obtain⟨p1,p2⟩:=hA.uq rfl;have hA7:=hA.ful rfl;rw[e0]at hA7;obtain⟨x1,x2,y1,y2,ex,ey,s1,s2⟩:=hA7.split;obtain⟨x3,x4,y3,y4,rfl,rfl,s3,s4⟩:=s2.split;rw[Kr]at ex;obtain⟨rfl,ex2⟩:=List.append_inj ex (by rw[s1.length,k1.length]);obtain⟨rfl,rfl⟩:=List.append_inj ex2 (by rw[s3.length,k3.length]);have t1':(rows.flatten.take (i*sz+off)).length=i*sz+off:=by rw[<-k1.length];exact l1
     have t3':((rows.flatten.drop (i*sz+off)).take ds.length).length=ds.length:=by rw[<-k3.length];exact l3
     rw[fe]at s4;have q8:=q7.rows (n:=i) hq.2;have hF:=(s1.app (by rw[t1'];rwa[show 0+(i*sz+off)=off+i*sz by omega])).app (us:=v4) (es:=rows.flatten.drop (i*sz+off+ds.length)) (cs:=y4) (by rw[ar,t1',hle];rwa[t1',t3',kj]at s4);rw[<-hfs]at hF;have hz7:∀b∈((y1++b2)++y4),Θ b=0:=by
      intro b hb;simp only[aU]at hb;rcases hb with(hb|hb)|hb
      ·exact hA.zero b (by rw[ey];simp[hb])
      ·exact Ro b hb
      ·exact hA.zero b (by rw[ey];simp[hb])
     refine⟨_,_,_,hk,Cm,hF.over k hz7,?_,fun b hb=>?_⟩
     all_goals rw[ey]at p1 p2
     all_goals obtain⟨m1,m2,m3⟩:=bH.1 p1
     all_goals obtain⟨m4,m5,m6⟩:=bH.1 m2
     ·refine bH.2 ⟨bH.2 ⟨m1,q1,fun x hx y hy e=>?_⟩,m5,fun x hx y hy e=>?_⟩
      ·subst e;obtain⟨m,hm,he⟩:=q2 x hy;have:=p2 x (by simp[hx]);exact hid (by
        have:id=m:=by omega
        rw[this];exact hm)
      ·subst e;rcases aU.1 hx with hx|hx
       ·exact m3 x hx x (by simp[hy]) rfl
       ·obtain⟨m,hm,he⟩:=q2 x hx;have:=p2 x (by simp[hy]);exact hid (by
         have:id=m:=by omega
         rw[this];exact hm)
     ·simp only[aU]at hb;rcases hb with(hb|hb)|hb
      ·exact .inl (p2 b (by simp[hb]))
      ·exact .inr (q2 b hb)
      ·exact .inl (p2 b (by simp[hb]))
end
end Go.Cx
