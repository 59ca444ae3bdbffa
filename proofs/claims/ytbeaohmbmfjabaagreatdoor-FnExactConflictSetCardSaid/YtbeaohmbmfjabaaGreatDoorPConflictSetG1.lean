/- The core of an abstract reading of Go's data: what a value shows in memory (D), which blocks it uses, and that this stays where those blocks stay. No condition; plain lemmas. -/
import Derived.WalkKit
import Derived.ProofKit
import Derived.Deep.LoopGhost
import Derived.MapKept
import Derived.Great.BuildSlice
import Derived.Maps.AppendAt
set_option linter.unusedVariables false
set_option linter.unusedSimpArgs false
namespace Go.Cx
open Go.RowKit
set_option linter.defProp false
def aA:=@Option.bind_some
def aC:=@List.mem_of_getElem?
def aF:=@List.getElem?_eq_some_iff
def aL:=@List.length_cons
def aS:=@List.length_append
def aU:=@cond_true
def aZ:=@Bool.and_eq_true
def aa:=@List.length_map
def af:=@cond_false
def ah:=@List.getElem?_eq_getElem
def aj:=@List.mem_append
def ar:=@Option.some.injEq
def ax:=@List.getElem?_append_left
def b8:=@List.all_eq_true
def bB:=@decide_eq_false
def bC:=@List.getElem?_append_right
def bD:=@List.map_cons
def bG:=@List.length_nil
def bH:=@Array.getElem?_eq_some_iff
def bI:=@List.mem_cons
def bL:=@if_neg
def bM:=@decide_eq_true_eq
def bO:=@List.nodup_append
def bQ:=@List.append_assoc
def bR:=@Nat.le_refl
def bV:=@List.length_set
def bW:=@Bool.not_true
def bX:=@if_pos
def bZ:=@List.map_nil
def bf:=@Bool.eq_iff_iff
def bg:=@List.mem_range
def bn:=@decide_eq_true
def bp:=@of_decide_eq_true
def br:=@List.mem_flatMap
def bu:=@List.map_append
def cC:=@List.mem_map
def cD:=@List.mem_filterMap
def cE:=@List.getElem?_set_ne
def cF:=@List.getElem?_map
def cG:=@List.take_append_drop
def cI:=@Array.getD_eq_getD_getElem?
def cJ:=@List.length_take
def cK:=@List.mem_of_mem_take
def cL:=@List.nil_append
def cO:=@List.append_nil
def cP:=@Array.getElem?_eq_getElem
def cQ:=@List.getElem?_take
def cR:=@Prod.mk.injEq
def cT:=@List.flatMap_cons
def cU:=@Nat.le_trans
def cV:=@Option.map_some
def cW:=@List.eq_nil_of_length_eq_zero
def cc:=@List.getElem?_eq_none
def cg:=@Nat.zero_add
def cj:=@beq_iff_eq
def cm:=@List.foldl_cons
def cu:=@beq_self_eq_true
def cv:=@List.singleton_append
def cx:=@List.mem_singleton
def dA:=@List.cons_append
def dD:=@List.all_cons
def dG:=@List.any_eq_true
def dJ:=@beq_eq_false_iff_ne
def dK:=@List.getElem?_set_self
def dM:=@List.getElem?_of_mem
def dN:=@Nat.mul_le_mul_right
def dP:=@List.mem_flatten
def dQ:=@List.mem_reverse
def dR:=@Nat.add_sub_cancel_left
def dU:=@List.nodup_cons
def dV:=@Nat.lt_of_lt_of_le
def dh:=@Nat.lt_or_ge
def dl:=@List.mem_iff_getElem
def dw:=@Option.isSome_iff_exists
def e9:=@List.flatten_cons
def eD:=@List.getElem?_drop
def eO:=@List.getElem?_cons_succ
def eP:=@Bool.true_and
def eX:=@Nat.min_eq_left
def eY:=@Bool.not_false
def eZ:=@bne_self_eq_false
def fM:=@List.drop_left'
def fO:=@Array.getElem?_append_left
def fY:=@List.getElem?_set
def gL:=@List.drop_drop
def gS:=@Nat.mul_le_mul_left
def gh:=@List.length_singleton
def iL:=@List.mem_filter
def iM:=@List.take_left'
def iR:=@Array.toList_map
def jK:=@List.map_take
def je:=@Array.toArray_toList
def jf:=@List.mem_of_mem_drop
def jg:=@Nat.add_mul
def kF:=@List.map_drop
def kI:=@List.getD_eq_getElem?_getD
def kJ:=@Option.mem_toList
def ke:=@Array.toList_append
def kf:=@List.flatten_append
def lJ:=@Classical.byContradiction
def lP:=@List.getElem?_toArray
def lQ:=@List.set_append_right
def lW:=@List.pairwise_cons
def mc:=@List.cons.inj
def mi:=@List.getLast?_concat
def mj:=@Nat.one_mul
def nC:=@Int.eq_ofNat_of_zero_le
def nD:=@Option.bind_eq_some_iff
def nE:=@decide_eq_false_iff_not
def nq:=@Bool.or_eq_true
def o6:=@List.map_congr_left
def oH:=@Nat.sub_self
def oR:=@List.map_toArray
def pN:=@Array.mapM_eq_mapM_toList
def pP:=@Option.some.inj
def pZ:=@Bool.not_eq_true'
def pg:=@List.ext_getElem?
def qL:=@List.length_erase_of_mem
def qM:=@Nat.add_assoc
def ql:=@List.not_mem_nil
def rq:=@Prod.mk.inj
def s7:=@Array.getElem?_eq_none
def s8:=@List.take_of_length_le
def s9:=@Nat.add_zero
def sA:=@Ne.symm
def sB:=@if_true
def tF:=@Bool.or_false
def tX:=@Array.getElem?_toList
def uC:=@List.take_take
def uD:=@Nat.pow_le_pow_right
def uE:=@true_and
def ue:=@Array.toList_inj
def uo:=@List.drop_eq_getElem_cons
def ur:=@List.exists_mem_of_ne_nil
def vA:=@Array.length_toList
def vB:=@List.take_succ_cons
def vI:=@Bool.and_true
def vJ:=@Bool.false_or
def vl:=@Array.all_eq_true'
def vm:=@Nat.lt_or_gt_of_ne
def wQ:=@Bool.and_false
def wR:=@Int.toNat_natCast
def wS:=@List.drop_eq_nil_of_le
def wT:=@Nat.lt_trichotomy
def wU:=@Nat.pow_succ
def xC:=@Array.getElem?_modify
def xD:=@List.concat_eq_append
def xE:=@List.eq_nil_or_concat
def xF:=@Nat.le_of_ble_eq_true
def xY:=@Bool.not_eq_true
def xZ:=@List.eq_nil_iff_forall_not_mem
def xa:=@List.length_drop
def xb:=@Option.getD_some
def yC:=@List.Pairwise.filter
def yd:=@List.cons.injEq
def ye:=@Nat.not_lt_zero
def yf:=@Option.map_none
def z6:=@List.filterMap_cons
def z7:=@List.replicate_succ
def zS:=@Nat.sub_zero
def zn:=@Array.getElem_append_right
def zo:=@Bool.false_eq_true
def zq:=@List.filter_filter
def zu:=@Nat.add_sub_cancel
def Ao:=@Array.getElem_append_left
def Ap:=@List.mem_or_eq_of_mem_set
def B5:=@List.filter_congr
def B6:=@List.size_toArray
def B7:=@decide_true
def BI:=@List.any_cons
def BJ:=@List.eq_of_mem_replicate
def BK:=@List.getElem?_take_of_lt
def Bi:=@List.getElem?_cons_zero
def Bj:=@List.getElem_mem
def Bk:=@List.nodup_range
def Bl:=@List.take_length
def Bm:=@Nat.le_mul_of_pos_right
def CU:=@Int.le_of_lt
def CW:=@Int.le_trans
def CX:=@List.drop_of_length_le
def CY:=@List.getElem_cons_drop
def CZ:=@List.length_pos_of_mem
def Ca:=@List.map_map
def Cb:=@Nat.mul_comm
def Cc:=@Nat.succ_mul
def Cd:=@eq_iff_iff
def DS:=@Int.ediv_nonneg
def Dc:=@Bool.and_eq_false_iff
def Dd:=@Int.ediv_lt_of_lt_mul
def De:=@List.length_replicate
def Df:=@UInt8.lt_iff_toNat_lt
def EW:=@List.drop_zero
def EX:=@List.mapM_cons
def EY:=@Nat.zero_le
def EZ:=@if_false
def Ea:=@or_false
def I6:=@Nat.mul_assoc
def IQ:=@not_or
def Jz:=@List.all_map
def K1:=@List.any_nil
abbrev Bytes:=List UInt8
inductive D where
 |any
 |nil
 |int (k:IntKind) (n:Int)
 |bool (b:Bool)
 |str (s:Bytes)
 |sl (rows:List (List D))
 |agg (cells:List D)
 |ij (vs:List D)
 |ep (row:List D) (off:Nat)
 |acc (id:Nat)
 |ptr (id off:Nat)
 |op (id i sz off:Nat)
 |val (v:Value)
 |fr (e:TypeId) (sz:Nat) (rows:List (List D))
 |pt (cells:List D)
 |ifc (b:Bool)
def sC(k:IntKind)(n:Int):Prop:=k.min<=n/\n<=k.max
instance (k:IntKind) (n:Int):Decidable (sC k n):=by unfold sC;infer_instance
theorem sC.wrap(k:IntKind)(n:Int):sC k (k.wrap n):=by
 unfold sC;cases k<;>simp[IntKind.min,IntKind.max,IntKind.wrap,IntKind.bits,IntKind.signed]<;>(try split)<;>omega
theorem sC.i64{n:Int}:sC .i64 n↔ -9223372036854775808<=n/\n<=9223372036854775807:=by
 simp[sC,IntKind.min,IntKind.max,IntKind.bits,IntKind.signed]
theorem sC.u8{n:Int}:sC .u8 n↔0<=n/\n<=255:=by
 simp[sC,IntKind.min,IntKind.max,IntKind.bits,IntKind.signed]
theorem sC.zero(k:IntKind):sC k 0:=by
 unfold sC;cases k<;>simp[IntKind.min,IntKind.max,IntKind.bits,IntKind.signed]
theorem sC.down{k:IntKind}{n m:Int}(h:sC k n)(h0:0<=m)(h1:m<=n):sC k m:=
 ⟨CW (sC.zero k).1 h0,CW h1 h.2⟩
mutual
inductive Rd(w:World):Value->D->List Nat->Prop
 |any (v:Value):Rd w v .any []
 |nil:Rd w (.slice none 0 0) .nil []
 |int (k:IntKind) (n:Int):sC k n->Rd w (.int k n) (.int k n) []
 |bool (b:Bool):Rd w (.bool b) (.bool b) []
 |str (s:ByteArray):s.size<=maxLen->Rd w (.string s) (.str s.data.toList) []
 |val (v:Value):Rd w v (.val v) []
 |zR:Rd w (.slice none 0 0) (.sl []) []
 |oL (a:Addr) (cap:Nat):cap<=maxLen->Rd w (.slice (some a) 0 cap) (.sl []) []
 |sl (b off cap sz:Nat) (rows:List (List D)) (cs:List Value) (bs:List Nat):b<w.heap.size->rows.length<=cap->cap<=maxLen->
  (∀r∈rows,r.length=sz)->(∀j c,cs[j]?=some c->w.cell? ⟨b,off+j,none⟩=some c)->lE w cs rows.flatten bs->
  Rd w (.slice (some ⟨b,off,none⟩) rows.length cap) (.sl rows) (b::bs)
 |agg (cs:List Value) (ds:List D) (bs:List Nat):lE w cs ds bs->Rd w (.agg cs.toArray) (.agg ds) bs
 |ep (b off:Nat) (cs:List Value) (row:List D) (o:Nat) (bs:List Nat):b<w.heap.size->(∀j c,cs[j]?=some c->w.cell? ⟨b,off+j,none⟩=some c)->
  lE w cs row bs->Rd w (.pointer (some ⟨b,off+o,none⟩)) (.ep row o) (b::bs)
 |Ws:Rd w .nilIface (.ifc false) []
 |Wt (t:TypeId) (v:Value):Rd w (.iface t v) (.ifc true) []
inductive lE(w:World):List Value->List D->List Nat->Prop
 |nil:lE w [] [] []
 |cons (v:Value) (vs:List Value) (d:D) (ds:List D) (b1 b2:List Nat):v.oneCell'=true->Rd w v d b1->lE w vs ds b2->lE w (v::vs) (d::ds) (b1++b2)
end
section
variable{w w':World}
theorem Br{b o:Nat}(h:w'.heap[b]?=w.heap[b]?):w'.cell? ⟨b,o,none⟩=w.cell? ⟨b,o,none⟩:=World.cell?_of_block (a:=⟨b,o,none⟩) h
theorem LG{b:Nat}(hb:b<w.heap.size)(h:w'.heap[b]?=w.heap[b]?):b<w'.heap.size:=by
 rw[cP hb]at h;exact(bH.1 h).1
theorem Pn:
 (∀ {v d bs},Rd w v d bs->(∀b∈bs,w'.heap[b]?=w.heap[b]?)->Rd w' v d bs)/\
 (∀ {vs ds bs},lE w vs ds bs->(∀b∈bs,w'.heap[b]?=w.heap[b]?)->lE w' vs ds bs):=by
 have key:∀(m1:∀v d bs,Rd w v d bs->Prop) (m2:∀vs ds bs,lE w vs ds bs->Prop),
  m1=(fun v d bs _=>(∀b∈bs,w'.heap[b]?=w.heap[b]?)->Rd w' v d bs)->m2=(fun vs ds bs _=>(∀b∈bs,w'.heap[b]?=w.heap[b]?)->lE w' vs ds bs)->
  (∀v d bs h,m1 v d bs h)/\(∀vs ds bs h,m2 vs ds bs h):=by
  intro m1 m2 e1 e2;subst e1;subst e2;constructor
  all_goals intro v d bs h
  ·refine Rd.rec (motive_1:=fun v d bs _=>(∀b∈bs,w'.heap[b]?=w.heap[b]?)->Rd w' v d bs) (motive_2:=fun vs ds bs _=>(∀b∈bs,w'.heap[b]?=w.heap[b]?)->lE w' vs ds bs) ?_ ?_ ?_ ?_ ?_ ?_ ?_ ?_ ?_ ?_ ?_ ?_ ?_ ?_ ?_ h
   ·intro v _;exact .any _
   ·intro _;exact .nil
   ·intro k n h _;exact .int _ _ h
   ·intro b _;exact .bool _
   ·intro s h _;exact .str _ h
   ·intro v _;exact .val _
   ·intro _;exact .zR
   ·intro a cap h _;exact .oL a cap h
   ·intro b off cap sz rows cs bs h0 h1 h2 h3 h4 _ ih hb;exact .sl b off cap sz rows cs bs (LG h0 (hb b (by simp))) h1 h2 h3 (fun j c hc=>(Br (hb b (by simp))).trans (h4 j c hc)) (ih (fun x hx=>hb x (by simp[hx])))
   ·intro cs ds bs _ ih hb;exact .agg cs ds bs (ih hb)
   ·intro b off cs row o bs h0 h4 _ ih hb;exact .ep b off cs row o bs (LG h0 (hb b (by simp))) (fun j c hc=>(Br (hb b (by simp))).trans (h4 j c hc)) (ih (fun x hx=>hb x (by simp[hx])))
   ·intro _;exact .Ws
   ·intro t v _;exact .Wt t v
   ·intro _;exact .nil
   ·intro v vs d ds b1 b2 h1 _ _ ih1 ih2 hb;exact .cons v vs d ds b1 b2 h1 (ih1 (fun x hx=>hb x (by simp[hx]))) (ih2 (fun x hx=>hb x (by simp[hx])))
  ·refine lE.rec (motive_1:=fun v d bs _=>(∀b∈bs,w'.heap[b]?=w.heap[b]?)->Rd w' v d bs) (motive_2:=fun vs ds bs _=>(∀b∈bs,w'.heap[b]?=w.heap[b]?)->lE w' vs ds bs) ?_ ?_ ?_ ?_ ?_ ?_ ?_ ?_ ?_ ?_ ?_ ?_ ?_ ?_ ?_ h
   ·intro v _;exact .any _
   ·intro _;exact .nil
   ·intro k n h _;exact .int _ _ h
   ·intro b _;exact .bool _
   ·intro s h _;exact .str _ h
   ·intro v _;exact .val _
   ·intro _;exact .zR
   ·intro a cap h _;exact .oL a cap h
   ·intro b off cap sz rows cs bs h0 h1 h2 h3 h4 _ ih hb;exact .sl b off cap sz rows cs bs (LG h0 (hb b (by simp))) h1 h2 h3 (fun j c hc=>(Br (hb b (by simp))).trans (h4 j c hc)) (ih (fun x hx=>hb x (by simp[hx])))
   ·intro cs ds bs _ ih hb;exact .agg cs ds bs (ih hb)
   ·intro b off cs row o bs h0 h4 _ ih hb;exact .ep b off cs row o bs (LG h0 (hb b (by simp))) (fun j c hc=>(Br (hb b (by simp))).trans (h4 j c hc)) (ih (fun x hx=>hb x (by simp[hx])))
   ·intro _;exact .Ws
   ·intro t v _;exact .Wt t v
   ·intro _;exact .nil
   ·intro v vs d ds b1 b2 h1 _ _ ih1 ih2 hb;exact .cons v vs d ds b1 b2 h1 (ih1 (fun x hx=>hb x (by simp[hx]))) (ih2 (fun x hx=>hb x (by simp[hx])))
 obtain⟨k1,k2⟩:=key _ _ rfl rfl;exact⟨fun h=>k1 _ _ _ h,fun h=>k2 _ _ _ h⟩
theorem Rd.keep{v:Value}{d:D}{bs:List Nat}(h:Rd w v d bs)(hb:∀b∈bs,w'.heap[b]?=w.heap[b]?):Rd w' v d bs:=Pn.1 h hb
theorem lE.keep{vs:List Value}{ds:List D}{bs:List Nat}(h:lE w vs ds bs)(hb:∀b∈bs,w'.heap[b]?=w.heap[b]?):lE w' vs ds bs:=Pn.2 h hb
theorem Rd.lt{v:Value}{d:D}{bs:List Nat}(h:Rd w v d bs):∀b∈bs,b<w.heap.size:=by
 refine Rd.rec (motive_1:=fun v d bs _=>∀b∈bs,b<w.heap.size) (motive_2:=fun vs ds bs _=>∀b∈bs,b<w.heap.size) ?_ ?_ ?_ ?_ ?_ ?_ ?_ ?_ ?_ ?_ ?_ ?_ ?_ ?_ ?_ h
 case refine_9=>
  intro b off cap sz rows cs bs h0 h1 h2 h3 h4 _ ih x hx;rcases bI.1 hx with rfl|hx
  ·exact h0
  ·exact ih x hx
 case refine_10=>intro cs ds bs _ ih;exact ih
 case refine_11=>
  intro b off cs row o bs h0 h4 _ ih x hx;rcases bI.1 hx with rfl|hx
  ·exact h0
  ·exact ih x hx
 case refine_15=>
  intro v vs d ds b1 b2 h1 _ _ ih1 ih2 x hx;rcases aj.1 hx with hx|hx
  ·exact ih1 x hx
  ·exact ih2 x hx
 all_goals intros;simp_all
theorem lE.lt{vs:List Value}{ds:List D}{bs:List Nat}(h:lE w vs ds bs):∀b∈bs,b<w.heap.size:=by
 induction ds generalizing vs bs with
 |nil=>cases h;simp
 |cons d ds ih=>
  cases h with
  |cons v vs _ _ b1 b2 h1 h2 h3=>
   intro x hx;rcases aj.1 hx with hx|hx
   ·exact h2.lt x hx
   ·exact ih h3 x hx
theorem lE.length{vs:List Value}{ds:List D}{bs:List Nat}(h:lE w vs ds bs):vs.length=ds.length:=by
 induction ds generalizing vs bs with
 |nil=>cases h;rfl
 |cons d ds ih=>cases h with|cons v vs _ _ b1 b2 h1 h2 h3=>simp[ih h3]
theorem lE.one{vs:List Value}{ds:List D}{bs:List Nat}(h:lE w vs ds bs):∀v∈vs,v.oneCell'=true:=by
 induction ds generalizing vs bs with
 |nil=>cases h;simp
 |cons d ds ih=>
  cases h with
  |cons v vs _ _ b1 b2 h1 h2 h3=>
   intro u hu;rcases bI.1 hu with rfl|hu
   ·exact h1
   ·exact ih h3 u hu
theorem lE.app{vs us:List Value}{ds es:List D}{bs cs:List Nat}(h:lE w vs ds bs)(k:lE w us es cs):lE w (vs++us) (ds++es) (bs++cs):=by
 induction ds generalizing vs bs with
 |nil=>cases h;simpa using k
 |cons d ds ih=>
  cases h with
  |cons v vs _ _ b1 b2 h1 h2 h3=>
   rw[bQ];exact .cons _ _ _ _ _ _ h1 h2 (ih h3)
theorem lE.split{vs:List Value}{ds es:List D}{bs:List Nat}(h:lE w vs (ds++es) bs):
 ∃v1 v2 b1 b2,vs=v1++v2/\bs=b1++b2/\lE w v1 ds b1/\lE w v2 es b2:=by
 induction ds generalizing vs bs with
 |nil=>exact⟨[],vs,[],bs,by simp,by simp,.nil,h⟩
 |cons d ds ih=>
  cases h with
  |cons v vs _ _ b1 b2 h1 h2 h3=>
   obtain⟨v1,v2,c1,c2,rfl,rfl,k1,k2⟩:=ih h3;exact⟨v::v1,v2,b1++c1,c2,by simp,by simp,.cons _ _ _ _ _ _ h1 h2 k1,k2⟩
theorem lE.mid{vs:List Value}{ds:List D}{bs:List Nat}(h:lE w vs ds bs)(i n:Nat):
 ∃b,lE w ((vs.drop i).take n) ((ds.drop i).take n) b/\∀x∈b,x∈bs:=by
 have e:ds=ds.take i++((ds.drop i).take n++(ds.drop i).drop n):=by rw[cG,cG]
 rw[e]at h;obtain⟨v1,v2,b1,b2,rfl,rfl,k1,k2⟩:=h.split;obtain⟨v3,v4,b3,b4,rfl,rfl,k3,k4⟩:=k2.split;refine⟨b3,?_,by intro x hx;simp[hx]⟩;have l1:=k1.length;have l3:=k3.length;by_cases hi:i<=ds.length
 ·have h1:v1.length=i:=by rw[l1];simp[hi]
  rw[fM h1];by_cases hn:n<=(ds.drop i).length
  ·have h3:v3.length=n:=by rw[l3,cJ];omega
   rw[iM h3];exact k3
  ·have h4:v4.length=0:=by rw[k4.length];simp at hn⊢;omega
   have h4':v4=[]:=cW h4;subst h4';have h3:v3.length<=n:=by rw[l3,cJ];omega
   simp only[cO];rw[s8 h3];exact k3
 ·have h5:ds.drop i=[]:=wS (by omega);rw[h5]at k3 k4⊢;simp only[List.take_nil,List.drop_nil]at k3 k4⊢;cases k3;cases k4;have h1:v1.length<=i:=by rw[l1];simp;omega
  simp[CX h1];exact .nil
theorem lE.at{vs:List Value}{ds:List D}{bs:List Nat}(h:lE w vs ds bs){i:Nat}{d:D}(hd:ds[i]?=some d):
 ∃v b,vs[i]?=some v/\v.oneCell'=true/\Rd w v d b/\∀x∈b,x∈bs:=by
 induction ds generalizing vs bs i with
 |nil=>simp at hd
 |cons e ds ih=>
  cases h with
  |cons v vs _ _ b1 b2 h1 h2 h3=>
   cases i with
   |zero=>simp at hd;subst hd;exact⟨v,b1,by simp,h1,h2,by intro x hx;simp[hx]⟩
   |succ i=>
    simp at hd;obtain⟨u,b,k1,k2,k3,k4⟩:=ih h3 hd;exact⟨u,b,by simpa using k1,k2,k3,fun x hx=>by simp[k4 x hx]⟩
end
theorem oP{α:Type}{rows:List (List α)}{sz:Nat}(h:∀r∈rows,r.length=sz):rows.flatten.length=rows.length*sz:=by
 induction rows with
 |nil=>simp
 |cons r rows ih=>
  simp only[e9,aS,aL];rw[ih (fun x hx=>h x (by simp[hx])),h r (by simp),jg];omega
theorem Fx{α:Type}{rows:List (List α)}{sz:Nat}(h:∀r∈rows,r.length=sz){i:Nat}{r:List α}(hr:rows[i]?=some r):
 (rows.flatten.drop (i*sz)).take sz=r:=by
 induction rows generalizing i with
 |nil=>simp at hr
 |cons s rows ih=>
  have hs:=h s (by simp);cases i with
  |zero=>
   simp at hr;subst hr;simp only[Nat.zero_mul,EW,e9];exact iM hs
  |succ i=>
   simp only[eO]at hr;have:=ih (fun x hx=>h x (by simp[hx])) hr;rw[e9,jg,mj,Nat.add_comm,<-gL,fM hs];exact this
end Go.Cx
namespace Go.Cx
open Go.RowKit
abbrev aH:=List Bytes
abbrev aQ:=List D
abbrev aY:=List Nat
abbrev bP:=List Int
abbrev bh:=List Value
def yZ:List (Nat×(bh->Prop)):=[(3,fun cs:bh=>cs=[.int .u64 1,.int .u64 10,.int .u64 100,.int .u64 1000,.int .u64 10000,.int .u64 100000,.int .u64 1000000,.int .u64 10000000,.int .u64 100000000,.int .u64 1000000000,.int .u64 10000000000,.int .u64 100000000000,.int .u64 1000000000000,.int .u64 10000000000000,.int .u64 100000000000000,.int .u64 1000000000000000,.int .u64 10000000000000000,.int .u64 100000000000000000,.int .u64 1000000000000000000,.int .u64 10000000000000000000]),(1,fun cs:bh=>∃tp p,cs=[Value.iface tp p])]
def VsB(w:World)(B:Nat->Prop):Prop:=∀x∈yZ,B x.1/\∃cs t z,w.heap[x.1]?=some (.cells cs t z)/\x.2 cs.toList
def QD(w:World)(X:Nat->Prop):Prop:=∃B:Nat->Prop,VsB w B/\∀b,B b->b<w.heap.size/\¬X b
def RO:List (Nat×aQ):=[]
def a2h(g:Nat)(ds:aQ):Prop:=∃p,(g,p)∈yZ/\∀cs:bh,p cs->∀(o:Nat) d,ds[o]?=some d->∃v,cs[o]?=some v/\∀w,Rd w v d []
theorem V7:∀x∈RO,a2h x.1 x.2:=by intro x hx;cases hx
def W9(g o:Nat):Option D:=(RO.find? fun x=>x.1==g).bind fun x=>x.2[o]?
theorem a0a{g o:Nat}{d:D}(h:W9 g o=some d):∃ds,a2h g ds/\ds[o]?=some d:=by
 unfold W9 at h;cases hf:RO.find? fun x=>x.1==g with
 |none=>rw[hf]at h;cases h
 |some x=>
  rw[hf,aA]at h;have h1:=List.find?_some hf;have h2:=List.mem_of_find?_eq_some hf;have e:x.1=g:=by simpa using h1
  exact⟨x.2,by rw[<-e];exact V7 x h2,h⟩
theorem VsB.stays{w w':World}{B:Nat->Prop}(h:VsB w B)(hb:∀b,B b->w'.heap[b]?=w.heap[b]?):VsB w' B:=fun x hx=>by
 obtain⟨h1,cs,t,z,h2,h3⟩:=h x hx;exact⟨h1,cs,t,z,by rw[hb _ h1,h2],h3⟩
theorem QD.cells{w:World}{X:Nat->Prop}(h:QD w X){g:Nat}{p:bh->Prop}(hx:(g,p)∈yZ):∃cs t z,w.heap[g]?=some (.cells cs t z)/\p cs.toList:=by
 obtain⟨B,h1,h2⟩:=h;exact(h1 _ hx).2
theorem QD.var{P:Program}{w:World}{X:Nat->Prop}(h:QD w X){g:Nat}{p:bh->Prop}{name:String}(hx:(g,p)∈yZ)(hg:P.globalNamed name=some g):∃cs,w.var? P name=some cs/\p cs.toList:=by
 obtain⟨cs,t,z,h1,h2⟩:=h.cells hx;refine⟨cs,?_,h2⟩;unfold World.var?;rw[hg,aA,h1]
theorem QD.a5E{P:Program}{w:World}(hs:∀x∈yZ,∃name cs,P.globalNamed name=some x.1/\w.var? P name=some cs/\x.2 cs.toList):QD w fun _=>False:=by
 refine⟨fun b=>b∈yZ.map Prod.fst,fun x hx=>?_,fun b hb=>?_⟩
 ·obtain⟨name,cs,h1,h2,h3⟩:=hs x hx;unfold World.var? at h2;rw[h1,aA]at h2;refine⟨cC.2 ⟨x,hx,rfl⟩,?_⟩;split at h2
  ·rename_i cs' t z h4;cases h2;exact⟨_,t,z,h4,h3⟩
  ·cases h2
 ·obtain⟨x,hx,rfl⟩:=cC.1 hb;obtain⟨name,cs,h1,h2,h3⟩:=hs x hx;unfold World.var? at h2;rw[h1,aA]at h2;refine⟨?_,id⟩;split at h2
  ·rename_i cs' t z h4;exact(bH.1 h4).1
  ·cases h2
end Go.Cx
namespace Go.Cx
open Go.RowKit
structure tY where
 W0:World
 Θ0:Nat->Nat
 X:Nat->Prop
 nt:Nat
 U:Nat->Prop
 vs:QD W0 X
inductive RK where
 |sh
 |uq
 |cl
 |mv (n:Nat)
def RK.Qt:RK->Bool
 | .cl=>false
 |_=>true
def RK.hand:RK->Bool
 | .sh=>true
 | .uq=>true
 |_=>false
inductive Ob where
 |box (cells:aQ)
 |NF (cells:aQ) (v:Value)
 |row (k:RK) (e:TypeId) (sz:Nat) (rows:List aQ)
 |eC (sz:Nat) (rows:List aQ) (v:Option Value)
 |hole (sz:Nat) (rows:List aQ) (v:Option Value) (p n:Nat)
 |mp (kv:List (D×D))
 |tk (rows:List aQ)
 |gone
def Ob.Wa:Ob->Option aQ
 | .box c=>some c
 | .NF c _=>some c
 |_=>none
def Ob.re(o:Ob)(c:aQ):Ob:=match o with
 | .NF _ v=>.NF c v
 |_=>.box c
structure St where
 σ:List (Nat×D)
 H:List Ob
def lk:List (Nat×D)->Nat->D
 | [],_=>.any
 | (t,d)::r,n=>if n=t then d else lk r n
def D.UX:Value->D
 | .bool b=>.bool b
 | .int k n=>if sC k n then .int k n else .val (.int k n)
 | .string s=>if s.size<=maxLen then .str s.data.toList else .val (.string s)
 | .slice none 0 0=>.nil
 |v=>.val v
def St.ev(st:St):Operand->D
 | .tmp t=>lk st.σ t
 | .const v=>D.UX v
 | .global g=>.val (.pointer (some ⟨g,0,none⟩))
 | .func f=>.val (.func (.func f) #[] #[])
def St.set(st:St)(t:Nat)(d:D):St:=⟨(t,d)::st.σ,st.H⟩
def St.put(st:St)(t:Option Nat)(d:D):St:=match t with|some t=>st.set t d|none=>st
inductive zj(w:World)(κ:Nat->Option Value):Value->D->List Nat->Prop
 |pure {v:Value} {d:D} {bs:aY}:Rd w v d bs->zj w κ v d bs
 |acc (id:Nat) (v:Value):κ id=some v->zj w κ v (.acc id) []
 |ptr (id off b:Nat):κ id=some (.pointer (some ⟨b,0,none⟩))->zj w κ (.pointer (some ⟨b,off,none⟩)) (.ptr id off) []
 |op (id i sz off b o0 len cap:Nat):κ id=some (.slice (some ⟨b,o0,none⟩) len cap)->zj w κ (.pointer (some ⟨b,o0+(i*sz+off),none⟩)) (.op id i sz off) []
inductive ec(w:World)(κ:Nat->Option Value):List Value->List D->List Nat->Prop
 |nil:ec w κ [] [] []
 |cons (v:Value) (vs:bh) (d:D) (ds:aQ) (b1 b2:aY):v.oneCell'=true->zj w κ v d b1->ec w κ vs ds b2->ec w κ (v::vs) (d::ds) (b1++b2)
inductive NY(w:World)(κ:Nat->Option Value):Value->D->List Nat->Prop
 |cell {v:Value} {d:D} {bs:aY}:zj w κ v d bs->NY w κ v d bs
 |agg (cs:bh) (ds:aQ) (bs:aY):ec w κ cs ds bs->NY w κ (.agg cs.toArray) (.agg ds) bs
inductive Cg(w:World)(κ:Nat->Option Value):List Value->List D->List Nat->Prop
 |nil:Cg w κ [] [] []
 |cons (v:Value) (vs:bh) (d:D) (ds:aQ) (b1 b2:aY):NY w κ v d b1->Cg w κ vs ds b2->Cg w κ (v::vs) (d::ds) (b1++b2)
inductive sD(w:World)(κ:Nat->Option Value):Value->D->List Nat->Prop
 |v {v:Value} {d:D} {bs:aY}:NY w κ v d bs->sD w κ v d bs
 |ij (vs:bh) (ds:aQ) (bs:aY):Cg w κ vs ds bs->sD w κ (.tuple vs.toArray) (.ij ds) bs
theorem sD.of{w:World}{κ:Nat->Option Value}{v:Value}{d:D}{bs:aY}(h:Rd w v d bs):sD w κ v d bs:=.v (.cell (.pure h))
def Wr(w:World)(b:Nat):Prop:=∃cs T,w.heap[b]?=some (.cells cs T (0,0))
def RdH(w:World)(κ:Nat->Option Value)(v:Value)(rows:List aQ)(p n:Nat)(bs:aY):Prop:=
 ∃b off cap cs ns,v=.slice (some ⟨b,off,none⟩) rows.length cap/\b<w.heap.size/\rows.length<=cap/\cap<=maxLen/\(∀j c,cs[j]?=some c->w.cell? ⟨b,off+j,none⟩=some c)/\lE w cs rows.flatten ns/\bs=b::ns/\
  ∃c,cs[p]?=some c/\κ n=some c
def z8(w:World)(es:List MapEntry)(kv:List (D×D)):Prop:=
 es.length=kv.length/\∀(j:Nat) e p,es[j]?=some e->kv[j]?=some p->Rd w e.key p.1 []/\Rd w e.val p.2 []
theorem z8.stay{w w':World}{es:List MapEntry}{kv:List (D×D)}(h:z8 w es kv):z8 w' es kv:=
 ⟨h.1,fun j e p h1 h2=>⟨(h.2 j e p h1 h2).1.keep (by simp),(h.2 j e p h1 h2).2.keep (by simp)⟩⟩
def wV(w:World)(κ:Nat->Option Value)(Θ:Nat->Nat)(id:Nat):Ob->Prop
 | .box cells=>∃g cs T,κ id=some (.pointer (some ⟨g,0,none⟩))/\w.heap[g]?=some (.cells cs T (0,0))/\Θ g=id+2/\
  ∃bs,ec w κ cs.toList cells bs/\∀b∈bs,Θ b=0
 | .NF cells u=>κ id=some u/\∃g cs T,κ id=some (.pointer (some ⟨g,0,none⟩))/\w.heap[g]?=some (.cells cs T (0,0))/\Θ g=id+2/\
  ∃bs,ec w κ cs.toList cells bs/\∀b∈bs,Θ b=0
 | .row k e sz rows=>0<sz/\(∀r∈rows,r.length=sz)/\∃v cs bs,κ id=some v/\w.ownsRow 0 e sz v rows.length cs/\lE w cs rows.flatten bs/\
  (∀g,v.ownBlock=some g->Θ g=id+2)/\
  (match k with
   | .cl=>bs.Nodup/\(∀b∈bs,Θ b=id+2/\Wr w b)/\∀g,v.ownBlock=some g->g∉bs
   |_=>∀b∈bs,Θ b=0)
 | .eC sz rows u=>(∀r∈rows,r.length=sz)/\(∀x,u=some x->κ id=some x)/\∃v bs,κ id=some v/\Rd w v (.sl rows) bs/\bs.Nodup/\∀b∈bs,Θ b=id+2/\Wr w b
 | .hole sz rows u p n=>(∀r∈rows,r.length=sz)/\(∀x,u=some x->κ id=some x)/\∃v bs,κ id=some v/\RdH w κ v rows p n bs/\bs.Nodup/\∀b∈bs,Θ b=id+2/\Wr w b
 | .mp kv=>∃g es clock,κ id=some (.map (some g))/\w.heap[g]?=some (.map es clock)/\Θ g=id+2/\z8 w es.toList kv
 | .tk rows=>∃v bs,κ id=some v/\Rd w v (.sl rows) bs/\∀b∈bs,Θ b=0
 | .gone=>True
def BL(Γ:tY)(b:Nat):Prop:=Γ.W0.heap.size<=b\/Γ.X b
def YB(Γ:tY)(b:Nat):Prop:=BL Γ b\/Γ.U b
theorem wV.cs{w:World}{κ:Nat->Option Value}{Θ:Nat->Nat}{id:Nat}{o:Ob}{cells:aQ}(hc:o.Wa=some cells)(h:wV w κ Θ id o):
 ∃g cs T,κ id=some (.pointer (some ⟨g,0,none⟩))/\w.heap[g]?=some (.cells cs T (0,0))/\Θ g=id+2/\∃bs,ec w κ cs.toList cells bs/\∀b∈bs,Θ b=0:=by
 cases o<;>simp only[Ob.Wa,reduceCtorEq,ar]at hc
 ·subst hc;exact h
 ·subst hc;exact h.2
theorem wV.a7h{w w':World}{κ κ':Nat->Option Value}{Θ Θ':Nat->Nat}{id:Nat}{o:Ob}{cells cells':aQ}(hc:o.Wa=some cells)(h:wV w κ Θ id o)(hk:∀v,κ id=some v->κ' id=some v)
 (h':∃g cs T,κ' id=some (.pointer (some ⟨g,0,none⟩))/\w'.heap[g]?=some (.cells cs T (0,0))/\Θ' g=id+2/\∃bs,ec w' κ' cs.toList cells' bs/\∀b∈bs,Θ' b=0):wV w' κ' Θ' id (o.re cells'):=by
 cases o<;>simp only[Ob.Wa,reduceCtorEq,ar]at hc
 ·exact h'
 ·exact⟨hk _ h.1,h'⟩
structure VD(Γ:tY)(w:World):Prop where
 os:w.os=Γ.W0.os
 tape:w.tape=Γ.W0.tape
 output:w.output=Γ.W0.output
 size:Γ.W0.heap.size<=w.heap.size
 block:∀b,b<Γ.W0.heap.size->¬Γ.X b->w.heap[b]?=Γ.W0.heap[b]?
def Mu(w:World)(κ:Nat->Option Value)(ρ:Nat->Nat)(id:Nat):Ob->Prop
 | .row (.mv n) e sz rows=>∃v cs bs,κ id=some v/\w.ownsRow 0 e sz v rows.length cs/\lE w (cs.drop (n*sz)) (rows.drop n).flatten bs/\bs.Nodup/\∀b∈bs,ρ b=id+1
 | .tk rows=>∃v bs,κ id=some v/\Rd w v (.sl rows) bs/\bs.Nodup/\∀b∈bs,ρ b=id+1
 |_=>True
structure Aq(Γ:tY)(H:List Ob)(κ:Nat->Option Value)(Θ:Nat->Nat)(w:World)(ρ:Nat->Nat):Prop where
 free:∀b,ρ b≠0->Θ b=0/\YB Γ b/\Wr w b
 rows:∀id e sz rows,H[id]?=some (.row .uq e sz rows)->∃v cs bs,κ id=some v/\w.ownsRow 0 e sz v rows.length cs/\lE w cs rows.flatten bs/\bs.Nodup/\∀b∈bs,ρ b=id+1
 more:∀id o,H[id]?=some o->Mu w κ ρ id o
structure dY(Γ:tY)(st:St)(κ:Nat->Option Value)(Θ:Nat->Nat)(a:Act)(w:World):Prop where
 defers:a.defers=[]
 size:a.tmps.size=Γ.nt
 qI:∀id,st.H.length<=id->κ id=none
 pM:∀(id:Nat) u,κ id=some u->u.oneCell'=true
 slot:∀t,∃bs,sD w κ (a.tmps.getD t undef) (lk st.σ t) bs/\∀b∈bs,Θ b=0
 ob:∀id o,st.H[id]?=some o->wV w κ Θ id o
 own:∀b,Θ b≠0->b<w.heap.size
 old:∀b,b<Γ.W0.heap.size->¬Γ.X b->Θ b=Γ.Θ0 b/\Θ b<=1
 mine:∀b,2<=Θ b->BL Γ b
 stays:VD Γ w
 ud:∃ρ,Aq Γ st.H κ Θ w ρ
theorem dY.vsb{Γ:tY}{st:St}{κ:Nat->Option Value}{Θ:Nat->Nat}{a:Act}{w:World}(h:dY Γ st κ Θ a w):∃B:Nat->Prop,VsB w B/\∀b,B b->b<Γ.W0.heap.size/\b<w.heap.size/\¬Γ.X b:=by
 obtain⟨B,h1,h2⟩:=Γ.vs;exact⟨B,h1.stays fun b hb=>h.stays.block b (h2 b hb).1 (h2 b hb).2,fun b hb=>⟨(h2 b hb).1,dV (h2 b hb).1 h.stays.size,(h2 b hb).2⟩⟩
theorem dY.vok{Γ:tY}{st:St}{κ:Nat->Option Value}{Θ:Nat->Nat}{a:Act}{w:World}(h:dY Γ st κ Θ a w):QD w fun _=>False:=by
 obtain⟨B,h1,h2⟩:=h.vsb;exact⟨B,h1,fun b hb=>⟨(h2 b hb).2.1,id⟩⟩
def AW(P:Program)(Γ:tY)(c:Code)(Q:Exit->St->Prop)(st:St):Prop:=
 ∀κ Θ a w,dY Γ st κ Θ a w->c.wp P (fun e a' w'=>∃ve κ' Θ',dY Γ ve κ' Θ' a' w'/\Q e ve) a w
def AO(P:Program)(Γ:tY)(all:Array Oper)(ops:List Oper)(Q:Exit->St->Prop)(st:St):Prop:=
 ∀κ Θ a w,dY Γ st κ Θ a w->wpList P all (fun e a' w'=>∃ve κ' Θ',dY Γ ve κ' Θ' a' w'/\Q e ve) ops a w
section
variable{P:Program}{Γ:tY}{Q:Exit->St->Prop}{st:St}
theorem a1F(h:Q .normal st):AW P Γ .skip Q st:=fun _ _ _ _ hs=>wp_skip ⟨_,_,_,hs,h⟩
theorem a41(h:Q .ret st):AW P Γ .ret Q st:=fun _ _ _ _ hs=>wp_ret ⟨_,_,_,hs,h⟩
theorem a1E{id:Nat}(h:Q (.exit id) st):AW P Γ (.exit id) Q st:=fun _ _ _ _ hs=>wp_exit ⟨_,_,_,hs,h⟩
def a0V(next:St->Prop)(Q:Exit->St->Prop):Exit->St->Prop
 | .normal,st=>next st
 |e,st=>Q e st
def QH(id:Nat)(Q:Exit->St->Prop):Exit->St->Prop
 | .exit id',st=>if id'=id then Q .normal st else Q (.exit id') st
 |e,st=>Q e st
theorem a42{x y:Code}(h:AW P Γ x (a0V (AW P Γ y Q) Q) st):AW P Γ (.seq x y) Q st:=by
 intro κ Θ a w hs;refine wp_seq (wp_mono (h κ Θ a w hs) ?_);rintro e a' w' ⟨ve,κ',Θ',hs',hq⟩;cases e with
 |normal=>exact hq κ' Θ' a' w' hs'
 |exit id=>exact⟨_,_,_,hs',hq⟩
 |goto l=>exact⟨_,_,_,hs',hq⟩
 |ret=>exact⟨_,_,_,hs',hq⟩
 |panic c=>exact⟨_,_,_,hs',hq⟩
 |outgrown=>exact⟨_,_,_,hs',hq⟩
theorem Y7{id:Nat}{c:Code}(h:AW P Γ c (QH id Q) st):AW P Γ (.block id c) Q st:=by
 intro κ Θ a w hs;refine wp_block (wp_mono (h κ Θ a w hs) ?_);rintro e a' w' ⟨ve,κ',Θ',hs',hq⟩;cases e with
 |exit id'=>
  simp only[Exit.inBlock,QH]at hq⊢;split
  ·rename_i he;rw[bX he]at hq;exact⟨_,_,_,hs',hq⟩
  ·rename_i he;rw[bL he]at hq;exact⟨_,_,_,hs',hq⟩
 |normal=>exact⟨_,_,_,hs',hq⟩
 |goto l=>exact⟨_,_,_,hs',hq⟩
 |ret=>exact⟨_,_,_,hs',hq⟩
 |panic c=>exact⟨_,_,_,hs',hq⟩
 |outgrown=>exact⟨_,_,_,hs',hq⟩
theorem WJ{id:Nat}{l:List Oper}(h:AO P Γ l.toArray l Q st):AW P Γ (.region id l.toArray false) Q st:=
 fun κ Θ a w hs=>wp_region_lit (h κ Θ a w hs)
theorem a3y{all:Array Oper}(h:Q .normal st):AO P Γ all [] Q st:=fun _ _ _ _ hs=>wpList_nil ⟨_,_,_,hs,h⟩
end
section
variable{w:World}{κ:Nat->Option Value}{v:Value}{bs:aY}
theorem sD.qk{k:IntKind}{n:Int}(h:sD w κ v (.int k n) bs):v=.int k n:=by
 cases h with|v h=>cases h with|cell h=>cases h with|pure h=>cases h;rfl
theorem sD.OB{k:IntKind}{n:Int}(h:sD w κ v (.int k n) bs):sC k n:=by
 cases h with|v h=>cases h with|cell h=>cases h with|pure h=>cases h with|int _ _ hr=>exact hr
theorem sD.a0S{s:Bytes}(h:sD w κ v (.str s) bs):s.length<=maxLen:=by
 cases h with|v h=>cases h with|cell h=>cases h with|pure h=>cases h with|str x hx=>simpa using hx
theorem sD.wW{b:Bool}(h:sD w κ v (.bool b) bs):v=.bool b:=by
 cases h with|v h=>cases h with|cell h=>cases h with|pure h=>cases h;rfl
theorem sD.um{s:Bytes}(h:sD w κ v (.str s) bs):∃x:ByteArray,v=.string x/\x.data.toList=s:=by
 cases h with|v h=>cases h with|cell h=>cases h with|pure h=>cases h;exact⟨_,rfl,rfl⟩
theorem sD.W8{u:Value}(h:sD w κ v (.val u) bs):v=u:=by
 cases h with|v h=>cases h with|cell h=>cases h with|pure h=>cases h;rfl
theorem sD.LJ(h:sD w κ v .nil bs):v=.slice none 0 0:=by
 cases h with|v h=>cases h with|cell h=>cases h with|pure h=>cases h;rfl
theorem sD.R9{rows:List aQ}(h:sD w κ v (.sl rows) bs):Rd w v (.sl rows) bs:=by
 cases h with|v h=>cases h with|cell h=>cases h with|pure h=>exact h
theorem sD.Tv{row:aQ}{o:Nat}(h:sD w κ v (.ep row o) bs):Rd w v (.ep row o) bs:=by
 cases h with|v h=>cases h with|cell h=>cases h with|pure h=>exact h
theorem sD.vg{id:Nat}(h:sD w κ v (.acc id) bs):κ id=some v/\bs=[]:=by
 cases h with|v h=>cases h with|cell h=>cases h with|pure h=>cases h|acc _ _ hk=>exact⟨hk,rfl⟩
theorem sD.BE{id off:Nat}(h:sD w κ v (.ptr id off) bs):∃b,κ id=some (.pointer (some ⟨b,0,none⟩))/\v=.pointer (some ⟨b,off,none⟩):=by
 cases h with|v h=>cases h with|cell h=>cases h with|pure h=>cases h|ptr _ _ b hk=>exact⟨b,hk,rfl⟩
theorem sD.GB{id i sz off:Nat}(h:sD w κ v (.op id i sz off) bs):∃b o0 len cap,κ id=some (.slice (some ⟨b,o0,none⟩) len cap)/\v=.pointer (some ⟨b,o0+(i*sz+off),none⟩):=by
 cases h with|v h=>cases h with|cell h=>cases h with|pure h=>cases h|op _ _ _ _ b o0 len cap hk=>exact⟨b,o0,len,cap,hk,rfl⟩
theorem ec.DX{vs:bh}{ds:aQ}(h:lE w vs ds bs):ec w κ vs ds bs:=by
 induction ds generalizing vs bs with
 |nil=>cases h;exact .nil
 |cons d ds ih=>cases h with|cons v vs _ _ b1 b2 h1 h2 h3=>exact .cons _ _ _ _ _ _ h1 (.pure h2) (ih h3)
theorem DL{w:World}{e sz b o0 len cap n:Nat}{cs:bh}(h:w.ownsRow 0 e sz (.slice (some ⟨b,o0,none⟩) len cap) n cs):o0=0:=by
 rcases h.2 with⟨h,_⟩|⟨g,cap,cur,h,_⟩
 ·cases h
 ·cases h;rfl
theorem sD.GN{ds:aQ}(h:sD w κ v (.agg ds) bs):∃cs:bh,v=.agg cs.toArray/\ec w κ cs ds bs:=by
 cases h with
 |v h=>
  cases h with
  |cell h=>cases h with|pure h=>cases h with|agg cs _ _ h=>exact⟨cs,rfl,ec.DX h⟩
  |agg cs _ _ h=>exact⟨cs,rfl,h⟩
theorem ec.length{vs:bh}{ds:aQ}(h:ec w κ vs ds bs):vs.length=ds.length:=by
 induction ds generalizing vs bs with
 |nil=>cases h;rfl
 |cons d ds ih=>cases h with|cons v vs _ _ b1 b2 h1 h2 h3=>simp[ih h3]
theorem ec.one{vs:bh}{ds:aQ}(h:ec w κ vs ds bs):∀v∈vs,v.oneCell'=true:=by
 induction ds generalizing vs bs with
 |nil=>cases h;simp
 |cons d ds ih=>
  cases h with
  |cons v vs _ _ b1 b2 h1 h2 h3=>
   intro u hu;rcases bI.1 hu with rfl|hu
   ·exact h1
   ·exact ih h3 u hu
theorem ec.app{vs us:bh}{ds es:aQ}{cs:aY}(h:ec w κ vs ds bs)(k:ec w κ us es cs):ec w κ (vs++us) (ds++es) (bs++cs):=by
 induction ds generalizing vs bs with
 |nil=>cases h;simpa using k
 |cons d ds ih=>
  cases h with
  |cons v vs _ _ b1 b2 h1 h2 h3=>
   rw[bQ];exact .cons _ _ _ _ _ _ h1 h2 (ih h3)
theorem ec.split{vs:bh}{ds es:aQ}(h:ec w κ vs (ds++es) bs):
 ∃v1 v2 b1 b2,vs=v1++v2/\bs=b1++b2/\ec w κ v1 ds b1/\ec w κ v2 es b2:=by
 induction ds generalizing vs bs with
 |nil=>exact⟨[],vs,[],bs,by simp,by simp,.nil,h⟩
 |cons d ds ih=>
  cases h with
  |cons v vs _ _ b1 b2 h1 h2 h3=>
   obtain⟨v1,v2,c1,c2,rfl,rfl,k1,k2⟩:=ih h3;exact⟨v::v1,v2,b1++c1,c2,by simp,by simp,.cons _ _ _ _ _ _ h1 h2 k1,k2⟩
theorem ec.mid{vs:bh}{ds:aQ}(h:ec w κ vs ds bs)(i n:Nat)(hn:i+n<=ds.length):
 ∃b,ec w κ ((vs.drop i).take n) ((ds.drop i).take n) b/\∀x∈b,x∈bs:=by
 have e:ds=ds.take i++((ds.drop i).take n++(ds.drop i).drop n):=by rw[cG,cG]
 rw[e]at h;obtain⟨v1,v2,b1,b2,rfl,rfl,k1,k2⟩:=h.split;obtain⟨v3,v4,b3,b4,rfl,rfl,k3,k4⟩:=k2.split;refine⟨b3,?_,by intro x hx;simp[hx]⟩;have h1:v1.length=i:=by rw[k1.length];simp;omega
 have h3:v3.length=n:=by rw[k3.length];simp;omega
 rw[fM h1,iM h3];exact k3
theorem ec.at{vs:bh}{ds:aQ}(h:ec w κ vs ds bs){i:Nat}{d:D}(hd:ds[i]?=some d):
 ∃v b,vs[i]?=some v/\v.oneCell'=true/\zj w κ v d b/\∀x∈b,x∈bs:=by
 induction ds generalizing vs bs i with
 |nil=>simp at hd
 |cons e ds ih=>
  cases h with
  |cons v vs _ _ b1 b2 h1 h2 h3=>
   cases i with
   |zero=>simp at hd;subst hd;exact⟨v,b1,by simp,h1,h2,by intro x hx;simp[hx]⟩
   |succ i=>
    simp at hd;obtain⟨u,b,k1,k2,k3,k4⟩:=ih h3 hd;exact⟨u,b,by simpa using k1,k2,k3,fun x hx=>by simp[k4 x hx]⟩
theorem UY(v:Value):sD w κ v (D.UX v) []:=by
 unfold D.UX;split
 ·exact .of (.bool _)
 ·split
  ·rename_i h;exact .of (.int _ _ h)
  ·exact .of (.val _)
 ·split
  ·rename_i h;exact .of (.str _ h)
  ·exact .of (.val _)
 ·exact .of .nil
 ·exact .of (.val _)
end
section
variable{Γ:tY}{st:St}{κ:Nat->Option Value}{Θ:Nat->Nat}{a:Act}{w:World}
theorem dY.ev(h:dY Γ st κ Θ a w)(x:Operand):∃bs,sD w κ (a.eval x) (st.ev x) bs/\∀b∈bs,Θ b=0:=by
 cases x with
 |tmp t=>exact h.slot t
 |const v=>exact⟨[],UY v,by simp⟩
 |global g=>exact⟨[],.of (.val _),by simp⟩
 |func f=>exact⟨[],.of (.val _),by simp⟩
theorem dY.set(h:dY Γ st κ Θ a w){t:Nat}{v:Value}{d:D}{bs:aY}(ht:t<Γ.nt)(hv:sD w κ v d bs)(hb:∀b∈bs,Θ b=0):
 dY Γ (st.set t d) κ Θ (a.put (some t) v) w:=by
 refine⟨h.defers,by simp[Act.put,h.size],h.qI,h.pM,?_,h.ob,h.own,h.old,h.mine,h.stays,h.ud⟩;intro u;show∃bs,sD w κ ((a.tmps.setIfInBounds t v).getD u undef) (if u=t then d else lk st.σ u) bs/\_;have hsz:=h.size;by_cases hu:u=t
 ·subst hu;rw[bX rfl];have:(a.tmps.setIfInBounds u v).getD u undef=v:=by
   simp[cI,hsz,ht]
  rw[this];exact⟨bs,hv,hb⟩
 ·rw[bL hu];have:(a.tmps.setIfInBounds t v).getD u undef=a.tmps.getD u undef:=by
   simp[cI,sA hu]
  rw[this];exact h.slot u
end
end Go.Cx
namespace Go.Cx
open Go.RowKit
abbrev bS:=List Ob
def Aj(P:Program)(t:TypeId):Option Bool:=
 match P.underlying t with
 |some (.struct _)=>some true
 |some (.array _ _)=>some true
 |some _=>some false
 |none=>none
def zm(P:Program)(t:TypeId):Nat:=P.cellsOf t
def tfo(P:Program)(t f:Nat):Option Nat:=
 match P.underlying t with
 |some (.struct fs)=>(match fs[f]? with
  |some x=>if(P.info? x.type).isSome/\P.cellsOf x.type≠0 then some x.offset else none
  |none=>none)
 |_=>none
def tft(P:Program)(t f:Nat):Option (Nat×TypeId):=
 match P.underlying t with
 |some (.struct fs)=>(match fs[f]? with|some x=>some (x.offset,x.type)|none=>none)
 |_=>none
def GW(P:Program)(t:TypeId):Option (TypeId×Nat):=
 match P.underlying t with
 |some (.slice e)=>if(P.info? e).isSome then some (e,P.cellsOf e)else none
 |_=>none
def a5g(P:Program)(t:TypeId):Option (Nat×Nat):=
 match P.underlying t with
 |some (.array n e)=>if(P.info? e).isSome then some (P.cellsOf e,n)else none
 |_=>none
def MU(P:Program)(t:TypeId):Bool:=match P.underlying t with|some .string=>true|_=>false
def Uw(P:Program)(t:TypeId):Option IntKind:=match P.underlying t with|some (.int k)=>some k|_=>none
def a3m(P:Program)(t:TypeId):Bool:=match P.underlying t with|some .bool=>true|_=>false
def Vu(P:Program)(t:TypeId):Bool:=match P.underlying t with
 |some (.struct fs)=>match fs.toList with
  | [f,g]=>f.name != "_" &&g.name != "_" &&f.offset==0&&g.offset==1&&MU P f.type&&MU P g.type&& !P.stoodInHeld t&& !P.eqGuardType P.depth t
  |_=>false
 |_=>false
def peq(P:Program)(op:BinOp)(t:TypeId):D->D->Option D
 | .bool a,.bool b=>if a3m P t=true then match op with| .eql=>some (.bool (a==b))| .neq=>some (.bool (a != b))|_=>none else none
 | .agg [.str a,.str b],.agg [.str c,.str d]=>if Vu P t=true then match op with| .eql=>some (.bool (a==c&&b==d))| .neq=>some (.bool (!(a==c&&b==d)))|_=>none else none
 |_,_=>none
def a5h(P:Program)(t:TypeId):Bool:=match P.underlying t with|some (.interface _)=>true|_=>false
def a5I(P:Program)(op:BinOp)(t:TypeId)(x:D)(y:Operand):Option D:=match x,y with
 | .ifc b,.const .nilIface=>(match a5h P t,op with|true,.eql=>some (.bool (!b))|true,.neq=>some (.bool b)|_,_=>none)
 |_,_=>none
def XG(op:BinOp):D->D->Option D
 | .int k a,.int k' b=>
  if k=k' then
   match op with
   | .add=>some (.int k (k.wrap (a+b)))
   | .sub=>some (.int k (k.wrap (a-b)))
   | .mul=>some (.int k (k.wrap (a*b)))
   | .quo=>if 0<=a/\0<b then some (.int k (a/b))else none
   | .rem=>if 0<=a/\0<b then some (.int k (a%b))else none
   | .eql=>some (.bool (a==b))
   | .neq=>some (.bool (a != b))
   | .lss=>some (.bool (a<b))
   | .leq=>some (.bool (a<=b))
   | .gtr=>some (.bool (a>b))
   | .geq=>some (.bool (a>=b))
   |_=>none
  else none
 | .str a,.str b=>
  match op with
  | .add=>if a.length+b.length<=maxLen then some (.str (a++b))else none
  | .eql=>some (.bool (a==b))
  | .neq=>some (.bool (!(a==b)))
  | .lss=>some (.bool (Op.bytesLess a b))
  | .leq=>some (.bool (Op.bytesLess a b||a==b))
  | .gtr=>some (.bool (!(Op.bytesLess a b||a==b)))
  | .geq=>some (.bool (!(Op.bytesLess a b)))
  |_=>none
 |_,_=>none
def IG(ag:Bool)(n:Nat)(row:aQ)(off:Nat):Option D:=
 if ag then(if off+n<=row.length then some (.agg ((row.drop off).take n))else none)else row[off]?
def NG(len:Nat)(lo hi:Option D):Option (Nat×Nat):=
 match(match hi with|none=>some len|some (.int _ h)=>if 0<=h/\h.toNat<=len then some h.toNat else none|_=>none)with
 |none=>none
 |some h=>match(match lo with|none=>some 0|some (.int _ l)=>if 0<=l/\l.toNat<=h then some l.toNat else none|_=>none)with
  |none=>none
  |some l=>some (l,h)
def a1i(a b:Int):Int:=if b<a then b else a
def a5H:D->D->Option D
 | .int k m,.int k' n=>if k=k' then some (.int k (a1i m n))else none
 |_,_=>none
def a2F(P:Program)(st:St)(x:Operand)(t:TypeId):Option D:=
 match st.ev x with
 | .str s=>if MU P t then some (.int .i64 s.length)else none
 | .sl rows=>if(GW P t).isSome then some (.int .i64 rows.length)else none
 | .nil=>if(GW P t).isSome then some (.int .i64 0)else none
 | .acc id=>(match GW P t,st.H[id]? with|some _,some (.row _ _ _ rows)=>some (.int .i64 rows.length)|_,_=>none)
 |_=>none
def D.cellsOf:D->Option aQ
 | .agg ds=>some ds
 | .any=>none
 | .ij _=>none
 | .val v=>if v.oneCell' then some [.val v]else none
 |d=>some [d]
def tz(P:Program)(t:TypeId):Option aQ:=
 match P.info? t with
 |some i=>(match i.zero with
  |some z=>if z.cells.toList.all (fun c=>c.oneCell')&&z.cells.size==i.size then some (z.cells.toList.map D.UX)else none
  |none=>none)
 |none=>none
def Vv(P:Program)(t:TypeId):Option (List (Nat×Nat)):=
 match P.underlying t with
 |some (.struct fs)=>fs.toList.mapM (fun f=>(P.info? f.type).map fun i=>(f.offset,i.size))
 |_=>none
def yU(places:List (Nat×Nat))(cells:aQ):List (Nat×D)->Option aQ
 | []=>some cells
 | (i,d)::rest=>match places[i]?,d.cellsOf with
  |some (off,sz),some ds=>if ds.length=sz/\off+sz<=cells.length then yU places (cells.take off++ds++cells.drop (off+sz)) rest else none
  |_,_=>none
def keq:D->D->Option Bool
 | .str a,.str b=>some (a==b)
 | .int k a,.int k' b=>if k=k' then some (a==b)else none
 |_,_=>none
def Jh:TypeDesc->D->Bool
 | .string,.str _=>true
 | .int k,.int k' _=>decide (k=k')
 |_,_=>false
def G6(k:D):List (D×D)->Option (Option D)
 | []=>some none
 |p::r=>match keq k p.1 with|some true=>some (some p.2)|some false=>G6 k r|none=>none
def LD(k v:D):List (D×D)->Option (List (D×D))
 | []=>some [(k,v)]
 |p::r=>match keq k p.1 with|some true=>some ((k,v)::r)|some false=>(LD k v r).map (p:: ·)|none=>none
def XV(P:Program)(T:TypeId):Option (TypeDesc×D):=
 match P.underlying T with
 |some (.map kt et)=>(match P.underlying kt,P.info? et with
  |some d,some i=>(match i.zero with|some z=>if z.oneCell'=true then some (d,D.UX z)else none|none=>none)
  |_,_=>none)
 |_=>none
def plk(P:Program)(T:TypeId)(kv:List (D×D))(k:D)(ok:Bool):Option D:=
 match XV P T with
 |some (kd,dz)=>(match Jh kd k,G6 k kv with
  |true,some (some d)=>some (bif ok then .ij [d,.bool true]else d)
  |true,some none=>some (bif ok then .ij [dz,.bool false]else dz)
  |_,_=>none)
 |none=>none
def a2j(k:IntKind)(a b:Int):Int:=k.wrap ((BitVec.ofInt k.bits a&&& BitVec.ofInt k.bits b).toNat)
def a6C(k:IntKind)(a b:Int):Int:=k.wrap ((BitVec.ofInt k.bits a|||BitVec.ofInt k.bits b).toNat)
def a2l(k:IntKind)(a b:Int):Int:=k.wrap ((BitVec.ofInt k.bits a^^^BitVec.ofInt k.bits b).toNat)
def a2S(k:IntKind)(a b:Int):Int:=a.fdiv (2^(min b.toNat k.bits))
def a5G(op:BinOp)(x y:D):Option D:=match x,y with
 | .int k a,.int k' b=>(match op with
  | .and=>if k=k' then some (.int k (a2j k a b))else none
  | .or=>if k=k' then some (.int k (a6C k a b))else none
  | .xor=>if k=k' then some (.int k (a2l k a b))else none
  | .shr=>if 0<=b then some (.int k (a2S k a b))else none
  |_=>none)
 |_,_=>none
theorem sC.shr{k:IntKind}{a:Int}(h:sC k a)(b:Int):sC k (a2S k a b):=by
 have hm:(0:Int)<2^(min b.toNat k.bits):=Int.pow_pos (by decide);unfold a2S;rw[Int.fdiv_eq_ediv_of_nonneg _ (CU hm)];generalize(2:Int)^(min b.toNat k.bits)=m at hm;have hz:=sC.zero k;rcases Int.lt_or_le a 0 with h0|h0
 ·refine⟨CW h.1 (Int.le_ediv_of_mul_le hm ?_),CW (CU (Dd (b:=0) hm (by omega))) hz.2⟩;have:a*m<=a*1:=Int.mul_le_mul_of_nonpos_left (CU h0) (by omega);omega
 ·exact h.down (DS h0 (CU hm)) (Int.ediv_le_self m h0)
def pv(P:Program)(st:St):Op->Option D
 | .lookup T x i ok=>match st.ev x with
  | .acc id=>(match st.H[id]? with|some (.mp kv)=>plk P T kv (st.ev i) ok|_=>none)
  |_=>none
 | .build t parts=>match tz P t,Vv P t with
  |some zs,some ps=>(yU ps zs (parts.toList.map fun p=>(p.1,st.ev p.2))).map D.agg
  |_,_=>none
 | .move x=>some (st.ev x)
 | .assign x=>some (st.ev x)
 | .pick c a b=>match st.ev c with| .bool t=>some (bif t then st.ev a else st.ev b)|_=>none
 | .binOp op t x y _=>match XG op (st.ev x) (st.ev y)with|some d=>some d|none=>(match peq P op t (st.ev x) (st.ev y)with|some d=>some d|none=>(match a5I P op t (st.ev x) y with|some d=>some d|none=>a5G op (st.ev x) (st.ev y)))
 | .nilCheck x=>match st.ev x with| .ptr i o=>some (.ptr i o)| .op i a b c=>some (.op i a b c)| .ep r o=>some (.ep r o)|_=>none
 | .unOp .not _ x=>match st.ev x with| .bool b=>some (.bool (!b))|_=>none
 | .unOp .neg _ x=>match st.ev x with| .int k n=>some (.int k (k.wrap (0-n)))|_=>none
 | .convert s d x=>match st.ev x,Uw P s,Uw P d with| .int _ n,some _,some k=>some (.int k (k.wrap n))|_,_,_=>none
 | .field t x f=>match tft P t f,st.ev x with
  |some (off,ft),.agg cells=>(match Aj P ft with|some ag=>IG ag (zm P ft) cells off|none=>none)
  |_,_=>none
 | .fieldAddr t x f=>match tfo P t f,st.ev x with
  |some o,.ptr id off=>some (.ptr id (off+o))
  |some o,.ep row off=>some (.ep row (off+o))
  |some o,.op id i sz off=>some (.op id i sz (off+o))
  |_,_=>none
 | .indexAddr t x i=>match GW P t,st.ev x,st.ev i with
  |some (_,sz),.sl rows,.int _ n=>if 0<=n then(match rows[n.toNat]? with|some row=>if row.length=sz then some (.ep row 0)else none|none=>none)else none
  |some (_,sz),.acc id,.int _ n=>(match st.H[id]? with
   |some (.row _ _ sz' rows)=>if sz=sz'/\0<=n/\n.toNat<rows.length then some (.op id n.toNat sz 0)else none
   |_=>none)
  |_,.val (.pointer (some ⟨g,o,none⟩)),.int _ n=>(match a5g P t with
   |some (sz,len)=>if 0<=n/\n.toNat<len then some (.val (.pointer (some ⟨g,o+n.toNat*sz,none⟩)))else none
   |none=>none)
  |_,_,_=>none
 | .load t x=>match Aj P t,st.ev x with
  |some ag,.ep row off=>IG ag (zm P t) row off
  |some ag,.ptr id off=>(match(st.H[id]?).bind Ob.Wa with|some cells=>IG ag (zm P t) cells off|none=>none)
  |some ag,.op id i sz off=>(match st.H[id]? with
   |some (.row k _ sz' rows)=>(match rows[i]? with|some row=>if sz'=sz/\k.Qt=true/\off+(bif ag then zm P t else 1)<=sz then IG ag (zm P t) row off else none|none=>none)
   |_=>none)
  |some ag,.val (.pointer (some ⟨g,o,none⟩))=>(match ag with|false=>W9 g o|true=>none)
  |_,_=>none
 | .extract x i=>match st.ev x with| .ij vs=>vs[i]? |_=>none
 | .index t x i=>match MU P t,st.ev x,st.ev i with
  |true,.str s,.int _ n=>if 0<=n then(match s[n.toNat]? with|some b=>some (.int .u8 b.toNat)|none=>none)else none
  |_,_,_=>none
 | .slice t x lo hi none=>match st.ev x with
  | .str s=>if MU P t then(match NG s.length (lo.map st.ev) (hi.map st.ev)with|some (l,h)=>some (.str ((s.take h).drop l))|none=>none)else none
  | .sl rows=>(match GW P t,NG rows.length (lo.map st.ev) (hi.map st.ev)with
   |some (_,sz),some (l,h)=>if(rows.all (fun r=>r.length==sz))then some (.sl ((rows.take h).drop l))else none
   |_,_=>none)
  |_=>none
 | .call c=>match c.callee,c.args.toList,c.argTypes.toList with
  | .builtin .len,[x],[t]=>a2F P st x t
  | .builtin .min,[x,y],[_,_]=>a5H (st.ev x) (st.ev y)
  |_,_,_=>none
 |_=>none
section
variable{P:Program}{Γ:tY}{st:St}{κ:Nat->Option Value}{Θ:Nat->Nat}{a:Act}{w:World}
def xG(P:Program)(κ:Nat->Option Value)(Θ:Nat->Nat)(a:Act)(w:World)(o:Oper)(d:D):Prop:=
 ∃v bs,(execOp a.eval o).run P w=.ok (.value v) w/\sD w κ v d bs/\∀b∈bs,Θ b=0
theorem Qp{n:Nat}(h:n<=maxLen):sC .i64 (n:Int):=by
 rw[sC.i64];unfold maxLen at h;omega
theorem gM{k:IntKind}{n:Int}(h:sC k n):k.wrap n=n:=by
 unfold sC at h;cases k<;>simp[IntKind.min,IntKind.max,IntKind.wrap,IntKind.bits,IntKind.signed]at h⊢ <;>(try split)<;>omega
theorem Ua{o:Oper}{op:BinOp}{t t':TypeId}{x y:Operand}{d:D}(hs:dY Γ st κ Θ a w)(ho:o.op=.binOp op t x y t')
 (h:XG op (st.ev x) (st.ev y)=some d):xG P κ Θ a w o d:=by
 obtain⟨b1,r1,_⟩:=hs.ev x;obtain⟨b2,r2,_⟩:=hs.ev y;generalize st.ev x=dx at*;generalize st.ev y=dy at*;unfold XG at h;split at h
 ·rename_i k p k' q;split at h
  ·rename_i hk;subst hk;have e1:=r1.qk;have e2:=r2.qk;cases op<;>simp only[ar,reduceCtorEq]at h
   case quo=>
    split at h
    ·rename_i hq;cases h;have hq0:q≠0:=by omega
     have hle:p/q<=p:=Int.ediv_le_self q hq.1;have h0:0<=p/q:=DS hq.1 (by omega);have hin:=r1.OB.down h0 hle;have hw:k.wrap (p.tdiv q)=p/q:=by
      rw[Int.tdiv_eq_ediv_of_nonneg hq.1];exact gM hin
     exact⟨_,[],by simp[execOp,ho,e1,e2,binOp,eqGuard,Op.intDiv,hq0,hw],.of (.int _ _ hin),by simp⟩
    ·cases h
   case rem=>
    split at h
    ·rename_i hq;cases h;have hq0:q≠0:=by omega
     have h0:0<=p%q:=Int.emod_nonneg p hq0;have hle:p%q<=p:=by
      have h1:=Int.emod_add_mul_ediv p q;have h2:0<=q*(p/q):=Int.mul_nonneg (by omega) (DS hq.1 (by omega));omega
     have hin:=r1.OB.down h0 hle;have hw:p.tmod q=p%q:=Int.tmod_eq_emod_of_nonneg hq.1;exact⟨_,[],by simp[execOp,ho,e1,e2,binOp,eqGuard,Op.intDiv,hq0,hw],.of (.int _ _ hin),by simp⟩
    ·cases h
   all_goals subst h
   all_goals first
    |exact⟨_,[],by simp[execOp,ho,e1,e2,binOp,eqGuard,Op.intArith],.of (.int _ _ (sC.wrap _ _)),by simp⟩
    |exact⟨_,[],by simp[execOp,ho,e1,e2,binOp,eqGuard,Op.intCmp],.of (.bool _),by simp⟩
  ·cases h
 ·rename_i p q;obtain⟨u,e1,rfl⟩:=r1.um;obtain⟨v,e2,rfl⟩:=r2.um;cases op<;>simp only[ar,reduceCtorEq]at h
  case add=>
   split at h
   ·rename_i hl;cases h;have hsz:u.size+v.size<=9223372036854775807:=by
     simp only[vA,maxLen]at hl;exact hl
    refine⟨.string (u++v),[],?_,?_,by simp⟩
    ·simp[execOp,ho,e1,e2,binOp,eqGuard,run_string_add_sum w u v hsz]
    ·have:=Rd.str (w:=w) (u++v) (by rw[ByteArray.size_append'];unfold maxLen;omega);simp only[ByteArray.data_append,ke]at this;exact .of this
   ·cases h
  all_goals subst h
  all_goals exact⟨_,[],by simp[execOp,ho,e1,e2,binOp,eqGuard,Op.stringOp,ByteArray.toList_eq],.of (.bool _),by simp⟩
 ·cases h
theorem GV{t:TypeId}{b:Bool}(h:Aj P t=some b)(w:World):(isAgg t).run P w=.ok b w:=by
 unfold Aj at h;split at h<;>first
  | (rename_i hu;cases h;simp[isAgg,run_underlying hu])
  | (rename_i d _ _ hu;cases h;cases d<;>simp_all [isAgg,run_underlying hu])
  |cases h
theorem info_of_underlying{t:TypeId}{d:TypeDesc}(h:P.underlying t=some d):∃i,P.info? t=some i:=by
 unfold Program.underlying at h;cases hi:P.info? t with
 |none=>simp[hi]at h
 |some i=>exact⟨i,rfl⟩
theorem LC{t:TypeId}{b:Bool}(h:Aj P t=some b):∃i,P.info? t=some i:=by
 unfold Aj at h;split at h<;>first
  | (rename_i hu;exact info_of_underlying hu)
  |cases h
theorem vc{t:TypeId}(h:∃i,P.info? t=some i)(w:World):(sizeOf t).run P w=.ok (zm P t) w:=by
 obtain⟨i,hi⟩:=h;simp[sizeOf,typeInfo,hi,zm,Program.cellsOf]
theorem pG{t:TypeId}{ag:Bool}(ht:Aj P t=some ag){b off o:Nat}{cs:bh}
 (hc:∀j c,cs[j]?=some c->w.cell? ⟨b,off+j,none⟩=some c):
 (ag=true->o+zm P t<=cs.length->(Instr.loadAt t (.pointer (some ⟨b,off+o,none⟩))).run P w=.ok (.agg ((cs.drop o).take (zm P t)).toArray) w)/\
 (ag=false->∀c,cs[o]?=some c->(Instr.loadAt t (.pointer (some ⟨b,off+o,none⟩))).run P w=.ok c w):=by
 constructor
 ·intro e hl;subst e;have hlen:((cs.drop o).take (zm P t)).length=zm P t:=by simp;omega
  have:=run_loadCells_list (P:=P) w ⟨b,off+o,none⟩ ((cs.drop o).take (zm P t)) (by
   intro j v hj;rw[Addr.add_lit];rw[cQ]at hj;split at hj
   ·rw[eD]at hj;rw[qM];exact hc _ _ hj
   ·cases hj)
  rw[hlen]at this;simp[Instr.loadAt,Instr.sureAddr,loadVar,GV ht,vc (LC ht),this]
 ·intro e c hj;subst e;have:=hc o c hj;simp[Instr.loadAt,Instr.sureAddr,loadVar,GV ht,this]
theorem zj.RJ{v:Value}{d:D}{bs:aY}(h:zj w κ v d bs):sD w κ v d bs:=.v (.cell h)
theorem OI{o:Oper}{t:TypeId}{x:Operand}{d:D}(hs:dY Γ st κ Θ a w)(ho:o.op=.load t x)
 (h:pv P st (.load t x)=some d):xG P κ Θ a w o d:=by
 obtain⟨b1,r1,z1⟩:=hs.ev x;simp only[pv]at h;split at h
 ·rename_i ag row off ht hx;rw[hx]at r1;have hrd:=r1.Tv;generalize VZ:a.eval x=vx at hrd;cases hrd with
  |ep b base cs _ _ bs h0 hc tV=>
   have L:=pG (P:=P) (w:=w) ht (o:=off) hc;unfold IG at h;split at h
   ·rename_i hag;split at h
    ·rename_i hl;cases h;have hl':off+zm P t<=cs.length:=by rw[tV.length];exact hl
     obtain⟨b',hm,hsub⟩:=tV.mid off (zm P t);exact⟨_,b',by simp only[execOp,ho,VZ];simp[L.1 hag hl'],.of (.agg _ _ _ hm),fun y hy=>z1 y (by simp[hsub y hy])⟩
    ·cases h
   ·rename_i hag;simp only[xY]at hag;obtain⟨v,b',hv,_,hr,hsub⟩:=tV.at h;exact⟨v,b',by simp only[execOp,ho,VZ];simp[L.2 hag v hv],.of hr,fun y hy=>z1 y (by simp[hsub y hy])⟩
 ·rename_i ag id off ht hx;rw[hx]at r1;obtain⟨g,hk,hv⟩:=r1.BE;split at h
  ·rename_i cells hH;obtain⟨ob,hH,Am⟩:=nD.1 hH;obtain⟨g',cs,T,hk',hg,hΘ,bs,tV,hz⟩:=(hs.ob id _ hH).cs Am;rw[hk]at hk';cases hk';have hc:∀j c,cs.toList[j]?=some c->w.cell? ⟨g,0+j,none⟩=some c:=by
    intro j c hj;simp only[cg,World.cell?,hg];simpa using hj
   have L:=pG (P:=P) (w:=w) ht (o:=off) hc;simp only[cg]at L;unfold IG at h;split at h
   ·rename_i hag;split at h
    ·rename_i hl;cases h;have hl':off+zm P t<=cs.toList.length:=by rw[tV.length];exact hl
     obtain⟨b',hm,hsub⟩:=tV.mid off (zm P t) hl;exact⟨_,b',by simp only[execOp,ho,hv];simp[L.1 hag hl'],.v (.agg _ _ _ hm),fun y hy=>hz y (hsub y hy)⟩
    ·cases h
   ·rename_i hag;simp only[xY]at hag;obtain⟨v,b',hv',_,hr,hsub⟩:=tV.at h;exact⟨v,b',by simp only[execOp,ho,hv];simp[L.2 hag v hv'],hr.RJ,fun y hy=>hz y (hsub y hy)⟩
  ·cases h
 ·rename_i ag id i sz off ht hx;rw[hx]at r1;obtain⟨g,o0,len,cap,hk,hv⟩:=r1.GB;split at h
  ·rename_i k e sz' rows hH;split at h
   ·rename_i row hrow;split at h
    ·rename_i a6R;obtain⟨rfl,hk0,hoff⟩:=a6R;obtain⟨hsz,hrl,vk,cs,bs,VY,hown,tV,hΘ,hz⟩:=hs.ob id _ hH;have yb:∀b∈bs,Θ b=0:=by cases k<;>first|exact hz|simp[RK.Qt]at hk0
     rw[hk]at VY;cases VY;have ho0:=DL hown;subst ho0;rw[cg]at hv;have VX:row.length=sz':=hrl row (aC hrow);have hcells:∀j c,cs[j]?=some c->w.cell? ⟨g,0+j,none⟩=some c:=by
      intro j c hj;have:=hown.cells (g:=g) (by simp[Value.ownBlock]) j c hj;simpa[Addr.add_lit]using this
     have L:=pG (P:=P) (w:=w) ht (o:=i*sz'+off) hcells;simp only[cg]at L;have a9o:=tV.length;have hmid:=Fx hrl hrow;have hlt:i<rows.length:=(aF.1 hrow).1;have hfl:=oP hrl;have hle:(i+1)*sz'<=rows.length*sz':=dN _ hlt;rw[jg,mj]at hle;unfold IG at h;split at h
     ·rename_i hag;subst hag;simp only[aU]at hoff;split at h
      ·rename_i hl;cases h;have hl':i*sz'+off+zm P t<=cs.length:=by rw[a9o,hfl];omega
       obtain⟨b',hm,hsub⟩:=tV.mid (i*sz'+off) (zm P t);have e:(rows.flatten.drop (i*sz'+off)).take (zm P t)=(row.drop off).take (zm P t):=by
        rw[<-hmid,List.drop_take,uC,gL,eX (by omega)]
       rw[e]at hm;exact⟨_,b',by simp only[execOp,ho,hv];simp[L.1 rfl hl'],.of (.agg _ _ _ hm),fun y hy=>yb y (hsub y hy)⟩
      ·cases h
     ·rename_i hag;simp only[xY]at hag;subst hag;simp only[af]at hoff;have e:rows.flatten[i*sz'+off]?=some d:=by
       rw[<-hmid,cQ,bX (by omega),eD]at h;exact h
      obtain⟨v,b',hv',_,hr,hsub⟩:=tV.at e;exact⟨v,b',by simp only[execOp,ho,hv];simp[L.2 rfl v hv'],.of hr,fun y hy=>yb y (hsub y hy)⟩
    ·cases h
   ·cases h
  ·cases h
 ·rename_i ag g o' ht hx;rw[hx]at r1;have hv:=r1.W8;split at h
  ·obtain⟨ds,⟨p,hp,hcs⟩,hd⟩:=a0a h;obtain⟨B,hB,_⟩:=hs.vsb;obtain⟨_,cs,T,z,hg,hpc⟩:=hB _ hp;obtain⟨v,MF,hrd⟩:=hcs _ hpc _ _ hd;have hc:∀j c,cs.toList[j]?=some c->w.cell? ⟨g,0+j,none⟩=some c:=by
    intro j c hj;simp only[cg,World.cell?,hg];simpa using hj
   have L:=(pG (P:=P) (w:=w) ht (o:=o') hc).2 rfl v MF;rw[cg]at L;exact⟨v,[],by simp only[execOp,ho,hv];simp[L],.of (hrd w),by simp⟩
  ·cases h
 ·cases h
theorem SD{o:Oper}{t f:Nat}{x:Operand}{d:D}(hs:dY Γ st κ Θ a w)(ho:o.op=.field t x f)
 (h:pv P st (.field t x f)=some d):xG P κ Θ a w o d:=by
 obtain⟨b1,r1,z1⟩:=hs.ev x;simp only[pv]at h;split at h
 ·rename_i off ft cells ht hx;rw[hx]at r1;obtain⟨cs,hv,tV⟩:=r1.GN;unfold tft at ht;split at ht
  ·rename_i fs hu;split at ht
   ·rename_i fl hfl;cases ht;split at h
    ·rename_i ag hta;unfold IG at h;split at h
     ·rename_i hag;subst hag;split at h
      ·rename_i hl;cases h;obtain⟨b',hm,hsub⟩:=tV.mid fl.offset (zm P fl.type) hl;refine⟨.agg ((cs.drop fl.offset).take (zm P fl.type)).toArray,b',?_,.v (.agg _ _ _ hm),fun y hy=>z1 y (hsub y hy)⟩;have e:cs.toArray.extract fl.offset (fl.offset+zm P fl.type)=((cs.drop fl.offset).take (zm P fl.type)).toArray:=by
        rw[List.extract_toArray,List.extract_eq_take_drop];congr 1;congr 1;omega
       simp only[execOp,ho,hv];simp[Instr.field,run_underlying hu,hfl,asAgg,part,GV hta,vc (LC hta),e]
      ·cases h
     ·rename_i hag;simp only[xY]at hag;subst hag;obtain⟨v,b',MF,_,hr,hsub⟩:=tV.at h;refine⟨v,b',?_,.v (.cell hr),fun y hy=>z1 y (hsub y hy)⟩;simp only[execOp,ho,hv];simp[Instr.field,run_underlying hu,hfl,asAgg,part,GV hta,MF]
    ·cases h
   ·cases ht
  ·cases ht
 ·cases h
theorem N9{o:Oper}{t f:Nat}{x:Operand}{d:D}(hs:dY Γ st κ Θ a w)(ho:o.op=.fieldAddr t x f)
 (h:pv P st (.fieldAddr t x f)=some d):xG P κ Θ a w o d:=by
 obtain⟨b1,r1,z1⟩:=hs.ev x;have hf:∀ {o':Nat},tfo P t f=some o'->∀(b off:Nat),(Instr.fieldAt t (.pointer (some ⟨b,off,none⟩)) f).run P w=.ok (.pointer (some ⟨b,off+o',none⟩)) w:=by
  intro o' h b off;unfold tfo at h;split at h
  ·rename_i fs hu;split at h
   ·rename_i fl hfl;split at h
    ·rename_i hc;cases h;obtain⟨i,hi⟩:=dw.1 hc.1;have hsz:=vc (P:=P) ⟨i,hi⟩ w;have h0:zm P fl.type≠0:=hc.2;simp[Instr.fieldAt,run_underlying hu,hfl,Instr.sureAddr,fieldPlace,hsz,h0,Addr.add_lit]
    ·cases h
   ·cases h
  ·cases h
 simp only[pv]at h;split at h
 ·rename_i o' id off ht hx;cases h;rw[hx]at r1;obtain⟨g,hk,hv⟩:=r1.BE;exact⟨_,[],by simp only[execOp,ho,hv];simp[hf ht g off],(zj.ptr id (off+o') g hk).RJ,by simp⟩
 ·rename_i o' row off ht hx;cases h;rw[hx]at r1;have hrd:=r1.Tv;generalize VZ:a.eval x=vx at hrd;cases hrd with
  |ep b base cs _ _ bs h0 hc tV=>
   refine⟨.pointer (some ⟨b,base+off+o',none⟩),b::bs,by simp only[execOp,ho,VZ];simp[hf ht b (base+off)],?_,z1⟩;rw[qM];exact .of (.ep b base cs row (off+o') bs h0 hc tV)
 ·rename_i o' id i sz off ht hx;cases h;rw[hx]at r1;obtain⟨g,o0,len,cap,hk,hv⟩:=r1.GB;refine⟨.pointer (some ⟨g,o0+(i*sz+off)+o',none⟩),[],by simp only[execOp,ho,hv];simp[hf ht g (o0+(i*sz+off))],?_,by simp⟩;rw[qM,qM];exact(zj.op id i sz (off+o') g o0 len cap hk).RJ
 ·cases h
theorem ot{t e sz:Nat}(h:GW P t=some (e,sz)):P.underlying t=some (.slice e)/\(∃i,P.info? e=some i)/\zm P e=sz:=by
 unfold GW at h;split at h
 ·rename_i e' hu;split at h
  ·rename_i hi;cases h;exact⟨hu,dw.1 hi,rfl⟩
  ·cases h
 ·cases h
theorem ND{o:Oper}{t:Nat}{x i:Operand}{d:D}(hs:dY Γ st κ Θ a w)(ho:o.op=.indexAddr t x i)
 (h:pv P st (.indexAddr t x i)=some d):xG P κ Θ a w o d:=by
 obtain⟨b1,r1,z1⟩:=hs.ev x;obtain⟨b2,r2,z2⟩:=hs.ev i;simp only[pv]at h;split at h
 ·rename_i e sz rows k n ht hx hi;rw[hx]at r1;rw[hi]at r2;have hn:=r2.qk;obtain⟨hu,MD,LA⟩:=ot ht;have hsz:=vc (P:=P) MD w;split at h
  ·rename_i h0;split at h
   ·rename_i row hrow;split at h
    ·rename_i hlen;cases h;have hrd:=r1.R9;have hlt:n.toNat<rows.length:=(aF.1 hrow).1;generalize VZ:a.eval x=vx at hrd;cases hrd with
     |zR=>simp at hrow
     |oL=>simp at hrow
     |sl b off cap sz' _ cs bs hb hcap BW hrl hc tV=>
      have a9r:sz'=sz:=by rw[<-hrl row (aC hrow)];exact hlen
      subst a9r;obtain⟨b',hm,hsub⟩:=tV.mid (n.toNat*sz') sz';rw[Fx hrl hrow]at hm;have hn':0<=n/\n<(rows.length:Int):=⟨h0,by omega⟩
      refine⟨.pointer (some ⟨b,off+n.toNat*sz',none⟩),b::b',?_,?_,?_⟩
      ·simp only[execOp,ho,VZ,hn];simp[Instr.indexAt,asIntOf,run_underlying hu,hn',hsz,LA,Addr.add_lit]
      ·have a9p:∀j c,((cs.drop (n.toNat*sz')).take sz')[j]?=some c->w.cell? ⟨b,off+n.toNat*sz'+j,none⟩=some c:=by
        intro j c hj;rw[cQ]at hj;split at hj
        ·rw[eD]at hj;rw[qM];exact hc _ _ hj
        ·cases hj
       exact .of (.ep b (off+n.toNat*sz') _ row 0 b' hb a9p hm)
      ·intro y hy;rcases bI.1 hy with rfl|hy
       ·exact z1 _ (by simp)
       ·exact z1 _ (by simp[hsub y hy])
    ·cases h
   ·cases h
  ·cases h
 ·rename_i e sz id k n ht hx hi;rw[hx]at r1;rw[hi]at r2;have hn:=r2.qk;obtain⟨hv,_⟩:=r1.vg;obtain⟨hu,MD,LA⟩:=ot ht;have hsz:=vc (P:=P) MD w;split at h
  ·rename_i dp e' sz' rows hH;split at h
   ·rename_i hc;cases h;obtain⟨rfl,h0,hlt⟩:=hc;obtain⟨a4Z,hrl,vk,cs,bs,VY,hown,tV,hΘ,hz⟩:=hs.ob id _ hH;rw[hv]at VY;cases VY;rcases hown.2 with⟨tC,yb⟩|⟨g,cap,cur,hkv,_⟩
    ·omega
    ·have hn':0<=n/\n<(rows.length:Int):=⟨h0,by omega⟩
     refine⟨_,[],?_,(zj.op id n.toNat sz 0 g 0 _ _ (hkv▸hv)).RJ,by simp⟩;simp only[execOp,ho,hn,hkv];simp[Instr.indexAt,asIntOf,run_underlying hu,hn',hsz,LA,Addr.add_lit]
   ·cases h
  ·cases h
 ·rename_i g o' kk n hx hi;rw[hx]at r1;rw[hi]at r2;have hn:=r2.qk;have hv:=r1.W8;split at h
  ·rename_i sz len hT;split at h
   ·rename_i hc;cases h;obtain⟨h0,hlt⟩:=hc;unfold a5g at hT;split at hT
    ·rename_i len' e hu;split at hT
     ·rename_i MD;cases hT;have hsz:=vc (P:=P) (dw.1 MD) w;have hn':0<=n/\n<(len:Int):=⟨h0,by omega⟩
      refine⟨_,[],?_,.of (.val _),by simp⟩;simp only[execOp,ho,hn,hv];simp[Instr.indexAt,Instr.sureAddr,asIntOf,run_underlying hu,hn',hsz,zm,Addr.add_lit]
     ·cases hT
    ·cases hT
   ·cases h
  ·cases h
 ·cases h
theorem X3{o:Oper}{t t':Nat}{x y:Operand}{d:D}(hs:dY Γ st κ Θ a w)(ho:o.op=.call {callee:=.builtin .min,args:= #[x,y],argTypes:= #[t,t']})
 (h:a5H (st.ev x) (st.ev y)=some d):xG P κ Θ a w o d:=by
 obtain⟨b1,r1,z1⟩:=hs.ev x;obtain⟨b2,r2,z2⟩:=hs.ev y;unfold a5H at h;split at h
 ·rename_i k m k' n hx hy;split at h
  ·rename_i hk;subst hk;cases h;rw[hx]at r1;rw[hy]at r2;have e1:=r1.qk;have e2:=r2.qk;refine⟨.int k (a1i m n),[],?_,.of (.int _ _ ?_),by simp⟩
   ·simp only[execOp,ho,resolve,invoke,builtin,oR,bD,bZ,e1,e2];simp[Builtin.min_,Builtin.min2,a1i]
   ·unfold a1i;split
    ·exact r2.OB
    ·exact r1.OB
  ·cases h
 ·cases h
theorem Wy{o:Oper}{t:Nat}{x:Operand}{d:D}(hs:dY Γ st κ Θ a w)(ho:o.op=.call {callee:=.builtin .len,args:= #[x],argTypes:= #[t]})
 (h:a2F P st x t=some d):xG P κ Θ a w o d:=by
 obtain⟨b1,r1,z1⟩:=hs.ev x;unfold a2F at h;split at h
 ·rename_i s hx;split at h
  ·rename_i ht;cases h;rw[hx]at r1;obtain⟨u,hv,rfl⟩:=r1.um;have hu:P.underlying t=some .string:=by
    unfold MU at ht;split at ht
    ·assumption
    ·cases ht
   refine⟨.int .i64 (u.data.toList.length:Nat),[],?_,.of (.int _ _ (Qp r1.a0S)),by simp⟩;simp only[execOp,ho,resolve,invoke,builtin,oR,bD,bZ,hv];simp[Builtin.len_,run_underlying hu,goInt]
  ·cases h
 ·rename_i rows hx;split at h
  ·rename_i ht;cases h;rw[hx]at r1;obtain⟨⟨e,sz⟩,ht⟩:=dw.1 ht;obtain⟨hu,_,_⟩:=ot ht;have hrd:=r1.R9;generalize VZ:a.eval x=vx at hrd;have hlen:∃q c,vx=.slice q rows.length c:=by
    cases hrd with
    |zR=>exact⟨_,_,rfl⟩
    |oL=>exact⟨_,_,rfl⟩
    |sl=>exact⟨_,_,rfl⟩
   have BW:rows.length<=maxLen:=by
    cases hrd with
    |zR=>simp
    |oL=>simp
    |sl b off cap sz _ cs bs hb h1 h2=>omega
   obtain⟨q,c,rfl⟩:=hlen;refine⟨.int .i64 rows.length,[],?_,.of (.int _ _ (Qp BW)),by simp⟩;simp only[execOp,ho,resolve,invoke,builtin,oR,bD,bZ,VZ];simp[Builtin.len_,run_underlying hu,goInt]
  ·cases h
 ·rename_i hx;split at h
  ·rename_i ht;cases h;rw[hx]at r1;obtain⟨⟨e,sz⟩,ht⟩:=dw.1 ht;obtain⟨hu,_,_⟩:=ot ht;have hv:=r1.LJ;refine⟨.int .i64 0,[],?_,.of (.int _ _ (sC.zero _)),by simp⟩;simp only[execOp,ho,resolve,invoke,builtin,oR,bD,bZ,hv];simp[Builtin.len_,run_underlying hu,goInt]
  ·cases h
 ·rename_i id hx;split at h
  ·rename_i p dp e' sz' rows ht hH;cases h;rw[hx]at r1;obtain⟨hv,_⟩:=r1.vg;obtain⟨e,sz⟩:=p;obtain⟨hu,_,_⟩:=ot ht;obtain⟨a4Z,hrl,vk,cs,bs,VY,hown,tV,hΘ,hz⟩:=hs.ob id _ hH;rw[hv]at VY;cases VY;have hlen:∃q c,a.eval x=.slice q rows.length c:=by
    rcases hown.2 with⟨tC,yb⟩|⟨g,cap,cur,hkv,_⟩
    ·exact⟨none,0,by rw[tC,yb]⟩
    ·exact⟨_,_,hkv⟩
   have BW:rows.length<=maxLen:=by
    rcases hown.2 with⟨tC,yb⟩|⟨g,cap,cur,hkv,_,_,h1,h2,_⟩
    ·omega
    ·omega
   obtain⟨q,c,hk⟩:=hlen;refine⟨.int .i64 rows.length,[],?_,.of (.int _ _ (Qp BW)),by simp⟩;simp only[execOp,ho,resolve,invoke,builtin,oR,bD,bZ,hk];simp[Builtin.len_,run_underlying hu,goInt]
  ·cases h
 ·cases h
theorem Cg.at{vs:bh}{ds:aQ}{bs:aY}(h:Cg w κ vs ds bs){i:Nat}{d:D}(hd:ds[i]?=some d):
 ∃v b,vs[i]?=some v/\NY w κ v d b/\∀x∈b,x∈bs:=by
 induction ds generalizing vs bs i with
 |nil=>simp at hd
 |cons e ds ih=>
  cases h with
  |cons v vs _ _ b1 b2 h2 h3=>
   cases i with
   |zero=>simp at hd;subst hd;exact⟨v,b1,by simp,h2,by intro x hx;simp[hx]⟩
   |succ i=>
    simp at hd;obtain⟨u,b,k1,k3,k4⟩:=ih h3 hd;exact⟨u,b,by simpa using k1,k3,fun x hx=>by simp[k4 x hx]⟩
theorem sD.a2Z{v:Value}{ds:aQ}{bs:aY}(h:sD w κ v (.ij ds) bs):∃vs:bh,v=.tuple vs.toArray/\Cg w κ vs ds bs:=by
 cases h with
 |v h=>cases h with|cell h=>cases h with|pure h=>cases h
 |ij vs _ _ h=>exact⟨vs,rfl,h⟩
theorem PI{o:Oper}{i:Nat}{x:Operand}{d:D}(hs:dY Γ st κ Θ a w)(ho:o.op=.extract x i)
 (h:pv P st (.extract x i)=some d):xG P κ Θ a w o d:=by
 obtain⟨b1,r1,z1⟩:=hs.ev x;simp only[pv]at h;split at h
 ·rename_i vs hx;rw[hx]at r1;obtain⟨us,hv,hr⟩:=r1.a2Z;obtain⟨v,b,k1,k2,k3⟩:=hr.at h;exact⟨v,b,by simp only[execOp,ho,hv];simp[Instr.extract,k1],.v k2,fun y hy=>z1 y (k3 y hy)⟩
 ·cases h
theorem xu{t:Nat}(ht:MU P t=true):P.underlying t=some .string:=by
 unfold MU at ht;split at ht
 ·assumption
 ·cases ht
theorem SV{o:Oper}{t:Nat}{x i:Operand}{d:D}(hs:dY Γ st κ Θ a w)(ho:o.op=.index t x i)
 (h:pv P st (.index t x i)=some d):xG P κ Θ a w o d:=by
 obtain⟨b1,r1,z1⟩:=hs.ev x;obtain⟨b2,r2,z2⟩:=hs.ev i;simp only[pv]at h;split at h
 ·rename_i s k n ht hx hi;rw[hx]at r1;rw[hi]at r2;obtain⟨u,hv,rfl⟩:=r1.um;have hn:=r2.qk;have hu:=xu ht;split at h
  ·rename_i h0;split at h
   ·rename_i b hb;cases h;have hlt:n.toNat<u.size:=by
     have:=(aF.1 hb).1;simpa using this
    have O2:u[n.toNat]?=some b:=by
     have hb':u.data[n.toNat]?=some b:=by simpa using hb
     rw[getElem?_pos u n.toNat hlt];rw[bH]at hb';obtain⟨_,he⟩:=hb';rw[<-he];rfl
    refine⟨.int .u8 b.toNat,[],?_,.of (.int _ _ (sC.u8.2 (by have:=b.toNat_lt;omega))),by simp⟩;simp only[execOp,ho,hv,hn];simp[Instr.index,asIntOf,run_underlying hu,h0,O2]
   ·cases h
  ·cases h
 ·cases h
theorem R3{lo hi:Option Operand}{l h':Nat}{isSlice:Bool}{len cap:Nat}(hs:dY Γ st κ Θ a w)
 (hlc:len<=cap) (h:NG len (lo.map st.ev) (hi.map st.ev)=some (l,h')):
 (Instr.sliceBounds isSlice len cap (lo.map a.eval) (hi.map a.eval) none).run P w=.ok (l,h',cap) w/\l<=h'/\h'<=len:=by
 have hv:∀ {x:Operand} {k:IntKind} {n:Int},st.ev x=.int k n->a.eval x=.int k n:=by
  intro x k n hx;obtain⟨b,r,_⟩:=hs.ev x;rw[hx]at r;exact r.qk
 unfold NG at h;cases hi with
 |none=>
  simp only[yf]at h⊢;cases lo with
  |none=>
   simp only[yf,ar,cR]at h⊢;obtain⟨rfl,rfl⟩:=h;exact⟨by simp[Instr.sliceBounds],by omega,by omega⟩
  |some lo=>
   simp only[cV]at h⊢;cases hlo:st.ev lo<;>simp only[hlo,reduceCtorEq]at h;rename_i k n;split at h
   ·cases h
   ·rename_i l0 hm;split at hm
    ·rename_i hb;cases hm;cases h;have Ph:0<=n/\n<=(h':Int):=⟨hb.1,by omega⟩
     exact⟨by simp[Instr.sliceBounds,Instr.sliceBound,hv hlo,asIntOf,Ph],hb.2,by omega⟩
    ·cases hm
 |some hi=>
  simp only[cV]at h⊢;cases hhi:st.ev hi<;>simp only[hhi,reduceCtorEq]at h;rename_i k m;split at h
  ·cases h
  ·rename_i h0 hm;split at hm
   ·rename_i hb;cases hm;have Ph:0<=m/\m<=(cap:Int):=⟨hb.1,by omega⟩
    cases lo with
    |none=>
     simp only[yf,ar,cR]at h⊢;obtain⟨rfl,rfl⟩:=h;exact⟨by simp[Instr.sliceBounds,Instr.sliceBound,hv hhi,asIntOf,Ph],by omega,hb.2⟩
    |some lo=>
     simp only[cV]at h⊢;cases hlo:st.ev lo<;>simp only[hlo,reduceCtorEq]at h;rename_i k' n;split at h
     ·cases h
     ·rename_i l0 hm;split at hm
      ·rename_i Xo;cases hm;cases h;have hb3:0<=n/\n<=max m 0:=⟨Xo.1,by omega⟩
       exact⟨by simp[Instr.sliceBounds,Instr.sliceBound,hv hhi,hv hlo,asIntOf,Ph,hb3],Xo.2,hb.2⟩
      ·cases hm
   ·cases hm
theorem Zx{rows:List aQ}{sz l h':Nat}(hrl:∀r∈rows,r.length=sz)(h1:l<=h')(h2:h'<=rows.length):
 ((rows.take h').drop l).flatten=(rows.flatten.drop (l*sz)).take ((h'-l)*sz):=by
 have e:rows=(rows.take l)++(((rows.take h').drop l)++rows.drop h'):=by
  have hA:rows.take h'=(rows.take h').take l++(rows.take h').drop l:=(cG _ _).symm;have hB:(rows.take h').take l=rows.take l:=by rw[uC,eX h1]
  rw[hB]at hA;rw[<-bQ,<-hA,cG]
 have l1:(rows.take l).flatten.length=l*sz:=by
  rw[oP (fun r hr=>hrl r (cK hr)),cJ,eX (by omega)]
 have l2:((rows.take h').drop l).flatten.length=(h'-l)*sz:=by
  rw[oP (fun r hr=>hrl r (cK (jf hr))),xa,cJ,eX (by omega)]
 have hf:rows.flatten=(rows.take l).flatten++(((rows.take h').drop l).flatten++(rows.drop h').flatten):=by
  rw[<-kf,<-kf,<-e]
 rw[hf,fM l1,iM l2]
theorem TA{o:Oper}{t:Nat}{x:Operand}{lo hi:Option Operand}{d:D}(hs:dY Γ st κ Θ a w)(ho:o.op=.slice t x lo hi none)
 (h:pv P st (.slice t x lo hi none)=some d):xG P κ Θ a w o d:=by
 obtain⟨b1,r1,z1⟩:=hs.ev x;simp only[pv]at h;split at h
 ·rename_i s hx;rw[hx]at r1;obtain⟨u,hv,rfl⟩:=r1.um;split at h
  ·rename_i ht;have hu:=xu ht;split at h
   ·rename_i l h' hc;cases h;obtain⟨hr,hl,hh⟩:=R3 (P:=P) (isSlice:=false) (cap:=u.data.toList.length) hs (bR _) hc;have hsz:u.data.toList.length=u.size:=by simp
    rw[hsz]at hr;refine⟨.string (u.extract l h'),[],?_,?_,by simp⟩
    ·simp only[execOp,ho,hv];simp[Instr.sliceAt,Instr.slice,run_underlying hu,hr]
    ·have:=Rd.str (w:=w) (u.extract l h') (by
      have h1:=r1.a0S;simp at h1⊢;omega)
     have e:(u.extract l h').data.toList=(u.data.toList.take h').drop l:=by
      simp[ByteArray.data_extract,List.drop_take]
     rw[e]at this;exact .of this
   ·cases h
  ·cases h
 ·rename_i rows hx;rw[hx]at r1;have hrd:=r1.R9;split at h
  ·rename_i e sz l h' ht hc;split at h
   ·rename_i hall;cases h;obtain⟨hu,MD,LA⟩:=ot ht;have hsz:=vc (P:=P) MD w;have hrl:∀r∈rows,r.length=sz:=by
     intro r hr;have:=b8.1 hall r hr;simpa using this
    generalize VZ:a.eval x=vx at hrd;have main:∀(q:Option Addr) (cap:Nat),vx=.slice q rows.length cap->rows.length<=cap->
     (execOp a.eval o).run P w=.ok (.value (.slice (if cap=l then q else q.map (·.add (l*sz))) (h'-l) (cap-l))) w/\l<=h'/\h'<=rows.length:=by
     intro q cap hq hcap;obtain⟨hr,hl,hh⟩:=R3 (P:=P) (isSlice:=true) (cap:=cap) hs hcap hc;refine⟨?_,hl,hh⟩;simp only[execOp,ho,VZ,hq];simp[Instr.sliceAt,Instr.slice,run_underlying hu,hr,hsz,LA]
    cases hrd with
    |zR=>
     obtain⟨hr,hl,hh⟩:=main none 0 rfl (by simp);simp only[bG]at hh;have e1:h'=0:=by omega
     have e2:l=0:=by omega
     subst e1;subst e2;exact⟨_,[],hr,by simpa using sD.of (κ:=κ) (Rd.zR (w:=w)),by simp⟩
    |oL ad cap hm=>
     obtain⟨hr,hl,hh⟩:=main (some ad) cap rfl (by simp);simp only[bG]at hh;have e1:h'=0:=by omega
     have e2:l=0:=by omega
     subst e1;subst e2;refine⟨_,[],hr,?_,by simp⟩;have:(if cap=0 then some ad else(some ad).map (·.add (0*sz)))=some ad:=by simp[Addr.add]
     rw[this];exact .of (by simpa using Rd.oL (w:=w) ad cap hm)
    |sl b off cap sz' _ cs bs hb hcap BW NC hcc tV=>
     obtain⟨hr,hl,hh⟩:=main (some ⟨b,off,none⟩) cap rfl hcap;by_cases he:h'=l
     ·subst he;refine⟨_,[],hr,?_,by simp⟩;have e1:(rows.take h').drop h'=[]:=by simp
      rw[e1,oH];split
      ·exact .of (.oL _ _ (by omega))
      ·simp only[cV];exact .of (.oL _ _ (by omega))
     ·have hne:cap≠l:=by omega
      rw[bL hne,cV,Addr.add_lit]at hr;obtain⟨b',hm,hsub⟩:=tV.mid (l*sz) ((h'-l)*sz);rw[<-Zx hrl hl hh]at hm;refine⟨_,b::b',hr,?_,?_⟩
      ·have hlen:((rows.take h').drop l).length=h'-l:=by simp;omega
       rw[<-hlen];refine .of (.sl b (off+l*sz) (cap-l) sz _ _ b' hb (by omega) (by omega) (fun r hr=>hrl r (cK (jf hr))) ?_ hm);intro j c hj;rw[cQ]at hj;split at hj
       ·rw[eD]at hj;rw[qM];exact hcc _ _ hj
       ·cases hj
      ·intro y hy;rcases bI.1 hy with rfl|hy
       ·exact z1 _ (by simp)
       ·exact z1 _ (by simp[hsub y hy])
   ·cases h
  ·cases h
 ·cases h
theorem Pr{v:Value}(h:v.oneCell'=true):v.cells.toList=[v]:=by
 cases v<;>first|rfl|cases h
theorem zj.one{v:Value}{d:D}{bs:aY}(h:zj w κ v d bs)(hk:∀(id:Nat) u,κ id=some u->u.oneCell'=true)(hna:∀es,d≠ .agg es)(hc:d.cellsOf=some [d]):v.oneCell'=true:=by
 cases h with
 |pure h=>
  cases h<;>first
   |rfl
   | (exfalso;exact hna _ rfl)
   | (simp[D.cellsOf]at hc;done)
   | (simp only[D.cellsOf]at hc;split at hc<;>first|assumption|cases hc)
 |acc i v h=>exact hk i v h
 |ptr=>rfl
 |op=>rfl
theorem Bs{v:Value}{d:D}{bs:aY}{ds:aQ}(hk:∀(id:Nat) u,κ id=some u->u.oneCell'=true)(h:sD w κ v d bs)(hc:d.cellsOf=some ds):ec w κ v.cells.toList ds bs:=by
 have single:∀ {v d bs},zj w κ v d bs->(∀es,d≠ .agg es)->d.cellsOf=some [d]->ec w κ v.cells.toList [d] bs:=by
  intro v d bs h hna hc;have h1:=h.one hk hna hc;rw[Pr h1];have:=ec.cons v [] d [] bs [] h1 h .nil;simpa using this
 cases h with
 |ij=>simp[D.cellsOf]at hc
 |v h=>
  cases h with
  |agg cs _ _ h=>simp only[D.cellsOf,ar]at hc;subst hc;simpa[Value.cells]using h
  |cell h=>
   by_cases uA:∃es,d=.agg es
   ·obtain⟨es,rfl⟩:=uA;simp only[D.cellsOf,ar]at hc;subst hc;cases h with
    |pure h=>cases h with|agg cs _ _ h=>simpa[Value.cells]using ec.DX (κ:=κ) h
   ·have e:ds=[d]:=by
     cases d<;>simp only[D.cellsOf,ar,reduceCtorEq]at hc<;>first
      |exact hc.symm
      | (exfalso;exact uA ⟨_,rfl⟩)
      | (split at hc<;>first| (simp at hc;exact hc.symm)|cases hc)
    subst e;exact single h (fun es he=>uA ⟨es,he⟩) hc
theorem xx{T:TypeId}{zs:aQ}(hz:tz P T=some zs):∃i z,P.info? T=some i/\i.zero=some z/\z.cells.size=i.size/\zs.length=i.size/\(∀c∈z.cells.toList,c.oneCell'=true)/\zs=z.cells.toList.map D.UX:=by
 unfold tz at hz;split at hz
 ·rename_i i hi;split at hz
  ·rename_i z P0;split at hz
   ·rename_i hc;cases hz;simp only[aZ,b8,cj]at hc;exact⟨i,z,hi,P0,hc.2,by simp[hc.2],hc.1,rfl⟩
   ·cases hz
  ·cases hz
 ·cases hz
theorem CN(cs:bh)(h:∀c∈cs,c.oneCell'=true):ec w κ cs (cs.map D.UX) []:=by
 induction cs with
 |nil=>exact .nil
 |cons c cs ih=>
  have hrd:Rd w c (D.UX c) []:=by
   unfold D.UX;split
   ·exact .bool _
   ·split
    ·rename_i h;exact .int _ _ h
    ·exact .val _
   ·split
    ·rename_i h;exact .str _ h
    ·exact .val _
   ·exact .nil
   ·exact .val _
  have:=ec.cons (κ:=κ) c cs _ _ [] [] (h c (by simp)) (.pure hrd) (ih (fun x hx=>h x (by simp[hx])));simpa using this
theorem foldl_set(off:Nat):∀(vs:bh) (k:Nat) (cells:Array Value),off+k+vs.length<=cells.size->
 ((vs.zipIdx k).foldl (fun cs (x:Value×Nat)=>cs.setIfInBounds (off+x.2) x.1) cells).toList=cells.toList.take (off+k)++vs++cells.toList.drop (off+k+vs.length):=by
 intro vs
 induction vs with
 |nil=>intro k cells _;simp
 |cons v vs ih=>
  intro k cells h;simp only[aL]at h;rw[List.zipIdx_cons,cm,ih (k+1) _ (by simp;omega)];simp only[Array.toList_setIfInBounds,aL];have hlt:off+k<cells.toList.length:=by simp;omega
  rw[show off+(k+1)=off+k+1 from by omega,List.take_set,List.drop_set,bX (by omega)];rw[show off+k+1+vs.length=off+k+(vs.length+1)from by omega]
  congr 1
  rw[show v::vs=[v]++vs from rfl,<-bQ]
  congr 1
  rw[List.take_succ_eq_append_getElem hlt,lQ _ _ (by simp;omega)];have:(List.take (off+k) cells.toList).length=off+k:=by rw[cJ];omega
  rw[this,oH];rfl
theorem VP(hs:dY Γ st κ Θ a w){places:List (Nat×Nat)}:∀(parts:List (Nat×Operand)) (cs:Array Value) (cells ds:aQ) (bs:aY),
 ec w κ cs.toList cells bs->(∀b∈bs,Θ b=0)->yU places cells (parts.map fun p=>(p.1,st.ev p.2))=some ds->
 ∃arr bs',Instr.fill (places.toArray[·]?) cs (parts.map fun p=>(p.1,a.eval p.2))=some arr/\ec w κ arr.toList ds bs'/\∀b∈bs',Θ b=0:=by
 intro parts
 induction parts with
 |nil=>
  intro cs cells ds bs hr hz hf;simp only[bZ,yU,ar]at hf;subst hf;exact⟨cs,bs,rfl,hr,hz⟩
 |cons p parts ih=>
  intro cs cells ds bs hr hz hf
  ·obtain⟨i,x⟩:=p;obtain⟨b,hv,hb⟩:=hs.ev x;generalize hvv:a.eval x=v at hv;simp only[bD,yU]at hf;split at hf
   ·rename_i off sz es hpl hes;split at hf
    ·rename_i hc;have hcs:=Bs hs.pM hv hes;have hl1:=hcs.length;have DG:=hr.length;have e:cells=cells.take off++((cells.drop off).take sz++(cells.drop off).drop sz):=by rw[cG,cG]
     rw[e]at hr;obtain⟨v1,v2,c1,c2,O7,rfl,k1,k2⟩:=hr.split;obtain⟨v3,v4,c3,c4,rfl,rfl,k3,k4⟩:=k2.split;have l1:v1.length=off:=by rw[k1.length];simp;omega
     have l3:v3.length=sz:=by rw[k3.length];simp;omega
     have hvs:v.cells.size=sz:=by rw[<-hc.1,<-hl1];simp
     have hcl:cs.size=cells.length:=by rw[<-DG];simp
     have Yj:=foldl_set off v.cells.toList 0 cs (by simp;omega);simp only[s9,vA,hvs]at Yj;have e1:cs.toList.take off=v1:=by rw[O7];exact iM l1
     have e4:cs.toList.drop (off+sz)=v4:=by rw[O7,<-gL,fM l1];exact fM l3
     rw[e1,e4]at Yj;rw[gL]at k4;have hnew:=(k1.app hcs).app k4;obtain⟨arr,bs',h1,h2,h3⟩:=ih (v.cells.zipIdx.foldl (fun cs (x:Value×Nat)=>cs.setIfInBounds (off+x.2) x.1) cs) _ ds ((c1++b)++c4)
      (by rw[<-Array.foldl_toList,Array.toList_zipIdx,Yj];exact hnew)
      (by
       intro x hx;simp only[aj]at hx;rcases hx with(hx|hx)|hx
       ·exact hz x (by simp[hx])
       ·exact hb x hx
       ·exact hz x (by simp[hx])) hf
     refine⟨arr,bs',?_,h2,h3⟩;simp only[bD,Instr.fill,lP,hpl,hvv];rw[bL (by simp;omega)];simpa using h1
    ·cases hf
   ·cases hf
theorem Ry{o:Oper}{t:TypeId}{parts:Array (Nat×Operand)}{d:D}(hs:dY Γ st κ Θ a w)(ho:o.op=.build t parts)
 (h:pv P st (.build t parts)=some d):xG P κ Θ a w o d:=by
 simp only[pv]at h;split at h
 ·rename_i zs ps hz hp;cases hf:yU ps zs (parts.toList.map fun p=>(p.1,st.ev p.2))with
  |none=>simp[hf]at h
  |some ds=>
   simp only[hf,cV,ar]at h;subst h;obtain⟨i,z,hi,yb,hsz,hlen,hone,rfl⟩:=xx hz;obtain⟨arr,bs',h1,h2,h3⟩:=VP hs parts.toList z.cells _ ds [] (CN z.cells.toList hone) (by simp) hf;have hb:P.built t (parts.map fun(i,x)=>(i,a.eval x)).toList=some arr:=by
    unfold Vv at hp;split at hp
    ·rename_i fs hu;unfold Program.built;simp only[hi,hu,yb,hp];rw[iR];exact h1
    ·cases hp
   refine⟨.agg arr,bs',?_,?_,h3⟩
   ·simp only[execOp,ho];simp[run_build w t _ arr hb]
   ·have:=NY.agg (w:=w) (κ:=κ) arr.toList ds bs' h2;exact .v (by simpa using this)
 ·cases h
theorem run_equalIn_bool{t:TypeId}{a b:Bool}(h:P.underlying t=some .bool)(d:Nat):(Op.equalIn (d+1) t (.bool a) (.bool b)).run P w=.ok (a==b) w:=by
 simp[Op.equalIn,run_underlying h]
theorem Da{t:TypeId}{a b:ByteArray}(h:P.underlying t=some .string)(d:Nat):(Op.equalIn (d+1) t (.string a) (.string b)).run P w=.ok (a==b) w:=by
 simp[Op.equalIn,run_underlying h]
theorem LQ{t:TypeId}(h:MU P t=true){xs:Array Value}{off:Nat}{v:Value}(hx:xs[off]?=some v):(part t xs off).run P w=.ok v w:=by
 simp[part,isAgg,run_underlying (xu h),hx]
theorem MR{t:TypeId}{a b c e:ByteArray}(h:Vu P t=true)(d:Nat):(Op.equalIn (d+2) t (.agg #[.string a,.string b]) (.agg #[.string c,.string e])).run P w=.ok (a==c&&b==e) w:=by
 unfold Vu at h;split at h
 ·rename_i fs hu;split at h
  ·rename_i f g hfs;simp only[aZ,bne_iff_ne,ne_eq,cj,pZ]at h;obtain⟨⟨⟨⟨⟨⟨⟨h1,h2⟩,h3⟩,h4⟩,h5⟩,h6⟩,h7⟩,h8⟩:=h;have a9L:fs= #[f,g]:=by apply ue.mp;simpa using hfs
   subst a9L;have p1:=fun(xs:Array Value) (v:Value) (hx:xs[0]?=some v)=>LQ (w:=w) h5 hx
   have p2:=fun(xs:Array Value) (v:Value) (hx:xs[1]?=some v)=>LQ (w:=w) h6 hx
   have q1:=Da (P:=P) (w:=w) (a:=a) (b:=c) (xu h5) d;have q2:=Da (P:=P) (w:=w) (a:=b) (b:=e) (xu h6) d;rw[Op.equalIn];generalize(a==c)=r1 at q1⊢;generalize(b==e)=r2 at q2⊢;cases r1<;>cases r2<;>simp[run_underlying hu,h7,h1,h2,h3,h4,p1,p2,q1,q2]
  ·cases h
 ·cases h
theorem ec.Vx{κ:Nat->Option Value}{cs:bh}{p q:Bytes}{bs:aY}(h:ec w κ cs [.str p,.str q] bs):∃u v:ByteArray,cs=[.string u,.string v]/\u.data.toList=p/\v.data.toList=q:=by
 cases h with
 |cons v1 vs _ _ b1 b2 _ h1 h2=>
  cases h2 with
  |cons v2 vs' _ _ b3 b4 _ h3 h4=>
   cases h4;obtain⟨u,rfl,hu⟩:=(sD.v (.cell h1):sD w κ _ _ _).um;obtain⟨v,rfl,hv⟩:=(sD.v (.cell h3):sD w κ _ _ _).um;exact⟨u,v,rfl,hu,hv⟩
theorem YK(u v:ByteArray):(u==v)=(u.data==v.data):=by cases u;cases v;rfl
theorem XH{o:Oper}{op:BinOp}{t t':TypeId}{x y:Operand}{d:D}(hs:dY Γ st κ Θ a w)(ho:o.op=.binOp op t x y t')
 (h:peq P op t (st.ev x) (st.ev y)=some d):xG P κ Θ a w o d:=by
 obtain⟨b1,r1,_⟩:=hs.ev x;obtain⟨b2,r2,_⟩:=hs.ev y;generalize st.ev x=dx at*;generalize st.ev y=dy at*;unfold peq at h;split at h
 ·rename_i p q;split at h
  ·rename_i hb;have hu:P.underlying t=some .bool:=by
    unfold a3m at hb;split at hb
    ·assumption
    ·cases hb
   have e1:=r1.wW;have e2:=r2.wW;have hq:=run_equalIn_bool (P:=P) (w:=w) (a:=p) (b:=q) hu 9999;have q':(Op.equal t (.bool p) (.bool q)).run P w=.ok (p==q) w:=hq;cases op<;>simp only[ar,reduceCtorEq]at h
   all_goals subst h
   all_goals exact⟨_,[],by(simp[execOp,ho,e1,e2,binOp,eqGuard,q'])<;>(cases p<;>cases q<;>rfl),.of (.bool _),by simp⟩
  ·cases h
 ·rename_i p1 p2 q1 q2;split at h
  ·rename_i hb;obtain⟨cs1,e1,k1⟩:=r1.GN;obtain⟨cs2,e2,k2⟩:=r2.GN;obtain⟨u1,u2,rfl,rfl,rfl⟩:=ec.Vx k1;obtain⟨v1,v2,rfl,rfl,rfl⟩:=ec.Vx k2;have hg:P.eqGuardType P.depth t=false:=by
    unfold Vu at hb;split at hb
    ·split at hb
     ·simp only[aZ,pZ]at hb;exact hb.2
     ·cases hb
    ·cases hb
   have q:=MR (P:=P) (w:=w) (a:=u1) (b:=u2) (c:=v1) (e:=v2) hb 9998;have q':(Op.equal t (.agg #[.string u1,.string u2]) (.agg #[.string v1,.string v2])).run P w=.ok (u1==v1&&u2==v2) w:=q;cases op<;>simp only[ar,reduceCtorEq]at h
   all_goals subst h
   all_goals exact⟨_,[],by(simp[execOp,ho,e1,e2,binOp,eqGuard,hg,q'])<;>(rw[YK,YK]),.of (.bool _),by simp⟩
  ·cases h
 ·cases h
theorem sD.a1s{v:Value}{b:Bool}{bs:aY}(h:sD w κ v (.ifc b) bs):(b=false/\v=.nilIface)\/(b=true/\∃t u,v=.iface t u):=by
 cases h with|v h=>cases h with|cell h=>cases h with|pure h=>cases h with
  |Ws=>exact .inl ⟨rfl,rfl⟩
  |Wt t u=>exact .inr ⟨rfl,t,u,rfl⟩
theorem LP{t:TypeId}{ms:Array (String×TypeId)}(hu:P.underlying t=some (.interface ms)):(Op.equal t .nilIface .nilIface).run P w=.ok true w:=by
 unfold Op.equal Op.maxDepth;rw[Op.equalIn];simp[run_underlying hu]
theorem IJ{t:TypeId}{ms:Array (String×TypeId)}{t1:TypeId}{v1:Value}(hu:P.underlying t=some (.interface ms)):(Op.equal t (.iface t1 v1) .nilIface).run P w=.ok false w:=by
 unfold Op.equal Op.maxDepth;rw[Op.equalIn];simp[run_underlying hu]
theorem Ub{o:Oper}{op:BinOp}{t t':TypeId}{x y:Operand}{d:D}(hs:dY Γ st κ Θ a w)(ho:o.op=.binOp op t x y t')
 (h:a5G op (st.ev x) (st.ev y)=some d):xG P κ Θ a w o d:=by
 obtain⟨b1,r1,_⟩:=hs.ev x;obtain⟨b2,r2,_⟩:=hs.ev y;generalize st.ev x=dx at*;generalize st.ev y=dy at*;unfold a5G at h;split at h
 ·rename_i k p k' q;have e1:=r1.qk;have e2:=r2.qk;cases op<;>simp only[reduceCtorEq]at h
  case shr=>
   split at h
   ·rename_i hq;cases h;exact⟨_,[],by simp[execOp,ho,e1,e2,binOp,eqGuard,Op.shift,show¬q<0 by omega,a2S],.of (.int _ _ (r1.OB.shr q)),by simp⟩
   ·cases h
  all_goals
   split at h
   ·rename_i hk;subst hk;cases h;exact⟨_,[],by simp[execOp,ho,e1,e2,binOp,eqGuard,Op.intBits,a2j,a6C,a2l],.of (.int _ _ (sC.wrap _ _)),by simp⟩
   ·cases h
 ·cases h
theorem Uc{o:Oper}{op:BinOp}{t t':TypeId}{x y:Operand}{d:D}(hs:dY Γ st κ Θ a w)(ho:o.op=.binOp op t x y t')
 (h:a5I P op t (st.ev x) y=some d):xG P κ Θ a w o d:=by
 obtain⟨b1,r1,_⟩:=hs.ev x;generalize st.ev x=dx at*;unfold a5I at h;split at h
 ·rename_i b;have hy:a.eval (.const .nilIface)=.nilIface:=rfl;have hT:∀ {op'},a5h P t=true->op=op'->∃ms,P.underlying t=some (.interface ms):=by
   intro _ ht _;unfold a5h at ht;split at ht
   ·rename_i ms hu;exact⟨ms,hu⟩
   ·cases ht
  rcases r1.a1s with⟨rfl,hx⟩|⟨rfl,t1,v1,hx⟩
  ·split at h
   ·rename_i ht;cases h;obtain⟨ms,hu⟩:=hT ht rfl;exact⟨.bool true,[],by simp[execOp,ho,hx,hy,binOp,eqGuard_nil_constR,LP hu],.of (.bool _),by simp⟩
   ·rename_i ht;cases h;obtain⟨ms,hu⟩:=hT ht rfl;exact⟨.bool false,[],by simp[execOp,ho,hx,hy,binOp,eqGuard_nil_constR,LP hu],.of (.bool _),by simp⟩
   ·cases h
  ·split at h
   ·rename_i ht;cases h;obtain⟨ms,hu⟩:=hT ht rfl;exact⟨.bool false,[],by simp[execOp,ho,hx,hy,binOp,eqGuard,IJ hu],.of (.bool _),by simp⟩
   ·rename_i ht;cases h;obtain⟨ms,hu⟩:=hT ht rfl;exact⟨.bool true,[],by simp[execOp,ho,hx,hy,binOp,eqGuard,IJ hu],.of (.bool _),by simp⟩
   ·cases h
 ·cases h
theorem z8.cons{w:World}{e:MapEntry}{es:List MapEntry}{p:D×D}{kv:List (D×D)}(h:z8 w (e::es) (p::kv)):Rd w e.key p.1 []/\Rd w e.val p.2 []/\z8 w es kv:=
 ⟨(h.2 0 e p rfl rfl).1,(h.2 0 e p rfl rfl).2,by simpa using h.1,fun j e' p' h1 h2=>h.2 (j+1) e' p' (by simpa using h1) (by simpa using h2)⟩
theorem a2i{x y:ByteArray}:(x==y)=(x.data.toList==y.data.toList):=by
 rw[bf,MapKept.bytes_beq,cj];constructor
 ·intro h;rw[h]
 ·intro h;obtain⟨a⟩:=x;obtain⟨b⟩:=y;simp only at h;rw[ue]at h;rw[h]
theorem NQ{w:World}{kd:TypeDesc}{k k':D}{u u':Value}{b:Bool}(PK:Jh kd k=true)(hu:Rd w u k [])(zg:Rd w u' k' [])(h:keq k k'=some b):Instr.sameNow kd u u'=some b/\(b=true->u'=u):=by
 unfold keq at h;split at h
 ·rename_i s s';cases h;cases hu with
  |str x hx=>
   cases zg with
   |str y hy=>
    cases kd<;>simp[Jh]at PK;refine⟨by simp only[Instr.sameNow];rw[a2i],fun e=>?_⟩;rw[<-a2i,MapKept.bytes_beq]at e;rw[e]
 ·rename_i k1 a k2 b';split at h
  ·rename_i e;subst e;cases h;cases hu with
   |int _ _ hx=>
    cases zg with
    |int _ _ hy=>
     cases kd<;>simp[Jh]at PK;refine⟨by simp[Instr.sameNow],fun e=>?_⟩;have:a=b':=by simpa using e
     rw[this]
  ·cases h
 ·cases h
theorem a1v{w:World}{kd:TypeDesc}{k:D}{u:Value}(PK:Jh kd k=true)(hu:Rd w u k []):∀ {es:List MapEntry} {kv:List (D×D)} {r:Option D} (i:Nat),z8 w es kv->G6 k kv=some r->
 (r=none/\Instr.findNow kd u es i=some none)\/∃d v j,r=some d/\Instr.findNow kd u es i=some (some (j,v))/\Rd w v d []:=by
 intro es
 induction es with
 |nil=>
  intro kv r i hr h;cases kv with
  |nil=>cases h;exact .inl ⟨rfl,rfl⟩
  |cons p kv=>exact absurd hr.1 (by simp)
 |cons e es ih=>
  intro kv r i hr h;cases kv with
  |nil=>exact absurd hr.1 (by simp)
  |cons p kv=>
   obtain⟨r1,r2,r3⟩:=hr.cons;simp only[G6]at h;split at h
   ·rename_i hq;cases h;exact .inr ⟨p.2,e.val,i,rfl,by simp[Instr.findNow,(NQ PK hu r1 hq).1],r2⟩
   ·rename_i hq;have:=ih (i+1) r3 h;simpa[Instr.findNow,(NQ PK hu r1 hq).1]using this
   ·cases h
theorem SW{w:World}{kd:TypeDesc}{k:D}{u:Value}(PK:Jh kd k=true)(hu:Rd w u k []):MapKept.IsKey kd u:=by
 cases kd<;>cases k<;>simp[Jh]at PK
 all_goals cases hu
 ·simp[MapKept.IsKey,PK]
 ·simp[MapKept.IsKey]
theorem Po{w:World}{κ:Nat->Option Value}{kd:TypeDesc}{k:D}{u:Value}{bs:aY}(PK:Jh kd k=true)(hu:sD w κ u k bs):Rd w u k []:=by
 cases kd<;>cases k<;>simp[Jh]at PK
 all_goals cases hu with|v h=>cases h with|cell h=>cases h with|pure h=>cases h<;>(constructor;assumption)
theorem RN{t:TypeId}{i:TypeInfo}(h:P.info? t=some i){w:World}:(typeInfo t).run P w=.ok i w:=by
 simp[typeInfo,h]
theorem Oo{T:TypeId}{kd:TypeDesc}{dz:D}(h:XV P T=some (kd,dz)):∃kt et z,P.underlying T=some (.map kt et)/\P.underlying kt=some kd/\dz=D.UX z/\∀w:World,(zeroValue et).run P w=.ok z w:=by
 unfold XV at h;split at h
 ·rename_i kt et h1;split at h
  ·rename_i d i h2 h3;split at h
   ·rename_i z h4;split at h
    ·cases h;exact⟨kt,et,z,h1,h2,rfl,fun w=>by simp[zeroValue,RN h3,h4]⟩
    ·cases h
   ·cases h
  ·cases h
 ·cases h
theorem Qj{o:Oper}{T:Nat}{x i:Operand}{ok:Bool}{d:D}(hs:dY Γ st κ Θ a w)(ho:o.op=.lookup T x i ok)
 (h:pv P st (.lookup T x i ok)=some d):xG P κ Θ a w o d:=by
 simp only[pv]at h;split at h
 ·rename_i id hx;split at h
  ·rename_i kv hH;obtain⟨g,es,c,q1,q2,q3,q4⟩:=hs.ob id _ hH;obtain⟨bs,r,_⟩:=hs.ev x;rw[hx]at r;obtain⟨hk,_⟩:=r.vg;rw[q1]at hk;have Va:a.eval x=.map (some g):=(pP hk).symm;obtain⟨bi,ri,_⟩:=hs.ev i;unfold plk at h;split at h
   ·rename_i kd dz hT;obtain⟨kt,et,z,t1,t2,t3,t4⟩:=Oo hT;have fin:∀(r:Option D),Jh kd (st.ev i)=true->G6 (st.ev i) kv=some r->d=(match r with|some d=>(bif ok then .ij [d,.bool true]else d)|none=>(bif ok then .ij [dz,.bool false]else dz))->xG P κ Θ a w o d:=by
     intro r PK hf hd;have hu:=Po PK ri;have hck:=MapKept.run_checkKey (P:=P) (w:=w) t2 (SW PK hu) es.isEmpty 9999;rcases a1v PK hu 0 q4 hf with⟨rfl,hn⟩|⟨d',v,j,rfl,hn,hv⟩
     ·have hfk:=MapKept.run_findKey (P:=P) (w:=w) t2 hn;subst hd;cases ok with
      |false=>exact⟨z,[],by simp[execOp,ho,Va,Instr.lookup,run_underlying t1,MapKept.run_getObj_map q2,hck,hfk,t4],by rw[t3];exact UY z,by simp⟩
      |true=>
       refine⟨.tuple #[z,.bool false],[],by simp[execOp,ho,Va,Instr.lookup,run_underlying t1,MapKept.run_getObj_map q2,hck,hfk,t4],?_,by simp⟩;have hz:NY w κ z dz []:=by
        have:=UY (w:=w) (κ:=κ) z;rw[<-t3]at this;cases this with
        |v h=>exact h
        |ij vs ds bs h=>exact absurd t3 (by simp[D.UX])
       exact .ij [z,.bool false] [dz,.bool false] [] (.cons _ _ _ _ [] [] hz (.cons _ _ _ _ [] [] (.cell (.pure (.bool _))) .nil))
     ·have hfk:=MapKept.run_findKey (P:=P) (w:=w) t2 hn;subst hd;cases ok with
      |false=>exact⟨v,[],by simp[execOp,ho,Va,Instr.lookup,run_underlying t1,MapKept.run_getObj_map q2,hck,hfk],.of hv,by simp⟩
      |true=>
       refine⟨.tuple #[v,.bool true],[],by simp[execOp,ho,Va,Instr.lookup,run_underlying t1,MapKept.run_getObj_map q2,hck,hfk],?_,by simp⟩;exact .ij [v,.bool true] [d',.bool true] [] (.cons _ _ _ _ [] [] (.cell (.pure hv)) (.cons _ _ _ _ [] [] (.cell (.pure (.bool _))) .nil))
    split at h
    ·rename_i d' h1 h2;cases h;exact fin _ h1 h2 rfl
    ·rename_i h1 h2;cases h;exact fin _ h1 h2 rfl
    ·cases h
   ·cases h
  ·cases h
 ·cases h
theorem Rd.a4B{w:World}{v:Value}{row:aQ}{o:Nat}{bs:aY}(h:Rd w v (.ep row o) bs):∃q,v=.pointer (some q):=by
 cases h;exact⟨_,rfl⟩
theorem GD{o:Oper}{d:D}(hs:dY Γ st κ Θ a w)(h:pv P st o.op=some d):xG P κ Θ a w o d:=by
 cases ho:o.op
 all_goals rw[ho]at h
 case load t x=>exact OI hs ho h
 case lookup t x i ok=>exact Qj hs ho h
 case build t parts=>exact Ry hs ho h
 case fieldAddr t x f=>exact N9 hs ho h
 case field t x f=>exact SD hs ho h
 case indexAddr t x i=>exact ND hs ho h
 case extract x i=>exact PI hs ho h
 case index t x i=>exact SV hs ho h
 case binOp op t x y t'=>
  simp only[pv]at h;split at h
  ·rename_i e;cases h;exact Ua hs ho e
  ·split at h
   ·rename_i e;cases h;exact XH hs ho e
   ·split at h
    ·rename_i e;cases h;exact Uc hs ho e
    ·exact Ub hs ho h
 case nilCheck x=>
  simp only[pv]at h;obtain⟨b,r,z⟩:=hs.ev x;have hnn:∀q,a.eval x=.pointer (some q)->xG P κ Θ a w o (st.ev x):=fun q hq=>⟨_,b,by simp[execOp,ho,hq],hq▸r,z⟩
  split at h<;>rename_i hx<;>cases h<;>rw[hx]at r hnn
  ·obtain⟨g,_,hv⟩:=r.BE;exact hnn _ hv
  ·obtain⟨_,_,_,_,_,hv⟩:=r.GB;exact hnn _ hv
  ·obtain⟨_,hv⟩:=Rd.a4B r.Tv;exact hnn _ hv
 case slice t x lo hi mx=>
  cases mx with
  |none=>exact TA hs ho h
  |some m=>simp[pv]at h
 case move x=>
  simp only[pv,ar]at h;subst h;obtain⟨b,r,z⟩:=hs.ev x;exact⟨_,b,by simp[execOp,ho],r,z⟩
 case assign x=>
  simp only[pv,ar]at h;subst h;obtain⟨b,r,z⟩:=hs.ev x;exact⟨_,b,by simp[execOp,ho],r,z⟩
 case pick c x y=>
  simp only[pv]at h;split at h
  ·rename_i t hc;cases h;obtain⟨b,r,z⟩:=hs.ev c;rw[hc]at r;have hv:=r.wW;cases t
   ·obtain⟨b,r,z⟩:=hs.ev y;exact⟨_,b,by simp[execOp,ho,hv,asBool],r,z⟩
   ·obtain⟨b,r,z⟩:=hs.ev x;exact⟨_,b,by simp[execOp,ho,hv,asBool],r,z⟩
  ·cases h
 case unOp op t x=>
  obtain⟨b,r,z⟩:=hs.ev x;cases op<;>simp only[pv,reduceCtorEq]at h
  case neg=>
   split at h
   ·rename_i k n hx;cases h;rw[hx]at r;have hv:=r.qk;exact⟨_,[],by simp[execOp,ho,hv,Op.unary,Op.intArith],.of (.int _ _ (sC.wrap _ _)),by simp⟩
   ·cases h
  case not=>
   split at h
   ·rename_i bb hx;cases h;rw[hx]at r;have hv:=r.wW;exact⟨_,[],by simp[execOp,ho,hv,Op.unary],.of (.bool _),by simp⟩
   ·cases h
 case convert s d' x=>
  obtain⟨b,r,z⟩:=hs.ev x;simp only[pv]at h;split at h
  ·rename_i k0 n k1 k hx h1 h2;cases h;rw[hx]at r;have hv:=r.qk;have u1:P.underlying s=some (.int k1):=by
    unfold Uw at h1;split at h1
    ·cases h1;assumption
    ·cases h1
   have u2:P.underlying d'=some (.int k):=by
    unfold Uw at h2;split at h2
    ·cases h2;assumption
    ·cases h2
   exact⟨_,[],by simp[execOp,ho,hv,convert,run_underlying u1,run_underlying u2,Conv.intToInt],.of (.int _ _ (sC.wrap _ _)),by simp⟩
  ·cases h
 case call c=>
  simp only[pv]at h;split at h
  ·rename_i x t h1 h2 h3;refine Wy hs (x:=x) (t:=t) ?_ h;rw[ho];obtain⟨callee,args,argTypes⟩:=c;simp only at h1 h2 h3;subst h1;have e1:args= #[x]:=by cases args;simp_all
   have e2:argTypes= #[t]:=by cases argTypes;simp_all
   subst e1;subst e2;rfl
  ·rename_i x y t t' h1 h2 h3;refine X3 hs (x:=x) (y:=y) (t:=t) (t':=t') ?_ h;rw[ho];obtain⟨callee,args,argTypes⟩:=c;simp only at h1 h2 h3;subst h1;have e1:args= #[x,y]:=by cases args;simp_all
   have e2:argTypes= #[t,t']:=by cases argTypes;simp_all
   subst e1;subst e2;rfl
  ·cases h
 all_goals simp[pv]at h
theorem a2f{Q:Exit->St->Prop}{all:Array Oper}{rest:List Oper}{o:Oper}{t:Nat}{d:D}(hd:o.dst=some t)(hg:o.guard=none)(ht:t<Γ.nt)
 (hv:pv P st o.op=some d) (h:AO P Γ all rest Q (st.set t d)):AO P Γ all (o::rest) Q st:=by
 intro κ Θ a w hs;obtain⟨v,bs,hr,hrd,hz⟩:=GD hs hv;refine wpList_plain hg fun K hK=>?_
 unfold Oper.wp;rw[hr,Oper.upon_value,hd];exact hK _ _ (h κ Θ _ w (hs.set ht hrd hz))
end
end Go.Cx
namespace Go.Cx
open Go.RowKit
structure ig(w w':World)(Θ Θ':Nat->Nat)(tag:Nat):Prop where
 two:2<=tag
 os:w'.os=w.os
 tape:w'.tape=w.tape
 output:w'.output=w.output
 size:w.heap.size<=w'.heap.size
 block:∀b,b<w.heap.size->Θ b≠tag->w'.heap[b]?=w.heap[b]?
 owner:∀b,b<w.heap.size->Θ b≠tag->Θ' b=Θ b
 own:∀b,Θ' b≠0->b<w'.heap.size
section
variable{w w':World}{κ κ':Nat->Option Value}{Θ Θ':Nat->Nat}{tag id:Nat}{r:D}
theorem ig.free(k:ig w w' Θ Θ' tag){b:Nat}(hb:b<w.heap.size)(hz:Θ b=0):Θ' b=0:=by
 have:=k.two;rw[k.owner b hb (by omega)];exact hz
theorem Rd.over{v:Value}{d:D}{bs:aY}(k:ig w w' Θ Θ' tag)(h:Rd w v d bs)(hz:∀b∈bs,Θ b=0):Rd w' v d bs/\∀b∈bs,Θ' b=0:=by
 have:=k.two;exact⟨h.keep fun b hb=>k.block b (h.lt b hb) (by rw[hz b hb];omega),fun b hb=>k.free (h.lt b hb) (hz b hb)⟩
theorem lE.over{vs:bh}{ds:aQ}{bs:aY}(k:ig w w' Θ Θ' tag)(h:lE w vs ds bs)(hz:∀b∈bs,Θ b=0):lE w' vs ds bs/\∀b∈bs,Θ' b=0:=by
 have:=k.two;exact⟨h.keep fun b hb=>k.block b (h.lt b hb) (by rw[hz b hb];omega),fun b hb=>k.free (h.lt b hb) (hz b hb)⟩
section
variable(hn:∀(j:Nat) v,κ j=some v->κ' j=some v)
include hn
end
theorem RdH.lt{v:Value}{rows:List aQ}{p n:Nat}{bs:aY}(h:RdH w κ v rows p n bs):∀b∈bs,b<w.heap.size:=by
 obtain⟨b,off,cap,cs,ns,rfl,h1,h2,h3,h4,h5,rfl,_⟩:=h;intro x hx;rcases bI.1 hx with rfl|hx
 ·exact h1
 ·exact h5.lt x hx
section
variable(hn:∀(j:Nat) v,κ j=some v->κ' j=some v)
include hn
theorem RdH.stay{v:Value}{rows:List aQ}{p n:Nat}{bs:aY}(h:RdH w κ v rows p n bs)(hb:∀b∈bs,w'.heap[b]?=w.heap[b]?):RdH w' κ' v rows p n bs:=by
 obtain⟨b,off,cap,cs,ns,rfl,h1,h2,h3,h4,h5,rfl,c,h6,h7⟩:=h;exact⟨b,off,cap,cs,ns,rfl,LG h1 (hb b (by simp)),h2,h3,fun j c hc=>(Br (hb b (by simp))).trans (h4 j c hc),h5.keep (fun x hx=>hb x (by simp[hx])),rfl,c,h6,hn _ _ h7⟩
end
section
variable(k:ig w w' Θ Θ' tag)(hn:∀(j:Nat) v,κ j=some v->κ' j=some v)
include k hn
theorem zj.stay{v:Value}{d:D}{bs:aY}(h:zj w κ v d bs)(hz:∀b∈bs,Θ b=0):zj w' κ' v d bs/\∀b∈bs,Θ' b=0:=by
 cases h with
 |pure h=>exact⟨.pure (Rd.over k h hz).1,(Rd.over k h hz).2⟩
 |acc i v hk=>exact⟨.acc i v (hn _ _ hk),by simp⟩
 |ptr i off b hk=>exact⟨.ptr i off b (hn _ _ hk),by simp⟩
 |op i j sz off b o0 len cap hk=>exact⟨.op i j sz off b o0 len cap (hn _ _ hk),by simp⟩
theorem ec.stay{vs:bh}{ds:aQ}{bs:aY}(h:ec w κ vs ds bs)(hz:∀b∈bs,Θ b=0):ec w' κ' vs ds bs/\∀b∈bs,Θ' b=0:=by
 induction ds generalizing vs bs with
 |nil=>cases h;exact⟨.nil,by simp⟩
 |cons d ds ih=>
  cases h with
  |cons v vs _ _ b1 b2 h1 h2 h3=>
   obtain⟨k1,k2⟩:=zj.stay k hn h2 (fun b hb=>hz b (by simp[hb]));obtain⟨k3,k4⟩:=ih h3 (fun b hb=>hz b (by simp[hb]));refine⟨.cons _ _ _ _ _ _ h1 k1 k3,fun b hb=>?_⟩;rcases aj.1 hb with hb|hb
   ·exact k2 b hb
   ·exact k4 b hb
theorem NY.stay{v:Value}{d:D}{bs:aY}(h:NY w κ v d bs)(hz:∀b∈bs,Θ b=0):NY w' κ' v d bs/\∀b∈bs,Θ' b=0:=by
 cases h with
 |cell h=>exact⟨.cell (zj.stay k hn h hz).1,(zj.stay k hn h hz).2⟩
 |agg cs ds bs h=>exact⟨.agg _ _ _ (ec.stay k hn h hz).1,(ec.stay k hn h hz).2⟩
theorem Cg.stay{vs:bh}{ds:aQ}{bs:aY}(h:Cg w κ vs ds bs)(hz:∀b∈bs,Θ b=0):Cg w' κ' vs ds bs/\∀b∈bs,Θ' b=0:=by
 induction ds generalizing vs bs with
 |nil=>cases h;exact⟨.nil,by simp⟩
 |cons d ds ih=>
  cases h with
  |cons v vs _ _ b1 b2 h2 h3=>
   obtain⟨k1,k2⟩:=NY.stay k hn h2 (fun b hb=>hz b (by simp[hb]));obtain⟨k3,k4⟩:=ih h3 (fun b hb=>hz b (by simp[hb]));refine⟨.cons _ _ _ _ _ _ k1 k3,fun b hb=>?_⟩;rcases aj.1 hb with hb|hb
   ·exact k2 b hb
   ·exact k4 b hb
theorem sD.stay{v:Value}{d:D}{bs:aY}(h:sD w κ v d bs)(hz:∀b∈bs,Θ b=0):sD w' κ' v d bs/\∀b∈bs,Θ' b=0:=by
 cases h with
 |v h=>exact⟨.v (NY.stay k hn h hz).1,(NY.stay k hn h hz).2⟩
 |ij vs ds bs h=>exact⟨.ij _ _ _ (Cg.stay k hn h hz).1,(Cg.stay k hn h hz).2⟩
theorem wV.stay{j:Nat}{o:Ob}(hj:j+2≠tag)(h:wV w κ Θ j o):wV w' κ' Θ' j o:=by
 cases o with
 |gone=>trivial
 |tk rows=>
  obtain⟨v,bs,hk,hrd,hz⟩:=h;obtain⟨h1,h2⟩:=Rd.over k hrd hz;exact⟨v,bs,hn _ _ hk,h1,h2⟩
 |mp kv=>
  obtain⟨g,es,c,q1,q2,q3,q4⟩:=h;have hlt:g<w.heap.size:=(bH.1 q2).1;have hne:Θ g≠tag:=by rw[q3];exact hj
  exact⟨g,es,c,hn _ _ q1,(k.block g hlt hne).trans q2,by rw[k.owner g hlt hne];exact q3,q4.stay⟩
 |eC sz rows u=>
  obtain⟨hrl,hux,v,bs,hk,hrd,hnd,G2⟩:=h;have hsame:∀b∈bs,w'.heap[b]?=w.heap[b]?:=fun b hb=>k.block b (hrd.lt b hb) (by rw[(G2 b hb).1];exact hj)
  refine⟨hrl,fun x hx=>hn _ _ (hux x hx),v,bs,hn _ _ hk,hrd.keep hsame,hnd,fun b hb=>⟨?_,?_⟩⟩
  ·rw[k.owner b (hrd.lt b hb) (by rw[(G2 b hb).1];exact hj)];exact(G2 b hb).1
  ·obtain⟨x,T,hx⟩:=(G2 b hb).2;exact⟨x,T,(hsame b hb).trans hx⟩
 |hole sz rows u p n=>
  obtain⟨hrl,hux,v,bs,hk,hrd,hnd,G2⟩:=h;have hsame:∀b∈bs,w'.heap[b]?=w.heap[b]?:=fun b hb=>k.block b (hrd.lt b hb) (by rw[(G2 b hb).1];exact hj)
  refine⟨hrl,fun x hx=>hn _ _ (hux x hx),v,bs,hn _ _ hk,RdH.stay hn hrd hsame,hnd,fun b hb=>⟨?_,?_⟩⟩
  ·rw[k.owner b (hrd.lt b hb) (by rw[(G2 b hb).1];exact hj)];exact(G2 b hb).1
  ·obtain⟨x,T,hx⟩:=(G2 b hb).2;exact⟨x,T,(hsame b hb).trans hx⟩
 |box cells=>
  obtain⟨g,cs,T,hk,hg,hΘ,bs,tV,hz⟩:=h;have hlt:g<w.heap.size:=(bH.1 hg).1;have hne:Θ g≠tag:=by rw[hΘ];exact hj
  obtain⟨h1,h2⟩:=ec.stay k hn tV hz;exact⟨g,cs,T,hn _ _ hk,(k.block g hlt hne).trans hg,(k.owner g hlt hne).trans hΘ,bs,h1,h2⟩
 |NF cells u=>
  obtain⟨hu,g,cs,T,hk,hg,hΘ,bs,tV,hz⟩:=h;have hlt:g<w.heap.size:=(bH.1 hg).1;have hne:Θ g≠tag:=by rw[hΘ];exact hj
  obtain⟨h1,h2⟩:=ec.stay k hn tV hz;exact⟨hn _ _ hu,g,cs,T,hn _ _ hk,(k.block g hlt hne).trans hg,(k.owner g hlt hne).trans hΘ,bs,h1,h2⟩
 |row deep e sz rows=>
  obtain⟨hsz,hrl,v,cs,bs,hk,hown,tV,hΘ,hd⟩:=h;refine⟨hsz,hrl,v,cs,bs,hn _ _ hk,?_,?_,?_,?_⟩
  ·refine⟨hown.1,?_⟩;rcases hown.2 with tC|⟨g,cap,cur,rfl,hb,QV,rest⟩
   ·exact .inl tC
   ·have hlt:g<w.heap.size:=(bH.1 QV).1;have hne:Θ g≠tag:=by rw[hΘ g (by simp[Value.ownBlock])];exact hj
    exact .inr ⟨g,cap,cur,rfl,hb,(k.block g hlt hne).trans QV,rest⟩
  ·refine tV.keep fun b hb=>k.block b (tV.lt b hb) ?_
   have:=k.two;cases deep with
   |cl=>rw[(hd.2.1 b hb).1];exact hj
   |sh=>rw[hd b hb];omega
   |uq=>rw[hd b hb];omega
   |mv n=>rw[hd b hb];omega
  ·intro g hg;have hlt:=(hown.lt g hg).2;have e:=hΘ g hg;rw[k.owner g hlt (by rw[e];exact hj)];exact e
  ·cases deep with
   |cl=>
    refine⟨hd.1,fun b hb=>⟨?_,?_⟩,hd.2.2⟩
    ·rw[k.owner b (tV.lt b hb) (by rw[(hd.2.1 b hb).1];exact hj)];exact(hd.2.1 b hb).1
    ·obtain⟨x,T,hx⟩:=(hd.2.1 b hb).2;exact⟨x,T,(k.block b (tV.lt b hb) (by rw[(hd.2.1 b hb).1];exact hj)).trans hx⟩
   |sh=>exact fun b hb=>k.free (tV.lt b hb) (hd b hb)
   |uq=>exact fun b hb=>k.free (tV.lt b hb) (hd b hb)
   |mv n=>exact fun b hb=>k.free (tV.lt b hb) (hd b hb)
end
end
section
variable{Γ:tY}{st:St}{κ κ':Nat->Option Value}{Θ Θ':Nat->Nat}{a:Act}{w w':World}{tag:Nat}
theorem dY.base(hs:dY Γ st κ Θ a w):Γ.W0.heap.size<=w.heap.size:=hs.stays.size
theorem dY.UL(hs:dY Γ st κ Θ a w)(k:ig w w' Θ Θ' tag):VD Γ w':=by
 refine⟨k.os.trans hs.stays.os,k.tape.trans hs.stays.tape,k.output.trans hs.stays.output,cU hs.stays.size k.size,fun b hb hx=>?_⟩;have:=k.two;have h1:=(hs.old b hb hx).2;exact(k.block b (dV hb hs.base) (by omega)).trans (hs.stays.block b hb hx)
theorem dY.ZM(hs:dY Γ st κ Θ a w)(k:ig w w' Θ Θ' tag):∀b,b<Γ.W0.heap.size->¬Γ.X b->Θ' b=Γ.Θ0 b/\Θ' b<=1:=by
 intro b hb hx;have:=k.two;have h1:=hs.old b hb hx;rw[k.owner b (dV hb hs.base) (by omega)];exact h1
theorem dY.pH(hs:dY Γ st κ Θ a w)(k:ig w w' Θ Θ' tag)(hn:∀(j:Nat) v,κ j=some v->κ' j=some v){ρ:Nat->Nat}(hu:Aq Γ st.H κ Θ w ρ):
 (∀b,ρ b≠0->Θ' b=0/\YB Γ b/\Wr w' b)/\(∀id e sz rows,id+2≠tag->st.H[id]?=some (.row .uq e sz rows)->
  ∃v cs bs,κ' id=some v/\w'.ownsRow 0 e sz v rows.length cs/\lE w' cs rows.flatten bs/\bs.Nodup/\∀b∈bs,ρ b=id+1)/\
  ∀id o,id+2≠tag->st.H[id]?=some o->Mu w' κ' ρ id o:=by
 have h2:=k.two;refine⟨?_,?_,?_⟩
 ·intro b hb;obtain⟨h0,hm,x,T,hx⟩:=hu.free b hb;have hlt:b<w.heap.size:=(bH.1 hx).1;exact⟨k.free hlt h0,hm,x,T,(k.block b hlt (by omega)).trans hx⟩
 ·intro id e sz rows hid hH;obtain⟨v,cs,bs,hk,hown,tV,hnd,hρ⟩:=hu.rows id e sz rows hH;obtain⟨_,_,v2,_,_,hk2,_,_,hΘ,_⟩:=hs.ob id _ hH;rw[hk]at hk2;cases hk2;refine⟨v,cs,bs,hn _ _ hk,⟨hown.1,?_⟩,tV.keep fun b hb=>k.block b (tV.lt b hb) ?_,hnd,hρ⟩
  ·rcases hown.2 with tC|⟨g,cap,cur,rfl,hb,QV,rest⟩
   ·exact .inl tC
   ·have hlt:g<w.heap.size:=(bH.1 QV).1;have hne:Θ g≠tag:=by rw[hΘ g (by simp[Value.ownBlock])];exact hid
    exact .inr ⟨g,cap,cur,rfl,hb,(k.block g hlt hne).trans QV,rest⟩
  ·have:=hρ b hb;have:=(hu.free b (by omega)).1;omega
 ·intro id o hid hH;have hm:=hu.more id o hH;have hb0:∀ {bs:aY},(∀b∈bs,ρ b=id+1)->∀b∈bs,Θ b≠tag:=fun hρ b hb=>by
   have:=hρ b hb;have:=(hu.free b (by omega)).1;omega
  cases o with
  |tk rows=>
   obtain⟨v,bs,hk,hrd,hnd,hρ⟩:=hm;exact⟨v,bs,hn _ _ hk,hrd.keep fun b hb=>k.block b (hrd.lt b hb) (hb0 hρ b hb),hnd,hρ⟩
  |row kd e sz rows=>
   cases kd with
   |mv n=>
    obtain⟨v,cs,bs,hk,hown,tV,hnd,hρ⟩:=hm;obtain⟨_,_,v2,_,_,hk2,_,_,hΘ,_⟩:=hs.ob id _ hH;rw[hk]at hk2;cases hk2;refine⟨v,cs,bs,hn _ _ hk,⟨hown.1,?_⟩,tV.keep fun b hb=>k.block b (tV.lt b hb) (hb0 hρ b hb),hnd,hρ⟩;rcases hown.2 with tC|⟨g,cap,cur,rfl,hb,QV,rest⟩
    ·exact .inl tC
    ·have hlt:g<w.heap.size:=(bH.1 QV).1;have hne:Θ g≠tag:=by rw[hΘ g (by simp[Value.ownBlock])];exact hid
     exact .inr ⟨g,cap,cur,rfl,hb,(k.block g hlt hne).trans QV,rest⟩
   |_=>trivial
  |_=>trivial
theorem Mu.re{ρ ρ':Nat->Nat}{id:Nat}{o:Ob}(h:Mu w κ ρ id o)(hr:∀b,ρ b=id+1->ρ' b=id+1):Mu w κ ρ' id o:=by
 cases o with
 |tk rows=>
  obtain⟨v,bs,hk,hrd,hnd,hρ⟩:=h;exact⟨v,bs,hk,hrd,hnd,fun b hb=>hr b (hρ b hb)⟩
 |row kd e sz rows=>
  cases kd with
  |mv n=>
   obtain⟨v,cs,bs,hk,hown,tV,hnd,hρ⟩:=h;exact⟨v,cs,bs,hk,hown,tV,hnd,fun b hb=>hr b (hρ b hb)⟩
  |_=>trivial
 |_=>trivial
theorem dY.step(hs:dY Γ st κ Θ a w){H':bS}(k:ig w w' Θ Θ' tag)(hm:∀b,2<=Θ' b->BL Γ b)(hn:∀(j:Nat) v,κ j=some v->κ' j=some v)
 (hko:∀id,H'.length<=id->κ' id=none) (hk1:∀(id:Nat) u,κ' id=some u->u.oneCell'=true)
 (Am:∀(j:Nat) o,H'[j]?=some o->o=.gone\/(j+2≠tag/\st.H[j]?=some o)\/wV w' κ' Θ' j o) (hu:∃ρ,Aq Γ H' κ' Θ' w' ρ):dY Γ ⟨st.σ,H'⟩ κ' Θ' a w':=by
 refine⟨hs.defers,hs.size,hko,hk1,?_,?_,k.own,hs.ZM k,hm,hs.UL k,hu⟩
 ·intro t;obtain⟨bs,hr,hz⟩:=hs.slot t;exact⟨bs,sD.stay k hn hr hz⟩
 ·intro j o hj;rcases Am j o hj with rfl|⟨hne,hj'⟩|h
  ·trivial
  ·exact wV.stay k hn hne (hs.ob j o hj')
  ·exact h
def yc(κ:Nat->Option Value)(id:Nat)(v:Option Value):Nat->Option Value:=fun i=>if i=id then v else κ i
theorem kY(κ:Nat->Option Value)(id:Nat)(v:Option Value):yc κ id v id=v:=by simp[yc]
theorem yB{κ:Nat->Option Value}{id:Nat}(h:κ id=none)(v:Option Value):∀(j:Nat) u,κ j=some u->yc κ id v j=some u:=by
 intro j u hj;unfold yc;rw[bL (fun e=>by subst e;rw[h]at hj;cases hj)];exact hj
def Ob.Xd:Ob->Bool
 | .row .uq _ _ _=>true
 | .row (.mv _) _ _ _=>true
 | .tk _=>true
 |_=>false
def Ob.mvB:Ob->Bool
 | .row (.mv _) _ _ _=>true
 | .tk _=>true
 |_=>false
theorem Mu.yw{ρ:Nat->Nat}{id:Nat}{o:Ob}(h:o.mvB=false):Mu w κ ρ id o:=by
 cases o with
 |tk rows=>simp[Ob.mvB]at h
 |row kd e sz rows=>
  cases kd with
  |mv n=>simp[Ob.mvB]at h
  |_=>trivial
 |_=>trivial
theorem Mu.plain{ρ:Nat->Nat}{id:Nat}{o:Ob}(h:o.Xd=false):Mu w κ ρ id o:=by
 cases o with
 |tk rows=>simp[Ob.Xd]at h
 |row kd e sz rows=>
  cases kd with
  |mv n=>simp[Ob.Xd]at h
  |_=>trivial
 |_=>trivial
theorem dY.push(hs:dY Γ st κ Θ a w){v:Value}{o:Ob}(h1:v.oneCell'=true)(k:ig w w' Θ Θ' (st.H.length+2))(hm:∀b,2<=Θ' b->BL Γ b)
 (ho:wV w' (yc κ st.H.length (some v)) Θ' st.H.length o) (hq:o.Xd=false):dY Γ ⟨st.σ,st.H++[o]⟩ (yc κ st.H.length (some v)) Θ' a w':=by
 have hn:=yB (hs.qI _ (bR _)) (some v);have key:∀(j:Nat) x,(st.H++[o])[j]?=some x->(j=st.H.length/\x=o)\/(j+2≠st.H.length+2/\st.H[j]?=some x):=by
  intro j x hj;by_cases hlt:j<st.H.length
  ·rw[ax hlt]at hj;exact .inr ⟨by omega,hj⟩
  ·have hj':=(aF.1 hj).1;simp only[aS,aL,bG]at hj';have e:j=st.H.length:=by omega
   subst e;rw[bC (bR _)]at hj;simp at hj;exact .inl ⟨rfl,hj.symm⟩
 obtain⟨ρ,hu⟩:=hs.ud;have uy:=hs.pH k hn hu;refine hs.step k hm hn ?_ ?_ ?_ ⟨ρ,uy.1,?_,?_⟩
 ·intro i hi;simp only[aS,aL,bG]at hi;unfold yc;rw[bL (by omega)];exact hs.qI i (by omega)
 ·intro i u hu;unfold yc at hu;split at hu
  ·cases hu;exact h1
  ·exact hs.pM i u hu
 ·intro j x hj;rcases key j x hj with⟨rfl,rfl⟩|h
  ·exact .inr (.inr ho)
  ·exact .inr (.inl h)
 ·intro id e sz rows hj;rcases key id _ hj with⟨rfl,rfl⟩|h
  ·simp[Ob.Xd]at hq
  ·exact uy.2.1 id e sz rows h.1 h.2
 ·intro id x hj;rcases key id _ hj with⟨rfl,rfl⟩|h
  ·exact Mu.plain hq
  ·exact uy.2.2 id x h.1 h.2
theorem dY.change(hs:dY Γ st κ Θ a w){id:Nat}{o:Ob}(k:ig w w' Θ Θ' (id+2))(hm:∀b,2<=Θ' b->BL Γ b)(ho:wV w' κ Θ' id o)(hq:o.Xd=false):
 dY Γ ⟨st.σ,st.H.set id o⟩ κ Θ' a w':=by
 have key:∀(j:Nat) x,(st.H.set id o)[j]?=some x->(j=id/\x=o)\/(j+2≠id+2/\st.H[j]?=some x):=by
  intro j x hj;by_cases e:id=j
  ·subst e;have hlt:id<st.H.length:=by
    have:=(aF.1 hj).1;simpa using this
   rw[dK hlt]at hj;cases hj;exact .inl ⟨rfl,rfl⟩
  ·rw[cE e]at hj;exact .inr ⟨by omega,hj⟩
 obtain⟨ρ,hu⟩:=hs.ud;have uy:=hs.pH k (fun _ _ h=>h) hu;refine hs.step k hm (fun _ _ h=>h) (fun i hi=>hs.qI i (by simpa using hi)) hs.pM ?_ ⟨ρ,uy.1,?_,?_⟩
 ·intro j x hj;rcases key j x hj with⟨rfl,rfl⟩|h
  ·exact .inr (.inr ho)
  ·exact .inr (.inl h)
 ·intro i e sz rows hj;rcases key i _ hj with⟨rfl,rfl⟩|h
  ·simp[Ob.Xd]at hq
  ·exact uy.2.1 i e sz rows h.1 h.2
 ·intro i x hj;rcases key i _ hj with⟨rfl,rfl⟩|h
  ·exact Mu.plain hq
  ·exact uy.2.2 i x h.1 h.2
theorem dY.zk(hs:dY Γ st κ Θ a w)(h:∀b,2<=Θ' b->2<=Θ b\/w.heap.size<=b):∀b,2<=Θ' b->BL Γ b:=by
 intro b hb;rcases h b hb with h|h
 ·exact hs.mine b h
 ·exact .inl (cU hs.base h)
theorem ig.refl(h:∀b,Θ b≠0->b<w.heap.size)(h2:2<=tag):ig w w Θ Θ tag:=⟨h2,rfl,rfl,rfl,bR _,fun _ _ _=>rfl,fun _ _ _=>rfl,h⟩
theorem ig.a2E(h:∀b,Θ b≠0->b<w.heap.size)(hb:Below w.heap.size w w')(h2:2<=tag):ig w w' Θ Θ tag:=
 ⟨h2,hb.os,hb.tape,hb.output,hb.size,fun b hlt _=>hb.block b hlt,fun _ _ _=>rfl,fun b hn=>dV (h b hn) hb.size⟩
theorem dY.grow(hs:dY Γ st κ Θ a w)(hb:Below w.heap.size w w'):dY Γ st κ Θ a w':=by
 have k:ig w w' Θ Θ (st.H.length+2):=ig.a2E hs.own hb (by omega);obtain⟨ρ,hu⟩:=hs.ud;have uy:=hs.pH k (fun _ _ h=>h) hu;have hlt:∀(j:Nat) o,st.H[j]?=some o->j+2≠st.H.length+2:=fun j o h=>by
  have:=(aF.1 h).1;omega
 exact hs.step k hs.mine (fun _ _ h=>h) hs.qI hs.pM (fun j o h=>.inr (.inl ⟨hlt j o h,h⟩)) ⟨ρ,uy.1,fun id e sz rows h=>uy.2.1 id e sz rows (hlt _ _ h) h,fun id o h=>uy.2.2 id o (hlt _ _ h) h⟩
theorem dY.drew(hs:dY Γ st κ Θ a w):dY Γ st κ Θ a w.drew:=hs.grow ((Below.refl _ _).drew)
def kill(H:bS):aY->bS
 | []=>H
 |m::ms=>kill (H.set m .gone) ms
theorem gb(H:bS)(ms:aY):(kill H ms).length=H.length:=by
 induction ms generalizing H with
 |nil=>rfl
 |cons m ms ih=>simp[kill,ih]
theorem tD{H:bS}{ms:aY}{j:Nat}{o:Ob}(h:(kill H ms)[j]?=some o):o=.gone\/(j∉ms/\H[j]?=some o):=by
 induction ms generalizing H with
 |nil=>exact .inr ⟨by simp,h⟩
 |cons m ms ih=>
  rcases ih h with h|⟨h1,h2⟩
  ·exact .inl h
  ·by_cases e:m=j
   ·subst e;have hlt:=(aF.1 h2).1;rw[dK (by simpa using hlt)]at h2;cases h2;exact .inl rfl
   ·rw[cE e]at h2;exact .inr ⟨by simp[h1,sA e],h2⟩
def zy(κ:Nat->Option Value)(Θ ρ:Nat->Nat)(w:World)(m:Nat)(k:RK)(rows:List aQ):Prop:=
 ∃v bs,κ m=some v/\Rd w v (.sl rows) bs/\(∀b∈bs,Θ b=0)/\(k=.uq->bs.Nodup/\∀b∈bs,ρ b=m+1)
theorem w9{e sz:Nat}{v:Value}{rows:List aQ}{cs:bh}{bs:aY}(hrl:∀r∈rows,r.length=sz)(hown:w.ownsRow 0 e sz v rows.length cs)(tV:lE w cs rows.flatten bs):
 Rd w v (.sl rows) (v.ownBlock.toList++bs):=by
 rcases hown.2 with⟨rfl,hn⟩|⟨g,cap,cur,rfl,_,hg,hnc,hcm,_,ht⟩
 ·have:rows=[]:=cW hn;subst this;cases tV;exact .zR
 ·have hlt:g<w.heap.size:=(bH.1 hg).1;refine .sl g 0 cap sz rows cs bs hlt hnc hcm hrl (fun j c hc=>?_) tV;have:=hown.cells (g:=g) (by simp[Value.ownBlock]) j c hc;simpa[Addr.add_lit]using this
theorem dY.a5A(hs:dY Γ st κ Θ a w){ρ:Nat->Nat}(hu:Aq Γ st.H κ Θ w ρ){m e sz:Nat}{k:RK}{rows:List aQ}(hH:st.H[m]?=some (.row k e sz rows))(hk:k.Qt=true):
 ∃Θ' ρ',dY Γ ⟨st.σ,st.H.set m .gone⟩ κ Θ' a w/\Aq Γ (st.H.set m .gone) κ Θ' w ρ'/\zy κ Θ' ρ' w m k rows/\
  (∀b,Θ b=0->Θ' b=0)/\(∀b,ρ b≠0->ρ' b=ρ b):=by
 obtain⟨hsz,hrl,v,cs,bs,hkm,hown,tV,hΘ,hz⟩:=hs.ob m _ hH;have yb:∀b∈bs,Θ b=0:=by cases k<;>first|exact hz|simp[RK.Qt]at hk
 let Θ':Nat->Nat:=fun b=>if Θ b=m+2 then 0 else Θ b
 let ρ':Nat->Nat:=fun b=>if some b=v.ownBlock then m+1 else ρ b
 have hk':ig w w Θ Θ' (m+2):=⟨by omega,rfl,rfl,rfl,bR _,fun _ _ _=>rfl,fun b _ hne=>bL hne,fun b hb=>hs.own b (fun h0=>hb (by simp only[Θ'];split<;>simp_all))⟩
 have hT0:∀b,Θ b=0->Θ' b=0:=fun b h=>by simp only[Θ'];split<;>omega
 have Mb:∀b,2<=Θ' b->BL Γ b:=fun b hb=>hs.mine b (by simp only[Θ']at hb;split at hb<;>omega)
 have G5:∀g,v.ownBlock=some g->ρ g=0:=by
  intro g hg;cases h:ρ g with
  |zero=>rfl
  |succ n=>have:=(hu.free g (by omega)).1;rw[hΘ g hg]at this;omega
 have hρ:∀b,ρ b≠0->ρ' b=ρ b:=fun b hb=>bL (fun h=>hb (G5 b h.symm))
 have key:∀(j:Nat) x,(st.H.set m .gone)[j]?=some x->x=.gone\/(j+2≠m+2/\st.H[j]?=some x):=by
  intro j x hj;rcases tD (ms:=[m]) hj with h|⟨h1,h2⟩
  ·exact .inl h
  ·exact .inr ⟨by simp at h1;omega,h2⟩
 have uy:=hs.pH hk' (fun _ _ h=>h) hu;have hU:Aq Γ (st.H.set m .gone) κ Θ' w ρ':=by
  refine⟨fun b hb=>?_,fun id e sz rows h=>?_,fun id x h=>?_⟩
  ·by_cases hb':some b=v.ownBlock
   ·have e1:=hΘ b hb'.symm;refine⟨by simp only[Θ'];rw[bX e1],.inl (hs.mine b (by omega)),?_⟩;rcases hown.2 with⟨rfl,_⟩|⟨g,cap,cur,rfl,_,hg,_⟩
    ·simp[Value.ownBlock]at hb'
    ·simp[Value.ownBlock]at hb';subst hb';exact⟨_,_,hg⟩
   ·exact uy.1 b (by simp only[ρ']at hb;rwa[bL hb']at hb)
  ·rcases key id _ h with h|⟨h1,h2⟩
   ·cases h
   ·obtain⟨v2,c2,b2,q1,q2,q3,q4,q5⟩:=uy.2.1 id e sz rows h1 h2;exact⟨v2,c2,b2,q1,q2,q3,q4,fun b hb=>by rw[hρ b (by rw[q5 b hb];omega)];exact q5 b hb⟩
  ·rcases key id _ h with h|⟨h1,h2⟩
   ·subst h;trivial
   ·exact(uy.2.2 id x h1 h2).re fun b hb=>(hρ b (by omega)).trans hb
 refine⟨Θ',ρ',?_,hU,?_,hT0,hρ⟩
 ·exact hs.step hk' Mb (fun _ _ h=>h) (fun i hi=>hs.qI i (by simpa using hi)) hs.pM (fun j x hj=>by
   rcases key j x hj with h|h
   ·exact .inl h
   ·exact .inr (.inl h)) ⟨ρ',hU⟩
 ·have plain:k≠ .uq->zy κ Θ' ρ' w m k rows:=fun hne=>by
   refine⟨v,_,hkm,w9 hrl hown tV,fun b hb=>?_,fun h=>absurd h hne⟩;rcases aj.1 hb with hb|hb
   ·simp only[kJ]at hb;simp only[Θ'];rw[bX (hΘ b hb)]
   ·exact hT0 b (yb b hb)
  cases k with
  |cl=>simp[RK.Qt]at hk
  |sh=>exact plain (by simp)
  |mv n=>exact plain (by simp)
  |uq=>
   obtain⟨v2,c2,b2,q1,q2,q3,q4,q5⟩:=hu.rows m e sz rows hH;rw[hkm]at q1;cases q1;have hfr:∀b∈b2,ρ b≠0:=fun b hb=>by rw[q5 b hb];omega
   refine⟨v,_,hkm,w9 hrl q2 q3,fun b hb=>?_,fun _=>⟨?_,fun b hb=>?_⟩⟩
   ·rcases aj.1 hb with hb|hb
    ·simp only[kJ]at hb;simp only[Θ'];rw[bX (hΘ b hb)]
    ·exact hT0 b (hu.free b (hfr b hb)).1
   ·rw[bO];refine⟨by cases v.ownBlock<;>simp,q4,fun x hx y hy e=>?_⟩;simp only[kJ]at hx;subst e;exact hfr x hy (G5 x hx)
   ·rcases aj.1 hb with hb|hb
    ·simp only[kJ]at hb;simp only[ρ'];rw[bX hb.symm]
    ·rw[hρ b (hfr b hb)];exact q5 b hb
theorem dY.a7T(hs:dY Γ st κ Θ a w){ρ:Nat->Nat}(hu:Aq Γ st.H κ Θ w ρ){m:Nat}{rows:List aQ}(hH:st.H[m]?=some (.tk rows)):
 dY Γ ⟨st.σ,st.H.set m .gone⟩ κ Θ a w/\Aq Γ (st.H.set m .gone) κ Θ w ρ/\zy κ Θ ρ w m .uq rows:=by
 have key:∀(j:Nat) x,(st.H.set m .gone)[j]?=some x->x=.gone\/(j≠m/\st.H[j]?=some x):=by
  intro j x hj;rcases tD (ms:=[m]) hj with h|⟨h1,h2⟩
  ·exact .inl h
  ·exact .inr ⟨by simpa using h1,h2⟩
 have hU:Aq Γ (st.H.set m .gone) κ Θ w ρ:=by
  refine⟨hu.free,fun id e sz rows h=>?_,fun id x h=>?_⟩
  ·rcases key id _ h with h|⟨_,h2⟩
   ·cases h
   ·exact hu.rows id e sz rows h2
  ·rcases key id _ h with h|⟨_,h2⟩
   ·subst h;trivial
   ·exact hu.more id x h2
 obtain⟨v,bs,q1,q2,q3,q4⟩:=hu.more m _ hH;refine⟨⟨hs.defers,hs.size,fun i hi=>hs.qI i (by simpa using hi),hs.pM,hs.slot,fun id o h=>?_,hs.own,hs.old,hs.mine,hs.stays,ρ,hU⟩,hU,v,bs,q1,q2,fun b hb=>(hu.free b (by rw[q4 b hb];omega)).1,fun _=>⟨q3,q4⟩⟩;rcases key id _ h with h|⟨_,h2⟩
 ·subst h;trivial
 ·exact hs.ob id o h2
def Ob.MS:Ob->Option (RK×List aQ)
 | .row k _ _ rows=>(match k with| .cl=>none|_=>some (k,rows))
 | .tk rows=>some (.uq,rows)
 |_=>none
theorem Ob.a0L{o:Ob}{k:RK}{rows:List aQ}(h:o.MS=some (k,rows)):(∃e sz,o=.row k e sz rows/\k.Qt=true)\/(o=.tk rows/\k=.uq):=by
 cases o with
 |row k' e sz r=>
  cases k' with
  |cl=>simp[Ob.MS]at h
  |_=>simp only[Ob.MS,ar,cR]at h;obtain⟨rfl,rfl⟩:=h;exact .inl ⟨e,sz,rfl,rfl⟩
 |tk r=>simp only[Ob.MS,ar,cR]at h;obtain⟨rfl,rfl⟩:=h;exact .inr ⟨rfl,rfl⟩
 |_=>simp[Ob.MS]at h
theorem dY.a7S(hs:dY Γ st κ Θ a w){ρ:Nat->Nat}(hu:Aq Γ st.H κ Θ w ρ){m:Nat}{o:Ob}{k:RK}{rows:List aQ}(hH:st.H[m]?=some o)(ho:o.MS=some (k,rows)):
 ∃Θ' ρ',dY Γ ⟨st.σ,st.H.set m .gone⟩ κ Θ' a w/\Aq Γ (st.H.set m .gone) κ Θ' w ρ'/\zy κ Θ' ρ' w m k rows/\
  (∀b,Θ b=0->Θ' b=0)/\(∀b,ρ b≠0->ρ' b=ρ b):=by
 rcases Ob.a0L ho with⟨e,sz,rfl,hk⟩|⟨rfl,rfl⟩
 ·exact hs.a5A hu hH hk
 ·obtain⟨h1,h2,h3⟩:=hs.a7T hu hH;exact⟨Θ,ρ,h1,h2,h3,fun _ h=>h,fun _ _=>rfl⟩
theorem dY.Sf:∀(ms:aY) {st:St} {Θ ρ:Nat->Nat},dY Γ st κ Θ a w->Aq Γ st.H κ Θ w ρ->ms.Nodup->
 (∀m∈ms,∃o k rows,st.H[m]?=some o/\o.MS=some (k,rows))->
 ∃Θ' ρ',dY Γ ⟨st.σ,kill st.H ms⟩ κ Θ' a w/\Aq Γ (kill st.H ms) κ Θ' w ρ'/\(∀m∈ms,∀o k rows,st.H[m]?=some o->o.MS=some (k,rows)->zy κ Θ' ρ' w m k rows)/\
  (∀b,Θ b=0->Θ' b=0)/\(∀b,ρ b≠0->ρ' b=ρ b):=by
 intro ms
 induction ms with
 |nil=>intro st Θ ρ hs hu _ _;exact⟨Θ,ρ,hs,hu,by simp,fun _ h=>h,fun _ _=>rfl⟩
 |cons m ms ih=>
  intro st Θ ρ hs hu hnd hall;obtain⟨hnm,I4⟩:=dU.1 hnd;obtain⟨o,k,rows,hH,hk⟩:=hall m (by simp);obtain⟨Θ1,ρ1,hs1,hu1,hm1,SU,Wp⟩:=hs.a7S hu hH hk;have O2:∀m'∈ms,(st.H.set m .gone)[m']?=st.H[m']?:=fun m' hm'=>cE (fun e:m=m'=>hnm (by rw[e];exact hm'))
  obtain⟨Θ2,ρ2,hs2,hu2,hm2,Z1,hr2⟩:=ih (st:=⟨st.σ,st.H.set m .gone⟩) hs1 hu1 I4 (fun m' hm'=>by
   obtain⟨o',k',dF,h1,h2⟩:=hall m' (by simp[hm']);exact⟨o',k',dF,(O2 m' hm').trans h1,h2⟩)
  refine⟨Θ2,ρ2,hs2,hu2,?_,fun b h=>Z1 b (SU b h),fun b h=>(hr2 b (by rw[Wp b h];exact h)).trans (Wp b h)⟩;intro m' hm' o' k' dF Jf ho';rcases bI.1 hm' with rfl|Yo
  ·rw[hH]at Jf;cases Jf;rw[hk]at ho';cases ho';obtain⟨v,bs,q1,q2,q3,q4⟩:=hm1;refine⟨v,bs,q1,q2,fun b hb=>Z1 b (q3 b hb),fun hq=>?_⟩;obtain⟨q5,q6⟩:=q4 hq;exact⟨q5,fun b hb=>by rw[hr2 b (by rw[q6 b hb];omega)];exact q6 b hb⟩
  ·exact hm2 m' Yo o' k' dF ((O2 m' Yo).trans Jf) ho'
theorem dY.NR:∀(ms:aY) {st:St} {Θ ρ:Nat->Nat},dY Γ st κ Θ a w->Aq Γ st.H κ Θ w ρ->ms.Nodup->
 (∀m∈ms,∃k e sz rows,st.H[m]?=some (.row k e sz rows)/\k.Qt=true)->
 ∃Θ' ρ',dY Γ ⟨st.σ,kill st.H ms⟩ κ Θ' a w/\Aq Γ (kill st.H ms) κ Θ' w ρ'/\(∀m∈ms,∀k e sz rows,st.H[m]?=some (.row k e sz rows)->zy κ Θ' ρ' w m k rows)/\
  (∀b,Θ b=0->Θ' b=0)/\(∀b,ρ b≠0->ρ' b=ρ b):=by
 intro ms
 induction ms with
 |nil=>intro st Θ ρ hs hu _ _;exact⟨Θ,ρ,hs,hu,by simp,fun _ h=>h,fun _ _=>rfl⟩
 |cons m ms ih=>
  intro st Θ ρ hs hu hnd hall;obtain⟨hnm,I4⟩:=dU.1 hnd;obtain⟨k,e,sz,rows,hH,hk⟩:=hall m (by simp);obtain⟨Θ1,ρ1,hs1,hu1,hm1,SU,Wp⟩:=hs.a5A hu hH hk;have O2:∀m'∈ms,(st.H.set m .gone)[m']?=st.H[m']?:=fun m' hm'=>cE (fun e:m=m'=>hnm (by rw[e];exact hm'))
  obtain⟨Θ2,ρ2,hs2,hu2,hm2,Z1,hr2⟩:=ih (st:=⟨st.σ,st.H.set m .gone⟩) hs1 hu1 I4 (fun m' hm'=>by
   obtain⟨k',e',sz',dF,h1,h2⟩:=hall m' (by simp[hm']);exact⟨k',e',sz',dF,(O2 m' hm').trans h1,h2⟩)
  refine⟨Θ2,ρ2,hs2,hu2,?_,fun b h=>Z1 b (SU b h),fun b h=>(hr2 b (by rw[Wp b h];exact h)).trans (Wp b h)⟩;intro m' hm' k' e' sz' dF Jf;rcases bI.1 hm' with rfl|Yo
  ·rw[hH]at Jf;cases Jf;obtain⟨v,bs,q1,q2,q3,q4⟩:=hm1;refine⟨v,bs,q1,q2,fun b hb=>Z1 b (q3 b hb),fun hq=>?_⟩;obtain⟨q5,q6⟩:=q4 hq;exact⟨q5,fun b hb=>by rw[hr2 b (by rw[q6 b hb];omega)];exact q6 b hb⟩
  ·exact hm2 m' Yo k' e' sz' dF ((O2 m' Yo).trans Jf)
end
end Go.Cx
namespace Go.Cx
open Go.RowKit
section
variable{P:Program}{Γ:tY}{Q:Exit->St->Prop}{st:St}{κ:Nat->Option Value}{Θ:Nat->Nat}{a:Act}{w:World}{all:Array Oper}{rest:List Oper}
theorem a1C{c:Operand}{x y:Code}{b:Bool}(hc:st.ev c=.bool b)(ht:b=true->AW P Γ x Q st)(hf:b=false->AW P Γ y Q st):AW P Γ (.cond c x y) Q st:=by
 intro κ Θ a w hs;obtain⟨bs,r,_⟩:=hs.ev c;rw[hc]at r;exact wp_cond_split r.wW (fun h=>ht h κ Θ a w hs) (fun h=>hf h κ Θ a w hs)
theorem NW{o:Oper}{j s:Nat}{want b:Bool}(hg:o.guard=some (j,want))(hj:(all[j]?).bind (·.dst)=some s)(hb:lk st.σ s=.bool b)
 (hd:∀t,o.dst=some t->t<Γ.nt)
 (aA0:b=want->AO P Γ all ({o with guard:=none}::rest) Q st) (hno:b≠want->AO P Γ all rest Q (st.put o.dst (.ij []))):AO P Γ all (o::rest) Q st:=by
 intro κ Θ a w hs;obtain⟨bs,r,_⟩:=hs.slot s;rw[hb]at r;have hv:=r.wW;have hlt:s<a.tmps.size:=by
  rcases dh s a.tmps.size with h|h
  ·exact h
  ·exfalso;rw[cI,s7 h]at hv;simp[undef]at hv
 have hy:yielded all a.tmps j=some b:=by
  have h1:a.tmps[s]?=some (.bool b):=by
   rw[cI,cP hlt]at hv;rw[cP hlt];simpa using hv
  simp[yielded,hj,h1]
 by_cases e:b=want
 ·have:=aA0 e κ Θ a w hs;unfold wpList at this⊢;have hw:Region.wanted o (yielded all a.tmps)=true:=by simp[Region.wanted,hg,hy,e]
  have hw':Region.wanted {o with guard:=none} (yielded all a.tmps)=true:=rfl;rw[bX hw];rw[bX hw']at this;exact this
 ·have hw:Region.wanted o (yielded all a.tmps)=false:=by simp[Region.wanted,hg,hy,e]
  unfold wpList;rw[hw,bL (by simp)];refine hno e κ Θ _ w ?_;cases QU:o.dst with
  |none=>exact hs
  |some t=>exact hs.set (hd t QU) (.ij [] [] [] .nil) (by simp)
theorem sD.Py{w:World}{κ:Nat->Option Value}{v:Value}{bs:aY}(h:sD w κ v (.ij []) bs):v=.tuple #[]:=by
 cases h with
 |v h=>cases h with|cell h=>cases h with|pure h=>cases h
 |ij vs ds bs h=>cases h;rfl
theorem PV{o:Oper}{j s:Nat}{want:Bool}(hg:o.guard=some (j,want))(hj:(all[j]?).bind (·.dst)=some s)(hb:lk st.σ s=.ij [])
 (hd:∀t,o.dst=some t->t<Γ.nt) (hno:AO P Γ all rest Q (st.put o.dst (.ij []))):AO P Γ all (o::rest) Q st:=by
 intro κ Θ a w hs;obtain⟨bs,r,_⟩:=hs.slot s;rw[hb]at r;have hv:=r.Py;have hy:yielded all a.tmps j=none:=by
  rcases dh s a.tmps.size with hlt|hlt
  ·have h1:a.tmps[s]?=some (.tuple #[]):=by
    rw[cI,cP hlt]at hv;rw[cP hlt];simpa using hv
   simp[yielded,hj,h1]
  ·simp[yielded,hj,s7 hlt]
 have hw:Region.wanted o (yielded all a.tmps)=false:=by simp[Region.wanted,hg,hy]
 unfold wpList;rw[hw,bL (by simp)];refine hno κ Θ _ w ?_;cases QU:o.dst with
 |none=>exact hs
 |some t=>exact hs.set (hd t QU) (.ij [] [] [] .nil) (by simp)
theorem ig.alloc(hs:dY Γ st κ Θ a w)(o:Obj){tag:Nat}(h2:2<=tag):ig w (w.alloc o) Θ (fun b=>if b=w.heap.size then tag else Θ b) tag:=by
 refine⟨h2,rfl,rfl,rfl,by simp,fun b hb _=>Below.heap_alloc w o b hb,fun b hb _=>?_,fun b hb=>?_⟩
 ·rw[bL (by omega)]
 ·by_cases e:b=w.heap.size
  ·subst e;simp
  ·rw[bL e]at hb;have:=hs.own b hb;simp;omega
theorem dY.Zc(hs:dY Γ st κ Θ a w){cs:Array Value}{ds:aQ}{bs:aY}(T:TypeId)(hr:ec w κ cs.toList ds bs)(hz:∀b∈bs,Θ b=0):
 dY Γ ⟨st.σ,st.H++[.box ds]⟩ (yc κ st.H.length (some (.pointer (some ⟨w.heap.size,0,none⟩)))) (fun b=>if b=w.heap.size then st.H.length+2 else Θ b) a (w.alloc (.cells cs T)):=by
 have k:=ig.alloc hs (.cells cs T) (tag:=st.H.length+2) (by omega);refine hs.push rfl k (hs.zk (fun b hb=>by by_cases e:b=w.heap.size<;>simp_all)) ?_ rfl;have hn:=yB (hs.qI _ (bR _)) (some (Value.pointer (some ⟨w.heap.size,0,none⟩)));obtain⟨h1,h2⟩:=ec.stay k hn hr hz;exact⟨w.heap.size,cs,T,by simp[yc],heap_alloc_new w _,by simp,bs,h1,h2⟩
theorem a3w{o:Oper}{T t:Nat}{x:Operand}{ds:aQ}(hop:o.op=.box T x)(hd:o.dst=some t)(hg:o.guard=none)(ht:t<Γ.nt)
 (hc:(st.ev x).cellsOf=some ds) (h:AO P Γ all rest Q ⟨(t,.ptr st.H.length 0)::st.σ,st.H++[.box ds]⟩):AO P Γ all (o::rest) Q st:=by
 intro κ Θ a w hs;obtain⟨bs,r,hz⟩:=hs.ev x;have hcs:=Bs hs.pM r hc;have hs':=hs.Zc T hcs hz;refine wpList_plain hg fun K hK=>?_
 unfold Oper.wp;have hrun:(execOp a.eval o).run P w=.ok (.value (.pointer (some ⟨w.heap.size,0,none⟩))) (w.alloc (.cells (a.eval x).cells T)):=by
  simp[execOp,hop,Instr.box,newVar,newRow]
 rw[hrun,Oper.upon_value,hd];refine hK _ _ (h _ _ _ _ (hs'.set (t:=t) (d:=.ptr st.H.length 0) (bs:=[]) ht ?_ (by simp)));exact(zj.ptr st.H.length 0 w.heap.size (by simp[yc])).RJ
theorem Xv{o:Oper}{T t:Nat}{zs:aQ}(hop:o.op=.alloc T)(hd:o.dst=some t)(hg:o.guard=none)(ht:t<Γ.nt)
 (hz:tz P T=some zs) (h:AO P Γ all rest Q ⟨(t,.ptr st.H.length 0)::st.σ,st.H++[.box zs]⟩):AO P Γ all (o::rest) Q st:=by
 intro κ Θ a w hs;obtain⟨i,z,hi,yb,hsz,hlen,hone,rfl⟩:=xx hz;have hs':=hs.Zc T (cs:=z.cells) (CN z.cells.toList hone) (by simp);refine wpList_plain hg fun K hK=>?_
 unfold Oper.wp;have hrun:(execOp a.eval o).run P w=.ok (.value (.pointer (some ⟨w.heap.size,0,none⟩))) (w.alloc (.cells z.cells T)):=by
  simp[execOp,hop,Instr.alloc,zeroValue,typeInfo,hi,yb,newVar,newRow]
 rw[hrun,Oper.upon_value,hd];refine hK _ _ (h _ _ _ _ (hs'.set (t:=t) (d:=.ptr st.H.length 0) (bs:=[]) ht ?_ (by simp)));exact(zj.ptr st.H.length 0 w.heap.size (by simp[yc])).RJ
theorem ig.setRow(hs:dY Γ st κ Θ a w){g:Nat}{cs:Array Value}{tag:Nat}(h2:2<=tag)(hg:Θ g=tag):ig w (w.setRow g cs) Θ Θ tag:=by
 refine⟨h2,rfl,rfl,rfl,by simp,fun b _ hne=>setRow_other w g b cs (fun e=>hne (e▸hg)),fun b _ _=>rfl,fun b hb=>?_⟩;simpa using hs.own b hb
theorem GF{T g off:Nat}{v:Value}{cur:Array Value}{e:TypeId}(hg:w.heap[g]?=some (.cells cur e (0,0)))(hsz:v.cells.size=zm P T)(MD:∃i,P.info? T=some i)
 (hfit:off+v.cells.size<=cur.size) (hone:∀c∈v.cells.toList,c.oneCell'=true):
 (Instr.storeAt T (.pointer (some ⟨g,off,none⟩)) v).run P w=.ok () (w.setRow g (cur.toList.take off++v.cells.toList++cur.toList.drop (off+v.cells.toList.length)).toArray):=by
 have:=run_storeCells_at P g off e v.cells.toList 0 cur w hg (by simpa using hfit) hone;simp only[s9]at this;simp[Instr.storeAt,Instr.sureAddr,storeVar,vc MD,hsz,this]
def RG(P:Program)(t:TypeId):Bool:=(P.info? t).isSome
theorem Pt{o:Oper}{T id off:Nat}{x y:Operand}{cells ds:aQ}(hop:o.op=.store T x y)
 (hx:st.ev x=.ptr id off) {ob:Ob} (hH:st.H[id]?=some ob) (Am:ob.Wa=some cells) (hc:(st.ev y).cellsOf=some ds) (hT:RG P T=true) (hl:ds.length=zm P T) (hfit:off+ds.length<=cells.length) (hs:dY Γ st κ Θ a w):
 ∃w',(execOp a.eval o).run P w=.ok .skip w'/\dY Γ ⟨st.σ,st.H.set id (ob.re (cells.take off++ds++cells.drop (off+ds.length)))⟩ κ Θ a w':=by
 obtain⟨b1,r1,_⟩:=hs.ev x;obtain⟨b2,r2,Z1⟩:=hs.ev y;rw[hx]at r1;obtain⟨g,hk,hv⟩:=r1.BE;obtain⟨g',cs,Tb,hk',hgc,hΘ,bs,tV,hz⟩:=(hs.ob id _ hH).cs Am;rw[hk]at hk';cases hk';have hcs:=Bs hs.pM r2 hc;have hl1:=hcs.length;have DG:=tV.length;have hsz:(a.eval y).cells.size=zm P T:=by rw[<-hl,<-hl1];simp
 have hst:=GF (P:=P) (T:=T) (off:=off) hgc hsz (dw.1 hT) (by
  have:(a.eval y).cells.size=ds.length:=by rw[<-hl1];simp
  have h3:cs.size=cells.length:=by rw[<-DG];simp
  omega) hcs.one
 have k:=ig.setRow hs (g:=g) (cs:=(cs.toList.take off++(a.eval y).cells.toList++cs.toList.drop (off+(a.eval y).cells.toList.length)).toArray) (tag:=id+2) (by omega) hΘ;have hrun:(execOp a.eval o).run P w=.ok .skip (w.setRow g (cs.toList.take off++(a.eval y).cells.toList++cs.toList.drop (off+(a.eval y).cells.toList.length)).toArray):=by
  simp only[execOp,hop,hv];simp[hst]
 refine⟨_,hrun,hs.change k hs.mine (wV.a7h Am (hs.ob id _ hH) (fun _ h=>h) ?_) (by cases ob<;>rfl)⟩;have e:cells=cells.take off++((cells.drop off).take ds.length++(cells.drop off).drop ds.length):=by rw[cG,cG]
 rw[e]at tV;obtain⟨v1,v2,c1,c2,O7,rfl,k1,k2⟩:=tV.split;obtain⟨v3,v4,c3,c4,rfl,rfl,k3,k4⟩:=k2.split;have l1:v1.length=off:=by rw[k1.length];simp;omega
 have l3:v3.length=ds.length:=by rw[k3.length];simp;omega
 have e1:cs.toList.take off=v1:=by rw[O7];exact iM l1
 have e4:cs.toList.drop (off+(a.eval y).cells.toList.length)=v4:=by
  rw[O7,<-gL,fM l1,hl1];exact fM l3
 have hnew:ec w κ (v1++(a.eval y).cells.toList++v4) (cells.take off++ds++cells.drop (off+ds.length)) ((c1++b2)++c4):=by
  rw[gL]at k4;exact(k1.app hcs).app k4
 have P0:∀b∈((c1++b2)++c4),Θ b=0:=by
  intro b hb;simp only[aj]at hb;rcases hb with(hb|hb)|hb
  ·exact hz b (by simp[hb])
  ·exact Z1 b hb
  ·exact hz b (by simp[hb])
 obtain⟨h1,h2⟩:=ec.stay k (fun _ _ h=>h) hnew P0;refine⟨g,_,Tb,hk,setRow_heap w g cs _ Tb _ hgc,hΘ,_,?_,h2⟩;rw[e1,e4]at h1⊢;exact h1
theorem Y6{o:Oper}{T id off:Nat}{x y:Operand}{cells ds:aQ}(hop:o.op=.store T x y)(hd:o.dst=none)(hg:o.guard=none)
 (hx:st.ev x=.ptr id off) {ob:Ob} (hH:st.H[id]?=some ob) (Am:ob.Wa=some cells) (hc:(st.ev y).cellsOf=some ds) (hT:RG P T=true) (hl:ds.length=zm P T) (hfit:off+ds.length<=cells.length)
 (h:AO P Γ all rest Q ⟨st.σ,st.H.set id (ob.re (cells.take off++ds++cells.drop (off+ds.length)))⟩):AO P Γ all (o::rest) Q st:=by
 intro κ Θ a w hs;obtain⟨w',hrun,hs'⟩:=Pt hop hx hH Am hc hT hl hfit hs;refine wpList_plain hg fun K hK=>?_
 unfold Oper.wp;rw[hrun,Oper.upon_skip,hd];exact hK _ _ (h _ _ _ _ hs')
end
def D.Rb:D->Bool
 | .acc _=>false
 | .ptr _ _=>false
 | .op _ _ _ _=>false
 |_=>true
def tby(P:Program)(t:TypeId):Nat:=P.bytesOf t
theorem Pp{α:Type}{l:List α}{i:Nat}{x:α}(h:l[i]?=some x):∃p q,l=p++x::q/\p.length=i:=by
 have hlt:=(aF.1 h).1;have hx:=(aF.1 h).2;refine⟨l.take i,l.drop (i+1),?_,by simp;omega⟩;rw[<-hx,CY,cG]
theorem Fy{rows:List aQ}{sz i off:Nat}{row ds:aQ}(hrl:∀r∈rows,r.length=sz)(hr:rows[i]?=some row)(hfit:off+ds.length<=sz):
 (rows.set i (row.take off++ds++row.drop (off+ds.length))).flatten=rows.flatten.take (i*sz+off)++ds++rows.flatten.drop (i*sz+off+ds.length):=by
 obtain⟨p,q,rfl,rfl⟩:=Pp hr;have hrow:row.length=sz:=hrl row (by simp);have hp:p.flatten.length=p.length*sz:=oP (fun r hr=>hrl r (by simp[hr]));rw[lQ _ _ (bR _),oH,List.set_cons_zero];simp only[kf,e9];rw[<-hp,List.take_length_add_append,qM,List.drop_length_add_append,List.take_append_of_le_length (by omega),List.drop_append_of_le_length (by omega)];simp only[bQ]
theorem OK(z:Array Value)(n:Nat):(madeCells z (n*z.size)).toList=(List.replicate n z.toList).flatten:=by
 induction n with
 |zero=>simp[madeCells]
 |succ n ih=>
  rw[List.replicate_succ',kf,<-ih];apply pg;intro j;by_cases hz:z.size=0
  ·have:z= #[]:=Array.size_eq_zero_iff.1 hz;subst this;simp[madeCells]
  ·by_cases h1:j<n*z.size
   ·rw[ax (by simpa[madeCells]using h1)];have h2:j<(n+1)*z.size:=by rw[jg];omega
    simp[madeCells,h1,h2]
   ·rw[bC (by simpa[madeCells]using h1)];by_cases h2:j<(n+1)*z.size
    ·rw[jg,mj]at h2;have hm:j%z.size=j-n*z.size:=by
      have hmc:=Cb z.size n;have e:j=(j-n*z.size)+z.size*n:=by omega
      conv=>lhs;rw[e]
      rw[Nat.add_mul_mod_self_left,Nat.mod_eq_of_lt (by omega)]
     have h3:j-n*z.size<z.size:=by omega
     have h2':j<(n+1)*z.size:=by rw[jg,mj];exact h2
     simp[madeCells,h2',hm,h3]
    ·rw[cc (by simp[madeCells];omega),cc];rw[jg,mj]at h2;simp[madeCells];omega
section
variable{P:Program}{Γ:tY}{Q:Exit->St->Prop}{st:St}{κ:Nat->Option Value}{Θ:Nat->Nat}{a:Act}{w:World}{all:Array Oper}{rest:List Oper}
theorem ec.pure{vs:bh}{ds:aQ}{bs:aY}(h:ec w κ vs ds bs)(hp:ds.all D.Rb=true):lE w vs ds bs:=by
 induction ds generalizing vs bs with
 |nil=>cases h;exact .nil
 |cons d ds ih=>
  simp only[dD,aZ]at hp;cases h with
  |cons v vs _ _ b1 b2 h1 h2 h3=>
   refine .cons _ _ _ _ _ _ h1 ?_ (ih h3 hp.2);cases h2 with
   |pure h=>exact h
   |acc=>simp[D.Rb]at hp
   |ptr=>simp[D.Rb]at hp
   |op=>simp[D.Rb]at hp
theorem lE.rep{vs:bh}{ds:aQ}(h:lE w vs ds [])(m:Nat):lE w (List.replicate m vs).flatten (List.replicate m ds).flatten []:=by
 induction m with
 |zero=>exact .nil
 |succ m ih=>
  simp only[z7,e9];have:=h.app ih;simpa using this
def D.IK(d:D):D:=match d with
 | .nil=>.sl []
 |d=>d
theorem Rd.soft{v:Value}{d:D}{bs:aY}(h:Rd w v d bs):Rd w v d.IK bs:=by
 cases h with
 |nil=>exact .zR
 |any=>exact .any _
 |int _ _ h=>exact .int _ _ h
 |bool=>exact .bool _
 |str _ h=>exact .str _ h
 |val=>exact .val _
 |zR=>exact .zR
 |oL a cap h=>exact .oL a cap h
 |sl b off cap sz rows cs bs h0 h1 h2 h3 h4 h5=>exact .sl b off cap sz rows cs bs h0 h1 h2 h3 h4 h5
 |agg cs ds bs h=>exact .agg cs ds bs h
 |ep b off cs row o bs h0 h4 h5=>exact .ep b off cs row o bs h0 h4 h5
 |Ws=>exact .Ws
 |Wt t u=>exact .Wt t u
theorem lE.soft{vs:bh}{ds:aQ}{bs:aY}(h:lE w vs ds bs):lE w vs (ds.map D.IK) bs:=by
 induction ds generalizing vs bs with
 |nil=>cases h;exact .nil
 |cons d ds ih=>cases h with|cons v vs _ _ b1 b2 h1 h2 h3=>exact .cons _ _ _ _ _ _ h1 h2.soft (ih h3)
def D.flat:D->Bool
 | .any=>true
 | .nil=>true
 | .int _ _=>true
 | .bool _=>true
 | .str _=>true
 | .val _=>true
 |_=>false
def WN(H:bS)(d:D):Option (D×aY):=match d with
 | .acc m=>(match(H[m]?).bind Ob.MS with|some (_,rows)=>some (.sl rows,[m])|none=>none)
 | .ptr _ _=>none
 | .op _ _ _ _=>none
 |d=>some (d.IK,[])
def Ln(H:bS):aQ->Option (aQ×aY)
 | []=>some ([],[])
 |d::ds=>match WN H d,Ln H ds with|some (e,m),some (es,ms)=>some (e::es,m++ms)|_,_=>none
def Vz(H:bS)(d:D):Bool:=match d with
 | .acc m=>(match(H[m]?).bind Ob.MS with|some (k,_)=>(match k with| .uq=>true|_=>false)|none=>false)
 |d=>d.flat
def zh(b:Bool):RK:=match b with|true=>.uq|false=>.sh
theorem Ob.Sl(u:Bool)(e:TypeId)(sz:Nat)(rows:List aQ):(Ob.row (zh u) e sz rows).mvB=false:=by cases u<;>rfl
theorem Rd.flat{v:Value}{d:D}{bs:aY}(h:Rd w v d bs)(hf:d.flat=true):bs=[]:=by
 cases h<;>first|rfl|simp[D.flat]at hf
theorem Rn{H:bS}{d e:D}{m:aY}(h:WN H d=some (e,m)):
 (∃m0 o k rows,d=.acc m0/\H[m0]?=some o/\o.MS=some (k,rows)/\e=.sl rows/\m=[m0])\/(d.Rb=true/\(∀i,d≠ .acc i)/\e=d.IK/\m=[]):=by
 cases d with
 |acc m0=>
  simp only[WN]at h;split at h
  ·rename_i k rows hH;simp only[ar,cR]at h;obtain⟨rfl,rfl⟩:=h;obtain⟨o,hH,ho⟩:=nD.1 hH;exact .inl ⟨m0,o,k,rows,rfl,hH,ho,rfl,rfl⟩
  ·cases h
 |ptr i o=>simp[WN]at h
 |op i j s o=>simp[WN]at h
 |_=>simp only[WN,ar,cR]at h;obtain⟨rfl,rfl⟩:=h;exact .inr ⟨rfl,by simp,rfl,rfl⟩
theorem Ro{H:bS}:∀ {ds es:aQ} {ms:aY},Ln H ds=some (es,ms)->∀m∈ms,∃o k rows,H[m]?=some o/\o.MS=some (k,rows):=by
 intro ds
 induction ds with
 |nil=>intro es ms h;simp only[Ln,ar,cR]at h;obtain⟨rfl,rfl⟩:=h;simp
 |cons d ds ih=>
  intro es ms h;simp only[Ln]at h;split at h
  ·rename_i e m es' ms' h1 h2;simp only[ar,cR]at h;obtain⟨rfl,rfl⟩:=h;intro x hx;rcases aj.1 hx with hx|hx
   ·rcases Rn h1 with⟨m0,o,k,dF,rfl,hH,hk,rfl,rfl⟩|⟨_,_,_,rfl⟩
    ·simp at hx;subst hx;exact⟨o,k,_,hH,hk⟩
    ·simp at hx
   ·exact ih h2 x hx
  ·cases h
theorem Tk{H:bS}{ρ:Nat->Nat}:∀ {ds es:aQ} {ms:aY} {vs:bh} {b0:aY},Ln H ds=some (es,ms)->ms.Nodup->ec w κ vs ds b0->(∀b∈b0,Θ b=0)->
 (∀m∈ms,∀o k rows,H[m]?=some o->o.MS=some (k,rows)->zy κ Θ ρ w m k rows)->
 ∃bs,lE w vs es bs/\(∀b∈bs,Θ b=0)/\(ds.all (Vz H)=true->bs.Nodup/\∀b∈bs,∃m∈ms,ρ b=m+1):=by
 intro ds
 induction ds with
 |nil=>
  intro es ms vs b0 h _ hr _ _;simp only[Ln,ar,cR]at h;obtain⟨rfl,rfl⟩:=h;cases hr;exact⟨[],.nil,by simp,by simp⟩
 |cons d ds ih=>
  intro es ms vs b0 h hnd hr hz hm;simp only[Ln]at h;split at h
  ·rename_i e m es' ms' h1 h2;simp only[ar,cR]at h;obtain⟨rfl,rfl⟩:=h;obtain⟨n1,n2,n3⟩:=bO.1 hnd;cases hr with
   |cons v vs _ _ b1 b2 hv hc hcs=>
    obtain⟨bs2,q1,q2,q3⟩:=ih h2 n2 hcs (fun b hb=>hz b (by simp[hb])) (fun x hx=>hm x (by simp[hx]));have one:∃bs1,Rd w v e bs1/\(∀b∈bs1,Θ b=0)/\(Vz H d=true->bs1.Nodup/\∀b∈bs1,∃x∈m,ρ b=x+1):=by
     rcases Rn h1 with⟨m0,o,k,dF,rfl,hH,hk,rfl,rfl⟩|⟨hp,hna,rfl,rfl⟩
     ·obtain⟨v',bs,r1,r2,r3,r4⟩:=hm m0 (by simp) o k dF hH hk;cases hc with
      |pure hc=>cases hc
      |acc _ _ hkv=>
       rw[hkv]at r1;cases r1;refine⟨bs,r2,r3,fun hq=>?_⟩;simp only[Vz,hH,aA,hk]at hq;split at hq
       ·obtain⟨r5,r6⟩:=r4 rfl;exact⟨r5,fun b hb=>⟨m0,by simp,r6 b hb⟩⟩
       ·cases hq
     ·have hrd:Rd w v d b1:=by
       cases hc with
       |pure hc=>exact hc
       |acc i _ _=>exact absurd rfl (hna i)
       |ptr i o _ _=>simp[D.Rb]at hp
       |op i j s o _ _ _ _ _=>simp[D.Rb]at hp
      refine⟨b1,hrd.soft,fun b hb=>hz b (by simp[hb]),fun hq=>?_⟩;have hf:d.flat=true:=by
       unfold Vz at hq;split at hq
       ·exact absurd rfl (hna _)
       ·exact hq
      rw[hrd.flat hf];exact⟨by simp,by simp⟩
    obtain⟨bs1,p1,p2,p3⟩:=one;refine⟨bs1++bs2,.cons _ _ _ _ _ _ hv p1 q1,fun b hb=>?_,fun hq=>?_⟩
    ·rcases aj.1 hb with hb|hb
     ·exact p2 b hb
     ·exact q2 b hb
    ·simp only[dD,aZ]at hq;obtain⟨p4,p5⟩:=p3 hq.1;obtain⟨q4,q5⟩:=q3 hq.2;refine⟨bO.2 ⟨p4,q4,fun x hx y hy exy=>?_⟩,fun b hb=>?_⟩
     ·subst exy;obtain⟨m1,hm1,e1⟩:=p5 x hx;obtain⟨m2,hm2,e2⟩:=q5 x hy;exact n3 m1 hm1 m2 hm2 (by omega)
     ·rcases aj.1 hb with hb|hb
      ·obtain⟨x,hx,ex⟩:=p5 b hb;exact⟨x,by simp[hx],ex⟩
      ·obtain⟨x,hx,ex⟩:=q5 b hb;exact⟨x,by simp[hx],ex⟩
  ·cases h
theorem dY.put(hs:dY Γ st κ Θ a w){H':bS}{κ':Nat->Option Value}{Θ' ρ:Nat->Nat}{w':World}{id:Nat}{o:Ob}(ms:aY)
 (key:∀(j:Nat) x,H'[j]?=some x->(j=id/\x=o)\/(j≠id/\st.H[j]?=some x)) (hn:∀(j:Nat) v,κ j=some v->κ' j=some v)
 (hko:∀i,H'.length<=i->κ' i=none) (hk1:∀(i:Nat) u,κ' i=some u->u.oneCell'=true) (k:ig w w' Θ Θ' (id+2)) (hm:∀b,2<=Θ' b->BL Γ b) (ho:wV w' κ' Θ' id o)
 (hu:Aq Γ st.H κ Θ w ρ) (QW:∀m∈ms,∀x,m≠id->st.H[m]?=some x->x.Xd=false)
 (hq:∀e sz rows,o=.row .uq e sz rows->∃v cs bs,κ' id=some v/\w'.ownsRow 0 e sz v rows.length cs/\lE w' cs rows.flatten bs/\bs.Nodup/\∀b∈bs,ρ b=id+1\/∃m∈ms,ρ b=m+1)
 (hmv:o.mvB=false:=by first|rfl|exact Ob.Sl _ _ _ _):
 dY Γ ⟨st.σ,H'⟩ κ' Θ' a w':=by
 have uy:=hs.pH k hn hu;let ρ':Nat->Nat:=fun b=>if ms.any (fun m=>ρ b==m+1)then id+1 else ρ b
 have aA3:∀b,ρ' b≠0->ρ b≠0:=by
  intro b hb h0;simp only[ρ',h0]at hb;split at hb
  ·rename_i h;obtain⟨m,_,hm⟩:=dG.1 h;simp at hm
  ·exact hb rfl
 refine hs.step k hm hn hko hk1 ?_ ⟨ρ',fun b hb=>uy.1 b (aA3 b hb),?_,?_⟩
 ·intro j x hj;rcases key j x hj with⟨rfl,rfl⟩|⟨h1,h2⟩
  ·exact .inr (.inr ho)
  ·exact .inr (.inl ⟨by omega,h2⟩)
 ·intro j e sz rows hj;rcases key j _ hj with⟨rfl,ho'⟩|⟨h1,h2⟩
  ·obtain⟨v,cs,bs,q1,q2,q3,q4,q5⟩:=hq e sz rows ho'.symm;refine⟨v,cs,bs,q1,q2,q3,q4,fun b hb=>?_⟩;simp only[ρ'];split
   ·rfl
   ·rename_i hno;rcases q5 b hb with h|⟨m,hm1,hm2⟩
    ·exact h
    ·exact absurd (dG.2 ⟨m,hm1,by simp[hm2]⟩) hno
  ·obtain⟨v,cs,bs,q1,q2,q3,q4,q5⟩:=uy.2.1 j e sz rows (by omega) h2;refine⟨v,cs,bs,q1,q2,q3,q4,fun b hb=>?_⟩;simp only[ρ'];rw[bL]
   ·exact q5 b hb
   ·intro h;obtain⟨m,hm1,hm2⟩:=dG.1 h;simp only[q5 b hb,cj]at hm2;have:j=m:=by omega
    subst this;have:=QW j hm1 _ h1 h2;simp[Ob.Xd]at this
 ·intro j x hj;rcases key j _ hj with⟨rfl,rfl⟩|⟨h1,h2⟩
  ·exact Mu.yw hmv
  ·by_cases hx:x.Xd=false
   ·exact Mu.plain hx
   ·refine(uy.2.2 j x (by omega) h2).re fun b hb=>?_
    simp only[ρ'];rw[bL]
    ·exact hb
    ·intro h;obtain⟨m,hm1,hm2⟩:=dG.1 h;simp only[hb,cj]at hm2;have:j=m:=by omega
     subst this;exact hx (QW j hm1 _ h1 h2)
theorem CO{H:bS}{o:Ob}:∀(j:Nat) x,(H++[o])[j]?=some x->(j=H.length/\x=o)\/(j≠H.length/\H[j]?=some x):=by
 intro j x hj;by_cases hlt:j<H.length
 ·rw[ax hlt]at hj;exact .inr ⟨by omega,hj⟩
 ·have hj':=(aF.1 hj).1;simp only[aS,aL,bG]at hj';have e:j=H.length:=by omega
  subst e;rw[bC (bR _)]at hj;simp at hj;exact .inl ⟨rfl,hj.symm⟩
theorem zi{H:bS}{o:Ob}{id:Nat}:∀(j:Nat) x,(H.set id o)[j]?=some x->(j=id/\x=o)\/(j≠id/\H[j]?=some x):=by
 intro j x hj;by_cases e:id=j
 ·subst e;have hlt:id<H.length:=by
   have:=(aF.1 hj).1;simpa using this
  rw[dK hlt]at hj;cases hj;exact .inl ⟨rfl,rfl⟩
 ·rw[cE e]at hj;exact .inr ⟨fun h=>e h.symm,hj⟩
theorem dY.newRow(hs:dY Γ st κ Θ a w){ρ:Nat->Nat}(hu:Aq Γ st.H κ Θ w ρ){u:Bool}{ms:aY}{e sz cap:Nat}{rows:List aQ}{bs:aY}(cur:Array Value)(hsz:0<sz)(hrl:∀r∈rows,r.length=sz)
 (O1:cur.size=cap*sz) (hn:rows.length<=cap) (hcap:cap<=maxLen) (hr:lE w (cur.toList.take (rows.length*sz)) rows.flatten bs) (hz:∀b∈bs,Θ b=0)
 (QW:∀m∈ms,∀x,st.H[m]?=some x->x.Xd=false) (hq:u=true->bs.Nodup/\∀b∈bs,∃m∈ms,ρ b=m+1):
 dY Γ ⟨st.σ,st.H++[.row (zh u) e sz rows]⟩ (yc κ st.H.length (some (.slice (some ⟨w.heap.size,0,none⟩) rows.length cap))) (fun b=>if b=w.heap.size then st.H.length+2 else Θ b) a (w.alloc (.cells cur e)):=by
 have k:=ig.alloc hs (.cells cur e) (tag:=st.H.length+2) (by omega);obtain⟨h1,h2⟩:=lE.over k hr hz;have hlen:(cur.toList.take (rows.length*sz)).length=rows.length*sz:=by
  have:rows.length*sz<=cap*sz:=dN _ hn;have h3:cur.toList.length=cap*sz:=by rw[<-O1];simp
  rw[cJ,h3,eX this]
 have hown:(w.alloc (.cells cur e)).ownsRow 0 e sz (.slice (some ⟨w.heap.size,0,none⟩) rows.length cap) rows.length (cur.toList.take (rows.length*sz)):=
  ⟨hlen,.inr ⟨w.heap.size,cap,cur,rfl,by omega,heap_alloc_new w _,hn,hcap,O1,rfl⟩⟩
 refine hs.put ms CO (yB (hs.qI _ (bR _)) _) ?_ ?_ k (hs.zk (fun b hb=>by by_cases e:b=w.heap.size<;>simp_all)) ?_ hu (fun m hm x _=>QW m hm x) ?_
 ·intro i hi;simp only[aS,aL,bG]at hi;unfold yc;rw[bL (by omega)];exact hs.qI i (by omega)
 ·intro i x hx;unfold yc at hx;split at hx
  ·cases hx;rfl
  ·exact hs.pM i x hx
 ·refine⟨hsz,hrl,_,_,bs,by simp[yc],hown,h1,?_,?_⟩
  ·intro g hg;simp only[Value.ownBlock,ar]at hg;subst hg;simp
  ·cases u<;>exact h2
 ·intro e' sz' dF he;cases u with
  |false=>simp[zh]at he
  |true=>
   simp only[zh,Ob.row.injEq,uE]at he;obtain⟨rfl,rfl,rfl⟩:=he;obtain⟨q1,q2⟩:=hq rfl;exact⟨_,_,bs,by simp[yc],hown,h1,q1,fun b hb=>.inr (q2 b hb)⟩
theorem Q7{o:Oper}{T e sz t:Nat}{x y:Operand}{k k':IntKind}{n:Int}{zs:aQ}(hop:o.op=.makeSlice T x y)(hd:o.dst=some t)(hg:o.guard=none)(ht:t<Γ.nt)
 (hT:GW P T=some (e,sz)) (hz:tz P e=some zs) (hsz:0<sz) (hx:st.ev x=.int k n) (hy:st.ev y=.int k' n) (h0:0<=n) (hroom:tby P e*n.toNat<=281474976710656) (BW:n.toNat<=4611686018427387904)
 (h:AO P Γ all rest Q ⟨(t,.acc st.H.length)::st.σ,st.H++[.row .uq e sz (List.replicate n.toNat (zs.map D.IK))]⟩):AO P Γ all (o::rest) Q st:=by
 intro κ Θ a w hs;obtain⟨b1,r1,_⟩:=hs.ev x;obtain⟨b2,r2,_⟩:=hs.ev y;rw[hx]at r1;rw[hy]at r2;have e1:=r1.qk;have e2:=r2.qk;obtain⟨hu,_,LA⟩:=ot hT;obtain⟨i,z,hi,yb,QZ,hlen,hone,rfl⟩:=xx hz;have DF:i.size=sz:=by rw[<-LA];simp[zm,Program.cellsOf,hi]
 have hby:i.bytes=tby P e:=by simp[tby,Program.bytesOf,hi]
 obtain⟨m,rfl⟩:=nC h0;simp only[wR]at hroom BW h;have hrun:=run_make (P:=P) w T e i z hu hi yb k k' m m (by omega) (by omega) (by rw[hby];have:=Int.ofNat_le.2 hroom;rw[Int.natCast_mul]at this;exact this) (by omega);simp only[wR]at hrun;rw[<-QZ]at hrun;have Yp:=OK z.cells m;obtain⟨ρ,huq⟩:=hs.ud;have hs':=hs.newRow huq (u:=true) (ms:=[]) (e:=e) (sz:=sz) (cap:=m) (rows:=List.replicate m ((z.cells.toList.map D.UX).map D.IK)) (bs:=[]) (madeCells z.cells (m*z.cells.size)) hsz
  (by intro r hr;rw[BJ hr];simp[QZ,DF]) (by rw[size_madeCells,QZ,DF]) (by simp) (by unfold maxLen;omega)
  (by
   rw[De,s8 (by simp[size_madeCells,QZ,DF]),Yp];have hcell:=(CN (w:=w) (κ:=κ) z.cells.toList hone).pure (by
    rw[Jz,b8];intro c _;simp only[Function.comp];unfold D.UX;split<;>(try split)<;>rfl)
   exact hcell.soft.rep m) (by simp) (by simp) (by simp)
 refine wpList_plain hg fun K hK=>?_
 unfold Oper.wp;have SP:(execOp a.eval o).run P w=.ok (.value (.slice (some ⟨w.heap.size,0,none⟩) m m)) (w.alloc (.cells (madeCells z.cells (m*z.cells.size)) e)):=by
  simp only[execOp,hop,e1,e2];simp[hrun]
 rw[SP,Oper.upon_value,hd];simp only[De]at hs';refine hK _ _ (h _ _ _ _ (hs'.set (t:=t) (d:=.acc st.H.length) (bs:=[]) ht ?_ (by simp)));exact(zj.acc st.H.length _ (by simp[yc])).RJ
def tW(len sz:Nat):List (Nat×Nat):=(List.range len).map fun i=>(i*sz,sz)
def chunk(sz:Nat):Nat->aQ->List aQ
 |0,_=>[]
 |n+1,ds=>ds.take sz::chunk sz n (ds.drop sz)
theorem Ef(sz:Nat):∀(n:Nat) (ds:aQ),ds.length=n*sz->(chunk sz n ds).length=n/\(chunk sz n ds).flatten=ds/\∀r∈chunk sz n ds,r.length=sz:=by
 intro n
 induction n with
 |zero=>intro ds h;simp at h;subst h;simp[chunk]
 |succ n ih=>
  intro ds h;rw[jg,mj]at h;obtain⟨h1,h2,h3⟩:=ih (ds.drop sz) (by rw[xa];omega);refine⟨by simp[chunk,h1],by simp[chunk,h2],fun r hr=>?_⟩;rcases bI.1 hr with rfl|hr
  ·rw[cJ];omega
  ·exact h3 r hr
theorem U2{len sz:Nat}:∀(parts:List (Nat×Value)) (cs arr:Array Value),Instr.fill ((tW len sz).toArray[·]?) cs parts=some arr->Instr.fill (fun i=>some (i*sz,sz)) cs parts=some arr:=by
 intro parts
 induction parts with
 |nil=>intro cs arr h;exact h
 |cons p parts ih=>
  intro cs arr h;obtain⟨i,v⟩:=p;simp only[Instr.fill]at h⊢;split at h
  ·cases h
  ·rename_i off size hp;have e:(off,size)=(i*sz,sz):=by
    simp only[tW,lP,cF]at hp;cases hr:(List.range len)[i]? with
    |none=>simp[hr]at hp
    |some j=>
     have hj:=(aF.1 hr)
     simp only[hr,cV,ar]at hp;have:j=i:=by have:=hj.2;simp at this;omega
     rw[<-hp,this]
   cases e;split at h
   ·cases h
   ·rename_i hc;rw[bL hc];exact ih _ _ h
theorem Qv{places:List (Nat×Nat)}:∀(ps:List (Nat×D)) (cells ds:aQ),yU places cells ps=some ds->ds.length=cells.length:=by
 intro ps
 induction ps with
 |nil=>intro cells ds h;simp only[yU,ar]at h;rw[h]
 |cons p ps ih=>
  intro cells ds h;obtain⟨i,d⟩:=p;simp only[yU]at h;split at h
  ·split at h
   ·rename_i hc;rw[ih _ _ h];simp;omega
   ·cases h
  ·cases h
theorem A8{o:Oper}{T e sz len:Nat}{parts:Array (Nat×Operand)}{zs ds:aQ}(hop:o.op=.buildSlice T len parts)
 (hT:GW P T=some (e,sz)) (hz:tz P e=some zs) (hsz:0<sz) (hsmall:len*sz<=16777216)
 (hf:yU (tW len sz) (List.replicate len zs).flatten (parts.toList.map fun p=>(p.1,st.ev p.2))=some ds) (hs:dY Γ st κ Θ a w):
 ∃(arr:Array Value) (b0:aY),(execOp a.eval o).run P w=.ok (.value (.slice (some ⟨w.heap.size,0,none⟩) len len)) (w.alloc (.cells arr e))/\ec w κ arr.toList ds b0/\(∀b∈b0,Θ b=0)/\arr.size=len*sz/\ds.length=len*sz:=by
 obtain⟨hu,_,LA⟩:=ot hT;obtain⟨i,z,hi,yb,QZ,hlen,hone,rfl⟩:=xx hz;have DF:i.size=sz:=by rw[<-LA];simp[zm,Program.cellsOf,hi]
 have Yp:=OK z.cells len;have hzero:ec w κ (madeCells z.cells (len*z.cells.size)).toList (List.replicate len (z.cells.toList.map D.UX)).flatten []:=by
  rw[Yp];have hcell:=(CN (w:=w) (κ:=κ) z.cells.toList hone).pure (by
   rw[Jz,b8];intro c _;simp only[Function.comp];unfold D.UX;split<;>(try split)<;>rfl)
  exact ec.DX (hcell.rep len)
 obtain⟨arr,b0,a6W,PJ,hb0⟩:=VP hs parts.toList _ _ ds [] hzero (by simp) hf;have U8:=U2 _ _ _ a6W;have hdl:ds.length=len*sz:=by
  rw[Qv _ _ _ hf,oP (sz:=sz) (by intro r hr;rw[BJ hr];simp[QZ,DF])];simp
 have hal:arr.size=len*sz:=by have:=PJ.length;simp at this;omega
 refine⟨arr,b0,?_,PJ,hb0,hal,hdl⟩;simp only[execOp,hop];by_cases h0:len*i.size=0
 ·have hl0:len=0:=by
   rw[DF]at h0;rcases Nat.mul_eq_zero.1 h0 with h|h
   ·exact h
   ·omega
  subst hl0;have hma:madeCells z.cells (0*z.cells.size)= #[]:=by simp[madeCells]
  rw[hma]at U8;have hpe:(parts.map fun(x:Nat×Operand)=>(x.1,a.eval x.2)).toList=parts.toList.map fun p=>(p.1,a.eval p.2):=by simp
  have hf2:=U8;rw[<-hpe,<-DF]at hf2;simp at hf2;have hr0:Array.range 0= #[]:=rfl;simp[Instr.buildSlice,run_underlying hu,sizeOf,typeInfo,hi,newRow,hr0,hf2]
 ·have hpe:(parts.map fun(x:Nat×Operand)=>(x.1,a.eval x.2)).toList=parts.toList.map fun p=>(p.1,a.eval p.2):=by simp
  have:=run_buildSlice (P:=P) w T e len (parts.map fun(x:Nat×Operand)=>(x.1,a.eval x.2)) arr i z hu hi yb (by rw[DF];omega) h0 (by
   rw[hpe,DF];have e2:(Array.range (len*sz)).map (z.cells[· %z.cells.size]!)=madeCells z.cells (len*z.cells.size):=by unfold madeCells;rw[QZ,DF]
   rw[e2];exact U8)
  simp[this]
theorem P7{o:Oper}{T e sz len t:Nat}{parts:Array (Nat×Operand)}{zs ds es:aQ}{ms:aY}(hop:o.op=.buildSlice T len parts)(hd:o.dst=some t)(hg:o.guard=none)(ht:t<Γ.nt)
 (hT:GW P T=some (e,sz)) (hz:tz P e=some zs) (hsz:0<sz) (hsmall:len*sz<=16777216)
 (hf:yU (tW len sz) (List.replicate len zs).flatten (parts.toList.map fun p=>(p.1,st.ev p.2))=some ds) (habs:Ln st.H ds=some (es,ms)) (hnd:ms.Nodup)
 (h:AO P Γ all rest Q ⟨(t,.acc st.H.length)::st.σ,kill st.H ms++[.row (zh (ds.all (Vz st.H))) e sz (chunk sz len es)]⟩):AO P Γ all (o::rest) Q st:=by
 intro κ Θ a w hs;obtain⟨arr,b0,hrun,PJ,hb0,hal,hdl⟩:=A8 hop hT hz hsz hsmall hf hs;obtain⟨ρ,huq⟩:=hs.ud;obtain⟨Θ1,ρ1,hs1,hu1,hm1,SU,Wp⟩:=dY.Sf ms hs huq hnd (Ro habs);obtain⟨bs,q1,q2,q3⟩:=Tk (H:=st.H) (ρ:=ρ1) habs hnd PJ (fun b hb=>SU b (hb0 b hb)) hm1;have hel:es.length=len*sz:=by rw[<-q1.length,PJ.length,hdl]
 obtain⟨c1,c2,c3⟩:=Ef sz len es hel;have hs':=hs1.newRow hu1 (u:=ds.all (Vz st.H)) (ms:=ms) (e:=e) (sz:=sz) (cap:=len) (rows:=chunk sz len es) (bs:=bs) arr hsz c3 hal (by rw[c1];exact bR _)
  (by unfold maxLen;have:len*1<=len*sz:=gS _ hsz;omega) (by rw[c1,c2,s8 (by simp[hal])];exact q1) q2
  (by
   intro m hm x hH;rcases tD hH with h|⟨h,_⟩
   ·subst h;rfl
   ·exact absurd hm h) q3
 refine wpList_plain hg fun K hK=>?_
 unfold Oper.wp;rw[hrun,Oper.upon_value,hd];rw[c1,gb]at hs';refine hK _ _ (h _ _ _ _ (hs'.set (t:=t) (d:=.acc st.H.length) (bs:=[]) ht ?_ (by simp)));exact(zj.acc st.H.length _ (by simp[yc])).RJ
end
end Go.Cx
namespace Go.Cx
open Go.RowKit
section
variable{P:Program}{Γ:tY}{Q:Exit->St->Prop}{st:St}{κ:Nat->Option Value}{Θ:Nat->Nat}{a:Act}{w:World}{all:Array Oper}{rest:List Oper}
theorem NI(w:World)(t ty e:TypeId)(i:TypeInfo)(ht:P.underlying t=some (.slice e))(hi:P.info? e=some i)(b:Option Addr)(n cap:Nat)(hn:n<=cap):
 (Builtin.append_ #[t,t] ty #[.slice b n cap,.slice none 0 0]).run P w=.ok (.slice b n cap) w:=by
 cases b<;>simp[Builtin.append_,run_underlying ht,sizeOf,typeInfo,hi,Builtin.lenOf,Builtin.firstCells,hn,storeCells]
structure Y8(w:World)(Θ ρ:Nat->Nat)(e sz:Nat)(v:Value)(rows:List (List D))(u1:Bool)(i1:Nat)(bs:List Nat)(cs:List Value):Prop where
 rl:∀r∈rows,r.length=sz
 own:w.ownsRow 0 e sz v rows.length cs
 rd:lE w cs rows.flatten bs
 zero:∀b∈bs,Θ b=0
 top:∀g,v.ownBlock=some g->Θ g=i1+2
 uq:u1=true->bs.Nodup/\∀b∈bs,ρ b=i1+1
structure WK(w:World)(Θ ρ:Nat->Nat)(sz:Nat)(u:Value)(rows:List (List D))(u2:Bool)(i2:Nat)(bs:List Nat)(cs:List Value):Prop where
 rl:∀r∈rows,r.length=sz
 at_:(u=.slice none 0 0/\rows=[])\/∃ad c,u=.slice (some ad) rows.length c/\∀j x,cs[j]?=some x->w.cell? (ad.add j)=some x
 rd:lE w cs rows.flatten bs
 zero:∀b∈bs,Θ b=0
 uq:u2=true->bs.Nodup/\∀b∈bs,ρ b=i2+1
theorem Tn{T e sz i1 i2:Nat}{v u:Value}{rows fI:List aQ}{u1 u2:Bool}{b1 b2:aY}{c1 c2:bh}{ρ:Nat->Nat}{zs:aQ}{ty:TypeId}(hT:GW P T=some (e,sz))(hz:tz P e=some zs)(hsz:0<sz)
 (hS:Y8 w Θ ρ e sz v rows u1 i1 b1 c1) (hX:WK w Θ ρ sz u fI u2 i2 b2 c2) (h63:rows.length+fI.length<=maxLen) (hby:(rows.length+fI.length)*tby P e<=140737488355328):
 ∃v' w',(Builtin.append_ #[T,T] ty #[v,u]).run P w=.ok v' w'/\w'.ownsRow 0 e sz v' (rows++fI).length (c1++c2)/\w.grownBy w' v.ownBlock/\(v'.ownBlock=v.ownBlock\/v'.ownBlock=some w.heap.size)/\
  lE w (c1++c2) (rows++fI).flatten (b1++b2):=by
 obtain⟨hu,_,LA⟩:=ot hT;obtain⟨i,z,hi,yb,QZ,hlen,hone,rfl⟩:=xx hz;have DF:i.size=sz:=by rw[<-LA];simp[zm,Program.cellsOf,hi]
 have hib:i.bytes=tby P e:=by simp[tby,Program.bytesOf,hi]
 have hr:lE w (c1++c2) (rows++fI).flatten (b1++b2):=by rw[kf];exact hS.rd.app hX.rd
 have hc2:c2.length=fI.length*sz:=by rw[hX.rd.length,oP hX.rl]
 rcases hX.at_ with⟨rfl,rfl⟩|⟨ad,c,rfl,hcell⟩
 ·have hc:c2=[]:=cW (by simpa using hc2);subst hc;have hv:∃b n cap,v=.slice b n cap/\n<=cap:=by
   rcases hS.own.2 with⟨rfl,_⟩|⟨g,cap,cur,rfl,_,_,hn,_⟩
   ·exact⟨_,_,_,rfl,bR _⟩
   ·exact⟨_,_,_,rfl,hn⟩
  obtain⟨b,n,cap,rfl,hn⟩:=hv;exact⟨_,w,NI w T ty e i hu hi b n cap hn,by simpa using hS.own,⟨rfl,rfl,rfl,bR _,fun _ _ _=>rfl⟩,.inl rfl,hr⟩
 ·obtain⟨v',w',q1,q2,q3,_,q5⟩:=run_append_own_at (P:=P) w 0 T ty e i z sz (tby P e) hu hi yb DF hib (by rw[QZ,DF]) hsz v rows.length c1 hS.own ad fI.length c c2 hc2 hcell hX.rd.one h63 hby (EY _);exact⟨v',w',q1,by simpa using q2,q3,q5,hr⟩
theorem WG{o:Oper}{T e sz t:Nat}{s x:Operand}{rows fI:List aQ}{zs:aQ}{u:Bool}{ks:aY}(hop:o.op=.call {callee:=.builtin .append,args:= #[s,x],argTypes:= #[T,T]})
 (hd:o.dst=some t) (hg:o.guard=none) (ht:t<Γ.nt) (hT:GW P T=some (e,sz)) (hz:tz P e=some zs) (hsz:0<sz)
 (h63:rows.length+fI.length<=maxLen) (hby:(rows.length+fI.length)*tby P e<=140737488355328)
 (hin:∀κ Θ a w ρ,dY Γ st κ Θ a w->Aq Γ st.H κ Θ w ρ->∃u1 u2 i1 i2 b1 b2 c1 c2,Y8 w Θ ρ e sz (a.eval s) rows u1 i1 b1 c1/\WK w Θ ρ sz (a.eval x) fI u2 i2 b2 c2/\
  (i1∈ks\/i1=st.H.length)/\(u=true->u1=true/\u2=true/\(b2=[]\/(i2∈ks/\i1≠i2))))
 (h:AO P Γ all rest Q ⟨(t,.acc st.H.length)::st.σ,kill st.H ks++[.row (zh u) e sz (rows++fI)]⟩):AO P Γ all (o::rest) Q st:=by
 intro κ Θ a w hs;obtain⟨ρ,hu⟩:=hs.ud;obtain⟨u1,u2,i1,i2,b1,b2,c1,c2,hS,hX,hi1,hq⟩:=hin κ Θ a w ρ hs hu;obtain⟨v',w',hrun,hown,hgr,TZ,hrd⟩:=Tn (P:=P) (ty:=o.type) hT hz hsz hS hX h63 hby;refine wpList_plain hg fun K hK=>?_
 have SP:(execOp a.eval o).run P w=.ok (.value v') w':=by
  simp only[execOp,hop,resolve,invoke,builtin,Sem.run_bind,Sem.run_pure,Result.andThen_ok,oR,bD,bZ,hrun]
 unfold Oper.wp;rw[SP,Oper.upon_value,hd];let id:=st.H.length
 let Θ':Nat->Nat:=fun b=>if some b=v'.ownBlock then id+2 else Θ b
 have hvt:∀g,v'.ownBlock=some g->Θ g=i1+2\/g=w.heap.size:=by
  intro g Wn;rcases TZ with h|h
  ·exact .inl (hS.top g (h▸Wn))
  ·rw[h]at Wn;cases Wn;exact .inr rfl
 have hnew:Θ w.heap.size=0:=by
  cases h0:Θ w.heap.size with
  |zero=>rfl
  |succ n=>exact absurd (hs.own w.heap.size (by omega)) (by omega)
 have k:ig w w' Θ Θ' (i1+2):=by
  refine⟨by omega,hgr.os,hgr.tape,hgr.output,hgr.size,fun b hb hne=>hgr.block b hb (fun e=>hne (hS.top b e.symm)),fun b hb hne=>?_,fun b hb=>?_⟩
  ·simp only[Θ'];rw[bL];intro e;rcases hvt b e.symm with h|h
   ·exact hne h
   ·omega
  ·simp only[Θ']at hb;split at hb
   ·rename_i e;exact(hown.lt b e.symm).2
   ·exact dV (hs.own b hb) hgr.size
 have hm:∀b,2<=Θ' b->BL Γ b:=by
  intro b hb;simp only[Θ']at hb;split at hb
  ·rename_i e;rcases hvt b e.symm with h|h
   ·exact hs.mine b (by omega)
   ·exact .inl (by rw[h];exact hs.base)
  ·exact hs.mine b hb
 have hn:=yB (hs.qI id (bR _)) (some v');have hv1:v'.oneCell'=true:=by
  rcases hown.2 with⟨rfl,_⟩|⟨g,cap,cur,rfl,_⟩<;>rfl
 have yb:∀b∈b1++b2,Θ b=0:=by
  intro b hb;rcases aj.1 hb with hb|hb
  ·exact hS.zero b hb
  ·exact hX.zero b hb
 obtain⟨O6,P0⟩:=lE.over k hrd yb;have hrl:∀r∈rows++fI,r.length=sz:=by
  intro r hr;rcases aj.1 hr with hr|hr
  ·exact hS.rl r hr
  ·exact hX.rl r hr
 have G5:∀g,v'.ownBlock=some g->Θ' g=id+2:=fun g Wn=>by simp only[Θ'];rw[bX Wn.symm]
 have key:∀(j:Nat) y,(kill st.H ks++[.row (zh u) e sz (rows++fI)])[j]?=some y->(j=id/\y=.row (zh u) e sz (rows++fI))\/(j≠id/\(y=.gone\/(j∉ks/\st.H[j]?=some y))):=by
  intro j y hj;rcases CO j y hj with⟨h1,h2⟩|⟨h1,h2⟩
  ·rw[gb]at h1;exact .inl ⟨h1,h2⟩
  ·rw[gb]at h1;exact .inr ⟨h1,tD h2⟩
 have hne:∀(j:Nat) y,j∉ks->st.H[j]?=some y->j+2≠i1+2:=by
  intro j y hj hy;have:=(aF.1 hy).1;rcases hi1 with h|h
  ·intro e;exact hj (by
    have:j=i1:=by omega
    rw[this];exact h)
  ·omega
 have uy:=hs.pH k hn hu;let ρ':Nat->Nat:=fun b=>if u=true/\(b∈b1\/b∈b2)then id+1 else ρ b
 have hold:∀(j:Nat) y,j∉ks->st.H[j]?=some y->∀b,ρ b=j+1->ρ' b=j+1:=by
  intro j y hjk hy b hb;simp only[ρ'];rw[bL]
  ·exact hb
  ·rintro⟨zg,hmem⟩;obtain⟨p1,p2,p3⟩:=hq zg;rcases hmem with h|h
   ·have:=(hS.uq p1).2 b h;exact hne j _ hjk hy (by omega)
   ·have:=(hX.uq p2).2 b h;rcases p3 with h0|⟨h0,_⟩
    ·rw[h0]at h;cases h
    ·have:j=i2:=by omega
     subst this;exact hjk h0
 have hU:Aq Γ (kill st.H ks++[.row (zh u) e sz (rows++fI)]) (yc κ id (some v')) Θ' w' ρ':=by
  refine⟨fun b hb=>?_,fun j e' sz' dF hj=>?_,fun j x hj=>?_⟩
  ·simp only[ρ']at hb;split at hb
   ·rename_i hc;obtain⟨zg,hmem⟩:=hc;obtain⟨q1,q2,q3⟩:=hq zg;rcases hmem with h|h
    ·exact uy.1 b (by rw[(hS.uq q1).2 b h];omega)
    ·exact uy.1 b (by rw[(hX.uq q2).2 b h];omega)
   ·exact uy.1 b hb
  ·rcases key j _ hj with⟨rfl,hy⟩|⟨_,hy|⟨hjk,hy⟩⟩
   ·cases zg:u with
    |false=>rw[zg]at hy;simp[zh]at hy
    |true=>
     rw[zg]at hy;simp only[zh,Ob.row.injEq,uE]at hy;obtain⟨rfl,rfl,rfl⟩:=hy;obtain⟨q1,q2,q3⟩:=hq zg;refine⟨v',c1++c2,b1++b2,kY _ _ _,hown,O6,?_,fun b hb=>?_⟩
     ·obtain⟨n1,r1⟩:=hS.uq q1;obtain⟨n2,r2⟩:=hX.uq q2;refine bO.2 ⟨n1,n2,fun y hy z hz hyz=>?_⟩;subst hyz;rcases q3 with h|⟨_,h⟩
      ·rw[h]at hz;cases hz
      ·have:=r1 y hy;have:=r2 y hz;omega
     ·simp only[ρ'];rw[bX ⟨zg,aj.1 hb⟩]
   ·cases hy
   ·obtain⟨v2,cs,bs,q1,q2,q3,q4,q5⟩:=uy.2.1 j e' sz' dF (hne j _ hjk hy) hy;exact⟨v2,cs,bs,q1,q2,q3,q4,fun b hb=>hold j _ hjk hy b (q5 b hb)⟩
  ·rcases key j _ hj with⟨rfl,hy⟩|⟨_,hy|⟨hjk,hy⟩⟩
   ·subst hy;exact Mu.yw (Ob.Sl _ _ _ _)
   ·subst hy;trivial
   ·exact(uy.2.2 j x (hne j _ hjk hy) hy).re fun b hb=>hold j _ hjk hy b hb
 have hs':dY Γ ⟨st.σ,kill st.H ks++[.row (zh u) e sz (rows++fI)]⟩ (yc κ id (some v')) Θ' a w':=by
  refine hs.step k hm hn ?_ ?_ ?_ ⟨ρ',hU⟩
  ·intro i hi;simp only[aS,aL,bG,gb]at hi;unfold yc;rw[bL (by omega)];exact hs.qI i (by omega)
  ·intro i y hy;unfold yc at hy;split at hy
   ·cases hy;exact hv1
   ·exact hs.pM i y hy
  ·intro j y hj;rcases key j y hj with⟨rfl,rfl⟩|⟨_,hy|⟨hjk,hy⟩⟩
   ·exact .inr (.inr ⟨hsz,hrl,v',_,_,kY _ _ _,hown,O6,G5,by cases u<;>exact P0⟩)
   ·exact .inl hy
   ·exact .inr (.inl ⟨hne j y hjk hy,hy⟩)
 refine hK _ _ (h _ _ _ _ (hs'.set (t:=t) (d:=.acc id) (bs:=[]) ht ?_ (by simp)));exact(zj.acc id _ (kY _ _ _)).RJ
def D.rZ(rows:List aQ):Bool:=rows.all fun r=>r.all D.flat
theorem lE.flat{vs:bh}{ds:aQ}{bs:aY}(h:lE w vs ds bs)(hf:ds.all D.flat=true):bs=[]:=by
 induction ds generalizing vs bs with
 |nil=>cases h;rfl
 |cons d ds ih=>
  simp only[dD,aZ]at hf;cases h with
  |cons v vs _ _ b1 b2 h1 h2 h3=>rw[h2.flat hf.1,ih h3 hf.2];rfl
theorem YH{e sz i1:Nat}{ρ:Nat->Nat}:Y8 w Θ ρ e sz (.slice none 0 0) [] true i1 [] []:=
 ⟨by simp,World.ownsRow_nil w 0 e sz,.nil,by simp,by simp[Value.ownBlock],by simp⟩
theorem KD{ρ:Nat->Nat}(hs:dY Γ st κ Θ a w)(hu:Aq Γ st.H κ Θ w ρ){id e sz:Nat}{k:RK}{rows:List aQ}{v:Value}(hk:κ id=some v)(hH:st.H[id]?=some (.row k e sz rows))(ho:k.Qt=true):
 ∃bs cs,Y8 w Θ ρ e sz v rows (match k with| .uq=>true|_=>false) id bs cs:=by
 obtain⟨_,hrl,v2,cs,bs,hk2,hown,tV,hΘ,hz⟩:=hs.ob id _ hH;rw[hk]at hk2;cases hk2;cases k with
 |cl=>simp[RK.Qt]at ho
 |sh=>exact⟨bs,cs,hrl,hown,tV,hz,hΘ,by simp⟩
 |mv n=>exact⟨bs,cs,hrl,hown,tV,hz,hΘ,by simp⟩
 |uq=>
  obtain⟨v2,c2,b2,q1,q2,q3,q4,q5⟩:=hu.rows id e sz rows hH;rw[hk]at q1;cases q1;exact⟨b2,c2,hrl,q2,q3,fun b hb=>(hu.free b (by rw[q5 b hb];omega)).1,hΘ,fun _=>⟨q4,q5⟩⟩
theorem Rq{ρ:Nat->Nat}(hs:dY Γ st κ Θ a w)(hu:Aq Γ st.H κ Θ w ρ){id e sz:Nat}{k:RK}{rows:List aQ}{v:Value}(hk:κ id=some v)(hH:st.H[id]?=some (.row k e sz rows))(ho:k.Qt=true):
 ∃bs cs,WK w Θ ρ sz v rows (match k with| .uq=>true|_=>false) id bs cs:=by
 obtain⟨bs,cs,h⟩:=KD hs hu hk hH ho;refine⟨bs,cs,h.rl,?_,h.rd,h.zero,h.uq⟩;rcases h.own.2 with⟨rfl,hn⟩|⟨g,cap,cur,rfl,_⟩
 ·exact .inl ⟨rfl,cW hn⟩
 ·exact .inr ⟨_,cap,rfl,h.own.cells (g:=g) (by simp[Value.ownBlock])⟩
theorem YI{sz i2:Nat}{ρ:Nat->Nat}:WK w Θ ρ sz (.slice none 0 0) [] true i2 [] []:=
 ⟨by simp,.inl ⟨rfl,rfl⟩,.nil,by simp,by simp⟩
theorem a1J{ρ:Nat->Nat}{v:Value}{rows:List aQ}{bs:aY}{sz:Nat}(h:Rd w v (.sl rows) bs)(hz:∀b∈bs,Θ b=0)(hrl:∀r∈rows,r.length=sz)(i2:Nat)(fl:Bool)(hf:fl=true->D.rZ rows=true):
 ∃b2 cs,WK w Θ ρ sz v rows fl i2 b2 cs/\(fl=true->b2=[]):=by
 cases h with
 |zR=>exact⟨[],[],⟨by simp,.inl ⟨rfl,rfl⟩,.nil,by simp,by simp⟩,by simp⟩
 |oL ad cap hc=>exact⟨[],[],⟨by simp,.inr ⟨ad,cap,rfl,by simp⟩,.nil,by simp,by simp⟩,by simp⟩
 |sl b off cap sz' _ cs bs' h0 h1 h2 h3 h4 h5=>
  have hfl:fl=true->bs'=[]:=fun e=>h5.flat (by
   have:=hf e;unfold D.rZ at this;rw[b8]at this⊢;intro d hd;obtain⟨r,hr,Jw⟩:=dP.1 hd;exact b8.1 (this r hr) d Jw)
  refine⟨bs',cs,⟨hrl,.inr ⟨_,cap,rfl,fun j x hj=>?_⟩,h5,fun y hy=>hz y (by simp[hy]),fun e=>by rw[hfl e];simp⟩,hfl⟩;have:=h4 j x hj;simpa[Addr.add_lit]using this
end
end Go.Cx
namespace Go.Cx
open Go.RowKit
section
variable{P:Program}{Γ:tY}{Q:Exit->St->Prop}{st:St}{κ:Nat->Option Value}{Θ:Nat->Nat}{a:Act}{w:World}{all:Array Oper}{rest:List Oper}
theorem jC{H:bS}{ms:aY}{j:Nat}(h:j∉ms):(kill H ms)[j]?=H[j]?:=by
 induction ms generalizing H with
 |nil=>rfl
 |cons m ms ih=>
  simp only[bI,IQ]at h;simp only[kill];rw[ih h.2,cE (fun e=>h.1 e.symm)]
def RK.after(k:RK)(b:Bool):RK:=match k with
 | .uq=>zh b
 | .mv _=>.sh
 |k=>k
theorem RK.WO(k:RK)(b:Bool)(e:TypeId)(sz:Nat)(rows:List aQ):(Ob.row (k.after b) e sz rows).mvB=false:=by cases k<;>cases b<;>rfl
theorem Rc{o:Oper}{T id i sz off e:Nat}{k0:RK}{x y:Operand}{rows:List aQ}{row ds es:aQ}{ms:aY}(hop:o.op=.store T x y)(hd:o.dst=none)(hg:o.guard=none)
 (hx:st.ev x=.op id i sz off) (hH:st.H[id]?=some (.row k0 e sz rows)) (hk0:k0.Qt=true) (hrow:rows[i]?=some row) (hc:(st.ev y).cellsOf=some ds) (habs:Ln st.H ds=some (es,ms)) (hnd:ms.Nodup) (hid:id∉ms)
 (hT:RG P T=true) (hl:ds.length=zm P T) (hfit:off+ds.length<=sz)
 (h:AO P Γ all rest Q ⟨st.σ,(kill st.H ms).set id (.row (k0.after (ds.all (Vz st.H))) e sz (rows.set i (row.take off++es++row.drop (off+ds.length))))⟩):AO P Γ all (o::rest) Q st:=by
 intro κ Θ0 a w hs0;obtain⟨b1,r1,_⟩:=hs0.ev x;obtain⟨b20,r2,aA1⟩:=hs0.ev y;rw[hx]at r1;obtain⟨g,o0,len,cap,hk,hv⟩:=r1.GB;have hcv:=Bs hs0.pM r2 hc;obtain⟨ρ0,hu0⟩:=hs0.ud;obtain⟨Θ,ρ,hs,hu,hm1,SU,Wp⟩:=dY.Sf ms hs0 hu0 hnd (Ro habs);obtain⟨b2,hcp,Z1,Jx⟩:=Tk (H:=st.H) (ρ:=ρ) habs hnd hcv (fun b hb=>SU b (aA1 b hb)) hm1;have TY:(kill st.H ms)[id]?=some (.row k0 e sz rows):=by rw[jC hid];exact hH
 obtain⟨bs,cs,hA⟩:=KD hs hu hk TY hk0;have hrl:=hA.rl;have hown:=hA.own;have ho0:=DL hown;subst ho0;rw[cg]at hv;have tV:=hA.rd;have hsz:0<sz:=by
  obtain⟨hsz,_⟩:=hs.ob id _ TY;exact hsz
 rcases hown.2 with⟨tC,_⟩|⟨g',cap2,cur,hkv,hb,QV,hnc,hcm,hcs,SR⟩
 ·cases tC
 ·cases hkv;have Qa:=hA.top g (by simp[Value.ownBlock]);have hl1:=hcv.length;have hle:es.length=ds.length:=by rw[<-hcp.length,hl1]
  have hilt:i<rows.length:=(aF.1 hrow).1;have a4M:(i+1)*sz<=rows.length*sz:=dN _ hilt;have aBz:rows.length*sz<=cap*sz:=dN _ hnc;rw[jg,mj]at a4M;have a4a:(a.eval y).cells.size=zm P T:=by rw[<-hl,<-hl1];simp
  have aC8:(a.eval y).cells.size=ds.length:=by rw[<-hl1];simp
  have hst:=GF (P:=P) (T:=T) (off:=i*sz+off) QV a4a (dw.1 hT) (by omega) hcv.one;have k:=ig.setRow hs (g:=g) (cs:=(cur.toList.take (i*sz+off)++(a.eval y).cells.toList++cur.toList.drop (i*sz+off+(a.eval y).cells.toList.length)).toArray) (tag:=id+2) (by omega) Qa;refine wpList_plain hg fun K hK=>?_
  unfold Oper.wp;have hrun:(execOp a.eval o).run P w=.ok .skip (w.setRow g (cur.toList.take (i*sz+off)++(a.eval y).cells.toList++cur.toList.drop (i*sz+off+(a.eval y).cells.toList.length)).toArray):=by
   simp only[execOp,hop,hv];simp[hst]
  rw[hrun,Oper.upon_skip,hd];have hfl:=oP hrl;have e0:rows.flatten=rows.flatten.take (i*sz+off)++((rows.flatten.drop (i*sz+off)).take ds.length++(rows.flatten.drop (i*sz+off)).drop ds.length):=by rw[cG,cG]
  rw[e0]at tV;obtain⟨v1,v2,c1,c2,O7,G2,k1,k2⟩:=tV.split;obtain⟨v3,v4,c3,c4,rfl,rfl,k3,k4⟩:=k2.split;have l1:v1.length=i*sz+off:=by rw[k1.length,cJ];omega
  have l3:v3.length=ds.length:=by rw[k3.length,cJ,xa];omega
  rw[gL]at k4;have hnew:=(k1.app hcp).app k4;have P0:∀b∈((c1++b2)++c4),Θ b=0:=by
   intro b hb;simp only[aj]at hb;rcases hb with(hb|hb)|hb
   ·exact hA.zero b (by rw[G2];simp[hb])
   ·exact Z1 b hb
   ·exact hA.zero b (by rw[G2];simp[hb])
  obtain⟨n1,n2⟩:=lE.over k hnew P0;have hfs:=Fy (ds:=es) (off:=off) hrl hrow (by omega);rw[hle]at hfs;rw[<-hfs]at n1;have Yf:cs.length=rows.length*sz:=hown.1;have a6T:cur.toList=v1++(v3++(v4++cur.toList.drop (rows.length*sz))):=by
   have:cur.toList=cs++cur.toList.drop (rows.length*sz):=by rw[<-SR,cG]
   rw[O7]at this;simpa using this
  have t1:cur.toList.take (i*sz+off)=v1:=by rw[a6T];exact iM l1
  have t2:cur.toList.drop (i*sz+off+(a.eval y).cells.toList.length)=v4++cur.toList.drop (rows.length*sz):=by
   rw[hl1,<-gL]
   conv=>lhs;rw[a6T]
   rw[fM l1,fM l3]
  have hl4:(v1++(a.eval y).cells.toList++v4).length=rows.length*sz:=by
   have:=Yf;rw[O7]at this;simp only[aS]at this⊢;omega
  have L7:(w.setRow g (cur.toList.take (i*sz+off)++(a.eval y).cells.toList++cur.toList.drop (i*sz+off+(a.eval y).cells.toList.length)).toArray).ownsRow 0 e sz (.slice (some ⟨g,0,none⟩) rows.length cap)
   (rows.set i (row.take off++es++row.drop (off+ds.length))).length (v1++(a.eval y).cells.toList++v4):=by
   refine⟨by simpa using hl4,.inr ⟨g,cap,_,by simp,hb,setRow_heap w g cur _ e _ QV,by simpa using hnc,hcm,?_,?_⟩⟩
   ·simp only[B6,aS,cJ,xa,vA];omega
   ·rw[t1,t2];simp only[bV];rw[<-bQ];exact iM hl4
  have NC:∀r∈rows.set i (row.take off++es++row.drop (off+ds.length)),r.length=sz:=by
   intro r hr;rcases Ap hr with hr|rfl
   ·exact hrl r hr
   ·have:=hrl row (aC hrow);simp;omega
  have G5:∀g2,(Value.slice (some ⟨g,0,none⟩) rows.length cap).ownBlock=some g2->Θ g2=id+2:=by
   intro g2 hg2;simp only[Value.ownBlock,ar]at hg2;subst hg2;exact Qa
  refine hK _ _ (h _ _ _ _ (hs.put ms zi (fun _ _ h=>h) (fun i hi=>hs.qI i (by simpa using hi)) hs.pM k hs.mine ?_ hu ?_ ?_ (RK.WO _ _ _ _ _)))
  ·refine⟨hsz,NC,_,_,_,hk,L7,n1,G5,?_⟩;cases k0 with
   |cl=>simp[RK.Qt]at hk0
   |sh=>exact n2
   |mv n=>exact n2
   |uq=>simp only[RK.after];cases(ds.all (Vz st.H))<;>exact n2
  ·intro m hm x _ Jf;rcases tD Jf with h|⟨h,_⟩
   ·subst h;rfl
   ·exact absurd hm h
  ·intro e' sz' dF he;cases k0 with
   |cl=>simp[RK.Qt]at hk0
   |sh=>simp[RK.after]at he
   |mv n=>simp[RK.after]at he
   |uq=>
    simp only[RK.after]at he;cases hq:ds.all (Vz st.H)with
    |false=>rw[hq]at he;simp[zh]at he
    |true=>
     rw[hq]at he;simp only[zh,Ob.row.injEq,uE]at he;obtain⟨rfl,rfl,rfl⟩:=he;obtain⟨q1,q2⟩:=Jx hq;obtain⟨p1,p2⟩:=hA.uq rfl;rw[G2]at p1 p2;obtain⟨m1,m2,m3⟩:=bO.1 p1;obtain⟨m4,m5,m6⟩:=bO.1 m2;refine⟨_,_,_,hk,L7,n1,?_,fun b hb=>?_⟩
     ·refine bO.2 ⟨bO.2 ⟨m1,q1,fun x hx y hy e=>?_⟩,m5,fun x hx y hy e=>?_⟩
      ·subst e;obtain⟨m,hm,he⟩:=q2 x hy;have:=p2 x (by simp[hx]);exact hid (by
        have:id=m:=by omega
        rw[this];exact hm)
      ·subst e;rcases aj.1 hx with hx|hx
       ·exact m3 x hx x (by simp[hy]) rfl
       ·obtain⟨m,hm,he⟩:=q2 x hx;have:=p2 x (by simp[hy]);exact hid (by
         have:id=m:=by omega
         rw[this];exact hm)
     ·simp only[aj]at hb;rcases hb with(hb|hb)|hb
      ·exact .inl (p2 b (by simp[hb]))
      ·exact .inr (q2 b hb)
      ·exact .inl (p2 b (by simp[hb]))
end
end Go.Cx
namespace Go.Cx
open Go.RowKit
inductive VB(w:World):List Value->List D->List Nat->Prop
 |nil:VB w [] [] []
 |cons (v:Value) (vs:bh) (d:D) (ds:aQ) (b1 b2:aY):Rd w v d b1->VB w vs ds b2->VB w (v::vs) (d::ds) (b1++b2)
inductive GX(w:World):Value->D->List Nat->List Nat->List Nat->Prop
 |pure {v:Value} {d:D} {bs:aY}:Rd w v d bs->GX w v d bs [] []
 |fr (v:Value) (e sz:Nat) (rows:List aQ) (cs:bh) (ns:aY):0<sz->(∀r∈rows,r.length=sz)->w.ownsRow 0 e sz v rows.length cs->lE w cs rows.flatten ns->v.oneCell'=true->
  GX w v (.fr e sz rows) [] v.ownBlock.toList (v.ownBlock.toList++ns)
inductive uH(w:World):List Value->List D->List Nat->List Nat->List Nat->Prop
 |nil:uH w [] [] [] [] []
 |cons (v:Value) (vs:bh) (d:D) (ds:aQ) (b1 b2 t1 t2 u1 u2:aY):v.oneCell'=true->GX w v d b1 t1 u1->uH w vs ds b2 t2 u2->uH w (v::vs) (d::ds) (b1++b2) (t1++t2) (u1++u2)
inductive GY(w:World):Value->D->List Nat->List Nat->List Nat->Prop
 |cell {v:Value} {d:D} {bs ts us:aY}:GX w v d bs ts us->GY w v d bs ts us
 |agg (cs:bh) (ds:aQ) (bs ts us:aY):uH w cs ds bs ts us->GY w (.agg cs.toArray) (.agg ds) bs ts us
inductive Bn(w:World):List Value->List D->List Nat->List Nat->List Nat->Prop
 |nil:Bn w [] [] [] [] []
 |cons (v:Value) (vs:bh) (d:D) (ds:aQ) (b1 b2 t1 t2 u1 u2:aY):GY w v d b1 t1 u1->Bn w vs ds b2 t2 u2->Bn w (v::vs) (d::ds) (b1++b2) (t1++t2) (u1++u2)
inductive Ch(w:World):Value->D->List Nat->List Nat->List Nat->Prop
 |v {v:Value} {d:D} {bs ts us:aY}:GY w v d bs ts us->Ch w v d bs ts us
 |ij (vs:bh) (ds:aQ) (bs ts us:aY):Bn w vs ds bs ts us->Ch w (.tuple vs.toArray) (.ij ds) bs ts us
def Good(P:Program)(f:FuncId)(ds:aQ)(d:D):Prop:=
 (∃fn,P.funcs[f]?=some fn/\fn.body.isSome=true/\(fn.name== "runtime.NumGoroutine")=false)/\
 ∀(w:World) (Θ:Nat->Nat) (args:bh) (bs:aY),QD w (fun _=>False)->VB w args ds bs->(∀b∈bs,Θ b=0)->(∀b,Θ b≠0->b<w.heap.size)->(∀b,Θ b<=1)->
  Calls P f args.toArray w (fun e w'=>∃v bs' ts us,e=.returned v/\Below w.heap.size w w'/\Ch w' v d bs' ts us/\(∀b∈bs',b<w.heap.size->Θ b=0)/\(∀b∈bs',b∉ts)/\us.Nodup/\
   (∀b∈us,w.heap.size<=b/\Wr w' b)/\∀b∈ts,b∈us)
def DW(n:Nat)(d:D):D×bS:=match d with
 | .fr e sz rows=>(.acc n,[.row .uq e sz rows])
 |d=>(d,[])
def nA(n:Nat):aQ->aQ×bS
 | []=>([],[])
 |d::ds=>((DW n d).1::(nA (n+(DW n d).2.length) ds).1,(DW n d).2++(nA (n+(DW n d).2.length) ds).2)
def CJ(n:Nat)(d:D):D×bS:=match d with
 | .agg cs=>(.agg (nA n cs).1,(nA n cs).2)
 |d=>DW n d
def DH(n:Nat):aQ->aQ×bS
 | []=>([],[])
 |d::ds=>((CJ n d).1::(DH (n+(CJ n d).2.length) ds).1,(CJ n d).2++(DH (n+(CJ n d).2.length) ds).2)
def qH(n:Nat)(d:D):D×bS:=match d with
 | .ij vs=>(.ij (DH n vs).1,(DH n vs).2)
 |d=>CJ n d
structure Fs where
 v:Value
 e:Nat
 sz:Nat
 rows:List aQ
 cs:bh
 ns:aY
def Fs.ob(x:Fs):Ob:=.row .uq x.e x.sz x.rows
def Fs.ok(w:World)(x:Fs):Prop:=0<x.sz/\(∀r∈x.rows,r.length=x.sz)/\w.ownsRow 0 x.e x.sz x.v x.rows.length x.cs/\lE w x.cs x.rows.flatten x.ns/\x.v.oneCell'=true
def Fs.bl(x:Fs):aY:=x.v.ownBlock.toList++x.ns
def Fs.ts(x:Fs):aY:=x.v.ownBlock.toList
section
variable{P:Program}{Γ:tY}{Q:Exit->St->Prop}{st:St}{κ κ':Nat->Option Value}{Θ Θ':Nat->Nat}{a:Act}{w w':World}{all:Array Oper}{rest:List Oper}
def Names(κ:Nat->Option Value)(n:Nat)(L:List Fs):Prop:=∀(i:Nat) x,L[i]?=some x->κ (n+i)=some x.v
theorem Names.left{n:Nat}{L1 L2:List Fs}(h:Names κ n (L1++L2)):Names κ n L1:=fun i x hx=>h i x (by
 rw[ax (aF.1 hx).1];exact hx)
theorem Names.right{n:Nat}{L1 L2:List Fs}(h:Names κ n (L1++L2)):Names κ (n+L1.length) L2:=fun i x hx=>by
 have:=h (L1.length+i) x (by rw[bC (by omega)];simpa using hx);rw[<-this];congr 1;omega
theorem GX.inst{v:Value}{d:D}{bs ts us:aY}(h:GX w v d bs ts us)(n:Nat):
 ∃L:List Fs,L.map Fs.ob=(DW n d).2/\(∀x∈L,x.ok w)/\us=L.flatMap Fs.bl/\ts=L.flatMap Fs.ts/\∀κ,Names κ n L->zj w κ v (DW n d).1 bs:=by
 cases h with
 |pure h=>
  have e:DW n d=(d,[]):=by cases h<;>rfl
  rw[e];exact⟨[],rfl,by simp,rfl,rfl,fun κ _=>.pure h⟩
 |fr e sz rows cs ns h1 h2 h3 h4 h5=>
  refine⟨[⟨v,e,sz,rows,cs,ns⟩],rfl,?_,by simp[Fs.bl],by simp[Fs.ts],fun κ hk=>?_⟩
  ·intro x hx;simp at hx;subst hx;exact⟨h1,h2,h3,h4,h5⟩
  ·exact .acc n v (by simpa using hk 0 _ rfl)
theorem uH.inst{vs:bh}{ds:aQ}{bs ts us:aY}(h:uH w vs ds bs ts us)(n:Nat):
 ∃L:List Fs,L.map Fs.ob=(nA n ds).2/\(∀x∈L,x.ok w)/\us=L.flatMap Fs.bl/\ts=L.flatMap Fs.ts/\∀κ,Names κ n L->ec w κ vs (nA n ds).1 bs:=by
 induction h generalizing n with
 |nil=>exact⟨[],rfl,by simp,rfl,rfl,fun κ _=>.nil⟩
 |cons v vs d ds b1 b2 t1 t2 u1 u2 h1 h2 _ ih=>
  obtain⟨L1,q1,q2,q3,q4,q5⟩:=h2.inst n;obtain⟨L2,p1,p2,p3,p4,p5⟩:=ih (n+(DW n d).2.length);have hl:L1.length=(DW n d).2.length:=by rw[<-q1];simp
  refine⟨L1++L2,by simp[nA,q1,p1],?_,by simp[q3,p3],by simp[q4,p4],fun κ hk=>?_⟩
  ·intro x hx;rcases aj.1 hx with hx|hx
   ·exact q2 x hx
   ·exact p2 x hx
  ·refine .cons _ _ _ _ _ _ h1 (q5 κ hk.left) (p5 κ ?_);rw[<-hl];exact hk.right
theorem GY.inst{v:Value}{d:D}{bs ts us:aY}(h:GY w v d bs ts us)(n:Nat):
 ∃L:List Fs,L.map Fs.ob=(CJ n d).2/\(∀x∈L,x.ok w)/\us=L.flatMap Fs.bl/\ts=L.flatMap Fs.ts/\∀κ,Names κ n L->NY w κ v (CJ n d).1 bs:=by
 cases h with
 |cell h=>
  by_cases uA:∃ds,d=.agg ds
  ·obtain⟨ds,rfl⟩:=uA;cases h with
   |pure h=>
    cases h with
    |agg cs _ _ h=>
     have:∀(vs:bh) (es:aQ) (b:aY),lE w vs es b->∀n,(nA n es).1=es/\(nA n es).2=[]:=by
      intro vs es
      induction es generalizing vs with
      |nil=>intro b _ n;exact⟨rfl,rfl⟩
      |cons e es ih=>
       intro b hh n;cases hh with
       |cons v vs _ _ b1 b2 _ h2 h3=>
        have e1:DW n e=(e,[]):=by cases h2<;>rfl
        have:=ih vs b2 h3 n;simp[nA,e1,this]
     obtain⟨e1,e2⟩:=this _ _ _ h n;refine⟨[],by simp[CJ,e2],by simp,rfl,rfl,fun κ _=>?_⟩;simp only[CJ,e1];exact .agg _ _ _ (ec.DX h)
  ·have e:CJ n d=DW n d:=by cases d<;>first|rfl|exact absurd ⟨_,rfl⟩ uA
   rw[e];obtain⟨L,q1,q2,q3,q4,q5⟩:=h.inst n;exact⟨L,q1,q2,q3,q4,fun κ hk=>.cell (q5 κ hk)⟩
 |agg cs ds bs ts us h=>
  obtain⟨L,q1,q2,q3,q4,q5⟩:=h.inst n;exact⟨L,q1,q2,q3,q4,fun κ hk=>.agg _ _ _ (q5 κ hk)⟩
theorem Bn.inst{vs:bh}{ds:aQ}{bs ts us:aY}(h:Bn w vs ds bs ts us)(n:Nat):
 ∃L:List Fs,L.map Fs.ob=(DH n ds).2/\(∀x∈L,x.ok w)/\us=L.flatMap Fs.bl/\ts=L.flatMap Fs.ts/\∀κ,Names κ n L->Cg w κ vs (DH n ds).1 bs:=by
 induction h generalizing n with
 |nil=>exact⟨[],rfl,by simp,rfl,rfl,fun κ _=>.nil⟩
 |cons v vs d ds b1 b2 t1 t2 u1 u2 h2 _ ih=>
  obtain⟨L1,q1,q2,q3,q4,q5⟩:=h2.inst n;obtain⟨L2,p1,p2,p3,p4,p5⟩:=ih (n+(CJ n d).2.length);have hl:L1.length=(CJ n d).2.length:=by rw[<-q1];simp
  refine⟨L1++L2,by simp[DH,q1,p1],?_,by simp[q3,p3],by simp[q4,p4],fun κ hk=>?_⟩
  ·intro x hx;rcases aj.1 hx with hx|hx
   ·exact q2 x hx
   ·exact p2 x hx
  ·refine .cons _ _ _ _ _ _ (q5 κ hk.left) (p5 κ ?_);rw[<-hl];exact hk.right
theorem Ch.inst{v:Value}{d:D}{bs ts us:aY}(h:Ch w v d bs ts us)(n:Nat):
 ∃L:List Fs,L.map Fs.ob=(qH n d).2/\(∀x∈L,x.ok w)/\us=L.flatMap Fs.bl/\ts=L.flatMap Fs.ts/\∀κ,Names κ n L->sD w κ v (qH n d).1 bs:=by
 cases h with
 |v h=>
  have hnt:∀vs,d≠ .ij vs:=by
   intro vs e;subst e;cases h with
   |cell h=>cases h with|pure h=>cases h
  have e:qH n d=CJ n d:=by cases d<;>first|rfl|exact absurd rfl (hnt _)
  rw[e];obtain⟨L,q1,q2,q3,q4,q5⟩:=h.inst n;exact⟨L,q1,q2,q3,q4,fun κ hk=>.v (q5 κ hk)⟩
 |ij vs ds bs ts us h=>
  obtain⟨L,q1,q2,q3,q4,q5⟩:=h.inst n;exact⟨L,q1,q2,q3,q4,fun κ hk=>.ij _ _ _ (q5 κ hk)⟩
theorem Ri{v:Value}{d:D}{bs ts us:aY}(h:GX w v d bs ts us):∀b∈ts,Wr w b:=by
 cases h with
 |pure=>simp
 |fr e sz rows cs ns h1 h2 h3 h4 h5=>
  intro b hb;simp only[kJ]at hb;rcases h3.2 with⟨rfl,_⟩|⟨g,cap,cur,rfl,_,hg,_⟩
  ·simp[Value.ownBlock]at hb
  ·simp[Value.ownBlock]at hb;subst hb;exact⟨_,_,hg⟩
theorem WL{vs:bh}{ds:aQ}{bs ts us:aY}(h:uH w vs ds bs ts us):∀b∈ts,Wr w b:=by
 induction h with
 |nil=>simp
 |cons v vs d ds b1 b2 t1 t2 u1 u2 h1 h2 _ ih=>
  intro b hb;rcases aj.1 hb with hb|hb
  ·exact Ri h2 b hb
  ·exact ih b hb
theorem NZ{v:Value}{d:D}{bs ts us:aY}(h:GY w v d bs ts us):∀b∈ts,Wr w b:=by
 cases h with
 |cell h=>exact Ri h
 |agg cs ds bs ts us h=>exact WL h
theorem PY{vs:bh}{ds:aQ}{bs ts us:aY}(h:Bn w vs ds bs ts us):∀b∈ts,Wr w b:=by
 induction h with
 |nil=>simp
 |cons v vs d ds b1 b2 t1 t2 u1 u2 h2 _ ih=>
  intro b hb;rcases aj.1 hb with hb|hb
  ·exact NZ h2 b hb
  ·exact ih b hb
theorem Rj{v:Value}{d:D}{bs ts us:aY}(h:Ch w v d bs ts us):∀b∈ts,Wr w b:=by
 cases h with
 |v h=>exact NZ h
 |ij vs ds bs ts us h=>exact PY h
def ix{α:Type}(p:α->Bool):List α->Option Nat
 | []=>none
 |x::r=>if p x then some 0 else(ix p r).map (· +1)
theorem yA{α:Type}{p:α->Bool}:∀ {l:List α} {i:Nat},ix p l=some i->∃x,l[i]?=some x/\p x=true:=by
 intro l
 induction l with
 |nil=>intro i h;cases h
 |cons x r ih=>
  intro i h;simp only[ix]at h;split at h
  ·cases h;exact⟨x,rfl,by assumption⟩
  ·cases hr:ix p r with
   |none=>simp[hr]at h
   |some j=>simp[hr]at h;subst h;simpa using ih hr
theorem DI{α:Type}{p:α->Bool}:∀ {l:List α} {i:Nat} {x:α},l[i]?=some x->p x=true->(∀(j:Nat) y,l[j]?=some y->p y=true->j=i)->ix p l=some i:=by
 intro l
 induction l with
 |nil=>intro i x h;simp at h
 |cons y r ih=>
  intro i x h hp hu;simp only[ix];split
  ·rename_i hy;rw[hu 0 y rfl hy]
  ·rename_i hy;cases i with
   |zero=>simp at h;subst h;exact absurd hp hy
   |succ i=>
    rw[ih (by simpa using h) hp (fun j z hz hpz=>by have:=hu (j+1) z (by simpa using hz) hpz;omega)];rfl
theorem wM{α:Type}{f:α->aY}:∀ {l:List α},(l.flatMap f).Nodup->∀(i j:Nat) x y b,l[i]?=some x->l[j]?=some y->b∈f x->b∈f y->i=j:=by
 intro l
 induction l with
 |nil=>intro _ i j x y b hi;simp at hi
 |cons z r ih=>
  intro hnd i j x y b hi hj G3 hby;simp only[cT]at hnd;obtain⟨n1,n2,n3⟩:=bO.1 hnd;cases i with
  |zero=>
   simp at hi;subst hi;cases j with
   |zero=>rfl
   |succ j=>
    simp at hj;exact absurd rfl (n3 b G3 b (br.2 ⟨y,aC hj,hby⟩))
  |succ i=>
   simp at hi;cases j with
   |zero=>
    simp at hj;subst hj;exact absurd rfl (n3 b hby b (br.2 ⟨x,aC hi,G3⟩))
   |succ j=>simp at hj;rw[ih n2 i j x y b hi hj G3 hby]
theorem dY.Pk(hs:dY Γ st κ Θ a w)(hb:Below w.heap.size w w')(L:List Fs)(hL:∀x∈L,x.ok w')(hnd:(L.flatMap Fs.bl).Nodup)(hfr:∀b∈L.flatMap Fs.bl,w.heap.size<=b/\Wr w' b)
 (n:Nat) (H':bS) (hfree:∀i,i<L.length->κ (n+i)=none) (hlen':st.H.length<=H'.length) (hin:n+L.length<=H'.length)
 (key:∀(j:Nat) y,H'[j]?=some y->(∃i x,j=n+i/\L[i]?=some x/\y=x.ob)\/((j<n\/n+L.length<=j)/\(y=.gone\/st.H[j]?=some y))):
 ∃κ' Θ',dY Γ ⟨st.σ,H'⟩ κ' Θ' a w'/\Names κ' n L/\(∀(j:Nat) v,κ j=some v->κ' j=some v)/\(∀b,b∉L.flatMap Fs.ts->Θ' b=Θ b)/\(∀j,(j<n\/n+L.length<=j)->κ' j=κ j):=by
 let κ':Nat->Option Value:=fun j=>if j<n\/n+L.length<=j then κ j else(L[j-n]?).map Fs.v
 let Θ':Nat->Nat:=fun b=>match ix (fun x:Fs=>x.v.ownBlock==some b) L with|some i=>n+i+2|none=>Θ b
 have hu1:∀(i j:Nat) x y b,L[i]?=some x->L[j]?=some y->b∈x.bl->b∈y.bl->i=j:=fun i j x y b=>wM hnd i j x y b
 have hts:∀(i:Nat) x b,L[i]?=some x->x.v.ownBlock=some b->Θ' b=n+i+2:=by
  intro i x b hi Xq;have:ix (fun x:Fs=>x.v.ownBlock==some b) L=some i:=DI hi (by simp[Xq]) (fun j y hj hy=>by
   simp only[cj]at hy;exact hu1 j i y x b hj hi (by simp[Fs.bl,hy]) (by simp[Fs.bl,Xq]))
  simp only[Θ',this]
 have hno:∀b,b∉L.flatMap Fs.ts->Θ' b=Θ b:=by
  intro b hb';simp only[Θ'];cases h:ix (fun x:Fs=>x.v.ownBlock==some b) L with
  |none=>rfl
  |some i=>
   obtain⟨x,hx,hp⟩:=yA h;exact absurd (br.2 ⟨x,aC hx,by simp only[cj]at hp;simp[Fs.ts,hp]⟩) hb'
 have hsub:∀b,b∈L.flatMap Fs.ts->b∈L.flatMap Fs.bl:=by
  intro b h;obtain⟨x,hx,G3⟩:=br.1 h;exact br.2 ⟨x,hx,by simp only[Fs.bl,Fs.ts]at G3⊢;exact aj.2 (.inl G3)⟩
 have hold:∀b,b<w.heap.size->Θ' b=Θ b:=fun b hlt=>hno b (fun h=>by have:=(hfr b (hsub b h)).1;omega)
 have hzero:∀b,w.heap.size<=b->Θ b=0:=fun b hge=>by
  cases h:Θ b with
  |zero=>rfl
  |succ m=>exact absurd (hs.own b (by omega)) (by omega)
 have hn:∀(j:Nat) v,κ j=some v->κ' j=some v:=by
  intro j v hj;have:j<n\/n+L.length<=j:=by
   rcases dh j n with h|h
   ·exact .inl h
   ·rcases dh j (n+L.length)with h2|h2
    ·have:=hfree (j-n) (by omega);rw[show n+(j-n)=j from by omega,hj]at this;cases this
    ·exact .inr h2
  simp only[κ'];rw[bX this];exact hj
 have AY:Names κ' n L:=by
  intro i x hx;have hlt:=(aF.1 hx).1;simp only[κ'];rw[bL (by omega),dR,hx];rfl
 have hTb:∀b,Θ' b≠0->Θ b≠0\/b∈L.flatMap Fs.bl:=by
  intro b h;by_cases hbt:b∈L.flatMap Fs.ts
  ·exact .inr (hsub b hbt)
  ·rw[hno b hbt]at h;exact .inl h
 have k:ig w w' Θ Θ' (H'.length+2):=by
  refine⟨by omega,hb.os,hb.tape,hb.output,hb.size,fun b hlt _=>hb.block b hlt,fun b hlt _=>hold b hlt,fun b h=>?_⟩;rcases hTb b h with h|h
  ·exact dV (hs.own b h) hb.size
  ·obtain⟨cs,T,hx⟩:=(hfr b h).2;exact(bH.1 hx).1
 have hm:∀b,2<=Θ' b->BL Γ b:=by
  intro b h;by_cases hbt:b∈L.flatMap Fs.ts
  ·exact .inl (cU hs.base (hfr b (hsub b hbt)).1)
  ·rw[hno b hbt]at h;exact hs.mine b h
 obtain⟨ρ,hu⟩:=hs.ud;have uy:=hs.pH k hn hu;let ρ':Nat->Nat:=fun b=>match ix (fun x:Fs=>x.ns.contains b) L with|some i=>n+i+1|none=>ρ b
 have hns:∀(i:Nat) x b,L[i]?=some x->b∈x.ns->ρ' b=n+i+1:=by
  intro i x b hi Xq;have:ix (fun x:Fs=>x.ns.contains b) L=some i:=DI hi (by simpa using Xq) (fun j y hj hy=>by
   exact hu1 j i y x b hj hi (by simp only[Fs.bl];exact aj.2 (.inr (by simpa using hy))) (by simp only[Fs.bl];exact aj.2 (.inr Xq)))
  simp only[ρ',this]
 have yb:∀(i:Nat) x b,L[i]?=some x->b∈x.ns->Θ' b=0:=by
  intro i x b hi Xq;have hmem:b∈L.flatMap Fs.bl:=br.2 ⟨x,aC hi,by simp only[Fs.bl];exact aj.2 (.inr Xq)⟩;rw[hno b ?_]
  ·exact hzero b (hfr b hmem).1
  ·intro h;obtain⟨y,hy,hby⟩:=br.1 h;obtain⟨j,hj⟩:=dM hy;have:=hu1 j i y x b hj hi (by simp only[Fs.bl,Fs.ts]at hby⊢;exact aj.2 (.inl hby)) (by simp only[Fs.bl];exact aj.2 (.inr Xq));subst this;rw[hj]at hi;cases hi;have ME:x.bl.Nodup:=by
    have:∀(l:List Fs),(l.flatMap Fs.bl).Nodup->∀x∈l,x.bl.Nodup:=by
     intro l
     induction l with
     |nil=>intro _ x hx;cases hx
     |cons z r ih=>
      intro hnd x hx;simp only[cT]at hnd;obtain⟨n1,n2,_⟩:=bO.1 hnd;rcases bI.1 hx with rfl|hx
      ·exact n1
      ·exact ih n2 x hx
    exact this L hnd x hy
   simp only[Fs.bl]at ME;exact(bO.1 ME).2.2 b hby b Xq rfl
 have hlen:∀i,H'.length<=i->κ' i=none:=by
  intro i hi;simp only[κ'];rw[bX (by omega)];exact hs.qI i (by omega)
 have O3:∀(j:Nat) y,H'[j]?=some y->j+2≠H'.length+2:=fun j y hj=>by
  have:=(aF.1 hj).1;omega
 refine⟨κ',Θ',?_,AY,hn,hno,fun j hj=>bX hj⟩;have SQ:∀b,b<w.heap.size->ρ' b=ρ b:=by
  intro b hlt';simp only[ρ'];cases hi:ix (fun x:Fs=>x.ns.contains b) L with
  |none=>rfl
  |some i=>
   obtain⟨x,hx,hp⟩:=yA hi;have:=(hfr b (br.2 ⟨x,aC hx,by simp only[Fs.bl];exact aj.2 (.inr (by simpa using hp))⟩)).1;omega
 have a2x:∀b,ρ b≠0->b<w.heap.size:=fun b hb'=>by
  obtain⟨_,_,cs',T,hx⟩:=hu.free b hb';exact(bH.1 hx).1
 refine hs.step k hm hn hlen ?_ ?_ ⟨ρ',?_,?_,?_⟩
 ·intro i u zg;simp only[κ']at zg;split at zg
  ·exact hs.pM i u zg
  ·cases hx:L[i-n]? with
   |none=>simp[hx]at zg
   |some x=>simp[hx]at zg;subst zg;exact(hL x (aC hx)).2.2.2.2
 ·intro j y hj;have hjl:=O3 j y hj;rcases key j y hj with⟨i,x,rfl,hx,rfl⟩|⟨hlt,hy|hy⟩
  ·obtain⟨q1,q2,q3,q4,_⟩:=hL x (aC hx);exact .inr (.inr ⟨q1,q2,x.v,x.cs,x.ns,AY i x hx,q3,q4,fun g hg=>hts i x g hx hg,fun b hb'=>yb i x b hx hb'⟩)
  ·exact .inl hy
  ·exact .inr (.inl ⟨hjl,hy⟩)
 ·intro b hb';by_cases h:∃(i:Nat) (x:Fs),L[i]?=some x/\b∈x.ns
  ·obtain⟨i,x,hx,G3⟩:=h;have hmem:b∈L.flatMap Fs.bl:=br.2 ⟨x,aC hx,by simp only[Fs.bl];exact aj.2 (.inr G3)⟩;exact⟨yb i x b hx G3,.inl (.inl (cU hs.base (hfr b hmem).1)),(hfr b hmem).2⟩
  ·have:ρ' b=ρ b:=by
    simp only[ρ'];cases hi:ix (fun x:Fs=>x.ns.contains b) L with
    |none=>rfl
    |some i=>
     obtain⟨x,hx,hp⟩:=yA hi;exact absurd ⟨i,x,hx,by simpa using hp⟩ h
   rw[this]at hb';exact uy.1 b hb'
 ·intro j e sz rows hj;have hjl:=O3 j _ hj;rcases key j _ hj with⟨i,x,rfl,hx,hy⟩|⟨hlt,hy|hy⟩
  ·simp only[Fs.ob,Ob.row.injEq,uE]at hy;obtain⟨rfl,rfl,rfl⟩:=hy;obtain⟨q1,q2,q3,q4,_⟩:=hL x (aC hx);have ME:x.ns.Nodup:=by
    have:∀(l:List Fs),(l.flatMap Fs.bl).Nodup->∀x∈l,x.bl.Nodup:=by
     intro l
     induction l with
     |nil=>intro _ x hx;cases hx
     |cons z r ih=>
      intro hnd x hx;simp only[cT]at hnd;obtain⟨n1,n2,_⟩:=bO.1 hnd;rcases bI.1 hx with rfl|hx
      ·exact n1
      ·exact ih n2 x hx
    exact(bO.1 (this L hnd x (aC hx))).2.1
   exact⟨x.v,x.cs,x.ns,AY i x hx,q3,q4,ME,fun b hb'=>hns i x b hx hb'⟩
  ·cases hy
  ·obtain⟨v,cs,bs,q1,q2,q3,q4,q5⟩:=uy.2.1 j e sz rows hjl hy;exact⟨v,cs,bs,q1,q2,q3,q4,fun b hb'=>(SQ b (a2x b (by rw[q5 b hb'];omega))).trans (q5 b hb')⟩
 ·intro j y hj;have hjl:=O3 j _ hj;rcases key j _ hj with⟨i,x,rfl,hx,hy⟩|⟨hlt,hy|hy⟩
  ·subst hy;exact Mu.yw rfl
  ·subst hy;trivial
  ·exact(uy.2.2 j y hjl hy).re fun b hb'=>(SQ b (a2x b (by omega))).trans hb'
theorem dY.a1t(hs:dY Γ st κ Θ a w)(hb:Below w.heap.size w w')(L:List Fs)(hL:∀x∈L,x.ok w')(hnd:(L.flatMap Fs.bl).Nodup)(hfr:∀b∈L.flatMap Fs.bl,w.heap.size<=b/\Wr w' b):
 ∃κ' Θ',dY Γ ⟨st.σ,st.H++L.map Fs.ob⟩ κ' Θ' a w'/\Names κ' st.H.length L/\(∀(j:Nat) v,κ j=some v->κ' j=some v)/\(∀b,b∉L.flatMap Fs.ts->Θ' b=Θ b):=by
 obtain⟨κ',Θ',h1,h2,h3,h4,_⟩:=hs.Pk hb L hL hnd hfr st.H.length (st.H++L.map Fs.ob) (fun i _=>hs.qI _ (by omega)) (by simp) (by simp) (by
  intro j y hj;by_cases hlt:j<st.H.length
  ·rw[ax hlt]at hj;exact .inr ⟨.inl hlt,.inr hj⟩
  ·rw[bC (by omega),cF]at hj;cases hx:L[j-st.H.length]? with
   |none=>simp[hx]at hj
   |some x=>simp[hx]at hj;exact .inl ⟨j-st.H.length,x,by omega,hx,hj.symm⟩)
 exact⟨κ',Θ',h1,h2,h3,h4⟩
def Xs(H:bS)(d:D):Option (D×aY):=match d with
 | .acc m=>(match H[m]? with|some (.row _ _ _ rows)=>some (.sl rows,[m])|some (.eC _ rows _)=>some (.sl rows,[m])|some (.tk rows)=>some (.sl rows,[])|_=>none)
 | .ptr _ _=>none
 | .op _ _ _ _=>none
 |d=>some (d.IK,[])
def TS(H:bS):aQ->Option (aQ×aY)
 | []=>some ([],[])
 |d::ds=>match Xs H d,TS H ds with|some (e,m),some (es,ms)=>some (e::es,m++ms)|_,_=>none
def vwV(H:bS)(d:D):Option (D×aY):=match d with
 | .agg cs=>(match TS H cs with|some (es,ms)=>some (.agg es,ms)|none=>none)
 | .ij _=>none
 |d=>Xs H d
def Ju(H:bS):aQ->Option (aQ×aY)
 | []=>some ([],[])
 |d::ds=>match vwV H d,Ju H ds with|some (e,m),some (es,ms)=>some (e::es,m++ms)|_,_=>none
def Seen(Θ:Nat->Nat)(ms:aY)(b:Nat):Prop:=Θ b=0\/∃m∈ms,Θ b=m+2
theorem Seen.mono{ms ns:aY}{b:Nat}(h:Seen Θ ms b)(hs:∀m∈ms,m∈ns):Seen Θ ns b:=by
 rcases h with h|⟨m,h1,h2⟩
 ·exact .inl h
 ·exact .inr ⟨m,hs m h1,h2⟩
theorem a0b(hs:dY Γ st κ Θ a w){v:Value}{d e:D}{bs:aY}{ms:aY}(h:Xs st.H d=some (e,ms))(hr:zj w κ v d bs)(hz:∀b∈bs,Θ b=0):∃b',Rd w v e b'/\∀b∈b',Seen Θ ms b:=by
 cases hr with
 |pure hr=>
  have:Xs st.H d=some (d.IK,[]):=by cases hr<;>rfl
  rw[this]at h;cases h;exact⟨bs,hr.soft,fun b hb=>.inl (hz b hb)⟩
 |acc m _ hk=>
  simp only[Xs]at h;split at h
  ·rename_i k e' sz rows hH;cases h;obtain⟨_,hrl,v2,cs,b2,hk2,hown,tV,hΘ,hd⟩:=hs.ob m _ hH;rw[hk]at hk2;cases hk2;refine⟨_,w9 hrl hown tV,fun b hb=>?_⟩;rcases aj.1 hb with hb|hb
   ·simp only[kJ]at hb;exact .inr ⟨m,by simp,hΘ b hb⟩
   ·cases k with
    |cl=>exact .inr ⟨m,by simp,(hd.2.1 b hb).1⟩
    |sh=>exact .inl (hd b hb)
    |uq=>exact .inl (hd b hb)
    |mv n=>exact .inl (hd b hb)
  ·rename_i sz rows u hH;cases h;obtain⟨_,_,v2,b2,hk2,hrd,_,G2⟩:=hs.ob m _ hH;rw[hk]at hk2;cases hk2;exact⟨b2,hrd,fun b hb=>.inr ⟨m,by simp,(G2 b hb).1⟩⟩
  ·rename_i rows hH;cases h;obtain⟨v2,b2,hk2,hrd,Z1⟩:=hs.ob m _ hH;rw[hk]at hk2;cases hk2;exact⟨b2,hrd,fun b hb=>.inl (Z1 b hb)⟩
  ·cases h
 |ptr=>simp[Xs]at h
 |op=>simp[Xs]at h
theorem a2a(hs:dY Γ st κ Θ a w):∀ {ds es:aQ} {vs:bh} {bs ms:aY},TS st.H ds=some (es,ms)->ec w κ vs ds bs->(∀b∈bs,Θ b=0)->∃b',lE w vs es b'/\∀b∈b',Seen Θ ms b:=by
 intro ds
 induction ds with
 |nil=>
  intro es vs bs ms h hr _;simp only[TS,ar,cR]at h;obtain⟨rfl,rfl⟩:=h;cases hr;exact⟨[],.nil,by simp⟩
 |cons d ds ih=>
  intro es vs bs ms h hr hz;simp only[TS]at h;split at h
  ·rename_i e m es' ms' h1 h2;cases h;cases hr with
   |cons v vs _ _ b1 b2 hv hc hcs=>
    obtain⟨c1,q1,q2⟩:=a0b hs h1 hc (fun b hb=>hz b (by simp[hb]));obtain⟨c2,p1,p2⟩:=ih h2 hcs (fun b hb=>hz b (by simp[hb]));refine⟨c1++c2,.cons _ _ _ _ _ _ hv q1 p1,fun b hb=>?_⟩;rcases aj.1 hb with hb|hb
    ·exact(q2 b hb).mono (fun m hm=>by simp[hm])
    ·exact(p2 b hb).mono (fun m hm=>by simp[hm])
  ·cases h
theorem a5l(hs:dY Γ st κ Θ a w){v:Value}{d e:D}{bs ms:aY}(h:vwV st.H d=some (e,ms))(hr:sD w κ v d bs)(hz:∀b∈bs,Θ b=0):∃b',Rd w v e b'/\∀b∈b',Seen Θ ms b:=by
 by_cases uA:∃ds,d=.agg ds
 ·obtain⟨ds,rfl⟩:=uA;obtain⟨cs,rfl,hcs⟩:=hr.GN;simp only[vwV]at h;split at h
  ·rename_i es ms' h1;cases h;obtain⟨b',q1,q2⟩:=a2a hs h1 hcs hz;exact⟨b',.agg _ _ _ q1,q2⟩
  ·cases h
 ·have hc:zj w κ v d bs:=by
   cases hr with
   |v hr=>cases hr with
    |cell hr=>exact hr
    |agg=>exact absurd ⟨_,rfl⟩ uA
   |ij=>simp[vwV]at h
  have e1:vwV st.H d=Xs st.H d:=by
   cases d<;>first|rfl|exact absurd ⟨_,rfl⟩ uA|simp[vwV]at h
  rw[e1]at h;exact a0b hs h hc hz
theorem NV(hs:dY Γ st κ Θ a w):∀ {xs:List Operand} {es:aQ} {ms:aY},Ju st.H (xs.map st.ev)=some (es,ms)->∃b',VB w (xs.map a.eval) es b'/\∀b∈b',Seen Θ ms b:=by
 intro xs
 induction xs with
 |nil=>
  intro es ms h;simp only[bZ,Ju,ar,cR]at h;obtain⟨rfl,rfl⟩:=h;exact⟨[],.nil,by simp⟩
 |cons x xs ih=>
  intro es ms h;simp only[bD,Ju]at h;split at h
  ·rename_i e m es' ms' h1 h2;cases h;obtain⟨b0,r0,z0⟩:=hs.ev x;obtain⟨c1,q1,q2⟩:=a5l hs h1 r0 z0;obtain⟨c2,p1,p2⟩:=ih h2;refine⟨c1++c2,.cons _ _ _ _ _ _ q1 p1,fun b hb=>?_⟩;rcases aj.1 hb with hb|hb
   ·exact(q2 b hb).mono (fun m hm=>by simp[hm])
   ·exact(p2 b hb).mono (fun m hm=>by simp[hm])
  ·cases h
def D.shC(d:D):D:=match d with
 | .fr _ _ rows=>.sl rows
 |d=>d
def D.shV(d:D):D:=match d with
 | .agg cs=>.agg (cs.map D.shC)
 |d=>d.shC
theorem uH.DX{w:World}:∀ {ds:aQ} {vs:bh} {bs:aY},lE w vs ds bs->uH w vs ds bs [] []:=by
 intro ds
 induction ds with
 |nil=>intro vs bs h;cases h;exact .nil
 |cons d ds ih=>
  intro vs bs h;cases h with
  |cons v vs _ _ b1 b2 h1 h2 h3=>exact .cons _ _ _ _ _ _ [] [] [] [] h1 (.pure h2) (ih h3)
theorem GX.DM{w:World}{v:Value}{d:D}{bs ts us:aY}(h:GX w v d bs ts us):∃b,Rd w v d.shC b/\∀x∈b,x∈bs\/x∈us:=by
 cases h with
 |pure h=>
  have e:d.shC=d:=by cases h<;>rfl
  exact⟨_,e.symm▸h,fun x hx=>.inl hx⟩
 |fr e sz rows cs ns h1 h2 h3 h4 h5=>exact⟨_,w9 h2 h3 h4,fun x hx=>.inr hx⟩
theorem uH.DM{w:World}{vs:bh}{ds:aQ}{bs ts us:aY}(h:uH w vs ds bs ts us):∃b,lE w vs (ds.map D.shC) b/\∀x∈b,x∈bs\/x∈us:=by
 induction h with
 |nil=>exact⟨_,.nil,by simp⟩
 |cons v vs d ds b1 b2 t1 t2 u1 u2 h1 h2 _ ih=>
  obtain⟨b,q,s⟩:=h2.DM;obtain⟨b',q',s'⟩:=ih;refine⟨_,.cons _ _ _ _ _ _ h1 q q',fun x hx=>?_⟩;rcases aj.1 hx with h|h
  ·rcases s x h with h|h<;>simp[h]
  ·rcases s' x h with h|h<;>simp[h]
theorem GY.DM{w:World}{v:Value}{d:D}{bs ts us:aY}(h:GY w v d bs ts us):∃b,Rd w v d.shV b/\∀x∈b,x∈bs\/x∈us:=by
 cases h with
 |cell h=>
  by_cases uA:∃ds,d=.agg ds
  ·obtain⟨ds,rfl⟩:=uA;cases h with
   |pure h=>cases h with
    |agg cs _ _ h=>
     obtain⟨b,q,s⟩:=(uH.DX h).DM;exact⟨_,.agg _ _ _ q,s⟩
  ·have e:d.shV=d.shC:=by cases d<;>first|rfl|exact absurd ⟨_,rfl⟩ uA
   rw[e];exact h.DM
 |agg cs ds bs ts us h=>
  obtain⟨b,q,s⟩:=h.DM;exact⟨_,.agg _ _ _ q,s⟩
def D.XF(d:D):Bool:=match d with
 | .fr _ _ _=>true
 |d=>d.flat
def D.Ss(d:D):Bool:=match d with
 | .agg cs=>cs.all D.XF
 |d=>d.XF
def D.OW(d:D):Bool:=match d with
 | .ij vs=>vs.all D.Ss
 |d=>d.Ss
def D.a5F(d:D):Bool:=match d with
 | .ij _=>false
 |d=>d.Ss
theorem GX.own{v:Value}{d:D}{bs ts us:aY}(h:GX w v d bs ts us)(ho:d.XF=true):bs=[]:=by
 cases h with
 |pure h=>exact h.flat (by cases h<;>exact ho)
 |fr=>rfl
theorem uH.own{vs:bh}{ds:aQ}{bs ts us:aY}(h:uH w vs ds bs ts us)(ho:ds.all D.XF=true):bs=[]:=by
 induction h with
 |nil=>rfl
 |cons v vs d ds b1 b2 t1 t2 u1 u2 h1 h2 _ ih=>
  simp only[dD,aZ]at ho;rw[h2.own ho.1,ih ho.2];rfl
theorem GY.own{v:Value}{d:D}{bs ts us:aY}(h:GY w v d bs ts us)(ho:d.Ss=true):bs=[]:=by
 cases h with
 |cell h=>
  by_cases uA:∃ds,d=.agg ds
  ·obtain⟨ds,rfl⟩:=uA;cases h with
   |pure h=>
    cases h with
    |agg cs _ _ h=>
     simp only[D.Ss]at ho;have:∀(es:aQ) (vs:bh) (b:aY),lE w vs es b->es.all D.XF=true->es.all D.flat=true:=by
      intro es
      induction es with
      |nil=>intros;rfl
      |cons e es ih=>
       intro vs b hh ho;simp only[dD,aZ]at ho⊢;cases hh with
       |cons v vs _ _ b1 b2 _ h2 h3=>exact⟨by cases h2<;>exact ho.1,ih _ _ h3 ho.2⟩
     exact lE.flat h (this _ _ _ h ho)
  ·have e:d.Ss=d.XF:=by cases d<;>first|rfl|exact absurd ⟨_,rfl⟩ uA
   exact h.own (e▸ho)
 |agg cs ds bs ts us h=>exact h.own ho
theorem Bn.own{vs:bh}{ds:aQ}{bs ts us:aY}(h:Bn w vs ds bs ts us)(ho:ds.all D.Ss=true):bs=[]:=by
 induction h with
 |nil=>rfl
 |cons v vs d ds b1 b2 t1 t2 u1 u2 h2 _ ih=>
  simp only[dD,aZ]at ho;rw[h2.own ho.1,ih ho.2];rfl
theorem Ch.own{v:Value}{d:D}{bs ts us:aY}(h:Ch w v d bs ts us)(ho:d.OW=true):bs=[]:=by
 cases h with
 |v h=>
  have hnt:∀vs,d≠ .ij vs:=by
   intro vs e;subst e;cases h with
   |cell h=>cases h with|pure h=>cases h
  have e:d.OW=d.Ss:=by cases d<;>first|rfl|exact absurd rfl (hnt _)
  exact h.own (e▸ho)
 |ij vs ds bs ts us h=>exact h.own ho
theorem yW{o:Oper}{f:FuncId}{xs:Array Operand}{ts:Array TypeId}(hop:o.op=.call {callee:=.value (.func f),args:=xs,argTypes:=ts})
 (hf:∃fn,P.funcs[f]?=some fn/\fn.body.isSome=true/\(fn.name== "runtime.NumGoroutine")=false):
 (execOp a.eval o).run P w=.ok (.enter f (xs.map a.eval)) w:=by
 obtain⟨fn,h1,h2,h3⟩:=hf;have h2':¬fn.body=none:=by intro hb;simp[hb]at h2
 simp only[dJ,ne_eq]at h3;simp[execOp,hop,resolve,Deferred.ofValue,Act.eval,invoke,callFunc,h1,h2',h3]
theorem S0{Q':Exit->Act->World->Prop}{K:Act->World->Prop}{o:Oper}{f t:Nat}{xs:Array Operand}{ts:Array TypeId}{ds:aQ}{ms:aY}{d:D}(hs:dY Γ st κ Θ a w)
 (hop:o.op=.call {callee:=.value (.func f),args:=xs,argTypes:=ts}) (hd:o.dst=some t) (ht:t<Γ.nt) (hds:∃bs,VB w (xs.toList.map a.eval) ds bs/\∀b∈bs,Seen Θ ms b) (hsh:ms=[]\/d.OW=true)
 (oQ:Good P f ds d) (hK:∀κ' Θ' a' w',dY Γ ⟨(t,(qH st.H.length d).1)::st.σ,st.H++(qH st.H.length d).2⟩ κ' Θ' a' w'->K a' w'):o.wp P a w K Q':=by
 obtain⟨bs,hargs,hz⟩:=hds;let Θc:Nat->Nat:=fun b=>if Θ b=0\/ms.any (fun m=>Θ b==m+2)then 0 else 1
 have Md:∀b,Seen Θ ms b->Θc b=0:=by
  intro b h;simp only[Θc];rw[bX];rcases h with h|⟨m,h1,h2⟩
  ·exact .inl h
  ·exact .inr (dG.2 ⟨m,h1,by simp[h2]⟩)
 have hc:=oQ.2 w Θc _ bs hs.vok hargs (fun b hb=>Md b (hz b hb)) (fun b hb=>hs.own b (fun e=>hb (Md b (.inl e)))) (fun b=>by simp only[Θc];split<;>omega);unfold Oper.wp;rw[yW hop oQ.1,Oper.upon_enter];have e:xs.map a.eval=(xs.toList.map a.eval).toArray:=by rw[<-iR,je]
 rw[e];refine hc.mono ?_;rintro e w' ⟨v,bs',tb,ub,rfl,hb,hr,P0,htb,hnd,hfr,hsub⟩;show K (a.put o.dst v) w';rw[hd];obtain⟨L,q1,q2,q3,q4,q5⟩:=hr.inst st.H.length;obtain⟨κ',Θ',hs',hnm,_,hno⟩:=hs.a1t hb L q2 (q3▸hnd) (fun b hb'=>hfr b (q3▸hb'));rw[q1]at hs';refine hK κ' Θ' _ w' (hs'.set (t:=t) ht (q5 κ' hnm) fun b hb'=>?_);rw[hno b (q4▸htb b hb')];rcases hsh with QW|hown
 ·by_cases hlt:b<w.heap.size
  ·have h0:=P0 b hb' hlt;simp only[Θc,QW,K1]at h0;by_cases h1:Θ b=0
   ·exact h1
   ·simp[h1]at h0
  ·by_cases h0:Θ b=0
   ·exact h0
   ·exact absurd (hs.own b h0) hlt
 ·rw[hr.own hown]at hb';cases hb'
theorem a1M{Q':Exit->Act->World->Prop}{K:Act->World->Prop}{o:Oper}{f t:Nat}{xs:Array Operand}{ts:Array TypeId}{ds:aQ}{ms:aY}{d:D}(hs:dY Γ st κ Θ a w)
 (hop:o.op=.call {callee:=.value (.func f),args:=xs,argTypes:=ts}) (hd:o.dst=some t) (ht:t<Γ.nt) (hds:Ju st.H (xs.toList.map st.ev)=some (ds,ms)) (hsh:ms=[]\/d.OW=true)
 (oQ:Good P f ds d) (hK:∀κ' Θ' a' w',dY Γ ⟨(t,(qH st.H.length d).1)::st.σ,st.H++(qH st.H.length d).2⟩ κ' Θ' a' w'->K a' w'):o.wp P a w K Q':=
 S0 hs hop hd ht (NV hs hds) hsh oQ hK
def Mf(d:D):Bool:=match d with
 | .agg cs=>cs.all D.Rb
 | .ij _=>false
 |d=>d.Rb
theorem ZL{v:Value}{d:D}{bs:aY}(hr:sD w κ v d bs)(h:Mf d=true):Rd w v d bs:=by
 by_cases uA:∃ds,d=.agg ds
 ·obtain⟨ds,rfl⟩:=uA;obtain⟨cs,rfl,hcs⟩:=hr.GN;exact .agg _ _ _ (hcs.pure h)
 ·have hp:d.Rb=true:=by
   cases d<;>first|exact h|exact absurd ⟨_,rfl⟩ uA|simp[Mf]at h
  cases hr with
  |v hr=>cases hr with
   |cell hr=>cases hr with
    |pure hr=>exact hr
    |acc=>simp[D.Rb]at hp
    |ptr=>simp[D.Rb]at hp
    |op=>simp[D.Rb]at hp
   |agg=>exact absurd ⟨_,rfl⟩ uA
  |ij=>simp[Mf]at h
theorem Pm(hs:dY Γ st κ Θ a w):∀ {xs:List Operand},(xs.map st.ev).all Mf=true->∃b',VB w (xs.map a.eval) (xs.map st.ev) b'/\∀b∈b',Seen Θ [] b:=by
 intro xs
 induction xs with
 |nil=>intro _;exact⟨[],.nil,by simp⟩
 |cons x xs ih=>
  intro h;simp only[bD,dD,aZ]at h;obtain⟨b0,r0,z0⟩:=hs.ev x;obtain⟨c2,p1,p2⟩:=ih h.2;refine⟨b0++c2,.cons _ _ _ _ _ _ (ZL r0 h.1) p1,fun b hb=>?_⟩;rcases aj.1 hb with hb|hb
  ·exact .inl (z0 b hb)
  ·exact p2 b hb
theorem Xx{o:Oper}{f t:Nat}{xs:Array Operand}{ts:Array TypeId}{d:D}(hop:o.op=.call {callee:=.value (.func f),args:=xs,argTypes:=ts})(hd:o.dst=some t)(hg:o.guard=none)
 (ht:t<Γ.nt) (hk:(xs.toList.map st.ev).all Mf=true) (oQ:Good P f (xs.toList.map st.ev) d)
 (h:AO P Γ all rest Q ⟨(t,(qH st.H.length d).1)::st.σ,st.H++(qH st.H.length d).2⟩):AO P Γ all (o::rest) Q st:=by
 intro κ Θ a w hs;exact wpList_plain hg fun K hK=>S0 hs hop hd ht (Pm hs hk) (.inl rfl) oQ fun κ' Θ' a' w' hs'=>hK _ _ (h κ' Θ' a' w' hs')
theorem a17{o:Oper}{f t:Nat}{xs:Array Operand}{ts:Array TypeId}{ds:aQ}{ms:aY}{d:D}(hop:o.op=.call {callee:=.value (.func f),args:=xs,argTypes:=ts})(hd:o.dst=some t)(hg:o.guard=none)
 (ht:t<Γ.nt) (hds:Ju st.H (xs.toList.map st.ev)=some (ds,ms)) (hsh:ms=[]\/d.OW=true) (oQ:Good P f ds d)
 (h:AO P Γ all rest Q ⟨(t,(qH st.H.length d).1)::st.σ,st.H++(qH st.H.length d).2⟩):AO P Γ all (o::rest) Q st:=by
 intro κ Θ a w hs;exact wpList_plain hg fun K hK=>a1M hs hop hd ht hds hsh oQ fun κ' Θ' a' w' hs'=>hK _ _ (h κ' Θ' a' w' hs')
def Zr(P:Program)(st:St):ResultVar->Option D
 | .tmp t=>some (lk st.σ t)
 | .cell x T=>match Aj P T,lk st.σ x with
  |some ag,.ptr id off=>(match(st.H[id]?).bind Ob.Wa with|some cells=>IG ag (zm P T) cells off|none=>none)
  |_,_=>none
def DY(P:Program)(st:St):List ResultVar->Option aQ
 | []=>some []
 |r::rs=>match Zr P st r,DY P st rs with|some d,some ds=>some (d::ds)|_,_=>none
def Zt(tmps:Array Value):ResultVar->Sem Value
 | .tmp t=>pure (tmps.getD t undef)
 | .cell a t=>do loadVar t (<-asAddr (tmps.getD a undef))
theorem results_eq(fn:Func)(tmps:Array Value):results fn tmps=(do let vs<-fn.results.mapM (Zt tmps);pure (if h:vs.size=1 then vs[0]else .tuple vs)):=by
 unfold results
 congr 1
theorem Zs(hs:dY Γ st κ Θ a w){r:ResultVar}{d:D}(h:Zr P st r=some d):
 ∃v bs,(Zt a.tmps r).run P w=.ok v w/\sD w κ v d bs/\∀b∈bs,Θ b=0:=by
 cases r with
 |tmp t=>
  simp only[Zr,ar]at h;subst h;obtain⟨bs,hr,hz⟩:=hs.slot t;exact⟨_,bs,by simp[Zt],hr,hz⟩
 |cell x T=>
  have hp:pv P st (.load T (.tmp x))=some d:=by
   simp only[Zr]at h;split at h
   ·rename_i ag id off h1 h2;simp only[pv,h1,St.ev,h2];exact h
   ·cases h
  obtain⟨v,bs,hrun,hr,hz⟩:=OI (o:= {(default:Oper)with op:=.load T (.tmp x)}) hs rfl hp;refine⟨v,bs,?_,hr,hz⟩;simp only[execOp,Act.eval]at hrun;have a9g:∃b off,a.tmps.getD x undef=.pointer (some ⟨b,off,none⟩):=by
   simp only[Zr]at h;split at h
   ·rename_i ag id off h1 h2;obtain⟨b0,r0,_⟩:=hs.slot x;rw[h2]at r0;obtain⟨g,_,hv⟩:=r0.BE;exact⟨g,off,hv⟩
   ·cases h
  obtain⟨b,off,hv⟩:=a9g;simp only[Zt,hv]at hrun⊢;simp only[Instr.loadAt,Instr.sureAddr,Sem.run_bind,Sem.run_pure,Result.andThen_ok]at hrun;simp only[asAddr,Sem.run_bind,Sem.run_pure,Result.andThen_ok];cases hl:(loadVar T ⟨b,off,none⟩).run P w with
  |ok u w1=>simp only[hl,Result.andThen_ok,Result.ok.injEq,Next.value.injEq]at hrun;rw[hrun.1,hrun.2]
  |halt u w1=>simp[hl]at hrun
theorem GS(hs:dY Γ st κ Θ a w):∀ {rs:List ResultVar} {ds:aQ},DY P st rs=some ds->
 ∃(vs:bh) (bs:aY),(rs.mapM (Zt a.tmps)).run P w=.ok vs w/\
  vs.length=rs.length/\ds.length=rs.length/\(∀(i:Nat) d,ds[i]?=some d->∃v b,vs[i]?=some v/\sD w κ v d b/\∀x∈b,x∈bs)/\∀b∈bs,Θ b=0:=by
 intro rs
 induction rs with
 |nil=>
  intro ds h;simp only[DY,ar]at h;subst h;exact⟨[],[],by simp,rfl,rfl,by simp,by simp⟩
 |cons r rs ih=>
  intro ds h;simp only[DY]at h;split at h
  ·rename_i d ds' h1 h2;cases h;obtain⟨v,b,k1,k2,k3⟩:=Zs hs h1;obtain⟨vs,bs,m1,m2,m3,m4,m5⟩:=ih h2;refine⟨v::vs,b++bs,?_,by simp[m2],by simp[m3],?_,?_⟩
   ·simp only[EX,Sem.run_bind,k1,Result.andThen_ok,m1,Sem.run_pure]
   ·intro i x hx;cases i with
    |zero=>simp at hx;subst hx;exact⟨v,b,by simp,k2,by intro y hy;simp[hy]⟩
    |succ i=>
     simp at hx;obtain⟨u,b',q1,q2,q3⟩:=m4 i x hx;exact⟨u,b',by simpa using q1,q2,fun y hy=>by simp[q3 y hy]⟩
   ·intro y hy;rcases aj.1 hy with hy|hy
    ·exact k3 y hy
    ·exact m5 y hy
  ·cases h
def Ad:aQ->D
 | [d]=>d
 |ds=>.ij ds
def B9:Nat->aQ->List (Nat×D)
 |_,[]=>[]
 |k,d::ds=>(k,d)::B9 (k+1) ds
theorem LF:∀(ds:aQ) (k t:Nat),lk (B9 k ds) t=if t<k then .any else(ds[t-k]?).getD .any:=by
 intro ds
 induction ds with
 |nil=>intro k t;simp[B9,lk]
 |cons d ds ih=>
  intro k t;simp only[B9,lk];by_cases h:t=k
  ·subst h;simp
  ·rw[bL h,ih];by_cases h1:t<k
   ·rw[bX (by omega),bX h1]
   ·rw[bL (by omega),bL h1];have:t-k=(t-(k+1))+1:=by omega
    rw[this,eO]
theorem VB.at{vs:bh}{ds:aQ}{bs:aY}(h:VB w vs ds bs):vs.length=ds.length/\∀(i:Nat) d,ds[i]?=some d->∃v b,vs[i]?=some v/\Rd w v d b/\∀x∈b,x∈bs:=by
 induction ds generalizing vs bs with
 |nil=>cases h;exact⟨rfl,by simp⟩
 |cons e ds ih=>
  cases h with
  |cons v vs _ _ b1 b2 h2 h3=>
   obtain⟨l,hi⟩:=ih h3;refine⟨by simp[l],fun i d hd=>?_⟩;cases i with
   |zero=>simp at hd;subst hd;exact⟨v,b1,by simp,h2,by intro x hx;simp[hx]⟩
   |succ i=>
    simp at hd;obtain⟨u,b,k1,k3,k4⟩:=hi i d hd;exact⟨u,b,by simpa using k1,k3,fun x hx=>by simp[k4 x hx]⟩
def e7(d:D):Prop:=∃w v bs,Rd w v d bs
theorem e7.str{s:Bytes}(h:e7 (.str s)):s.length<=maxLen:=by
 obtain⟨w,v,bs,h⟩:=h;cases h with|str x hx=>simpa using hx
theorem lE.rdb{vs:bh}{ds:aQ}{bs:aY}(h:lE w vs ds bs):∀d∈ds,e7 d:=by
 intro d hd;obtain⟨i,hi,rfl⟩:=dl.1 hd;obtain⟨v,b,_,_,hr,_⟩:=h.at (ah hi);exact⟨w,v,b,hr⟩
theorem e7.agg{ds:aQ}(h:e7 (.agg ds)):∀d∈ds,e7 d:=by
 obtain⟨w,v,bs,h⟩:=h;cases h with|agg cs _ _ hx=>exact hx.rdb
theorem e7.sl{rows:List aQ}(h:e7 (.sl rows)):rows.length<=maxLen/\∀r∈rows,∀d∈r,e7 d:=by
 obtain⟨w,v,bs,h⟩:=h;cases h with
 |zR=>simp
 |oL=>simp
 |sl b off cap sz _ cs bs hb h1 h2 h3 h4 h5=>
  exact⟨by omega,fun r hr d hd=>h5.rdb d (dP.2 ⟨r,hr,hd⟩)⟩
theorem VB.rdb{vs:bh}{ds:aQ}{bs:aY}(h:VB w vs ds bs):∀d∈ds,e7 d:=by
 intro d hd;obtain⟨i,hi,rfl⟩:=dl.1 hd;obtain⟨v,b,_,hr,_⟩:=h.at.2 i _ (ah hi);exact⟨w,v,b,hr⟩
def Zg(z:Option (Nat×Nat))(d:D):D:=match d,z with
 | .nil,some (e,sz+1)=>.fr e (sz+1) []
 |d,_=>d.IK
def ES(H:bS)(z:Option (Nat×Nat))(d:D):Option (D×aY×aY):=match d with
 | .acc m=>(match H[m]? with|some (.row k e sz rows)=>(match k with| .uq=>some (.fr e sz rows,[],[m])| .sh=>some (.sl rows,[m],[])| .cl=>none| .mv _=>none)|_=>none)
 | .ptr _ _=>none
 | .op _ _ _ _=>none
 | .agg _=>none
 | .ij _=>none
 |d=>some (Zg z d,[],[])
def Mm(H:bS):List (Option (Nat×Nat))->aQ->Option (aQ×aY×aY)
 |_,[]=>some ([],[],[])
 |zs,d::ds=>match ES H zs.head?.join d,Mm H zs.tail ds with|some (e,m,q),some (es,ms,qs)=>some (e::es,m++ms,q++qs)|_,_=>none
def Ue(H:bS)(zs:List (Option (Nat×Nat)))(d:D):Option (D×aY×aY):=match d with
 | .agg cs=>(match Mm H zs cs with|some (es,ms,qs)=>some (.agg es,ms,qs)|none=>none)
 |d=>ES H zs.head?.join d
def CQ(H:bS):List (List (Option (Nat×Nat)))->aQ->Option (aQ×aY×aY)
 |_,[]=>some ([],[],[])
 |zs,d::ds=>match Ue H (zs.head?.getD []) d,CQ H zs.tail ds with|some (e,m,q),some (es,ms,qs)=>some (e::es,m++ms,q++qs)|_,_=>none
def Tg(P:Program)(fn:Func)(d:D)(e:Exit)(st:St):Prop:=
 (e=.ret\/e=.normal)/\∃nz ds es ms qs,DY P st fn.results.toList=some ds/\CQ st.H nz ds=some (es,ms,qs)/\ms.Nodup/\qs.Nodup/\Ad es=d
structure RP(Θ ρ:Nat->Nat)(qs bs ts us:List Nat):Prop where
 zero:∀b∈bs,Θ b=0
 top:∀b∈ts,(∃m∈qs,Θ b=m+2)/\b∈us
 mem:∀b∈us,b∈ts\/∃m∈qs,ρ b=m+1
 nd:us.Nodup
theorem RP.nil{ρ:Nat->Nat}{bs:aY}(h:∀b∈bs,Θ b=0):RP Θ ρ [] bs [] []:=⟨h,by simp,by simp,by simp⟩
theorem RP.app{ρ:Nat->Nat}{q1 q2 b1 b2 t1 t2 u1 u2:aY}(hf:∀b,ρ b≠0->Θ b=0)(hq:(q1++q2).Nodup)(h1:RP Θ ρ q1 b1 t1 u1)(h2:RP Θ ρ q2 b2 t2 u2):RP Θ ρ (q1++q2) (b1++b2) (t1++t2) (u1++u2):=by
 refine⟨fun b hb=>?_,fun b hb=>?_,fun b hb=>?_,bO.2 ⟨h1.nd,h2.nd,fun x hx y hy e=>?_⟩⟩
 ·rcases aj.1 hb with hb|hb
  ·exact h1.zero b hb
  ·exact h2.zero b hb
 ·rcases aj.1 hb with hb|hb
  ·obtain⟨⟨m,p,q⟩,r⟩:=h1.top b hb;exact⟨⟨m,by simp[p],q⟩,by simp[r]⟩
  ·obtain⟨⟨m,p,q⟩,r⟩:=h2.top b hb;exact⟨⟨m,by simp[p],q⟩,by simp[r]⟩
 ·rcases aj.1 hb with hb|hb
  ·rcases h1.mem b hb with h|⟨m,p,q⟩
   ·exact .inl (by simp[h])
   ·exact .inr ⟨m,by simp[p],q⟩
  ·rcases h2.mem b hb with h|⟨m,p,q⟩
   ·exact .inl (by simp[h])
   ·exact .inr ⟨m,by simp[p],q⟩
 ·subst e;have hd:=(bO.1 hq).2.2;rcases h1.mem x hx with hx|⟨m,p,q⟩
  ·obtain⟨⟨m,p,q⟩,_⟩:=h1.top x hx;rcases h2.mem x hy with hy|⟨m',p',q'⟩
   ·obtain⟨⟨m',p',q'⟩,_⟩:=h2.top x hy;exact hd m p m' p' (by omega)
   ·have:=hf x (by omega);omega
  ·rcases h2.mem x hy with hy|⟨m',p',q'⟩
   ·obtain⟨⟨m',p',q'⟩,_⟩:=h2.top x hy;have:=hf x (by omega);omega
   ·exact hd m p m' p' (by omega)
theorem Sn(z:Option (Nat×Nat)){v:Value}{d:D}{b0:aY}(hr:Rd w v d b0):∃bs,GX w v (Zg z d) bs [] []/\∀b∈bs,b∈b0:=by
 unfold Zg;split
 ·rename_i e sz;cases hr;refine⟨[],?_,by simp⟩;have:=GX.fr (w:=w) (.slice none 0 0) e (sz+1) [] [] [] (Nat.succ_pos _) (by simp) (World.ownsRow_nil w 0 e (sz+1)) .nil rfl;simpa[Value.ownBlock]using this
 ·exact⟨b0,.pure hr.soft,fun _ h=>h⟩
section
variable{H:bS}{ρ:Nat->Nat}(hf:∀b,ρ b≠0->Θ b=0)
 (hq:∀m e sz rows,H[m]?=some (.row .uq e sz rows)->∃v cs ns,κ m=some v/\0<sz/\(∀r∈rows,r.length=sz)/\w.ownsRow 0 e sz v rows.length cs/\lE w cs rows.flatten ns/\ns.Nodup/\(∀b∈ns,ρ b=m+1)/\∀g,v.ownBlock=some g->Θ g=m+2)
include hf hq
theorem T3{z:Option (Nat×Nat)}{d e:D}{ms qs:aY}{v:Value}{b0:aY}(h:ES H z d=some (e,ms,qs))(hone:v.oneCell'=true)(hr:zj w κ v d b0)(hz:∀b∈b0,Θ b=0)
 (hm:∀m∈ms,∀k e sz rows,H[m]?=some (.row k e sz rows)->zy κ Θ ρ w m k rows):∃bs ts us,GX w v e bs ts us/\RP Θ ρ qs bs ts us:=by
 cases hr with
 |pure hr=>
  have:ES H z d=some (Zg z d,[],[]):=by cases hr<;>first|rfl|simp[ES]at h
  rw[this]at h;cases h;obtain⟨bs,hb,P0⟩:=Sn z hr;exact⟨bs,[],[],hb,RP.nil (fun b hb'=>hz b (P0 b hb'))⟩
 |acc m _ hk=>
  simp only[ES]at h;split at h
  ·rename_i k e' sz rows hH;split at h
   ·cases h;obtain⟨v2,cs,ns,r1,r2,r3,r4,r5,r6,r7,r8⟩:=hq m _ _ _ hH;rw[hk]at r1;cases r1;refine⟨[],_,_,.fr v _ _ _ cs ns r2 r3 r4 r5 hone,by simp,fun b hb=>?_,fun b hb=>?_,?_⟩
    ·simp only[kJ]at hb;exact⟨⟨m,by simp,r8 b hb⟩,by simp[hb]⟩
    ·rcases aj.1 hb with hb|hb
     ·exact .inl hb
     ·exact .inr ⟨m,by simp,r7 b hb⟩
    ·refine bO.2 ⟨by cases v.ownBlock<;>simp,r6,fun x hx y hy exy=>?_⟩;subst exy;simp only[kJ]at hx;have h1:=r8 x hx;have h2:=hf x (by rw[r7 x hy];omega);omega
   ·cases h;obtain⟨v2,bs,r1,r2,r3,_⟩:=hm m (by simp) _ _ _ _ hH;rw[hk]at r1;cases r1;exact⟨bs,[],[],.pure r2,RP.nil r3⟩
   ·cases h
   ·cases h
  ·cases h
 |ptr=>simp[ES]at h
 |op=>simp[ES]at h
theorem XK:∀ {ds es:aQ} {zs:List (Option (Nat×Nat))} {ms qs:aY} {vs:bh} {b0:aY},Mm H zs ds=some (es,ms,qs)->qs.Nodup->ec w κ vs ds b0->(∀b∈b0,Θ b=0)->
 (∀m∈ms,∀k e sz rows,H[m]?=some (.row k e sz rows)->zy κ Θ ρ w m k rows)->∃bs ts us,uH w vs es bs ts us/\RP Θ ρ qs bs ts us:=by
 intro ds
 induction ds with
 |nil=>
  intro es zs ms qs vs b0 h _ hr _ _;simp only[Mm,ar,cR]at h;obtain⟨rfl,rfl,rfl⟩:=h;cases hr;exact⟨[],[],[],.nil,RP.nil (by simp)⟩
 |cons d ds ih=>
  intro es zs ms qs vs b0 h hnd hr hz hm;simp only[Mm]at h;split at h
  ·rename_i e m q es' ms' qs' h1 h2;cases h;cases hr with
   |cons v vs _ _ b1 b2 hv hc hcs=>
    obtain⟨c1,t1,u1,q1,q2⟩:=T3 hf hq h1 hv hc (fun b hb=>hz b (by simp[hb])) (fun x hx=>hm x (by simp[hx]));obtain⟨c2,t2,u2,p1,p2⟩:=ih h2 (bO.1 hnd).2.1 hcs (fun b hb=>hz b (by simp[hb])) (fun x hx=>hm x (by simp[hx]));exact⟨_,_,_,.cons _ _ _ _ _ _ _ _ _ _ hv q1 p1,RP.app hf hnd q2 p2⟩
  ·cases h
theorem Zv(hk1:∀(i:Nat) u,κ i=some u->u.oneCell'=true){zs:List (Option (Nat×Nat))}{d e:D}{ms qs:aY}{v:Value}{b0:aY}(h:Ue H zs d=some (e,ms,qs))(hnd:qs.Nodup)(hr:sD w κ v d b0)(hz:∀b∈b0,Θ b=0)
 (hm:∀m∈ms,∀k e sz rows,H[m]?=some (.row k e sz rows)->zy κ Θ ρ w m k rows):∃bs ts us,GY w v e bs ts us/\RP Θ ρ qs bs ts us:=by
 by_cases uA:∃ds,d=.agg ds
 ·obtain⟨ds,rfl⟩:=uA;obtain⟨cs,rfl,hcs⟩:=hr.GN;simp only[Ue]at h;split at h
  ·rename_i es ms' qs' h1;cases h;obtain⟨bs,ts,us,q1,q2⟩:=XK hf hq h1 hnd hcs hz hm;exact⟨bs,ts,us,.agg _ _ _ _ _ q1,q2⟩
  ·cases h
 ·have e1:Ue H zs d=ES H zs.head?.join d:=by cases d<;>first|rfl|exact absurd ⟨_,rfl⟩ uA
  rw[e1]at h;have hc:zj w κ v d b0:=by
   cases hr with
   |v hr=>cases hr with
    |cell hr=>exact hr
    |agg=>exact absurd ⟨_,rfl⟩ uA
   |ij=>simp[ES]at h
  cases hc with
  |pure hr=>
   have:ES H zs.head?.join d=some (Zg zs.head?.join d,[],[]):=by cases hr<;>first|rfl|simp[ES]at h
   rw[this]at h;cases h;obtain⟨bs,hb,P0⟩:=Sn zs.head?.join hr;exact⟨bs,[],[],.cell hb,RP.nil (fun b hb'=>hz b (P0 b hb'))⟩
  |acc m _ hk=>
   obtain⟨bs,ts,us,q1,q2⟩:=T3 hf hq h (hk1 _ _ hk) (.acc m _ hk) (by simp) hm;exact⟨bs,ts,us,.cell q1,q2⟩
  |ptr=>simp[ES]at h
  |op=>simp[ES]at h
theorem GU(hk1:∀(i:Nat) u,κ i=some u->u.oneCell'=true):∀ {ds es:aQ} {zs:List (List (Option (Nat×Nat)))} {ms qs:aY} {vs:bh},CQ H zs ds=some (es,ms,qs)->qs.Nodup->vs.length=ds.length->
 (∀(i:Nat) d,ds[i]?=some d->∃v b,vs[i]?=some v/\sD w κ v d b/\∀x∈b,Θ x=0)->
 (∀m∈ms,∀k e sz rows,H[m]?=some (.row k e sz rows)->zy κ Θ ρ w m k rows)->∃bs ts us,Bn w vs es bs ts us/\RP Θ ρ qs bs ts us:=by
 intro ds
 induction ds with
 |nil=>
  intro es zs ms qs vs h _ hl _ _;simp only[CQ,ar,cR]at h;obtain⟨rfl,rfl,rfl⟩:=h;cases vs with
  |nil=>exact⟨[],[],[],.nil,RP.nil (by simp)⟩
  |cons=>simp at hl
 |cons d ds ih=>
  intro es zs ms qs vs h hnd hl hr hm;simp only[CQ]at h;split at h
  ·rename_i e m q es' ms' qs' h1 h2;cases h;cases vs with
   |nil=>simp at hl
   |cons v vs=>
    obtain⟨v',b0,hv',hr0,yb⟩:=hr 0 d rfl;simp at hv';subst hv';obtain⟨c1,t1,u1,q1,q2⟩:=Zv hf hq hk1 h1 (bO.1 hnd).1 hr0 yb (fun x hx=>hm x (by simp[hx]));obtain⟨c2,t2,u2,p1,p2⟩:=ih h2 (bO.1 hnd).2.1 (by simpa using hl) (fun i d' Jw=>by
     obtain⟨v',b,k1,k2⟩:=hr (i+1) d' (by simpa using Jw);exact⟨v',b,by simpa using k1,k2⟩) (fun x hx=>hm x (by simp[hx]))
    exact⟨_,_,_,.cons _ _ _ _ _ _ _ _ _ _ q1 p1,RP.app hf hnd q2 p2⟩
  ·cases h
end
theorem Og{H:bS}{z:Option (Nat×Nat)}{d e:D}{ms qs:aY}(h:ES H z d=some (e,ms,qs)):(∀m∈ms,∃e sz rows,H[m]?=some (.row .sh e sz rows))/\∀m∈qs,∃e sz rows,H[m]?=some (.row .uq e sz rows):=by
 cases d with
 |acc m=>
  simp only[ES]at h;split at h
  ·rename_i k e' sz rows hH;split at h
   ·cases h;exact⟨by simp,fun m' hm'=>by simp at hm';subst hm';exact⟨_,_,_,hH⟩⟩
   ·cases h;exact⟨fun m' hm'=>by simp at hm';subst hm';exact⟨_,_,_,hH⟩,by simp⟩
   ·cases h
   ·cases h
  ·cases h
 |_=>simp[ES]at h<;>(try(obtain⟨_,rfl,rfl⟩:=h;simp))
theorem T4{H:bS}:∀ {ds es:aQ} {zs:List (Option (Nat×Nat))} {ms qs:aY},Mm H zs ds=some (es,ms,qs)->(∀m∈ms,∃e sz rows,H[m]?=some (.row .sh e sz rows))/\∀m∈qs,∃e sz rows,H[m]?=some (.row .uq e sz rows):=by
 intro ds
 induction ds with
 |nil=>intro es zs ms qs h;simp only[Mm,ar,cR]at h;obtain⟨rfl,rfl,rfl⟩:=h;simp
 |cons d ds ih=>
  intro es zs ms qs h;simp only[Mm]at h;split at h
  ·rename_i e m q es' ms' qs' h1 h2;cases h;have a1:=Og h1;have a2:=ih h2;refine⟨fun x hx=>?_,fun x hx=>?_⟩<;>rcases aj.1 hx with hx|hx
   ·exact a1.1 x hx
   ·exact a2.1 x hx
   ·exact a1.2 x hx
   ·exact a2.2 x hx
  ·cases h
theorem Uf{H:bS}{zs:List (Option (Nat×Nat))}{d e:D}{ms qs:aY}(h:Ue H zs d=some (e,ms,qs)):(∀m∈ms,∃e sz rows,H[m]?=some (.row .sh e sz rows))/\∀m∈qs,∃e sz rows,H[m]?=some (.row .uq e sz rows):=by
 by_cases uA:∃ds,d=.agg ds
 ·obtain⟨ds,rfl⟩:=uA;simp only[Ue]at h;split at h
  ·rename_i es ms' qs' h1;cases h;exact T4 h1
  ·cases h
 ·have e1:Ue H zs d=ES H zs.head?.join d:=by cases d<;>first|rfl|exact absurd ⟨_,rfl⟩ uA
  rw[e1]at h;exact Og h
theorem BF{H:bS}:∀ {ds es:aQ} {zs:List (List (Option (Nat×Nat)))} {ms qs:aY},CQ H zs ds=some (es,ms,qs)->(∀m∈ms,∃e sz rows,H[m]?=some (.row .sh e sz rows))/\∀m∈qs,∃e sz rows,H[m]?=some (.row .uq e sz rows):=by
 intro ds
 induction ds with
 |nil=>intro es zs ms qs h;simp only[CQ,ar,cR]at h;obtain⟨rfl,rfl,rfl⟩:=h;simp
 |cons d ds ih=>
  intro es zs ms qs h;simp only[CQ]at h;split at h
  ·rename_i e m q es' ms' qs' h1 h2;cases h;have a1:=Uf h1;have a2:=ih h2;refine⟨fun x hx=>?_,fun x hx=>?_⟩<;>rcases aj.1 hx with hx|hx
   ·exact a1.1 x hx
   ·exact a2.1 x hx
   ·exact a1.2 x hx
   ·exact a2.2 x hx
  ·cases h
theorem Good.of{f:FuncId}{fn:Func}{c:Code}{ds:aQ}{d:D}(hf:P.funcs[f]?=some fn)(hb:fn.body=some c)(hn:(fn.name== "runtime.NumGoroutine")=false)
 (hl:ds.length<=fn.ntmps) (h:(∀d∈ds,e7 d)->∀Γ:tY,Γ.nt=fn.ntmps->AW P Γ c (Tg P fn d) ⟨B9 0 ds,[]⟩):Good P f ds d:=by
 refine⟨⟨fn,hf,by simp[hb],hn⟩,?_⟩;intro w Θ args bs hvs hargs hz hown h1;obtain⟨hlen,TZ⟩:=hargs.at;refine calls_of_wp hf hb ?_;let Γ:tY:=⟨w,Θ,fun _=>False,fn.ntmps,fun _=>False,hvs⟩
 have hs:dY Γ ⟨B9 0 ds,[]⟩ (fun _=>none) Θ {tmps:=args.toArray++Array.replicate (fn.ntmps-args.toArray.size) undef,defers:=[]} w:=by
  refine⟨rfl,?_,fun _ _=>rfl,by simp,?_,by simp,hown,fun b _ _=>⟨rfl,h1 b⟩,fun b hb=>by have:=h1 b;omega,⟨rfl,rfl,rfl,bR _,fun _ _ _=>rfl⟩,⟨fun _=>0,by simp,by simp,by simp⟩⟩
  ·simp[Γ];omega
  ·intro t;rw[LF];simp only[ye,EZ,zS];cases hd:ds[t]? with
   |none=>exact⟨[],.of (.any _),by simp⟩
   |some x=>
    obtain⟨v,b,k1,k2,k3⟩:=TZ t x hd;refine⟨b,?_,fun y hy=>hz y (k3 y hy)⟩;have hlt:t<args.length:=(aF.1 k1).1;have:(args.toArray++Array.replicate (fn.ntmps-args.toArray.size) undef).getD t undef=v:=by
     rw[cI,fO (by simpa using hlt)];simp[k1]
    rw[this];exact .of k2
 refine wp_mono (h hargs.rdb Γ rfl _ _ _ _ hs) ?_;rintro e a' w' ⟨Td,κ0,Θ0,hs0,L8,nz,Xm,es,ms,qs,hres,hrv,QW,O5,rfl⟩;obtain⟨ρ0,hu0⟩:=hs0.ud;have I3:=BF hrv;obtain⟨Θ1,ρ1,hs1,hu1,hm1,SU,Wp⟩:=dY.NR ms hs0 hu0 QW (fun m hm=>by
  obtain⟨e,sz,rows,hH⟩:=I3.1 m hm;exact⟨_,e,sz,rows,hH,rfl⟩)
 obtain⟨vs,bs',m1,m2,m3,m4,m5⟩:=GS hs0 hres;have hq:∀m e sz rows,Td.H[m]?=some (.row .uq e sz rows)->∃v cs ns,κ0 m=some v/\0<sz/\(∀r∈rows,r.length=sz)/\w'.ownsRow 0 e sz v rows.length cs/\lE w' cs rows.flatten ns/\ns.Nodup/\(∀b∈ns,ρ1 b=m+1)/\∀g,v.ownBlock=some g->Θ1 g=m+2:=by
  intro m e sz rows hH;have hnm:m∉ms:=fun hm=>by
   obtain⟨e',sz',dF,Jf⟩:=I3.1 m hm;rw[hH]at Jf;cases Jf
  have TY:(kill Td.H ms)[m]?=some (.row .uq e sz rows):=by rw[jC hnm];exact hH
  obtain⟨v,cs,ns,r1,r2,r3,r4,r5⟩:=hu1.rows m e sz rows TY;obtain⟨p1,p2,v2,_,_,p3,_,_,p4,_⟩:=hs1.ob m _ TY;rw[r1]at p3;cases p3;exact⟨v,cs,ns,r1,p1,p2,r2,r3,r4,r5,p4⟩
 obtain⟨c,ts,us,Mc,L9⟩:=GU (w:=w') (vs:=vs) (fun b hb=>(hu1.free b hb).1) hq hs0.pM hrv O5 (by omega) (fun i d hd=>by
  obtain⟨v,b,k1,k2,k3⟩:=m4 i d hd;exact⟨v,b,k1,k2,fun x hx=>SU x (m5 x (k3 x hx))⟩) hm1
 have MC:∃v,(results fn a'.tmps).run P w'=.ok v w'/\Ch w' v (Ad es) c ts us:=by
  have hrun:(results fn a'.tmps).run P w'=.ok (if h:vs.toArray.size=1 then vs.toArray[0]else .tuple vs.toArray) w':=by
   rw[results_eq,pN];simp[m1]
  cases Mc with
  |nil=>exact⟨.tuple #[],by simpa using hrun,.ij [] [] [] [] [] .nil⟩
  |cons v vs d es b1 b2 t1 t2 u1 u2 hv vZ=>
   cases vZ with
   |nil=>
    simp only[cO];exact⟨v,by simpa using hrun,.v hv⟩
   |cons v2 vs d2 es b3 b4 t3 t4 u3 u4 MF vZ=>exact⟨.tuple (v::v2::vs).toArray,by simpa using hrun,.ij _ _ _ _ _ (.cons _ _ _ _ _ _ _ _ _ _ hv (.cons _ _ _ _ _ _ _ _ _ _ MF vZ))⟩
 obtain⟨v,Yt,UG⟩:=MC;have U5:Below w.heap.size w w':=⟨hs1.stays.os,hs1.stays.tape,hs1.stays.output,hs1.stays.size,fun b hb=>hs1.stays.block b hb (fun h=>h)⟩
 have Mb:∀b,BL Γ b->w.heap.size<=b:=fun b h=>by
  rcases h with h|h
  ·exact h
  ·exact h.elim
 have hwr:∀b∈us,w.heap.size<=b/\Wr w' b:=by
  intro b hb';rcases L9.mem b hb' with h|⟨m,hm,hρ⟩
  ·obtain⟨⟨m,hm,hΘ⟩,_⟩:=L9.top b h;refine⟨Mb b (hs1.mine b (by omega)),?_⟩;obtain⟨e,sz,rows,hH⟩:=I3.2 m hm;have:=L9;exact Rj UG b h
  ·have:=hu1.free b (by omega);exact⟨this.2.1.elim (Mb b) False.elim,this.2.2⟩
 have post:a'.defers=[]/\∃v,(results fn a'.tmps).run P w'=.ok v w'/\∃u bs' ts us,Ending.returned v=.returned u/\Below w.heap.size w w'/\Ch w' u (Ad es) bs' ts us/\(∀b∈bs',b<w.heap.size->Θ b=0)/\(∀b∈bs',b∉ts)/\us.Nodup/\
  (∀b∈us,w.heap.size<=b/\Wr w' b)/\∀b∈ts,b∈us:=by
  refine⟨hs0.defers,v,Yt,v,c,ts,us,rfl,U5,UG,fun b hb' hlt=>?_,fun b hb' ht=>?_,L9.nd,hwr,fun b hb'=>(L9.top b hb').2⟩
  ·have he:Θ1 b=Θ b:=(hs1.old b hlt (fun h=>h)).1;rw[<-he];exact L9.zero b hb'
  ·obtain⟨⟨m,_,hΘ⟩,_⟩:=L9.top b ht;have:=L9.zero b hb';omega
 rcases L8 with rfl|rfl
 ·exact post
 ·exact post
end
end Go.Cx
