/- The core of an abstract reading of Go's data: what a value shows in memory (D), which blocks it uses, and that this stays where those blocks stay. No condition; plain lemmas. -/
import Derived.WalkKit
import Derived.ProofKit
import Derived.Deep.LoopGhost
import Derived.MapKept
import Derived.Great.BuildSlice
import Derived.Maps.AppendAt
set_option linter.unusedVariables false
set_option linter.unusedSimpArgs false
namespace Go.Cx
open Go.RowKit
set_option linter.defProp false
def aA:=@Option.bind_some
def aB:=@List.mem_of_getElem?
def aD:=@List.getElem?_eq_some_iff
def aG:=@List.length_cons
def aM:=@List.length_append
def aU:=@List.mem_append
def aV:=@List.getElem?_eq_getElem
def aX:=@Bool.and_eq_true
def aa:=@cond_true
def ah:=@Option.some.injEq
def ai:=@List.length_map
def aj:=@List.getElem?_append_left
def au:=@List.all_eq_true
def av:=@List.getElem?_append_right
def ay:=@cond_false
def az:=@Array.getElem?_eq_some_iff
def b8:=@List.length_nil
def b9:=@if_neg
def bA:=@List.nodup_append
def bG:=@List.mem_cons
def bH:=@Nat.le_refl
def bI:=@List.map_cons
def bL:=@decide_eq_false
def bM:=@if_pos
def bN:=@List.append_assoc
def bO:=@decide_eq_true_eq
def bP:=@List.map_nil
def bQ:=@List.length_set
def bR:=@List.map_append
def bW:=@List.mem_range
def bg:=@List.getElem?_map
def bn:=@Bool.eq_iff_iff
def bp:=@List.mem_flatMap
def bq:=@of_decide_eq_true
def bt:=@List.mem_filterMap
def bw:=@List.getElem?_set_ne
def bz:=@Array.getD_eq_getD_getElem?
def c8:=@Bool.not_true
def cA:=@List.take_append_drop
def cB:=@List.append_nil
def cC:=@List.nil_append
def cD:=@List.getElem?_eq_none
def cF:=@Array.getElem?_eq_getElem
def cG:=@List.length_take
def cH:=@List.getElem?_take
def cJ:=@Option.map_some
def cK:=@Prod.mk.injEq
def cM:=@List.mem_of_mem_take
def cO:=@List.mem_map
def cR:=@beq_iff_eq
def cS:=@List.eq_nil_of_length_eq_zero
def cV:=@decide_eq_true
def cW:=@List.any_eq_true
def cX:=@List.getElem?_of_mem
def cY:=@Nat.zero_add
def cZ:=@Nat.le_trans
def cj:=@List.foldl_cons
def ck:=@Nat.add_sub_cancel_left
def cq:=@Classical.byContradiction
def cr:=@List.singleton_append
def cv:=@List.cons_append
def cw:=@beq_self_eq_true
def cx:=@List.getElem?_set_self
def dA:=@List.mem_flatten
def dB:=@List.mem_reverse
def dD:=@List.all_cons
def dG:=@Nat.lt_of_lt_of_le
def dK:=@beq_eq_false_iff_ne
def dL:=@Nat.lt_or_ge
def dN:=@List.mem_iff_getElem
def dO:=@Nat.mul_le_mul_right
def dP:=@Option.isSome_iff_exists
def dR:=@List.flatten_cons
def dV:=@Array.getElem?_append_left
def dW:=@List.getElem?_drop
def dX:=@List.mem_singleton
def di:=@List.getElem?_cons_succ
def dl:=@List.map_take
def dw:=@Nat.mul_le_mul_left
def eD:=@Nat.min_eq_left
def eF:=@List.flatMap_cons
def eM:=@List.map_drop
def eg:=@List.drop_left'
def eo:=@List.nodup_cons
def fC:=@List.getElem?_set
def fD:=@bne_self_eq_false
def fU:=@List.drop_drop
def fV:=@List.mem_filter
def fY:=@Array.toList_map
def gU:=@List.take_left'
def iB:=@List.getElem?_toArray
def iR:=@Array.toArray_toList
def iT:=@Nat.add_mul
def j6:=@Bool.not_false
def j7:=@List.getD_eq_getElem?_getD
def j8:=@Option.mem_toList
def jP:=@Array.toList_append
def jQ:=@List.flatten_append
def je:=@Array.mapM_eq_mapM_toList
def jg:=@List.set_append_right
def jk:=@List.pairwise_cons
def kO:=@List.mem_of_mem_drop
def kP:=@Nat.one_mul
def kX:=@Option.bind_eq_some_iff
def l6:=@Bool.or_eq_true
def lD:=@List.map_congr_left
def lI:=@Nat.sub_self
def lS:=@List.map_toArray
def mM:=@List.length_singleton
def me:=@Bool.not_eq_true'
def mh:=@List.ext_getElem?
def nC:=@List.length_erase_of_mem
def nD:=@Nat.add_assoc
def nM:=@if_true
def nT:=@Array.toList_inj
def nU:=@true_and
def oH:=@Array.getElem?_eq_none
def oI:=@List.take_of_length_le
def oJ:=@Ne.symm
def oS:=@Option.some.inj
def pF:=@Bool.true_and
def pX:=@Array.getElem?_toList
def qH:=@List.getLast?_concat
def qI:=@List.take_take
def qZ:=@Option.getD_some
def qk:=@List.drop_eq_getElem_cons
def ql:=@List.exists_mem_of_ne_nil
def qu:=@Array.length_toList
def qv:=@List.take_succ_cons
def rC:=@Bool.false_or
def rD:=@Bool.or_false
def rP:=@Nat.not_lt_zero
def rS:=@Array.all_eq_true'
def rT:=@Nat.lt_or_gt_of_ne
def ru:=@Int.eq_ofNat_of_zero_le
def rz:=@decide_eq_false_iff_not
def sL:=@Int.toNat_natCast
def sM:=@List.drop_eq_nil_of_le
def sN:=@Nat.lt_trichotomy
def sO:=@Nat.sub_zero
def sv:=@Array.getElem?_modify
def sw:=@List.length_filter_le
def sx:=@Nat.le_of_ble_eq_true
def tL:=@Bool.not_eq_true
def tM:=@List.eq_nil_iff_forall_not_mem
def tN:=@List.length_drop
def tO:=@List.not_mem_nil
def tg:=@List.Pairwise.filter
def uQ:=@List.cons.injEq
def uR:=@Option.map_none
def uf:=@List.filterMap_cons
def ug:=@List.replicate_succ
def vE:=@Nat.add_zero
def vW:=@Array.getElem_append_right
def vX:=@Bool.false_eq_true
def vY:=@List.filter_filter
def vZ:=@Nat.add_sub_cancel
def vb:=@if_false
def we:=@Array.getElem_append_left
def wg:=@List.mem_or_eq_of_mem_set
def x6:=@List.filter_congr
def x7:=@List.size_toArray
def xF:=@List.any_cons
def xG:=@List.eq_of_mem_replicate
def xH:=@List.getElem?_take_of_lt
def xm:=@List.getElem?_cons_zero
def xo:=@List.nodup_range
def yU:=@Int.le_of_lt
def yV:=@Int.le_trans
def yW:=@List.drop_of_length_le
def yX:=@List.getElem_cons_drop
def yY:=@List.length_pos_of_mem
def yZ:=@Nat.pow_succ
def ya:=@eq_iff_iff
def zR:=@Int.ediv_nonneg
def zb:=@Int.ediv_lt_of_lt_mul
def zc:=@List.concat_eq_append
def ze:=@List.eq_nil_or_concat
def zf:=@List.length_replicate
def zg:=@List.pairwise_flatMap
def Ad:=@List.drop_zero
def Ae:=@List.mapM_cons
def Af:=@Nat.zero_le
def DO:=@Bool.and_true
def Ek:=@List.all_map
def El:=@List.any_nil
def Em:=@Nat.mul_comm
def GF:=@not_or
abbrev Bytes:=List UInt8
inductive D where
 |any
 |nil
 |int (k:IntKind) (n:Int)
 |bool (b:Bool)
 |str (s:Bytes)
 |sl (rows:List (List D))
 |agg (cells:List D)
 |iE (vs:List D)
 |ep (row:List D) (off:Nat)
 |acc (id:Nat)
 |ptr (id off:Nat)
 |op (id i sz off:Nat)
 |val (v:Value)
 |fr (e:TypeId) (sz:Nat) (rows:List (List D))
 |pt (cells:List D)
 |WZ (b:Bool)
def qY(k:IntKind)(n:Int):Prop:=k.min<=n/\n<=k.max
instance (k:IntKind) (n:Int):Decidable (qY k n):=by unfold qY;infer_instance
theorem qY.wrap(k:IntKind)(n:Int):qY k (k.wrap n):=by
 unfold qY;cases k<;>simp[IntKind.min,IntKind.max,IntKind.wrap,IntKind.bits,IntKind.signed]<;>(try split)<;>omega
theorem qY.i64{n:Int}:qY .i64 n↔ -9223372036854775808<=n/\n<=9223372036854775807:=by
 simp[qY,IntKind.min,IntKind.max,IntKind.bits,IntKind.signed]
theorem qY.u8{n:Int}:qY .u8 n↔0<=n/\n<=255:=by
 simp[qY,IntKind.min,IntKind.max,IntKind.bits,IntKind.signed]
theorem qY.zero(k:IntKind):qY k 0:=by
 unfold qY;cases k<;>simp[IntKind.min,IntKind.max,IntKind.bits,IntKind.signed]
theorem qY.down{k:IntKind}{n m:Int}(h:qY k n)(h0:0<=m)(h1:m<=n):qY k m:=
 ⟨yV (qY.zero k).1 h0,yV h1 h.2⟩
mutual
inductive Rd(w:World):Value->D->List Nat->Prop
 |any (v:Value):Rd w v .any []
 |nil:Rd w (.slice none 0 0) .nil []
 |int (k:IntKind) (n:Int):qY k n->Rd w (.int k n) (.int k n) []
 |bool (b:Bool):Rd w (.bool b) (.bool b) []
 |str (s:ByteArray):s.size<=maxLen->Rd w (.string s) (.str s.data.toList) []
 |val (v:Value):Rd w v (.val v) []
 |vD:Rd w (.slice none 0 0) (.sl []) []
 |lN (a:Addr) (cap:Nat):cap<=maxLen->Rd w (.slice (some a) 0 cap) (.sl []) []
 |sl (b off cap sz:Nat) (rows:List (List D)) (cs:List Value) (bs:List Nat):b<w.heap.size->rows.length<=cap->cap<=maxLen->
  (∀r∈rows,r.length=sz)->(∀j c,cs[j]?=some c->w.cell? ⟨b,off+j,none⟩=some c)->jR w cs rows.flatten bs->
  Rd w (.slice (some ⟨b,off,none⟩) rows.length cap) (.sl rows) (b::bs)
 |agg (cs:List Value) (ds:List D) (bs:List Nat):jR w cs ds bs->Rd w (.agg cs.toArray) (.agg ds) bs
 |ep (b off:Nat) (cs:List Value) (row:List D) (o:Nat) (bs:List Nat):b<w.heap.size->(∀j c,cs[j]?=some c->w.cell? ⟨b,off+j,none⟩=some c)->
  jR w cs row bs->Rd w (.pointer (some ⟨b,off+o,none⟩)) (.ep row o) (b::bs)
 |Qd:Rd w .nilIface (.WZ false) []
 |Qe (t:TypeId) (v:Value):Rd w (.iface t v) (.WZ true) []
inductive jR(w:World):List Value->List D->List Nat->Prop
 |nil:jR w [] [] []
 |cons (v:Value) (vs:List Value) (d:D) (ds:List D) (b1 b2:List Nat):v.oneCell'=true->Rd w v d b1->jR w vs ds b2->jR w (v::vs) (d::ds) (b1++b2)
end
section
variable{w w':World}
theorem xq{b o:Nat}(h:w'.heap[b]?=w.heap[b]?):w'.cell? ⟨b,o,none⟩=w.cell? ⟨b,o,none⟩:=World.cell?_of_block (a:=⟨b,o,none⟩) h
theorem Fk{b:Nat}(hb:b<w.heap.size)(h:w'.heap[b]?=w.heap[b]?):b<w'.heap.size:=by
 rw[cF hb]at h;exact(az.1 h).1
theorem K4:
 (∀ {v d bs},Rd w v d bs->(∀b∈bs,w'.heap[b]?=w.heap[b]?)->Rd w' v d bs)/\
 (∀ {vs ds bs},jR w vs ds bs->(∀b∈bs,w'.heap[b]?=w.heap[b]?)->jR w' vs ds bs):=by
 have key:∀(m1:∀v d bs,Rd w v d bs->Prop) (m2:∀vs ds bs,jR w vs ds bs->Prop),
  m1=(fun v d bs _=>(∀b∈bs,w'.heap[b]?=w.heap[b]?)->Rd w' v d bs)->m2=(fun vs ds bs _=>(∀b∈bs,w'.heap[b]?=w.heap[b]?)->jR w' vs ds bs)->
  (∀v d bs h,m1 v d bs h)/\(∀vs ds bs h,m2 vs ds bs h):=by
  intro m1 m2 e1 e2;subst e1;subst e2;constructor
  all_goals intro v d bs h
  ·refine Rd.rec (motive_1:=fun v d bs _=>(∀b∈bs,w'.heap[b]?=w.heap[b]?)->Rd w' v d bs) (motive_2:=fun vs ds bs _=>(∀b∈bs,w'.heap[b]?=w.heap[b]?)->jR w' vs ds bs) ?_ ?_ ?_ ?_ ?_ ?_ ?_ ?_ ?_ ?_ ?_ ?_ ?_ ?_ ?_ h
   ·intro v _;exact .any _
   ·intro _;exact .nil
   ·intro k n h _;exact .int _ _ h
   ·intro b _;exact .bool _
   ·intro s h _;exact .str _ h
   ·intro v _;exact .val _
   ·intro _;exact .vD
   ·intro a cap h _;exact .lN a cap h
   ·intro b off cap sz rows cs bs h0 h1 h2 h3 h4 _ ih hb;exact .sl b off cap sz rows cs bs (Fk h0 (hb b (by simp))) h1 h2 h3 (fun j c hc=>(xq (hb b (by simp))).trans (h4 j c hc)) (ih (fun x hx=>hb x (by simp[hx])))
   ·intro cs ds bs _ ih hb;exact .agg cs ds bs (ih hb)
   ·intro b off cs row o bs h0 h4 _ ih hb;exact .ep b off cs row o bs (Fk h0 (hb b (by simp))) (fun j c hc=>(xq (hb b (by simp))).trans (h4 j c hc)) (ih (fun x hx=>hb x (by simp[hx])))
   ·intro _;exact .Qd
   ·intro t v _;exact .Qe t v
   ·intro _;exact .nil
   ·intro v vs d ds b1 b2 h1 _ _ ih1 ih2 hb;exact .cons v vs d ds b1 b2 h1 (ih1 (fun x hx=>hb x (by simp[hx]))) (ih2 (fun x hx=>hb x (by simp[hx])))
  ·refine jR.rec (motive_1:=fun v d bs _=>(∀b∈bs,w'.heap[b]?=w.heap[b]?)->Rd w' v d bs) (motive_2:=fun vs ds bs _=>(∀b∈bs,w'.heap[b]?=w.heap[b]?)->jR w' vs ds bs) ?_ ?_ ?_ ?_ ?_ ?_ ?_ ?_ ?_ ?_ ?_ ?_ ?_ ?_ ?_ h
   ·intro v _;exact .any _
   ·intro _;exact .nil
   ·intro k n h _;exact .int _ _ h
   ·intro b _;exact .bool _
   ·intro s h _;exact .str _ h
   ·intro v _;exact .val _
   ·intro _;exact .vD
   ·intro a cap h _;exact .lN a cap h
   ·intro b off cap sz rows cs bs h0 h1 h2 h3 h4 _ ih hb;exact .sl b off cap sz rows cs bs (Fk h0 (hb b (by simp))) h1 h2 h3 (fun j c hc=>(xq (hb b (by simp))).trans (h4 j c hc)) (ih (fun x hx=>hb x (by simp[hx])))
   ·intro cs ds bs _ ih hb;exact .agg cs ds bs (ih hb)
   ·intro b off cs row o bs h0 h4 _ ih hb;exact .ep b off cs row o bs (Fk h0 (hb b (by simp))) (fun j c hc=>(xq (hb b (by simp))).trans (h4 j c hc)) (ih (fun x hx=>hb x (by simp[hx])))
   ·intro _;exact .Qd
   ·intro t v _;exact .Qe t v
   ·intro _;exact .nil
   ·intro v vs d ds b1 b2 h1 _ _ ih1 ih2 hb;exact .cons v vs d ds b1 b2 h1 (ih1 (fun x hx=>hb x (by simp[hx]))) (ih2 (fun x hx=>hb x (by simp[hx])))
 obtain⟨k1,k2⟩:=key _ _ rfl rfl;exact⟨fun h=>k1 _ _ _ h,fun h=>k2 _ _ _ h⟩
theorem Rd.keep{v:Value}{d:D}{bs:List Nat}(h:Rd w v d bs)(hb:∀b∈bs,w'.heap[b]?=w.heap[b]?):Rd w' v d bs:=K4.1 h hb
theorem jR.keep{vs:List Value}{ds:List D}{bs:List Nat}(h:jR w vs ds bs)(hb:∀b∈bs,w'.heap[b]?=w.heap[b]?):jR w' vs ds bs:=K4.2 h hb
theorem Rd.lt{v:Value}{d:D}{bs:List Nat}(h:Rd w v d bs):∀b∈bs,b<w.heap.size:=by
 refine Rd.rec (motive_1:=fun v d bs _=>∀b∈bs,b<w.heap.size) (motive_2:=fun vs ds bs _=>∀b∈bs,b<w.heap.size) ?_ ?_ ?_ ?_ ?_ ?_ ?_ ?_ ?_ ?_ ?_ ?_ ?_ ?_ ?_ h
 case refine_9=>
  intro b off cap sz rows cs bs h0 h1 h2 h3 h4 _ ih x hx;rcases bG.1 hx with rfl|hx
  ·exact h0
  ·exact ih x hx
 case refine_10=>intro cs ds bs _ ih;exact ih
 case refine_11=>
  intro b off cs row o bs h0 h4 _ ih x hx;rcases bG.1 hx with rfl|hx
  ·exact h0
  ·exact ih x hx
 case refine_15=>
  intro v vs d ds b1 b2 h1 _ _ ih1 ih2 x hx;rcases aU.1 hx with hx|hx
  ·exact ih1 x hx
  ·exact ih2 x hx
 all_goals intros;simp_all
theorem jR.lt{vs:List Value}{ds:List D}{bs:List Nat}(h:jR w vs ds bs):∀b∈bs,b<w.heap.size:=by
 induction ds generalizing vs bs with
 |nil=>cases h;simp
 |cons d ds ih=>
  cases h with
  |cons v vs _ _ b1 b2 h1 h2 h3=>
   intro x hx;rcases aU.1 hx with hx|hx
   ·exact h2.lt x hx
   ·exact ih h3 x hx
theorem jR.length{vs:List Value}{ds:List D}{bs:List Nat}(h:jR w vs ds bs):vs.length=ds.length:=by
 induction ds generalizing vs bs with
 |nil=>cases h;rfl
 |cons d ds ih=>cases h with|cons v vs _ _ b1 b2 h1 h2 h3=>simp[ih h3]
theorem jR.one{vs:List Value}{ds:List D}{bs:List Nat}(h:jR w vs ds bs):∀v∈vs,v.oneCell'=true:=by
 induction ds generalizing vs bs with
 |nil=>cases h;simp
 |cons d ds ih=>
  cases h with
  |cons v vs _ _ b1 b2 h1 h2 h3=>
   intro u hu;rcases bG.1 hu with rfl|hu
   ·exact h1
   ·exact ih h3 u hu
theorem jR.app{vs us:List Value}{ds es:List D}{bs cs:List Nat}(h:jR w vs ds bs)(k:jR w us es cs):jR w (vs++us) (ds++es) (bs++cs):=by
 induction ds generalizing vs bs with
 |nil=>cases h;simpa using k
 |cons d ds ih=>
  cases h with
  |cons v vs _ _ b1 b2 h1 h2 h3=>
   rw[bN];exact .cons _ _ _ _ _ _ h1 h2 (ih h3)
theorem jR.split{vs:List Value}{ds es:List D}{bs:List Nat}(h:jR w vs (ds++es) bs):
 ∃v1 v2 b1 b2,vs=v1++v2/\bs=b1++b2/\jR w v1 ds b1/\jR w v2 es b2:=by
 induction ds generalizing vs bs with
 |nil=>exact⟨[],vs,[],bs,by simp,by simp,.nil,h⟩
 |cons d ds ih=>
  cases h with
  |cons v vs _ _ b1 b2 h1 h2 h3=>
   obtain⟨v1,v2,c1,c2,rfl,rfl,k1,k2⟩:=ih h3;exact⟨v::v1,v2,b1++c1,c2,by simp,by simp,.cons _ _ _ _ _ _ h1 h2 k1,k2⟩
theorem jR.mid{vs:List Value}{ds:List D}{bs:List Nat}(h:jR w vs ds bs)(i n:Nat):
 ∃b,jR w ((vs.drop i).take n) ((ds.drop i).take n) b/\∀x∈b,x∈bs:=by
 have e:ds=ds.take i++((ds.drop i).take n++(ds.drop i).drop n):=by rw[cA,cA]
 rw[e]at h;obtain⟨v1,v2,b1,b2,rfl,rfl,k1,k2⟩:=h.split;obtain⟨v3,v4,b3,b4,rfl,rfl,k3,k4⟩:=k2.split;refine⟨b3,?_,by intro x hx;simp[hx]⟩;have l1:=k1.length;have l3:=k3.length;by_cases hi:i<=ds.length
 ·have h1:v1.length=i:=by rw[l1];simp[hi]
  rw[eg h1];by_cases hn:n<=(ds.drop i).length
  ·have h3:v3.length=n:=by rw[l3,cG];omega
   rw[gU h3];exact k3
  ·have h4:v4.length=0:=by rw[k4.length];simp at hn⊢;omega
   have h4':v4=[]:=cS h4;subst h4';have h3:v3.length<=n:=by rw[l3,cG];omega
   simp only[cB];rw[oI h3];exact k3
 ·have h5:ds.drop i=[]:=sM (by omega);rw[h5]at k3 k4⊢;simp only[List.take_nil,List.drop_nil]at k3 k4⊢;cases k3;cases k4;have h1:v1.length<=i:=by rw[l1];simp;omega
  simp[yW h1];exact .nil
theorem jR.at{vs:List Value}{ds:List D}{bs:List Nat}(h:jR w vs ds bs){i:Nat}{d:D}(hd:ds[i]?=some d):
 ∃v b,vs[i]?=some v/\v.oneCell'=true/\Rd w v d b/\∀x∈b,x∈bs:=by
 induction ds generalizing vs bs i with
 |nil=>simp at hd
 |cons e ds ih=>
  cases h with
  |cons v vs _ _ b1 b2 h1 h2 h3=>
   cases i with
   |zero=>simp at hd;subst hd;exact⟨v,b1,by simp,h1,h2,by intro x hx;simp[hx]⟩
   |succ i=>
    simp at hd;obtain⟨u,b,k1,k2,k3,k4⟩:=ih h3 hd;exact⟨u,b,by simpa using k1,k2,k3,fun x hx=>by simp[k4 x hx]⟩
end
theorem lR{α:Type}{rows:List (List α)}{sz:Nat}(h:∀r∈rows,r.length=sz):rows.flatten.length=rows.length*sz:=by
 induction rows with
 |nil=>simp
 |cons r rows ih=>
  simp only[dR,aM,aG];rw[ih (fun x hx=>h x (by simp[hx])),h r (by simp),iT];omega
theorem Bl{α:Type}{rows:List (List α)}{sz:Nat}(h:∀r∈rows,r.length=sz){i:Nat}{r:List α}(hr:rows[i]?=some r):
 (rows.flatten.drop (i*sz)).take sz=r:=by
 induction rows generalizing i with
 |nil=>simp at hr
 |cons s rows ih=>
  have hs:=h s (by simp);cases i with
  |zero=>
   simp at hr;subst hr;simp only[Nat.zero_mul,Ad,dR];exact gU hs
  |succ i=>
   simp only[di]at hr;have:=ih (fun x hx=>h x (by simp[hx])) hr;rw[dR,iT,kP,Nat.add_comm,<-fU,eg hs];exact this
end Go.Cx
namespace Go.Cx
open Go.RowKit
abbrev aE:=List Bytes
abbrev aK:=List D
abbrev aP:=List Nat
abbrev bY:=List Value
abbrev bZ:=List Int
def uM:List (Nat×(bY->Prop)):=[(0,fun cs:bY=>cs=[.int .u64 1,.int .u64 10,.int .u64 100,.int .u64 1000,.int .u64 10000,.int .u64 100000,.int .u64 1000000,.int .u64 10000000,.int .u64 100000000,.int .u64 1000000000,.int .u64 10000000000,.int .u64 100000000000,.int .u64 1000000000000,.int .u64 10000000000000,.int .u64 100000000000000,.int .u64 1000000000000000,.int .u64 10000000000000000,.int .u64 100000000000000000,.int .u64 1000000000000000000,.int .u64 10000000000000000000]),(1,fun cs:bY=>∃tp p,cs=[Value.iface tp p])]
def ZH(w:World)(B:Nat->Prop):Prop:=∀x∈uM,B x.1/\∃cs t z,w.heap[x.1]?=some (.cells cs t z)/\x.2 cs.toList
def JR(w:World)(X:Nat->Prop):Prop:=∃B:Nat->Prop,ZH w B/\∀b,B b->b<w.heap.size/\¬X b
def LW:List (Nat×aK):=[]
def WJ(g:Nat)(ds:aK):Prop:=∃p,(g,p)∈uM/\∀cs:bY,p cs->∀(o:Nat) d,ds[o]?=some d->∃v,cs[o]?=some v/\∀w,Rd w v d []
theorem On:∀x∈LW,WJ x.1 x.2:=by intro x hx;cases hx
def Pr(g o:Nat):Option D:=(LW.find? fun x=>x.1==g).bind fun x=>x.2[o]?
theorem U9{g o:Nat}{d:D}(h:Pr g o=some d):∃ds,WJ g ds/\ds[o]?=some d:=by
 unfold Pr at h;cases hf:LW.find? fun x=>x.1==g with
 |none=>rw[hf]at h;cases h
 |some x=>
  rw[hf,aA]at h;have h1:=List.find?_some hf;have h2:=List.mem_of_find?_eq_some hf;have e:x.1=g:=by simpa using h1
  exact⟨x.2,by rw[<-e];exact On x h2,h⟩
theorem ZH.stays{w w':World}{B:Nat->Prop}(h:ZH w B)(hb:∀b,B b->w'.heap[b]?=w.heap[b]?):ZH w' B:=fun x hx=>by
 obtain⟨h1,cs,t,z,h2,h3⟩:=h x hx;exact⟨h1,cs,t,z,by rw[hb _ h1,h2],h3⟩
theorem JR.cells{w:World}{X:Nat->Prop}(h:JR w X){g:Nat}{p:bY->Prop}(hx:(g,p)∈uM):∃cs t z,w.heap[g]?=some (.cells cs t z)/\p cs.toList:=by
 obtain⟨B,h1,h2⟩:=h;exact(h1 _ hx).2
theorem JR.var{P:Program}{w:World}{X:Nat->Prop}(h:JR w X){g:Nat}{p:bY->Prop}{name:String}(hx:(g,p)∈uM)(hg:P.globalNamed name=some g):∃cs,w.var? P name=some cs/\p cs.toList:=by
 obtain⟨cs,t,z,h1,h2⟩:=h.cells hx;refine⟨cs,?_,h2⟩;unfold World.var?;rw[hg,aA,h1]
theorem JR.YQ{P:Program}{w:World}(hs:∀x∈uM,∃name cs,P.globalNamed name=some x.1/\w.var? P name=some cs/\x.2 cs.toList):JR w fun _=>False:=by
 refine⟨fun b=>b∈uM.map Prod.fst,fun x hx=>?_,fun b hb=>?_⟩
 ·obtain⟨name,cs,h1,h2,h3⟩:=hs x hx;unfold World.var? at h2;rw[h1,aA]at h2;refine⟨cO.2 ⟨x,hx,rfl⟩,?_⟩;split at h2
  ·rename_i cs' t z h4;cases h2;exact⟨_,t,z,h4,h3⟩
  ·cases h2
 ·obtain⟨x,hx,rfl⟩:=cO.1 hb;obtain⟨name,cs,h1,h2,h3⟩:=hs x hx;unfold World.var? at h2;rw[h1,aA]at h2;refine⟨?_,id⟩;split at h2
  ·rename_i cs' t z h4;exact(az.1 h4).1
  ·cases h2
end Go.Cx
namespace Go.Cx
open Go.RowKit
structure pG where
 W0:World
 Θ0:Nat->Nat
 X:Nat->Prop
 nt:Nat
 U:Nat->Prop
 vs:JR W0 X
inductive RK where
 |sh
 |uq
 |cl
 |mv (n:Nat)
def RK.L8:RK->Bool
 | .cl=>false
 |_=>true
def RK.hand:RK->Bool
 | .sh=>true
 | .uq=>true
 |_=>false
inductive Ob where
 |box (cells:aK)
 |Gj (cells:aK) (v:Value)
 |row (k:RK) (e:TypeId) (sz:Nat) (rows:List aK)
 |eE (sz:Nat) (rows:List aK) (v:Option Value)
 |hole (sz:Nat) (rows:List aK) (v:Option Value) (p n:Nat)
 |mp (kv:List (D×D))
 |tk (rows:List aK)
 |gone
def Ob.QE:Ob->Option aK
 | .box c=>some c
 | .Gj c _=>some c
 |_=>none
def Ob.re(o:Ob)(c:aK):Ob:=match o with
 | .Gj _ v=>.Gj c v
 |_=>.box c
structure St where
 σ:List (Nat×D)
 H:List Ob
def lk:List (Nat×D)->Nat->D
 | [],_=>.any
 | (t,d)::r,n=>if n=t then d else lk r n
def D.OM:Value->D
 | .bool b=>.bool b
 | .int k n=>if qY k n then .int k n else .val (.int k n)
 | .string s=>if s.size<=maxLen then .str s.data.toList else .val (.string s)
 | .slice none 0 0=>.nil
 |v=>.val v
def St.ev(st:St):Operand->D
 | .tmp t=>lk st.σ t
 | .const v=>D.OM v
 | .global g=>.val (.pointer (some ⟨g,0,none⟩))
 | .func f=>.val (.func (.func f) #[] #[])
def St.set(st:St)(t:Nat)(d:D):St:=⟨(t,d)::st.σ,st.H⟩
def St.put(st:St)(t:Option Nat)(d:D):St:=match t with|some t=>st.set t d|none=>st
inductive vR(w:World)(κ:Nat->Option Value):Value->D->List Nat->Prop
 |pure {v:Value} {d:D} {bs:aP}:Rd w v d bs->vR w κ v d bs
 |acc (id:Nat) (v:Value):κ id=some v->vR w κ v (.acc id) []
 |ptr (id off b:Nat):κ id=some (.pointer (some ⟨b,0,none⟩))->vR w κ (.pointer (some ⟨b,off,none⟩)) (.ptr id off) []
 |op (id i sz off b o0 len cap:Nat):κ id=some (.slice (some ⟨b,o0,none⟩) len cap)->vR w κ (.pointer (some ⟨b,o0+(i*sz+off),none⟩)) (.op id i sz off) []
inductive eN(w:World)(κ:Nat->Option Value):List Value->List D->List Nat->Prop
 |nil:eN w κ [] [] []
 |cons (v:Value) (vs:bY) (d:D) (ds:aK) (b1 b2:aP):v.oneCell'=true->vR w κ v d b1->eN w κ vs ds b2->eN w κ (v::vs) (d::ds) (b1++b2)
inductive I0(w:World)(κ:Nat->Option Value):Value->D->List Nat->Prop
 |cell {v:Value} {d:D} {bs:aP}:vR w κ v d bs->I0 w κ v d bs
 |agg (cs:bY) (ds:aK) (bs:aP):eN w κ cs ds bs->I0 w κ (.agg cs.toArray) (.agg ds) bs
inductive yd(w:World)(κ:Nat->Option Value):List Value->List D->List Nat->Prop
 |nil:yd w κ [] [] []
 |cons (v:Value) (vs:bY) (d:D) (ds:aK) (b1 b2:aP):I0 w κ v d b1->yd w κ vs ds b2->yd w κ (v::vs) (d::ds) (b1++b2)
inductive oK(w:World)(κ:Nat->Option Value):Value->D->List Nat->Prop
 |v {v:Value} {d:D} {bs:aP}:I0 w κ v d bs->oK w κ v d bs
 |iE (vs:bY) (ds:aK) (bs:aP):yd w κ vs ds bs->oK w κ (.tuple vs.toArray) (.iE ds) bs
theorem oK.of{w:World}{κ:Nat->Option Value}{v:Value}{d:D}{bs:aP}(h:Rd w v d bs):oK w κ v d bs:=.v (.cell (.pure h))
def Wr(w:World)(b:Nat):Prop:=∃cs T,w.heap[b]?=some (.cells cs T (0,0))
def XL(w:World)(κ:Nat->Option Value)(v:Value)(rows:List aK)(p n:Nat)(bs:aP):Prop:=
 ∃b off cap cs ns,v=.slice (some ⟨b,off,none⟩) rows.length cap/\b<w.heap.size/\rows.length<=cap/\cap<=maxLen/\(∀j c,cs[j]?=some c->w.cell? ⟨b,off+j,none⟩=some c)/\jR w cs rows.flatten ns/\bs=b::ns/\
  ∃c,cs[p]?=some c/\κ n=some c
def uh(w:World)(es:List MapEntry)(kv:List (D×D)):Prop:=
 es.length=kv.length/\∀(j:Nat) e p,es[j]?=some e->kv[j]?=some p->Rd w e.key p.1 []/\Rd w e.val p.2 []
theorem uh.stay{w w':World}{es:List MapEntry}{kv:List (D×D)}(h:uh w es kv):uh w' es kv:=
 ⟨h.1,fun j e p h1 h2=>⟨(h.2 j e p h1 h2).1.keep (by simp),(h.2 j e p h1 h2).2.keep (by simp)⟩⟩
def sQ(w:World)(κ:Nat->Option Value)(Θ:Nat->Nat)(id:Nat):Ob->Prop
 | .box cells=>∃g cs T,κ id=some (.pointer (some ⟨g,0,none⟩))/\w.heap[g]?=some (.cells cs T (0,0))/\Θ g=id+2/\
  ∃bs,eN w κ cs.toList cells bs/\∀b∈bs,Θ b=0
 | .Gj cells u=>κ id=some u/\∃g cs T,κ id=some (.pointer (some ⟨g,0,none⟩))/\w.heap[g]?=some (.cells cs T (0,0))/\Θ g=id+2/\
  ∃bs,eN w κ cs.toList cells bs/\∀b∈bs,Θ b=0
 | .row k e sz rows=>0<sz/\(∀r∈rows,r.length=sz)/\∃v cs bs,κ id=some v/\w.ownsRow 0 e sz v rows.length cs/\jR w cs rows.flatten bs/\
  (∀g,v.ownBlock=some g->Θ g=id+2)/\
  (match k with
   | .cl=>bs.Nodup/\(∀b∈bs,Θ b=id+2/\Wr w b)/\∀g,v.ownBlock=some g->g∉bs
   |_=>∀b∈bs,Θ b=0)
 | .eE sz rows u=>(∀r∈rows,r.length=sz)/\(∀x,u=some x->κ id=some x)/\∃v bs,κ id=some v/\Rd w v (.sl rows) bs/\bs.Nodup/\∀b∈bs,Θ b=id+2/\Wr w b
 | .hole sz rows u p n=>(∀r∈rows,r.length=sz)/\(∀x,u=some x->κ id=some x)/\∃v bs,κ id=some v/\XL w κ v rows p n bs/\bs.Nodup/\∀b∈bs,Θ b=id+2/\Wr w b
 | .mp kv=>∃g es clock,κ id=some (.map (some g))/\w.heap[g]?=some (.map es clock)/\Θ g=id+2/\uh w es.toList kv
 | .tk rows=>∃v bs,κ id=some v/\Rd w v (.sl rows) bs/\∀b∈bs,Θ b=0
 | .gone=>True
def uS(Γ:pG)(b:Nat):Prop:=Γ.W0.heap.size<=b\/Γ.X b
def Ou(Γ:pG)(b:Nat):Prop:=uS Γ b\/Γ.U b
theorem sQ.cs{w:World}{κ:Nat->Option Value}{Θ:Nat->Nat}{id:Nat}{o:Ob}{cells:aK}(hc:o.QE=some cells)(h:sQ w κ Θ id o):
 ∃g cs T,κ id=some (.pointer (some ⟨g,0,none⟩))/\w.heap[g]?=some (.cells cs T (0,0))/\Θ g=id+2/\∃bs,eN w κ cs.toList cells bs/\∀b∈bs,Θ b=0:=by
 cases o<;>simp only[Ob.QE,reduceCtorEq,ah]at hc
 ·subst hc;exact h
 ·subst hc;exact h.2
theorem sQ.a0U{w w':World}{κ κ':Nat->Option Value}{Θ Θ':Nat->Nat}{id:Nat}{o:Ob}{cells cells':aK}(hc:o.QE=some cells)(h:sQ w κ Θ id o)(hk:∀v,κ id=some v->κ' id=some v)
 (h':∃g cs T,κ' id=some (.pointer (some ⟨g,0,none⟩))/\w'.heap[g]?=some (.cells cs T (0,0))/\Θ' g=id+2/\∃bs,eN w' κ' cs.toList cells' bs/\∀b∈bs,Θ' b=0):sQ w' κ' Θ' id (o.re cells'):=by
 cases o<;>simp only[Ob.QE,reduceCtorEq,ah]at hc
 ·exact h'
 ·exact⟨hk _ h.1,h'⟩
structure Lo(Γ:pG)(w:World):Prop where
 os:w.os=Γ.W0.os
 tape:w.tape=Γ.W0.tape
 output:w.output=Γ.W0.output
 size:Γ.W0.heap.size<=w.heap.size
 block:∀b,b<Γ.W0.heap.size->¬Γ.X b->w.heap[b]?=Γ.W0.heap[b]?
def GJ(w:World)(κ:Nat->Option Value)(ρ:Nat->Nat)(id:Nat):Ob->Prop
 | .row (.mv n) e sz rows=>∃v cs bs,κ id=some v/\w.ownsRow 0 e sz v rows.length cs/\jR w (cs.drop (n*sz)) (rows.drop n).flatten bs/\bs.Nodup/\∀b∈bs,ρ b=id+1
 | .tk rows=>∃v bs,κ id=some v/\Rd w v (.sl rows) bs/\bs.Nodup/\∀b∈bs,ρ b=id+1
 |_=>True
structure vg(Γ:pG)(H:List Ob)(κ:Nat->Option Value)(Θ:Nat->Nat)(w:World)(ρ:Nat->Nat):Prop where
 free:∀b,ρ b≠0->Θ b=0/\Ou Γ b/\Wr w b
 rows:∀id e sz rows,H[id]?=some (.row .uq e sz rows)->∃v cs bs,κ id=some v/\w.ownsRow 0 e sz v rows.length cs/\jR w cs rows.flatten bs/\bs.Nodup/\∀b∈bs,ρ b=id+1
 more:∀id o,H[id]?=some o->GJ w κ ρ id o
structure cz(Γ:pG)(st:St)(κ:Nat->Option Value)(Θ:Nat->Nat)(a:Act)(w:World):Prop where
 defers:a.defers=[]
 size:a.tmps.size=Γ.nt
 mT:∀id,st.H.length<=id->κ id=none
 lM:∀(id:Nat) u,κ id=some u->u.oneCell'=true
 slot:∀t,∃bs,oK w κ (a.tmps.getD t undef) (lk st.σ t) bs/\∀b∈bs,Θ b=0
 ob:∀id o,st.H[id]?=some o->sQ w κ Θ id o
 own:∀b,Θ b≠0->b<w.heap.size
 old:∀b,b<Γ.W0.heap.size->¬Γ.X b->Θ b=Γ.Θ0 b/\Θ b<=1
 mine:∀b,2<=Θ b->uS Γ b
 stays:Lo Γ w
 qA:∃ρ,vg Γ st.H κ Θ w ρ
theorem cz.Z6{Γ:pG}{st:St}{κ:Nat->Option Value}{Θ:Nat->Nat}{a:Act}{w:World}(h:cz Γ st κ Θ a w):∃B:Nat->Prop,ZH w B/\∀b,B b->b<Γ.W0.heap.size/\b<w.heap.size/\¬Γ.X b:=by
 obtain⟨B,h1,h2⟩:=Γ.vs;exact⟨B,h1.stays fun b hb=>h.stays.block b (h2 b hb).1 (h2 b hb).2,fun b hb=>⟨(h2 b hb).1,dG (h2 b hb).1 h.stays.size,(h2 b hb).2⟩⟩
theorem cz.Z5{Γ:pG}{st:St}{κ:Nat->Option Value}{Θ:Nat->Nat}{a:Act}{w:World}(h:cz Γ st κ Θ a w):JR w fun _=>False:=by
 obtain⟨B,h1,h2⟩:=h.Z6;exact⟨B,h1,fun b hb=>⟨(h2 b hb).2.1,id⟩⟩
def AW(P:Program)(Γ:pG)(c:Code)(Q:Exit->St->Prop)(st:St):Prop:=
 ∀κ Θ a w,cz Γ st κ Θ a w->c.wp P (fun e a' w'=>∃rO κ' Θ',cz Γ rO κ' Θ' a' w'/\Q e rO) a w
def AO(P:Program)(Γ:pG)(all:Array Oper)(ops:List Oper)(Q:Exit->St->Prop)(st:St):Prop:=
 ∀κ Θ a w,cz Γ st κ Θ a w->wpList P all (fun e a' w'=>∃rO κ' Θ',cz Γ rO κ' Θ' a' w'/\Q e rO) ops a w
section
variable{P:Program}{Γ:pG}{Q:Exit->St->Prop}{st:St}
theorem Un(h:Q .normal st):AW P Γ .skip Q st:=fun _ _ _ _ hs=>wp_skip ⟨_,_,_,hs,h⟩
theorem XI(h:Q .ret st):AW P Γ .ret Q st:=fun _ _ _ _ hs=>wp_ret ⟨_,_,_,hs,h⟩
theorem Um{id:Nat}(h:Q (.exit id) st):AW P Γ (.exit id) Q st:=fun _ _ _ _ hs=>wp_exit ⟨_,_,_,hs,h⟩
def U4(next:St->Prop)(Q:Exit->St->Prop):Exit->St->Prop
 | .normal,st=>next st
 |e,st=>Q e st
def Kb(id:Nat)(Q:Exit->St->Prop):Exit->St->Prop
 | .exit id',st=>if id'=id then Q .normal st else Q (.exit id') st
 |e,st=>Q e st
theorem XJ{x y:Code}(h:AW P Γ x (U4 (AW P Γ y Q) Q) st):AW P Γ (.seq x y) Q st:=by
 intro κ Θ a w hs;refine wp_seq (wp_mono (h κ Θ a w hs) ?_);rintro e a' w' ⟨rO,κ',Θ',hs',hq⟩;cases e with
 |normal=>exact hq κ' Θ' a' w' hs'
 |exit id=>exact⟨_,_,_,hs',hq⟩
 |goto l=>exact⟨_,_,_,hs',hq⟩
 |ret=>exact⟨_,_,_,hs',hq⟩
 |panic c=>exact⟨_,_,_,hs',hq⟩
 |outgrown=>exact⟨_,_,_,hs',hq⟩
theorem Rh{id:Nat}{c:Code}(h:AW P Γ c (Kb id Q) st):AW P Γ (.block id c) Q st:=by
 intro κ Θ a w hs;refine wp_block (wp_mono (h κ Θ a w hs) ?_);rintro e a' w' ⟨rO,κ',Θ',hs',hq⟩;cases e with
 |exit id'=>
  simp only[Exit.inBlock,Kb]at hq⊢;split
  ·rename_i he;rw[bM he]at hq;exact⟨_,_,_,hs',hq⟩
  ·rename_i he;rw[b9 he]at hq;exact⟨_,_,_,hs',hq⟩
 |normal=>exact⟨_,_,_,hs',hq⟩
 |goto l=>exact⟨_,_,_,hs',hq⟩
 |ret=>exact⟨_,_,_,hs',hq⟩
 |panic c=>exact⟨_,_,_,hs',hq⟩
 |outgrown=>exact⟨_,_,_,hs',hq⟩
theorem Pw{id:Nat}{l:List Oper}(h:AO P Γ l.toArray l Q st):AW P Γ (.region id l.toArray false) Q st:=
 fun κ Θ a w hs=>wp_region_lit (h κ Θ a w hs)
theorem XG{all:Array Oper}(h:Q .normal st):AO P Γ all [] Q st:=fun _ _ _ _ hs=>wpList_nil ⟨_,_,_,hs,h⟩
end
section
variable{w:World}{κ:Nat->Option Value}{v:Value}{bs:aP}
theorem oK.nR{k:IntKind}{n:Int}(h:oK w κ v (.int k n) bs):v=.int k n:=by
 cases h with|v h=>cases h with|cell h=>cases h with|pure h=>cases h;rfl
theorem oK.Ig{k:IntKind}{n:Int}(h:oK w κ v (.int k n) bs):qY k n:=by
 cases h with|v h=>cases h with|cell h=>cases h with|pure h=>cases h with|int _ _ hr=>exact hr
theorem oK.U1{s:Bytes}(h:oK w κ v (.str s) bs):s.length<=maxLen:=by
 cases h with|v h=>cases h with|cell h=>cases h with|pure h=>cases h with|str x hx=>simpa using hx
theorem oK.sS{b:Bool}(h:oK w κ v (.bool b) bs):v=.bool b:=by
 cases h with|v h=>cases h with|cell h=>cases h with|pure h=>cases h;rfl
theorem oK.sj{s:Bytes}(h:oK w κ v (.str s) bs):∃x:ByteArray,v=.string x/\x.data.toList=s:=by
 cases h with|v h=>cases h with|cell h=>cases h with|pure h=>cases h;exact⟨_,rfl,rfl⟩
theorem oK.Pq{u:Value}(h:oK w κ v (.val u) bs):v=u:=by
 cases h with|v h=>cases h with|cell h=>cases h with|pure h=>cases h;rfl
theorem oK.Fq(h:oK w κ v .nil bs):v=.slice none 0 0:=by
 cases h with|v h=>cases h with|cell h=>cases h with|pure h=>cases h;rfl
theorem oK.LK{rows:List aK}(h:oK w κ v (.sl rows) bs):Rd w v (.sl rows) bs:=by
 cases h with|v h=>cases h with|cell h=>cases h with|pure h=>exact h
theorem oK.Ni{row:aK}{o:Nat}(h:oK w κ v (.ep row o) bs):Rd w v (.ep row o) bs:=by
 cases h with|v h=>cases h with|cell h=>cases h with|pure h=>exact h
theorem oK.rQ{id:Nat}(h:oK w κ v (.acc id) bs):κ id=some v/\bs=[]:=by
 cases h with|v h=>cases h with|cell h=>cases h with|pure h=>cases h|acc _ _ hk=>exact⟨hk,rfl⟩
theorem oK.xE{id off:Nat}(h:oK w κ v (.ptr id off) bs):∃b,κ id=some (.pointer (some ⟨b,0,none⟩))/\v=.pointer (some ⟨b,off,none⟩):=by
 cases h with|v h=>cases h with|cell h=>cases h with|pure h=>cases h|ptr _ _ b hk=>exact⟨b,hk,rfl⟩
theorem oK.C1{id i sz off:Nat}(h:oK w κ v (.op id i sz off) bs):∃b o0 len cap,κ id=some (.slice (some ⟨b,o0,none⟩) len cap)/\v=.pointer (some ⟨b,o0+(i*sz+off),none⟩):=by
 cases h with|v h=>cases h with|cell h=>cases h with|pure h=>cases h|op _ _ _ _ b o0 len cap hk=>exact⟨b,o0,len,cap,hk,rfl⟩
theorem eN.zY{vs:bY}{ds:aK}(h:jR w vs ds bs):eN w κ vs ds bs:=by
 induction ds generalizing vs bs with
 |nil=>cases h;exact .nil
 |cons d ds ih=>cases h with|cons v vs _ _ b1 b2 h1 h2 h3=>exact .cons _ _ _ _ _ _ h1 (.pure h2) (ih h3)
theorem zL{w:World}{e sz b o0 len cap n:Nat}{cs:bY}(h:w.ownsRow 0 e sz (.slice (some ⟨b,o0,none⟩) len cap) n cs):o0=0:=by
 rcases h.2 with⟨h,_⟩|⟨g,cap,cur,h,_⟩
 ·cases h
 ·cases h;rfl
theorem oK.CB{ds:aK}(h:oK w κ v (.agg ds) bs):∃cs:bY,v=.agg cs.toArray/\eN w κ cs ds bs:=by
 cases h with
 |v h=>
  cases h with
  |cell h=>cases h with|pure h=>cases h with|agg cs _ _ h=>exact⟨cs,rfl,eN.zY h⟩
  |agg cs _ _ h=>exact⟨cs,rfl,h⟩
theorem eN.length{vs:bY}{ds:aK}(h:eN w κ vs ds bs):vs.length=ds.length:=by
 induction ds generalizing vs bs with
 |nil=>cases h;rfl
 |cons d ds ih=>cases h with|cons v vs _ _ b1 b2 h1 h2 h3=>simp[ih h3]
theorem eN.one{vs:bY}{ds:aK}(h:eN w κ vs ds bs):∀v∈vs,v.oneCell'=true:=by
 induction ds generalizing vs bs with
 |nil=>cases h;simp
 |cons d ds ih=>
  cases h with
  |cons v vs _ _ b1 b2 h1 h2 h3=>
   intro u hu;rcases bG.1 hu with rfl|hu
   ·exact h1
   ·exact ih h3 u hu
theorem eN.app{vs us:bY}{ds es:aK}{cs:aP}(h:eN w κ vs ds bs)(k:eN w κ us es cs):eN w κ (vs++us) (ds++es) (bs++cs):=by
 induction ds generalizing vs bs with
 |nil=>cases h;simpa using k
 |cons d ds ih=>
  cases h with
  |cons v vs _ _ b1 b2 h1 h2 h3=>
   rw[bN];exact .cons _ _ _ _ _ _ h1 h2 (ih h3)
theorem eN.split{vs:bY}{ds es:aK}(h:eN w κ vs (ds++es) bs):
 ∃v1 v2 b1 b2,vs=v1++v2/\bs=b1++b2/\eN w κ v1 ds b1/\eN w κ v2 es b2:=by
 induction ds generalizing vs bs with
 |nil=>exact⟨[],vs,[],bs,by simp,by simp,.nil,h⟩
 |cons d ds ih=>
  cases h with
  |cons v vs _ _ b1 b2 h1 h2 h3=>
   obtain⟨v1,v2,c1,c2,rfl,rfl,k1,k2⟩:=ih h3;exact⟨v::v1,v2,b1++c1,c2,by simp,by simp,.cons _ _ _ _ _ _ h1 h2 k1,k2⟩
theorem eN.mid{vs:bY}{ds:aK}(h:eN w κ vs ds bs)(i n:Nat)(hn:i+n<=ds.length):
 ∃b,eN w κ ((vs.drop i).take n) ((ds.drop i).take n) b/\∀x∈b,x∈bs:=by
 have e:ds=ds.take i++((ds.drop i).take n++(ds.drop i).drop n):=by rw[cA,cA]
 rw[e]at h;obtain⟨v1,v2,b1,b2,rfl,rfl,k1,k2⟩:=h.split;obtain⟨v3,v4,b3,b4,rfl,rfl,k3,k4⟩:=k2.split;refine⟨b3,?_,by intro x hx;simp[hx]⟩;have h1:v1.length=i:=by rw[k1.length];simp;omega
 have h3:v3.length=n:=by rw[k3.length];simp;omega
 rw[eg h1,gU h3];exact k3
theorem eN.at{vs:bY}{ds:aK}(h:eN w κ vs ds bs){i:Nat}{d:D}(hd:ds[i]?=some d):
 ∃v b,vs[i]?=some v/\v.oneCell'=true/\vR w κ v d b/\∀x∈b,x∈bs:=by
 induction ds generalizing vs bs i with
 |nil=>simp at hd
 |cons e ds ih=>
  cases h with
  |cons v vs _ _ b1 b2 h1 h2 h3=>
   cases i with
   |zero=>simp at hd;subst hd;exact⟨v,b1,by simp,h1,h2,by intro x hx;simp[hx]⟩
   |succ i=>
    simp at hd;obtain⟨u,b,k1,k2,k3,k4⟩:=ih h3 hd;exact⟨u,b,by simpa using k1,k2,k3,fun x hx=>by simp[k4 x hx]⟩
theorem ON(v:Value):oK w κ v (D.OM v) []:=by
 unfold D.OM;split
 ·exact .of (.bool _)
 ·split
  ·rename_i h;exact .of (.int _ _ h)
  ·exact .of (.val _)
 ·split
  ·rename_i h;exact .of (.str _ h)
  ·exact .of (.val _)
 ·exact .of .nil
 ·exact .of (.val _)
end
section
variable{Γ:pG}{st:St}{κ:Nat->Option Value}{Θ:Nat->Nat}{a:Act}{w:World}
theorem cz.ev(h:cz Γ st κ Θ a w)(x:Operand):∃bs,oK w κ (a.eval x) (st.ev x) bs/\∀b∈bs,Θ b=0:=by
 cases x with
 |tmp t=>exact h.slot t
 |const v=>exact⟨[],ON v,by simp⟩
 |global g=>exact⟨[],.of (.val _),by simp⟩
 |func f=>exact⟨[],.of (.val _),by simp⟩
theorem cz.set(h:cz Γ st κ Θ a w){t:Nat}{v:Value}{d:D}{bs:aP}(ht:t<Γ.nt)(hv:oK w κ v d bs)(hb:∀b∈bs,Θ b=0):
 cz Γ (st.set t d) κ Θ (a.put (some t) v) w:=by
 refine⟨h.defers,by simp[Act.put,h.size],h.mT,h.lM,?_,h.ob,h.own,h.old,h.mine,h.stays,h.qA⟩;intro u;show∃bs,oK w κ ((a.tmps.setIfInBounds t v).getD u undef) (if u=t then d else lk st.σ u) bs/\_;have hsz:=h.size;by_cases hu:u=t
 ·subst hu;rw[bM rfl];have:(a.tmps.setIfInBounds u v).getD u undef=v:=by
   simp[bz,hsz,ht]
  rw[this];exact⟨bs,hv,hb⟩
 ·rw[b9 hu];have:(a.tmps.setIfInBounds t v).getD u undef=a.tmps.getD u undef:=by
   simp[bz,oJ hu]
  rw[this];exact h.slot u
end
end Go.Cx
namespace Go.Cx
open Go.RowKit
abbrev bJ:=List Ob
def wU(P:Program)(t:TypeId):Option Bool:=
 match P.underlying t with
 |some (.struct _)=>some true
 |some (.array _ _)=>some true
 |some _=>some false
 |none=>none
def vV(P:Program)(t:TypeId):Nat:=P.cellsOf t
def tfo(P:Program)(t f:Nat):Option Nat:=
 match P.underlying t with
 |some (.struct fs)=>(match fs[f]? with
  |some x=>if(P.info? x.type).isSome/\P.cellsOf x.type≠0 then some x.offset else none
  |none=>none)
 |_=>none
def tft(P:Program)(t f:Nat):Option (Nat×TypeId):=
 match P.underlying t with
 |some (.struct fs)=>(match fs[f]? with|some x=>some (x.offset,x.type)|none=>none)
 |_=>none
def CL(P:Program)(t:TypeId):Option (TypeId×Nat):=
 match P.underlying t with
 |some (.slice e)=>if(P.info? e).isSome then some (e,P.cellsOf e)else none
 |_=>none
def Yp(P:Program)(t:TypeId):Option (Nat×Nat):=
 match P.underlying t with
 |some (.array n e)=>if(P.info? e).isSome then some (P.cellsOf e,n)else none
 |_=>none
def Gp(P:Program)(t:TypeId):Bool:=match P.underlying t with|some .string=>true|_=>false
def Og(P:Program)(t:TypeId):Option IntKind:=match P.underlying t with|some (.int k)=>some k|_=>none
def XA(P:Program)(t:TypeId):Bool:=match P.underlying t with|some .bool=>true|_=>false
def Ph(P:Program)(t:TypeId):Bool:=match P.underlying t with
 |some (.struct fs)=>match fs.toList with
  | [f,g]=>f.name != "_" &&g.name != "_" &&f.offset==0&&g.offset==1&&Gp P f.type&&Gp P g.type&& !P.stoodInHeld t&& !P.eqGuardType P.depth t
  |_=>false
 |_=>false
def peq(P:Program)(op:BinOp)(t:TypeId):D->D->Option D
 | .bool a,.bool b=>if XA P t=true then match op with| .eql=>some (.bool (a==b))| .neq=>some (.bool (a != b))|_=>none else none
 | .agg [.str a,.str b],.agg [.str c,.str d]=>if Ph P t=true then match op with| .eql=>some (.bool (a==c&&b==d))| .neq=>some (.bool (!(a==c&&b==d)))|_=>none else none
 |_,_=>none
def Yq(P:Program)(t:TypeId):Bool:=match P.underlying t with|some (.interface _)=>true|_=>false
def YU(P:Program)(op:BinOp)(t:TypeId)(x:D)(y:Operand):Option D:=match x,y with
 | .WZ b,.const .nilIface=>(match Yq P t,op with|true,.eql=>some (.bool (!b))|true,.neq=>some (.bool b)|_,_=>none)
 |_,_=>none
def Qw(op:BinOp):D->D->Option D
 | .int k a,.int k' b=>
  if k=k' then
   match op with
   | .add=>some (.int k (k.wrap (a+b)))
   | .sub=>some (.int k (k.wrap (a-b)))
   | .mul=>some (.int k (k.wrap (a*b)))
   | .quo=>if 0<=a/\0<b then some (.int k (a/b))else none
   | .rem=>if 0<=a/\0<b then some (.int k (a%b))else none
   | .eql=>some (.bool (a==b))
   | .neq=>some (.bool (a != b))
   | .lss=>some (.bool (a<b))
   | .leq=>some (.bool (a<=b))
   | .gtr=>some (.bool (a>b))
   | .geq=>some (.bool (a>=b))
   |_=>none
  else none
 | .str a,.str b=>
  match op with
  | .add=>if a.length+b.length<=maxLen then some (.str (a++b))else none
  | .eql=>some (.bool (a==b))
  | .neq=>some (.bool (!(a==b)))
  | .lss=>some (.bool (Op.bytesLess a b))
  | .leq=>some (.bool (Op.bytesLess a b||a==b))
  | .gtr=>some (.bool (!(Op.bytesLess a b||a==b)))
  | .geq=>some (.bool (!(Op.bytesLess a b)))
  |_=>none
 |_,_=>none
def DW(ag:Bool)(n:Nat)(row:aK)(off:Nat):Option D:=
 if ag then(if off+n<=row.length then some (.agg ((row.drop off).take n))else none)else row[off]?
def HY(len:Nat)(lo hi:Option D):Option (Nat×Nat):=
 match(match hi with|none=>some len|some (.int _ h)=>if 0<=h/\h.toNat<=len then some h.toNat else none|_=>none)with
 |none=>none
 |some h=>match(match lo with|none=>some 0|some (.int _ l)=>if 0<=l/\l.toNat<=h then some l.toNat else none|_=>none)with
  |none=>none
  |some l=>some (l,h)
def VM(a b:Int):Int:=if b<a then b else a
def YT:D->D->Option D
 | .int k m,.int k' n=>if k=k' then some (.int k (VM m n))else none
 |_,_=>none
def Vk(P:Program)(st:St)(x:Operand)(t:TypeId):Option D:=
 match st.ev x with
 | .str s=>if Gp P t then some (.int .i64 s.length)else none
 | .sl rows=>if(CL P t).isSome then some (.int .i64 rows.length)else none
 | .nil=>if(CL P t).isSome then some (.int .i64 0)else none
 | .acc id=>(match CL P t,st.H[id]? with|some _,some (.row _ _ _ rows)=>some (.int .i64 rows.length)|_,_=>none)
 |_=>none
def D.cellsOf:D->Option aK
 | .agg ds=>some ds
 | .any=>none
 | .iE _=>none
 | .val v=>if v.oneCell' then some [.val v]else none
 |d=>some [d]
def tz(P:Program)(t:TypeId):Option aK:=
 match P.info? t with
 |some i=>(match i.zero with
  |some z=>if z.cells.toList.all (fun c=>c.oneCell')&&z.cells.size==i.size then some (z.cells.toList.map D.OM)else none
  |none=>none)
 |none=>none
def Pj(P:Program)(t:TypeId):Option (List (Nat×Nat)):=
 match P.underlying t with
 |some (.struct fs)=>fs.toList.mapM (fun f=>(P.info? f.type).map fun i=>(f.offset,i.size))
 |_=>none
def uJ(places:List (Nat×Nat))(cells:aK):List (Nat×D)->Option aK
 | []=>some cells
 | (i,d)::rest=>match places[i]?,d.cellsOf with
  |some (off,sz),some ds=>if ds.length=sz/\off+sz<=cells.length then uJ places (cells.take off++ds++cells.drop (off+sz)) rest else none
  |_,_=>none
def Z1:D->D->Option Bool
 | .str a,.str b=>some (a==b)
 | .int k a,.int k' b=>if k=k' then some (a==b)else none
 |_,_=>none
def ET:TypeDesc->D->Bool
 | .string,.str _=>true
 | .int k,.int k' _=>decide (k=k')
 |_,_=>false
def Bu(k:D):List (D×D)->Option (Option D)
 | []=>some none
 |p::r=>match Z1 k p.1 with|some true=>some (some p.2)|some false=>Bu k r|none=>none
def Fj(k v:D):List (D×D)->Option (List (D×D))
 | []=>some [(k,v)]
 |p::r=>match Z1 k p.1 with|some true=>some ((k,v)::r)|some false=>(Fj k v r).map (p:: ·)|none=>none
def R9(P:Program)(T:TypeId):Option (TypeDesc×D):=
 match P.underlying T with
 |some (.map kt et)=>(match P.underlying kt,P.info? et with
  |some d,some i=>(match i.zero with|some z=>if z.oneCell'=true then some (d,D.OM z)else none|none=>none)
  |_,_=>none)
 |_=>none
def Z4(P:Program)(T:TypeId)(kv:List (D×D))(k:D)(ok:Bool):Option D:=
 match R9 P T with
 |some (kd,dz)=>(match ET kd k,Bu k kv with
  |true,some (some d)=>some (bif ok then .iE [d,.bool true]else d)
  |true,some none=>some (bif ok then .iE [dz,.bool false]else dz)
  |_,_=>none)
 |none=>none
def M1(k:IntKind)(a b:Int):Int:=k.wrap ((BitVec.ofInt k.bits a&&& BitVec.ofInt k.bits b).toNat)
def ZJ(k:IntKind)(a b:Int):Int:=k.wrap ((BitVec.ofInt k.bits a|||BitVec.ofInt k.bits b).toNat)
def P4(k:IntKind)(a b:Int):Int:=k.wrap ((BitVec.ofInt k.bits a^^^BitVec.ofInt k.bits b).toNat)
def N8(k:IntKind)(a b:Int):Int:=a.fdiv (2^(min b.toNat k.bits))
def YS(op:BinOp)(x y:D):Option D:=match x,y with
 | .int k a,.int k' b=>(match op with
  | .and=>if k=k' then some (.int k (M1 k a b))else none
  | .or=>if k=k' then some (.int k (ZJ k a b))else none
  | .xor=>if k=k' then some (.int k (P4 k a b))else none
  | .shr=>if 0<=b then some (.int k (N8 k a b))else none
  |_=>none)
 |_,_=>none
theorem qY.shr{k:IntKind}{a:Int}(h:qY k a)(b:Int):qY k (N8 k a b):=by
 have hm:(0:Int)<2^(min b.toNat k.bits):=Int.pow_pos (by decide);unfold N8;rw[Int.fdiv_eq_ediv_of_nonneg _ (yU hm)];generalize(2:Int)^(min b.toNat k.bits)=m at hm;have hz:=qY.zero k;rcases Int.lt_or_le a 0 with h0|h0
 ·refine⟨yV h.1 (Int.le_ediv_of_mul_le hm ?_),yV (yU (zb (b:=0) hm (by omega))) hz.2⟩;have:a*m<=a*1:=Int.mul_le_mul_of_nonpos_left (yU h0) (by omega);omega
 ·exact h.down (zR h0 (yU hm)) (Int.ediv_le_self m h0)
def pv(P:Program)(st:St):Op->Option D
 | .lookup T x i ok=>match st.ev x with
  | .acc id=>(match st.H[id]? with|some (.mp kv)=>Z4 P T kv (st.ev i) ok|_=>none)
  |_=>none
 | .build t parts=>match tz P t,Pj P t with
  |some zs,some ps=>(uJ ps zs (parts.toList.map fun p=>(p.1,st.ev p.2))).map D.agg
  |_,_=>none
 | .move x=>some (st.ev x)
 | .assign x=>some (st.ev x)
 | .pick c a b=>match st.ev c with| .bool t=>some (bif t then st.ev a else st.ev b)|_=>none
 | .binOp op t x y _=>match Qw op (st.ev x) (st.ev y)with|some d=>some d|none=>(match peq P op t (st.ev x) (st.ev y)with|some d=>some d|none=>(match YU P op t (st.ev x) y with|some d=>some d|none=>YS op (st.ev x) (st.ev y)))
 | .nilCheck x=>match st.ev x with| .ptr i o=>some (.ptr i o)| .op i a b c=>some (.op i a b c)| .ep r o=>some (.ep r o)|_=>none
 | .unOp .not _ x=>match st.ev x with| .bool b=>some (.bool (!b))|_=>none
 | .unOp .neg _ x=>match st.ev x with| .int k n=>some (.int k (k.wrap (0-n)))|_=>none
 | .convert s d x=>match st.ev x,Og P s,Og P d with| .int _ n,some _,some k=>some (.int k (k.wrap n))|_,_,_=>none
 | .field t x f=>match tft P t f,st.ev x with
  |some (off,ft),.agg cells=>(match wU P ft with|some ag=>DW ag (vV P ft) cells off|none=>none)
  |_,_=>none
 | .fieldAddr t x f=>match tfo P t f,st.ev x with
  |some o,.ptr id off=>some (.ptr id (off+o))
  |some o,.ep row off=>some (.ep row (off+o))
  |some o,.op id i sz off=>some (.op id i sz (off+o))
  |_,_=>none
 | .indexAddr t x i=>match CL P t,st.ev x,st.ev i with
  |some (_,sz),.sl rows,.int _ n=>if 0<=n then(match rows[n.toNat]? with|some row=>if row.length=sz then some (.ep row 0)else none|none=>none)else none
  |some (_,sz),.acc id,.int _ n=>(match st.H[id]? with
   |some (.row _ _ sz' rows)=>if sz=sz'/\0<=n/\n.toNat<rows.length then some (.op id n.toNat sz 0)else none
   |_=>none)
  |_,.val (.pointer (some ⟨g,o,none⟩)),.int _ n=>(match Yp P t with
   |some (sz,len)=>if 0<=n/\n.toNat<len then some (.val (.pointer (some ⟨g,o+n.toNat*sz,none⟩)))else none
   |none=>none)
  |_,_,_=>none
 | .load t x=>match wU P t,st.ev x with
  |some ag,.ep row off=>DW ag (vV P t) row off
  |some ag,.ptr id off=>(match(st.H[id]?).bind Ob.QE with|some cells=>DW ag (vV P t) cells off|none=>none)
  |some ag,.op id i sz off=>(match st.H[id]? with
   |some (.row k _ sz' rows)=>(match rows[i]? with|some row=>if sz'=sz/\k.L8=true/\off+(bif ag then vV P t else 1)<=sz then DW ag (vV P t) row off else none|none=>none)
   |_=>none)
  |some ag,.val (.pointer (some ⟨g,o,none⟩))=>(match ag with|false=>Pr g o|true=>none)
  |_,_=>none
 | .extract x i=>match st.ev x with| .iE vs=>vs[i]? |_=>none
 | .index t x i=>match Gp P t,st.ev x,st.ev i with
  |true,.str s,.int _ n=>if 0<=n then(match s[n.toNat]? with|some b=>some (.int .u8 b.toNat)|none=>none)else none
  |_,_,_=>none
 | .slice t x lo hi none=>match st.ev x with
  | .str s=>if Gp P t then(match HY s.length (lo.map st.ev) (hi.map st.ev)with|some (l,h)=>some (.str ((s.take h).drop l))|none=>none)else none
  | .sl rows=>(match CL P t,HY rows.length (lo.map st.ev) (hi.map st.ev)with
   |some (_,sz),some (l,h)=>if(rows.all (fun r=>r.length==sz))then some (.sl ((rows.take h).drop l))else none
   |_,_=>none)
  |_=>none
 | .call c=>match c.callee,c.args.toList,c.argTypes.toList with
  | .builtin .len,[x],[t]=>Vk P st x t
  | .builtin .min,[x,y],[_,_]=>YT (st.ev x) (st.ev y)
  |_,_,_=>none
 |_=>none
section
variable{P:Program}{Γ:pG}{st:St}{κ:Nat->Option Value}{Θ:Nat->Nat}{a:Act}{w:World}
def sy(P:Program)(κ:Nat->Option Value)(Θ:Nat->Nat)(a:Act)(w:World)(o:Oper)(d:D):Prop:=
 ∃v bs,(execOp a.eval o).run P w=.ok (.value v) w/\oK w κ v d bs/\∀b∈bs,Θ b=0
theorem L6{n:Nat}(h:n<=maxLen):qY .i64 (n:Int):=by
 rw[qY.i64];unfold maxLen at h;omega
theorem jO{k:IntKind}{n:Int}(h:qY k n):k.wrap n=n:=by
 unfold qY at h;cases k<;>simp[IntKind.min,IntKind.max,IntKind.wrap,IntKind.bits,IntKind.signed]at h⊢ <;>(try split)<;>omega
theorem OQ{o:Oper}{op:BinOp}{t t':TypeId}{x y:Operand}{d:D}(hs:cz Γ st κ Θ a w)(ho:o.op=.binOp op t x y t')
 (h:Qw op (st.ev x) (st.ev y)=some d):sy P κ Θ a w o d:=by
 obtain⟨b1,r1,_⟩:=hs.ev x;obtain⟨b2,r2,_⟩:=hs.ev y;generalize st.ev x=dx at*;generalize st.ev y=dy at*;unfold Qw at h;split at h
 ·rename_i k p k' q;split at h
  ·rename_i hk;subst hk;have e1:=r1.nR;have e2:=r2.nR;cases op<;>simp only[ah,reduceCtorEq]at h
   case quo=>
    split at h
    ·rename_i hq;cases h;have Zm:q≠0:=by omega
     have hle:p/q<=p:=Int.ediv_le_self q hq.1;have h0:0<=p/q:=zR hq.1 (by omega);have hin:=r1.Ig.down h0 hle;have hw:k.wrap (p.tdiv q)=p/q:=by
      rw[Int.tdiv_eq_ediv_of_nonneg hq.1];exact jO hin
     exact⟨_,[],by simp[execOp,ho,e1,e2,binOp,eqGuard,Op.intDiv,Zm,hw],.of (.int _ _ hin),by simp⟩
    ·cases h
   case rem=>
    split at h
    ·rename_i hq;cases h;have Zm:q≠0:=by omega
     have h0:0<=p%q:=Int.emod_nonneg p Zm;have hle:p%q<=p:=by
      have h1:=Int.emod_add_mul_ediv p q;have h2:0<=q*(p/q):=Int.mul_nonneg (by omega) (zR hq.1 (by omega));omega
     have hin:=r1.Ig.down h0 hle;have hw:p.tmod q=p%q:=Int.tmod_eq_emod_of_nonneg hq.1;exact⟨_,[],by simp[execOp,ho,e1,e2,binOp,eqGuard,Op.intDiv,Zm,hw],.of (.int _ _ hin),by simp⟩
    ·cases h
   all_goals subst h
   all_goals first
    |exact⟨_,[],by simp[execOp,ho,e1,e2,binOp,eqGuard,Op.intArith],.of (.int _ _ (qY.wrap _ _)),by simp⟩
    |exact⟨_,[],by simp[execOp,ho,e1,e2,binOp,eqGuard,Op.intCmp],.of (.bool _),by simp⟩
  ·cases h
 ·rename_i p q;obtain⟨u,e1,rfl⟩:=r1.sj;obtain⟨v,e2,rfl⟩:=r2.sj;cases op<;>simp only[ah,reduceCtorEq]at h
  case add=>
   split at h
   ·rename_i hl;cases h;have hsz:u.size+v.size<=9223372036854775807:=by
     simp only[qu,maxLen]at hl;exact hl
    refine⟨.string (u++v),[],?_,?_,by simp⟩
    ·simp[execOp,ho,e1,e2,binOp,eqGuard,run_string_add_sum w u v hsz]
    ·have:=Rd.str (w:=w) (u++v) (by rw[ByteArray.size_append'];unfold maxLen;omega);simp only[ByteArray.data_append,jP]at this;exact .of this
   ·cases h
  all_goals subst h
  all_goals exact⟨_,[],by simp[execOp,ho,e1,e2,binOp,eqGuard,Op.stringOp,ByteArray.toList_eq],.of (.bool _),by simp⟩
 ·cases h
theorem CI{t:TypeId}{b:Bool}(h:wU P t=some b)(w:World):(isAgg t).run P w=.ok b w:=by
 unfold wU at h;split at h<;>first
  | (rename_i hu;cases h;simp[isAgg,run_underlying hu])
  | (rename_i d _ _ hu;cases h;cases d<;>simp_all [isAgg,run_underlying hu])
  |cases h
theorem info_of_underlying{t:TypeId}{d:TypeDesc}(h:P.underlying t=some d):∃i,P.info? t=some i:=by
 unfold Program.underlying at h;cases hi:P.info? t with
 |none=>simp[hi]at h
 |some i=>exact⟨i,rfl⟩
theorem Fi{t:TypeId}{b:Bool}(h:wU P t=some b):∃i,P.info? t=some i:=by
 unfold wU at h;split at h<;>first
  | (rename_i hu;exact info_of_underlying hu)
  |cases h
theorem rN{t:TypeId}(h:∃i,P.info? t=some i)(w:World):(sizeOf t).run P w=.ok (vV P t) w:=by
 obtain⟨i,hi⟩:=h;simp[sizeOf,typeInfo,hi,vV,Program.cellsOf]
theorem mJ{t:TypeId}{ag:Bool}(ht:wU P t=some ag){b off o:Nat}{cs:bY}
 (hc:∀j c,cs[j]?=some c->w.cell? ⟨b,off+j,none⟩=some c):
 (ag=true->o+vV P t<=cs.length->(Instr.loadAt t (.pointer (some ⟨b,off+o,none⟩))).run P w=.ok (.agg ((cs.drop o).take (vV P t)).toArray) w)/\
 (ag=false->∀c,cs[o]?=some c->(Instr.loadAt t (.pointer (some ⟨b,off+o,none⟩))).run P w=.ok c w):=by
 constructor
 ·intro e hl;subst e;have hlen:((cs.drop o).take (vV P t)).length=vV P t:=by simp;omega
  have:=run_loadCells_list (P:=P) w ⟨b,off+o,none⟩ ((cs.drop o).take (vV P t)) (by
   intro j v hj;rw[Addr.add_lit];rw[cH]at hj;split at hj
   ·rw[dW]at hj;rw[nD];exact hc _ _ hj
   ·cases hj)
  rw[hlen]at this;simp[Instr.loadAt,Instr.sureAddr,loadVar,CI ht,rN (Fi ht),this]
 ·intro e c hj;subst e;have:=hc o c hj;simp[Instr.loadAt,Instr.sureAddr,loadVar,CI ht,this]
theorem vR.LR{v:Value}{d:D}{bs:aP}(h:vR w κ v d bs):oK w κ v d bs:=.v (.cell h)
theorem Io{o:Oper}{t:TypeId}{x:Operand}{d:D}(hs:cz Γ st κ Θ a w)(ho:o.op=.load t x)
 (h:pv P st (.load t x)=some d):sy P κ Θ a w o d:=by
 obtain⟨b1,r1,z1⟩:=hs.ev x;simp only[pv]at h;split at h
 ·rename_i ag row off ht hx;rw[hx]at r1;have hrd:=r1.Ni;generalize PO:a.eval x=vx at hrd;cases hrd with
  |ep b base cs _ _ bs h0 hc p9=>
   have L:=mJ (P:=P) (w:=w) ht (o:=off) hc;unfold DW at h;split at h
   ·rename_i hag;split at h
    ·rename_i hl;cases h;have hl':off+vV P t<=cs.length:=by rw[p9.length];exact hl
     obtain⟨b',hm,hsub⟩:=p9.mid off (vV P t);exact⟨_,b',by simp only[execOp,ho,PO];simp[L.1 hag hl'],.of (.agg _ _ _ hm),fun y hy=>z1 y (by simp[hsub y hy])⟩
    ·cases h
   ·rename_i hag;simp only[tL]at hag;obtain⟨v,b',hv,_,hr,hsub⟩:=p9.at h;exact⟨v,b',by simp only[execOp,ho,PO];simp[L.2 hag v hv],.of hr,fun y hy=>z1 y (by simp[hsub y hy])⟩
 ·rename_i ag id off ht hx;rw[hx]at r1;obtain⟨g,hk,hv⟩:=r1.xE;split at h
  ·rename_i cells hH;obtain⟨ob,hH,wY⟩:=kX.1 hH;obtain⟨g',cs,T,hk',hg,hΘ,bs,p9,hz⟩:=(hs.ob id _ hH).cs wY;rw[hk]at hk';cases hk';have hc:∀j c,cs.toList[j]?=some c->w.cell? ⟨g,0+j,none⟩=some c:=by
    intro j c hj;simp only[cY,World.cell?,hg];simpa using hj
   have L:=mJ (P:=P) (w:=w) ht (o:=off) hc;simp only[cY]at L;unfold DW at h;split at h
   ·rename_i hag;split at h
    ·rename_i hl;cases h;have hl':off+vV P t<=cs.toList.length:=by rw[p9.length];exact hl
     obtain⟨b',hm,hsub⟩:=p9.mid off (vV P t) hl;exact⟨_,b',by simp only[execOp,ho,hv];simp[L.1 hag hl'],.v (.agg _ _ _ hm),fun y hy=>hz y (hsub y hy)⟩
    ·cases h
   ·rename_i hag;simp only[tL]at hag;obtain⟨v,b',Z0,_,hr,hsub⟩:=p9.at h;exact⟨v,b',by simp only[execOp,ho,hv];simp[L.2 hag v Z0],hr.LR,fun y hy=>hz y (hsub y hy)⟩
  ·cases h
 ·rename_i ag id i sz off ht hx;rw[hx]at r1;obtain⟨g,o0,len,cap,hk,hv⟩:=r1.C1;split at h
  ·rename_i k e sz' rows hH;split at h
   ·rename_i row hrow;split at h
    ·rename_i ZV;obtain⟨rfl,hk0,hoff⟩:=ZV;obtain⟨hsz,hrl,vk,cs,bs,PN,hown,p9,hΘ,hz⟩:=hs.ob id _ hH;have uN:∀b∈bs,Θ b=0:=by cases k<;>first|exact hz|simp[RK.L8]at hk0
     rw[hk]at PN;cases PN;have UT:=zL hown;subst UT;rw[cY]at hv;have PM:row.length=sz':=hrl row (aB hrow);have hcells:∀j c,cs[j]?=some c->w.cell? ⟨g,0+j,none⟩=some c:=by
      intro j c hj;have:=hown.cells (g:=g) (by simp[Value.ownBlock]) j c hj;simpa[Addr.add_lit]using this
     have L:=mJ (P:=P) (w:=w) ht (o:=i*sz'+off) hcells;simp only[cY]at L;have a2N:=p9.length;have hmid:=Bl hrl hrow;have hlt:i<rows.length:=(aD.1 hrow).1;have hfl:=lR hrl;have hle:(i+1)*sz'<=rows.length*sz':=dO _ hlt;rw[iT,kP]at hle;unfold DW at h;split at h
     ·rename_i hag;subst hag;simp only[aa]at hoff;split at h
      ·rename_i hl;cases h;have hl':i*sz'+off+vV P t<=cs.length:=by rw[a2N,hfl];omega
       obtain⟨b',hm,hsub⟩:=p9.mid (i*sz'+off) (vV P t);have e:(rows.flatten.drop (i*sz'+off)).take (vV P t)=(row.drop off).take (vV P t):=by
        rw[<-hmid,List.drop_take,qI,fU,eD (by omega)]
       rw[e]at hm;exact⟨_,b',by simp only[execOp,ho,hv];simp[L.1 rfl hl'],.of (.agg _ _ _ hm),fun y hy=>uN y (hsub y hy)⟩
      ·cases h
     ·rename_i hag;simp only[tL]at hag;subst hag;simp only[ay]at hoff;have e:rows.flatten[i*sz'+off]?=some d:=by
       rw[<-hmid,cH,bM (by omega),dW]at h;exact h
      obtain⟨v,b',Z0,_,hr,hsub⟩:=p9.at e;exact⟨v,b',by simp only[execOp,ho,hv];simp[L.2 rfl v Z0],.of hr,fun y hy=>uN y (hsub y hy)⟩
    ·cases h
   ·cases h
  ·cases h
 ·rename_i ag g o' ht hx;rw[hx]at r1;have hv:=r1.Pq;split at h
  ·obtain⟨ds,⟨p,hp,hcs⟩,hd⟩:=U9 h;obtain⟨B,hB,_⟩:=hs.Z6;obtain⟨_,cs,T,z,hg,hpc⟩:=hB _ hp;obtain⟨v,MW,hrd⟩:=hcs _ hpc _ _ hd;have hc:∀j c,cs.toList[j]?=some c->w.cell? ⟨g,0+j,none⟩=some c:=by
    intro j c hj;simp only[cY,World.cell?,hg];simpa using hj
   have L:=(mJ (P:=P) (w:=w) ht (o:=o') hc).2 rfl v MW;rw[cY]at L;exact⟨v,[],by simp only[execOp,ho,hv];simp[L],.of (hrd w),by simp⟩
  ·cases h
 ·cases h
theorem MJ{o:Oper}{t f:Nat}{x:Operand}{d:D}(hs:cz Γ st κ Θ a w)(ho:o.op=.field t x f)
 (h:pv P st (.field t x f)=some d):sy P κ Θ a w o d:=by
 obtain⟨b1,r1,z1⟩:=hs.ev x;simp only[pv]at h;split at h
 ·rename_i off ft cells ht hx;rw[hx]at r1;obtain⟨cs,hv,p9⟩:=r1.CB;unfold tft at ht;split at ht
  ·rename_i fs hu;split at ht
   ·rename_i fl hfl;cases ht;split at h
    ·rename_i ag hta;unfold DW at h;split at h
     ·rename_i hag;subst hag;split at h
      ·rename_i hl;cases h;obtain⟨b',hm,hsub⟩:=p9.mid fl.offset (vV P fl.type) hl;refine⟨.agg ((cs.drop fl.offset).take (vV P fl.type)).toArray,b',?_,.v (.agg _ _ _ hm),fun y hy=>z1 y (hsub y hy)⟩;have e:cs.toArray.extract fl.offset (fl.offset+vV P fl.type)=((cs.drop fl.offset).take (vV P fl.type)).toArray:=by
        rw[List.extract_toArray,List.extract_eq_take_drop];congr 1;congr 1;omega
       simp only[execOp,ho,hv];simp[Instr.field,run_underlying hu,hfl,asAgg,part,CI hta,rN (Fi hta),e]
      ·cases h
     ·rename_i hag;simp only[tL]at hag;subst hag;obtain⟨v,b',MW,_,hr,hsub⟩:=p9.at h;refine⟨v,b',?_,.v (.cell hr),fun y hy=>z1 y (hsub y hy)⟩;simp only[execOp,ho,hv];simp[Instr.field,run_underlying hu,hfl,asAgg,part,CI hta,MW]
    ·cases h
   ·cases ht
  ·cases ht
 ·cases h
theorem HT{o:Oper}{t f:Nat}{x:Operand}{d:D}(hs:cz Γ st κ Θ a w)(ho:o.op=.fieldAddr t x f)
 (h:pv P st (.fieldAddr t x f)=some d):sy P κ Θ a w o d:=by
 obtain⟨b1,r1,z1⟩:=hs.ev x;have hf:∀ {o':Nat},tfo P t f=some o'->∀(b off:Nat),(Instr.fieldAt t (.pointer (some ⟨b,off,none⟩)) f).run P w=.ok (.pointer (some ⟨b,off+o',none⟩)) w:=by
  intro o' h b off;unfold tfo at h;split at h
  ·rename_i fs hu;split at h
   ·rename_i fl hfl;split at h
    ·rename_i hc;cases h;obtain⟨i,hi⟩:=dP.1 hc.1;have hsz:=rN (P:=P) ⟨i,hi⟩ w;have h0:vV P fl.type≠0:=hc.2;simp[Instr.fieldAt,run_underlying hu,hfl,Instr.sureAddr,fieldPlace,hsz,h0,Addr.add_lit]
    ·cases h
   ·cases h
  ·cases h
 simp only[pv]at h;split at h
 ·rename_i o' id off ht hx;cases h;rw[hx]at r1;obtain⟨g,hk,hv⟩:=r1.xE;exact⟨_,[],by simp only[execOp,ho,hv];simp[hf ht g off],(vR.ptr id (off+o') g hk).LR,by simp⟩
 ·rename_i o' row off ht hx;cases h;rw[hx]at r1;have hrd:=r1.Ni;generalize PO:a.eval x=vx at hrd;cases hrd with
  |ep b base cs _ _ bs h0 hc p9=>
   refine⟨.pointer (some ⟨b,base+off+o',none⟩),b::bs,by simp only[execOp,ho,PO];simp[hf ht b (base+off)],?_,z1⟩;rw[nD];exact .of (.ep b base cs row (off+o') bs h0 hc p9)
 ·rename_i o' id i sz off ht hx;cases h;rw[hx]at r1;obtain⟨g,o0,len,cap,hk,hv⟩:=r1.C1;refine⟨.pointer (some ⟨g,o0+(i*sz+off)+o',none⟩),[],by simp only[execOp,ho,hv];simp[hf ht g (o0+(i*sz+off))],?_,by simp⟩;rw[nD,nD];exact(vR.op id i sz (off+o') g o0 len cap hk).LR
 ·cases h
theorem lg{t e sz:Nat}(h:CL P t=some (e,sz)):P.underlying t=some (.slice e)/\(∃i,P.info? e=some i)/\vV P e=sz:=by
 unfold CL at h;split at h
 ·rename_i e' hu;split at h
  ·rename_i hi;cases h;exact⟨hu,dP.1 hi,rfl⟩
  ·cases h
 ·cases h
theorem HX{o:Oper}{t:Nat}{x i:Operand}{d:D}(hs:cz Γ st κ Θ a w)(ho:o.op=.indexAddr t x i)
 (h:pv P st (.indexAddr t x i)=some d):sy P κ Θ a w o d:=by
 obtain⟨b1,r1,z1⟩:=hs.ev x;obtain⟨b2,r2,z2⟩:=hs.ev i;simp only[pv]at h;split at h
 ·rename_i e sz rows k n ht hx hi;rw[hx]at r1;rw[hi]at r2;have hn:=r2.nR;obtain⟨hu,Ge,Fh⟩:=lg ht;have hsz:=rN (P:=P) Ge w;split at h
  ·rename_i h0;split at h
   ·rename_i row hrow;split at h
    ·rename_i hlen;cases h;have hrd:=r1.LK;have hlt:n.toNat<rows.length:=(aD.1 hrow).1;generalize PO:a.eval x=vx at hrd;cases hrd with
     |vD=>simp at hrow
     |lN=>simp at hrow
     |sl b off cap sz' _ cs bs hb hcap xR hrl hc p9=>
      have a2Q:sz'=sz:=by rw[<-hrl row (aB hrow)];exact hlen
      subst a2Q;obtain⟨b',hm,hsub⟩:=p9.mid (n.toNat*sz') sz';rw[Bl hrl hrow]at hm;have hn':0<=n/\n<(rows.length:Int):=⟨h0,by omega⟩
      refine⟨.pointer (some ⟨b,off+n.toNat*sz',none⟩),b::b',?_,?_,?_⟩
      ·simp only[execOp,ho,PO,hn];simp[Instr.indexAt,asIntOf,run_underlying hu,hn',hsz,Fh,Addr.add_lit]
      ·have a2O:∀j c,((cs.drop (n.toNat*sz')).take sz')[j]?=some c->w.cell? ⟨b,off+n.toNat*sz'+j,none⟩=some c:=by
        intro j c hj;rw[cH]at hj;split at hj
        ·rw[dW]at hj;rw[nD];exact hc _ _ hj
        ·cases hj
       exact .of (.ep b (off+n.toNat*sz') _ row 0 b' hb a2O hm)
      ·intro y hy;rcases bG.1 hy with rfl|hy
       ·exact z1 _ (by simp)
       ·exact z1 _ (by simp[hsub y hy])
    ·cases h
   ·cases h
  ·cases h
 ·rename_i e sz id k n ht hx hi;rw[hx]at r1;rw[hi]at r2;have hn:=r2.nR;obtain⟨hv,_⟩:=r1.rQ;obtain⟨hu,Ge,Fh⟩:=lg ht;have hsz:=rN (P:=P) Ge w;split at h
  ·rename_i dp e' sz' rows hH;split at h
   ·rename_i hc;cases h;obtain⟨rfl,h0,hlt⟩:=hc;obtain⟨Xn,hrl,vk,cs,bs,PN,hown,p9,hΘ,hz⟩:=hs.ob id _ hH;rw[hv]at PN;cases PN;rcases hown.2 with⟨rM,uN⟩|⟨g,cap,cur,hkv,_⟩
    ·omega
    ·have hn':0<=n/\n<(rows.length:Int):=⟨h0,by omega⟩
     refine⟨_,[],?_,(vR.op id n.toNat sz 0 g 0 _ _ (hkv▸hv)).LR,by simp⟩;simp only[execOp,ho,hn,hkv];simp[Instr.indexAt,asIntOf,run_underlying hu,hn',hsz,Fh,Addr.add_lit]
   ·cases h
  ·cases h
 ·rename_i g o' kk n hx hi;rw[hx]at r1;rw[hi]at r2;have hn:=r2.nR;have hv:=r1.Pq;split at h
  ·rename_i sz len hT;split at h
   ·rename_i hc;cases h;obtain⟨h0,hlt⟩:=hc;unfold Yp at hT;split at hT
    ·rename_i len' e hu;split at hT
     ·rename_i Ge;cases hT;have hsz:=rN (P:=P) (dP.1 Ge) w;have hn':0<=n/\n<(len:Int):=⟨h0,by omega⟩
      refine⟨_,[],?_,.of (.val _),by simp⟩;simp only[execOp,ho,hn,hv];simp[Instr.indexAt,Instr.sureAddr,asIntOf,run_underlying hu,hn',hsz,vV,Addr.add_lit]
     ·cases hT
    ·cases hT
   ·cases h
  ·cases h
 ·cases h
theorem Qn{o:Oper}{t t':Nat}{x y:Operand}{d:D}(hs:cz Γ st κ Θ a w)(ho:o.op=.call {callee:=.builtin .min,args:= #[x,y],argTypes:= #[t,t']})
 (h:YT (st.ev x) (st.ev y)=some d):sy P κ Θ a w o d:=by
 obtain⟨b1,r1,z1⟩:=hs.ev x;obtain⟨b2,r2,z2⟩:=hs.ev y;unfold YT at h;split at h
 ·rename_i k m k' n hx hy;split at h
  ·rename_i hk;subst hk;cases h;rw[hx]at r1;rw[hy]at r2;have e1:=r1.nR;have e2:=r2.nR;refine⟨.int k (VM m n),[],?_,.of (.int _ _ ?_),by simp⟩
   ·simp only[execOp,ho,resolve,invoke,builtin,lS,bI,bP,e1,e2];simp[Builtin.min_,Builtin.min2,VM]
   ·unfold VM;split
    ·exact r2.Ig
    ·exact r1.Ig
  ·cases h
 ·cases h
theorem Qj{o:Oper}{t:Nat}{x:Operand}{d:D}(hs:cz Γ st κ Θ a w)(ho:o.op=.call {callee:=.builtin .len,args:= #[x],argTypes:= #[t]})
 (h:Vk P st x t=some d):sy P κ Θ a w o d:=by
 obtain⟨b1,r1,z1⟩:=hs.ev x;unfold Vk at h;split at h
 ·rename_i s hx;split at h
  ·rename_i ht;cases h;rw[hx]at r1;obtain⟨u,hv,rfl⟩:=r1.sj;have hu:P.underlying t=some .string:=by
    unfold Gp at ht;split at ht
    ·assumption
    ·cases ht
   refine⟨.int .i64 (u.data.toList.length:Nat),[],?_,.of (.int _ _ (L6 r1.U1)),by simp⟩;simp only[execOp,ho,resolve,invoke,builtin,lS,bI,bP,hv];simp[Builtin.len_,run_underlying hu,goInt]
  ·cases h
 ·rename_i rows hx;split at h
  ·rename_i ht;cases h;rw[hx]at r1;obtain⟨⟨e,sz⟩,ht⟩:=dP.1 ht;obtain⟨hu,_,_⟩:=lg ht;have hrd:=r1.LK;generalize PO:a.eval x=vx at hrd;have hlen:∃q c,vx=.slice q rows.length c:=by
    cases hrd with
    |vD=>exact⟨_,_,rfl⟩
    |lN=>exact⟨_,_,rfl⟩
    |sl=>exact⟨_,_,rfl⟩
   have xR:rows.length<=maxLen:=by
    cases hrd with
    |vD=>simp
    |lN=>simp
    |sl b off cap sz _ cs bs hb h1 h2=>omega
   obtain⟨q,c,rfl⟩:=hlen;refine⟨.int .i64 rows.length,[],?_,.of (.int _ _ (L6 xR)),by simp⟩;simp only[execOp,ho,resolve,invoke,builtin,lS,bI,bP,PO];simp[Builtin.len_,run_underlying hu,goInt]
  ·cases h
 ·rename_i hx;split at h
  ·rename_i ht;cases h;rw[hx]at r1;obtain⟨⟨e,sz⟩,ht⟩:=dP.1 ht;obtain⟨hu,_,_⟩:=lg ht;have hv:=r1.Fq;refine⟨.int .i64 0,[],?_,.of (.int _ _ (qY.zero _)),by simp⟩;simp only[execOp,ho,resolve,invoke,builtin,lS,bI,bP,hv];simp[Builtin.len_,run_underlying hu,goInt]
  ·cases h
 ·rename_i id hx;split at h
  ·rename_i p dp e' sz' rows ht hH;cases h;rw[hx]at r1;obtain⟨hv,_⟩:=r1.rQ;obtain⟨e,sz⟩:=p;obtain⟨hu,_,_⟩:=lg ht;obtain⟨Xn,hrl,vk,cs,bs,PN,hown,p9,hΘ,hz⟩:=hs.ob id _ hH;rw[hv]at PN;cases PN;have hlen:∃q c,a.eval x=.slice q rows.length c:=by
    rcases hown.2 with⟨rM,uN⟩|⟨g,cap,cur,hkv,_⟩
    ·exact⟨none,0,by rw[rM,uN]⟩
    ·exact⟨_,_,hkv⟩
   have xR:rows.length<=maxLen:=by
    rcases hown.2 with⟨rM,uN⟩|⟨g,cap,cur,hkv,_,_,h1,h2,_⟩
    ·omega
    ·omega
   obtain⟨q,c,hk⟩:=hlen;refine⟨.int .i64 rows.length,[],?_,.of (.int _ _ (L6 xR)),by simp⟩;simp only[execOp,ho,resolve,invoke,builtin,lS,bI,bP,hk];simp[Builtin.len_,run_underlying hu,goInt]
  ·cases h
 ·cases h
theorem yd.at{vs:bY}{ds:aK}{bs:aP}(h:yd w κ vs ds bs){i:Nat}{d:D}(hd:ds[i]?=some d):
 ∃v b,vs[i]?=some v/\I0 w κ v d b/\∀x∈b,x∈bs:=by
 induction ds generalizing vs bs i with
 |nil=>simp at hd
 |cons e ds ih=>
  cases h with
  |cons v vs _ _ b1 b2 h2 h3=>
   cases i with
   |zero=>simp at hd;subst hd;exact⟨v,b1,by simp,h2,by intro x hx;simp[hx]⟩
   |succ i=>
    simp at hd;obtain⟨u,b,k1,k3,k4⟩:=ih h3 hd;exact⟨u,b,by simpa using k1,k3,fun x hx=>by simp[k4 x hx]⟩
theorem oK.WA{v:Value}{ds:aK}{bs:aP}(h:oK w κ v (.iE ds) bs):∃vs:bY,v=.tuple vs.toArray/\yd w κ vs ds bs:=by
 cases h with
 |v h=>cases h with|cell h=>cases h with|pure h=>cases h
 |iE vs _ _ h=>exact⟨vs,rfl,h⟩
theorem JY{o:Oper}{i:Nat}{x:Operand}{d:D}(hs:cz Γ st κ Θ a w)(ho:o.op=.extract x i)
 (h:pv P st (.extract x i)=some d):sy P κ Θ a w o d:=by
 obtain⟨b1,r1,z1⟩:=hs.ev x;simp only[pv]at h;split at h
 ·rename_i vs hx;rw[hx]at r1;obtain⟨us,hv,hr⟩:=r1.WA;obtain⟨v,b,k1,k2,k3⟩:=hr.at h;exact⟨v,b,by simp only[execOp,ho,hv];simp[Instr.extract,k1],.v k2,fun y hy=>z1 y (k3 y hy)⟩
 ·cases h
theorem tU{t:Nat}(ht:Gp P t=true):P.underlying t=some .string:=by
 unfold Gp at ht;split at ht
 ·assumption
 ·cases ht
theorem MZ{o:Oper}{t:Nat}{x i:Operand}{d:D}(hs:cz Γ st κ Θ a w)(ho:o.op=.index t x i)
 (h:pv P st (.index t x i)=some d):sy P κ Θ a w o d:=by
 obtain⟨b1,r1,z1⟩:=hs.ev x;obtain⟨b2,r2,z2⟩:=hs.ev i;simp only[pv]at h;split at h
 ·rename_i s k n ht hx hi;rw[hx]at r1;rw[hi]at r2;obtain⟨u,hv,rfl⟩:=r1.sj;have hn:=r2.nR;have hu:=tU ht;split at h
  ·rename_i h0;split at h
   ·rename_i b hb;cases h;have hlt:n.toNat<u.size:=by
     have:=(aD.1 hb).1;simpa using this
    have Kl:u[n.toNat]?=some b:=by
     have hb':u.data[n.toNat]?=some b:=by simpa using hb
     rw[getElem?_pos u n.toNat hlt];rw[az]at hb';obtain⟨_,he⟩:=hb';rw[<-he];rfl
    refine⟨.int .u8 b.toNat,[],?_,.of (.int _ _ (qY.u8.2 (by have:=b.toNat_lt;omega))),by simp⟩;simp only[execOp,ho,hv,hn];simp[Instr.index,asIntOf,run_underlying hu,h0,Kl]
   ·cases h
  ·cases h
 ·cases h
theorem LG{lo hi:Option Operand}{l h':Nat}{isSlice:Bool}{len cap:Nat}(hs:cz Γ st κ Θ a w)
 (hlc:len<=cap) (h:HY len (lo.map st.ev) (hi.map st.ev)=some (l,h')):
 (Instr.sliceBounds isSlice len cap (lo.map a.eval) (hi.map a.eval) none).run P w=.ok (l,h',cap) w/\l<=h'/\h'<=len:=by
 have hv:∀ {x:Operand} {k:IntKind} {n:Int},st.ev x=.int k n->a.eval x=.int k n:=by
  intro x k n hx;obtain⟨b,r,_⟩:=hs.ev x;rw[hx]at r;exact r.nR
 unfold HY at h;cases hi with
 |none=>
  simp only[uR]at h⊢;cases lo with
  |none=>
   simp only[uR,ah,cK]at h⊢;obtain⟨rfl,rfl⟩:=h;exact⟨by simp[Instr.sliceBounds],by omega,by omega⟩
  |some lo=>
   simp only[cJ]at h⊢;cases hlo:st.ev lo<;>simp only[hlo,reduceCtorEq]at h;rename_i k n;split at h
   ·cases h
   ·rename_i l0 hm;split at hm
    ·rename_i hb;cases hm;cases h;have NN:0<=n/\n<=(h':Int):=⟨hb.1,by omega⟩
     exact⟨by simp[Instr.sliceBounds,Instr.sliceBound,hv hlo,asIntOf,NN],hb.2,by omega⟩
    ·cases hm
 |some hi=>
  simp only[cJ]at h⊢;cases hhi:st.ev hi<;>simp only[hhi,reduceCtorEq]at h;rename_i k m;split at h
  ·cases h
  ·rename_i h0 hm;split at hm
   ·rename_i hb;cases hm;have NN:0<=m/\m<=(cap:Int):=⟨hb.1,by omega⟩
    cases lo with
    |none=>
     simp only[uR,ah,cK]at h⊢;obtain⟨rfl,rfl⟩:=h;exact⟨by simp[Instr.sliceBounds,Instr.sliceBound,hv hhi,asIntOf,NN],by omega,hb.2⟩
    |some lo=>
     simp only[cJ]at h⊢;cases hlo:st.ev lo<;>simp only[hlo,reduceCtorEq]at h;rename_i k' n;split at h
     ·cases h
     ·rename_i l0 hm;split at hm
      ·rename_i Nt;cases hm;cases h;have hb3:0<=n/\n<=max m 0:=⟨Nt.1,by omega⟩
       exact⟨by simp[Instr.sliceBounds,Instr.sliceBound,hv hhi,hv hlo,asIntOf,NN,hb3],Nt.2,hb.2⟩
      ·cases hm
   ·cases hm
theorem Tc{rows:List aK}{sz l h':Nat}(hrl:∀r∈rows,r.length=sz)(h1:l<=h')(h2:h'<=rows.length):
 ((rows.take h').drop l).flatten=(rows.flatten.drop (l*sz)).take ((h'-l)*sz):=by
 have e:rows=(rows.take l)++(((rows.take h').drop l)++rows.drop h'):=by
  have hA:rows.take h'=(rows.take h').take l++(rows.take h').drop l:=(cA _ _).symm;have hB:(rows.take h').take l=rows.take l:=by rw[qI,eD h1]
  rw[hB]at hA;rw[<-bN,<-hA,cA]
 have l1:(rows.take l).flatten.length=l*sz:=by
  rw[lR (fun r hr=>hrl r (cM hr)),cG,eD (by omega)]
 have l2:((rows.take h').drop l).flatten.length=(h'-l)*sz:=by
  rw[lR (fun r hr=>hrl r (cM (kO hr))),tN,cG,eD (by omega)]
 have hf:rows.flatten=(rows.take l).flatten++(((rows.take h').drop l).flatten++(rows.drop h').flatten):=by
  rw[<-jQ,<-jQ,<-e]
 rw[hf,eg l1,gU l2]
theorem N9{o:Oper}{t:Nat}{x:Operand}{lo hi:Option Operand}{d:D}(hs:cz Γ st κ Θ a w)(ho:o.op=.slice t x lo hi none)
 (h:pv P st (.slice t x lo hi none)=some d):sy P κ Θ a w o d:=by
 obtain⟨b1,r1,z1⟩:=hs.ev x;simp only[pv]at h;split at h
 ·rename_i s hx;rw[hx]at r1;obtain⟨u,hv,rfl⟩:=r1.sj;split at h
  ·rename_i ht;have hu:=tU ht;split at h
   ·rename_i l h' hc;cases h;obtain⟨hr,hl,hh⟩:=LG (P:=P) (isSlice:=false) (cap:=u.data.toList.length) hs (bH _) hc;have hsz:u.data.toList.length=u.size:=by simp
    rw[hsz]at hr;refine⟨.string (u.extract l h'),[],?_,?_,by simp⟩
    ·simp only[execOp,ho,hv];simp[Instr.sliceAt,Instr.slice,run_underlying hu,hr]
    ·have:=Rd.str (w:=w) (u.extract l h') (by
      have h1:=r1.U1;simp at h1⊢;omega)
     have e:(u.extract l h').data.toList=(u.data.toList.take h').drop l:=by
      simp[ByteArray.data_extract,List.drop_take]
     rw[e]at this;exact .of this
   ·cases h
  ·cases h
 ·rename_i rows hx;rw[hx]at r1;have hrd:=r1.LK;split at h
  ·rename_i e sz l h' ht hc;split at h
   ·rename_i hall;cases h;obtain⟨hu,Ge,Fh⟩:=lg ht;have hsz:=rN (P:=P) Ge w;have hrl:∀r∈rows,r.length=sz:=by
     intro r hr;have:=au.1 hall r hr;simpa using this
    generalize PO:a.eval x=vx at hrd;have main:∀(q:Option Addr) (cap:Nat),vx=.slice q rows.length cap->rows.length<=cap->
     (execOp a.eval o).run P w=.ok (.value (.slice (if cap=l then q else q.map (·.add (l*sz))) (h'-l) (cap-l))) w/\l<=h'/\h'<=rows.length:=by
     intro q cap hq hcap;obtain⟨hr,hl,hh⟩:=LG (P:=P) (isSlice:=true) (cap:=cap) hs hcap hc;refine⟨?_,hl,hh⟩;simp only[execOp,ho,PO,hq];simp[Instr.sliceAt,Instr.slice,run_underlying hu,hr,hsz,Fh]
    cases hrd with
    |vD=>
     obtain⟨hr,hl,hh⟩:=main none 0 rfl (by simp);simp only[b8]at hh;have e1:h'=0:=by omega
     have e2:l=0:=by omega
     subst e1;subst e2;exact⟨_,[],hr,by simpa using oK.of (κ:=κ) (Rd.vD (w:=w)),by simp⟩
    |lN ad cap hm=>
     obtain⟨hr,hl,hh⟩:=main (some ad) cap rfl (by simp);simp only[b8]at hh;have e1:h'=0:=by omega
     have e2:l=0:=by omega
     subst e1;subst e2;refine⟨_,[],hr,?_,by simp⟩;have:(if cap=0 then some ad else(some ad).map (·.add (0*sz)))=some ad:=by simp[Addr.add]
     rw[this];exact .of (by simpa using Rd.lN (w:=w) ad cap hm)
    |sl b off cap sz' _ cs bs hb hcap xR HW hcc p9=>
     obtain⟨hr,hl,hh⟩:=main (some ⟨b,off,none⟩) cap rfl hcap;by_cases he:h'=l
     ·subst he;refine⟨_,[],hr,?_,by simp⟩;have e1:(rows.take h').drop h'=[]:=by simp
      rw[e1,lI];split
      ·exact .of (.lN _ _ (by omega))
      ·simp only[cJ];exact .of (.lN _ _ (by omega))
     ·have hne:cap≠l:=by omega
      rw[b9 hne,cJ,Addr.add_lit]at hr;obtain⟨b',hm,hsub⟩:=p9.mid (l*sz) ((h'-l)*sz);rw[<-Tc hrl hl hh]at hm;refine⟨_,b::b',hr,?_,?_⟩
      ·have hlen:((rows.take h').drop l).length=h'-l:=by simp;omega
       rw[<-hlen];refine .of (.sl b (off+l*sz) (cap-l) sz _ _ b' hb (by omega) (by omega) (fun r hr=>hrl r (cM (kO hr))) ?_ hm);intro j c hj;rw[cH]at hj;split at hj
       ·rw[dW]at hj;rw[nD];exact hcc _ _ hj
       ·cases hj
      ·intro y hy;rcases bG.1 hy with rfl|hy
       ·exact z1 _ (by simp)
       ·exact z1 _ (by simp[hsub y hy])
   ·cases h
  ·cases h
 ·cases h
theorem KB{v:Value}(h:v.oneCell'=true):v.cells.toList=[v]:=by
 cases v<;>first|rfl|cases h
theorem vR.one{v:Value}{d:D}{bs:aP}(h:vR w κ v d bs)(hk:∀(id:Nat) u,κ id=some u->u.oneCell'=true)(hna:∀es,d≠ .agg es)(hc:d.cellsOf=some [d]):v.oneCell'=true:=by
 cases h with
 |pure h=>
  cases h<;>first
   |rfl
   | (exfalso;exact hna _ rfl)
   | (simp[D.cellsOf]at hc;done)
   | (simp only[D.cellsOf]at hc;split at hc<;>first|assumption|cases hc)
 |acc i v h=>exact hk i v h
 |ptr=>rfl
 |op=>rfl
theorem xu{v:Value}{d:D}{bs:aP}{ds:aK}(hk:∀(id:Nat) u,κ id=some u->u.oneCell'=true)(h:oK w κ v d bs)(hc:d.cellsOf=some ds):eN w κ v.cells.toList ds bs:=by
 have single:∀ {v d bs},vR w κ v d bs->(∀es,d≠ .agg es)->d.cellsOf=some [d]->eN w κ v.cells.toList [d] bs:=by
  intro v d bs h hna hc;have h1:=h.one hk hna hc;rw[KB h1];have:=eN.cons v [] d [] bs [] h1 h .nil;simpa using this
 cases h with
 |iE=>simp[D.cellsOf]at hc
 |v h=>
  cases h with
  |agg cs _ _ h=>simp only[D.cellsOf,ah]at hc;subst hc;simpa[Value.cells]using h
  |cell h=>
   by_cases qG:∃es,d=.agg es
   ·obtain⟨es,rfl⟩:=qG;simp only[D.cellsOf,ah]at hc;subst hc;cases h with
    |pure h=>cases h with|agg cs _ _ h=>simpa[Value.cells]using eN.zY (κ:=κ) h
   ·have e:ds=[d]:=by
     cases d<;>simp only[D.cellsOf,ah,reduceCtorEq]at hc<;>first
      |exact hc.symm
      | (exfalso;exact qG ⟨_,rfl⟩)
      | (split at hc<;>first| (simp at hc;exact hc.symm)|cases hc)
    subst e;exact single h (fun es he=>qG ⟨es,he⟩) hc
theorem tW{T:TypeId}{zs:aK}(hz:tz P T=some zs):∃i z,P.info? T=some i/\i.zero=some z/\z.cells.size=i.size/\zs.length=i.size/\(∀c∈z.cells.toList,c.oneCell'=true)/\zs=z.cells.toList.map D.OM:=by
 unfold tz at hz;split at hz
 ·rename_i i hi;split at hz
  ·rename_i z JI;split at hz
   ·rename_i hc;cases hz;simp only[aX,au,cR]at hc;exact⟨i,z,hi,JI,hc.2,by simp[hc.2],hc.1,rfl⟩
   ·cases hz
  ·cases hz
 ·cases hz
theorem yO(cs:bY)(h:∀c∈cs,c.oneCell'=true):eN w κ cs (cs.map D.OM) []:=by
 induction cs with
 |nil=>exact .nil
 |cons c cs ih=>
  have hrd:Rd w c (D.OM c) []:=by
   unfold D.OM;split
   ·exact .bool _
   ·split
    ·rename_i h;exact .int _ _ h
    ·exact .val _
   ·split
    ·rename_i h;exact .str _ h
    ·exact .val _
   ·exact .nil
   ·exact .val _
  have:=eN.cons (κ:=κ) c cs _ _ [] [] (h c (by simp)) (.pure hrd) (ih (fun x hx=>h x (by simp[hx])));simpa using this
theorem foldl_set(off:Nat):∀(vs:bY) (k:Nat) (cells:Array Value),off+k+vs.length<=cells.size->
 ((vs.zipIdx k).foldl (fun cs (x:Value×Nat)=>cs.setIfInBounds (off+x.2) x.1) cells).toList=cells.toList.take (off+k)++vs++cells.toList.drop (off+k+vs.length):=by
 intro vs
 induction vs with
 |nil=>intro k cells _;simp
 |cons v vs ih=>
  intro k cells h;simp only[aG]at h;rw[List.zipIdx_cons,cj,ih (k+1) _ (by simp;omega)];simp only[Array.toList_setIfInBounds,aG];have hlt:off+k<cells.toList.length:=by simp;omega
  rw[show off+(k+1)=off+k+1 from by omega,List.take_set,List.drop_set,bM (by omega)];rw[show off+k+1+vs.length=off+k+(vs.length+1)from by omega]
  congr 1
  rw[show v::vs=[v]++vs from rfl,<-bN]
  congr 1
  rw[List.take_succ_eq_append_getElem hlt,jg _ _ (by simp;omega)];have:(List.take (off+k) cells.toList).length=off+k:=by rw[cG];omega
  rw[this,lI];rfl
theorem PC(hs:cz Γ st κ Θ a w){places:List (Nat×Nat)}:∀(parts:List (Nat×Operand)) (cs:Array Value) (cells ds:aK) (bs:aP),
 eN w κ cs.toList cells bs->(∀b∈bs,Θ b=0)->uJ places cells (parts.map fun p=>(p.1,st.ev p.2))=some ds->
 ∃arr bs',Instr.fill (places.toArray[·]?) cs (parts.map fun p=>(p.1,a.eval p.2))=some arr/\eN w κ arr.toList ds bs'/\∀b∈bs',Θ b=0:=by
 intro parts
 induction parts with
 |nil=>
  intro cs cells ds bs hr hz hf;simp only[bP,uJ,ah]at hf;subst hf;exact⟨cs,bs,rfl,hr,hz⟩
 |cons p parts ih=>
  intro cs cells ds bs hr hz hf
  ·obtain⟨i,x⟩:=p;obtain⟨b,hv,hb⟩:=hs.ev x;generalize hvv:a.eval x=v at hv;simp only[bI,uJ]at hf;split at hf
   ·rename_i off sz es hpl hes;split at hf
    ·rename_i hc;have hcs:=xu hs.lM hv hes;have hl1:=hcs.length;have zW:=hr.length;have e:cells=cells.take off++((cells.drop off).take sz++(cells.drop off).drop sz):=by rw[cA,cA]
     rw[e]at hr;obtain⟨v1,v2,c1,c2,Ib,rfl,k1,k2⟩:=hr.split;obtain⟨v3,v4,c3,c4,rfl,rfl,k3,k4⟩:=k2.split;have l1:v1.length=off:=by rw[k1.length];simp;omega
     have l3:v3.length=sz:=by rw[k3.length];simp;omega
     have hvs:v.cells.size=sz:=by rw[<-hc.1,<-hl1];simp
     have hcl:cs.size=cells.length:=by rw[<-zW];simp
     have SG:=foldl_set off v.cells.toList 0 cs (by simp;omega);simp only[vE,qu,hvs]at SG;have e1:cs.toList.take off=v1:=by rw[Ib];exact gU l1
     have e4:cs.toList.drop (off+sz)=v4:=by rw[Ib,<-fU,eg l1];exact eg l3
     rw[e1,e4]at SG;rw[fU]at k4;have hnew:=(k1.app hcs).app k4;obtain⟨arr,bs',h1,h2,h3⟩:=ih (v.cells.zipIdx.foldl (fun cs (x:Value×Nat)=>cs.setIfInBounds (off+x.2) x.1) cs) _ ds ((c1++b)++c4)
      (by rw[<-Array.foldl_toList,Array.toList_zipIdx,SG];exact hnew)
      (by
       intro x hx;simp only[aU]at hx;rcases hx with(hx|hx)|hx
       ·exact hz x (by simp[hx])
       ·exact hb x hx
       ·exact hz x (by simp[hx])) hf
     refine⟨arr,bs',?_,h2,h3⟩;simp only[bI,Instr.fill,iB,hpl,hvv];rw[b9 (by simp;omega)];simpa using h1
    ·cases hf
   ·cases hf
theorem M5{o:Oper}{t:TypeId}{parts:Array (Nat×Operand)}{d:D}(hs:cz Γ st κ Θ a w)(ho:o.op=.build t parts)
 (h:pv P st (.build t parts)=some d):sy P κ Θ a w o d:=by
 simp only[pv]at h;split at h
 ·rename_i zs ps hz hp;cases hf:uJ ps zs (parts.toList.map fun p=>(p.1,st.ev p.2))with
  |none=>simp[hf]at h
  |some ds=>
   simp only[hf,cJ,ah]at h;subst h;obtain⟨i,z,hi,uN,hsz,hlen,hone,rfl⟩:=tW hz;obtain⟨arr,bs',h1,h2,h3⟩:=PC hs parts.toList z.cells _ ds [] (yO z.cells.toList hone) (by simp) hf;have hb:P.built t (parts.map fun(i,x)=>(i,a.eval x)).toList=some arr:=by
    unfold Pj at hp;split at hp
    ·rename_i fs hu;unfold Program.built;simp only[hi,hu,uN,hp];rw[fY];exact h1
    ·cases hp
   refine⟨.agg arr,bs',?_,?_,h3⟩
   ·simp only[execOp,ho];simp[run_build w t _ arr hb]
   ·have:=I0.agg (w:=w) (κ:=κ) arr.toList ds bs' h2;exact .v (by simpa using this)
 ·cases h
theorem run_equalIn_bool{t:TypeId}{a b:Bool}(h:P.underlying t=some .bool)(d:Nat):(Op.equalIn (d+1) t (.bool a) (.bool b)).run P w=.ok (a==b) w:=by
 simp[Op.equalIn,run_underlying h]
theorem za{t:TypeId}{a b:ByteArray}(h:P.underlying t=some .string)(d:Nat):(Op.equalIn (d+1) t (.string a) (.string b)).run P w=.ok (a==b) w:=by
 simp[Op.equalIn,run_underlying h]
theorem Fz{t:TypeId}(h:Gp P t=true){xs:Array Value}{off:Nat}{v:Value}(hx:xs[off]?=some v):(part t xs off).run P w=.ok v w:=by
 simp[part,isAgg,run_underlying (tU h),hx]
theorem Gm{t:TypeId}{a b c e:ByteArray}(h:Ph P t=true)(d:Nat):(Op.equalIn (d+2) t (.agg #[.string a,.string b]) (.agg #[.string c,.string e])).run P w=.ok (a==c&&b==e) w:=by
 unfold Ph at h;split at h
 ·rename_i fs hu;split at h
  ·rename_i f g hfs;simp only[aX,bne_iff_ne,ne_eq,cR,me]at h;obtain⟨⟨⟨⟨⟨⟨⟨h1,h2⟩,h3⟩,h4⟩,h5⟩,h6⟩,h7⟩,h8⟩:=h;have a1u:fs= #[f,g]:=by apply nT.mp;simpa using hfs
   subst a1u;have p1:=fun(xs:Array Value) (v:Value) (hx:xs[0]?=some v)=>Fz (w:=w) h5 hx
   have p2:=fun(xs:Array Value) (v:Value) (hx:xs[1]?=some v)=>Fz (w:=w) h6 hx
   have q1:=za (P:=P) (w:=w) (a:=a) (b:=c) (tU h5) d;have q2:=za (P:=P) (w:=w) (a:=b) (b:=e) (tU h6) d;rw[Op.equalIn];generalize(a==c)=r1 at q1⊢;generalize(b==e)=r2 at q2⊢;cases r1<;>cases r2<;>simp[run_underlying hu,h7,h1,h2,h3,h4,p1,p2,q1,q2]
  ·cases h
 ·cases h
theorem eN.Pm{κ:Nat->Option Value}{cs:bY}{p q:Bytes}{bs:aP}(h:eN w κ cs [.str p,.str q] bs):∃u v:ByteArray,cs=[.string u,.string v]/\u.data.toList=p/\v.data.toList=q:=by
 cases h with
 |cons v1 vs _ _ b1 b2 _ h1 h2=>
  cases h2 with
  |cons v2 vs' _ _ b3 b4 _ h3 h4=>
   cases h4;obtain⟨u,rfl,hu⟩:=(oK.v (.cell h1):oK w κ _ _ _).sj;obtain⟨v,rfl,hv⟩:=(oK.v (.cell h3):oK w κ _ _ _).sj;exact⟨u,v,rfl,hu,hv⟩
theorem Rr(u v:ByteArray):(u==v)=(u.data==v.data):=by cases u;cases v;rfl
theorem Qx{o:Oper}{op:BinOp}{t t':TypeId}{x y:Operand}{d:D}(hs:cz Γ st κ Θ a w)(ho:o.op=.binOp op t x y t')
 (h:peq P op t (st.ev x) (st.ev y)=some d):sy P κ Θ a w o d:=by
 obtain⟨b1,r1,_⟩:=hs.ev x;obtain⟨b2,r2,_⟩:=hs.ev y;generalize st.ev x=dx at*;generalize st.ev y=dy at*;unfold peq at h;split at h
 ·rename_i p q;split at h
  ·rename_i hb;have hu:P.underlying t=some .bool:=by
    unfold XA at hb;split at hb
    ·assumption
    ·cases hb
   have e1:=r1.sS;have e2:=r2.sS;have hq:=run_equalIn_bool (P:=P) (w:=w) (a:=p) (b:=q) hu 9999;have q':(Op.equal t (.bool p) (.bool q)).run P w=.ok (p==q) w:=hq;cases op<;>simp only[ah,reduceCtorEq]at h
   all_goals subst h
   all_goals exact⟨_,[],by(simp[execOp,ho,e1,e2,binOp,eqGuard,q'])<;>(cases p<;>cases q<;>rfl),.of (.bool _),by simp⟩
  ·cases h
 ·rename_i p1 p2 q1 q2;split at h
  ·rename_i hb;obtain⟨cs1,e1,k1⟩:=r1.CB;obtain⟨cs2,e2,k2⟩:=r2.CB;obtain⟨u1,u2,rfl,rfl,rfl⟩:=eN.Pm k1;obtain⟨v1,v2,rfl,rfl,rfl⟩:=eN.Pm k2;have hg:P.eqGuardType P.depth t=false:=by
    unfold Ph at hb;split at hb
    ·split at hb
     ·simp only[aX,me]at hb;exact hb.2
     ·cases hb
    ·cases hb
   have q:=Gm (P:=P) (w:=w) (a:=u1) (b:=u2) (c:=v1) (e:=v2) hb 9998;have q':(Op.equal t (.agg #[.string u1,.string u2]) (.agg #[.string v1,.string v2])).run P w=.ok (u1==v1&&u2==v2) w:=q;cases op<;>simp only[ah,reduceCtorEq]at h
   all_goals subst h
   all_goals exact⟨_,[],by(simp[execOp,ho,e1,e2,binOp,eqGuard,hg,q'])<;>(rw[Rr,Rr]),.of (.bool _),by simp⟩
  ·cases h
 ·cases h
theorem oK.VT{v:Value}{b:Bool}{bs:aP}(h:oK w κ v (.WZ b) bs):(b=false/\v=.nilIface)\/(b=true/\∃t u,v=.iface t u):=by
 cases h with|v h=>cases h with|cell h=>cases h with|pure h=>cases h with
  |Qd=>exact .inl ⟨rfl,rfl⟩
  |Qe t u=>exact .inr ⟨rfl,t,u,rfl⟩
theorem Fy{t:TypeId}{ms:Array (String×TypeId)}(hu:P.underlying t=some (.interface ms)):(Op.equal t .nilIface .nilIface).run P w=.ok true w:=by
 unfold Op.equal Op.maxDepth;rw[Op.equalIn];simp[run_underlying hu]
theorem DX{t:TypeId}{ms:Array (String×TypeId)}{t1:TypeId}{v1:Value}(hu:P.underlying t=some (.interface ms)):(Op.equal t (.iface t1 v1) .nilIface).run P w=.ok false w:=by
 unfold Op.equal Op.maxDepth;rw[Op.equalIn];simp[run_underlying hu]
theorem OR{o:Oper}{op:BinOp}{t t':TypeId}{x y:Operand}{d:D}(hs:cz Γ st κ Θ a w)(ho:o.op=.binOp op t x y t')
 (h:YS op (st.ev x) (st.ev y)=some d):sy P κ Θ a w o d:=by
 obtain⟨b1,r1,_⟩:=hs.ev x;obtain⟨b2,r2,_⟩:=hs.ev y;generalize st.ev x=dx at*;generalize st.ev y=dy at*;unfold YS at h;split at h
 ·rename_i k p k' q;have e1:=r1.nR;have e2:=r2.nR;cases op<;>simp only[reduceCtorEq]at h
  case shr=>
   split at h
   ·rename_i hq;cases h;exact⟨_,[],by simp[execOp,ho,e1,e2,binOp,eqGuard,Op.shift,show¬q<0 by omega,N8],.of (.int _ _ (r1.Ig.shr q)),by simp⟩
   ·cases h
  all_goals
   split at h
   ·rename_i hk;subst hk;cases h;exact⟨_,[],by simp[execOp,ho,e1,e2,binOp,eqGuard,Op.intBits,M1,ZJ,P4],.of (.int _ _ (qY.wrap _ _)),by simp⟩
   ·cases h
 ·cases h
theorem OS{o:Oper}{op:BinOp}{t t':TypeId}{x y:Operand}{d:D}(hs:cz Γ st κ Θ a w)(ho:o.op=.binOp op t x y t')
 (h:YU P op t (st.ev x) y=some d):sy P κ Θ a w o d:=by
 obtain⟨b1,r1,_⟩:=hs.ev x;generalize st.ev x=dx at*;unfold YU at h;split at h
 ·rename_i b;have hy:a.eval (.const .nilIface)=.nilIface:=rfl;have hT:∀ {op'},Yq P t=true->op=op'->∃ms,P.underlying t=some (.interface ms):=by
   intro _ ht _;unfold Yq at ht;split at ht
   ·rename_i ms hu;exact⟨ms,hu⟩
   ·cases ht
  rcases r1.VT with⟨rfl,hx⟩|⟨rfl,t1,v1,hx⟩
  ·split at h
   ·rename_i ht;cases h;obtain⟨ms,hu⟩:=hT ht rfl;exact⟨.bool true,[],by simp[execOp,ho,hx,hy,binOp,eqGuard_nil_constR,Fy hu],.of (.bool _),by simp⟩
   ·rename_i ht;cases h;obtain⟨ms,hu⟩:=hT ht rfl;exact⟨.bool false,[],by simp[execOp,ho,hx,hy,binOp,eqGuard_nil_constR,Fy hu],.of (.bool _),by simp⟩
   ·cases h
  ·split at h
   ·rename_i ht;cases h;obtain⟨ms,hu⟩:=hT ht rfl;exact⟨.bool false,[],by simp[execOp,ho,hx,hy,binOp,eqGuard,DX hu],.of (.bool _),by simp⟩
   ·rename_i ht;cases h;obtain⟨ms,hu⟩:=hT ht rfl;exact⟨.bool true,[],by simp[execOp,ho,hx,hy,binOp,eqGuard,DX hu],.of (.bool _),by simp⟩
   ·cases h
 ·cases h
theorem uh.cons{w:World}{e:MapEntry}{es:List MapEntry}{p:D×D}{kv:List (D×D)}(h:uh w (e::es) (p::kv)):Rd w e.key p.1 []/\Rd w e.val p.2 []/\uh w es kv:=
 ⟨(h.2 0 e p rfl rfl).1,(h.2 0 e p rfl rfl).2,by simpa using h.1,fun j e' p' h1 h2=>h.2 (j+1) e' p' (by simpa using h1) (by simpa using h2)⟩
theorem WK{x y:ByteArray}:(x==y)=(x.data.toList==y.data.toList):=by
 rw[bn,MapKept.bytes_beq,cR];constructor
 ·intro h;rw[h]
 ·intro h;obtain⟨a⟩:=x;obtain⟨b⟩:=y;simp only at h;rw[nT]at h;rw[h]
theorem Hp{w:World}{kd:TypeDesc}{k k':D}{u u':Value}{b:Bool}(Jb:ET kd k=true)(hu:Rd w u k [])(sr:Rd w u' k' [])(h:Z1 k k'=some b):Instr.sameNow kd u u'=some b/\(b=true->u'=u):=by
 unfold Z1 at h;split at h
 ·rename_i s s';cases h;cases hu with
  |str x hx=>
   cases sr with
   |str y hy=>
    cases kd<;>simp[ET]at Jb;refine⟨by simp only[Instr.sameNow];rw[WK],fun e=>?_⟩;rw[<-WK,MapKept.bytes_beq]at e;rw[e]
 ·rename_i k1 a k2 b';split at h
  ·rename_i e;subst e;cases h;cases hu with
   |int _ _ hx=>
    cases sr with
    |int _ _ hy=>
     cases kd<;>simp[ET]at Jb;refine⟨by simp[Instr.sameNow],fun e=>?_⟩;have:a=b':=by simpa using e
     rw[this]
  ·cases h
 ·cases h
theorem VW{w:World}{kd:TypeDesc}{k:D}{u:Value}(Jb:ET kd k=true)(hu:Rd w u k []):∀ {es:List MapEntry} {kv:List (D×D)} {r:Option D} (i:Nat),uh w es kv->Bu k kv=some r->
 (r=none/\Instr.findNow kd u es i=some none)\/∃d v j,r=some d/\Instr.findNow kd u es i=some (some (j,v))/\Rd w v d []:=by
 intro es
 induction es with
 |nil=>
  intro kv r i hr h;cases kv with
  |nil=>cases h;exact .inl ⟨rfl,rfl⟩
  |cons p kv=>exact absurd hr.1 (by simp)
 |cons e es ih=>
  intro kv r i hr h;cases kv with
  |nil=>exact absurd hr.1 (by simp)
  |cons p kv=>
   obtain⟨r1,r2,r3⟩:=hr.cons;simp only[Bu]at h;split at h
   ·rename_i hq;cases h;exact .inr ⟨p.2,e.val,i,rfl,by simp[Instr.findNow,(Hp Jb hu r1 hq).1],r2⟩
   ·rename_i hq;have:=ih (i+1) r3 h;simpa[Instr.findNow,(Hp Jb hu r1 hq).1]using this
   ·cases h
theorem Ma{w:World}{kd:TypeDesc}{k:D}{u:Value}(Jb:ET kd k=true)(hu:Rd w u k []):MapKept.IsKey kd u:=by
 cases kd<;>cases k<;>simp[ET]at Jb
 all_goals cases hu
 ·simp[MapKept.IsKey,Jb]
 ·simp[MapKept.IsKey]
theorem K5{w:World}{κ:Nat->Option Value}{kd:TypeDesc}{k:D}{u:Value}{bs:aP}(Jb:ET kd k=true)(hu:oK w κ u k bs):Rd w u k []:=by
 cases kd<;>cases k<;>simp[ET]at Jb
 all_goals cases hu with|v h=>cases h with|cell h=>cases h with|pure h=>cases h<;>(constructor;assumption)
theorem LU{t:TypeId}{i:TypeInfo}(h:P.info? t=some i){w:World}:(typeInfo t).run P w=.ok i w:=by
 simp[typeInfo,h]
theorem JF{T:TypeId}{kd:TypeDesc}{dz:D}(h:R9 P T=some (kd,dz)):∃kt et z,P.underlying T=some (.map kt et)/\P.underlying kt=some kd/\dz=D.OM z/\∀w:World,(zeroValue et).run P w=.ok z w:=by
 unfold R9 at h;split at h
 ·rename_i kt et h1;split at h
  ·rename_i d i h2 h3;split at h
   ·rename_i z h4;split at h
    ·cases h;exact⟨kt,et,z,h1,h2,rfl,fun w=>by simp[zeroValue,LU h3,h4]⟩
    ·cases h
   ·cases h
  ·cases h
 ·cases h
theorem Kx{o:Oper}{T:Nat}{x i:Operand}{ok:Bool}{d:D}(hs:cz Γ st κ Θ a w)(ho:o.op=.lookup T x i ok)
 (h:pv P st (.lookup T x i ok)=some d):sy P κ Θ a w o d:=by
 simp only[pv]at h;split at h
 ·rename_i id hx;split at h
  ·rename_i kv hH;obtain⟨g,es,c,q1,q2,q3,q4⟩:=hs.ob id _ hH;obtain⟨bs,r,_⟩:=hs.ev x;rw[hx]at r;obtain⟨hk,_⟩:=r.rQ;rw[q1]at hk;have Xr:a.eval x=.map (some g):=(oS hk).symm;obtain⟨bi,ri,_⟩:=hs.ev i;unfold Z4 at h;split at h
   ·rename_i kd dz hT;obtain⟨kt,et,z,t1,t2,t3,t4⟩:=JF hT;have fin:∀(r:Option D),ET kd (st.ev i)=true->Bu (st.ev i) kv=some r->d=(match r with|some d=>(bif ok then .iE [d,.bool true]else d)|none=>(bif ok then .iE [dz,.bool false]else dz))->sy P κ Θ a w o d:=by
     intro r Jb hf hd;have hu:=K5 Jb ri;have XY:=MapKept.run_checkKey (P:=P) (w:=w) t2 (Ma Jb hu) es.isEmpty 9999;rcases VW Jb hu 0 q4 hf with⟨rfl,hn⟩|⟨d',v,j,rfl,hn,hv⟩
     ·have VA:=MapKept.run_findKey (P:=P) (w:=w) t2 hn;subst hd;cases ok with
      |false=>exact⟨z,[],by simp[execOp,ho,Xr,Instr.lookup,run_underlying t1,MapKept.run_getObj_map q2,XY,VA,t4],by rw[t3];exact ON z,by simp⟩
      |true=>
       refine⟨.tuple #[z,.bool false],[],by simp[execOp,ho,Xr,Instr.lookup,run_underlying t1,MapKept.run_getObj_map q2,XY,VA,t4],?_,by simp⟩;have hz:I0 w κ z dz []:=by
        have:=ON (w:=w) (κ:=κ) z;rw[<-t3]at this;cases this with
        |v h=>exact h
        |iE vs ds bs h=>exact absurd t3 (by simp[D.OM])
       exact .iE [z,.bool false] [dz,.bool false] [] (.cons _ _ _ _ [] [] hz (.cons _ _ _ _ [] [] (.cell (.pure (.bool _))) .nil))
     ·have VA:=MapKept.run_findKey (P:=P) (w:=w) t2 hn;subst hd;cases ok with
      |false=>exact⟨v,[],by simp[execOp,ho,Xr,Instr.lookup,run_underlying t1,MapKept.run_getObj_map q2,XY,VA],.of hv,by simp⟩
      |true=>
       refine⟨.tuple #[v,.bool true],[],by simp[execOp,ho,Xr,Instr.lookup,run_underlying t1,MapKept.run_getObj_map q2,XY,VA],?_,by simp⟩;exact .iE [v,.bool true] [d',.bool true] [] (.cons _ _ _ _ [] [] (.cell (.pure hv)) (.cons _ _ _ _ [] [] (.cell (.pure (.bool _))) .nil))
    split at h
    ·rename_i d' h1 h2;cases h;exact fin _ h1 h2 rfl
    ·rename_i h1 h2;cases h;exact fin _ h1 h2 rfl
    ·cases h
   ·cases h
  ·cases h
 ·cases h
theorem Rd.XP{w:World}{v:Value}{row:aK}{o:Nat}{bs:aP}(h:Rd w v (.ep row o) bs):∃q,v=.pointer (some q):=by
 cases h;exact⟨_,rfl⟩
theorem C3{o:Oper}{d:D}(hs:cz Γ st κ Θ a w)(h:pv P st o.op=some d):sy P κ Θ a w o d:=by
 cases ho:o.op
 all_goals rw[ho]at h
 case load t x=>exact Io hs ho h
 case lookup t x i ok=>exact Kx hs ho h
 case build t parts=>exact M5 hs ho h
 case fieldAddr t x f=>exact HT hs ho h
 case field t x f=>exact MJ hs ho h
 case indexAddr t x i=>exact HX hs ho h
 case extract x i=>exact JY hs ho h
 case index t x i=>exact MZ hs ho h
 case binOp op t x y t'=>
  simp only[pv]at h;split at h
  ·rename_i e;cases h;exact OQ hs ho e
  ·split at h
   ·rename_i e;cases h;exact Qx hs ho e
   ·split at h
    ·rename_i e;cases h;exact OS hs ho e
    ·exact OR hs ho h
 case nilCheck x=>
  simp only[pv]at h;obtain⟨b,r,z⟩:=hs.ev x;have Xi:∀q,a.eval x=.pointer (some q)->sy P κ Θ a w o (st.ev x):=fun q hq=>⟨_,b,by simp[execOp,ho,hq],hq▸r,z⟩
  split at h<;>rename_i hx<;>cases h<;>rw[hx]at r Xi
  ·obtain⟨g,_,hv⟩:=r.xE;exact Xi _ hv
  ·obtain⟨_,_,_,_,_,hv⟩:=r.C1;exact Xi _ hv
  ·obtain⟨_,hv⟩:=Rd.XP r.Ni;exact Xi _ hv
 case slice t x lo hi mx=>
  cases mx with
  |none=>exact N9 hs ho h
  |some m=>simp[pv]at h
 case move x=>
  simp only[pv,ah]at h;subst h;obtain⟨b,r,z⟩:=hs.ev x;exact⟨_,b,by simp[execOp,ho],r,z⟩
 case assign x=>
  simp only[pv,ah]at h;subst h;obtain⟨b,r,z⟩:=hs.ev x;exact⟨_,b,by simp[execOp,ho],r,z⟩
 case pick c x y=>
  simp only[pv]at h;split at h
  ·rename_i t hc;cases h;obtain⟨b,r,z⟩:=hs.ev c;rw[hc]at r;have hv:=r.sS;cases t
   ·obtain⟨b,r,z⟩:=hs.ev y;exact⟨_,b,by simp[execOp,ho,hv,asBool],r,z⟩
   ·obtain⟨b,r,z⟩:=hs.ev x;exact⟨_,b,by simp[execOp,ho,hv,asBool],r,z⟩
  ·cases h
 case unOp op t x=>
  obtain⟨b,r,z⟩:=hs.ev x;cases op<;>simp only[pv,reduceCtorEq]at h
  case neg=>
   split at h
   ·rename_i k n hx;cases h;rw[hx]at r;have hv:=r.nR;exact⟨_,[],by simp[execOp,ho,hv,Op.unary,Op.intArith],.of (.int _ _ (qY.wrap _ _)),by simp⟩
   ·cases h
  case not=>
   split at h
   ·rename_i bb hx;cases h;rw[hx]at r;have hv:=r.sS;exact⟨_,[],by simp[execOp,ho,hv,Op.unary],.of (.bool _),by simp⟩
   ·cases h
 case convert s d' x=>
  obtain⟨b,r,z⟩:=hs.ev x;simp only[pv]at h;split at h
  ·rename_i k0 n k1 k hx h1 h2;cases h;rw[hx]at r;have hv:=r.nR;have u1:P.underlying s=some (.int k1):=by
    unfold Og at h1;split at h1
    ·cases h1;assumption
    ·cases h1
   have u2:P.underlying d'=some (.int k):=by
    unfold Og at h2;split at h2
    ·cases h2;assumption
    ·cases h2
   exact⟨_,[],by simp[execOp,ho,hv,convert,run_underlying u1,run_underlying u2,Conv.intToInt],.of (.int _ _ (qY.wrap _ _)),by simp⟩
  ·cases h
 case call c=>
  simp only[pv]at h;split at h
  ·rename_i x t h1 h2 h3;refine Qj hs (x:=x) (t:=t) ?_ h;rw[ho];obtain⟨callee,args,argTypes⟩:=c;simp only at h1 h2 h3;subst h1;have e1:args= #[x]:=by cases args;simp_all
   have e2:argTypes= #[t]:=by cases argTypes;simp_all
   subst e1;subst e2;rfl
  ·rename_i x y t t' h1 h2 h3;refine Qn hs (x:=x) (y:=y) (t:=t) (t':=t') ?_ h;rw[ho];obtain⟨callee,args,argTypes⟩:=c;simp only at h1 h2 h3;subst h1;have e1:args= #[x,y]:=by cases args;simp_all
   have e2:argTypes= #[t,t']:=by cases argTypes;simp_all
   subst e1;subst e2;rfl
  ·cases h
 all_goals simp[pv]at h
theorem WH{Q:Exit->St->Prop}{all:Array Oper}{rest:List Oper}{o:Oper}{t:Nat}{d:D}(hd:o.dst=some t)(hg:o.guard=none)(ht:t<Γ.nt)
 (hv:pv P st o.op=some d) (h:AO P Γ all rest Q (st.set t d)):AO P Γ all (o::rest) Q st:=by
 intro κ Θ a w hs;obtain⟨v,bs,hr,hrd,hz⟩:=C3 hs hv;refine wpList_plain hg fun K hK=>?_
 unfold Oper.wp;rw[hr,Oper.upon_value,hd];exact hK _ _ (h κ Θ _ w (hs.set ht hrd hz))
end
end Go.Cx
namespace Go.Cx
open Go.RowKit
structure gZ(w w':World)(Θ Θ':Nat->Nat)(tag:Nat):Prop where
 two:2<=tag
 os:w'.os=w.os
 tape:w'.tape=w.tape
 output:w'.output=w.output
 size:w.heap.size<=w'.heap.size
 block:∀b,b<w.heap.size->Θ b≠tag->w'.heap[b]?=w.heap[b]?
 owner:∀b,b<w.heap.size->Θ b≠tag->Θ' b=Θ b
 own:∀b,Θ' b≠0->b<w'.heap.size
section
variable{w w':World}{κ κ':Nat->Option Value}{Θ Θ':Nat->Nat}{tag id:Nat}{r:D}
theorem gZ.free(k:gZ w w' Θ Θ' tag){b:Nat}(hb:b<w.heap.size)(hz:Θ b=0):Θ' b=0:=by
 have:=k.two;rw[k.owner b hb (by omega)];exact hz
theorem Rd.over{v:Value}{d:D}{bs:aP}(k:gZ w w' Θ Θ' tag)(h:Rd w v d bs)(hz:∀b∈bs,Θ b=0):Rd w' v d bs/\∀b∈bs,Θ' b=0:=by
 have:=k.two;exact⟨h.keep fun b hb=>k.block b (h.lt b hb) (by rw[hz b hb];omega),fun b hb=>k.free (h.lt b hb) (hz b hb)⟩
theorem jR.over{vs:bY}{ds:aK}{bs:aP}(k:gZ w w' Θ Θ' tag)(h:jR w vs ds bs)(hz:∀b∈bs,Θ b=0):jR w' vs ds bs/\∀b∈bs,Θ' b=0:=by
 have:=k.two;exact⟨h.keep fun b hb=>k.block b (h.lt b hb) (by rw[hz b hb];omega),fun b hb=>k.free (h.lt b hb) (hz b hb)⟩
section
variable(hn:∀(j:Nat) v,κ j=some v->κ' j=some v)
include hn
end
theorem XL.lt{v:Value}{rows:List aK}{p n:Nat}{bs:aP}(h:XL w κ v rows p n bs):∀b∈bs,b<w.heap.size:=by
 obtain⟨b,off,cap,cs,ns,rfl,h1,h2,h3,h4,h5,rfl,_⟩:=h;intro x hx;rcases bG.1 hx with rfl|hx
 ·exact h1
 ·exact h5.lt x hx
section
variable(hn:∀(j:Nat) v,κ j=some v->κ' j=some v)
include hn
theorem XL.stay{v:Value}{rows:List aK}{p n:Nat}{bs:aP}(h:XL w κ v rows p n bs)(hb:∀b∈bs,w'.heap[b]?=w.heap[b]?):XL w' κ' v rows p n bs:=by
 obtain⟨b,off,cap,cs,ns,rfl,h1,h2,h3,h4,h5,rfl,c,h6,h7⟩:=h;exact⟨b,off,cap,cs,ns,rfl,Fk h1 (hb b (by simp)),h2,h3,fun j c hc=>(xq (hb b (by simp))).trans (h4 j c hc),h5.keep (fun x hx=>hb x (by simp[hx])),rfl,c,h6,hn _ _ h7⟩
end
section
variable(k:gZ w w' Θ Θ' tag)(hn:∀(j:Nat) v,κ j=some v->κ' j=some v)
include k hn
theorem vR.stay{v:Value}{d:D}{bs:aP}(h:vR w κ v d bs)(hz:∀b∈bs,Θ b=0):vR w' κ' v d bs/\∀b∈bs,Θ' b=0:=by
 cases h with
 |pure h=>exact⟨.pure (Rd.over k h hz).1,(Rd.over k h hz).2⟩
 |acc i v hk=>exact⟨.acc i v (hn _ _ hk),by simp⟩
 |ptr i off b hk=>exact⟨.ptr i off b (hn _ _ hk),by simp⟩
 |op i j sz off b o0 len cap hk=>exact⟨.op i j sz off b o0 len cap (hn _ _ hk),by simp⟩
theorem eN.stay{vs:bY}{ds:aK}{bs:aP}(h:eN w κ vs ds bs)(hz:∀b∈bs,Θ b=0):eN w' κ' vs ds bs/\∀b∈bs,Θ' b=0:=by
 induction ds generalizing vs bs with
 |nil=>cases h;exact⟨.nil,by simp⟩
 |cons d ds ih=>
  cases h with
  |cons v vs _ _ b1 b2 h1 h2 h3=>
   obtain⟨k1,k2⟩:=vR.stay k hn h2 (fun b hb=>hz b (by simp[hb]));obtain⟨k3,k4⟩:=ih h3 (fun b hb=>hz b (by simp[hb]));refine⟨.cons _ _ _ _ _ _ h1 k1 k3,fun b hb=>?_⟩;rcases aU.1 hb with hb|hb
   ·exact k2 b hb
   ·exact k4 b hb
theorem I0.stay{v:Value}{d:D}{bs:aP}(h:I0 w κ v d bs)(hz:∀b∈bs,Θ b=0):I0 w' κ' v d bs/\∀b∈bs,Θ' b=0:=by
 cases h with
 |cell h=>exact⟨.cell (vR.stay k hn h hz).1,(vR.stay k hn h hz).2⟩
 |agg cs ds bs h=>exact⟨.agg _ _ _ (eN.stay k hn h hz).1,(eN.stay k hn h hz).2⟩
theorem yd.stay{vs:bY}{ds:aK}{bs:aP}(h:yd w κ vs ds bs)(hz:∀b∈bs,Θ b=0):yd w' κ' vs ds bs/\∀b∈bs,Θ' b=0:=by
 induction ds generalizing vs bs with
 |nil=>cases h;exact⟨.nil,by simp⟩
 |cons d ds ih=>
  cases h with
  |cons v vs _ _ b1 b2 h2 h3=>
   obtain⟨k1,k2⟩:=I0.stay k hn h2 (fun b hb=>hz b (by simp[hb]));obtain⟨k3,k4⟩:=ih h3 (fun b hb=>hz b (by simp[hb]));refine⟨.cons _ _ _ _ _ _ k1 k3,fun b hb=>?_⟩;rcases aU.1 hb with hb|hb
   ·exact k2 b hb
   ·exact k4 b hb
theorem oK.stay{v:Value}{d:D}{bs:aP}(h:oK w κ v d bs)(hz:∀b∈bs,Θ b=0):oK w' κ' v d bs/\∀b∈bs,Θ' b=0:=by
 cases h with
 |v h=>exact⟨.v (I0.stay k hn h hz).1,(I0.stay k hn h hz).2⟩
 |iE vs ds bs h=>exact⟨.iE _ _ _ (yd.stay k hn h hz).1,(yd.stay k hn h hz).2⟩
theorem sQ.stay{j:Nat}{o:Ob}(hj:j+2≠tag)(h:sQ w κ Θ j o):sQ w' κ' Θ' j o:=by
 cases o with
 |gone=>trivial
 |tk rows=>
  obtain⟨v,bs,hk,hrd,hz⟩:=h;obtain⟨h1,h2⟩:=Rd.over k hrd hz;exact⟨v,bs,hn _ _ hk,h1,h2⟩
 |mp kv=>
  obtain⟨g,es,c,q1,q2,q3,q4⟩:=h;have hlt:g<w.heap.size:=(az.1 q2).1;have hne:Θ g≠tag:=by rw[q3];exact hj
  exact⟨g,es,c,hn _ _ q1,(k.block g hlt hne).trans q2,by rw[k.owner g hlt hne];exact q3,q4.stay⟩
 |eE sz rows u=>
  obtain⟨hrl,VG,v,bs,hk,hrd,hnd,Bq⟩:=h;have hsame:∀b∈bs,w'.heap[b]?=w.heap[b]?:=fun b hb=>k.block b (hrd.lt b hb) (by rw[(Bq b hb).1];exact hj)
  refine⟨hrl,fun x hx=>hn _ _ (VG x hx),v,bs,hn _ _ hk,hrd.keep hsame,hnd,fun b hb=>⟨?_,?_⟩⟩
  ·rw[k.owner b (hrd.lt b hb) (by rw[(Bq b hb).1];exact hj)];exact(Bq b hb).1
  ·obtain⟨x,T,hx⟩:=(Bq b hb).2;exact⟨x,T,(hsame b hb).trans hx⟩
 |hole sz rows u p n=>
  obtain⟨hrl,VG,v,bs,hk,hrd,hnd,Bq⟩:=h;have hsame:∀b∈bs,w'.heap[b]?=w.heap[b]?:=fun b hb=>k.block b (hrd.lt b hb) (by rw[(Bq b hb).1];exact hj)
  refine⟨hrl,fun x hx=>hn _ _ (VG x hx),v,bs,hn _ _ hk,XL.stay hn hrd hsame,hnd,fun b hb=>⟨?_,?_⟩⟩
  ·rw[k.owner b (hrd.lt b hb) (by rw[(Bq b hb).1];exact hj)];exact(Bq b hb).1
  ·obtain⟨x,T,hx⟩:=(Bq b hb).2;exact⟨x,T,(hsame b hb).trans hx⟩
 |box cells=>
  obtain⟨g,cs,T,hk,hg,hΘ,bs,p9,hz⟩:=h;have hlt:g<w.heap.size:=(az.1 hg).1;have hne:Θ g≠tag:=by rw[hΘ];exact hj
  obtain⟨h1,h2⟩:=eN.stay k hn p9 hz;exact⟨g,cs,T,hn _ _ hk,(k.block g hlt hne).trans hg,(k.owner g hlt hne).trans hΘ,bs,h1,h2⟩
 |Gj cells u=>
  obtain⟨hu,g,cs,T,hk,hg,hΘ,bs,p9,hz⟩:=h;have hlt:g<w.heap.size:=(az.1 hg).1;have hne:Θ g≠tag:=by rw[hΘ];exact hj
  obtain⟨h1,h2⟩:=eN.stay k hn p9 hz;exact⟨hn _ _ hu,g,cs,T,hn _ _ hk,(k.block g hlt hne).trans hg,(k.owner g hlt hne).trans hΘ,bs,h1,h2⟩
 |row deep e sz rows=>
  obtain⟨hsz,hrl,v,cs,bs,hk,hown,p9,hΘ,hd⟩:=h;refine⟨hsz,hrl,v,cs,bs,hn _ _ hk,?_,?_,?_,?_⟩
  ·refine⟨hown.1,?_⟩;rcases hown.2 with rM|⟨g,cap,cur,rfl,hb,Km,rest⟩
   ·exact .inl rM
   ·have hlt:g<w.heap.size:=(az.1 Km).1;have hne:Θ g≠tag:=by rw[hΘ g (by simp[Value.ownBlock])];exact hj
    exact .inr ⟨g,cap,cur,rfl,hb,(k.block g hlt hne).trans Km,rest⟩
  ·refine p9.keep fun b hb=>k.block b (p9.lt b hb) ?_
   have:=k.two;cases deep with
   |cl=>rw[(hd.2.1 b hb).1];exact hj
   |sh=>rw[hd b hb];omega
   |uq=>rw[hd b hb];omega
   |mv n=>rw[hd b hb];omega
  ·intro g hg;have hlt:=(hown.lt g hg).2;have e:=hΘ g hg;rw[k.owner g hlt (by rw[e];exact hj)];exact e
  ·cases deep with
   |cl=>
    refine⟨hd.1,fun b hb=>⟨?_,?_⟩,hd.2.2⟩
    ·rw[k.owner b (p9.lt b hb) (by rw[(hd.2.1 b hb).1];exact hj)];exact(hd.2.1 b hb).1
    ·obtain⟨x,T,hx⟩:=(hd.2.1 b hb).2;exact⟨x,T,(k.block b (p9.lt b hb) (by rw[(hd.2.1 b hb).1];exact hj)).trans hx⟩
   |sh=>exact fun b hb=>k.free (p9.lt b hb) (hd b hb)
   |uq=>exact fun b hb=>k.free (p9.lt b hb) (hd b hb)
   |mv n=>exact fun b hb=>k.free (p9.lt b hb) (hd b hb)
end
end
section
variable{Γ:pG}{st:St}{κ κ':Nat->Option Value}{Θ Θ':Nat->Nat}{a:Act}{w w':World}{tag:Nat}
theorem cz.base(hs:cz Γ st κ Θ a w):Γ.W0.heap.size<=w.heap.size:=hs.stays.size
theorem cz.OC(hs:cz Γ st κ Θ a w)(k:gZ w w' Θ Θ' tag):Lo Γ w':=by
 refine⟨k.os.trans hs.stays.os,k.tape.trans hs.stays.tape,k.output.trans hs.stays.output,cZ hs.stays.size k.size,fun b hb hx=>?_⟩;have:=k.two;have h1:=(hs.old b hb hx).2;exact(k.block b (dG hb hs.base) (by omega)).trans (hs.stays.block b hb hx)
theorem cz.Sz(hs:cz Γ st κ Θ a w)(k:gZ w w' Θ Θ' tag):∀b,b<Γ.W0.heap.size->¬Γ.X b->Θ' b=Γ.Θ0 b/\Θ' b<=1:=by
 intro b hb hx;have:=k.two;have h1:=hs.old b hb hx;rw[k.owner b (dG hb hs.base) (by omega)];exact h1
theorem cz.lG(hs:cz Γ st κ Θ a w)(k:gZ w w' Θ Θ' tag)(hn:∀(j:Nat) v,κ j=some v->κ' j=some v){ρ:Nat->Nat}(hu:vg Γ st.H κ Θ w ρ):
 (∀b,ρ b≠0->Θ' b=0/\Ou Γ b/\Wr w' b)/\(∀id e sz rows,id+2≠tag->st.H[id]?=some (.row .uq e sz rows)->
  ∃v cs bs,κ' id=some v/\w'.ownsRow 0 e sz v rows.length cs/\jR w' cs rows.flatten bs/\bs.Nodup/\∀b∈bs,ρ b=id+1)/\
  ∀id o,id+2≠tag->st.H[id]?=some o->GJ w' κ' ρ id o:=by
 have h2:=k.two;refine⟨?_,?_,?_⟩
 ·intro b hb;obtain⟨h0,hm,x,T,hx⟩:=hu.free b hb;have hlt:b<w.heap.size:=(az.1 hx).1;exact⟨k.free hlt h0,hm,x,T,(k.block b hlt (by omega)).trans hx⟩
 ·intro id e sz rows hid hH;obtain⟨v,cs,bs,hk,hown,p9,hnd,hρ⟩:=hu.rows id e sz rows hH;obtain⟨_,_,v2,_,_,hk2,_,_,hΘ,_⟩:=hs.ob id _ hH;rw[hk]at hk2;cases hk2;refine⟨v,cs,bs,hn _ _ hk,⟨hown.1,?_⟩,p9.keep fun b hb=>k.block b (p9.lt b hb) ?_,hnd,hρ⟩
  ·rcases hown.2 with rM|⟨g,cap,cur,rfl,hb,Km,rest⟩
   ·exact .inl rM
   ·have hlt:g<w.heap.size:=(az.1 Km).1;have hne:Θ g≠tag:=by rw[hΘ g (by simp[Value.ownBlock])];exact hid
    exact .inr ⟨g,cap,cur,rfl,hb,(k.block g hlt hne).trans Km,rest⟩
  ·have:=hρ b hb;have:=(hu.free b (by omega)).1;omega
 ·intro id o hid hH;have hm:=hu.more id o hH;have hb0:∀ {bs:aP},(∀b∈bs,ρ b=id+1)->∀b∈bs,Θ b≠tag:=fun hρ b hb=>by
   have:=hρ b hb;have:=(hu.free b (by omega)).1;omega
  cases o with
  |tk rows=>
   obtain⟨v,bs,hk,hrd,hnd,hρ⟩:=hm;exact⟨v,bs,hn _ _ hk,hrd.keep fun b hb=>k.block b (hrd.lt b hb) (hb0 hρ b hb),hnd,hρ⟩
  |row kd e sz rows=>
   cases kd with
   |mv n=>
    obtain⟨v,cs,bs,hk,hown,p9,hnd,hρ⟩:=hm;obtain⟨_,_,v2,_,_,hk2,_,_,hΘ,_⟩:=hs.ob id _ hH;rw[hk]at hk2;cases hk2;refine⟨v,cs,bs,hn _ _ hk,⟨hown.1,?_⟩,p9.keep fun b hb=>k.block b (p9.lt b hb) (hb0 hρ b hb),hnd,hρ⟩;rcases hown.2 with rM|⟨g,cap,cur,rfl,hb,Km,rest⟩
    ·exact .inl rM
    ·have hlt:g<w.heap.size:=(az.1 Km).1;have hne:Θ g≠tag:=by rw[hΘ g (by simp[Value.ownBlock])];exact hid
     exact .inr ⟨g,cap,cur,rfl,hb,(k.block g hlt hne).trans Km,rest⟩
   |_=>trivial
  |_=>trivial
theorem GJ.re{ρ ρ':Nat->Nat}{id:Nat}{o:Ob}(h:GJ w κ ρ id o)(hr:∀b,ρ b=id+1->ρ' b=id+1):GJ w κ ρ' id o:=by
 cases o with
 |tk rows=>
  obtain⟨v,bs,hk,hrd,hnd,hρ⟩:=h;exact⟨v,bs,hk,hrd,hnd,fun b hb=>hr b (hρ b hb)⟩
 |row kd e sz rows=>
  cases kd with
  |mv n=>
   obtain⟨v,cs,bs,hk,hown,p9,hnd,hρ⟩:=h;exact⟨v,cs,bs,hk,hown,p9,hnd,fun b hb=>hr b (hρ b hb)⟩
  |_=>trivial
 |_=>trivial
theorem cz.step(hs:cz Γ st κ Θ a w){H':bJ}(k:gZ w w' Θ Θ' tag)(hm:∀b,2<=Θ' b->uS Γ b)(hn:∀(j:Nat) v,κ j=some v->κ' j=some v)
 (Xd:∀id,H'.length<=id->κ' id=none) (hk1:∀(id:Nat) u,κ' id=some u->u.oneCell'=true)
 (wY:∀(j:Nat) o,H'[j]?=some o->o=.gone\/(j+2≠tag/\st.H[j]?=some o)\/sQ w' κ' Θ' j o) (hu:∃ρ,vg Γ H' κ' Θ' w' ρ):cz Γ ⟨st.σ,H'⟩ κ' Θ' a w':=by
 refine⟨hs.defers,hs.size,Xd,hk1,?_,?_,k.own,hs.Sz k,hm,hs.OC k,hu⟩
 ·intro t;obtain⟨bs,hr,hz⟩:=hs.slot t;exact⟨bs,oK.stay k hn hr hz⟩
 ·intro j o hj;rcases wY j o hj with rfl|⟨hne,hj'⟩|h
  ·trivial
  ·exact sQ.stay k hn hne (hs.ob j o hj')
  ·exact h
def uP(κ:Nat->Option Value)(id:Nat)(v:Option Value):Nat->Option Value:=fun i=>if i=id then v else κ i
theorem jN(κ:Nat->Option Value)(id:Nat)(v:Option Value):uP κ id v id=v:=by simp[uP]
theorem tf{κ:Nat->Option Value}{id:Nat}(h:κ id=none)(v:Option Value):∀(j:Nat) u,κ j=some u->uP κ id v j=some u:=by
 intro j u hj;unfold uP;rw[b9 (fun e=>by subst e;rw[h]at hj;cases hj)];exact hj
def Ob.RD:Ob->Bool
 | .row .uq _ _ _=>true
 | .row (.mv _) _ _ _=>true
 | .tk _=>true
 |_=>false
def Ob.Z2:Ob->Bool
 | .row (.mv _) _ _ _=>true
 | .tk _=>true
 |_=>false
theorem GJ.sZ{ρ:Nat->Nat}{id:Nat}{o:Ob}(h:o.Z2=false):GJ w κ ρ id o:=by
 cases o with
 |tk rows=>simp[Ob.Z2]at h
 |row kd e sz rows=>
  cases kd with
  |mv n=>simp[Ob.Z2]at h
  |_=>trivial
 |_=>trivial
theorem GJ.plain{ρ:Nat->Nat}{id:Nat}{o:Ob}(h:o.RD=false):GJ w κ ρ id o:=by
 cases o with
 |tk rows=>simp[Ob.RD]at h
 |row kd e sz rows=>
  cases kd with
  |mv n=>simp[Ob.RD]at h
  |_=>trivial
 |_=>trivial
theorem cz.push(hs:cz Γ st κ Θ a w){v:Value}{o:Ob}(h1:v.oneCell'=true)(k:gZ w w' Θ Θ' (st.H.length+2))(hm:∀b,2<=Θ' b->uS Γ b)
 (ho:sQ w' (uP κ st.H.length (some v)) Θ' st.H.length o) (hq:o.RD=false):cz Γ ⟨st.σ,st.H++[o]⟩ (uP κ st.H.length (some v)) Θ' a w':=by
 have hn:=tf (hs.mT _ (bH _)) (some v);have key:∀(j:Nat) x,(st.H++[o])[j]?=some x->(j=st.H.length/\x=o)\/(j+2≠st.H.length+2/\st.H[j]?=some x):=by
  intro j x hj;by_cases hlt:j<st.H.length
  ·rw[aj hlt]at hj;exact .inr ⟨by omega,hj⟩
  ·have hj':=(aD.1 hj).1;simp only[aM,aG,b8]at hj';have e:j=st.H.length:=by omega
   subst e;rw[av (bH _)]at hj;simp at hj;exact .inl ⟨rfl,hj.symm⟩
 obtain⟨ρ,hu⟩:=hs.qA;have q9:=hs.lG k hn hu;refine hs.step k hm hn ?_ ?_ ?_ ⟨ρ,q9.1,?_,?_⟩
 ·intro i hi;simp only[aM,aG,b8]at hi;unfold uP;rw[b9 (by omega)];exact hs.mT i (by omega)
 ·intro i u hu;unfold uP at hu;split at hu
  ·cases hu;exact h1
  ·exact hs.lM i u hu
 ·intro j x hj;rcases key j x hj with⟨rfl,rfl⟩|h
  ·exact .inr (.inr ho)
  ·exact .inr (.inl h)
 ·intro id e sz rows hj;rcases key id _ hj with⟨rfl,rfl⟩|h
  ·simp[Ob.RD]at hq
  ·exact q9.2.1 id e sz rows h.1 h.2
 ·intro id x hj;rcases key id _ hj with⟨rfl,rfl⟩|h
  ·exact GJ.plain hq
  ·exact q9.2.2 id x h.1 h.2
theorem cz.change(hs:cz Γ st κ Θ a w){id:Nat}{o:Ob}(k:gZ w w' Θ Θ' (id+2))(hm:∀b,2<=Θ' b->uS Γ b)(ho:sQ w' κ Θ' id o)(hq:o.RD=false):
 cz Γ ⟨st.σ,st.H.set id o⟩ κ Θ' a w':=by
 have key:∀(j:Nat) x,(st.H.set id o)[j]?=some x->(j=id/\x=o)\/(j+2≠id+2/\st.H[j]?=some x):=by
  intro j x hj;by_cases e:id=j
  ·subst e;have hlt:id<st.H.length:=by
    have:=(aD.1 hj).1;simpa using this
   rw[cx hlt]at hj;cases hj;exact .inl ⟨rfl,rfl⟩
  ·rw[bw e]at hj;exact .inr ⟨by omega,hj⟩
 obtain⟨ρ,hu⟩:=hs.qA;have q9:=hs.lG k (fun _ _ h=>h) hu;refine hs.step k hm (fun _ _ h=>h) (fun i hi=>hs.mT i (by simpa using hi)) hs.lM ?_ ⟨ρ,q9.1,?_,?_⟩
 ·intro j x hj;rcases key j x hj with⟨rfl,rfl⟩|h
  ·exact .inr (.inr ho)
  ·exact .inr (.inl h)
 ·intro i e sz rows hj;rcases key i _ hj with⟨rfl,rfl⟩|h
  ·simp[Ob.RD]at hq
  ·exact q9.2.1 i e sz rows h.1 h.2
 ·intro i x hj;rcases key i _ hj with⟨rfl,rfl⟩|h
  ·exact GJ.plain hq
  ·exact q9.2.2 i x h.1 h.2
theorem cz.vS(hs:cz Γ st κ Θ a w)(h:∀b,2<=Θ' b->2<=Θ b\/w.heap.size<=b):∀b,2<=Θ' b->uS Γ b:=by
 intro b hb;rcases h b hb with h|h
 ·exact hs.mine b h
 ·exact .inl (cZ hs.base h)
theorem gZ.refl(h:∀b,Θ b≠0->b<w.heap.size)(h2:2<=tag):gZ w w Θ Θ tag:=⟨h2,rfl,rfl,rfl,bH _,fun _ _ _=>rfl,fun _ _ _=>rfl,h⟩
theorem gZ.Vj(h:∀b,Θ b≠0->b<w.heap.size)(hb:Below w.heap.size w w')(h2:2<=tag):gZ w w' Θ Θ tag:=
 ⟨h2,hb.os,hb.tape,hb.output,hb.size,fun b hlt _=>hb.block b hlt,fun _ _ _=>rfl,fun b hn=>dG (h b hn) hb.size⟩
theorem cz.grow(hs:cz Γ st κ Θ a w)(hb:Below w.heap.size w w'):cz Γ st κ Θ a w':=by
 have k:gZ w w' Θ Θ (st.H.length+2):=gZ.Vj hs.own hb (by omega);obtain⟨ρ,hu⟩:=hs.qA;have q9:=hs.lG k (fun _ _ h=>h) hu;have hlt:∀(j:Nat) o,st.H[j]?=some o->j+2≠st.H.length+2:=fun j o h=>by
  have:=(aD.1 h).1;omega
 exact hs.step k hs.mine (fun _ _ h=>h) hs.mT hs.lM (fun j o h=>.inr (.inl ⟨hlt j o h,h⟩)) ⟨ρ,q9.1,fun id e sz rows h=>q9.2.1 id e sz rows (hlt _ _ h) h,fun id o h=>q9.2.2 id o (hlt _ _ h) h⟩
theorem cz.drew(hs:cz Γ st κ Θ a w):cz Γ st κ Θ a w.drew:=hs.grow ((Below.refl _ _).drew)
def kill(H:bJ):aP->bJ
 | []=>H
 |m::ms=>kill (H.set m .gone) ms
theorem eX(H:bJ)(ms:aP):(kill H ms).length=H.length:=by
 induction ms generalizing H with
 |nil=>rfl
 |cons m ms ih=>simp[kill,ih]
theorem lF{H:bJ}{ms:aP}{j:Nat}{o:Ob}(h:(kill H ms)[j]?=some o):o=.gone\/(j∉ms/\H[j]?=some o):=by
 induction ms generalizing H with
 |nil=>exact .inr ⟨by simp,h⟩
 |cons m ms ih=>
  rcases ih h with h|⟨h1,h2⟩
  ·exact .inl h
  ·by_cases e:m=j
   ·subst e;have hlt:=(aD.1 h2).1;rw[cx (by simpa using hlt)]at h2;cases h2;exact .inl rfl
   ·rw[bw e]at h2;exact .inr ⟨by simp[h1,oJ e],h2⟩
def ve(κ:Nat->Option Value)(Θ ρ:Nat->Nat)(w:World)(m:Nat)(k:RK)(rows:List aK):Prop:=
 ∃v bs,κ m=some v/\Rd w v (.sl rows) bs/\(∀b∈bs,Θ b=0)/\(k=.uq->bs.Nodup/\∀b∈bs,ρ b=m+1)
theorem rj{e sz:Nat}{v:Value}{rows:List aK}{cs:bY}{bs:aP}(hrl:∀r∈rows,r.length=sz)(hown:w.ownsRow 0 e sz v rows.length cs)(p9:jR w cs rows.flatten bs):
 Rd w v (.sl rows) (v.ownBlock.toList++bs):=by
 rcases hown.2 with⟨rfl,hn⟩|⟨g,cap,cur,rfl,_,hg,hnc,hcm,_,ht⟩
 ·have:rows=[]:=cS hn;subst this;cases p9;exact .vD
 ·have hlt:g<w.heap.size:=(az.1 hg).1;refine .sl g 0 cap sz rows cs bs hlt hnc hcm hrl (fun j c hc=>?_) p9;have:=hown.cells (g:=g) (by simp[Value.ownBlock]) j c hc;simpa[Addr.add_lit]using this
theorem cz.YM(hs:cz Γ st κ Θ a w){ρ:Nat->Nat}(hu:vg Γ st.H κ Θ w ρ){m e sz:Nat}{k:RK}{rows:List aK}(hH:st.H[m]?=some (.row k e sz rows))(hk:k.L8=true):
 ∃Θ' ρ',cz Γ ⟨st.σ,st.H.set m .gone⟩ κ Θ' a w/\vg Γ (st.H.set m .gone) κ Θ' w ρ'/\ve κ Θ' ρ' w m k rows/\
  (∀b,Θ b=0->Θ' b=0)/\(∀b,ρ b≠0->ρ' b=ρ b):=by
 obtain⟨hsz,hrl,v,cs,bs,hkm,hown,p9,hΘ,hz⟩:=hs.ob m _ hH;have uN:∀b∈bs,Θ b=0:=by cases k<;>first|exact hz|simp[RK.L8]at hk
 let Θ':Nat->Nat:=fun b=>if Θ b=m+2 then 0 else Θ b
 let ρ':Nat->Nat:=fun b=>if some b=v.ownBlock then m+1 else ρ b
 have hk':gZ w w Θ Θ' (m+2):=⟨by omega,rfl,rfl,rfl,bH _,fun _ _ _=>rfl,fun b _ hne=>b9 hne,fun b hb=>hs.own b (fun h0=>hb (by simp only[Θ'];split<;>simp_all))⟩
 have hT0:∀b,Θ b=0->Θ' b=0:=fun b h=>by simp only[Θ'];split<;>omega
 have Gz:∀b,2<=Θ' b->uS Γ b:=fun b hb=>hs.mine b (by simp only[Θ']at hb;split at hb<;>omega)
 have Bs:∀g,v.ownBlock=some g->ρ g=0:=by
  intro g hg;cases h:ρ g with
  |zero=>rfl
  |succ n=>have:=(hu.free g (by omega)).1;rw[hΘ g hg]at this;omega
 have hρ:∀b,ρ b≠0->ρ' b=ρ b:=fun b hb=>b9 (fun h=>hb (Bs b h.symm))
 have key:∀(j:Nat) x,(st.H.set m .gone)[j]?=some x->x=.gone\/(j+2≠m+2/\st.H[j]?=some x):=by
  intro j x hj;rcases lF (ms:=[m]) hj with h|⟨h1,h2⟩
  ·exact .inl h
  ·exact .inr ⟨by simp at h1;omega,h2⟩
 have q9:=hs.lG hk' (fun _ _ h=>h) hu;have hU:vg Γ (st.H.set m .gone) κ Θ' w ρ':=by
  refine⟨fun b hb=>?_,fun id e sz rows h=>?_,fun id x h=>?_⟩
  ·by_cases hb':some b=v.ownBlock
   ·have e1:=hΘ b hb'.symm;refine⟨by simp only[Θ'];rw[bM e1],.inl (hs.mine b (by omega)),?_⟩;rcases hown.2 with⟨rfl,_⟩|⟨g,cap,cur,rfl,_,hg,_⟩
    ·simp[Value.ownBlock]at hb'
    ·simp[Value.ownBlock]at hb';subst hb';exact⟨_,_,hg⟩
   ·exact q9.1 b (by simp only[ρ']at hb;rwa[b9 hb']at hb)
  ·rcases key id _ h with h|⟨h1,h2⟩
   ·cases h
   ·obtain⟨v2,c2,b2,q1,q2,q3,q4,q5⟩:=q9.2.1 id e sz rows h1 h2;exact⟨v2,c2,b2,q1,q2,q3,q4,fun b hb=>by rw[hρ b (by rw[q5 b hb];omega)];exact q5 b hb⟩
  ·rcases key id _ h with h|⟨h1,h2⟩
   ·subst h;trivial
   ·exact(q9.2.2 id x h1 h2).re fun b hb=>(hρ b (by omega)).trans hb
 refine⟨Θ',ρ',?_,hU,?_,hT0,hρ⟩
 ·exact hs.step hk' Gz (fun _ _ h=>h) (fun i hi=>hs.mT i (by simpa using hi)) hs.lM (fun j x hj=>by
   rcases key j x hj with h|h
   ·exact .inl h
   ·exact .inr (.inl h)) ⟨ρ',hU⟩
 ·have plain:k≠ .uq->ve κ Θ' ρ' w m k rows:=fun hne=>by
   refine⟨v,_,hkm,rj hrl hown p9,fun b hb=>?_,fun h=>absurd h hne⟩;rcases aU.1 hb with hb|hb
   ·simp only[j8]at hb;simp only[Θ'];rw[bM (hΘ b hb)]
   ·exact hT0 b (uN b hb)
  cases k with
  |cl=>simp[RK.L8]at hk
  |sh=>exact plain (by simp)
  |mv n=>exact plain (by simp)
  |uq=>
   obtain⟨v2,c2,b2,q1,q2,q3,q4,q5⟩:=hu.rows m e sz rows hH;rw[hkm]at q1;cases q1;have hfr:∀b∈b2,ρ b≠0:=fun b hb=>by rw[q5 b hb];omega
   refine⟨v,_,hkm,rj hrl q2 q3,fun b hb=>?_,fun _=>⟨?_,fun b hb=>?_⟩⟩
   ·rcases aU.1 hb with hb|hb
    ·simp only[j8]at hb;simp only[Θ'];rw[bM (hΘ b hb)]
    ·exact hT0 b (hu.free b (hfr b hb)).1
   ·rw[bA];refine⟨by cases v.ownBlock<;>simp,q4,fun x hx y hy e=>?_⟩;simp only[j8]at hx;subst e;exact hfr x hy (Bs x hx)
   ·rcases aU.1 hb with hb|hb
    ·simp only[j8]at hb;simp only[ρ'];rw[bM hb.symm]
    ·rw[hρ b (hfr b hb)];exact q5 b hb
theorem cz.a0H(hs:cz Γ st κ Θ a w){ρ:Nat->Nat}(hu:vg Γ st.H κ Θ w ρ){m:Nat}{rows:List aK}(hH:st.H[m]?=some (.tk rows)):
 cz Γ ⟨st.σ,st.H.set m .gone⟩ κ Θ a w/\vg Γ (st.H.set m .gone) κ Θ w ρ/\ve κ Θ ρ w m .uq rows:=by
 have key:∀(j:Nat) x,(st.H.set m .gone)[j]?=some x->x=.gone\/(j≠m/\st.H[j]?=some x):=by
  intro j x hj;rcases lF (ms:=[m]) hj with h|⟨h1,h2⟩
  ·exact .inl h
  ·exact .inr ⟨by simpa using h1,h2⟩
 have hU:vg Γ (st.H.set m .gone) κ Θ w ρ:=by
  refine⟨hu.free,fun id e sz rows h=>?_,fun id x h=>?_⟩
  ·rcases key id _ h with h|⟨_,h2⟩
   ·cases h
   ·exact hu.rows id e sz rows h2
  ·rcases key id _ h with h|⟨_,h2⟩
   ·subst h;trivial
   ·exact hu.more id x h2
 obtain⟨v,bs,q1,q2,q3,q4⟩:=hu.more m _ hH;refine⟨⟨hs.defers,hs.size,fun i hi=>hs.mT i (by simpa using hi),hs.lM,hs.slot,fun id o h=>?_,hs.own,hs.old,hs.mine,hs.stays,ρ,hU⟩,hU,v,bs,q1,q2,fun b hb=>(hu.free b (by rw[q4 b hb];omega)).1,fun _=>⟨q3,q4⟩⟩;rcases key id _ h with h|⟨_,h2⟩
 ·subst h;trivial
 ·exact hs.ob id o h2
def Ob.Gn:Ob->Option (RK×List aK)
 | .row k _ _ rows=>(match k with| .cl=>none|_=>some (k,rows))
 | .tk rows=>some (.uq,rows)
 |_=>none
theorem Ob.Tv{o:Ob}{k:RK}{rows:List aK}(h:o.Gn=some (k,rows)):(∃e sz,o=.row k e sz rows/\k.L8=true)\/(o=.tk rows/\k=.uq):=by
 cases o with
 |row k' e sz r=>
  cases k' with
  |cl=>simp[Ob.Gn]at h
  |_=>simp only[Ob.Gn,ah,cK]at h;obtain⟨rfl,rfl⟩:=h;exact .inl ⟨e,sz,rfl,rfl⟩
 |tk r=>simp only[Ob.Gn,ah,cK]at h;obtain⟨rfl,rfl⟩:=h;exact .inr ⟨rfl,rfl⟩
 |_=>simp[Ob.Gn]at h
theorem cz.a0G(hs:cz Γ st κ Θ a w){ρ:Nat->Nat}(hu:vg Γ st.H κ Θ w ρ){m:Nat}{o:Ob}{k:RK}{rows:List aK}(hH:st.H[m]?=some o)(ho:o.Gn=some (k,rows)):
 ∃Θ' ρ',cz Γ ⟨st.σ,st.H.set m .gone⟩ κ Θ' a w/\vg Γ (st.H.set m .gone) κ Θ' w ρ'/\ve κ Θ' ρ' w m k rows/\
  (∀b,Θ b=0->Θ' b=0)/\(∀b,ρ b≠0->ρ' b=ρ b):=by
 rcases Ob.Tv ho with⟨e,sz,rfl,hk⟩|⟨rfl,rfl⟩
 ·exact hs.YM hu hH hk
 ·obtain⟨h1,h2,h3⟩:=hs.a0H hu hH;exact⟨Θ,ρ,h1,h2,h3,fun _ h=>h,fun _ _=>rfl⟩
theorem cz.Mi:∀(ms:aP) {st:St} {Θ ρ:Nat->Nat},cz Γ st κ Θ a w->vg Γ st.H κ Θ w ρ->ms.Nodup->
 (∀m∈ms,∃o k rows,st.H[m]?=some o/\o.Gn=some (k,rows))->
 ∃Θ' ρ',cz Γ ⟨st.σ,kill st.H ms⟩ κ Θ' a w/\vg Γ (kill st.H ms) κ Θ' w ρ'/\(∀m∈ms,∀o k rows,st.H[m]?=some o->o.Gn=some (k,rows)->ve κ Θ' ρ' w m k rows)/\
  (∀b,Θ b=0->Θ' b=0)/\(∀b,ρ b≠0->ρ' b=ρ b):=by
 intro ms
 induction ms with
 |nil=>intro st Θ ρ hs hu _ _;exact⟨Θ,ρ,hs,hu,by simp,fun _ h=>h,fun _ _=>rfl⟩
 |cons m ms ih=>
  intro st Θ ρ hs hu hnd hall;obtain⟨hnm,AY⟩:=eo.1 hnd;obtain⟨o,k,rows,hH,hk⟩:=hall m (by simp);obtain⟨Θ1,ρ1,hs1,hu1,hm1,Jf,O4⟩:=hs.a0G hu hH hk;have Kl:∀m'∈ms,(st.H.set m .gone)[m']?=st.H[m']?:=fun m' hm'=>bw (fun e:m=m'=>hnm (by rw[e];exact hm'))
  obtain⟨Θ2,ρ2,hs2,UU,hm2,Se,VC⟩:=ih (st:=⟨st.σ,st.H.set m .gone⟩) hs1 hu1 AY (fun m' hm'=>by
   obtain⟨o',k',cm,h1,h2⟩:=hall m' (by simp[hm']);exact⟨o',k',cm,(Kl m' hm').trans h1,h2⟩)
  refine⟨Θ2,ρ2,hs2,UU,?_,fun b h=>Se b (Jf b h),fun b h=>(VC b (by rw[O4 b h];exact h)).trans (O4 b h)⟩;intro m' hm' o' k' cm AX ho';rcases bG.1 hm' with rfl|SL
  ·rw[hH]at AX;cases AX;rw[hk]at ho';cases ho';obtain⟨v,bs,q1,q2,q3,q4⟩:=hm1;refine⟨v,bs,q1,q2,fun b hb=>Se b (q3 b hb),fun hq=>?_⟩;obtain⟨q5,q6⟩:=q4 hq;exact⟨q5,fun b hb=>by rw[VC b (by rw[q6 b hb];omega)];exact q6 b hb⟩
  ·exact hm2 m' SL o' k' cm ((Kl m' SL).trans AX) ho'
theorem cz.CG:∀(ms:aP) {st:St} {Θ ρ:Nat->Nat},cz Γ st κ Θ a w->vg Γ st.H κ Θ w ρ->ms.Nodup->
 (∀m∈ms,∃k e sz rows,st.H[m]?=some (.row k e sz rows)/\k.L8=true)->
 ∃Θ' ρ',cz Γ ⟨st.σ,kill st.H ms⟩ κ Θ' a w/\vg Γ (kill st.H ms) κ Θ' w ρ'/\(∀m∈ms,∀k e sz rows,st.H[m]?=some (.row k e sz rows)->ve κ Θ' ρ' w m k rows)/\
  (∀b,Θ b=0->Θ' b=0)/\(∀b,ρ b≠0->ρ' b=ρ b):=by
 intro ms
 induction ms with
 |nil=>intro st Θ ρ hs hu _ _;exact⟨Θ,ρ,hs,hu,by simp,fun _ h=>h,fun _ _=>rfl⟩
 |cons m ms ih=>
  intro st Θ ρ hs hu hnd hall;obtain⟨hnm,AY⟩:=eo.1 hnd;obtain⟨k,e,sz,rows,hH,hk⟩:=hall m (by simp);obtain⟨Θ1,ρ1,hs1,hu1,hm1,Jf,O4⟩:=hs.YM hu hH hk;have Kl:∀m'∈ms,(st.H.set m .gone)[m']?=st.H[m']?:=fun m' hm'=>bw (fun e:m=m'=>hnm (by rw[e];exact hm'))
  obtain⟨Θ2,ρ2,hs2,UU,hm2,Se,VC⟩:=ih (st:=⟨st.σ,st.H.set m .gone⟩) hs1 hu1 AY (fun m' hm'=>by
   obtain⟨k',e',sz',cm,h1,h2⟩:=hall m' (by simp[hm']);exact⟨k',e',sz',cm,(Kl m' hm').trans h1,h2⟩)
  refine⟨Θ2,ρ2,hs2,UU,?_,fun b h=>Se b (Jf b h),fun b h=>(VC b (by rw[O4 b h];exact h)).trans (O4 b h)⟩;intro m' hm' k' e' sz' cm AX;rcases bG.1 hm' with rfl|SL
  ·rw[hH]at AX;cases AX;obtain⟨v,bs,q1,q2,q3,q4⟩:=hm1;refine⟨v,bs,q1,q2,fun b hb=>Se b (q3 b hb),fun hq=>?_⟩;obtain⟨q5,q6⟩:=q4 hq;exact⟨q5,fun b hb=>by rw[VC b (by rw[q6 b hb];omega)];exact q6 b hb⟩
  ·exact hm2 m' SL k' e' sz' cm ((Kl m' SL).trans AX)
end
end Go.Cx
namespace Go.Cx
open Go.RowKit
section
variable{P:Program}{Γ:pG}{Q:Exit->St->Prop}{st:St}{κ:Nat->Option Value}{Θ:Nat->Nat}{a:Act}{w:World}{all:Array Oper}{rest:List Oper}
theorem Uk{c:Operand}{x y:Code}{b:Bool}(hc:st.ev c=.bool b)(ht:b=true->AW P Γ x Q st)(hf:b=false->AW P Γ y Q st):AW P Γ (.cond c x y) Q st:=by
 intro κ Θ a w hs;obtain⟨bs,r,_⟩:=hs.ev c;rw[hc]at r;exact wp_cond_split r.sS (fun h=>ht h κ Θ a w hs) (fun h=>hf h κ Θ a w hs)
theorem Hw{o:Oper}{j s:Nat}{want b:Bool}(hg:o.guard=some (j,want))(hj:(all[j]?).bind (·.dst)=some s)(hb:lk st.σ s=.bool b)
 (hd:∀t,o.dst=some t->t<Γ.nt)
 (a2Y:b=want->AO P Γ all ({o with guard:=none}::rest) Q st) (hno:b≠want->AO P Γ all rest Q (st.put o.dst (.iE []))):AO P Γ all (o::rest) Q st:=by
 intro κ Θ a w hs;obtain⟨bs,r,_⟩:=hs.slot s;rw[hb]at r;have hv:=r.sS;have hlt:s<a.tmps.size:=by
  rcases dL s a.tmps.size with h|h
  ·exact h
  ·exfalso;rw[bz,oH h]at hv;simp[undef]at hv
 have hy:yielded all a.tmps j=some b:=by
  have h1:a.tmps[s]?=some (.bool b):=by
   rw[bz,cF hlt]at hv;rw[cF hlt];simpa using hv
  simp[yielded,hj,h1]
 by_cases e:b=want
 ·have:=a2Y e κ Θ a w hs;unfold wpList at this⊢;have hw:Region.wanted o (yielded all a.tmps)=true:=by simp[Region.wanted,hg,hy,e]
  have hw':Region.wanted {o with guard:=none} (yielded all a.tmps)=true:=rfl;rw[bM hw];rw[bM hw']at this;exact this
 ·have hw:Region.wanted o (yielded all a.tmps)=false:=by simp[Region.wanted,hg,hy,e]
  unfold wpList;rw[hw,b9 (by simp)];refine hno e κ Θ _ w ?_;cases Kk:o.dst with
  |none=>exact hs
  |some t=>exact hs.set (hd t Kk) (.iE [] [] [] .nil) (by simp)
theorem oK.KJ{w:World}{κ:Nat->Option Value}{v:Value}{bs:aP}(h:oK w κ v (.iE []) bs):v=.tuple #[]:=by
 cases h with
 |v h=>cases h with|cell h=>cases h with|pure h=>cases h
 |iE vs ds bs h=>cases h;rfl
theorem Jm{o:Oper}{j s:Nat}{want:Bool}(hg:o.guard=some (j,want))(hj:(all[j]?).bind (·.dst)=some s)(hb:lk st.σ s=.iE [])
 (hd:∀t,o.dst=some t->t<Γ.nt) (hno:AO P Γ all rest Q (st.put o.dst (.iE []))):AO P Γ all (o::rest) Q st:=by
 intro κ Θ a w hs;obtain⟨bs,r,_⟩:=hs.slot s;rw[hb]at r;have hv:=r.KJ;have hy:yielded all a.tmps j=none:=by
  rcases dL s a.tmps.size with hlt|hlt
  ·have h1:a.tmps[s]?=some (.tuple #[]):=by
    rw[bz,cF hlt]at hv;rw[cF hlt];simpa using hv
   simp[yielded,hj,h1]
  ·simp[yielded,hj,oH hlt]
 have hw:Region.wanted o (yielded all a.tmps)=false:=by simp[Region.wanted,hg,hy]
 unfold wpList;rw[hw,b9 (by simp)];refine hno κ Θ _ w ?_;cases Kk:o.dst with
 |none=>exact hs
 |some t=>exact hs.set (hd t Kk) (.iE [] [] [] .nil) (by simp)
theorem gZ.alloc(hs:cz Γ st κ Θ a w)(o:Obj){tag:Nat}(h2:2<=tag):gZ w (w.alloc o) Θ (fun b=>if b=w.heap.size then tag else Θ b) tag:=by
 refine⟨h2,rfl,rfl,rfl,by simp,fun b hb _=>Below.heap_alloc w o b hb,fun b hb _=>?_,fun b hb=>?_⟩
 ·rw[b9 (by omega)]
 ·by_cases e:b=w.heap.size
  ·subst e;simp
  ·rw[b9 e]at hb;have:=hs.own b hb;simp;omega
theorem cz.TC(hs:cz Γ st κ Θ a w){cs:Array Value}{ds:aK}{bs:aP}(T:TypeId)(hr:eN w κ cs.toList ds bs)(hz:∀b∈bs,Θ b=0):
 cz Γ ⟨st.σ,st.H++[.box ds]⟩ (uP κ st.H.length (some (.pointer (some ⟨w.heap.size,0,none⟩)))) (fun b=>if b=w.heap.size then st.H.length+2 else Θ b) a (w.alloc (.cells cs T)):=by
 have k:=gZ.alloc hs (.cells cs T) (tag:=st.H.length+2) (by omega);refine hs.push rfl k (hs.vS (fun b hb=>by by_cases e:b=w.heap.size<;>simp_all)) ?_ rfl;have hn:=tf (hs.mT _ (bH _)) (some (Value.pointer (some ⟨w.heap.size,0,none⟩)));obtain⟨h1,h2⟩:=eN.stay k hn hr hz;exact⟨w.heap.size,cs,T,by simp[uP],heap_alloc_new w _,by simp,bs,h1,h2⟩
theorem XE{o:Oper}{T t:Nat}{x:Operand}{ds:aK}(hop:o.op=.box T x)(hd:o.dst=some t)(hg:o.guard=none)(ht:t<Γ.nt)
 (hc:(st.ev x).cellsOf=some ds) (h:AO P Γ all rest Q ⟨(t,.ptr st.H.length 0)::st.σ,st.H++[.box ds]⟩):AO P Γ all (o::rest) Q st:=by
 intro κ Θ a w hs;obtain⟨bs,r,hz⟩:=hs.ev x;have hcs:=xu hs.lM r hc;have hs':=hs.TC T hcs hz;refine wpList_plain hg fun K hK=>?_
 unfold Oper.wp;have hrun:(execOp a.eval o).run P w=.ok (.value (.pointer (some ⟨w.heap.size,0,none⟩))) (w.alloc (.cells (a.eval x).cells T)):=by
  simp[execOp,hop,Instr.box,newVar,newRow]
 rw[hrun,Oper.upon_value,hd];refine hK _ _ (h _ _ _ _ (hs'.set (t:=t) (d:=.ptr st.H.length 0) (bs:=[]) ht ?_ (by simp)));exact(vR.ptr st.H.length 0 w.heap.size (by simp[uP])).LR
theorem RT{o:Oper}{T t:Nat}{zs:aK}(hop:o.op=.alloc T)(hd:o.dst=some t)(hg:o.guard=none)(ht:t<Γ.nt)
 (hz:tz P T=some zs) (h:AO P Γ all rest Q ⟨(t,.ptr st.H.length 0)::st.σ,st.H++[.box zs]⟩):AO P Γ all (o::rest) Q st:=by
 intro κ Θ a w hs;obtain⟨i,z,hi,uN,hsz,hlen,hone,rfl⟩:=tW hz;have hs':=hs.TC T (cs:=z.cells) (yO z.cells.toList hone) (by simp);refine wpList_plain hg fun K hK=>?_
 unfold Oper.wp;have hrun:(execOp a.eval o).run P w=.ok (.value (.pointer (some ⟨w.heap.size,0,none⟩))) (w.alloc (.cells z.cells T)):=by
  simp[execOp,hop,Instr.alloc,zeroValue,typeInfo,hi,uN,newVar,newRow]
 rw[hrun,Oper.upon_value,hd];refine hK _ _ (h _ _ _ _ (hs'.set (t:=t) (d:=.ptr st.H.length 0) (bs:=[]) ht ?_ (by simp)));exact(vR.ptr st.H.length 0 w.heap.size (by simp[uP])).LR
theorem gZ.setRow(hs:cz Γ st κ Θ a w){g:Nat}{cs:Array Value}{tag:Nat}(h2:2<=tag)(hg:Θ g=tag):gZ w (w.setRow g cs) Θ Θ tag:=by
 refine⟨h2,rfl,rfl,rfl,by simp,fun b _ hne=>setRow_other w g b cs (fun e=>hne (e▸hg)),fun b _ _=>rfl,fun b hb=>?_⟩;simpa using hs.own b hb
theorem C4{T g off:Nat}{v:Value}{cur:Array Value}{e:TypeId}(hg:w.heap[g]?=some (.cells cur e (0,0)))(hsz:v.cells.size=vV P T)(Ge:∃i,P.info? T=some i)
 (hfit:off+v.cells.size<=cur.size) (hone:∀c∈v.cells.toList,c.oneCell'=true):
 (Instr.storeAt T (.pointer (some ⟨g,off,none⟩)) v).run P w=.ok () (w.setRow g (cur.toList.take off++v.cells.toList++cur.toList.drop (off+v.cells.toList.length)).toArray):=by
 have:=run_storeCells_at P g off e v.cells.toList 0 cur w hg (by simpa using hfit) hone;simp only[vE]at this;simp[Instr.storeAt,Instr.sureAddr,storeVar,rN Ge,hsz,this]
def LP(P:Program)(t:TypeId):Bool:=(P.info? t).isSome
theorem KH{o:Oper}{T id off:Nat}{x y:Operand}{cells ds:aK}(hop:o.op=.store T x y)
 (hx:st.ev x=.ptr id off) {ob:Ob} (hH:st.H[id]?=some ob) (wY:ob.QE=some cells) (hc:(st.ev y).cellsOf=some ds) (hT:LP P T=true) (hl:ds.length=vV P T) (hfit:off+ds.length<=cells.length) (hs:cz Γ st κ Θ a w):
 ∃w',(execOp a.eval o).run P w=.ok .skip w'/\cz Γ ⟨st.σ,st.H.set id (ob.re (cells.take off++ds++cells.drop (off+ds.length)))⟩ κ Θ a w':=by
 obtain⟨b1,r1,_⟩:=hs.ev x;obtain⟨b2,r2,Se⟩:=hs.ev y;rw[hx]at r1;obtain⟨g,hk,hv⟩:=r1.xE;obtain⟨g',cs,Tb,hk',US,hΘ,bs,p9,hz⟩:=(hs.ob id _ hH).cs wY;rw[hk]at hk';cases hk';have hcs:=xu hs.lM r2 hc;have hl1:=hcs.length;have zW:=p9.length;have hsz:(a.eval y).cells.size=vV P T:=by rw[<-hl,<-hl1];simp
 have hst:=C4 (P:=P) (T:=T) (off:=off) US hsz (dP.1 hT) (by
  have:(a.eval y).cells.size=ds.length:=by rw[<-hl1];simp
  have h3:cs.size=cells.length:=by rw[<-zW];simp
  omega) hcs.one
 have k:=gZ.setRow hs (g:=g) (cs:=(cs.toList.take off++(a.eval y).cells.toList++cs.toList.drop (off+(a.eval y).cells.toList.length)).toArray) (tag:=id+2) (by omega) hΘ;have hrun:(execOp a.eval o).run P w=.ok .skip (w.setRow g (cs.toList.take off++(a.eval y).cells.toList++cs.toList.drop (off+(a.eval y).cells.toList.length)).toArray):=by
  simp only[execOp,hop,hv];simp[hst]
 refine⟨_,hrun,hs.change k hs.mine (sQ.a0U wY (hs.ob id _ hH) (fun _ h=>h) ?_) (by cases ob<;>rfl)⟩;have e:cells=cells.take off++((cells.drop off).take ds.length++(cells.drop off).drop ds.length):=by rw[cA,cA]
 rw[e]at p9;obtain⟨v1,v2,c1,c2,Ib,rfl,k1,k2⟩:=p9.split;obtain⟨v3,v4,c3,c4,rfl,rfl,k3,k4⟩:=k2.split;have l1:v1.length=off:=by rw[k1.length];simp;omega
 have l3:v3.length=ds.length:=by rw[k3.length];simp;omega
 have e1:cs.toList.take off=v1:=by rw[Ib];exact gU l1
 have e4:cs.toList.drop (off+(a.eval y).cells.toList.length)=v4:=by
  rw[Ib,<-fU,eg l1,hl1];exact eg l3
 have hnew:eN w κ (v1++(a.eval y).cells.toList++v4) (cells.take off++ds++cells.drop (off+ds.length)) ((c1++b2)++c4):=by
  rw[fU]at k4;exact(k1.app hcs).app k4
 have JI:∀b∈((c1++b2)++c4),Θ b=0:=by
  intro b hb;simp only[aU]at hb;rcases hb with(hb|hb)|hb
  ·exact hz b (by simp[hb])
  ·exact Se b hb
  ·exact hz b (by simp[hb])
 obtain⟨h1,h2⟩:=eN.stay k (fun _ _ h=>h) hnew JI;refine⟨g,_,Tb,hk,setRow_heap w g cs _ Tb _ US,hΘ,_,?_,h2⟩;rw[e1,e4]at h1⊢;exact h1
theorem Rg{o:Oper}{T id off:Nat}{x y:Operand}{cells ds:aK}(hop:o.op=.store T x y)(hd:o.dst=none)(hg:o.guard=none)
 (hx:st.ev x=.ptr id off) {ob:Ob} (hH:st.H[id]?=some ob) (wY:ob.QE=some cells) (hc:(st.ev y).cellsOf=some ds) (hT:LP P T=true) (hl:ds.length=vV P T) (hfit:off+ds.length<=cells.length)
 (h:AO P Γ all rest Q ⟨st.σ,st.H.set id (ob.re (cells.take off++ds++cells.drop (off+ds.length)))⟩):AO P Γ all (o::rest) Q st:=by
 intro κ Θ a w hs;obtain⟨w',hrun,hs'⟩:=KH hop hx hH wY hc hT hl hfit hs;refine wpList_plain hg fun K hK=>?_
 unfold Oper.wp;rw[hrun,Oper.upon_skip,hd];exact hK _ _ (h _ _ _ _ hs')
end
def D.Lh:D->Bool
 | .acc _=>false
 | .ptr _ _=>false
 | .op _ _ _ _=>false
 |_=>true
def U3(P:Program)(t:TypeId):Nat:=P.bytesOf t
theorem K6{α:Type}{l:List α}{i:Nat}{x:α}(h:l[i]?=some x):∃p q,l=p++x::q/\p.length=i:=by
 have hlt:=(aD.1 h).1;have hx:=(aD.1 h).2;refine⟨l.take i,l.drop (i+1),?_,by simp;omega⟩;rw[<-hx,yX,cA]
theorem Bm{rows:List aK}{sz i off:Nat}{row ds:aK}(hrl:∀r∈rows,r.length=sz)(hr:rows[i]?=some row)(hfit:off+ds.length<=sz):
 (rows.set i (row.take off++ds++row.drop (off+ds.length))).flatten=rows.flatten.take (i*sz+off)++ds++rows.flatten.drop (i*sz+off+ds.length):=by
 obtain⟨p,q,rfl,rfl⟩:=K6 hr;have hrow:row.length=sz:=hrl row (by simp);have hp:p.flatten.length=p.length*sz:=lR (fun r hr=>hrl r (by simp[hr]));rw[jg _ _ (bH _),lI,List.set_cons_zero];simp only[jQ,dR];rw[<-hp,List.take_length_add_append,nD,List.drop_length_add_append,List.take_append_of_le_length (by omega),List.drop_append_of_le_length (by omega)];simp only[bN]
theorem Iq(z:Array Value)(n:Nat):(madeCells z (n*z.size)).toList=(List.replicate n z.toList).flatten:=by
 induction n with
 |zero=>simp[madeCells]
 |succ n ih=>
  rw[List.replicate_succ',jQ,<-ih];apply mh;intro j;by_cases hz:z.size=0
  ·have:z= #[]:=Array.size_eq_zero_iff.1 hz;subst this;simp[madeCells]
  ·by_cases h1:j<n*z.size
   ·rw[aj (by simpa[madeCells]using h1)];have h2:j<(n+1)*z.size:=by rw[iT];omega
    simp[madeCells,h1,h2]
   ·rw[av (by simpa[madeCells]using h1)];by_cases h2:j<(n+1)*z.size
    ·rw[iT,kP]at h2;have hm:j%z.size=j-n*z.size:=by
      have hmc:=Em z.size n;have e:j=(j-n*z.size)+z.size*n:=by omega
      conv=>lhs;rw[e]
      rw[Nat.add_mul_mod_self_left,Nat.mod_eq_of_lt (by omega)]
     have h3:j-n*z.size<z.size:=by omega
     have h2':j<(n+1)*z.size:=by rw[iT,kP];exact h2
     simp[madeCells,h2',hm,h3]
    ·rw[cD (by simp[madeCells];omega),cD];rw[iT,kP]at h2;simp[madeCells];omega
section
variable{P:Program}{Γ:pG}{Q:Exit->St->Prop}{st:St}{κ:Nat->Option Value}{Θ:Nat->Nat}{a:Act}{w:World}{all:Array Oper}{rest:List Oper}
theorem eN.pure{vs:bY}{ds:aK}{bs:aP}(h:eN w κ vs ds bs)(hp:ds.all D.Lh=true):jR w vs ds bs:=by
 induction ds generalizing vs bs with
 |nil=>cases h;exact .nil
 |cons d ds ih=>
  simp only[dD,aX]at hp;cases h with
  |cons v vs _ _ b1 b2 h1 h2 h3=>
   refine .cons _ _ _ _ _ _ h1 ?_ (ih h3 hp.2);cases h2 with
   |pure h=>exact h
   |acc=>simp[D.Lh]at hp
   |ptr=>simp[D.Lh]at hp
   |op=>simp[D.Lh]at hp
theorem jR.rep{vs:bY}{ds:aK}(h:jR w vs ds [])(m:Nat):jR w (List.replicate m vs).flatten (List.replicate m ds).flatten []:=by
 induction m with
 |zero=>exact .nil
 |succ m ih=>
  simp only[ug,dR];have:=h.app ih;simpa using this
def D.DY(d:D):D:=match d with
 | .nil=>.sl []
 |d=>d
theorem Rd.soft{v:Value}{d:D}{bs:aP}(h:Rd w v d bs):Rd w v d.DY bs:=by
 cases h with
 |nil=>exact .vD
 |any=>exact .any _
 |int _ _ h=>exact .int _ _ h
 |bool=>exact .bool _
 |str _ h=>exact .str _ h
 |val=>exact .val _
 |vD=>exact .vD
 |lN a cap h=>exact .lN a cap h
 |sl b off cap sz rows cs bs h0 h1 h2 h3 h4 h5=>exact .sl b off cap sz rows cs bs h0 h1 h2 h3 h4 h5
 |agg cs ds bs h=>exact .agg cs ds bs h
 |ep b off cs row o bs h0 h4 h5=>exact .ep b off cs row o bs h0 h4 h5
 |Qd=>exact .Qd
 |Qe t u=>exact .Qe t u
theorem jR.soft{vs:bY}{ds:aK}{bs:aP}(h:jR w vs ds bs):jR w vs (ds.map D.DY) bs:=by
 induction ds generalizing vs bs with
 |nil=>cases h;exact .nil
 |cons d ds ih=>cases h with|cons v vs _ _ b1 b2 h1 h2 h3=>exact .cons _ _ _ _ _ _ h1 h2.soft (ih h3)
def D.flat:D->Bool
 | .any=>true
 | .nil=>true
 | .int _ _=>true
 | .bool _=>true
 | .str _=>true
 | .val _=>true
 |_=>false
def Q0(H:bJ)(d:D):Option (D×aP):=match d with
 | .acc m=>(match(H[m]?).bind Ob.Gn with|some (_,rows)=>some (.sl rows,[m])|none=>none)
 | .ptr _ _=>none
 | .op _ _ _ _=>none
 |d=>some (d.DY,[])
def GL(H:bJ):aK->Option (aK×aP)
 | []=>some ([],[])
 |d::ds=>match Q0 H d,GL H ds with|some (e,m),some (es,ms)=>some (e::es,m++ms)|_,_=>none
def Po(H:bJ)(d:D):Bool:=match d with
 | .acc m=>(match(H[m]?).bind Ob.Gn with|some (k,_)=>(match k with| .uq=>true|_=>false)|none=>false)
 |d=>d.flat
def vP(b:Bool):RK:=match b with|true=>.uq|false=>.sh
theorem Ob.Ml(u:Bool)(e:TypeId)(sz:Nat)(rows:List aK):(Ob.row (vP u) e sz rows).Z2=false:=by cases u<;>rfl
theorem Rd.flat{v:Value}{d:D}{bs:aP}(h:Rd w v d bs)(hf:d.flat=true):bs=[]:=by
 cases h<;>first|rfl|simp[D.flat]at hf
theorem Lt{H:bJ}{d e:D}{m:aP}(h:Q0 H d=some (e,m)):
 (∃m0 o k rows,d=.acc m0/\H[m0]?=some o/\o.Gn=some (k,rows)/\e=.sl rows/\m=[m0])\/(d.Lh=true/\(∀i,d≠ .acc i)/\e=d.DY/\m=[]):=by
 cases d with
 |acc m0=>
  simp only[Q0]at h;split at h
  ·rename_i k rows hH;simp only[ah,cK]at h;obtain⟨rfl,rfl⟩:=h;obtain⟨o,hH,ho⟩:=kX.1 hH;exact .inl ⟨m0,o,k,rows,rfl,hH,ho,rfl,rfl⟩
  ·cases h
 |ptr i o=>simp[Q0]at h
 |op i j s o=>simp[Q0]at h
 |_=>simp only[Q0,ah,cK]at h;obtain⟨rfl,rfl⟩:=h;exact .inr ⟨rfl,by simp,rfl,rfl⟩
theorem Lu{H:bJ}:∀ {ds es:aK} {ms:aP},GL H ds=some (es,ms)->∀m∈ms,∃o k rows,H[m]?=some o/\o.Gn=some (k,rows):=by
 intro ds
 induction ds with
 |nil=>intro es ms h;simp only[GL,ah,cK]at h;obtain⟨rfl,rfl⟩:=h;simp
 |cons d ds ih=>
  intro es ms h;simp only[GL]at h;split at h
  ·rename_i e m es' ms' h1 h2;simp only[ah,cK]at h;obtain⟨rfl,rfl⟩:=h;intro x hx;rcases aU.1 hx with hx|hx
   ·rcases Lt h1 with⟨m0,o,k,cm,rfl,hH,hk,rfl,rfl⟩|⟨_,_,_,rfl⟩
    ·simp at hx;subst hx;exact⟨o,k,_,hH,hk⟩
    ·simp at hx
   ·exact ih h2 x hx
  ·cases h
theorem NV{H:bJ}{ρ:Nat->Nat}:∀ {ds es:aK} {ms:aP} {vs:bY} {b0:aP},GL H ds=some (es,ms)->ms.Nodup->eN w κ vs ds b0->(∀b∈b0,Θ b=0)->
 (∀m∈ms,∀o k rows,H[m]?=some o->o.Gn=some (k,rows)->ve κ Θ ρ w m k rows)->
 ∃bs,jR w vs es bs/\(∀b∈bs,Θ b=0)/\(ds.all (Po H)=true->bs.Nodup/\∀b∈bs,∃m∈ms,ρ b=m+1):=by
 intro ds
 induction ds with
 |nil=>
  intro es ms vs b0 h _ hr _ _;simp only[GL,ah,cK]at h;obtain⟨rfl,rfl⟩:=h;cases hr;exact⟨[],.nil,by simp,by simp⟩
 |cons d ds ih=>
  intro es ms vs b0 h hnd hr hz hm;simp only[GL]at h;split at h
  ·rename_i e m es' ms' h1 h2;simp only[ah,cK]at h;obtain⟨rfl,rfl⟩:=h;obtain⟨n1,n2,n3⟩:=bA.1 hnd;cases hr with
   |cons v vs _ _ b1 b2 hv hc hcs=>
    obtain⟨UQ,q1,q2,q3⟩:=ih h2 n2 hcs (fun b hb=>hz b (by simp[hb])) (fun x hx=>hm x (by simp[hx]));have one:∃WL,Rd w v e WL/\(∀b∈WL,Θ b=0)/\(Po H d=true->WL.Nodup/\∀b∈WL,∃x∈m,ρ b=x+1):=by
     rcases Lt h1 with⟨m0,o,k,cm,rfl,hH,hk,rfl,rfl⟩|⟨hp,hna,rfl,rfl⟩
     ·obtain⟨v',bs,r1,r2,r3,r4⟩:=hm m0 (by simp) o k cm hH hk;cases hc with
      |pure hc=>cases hc
      |acc _ _ hkv=>
       rw[hkv]at r1;cases r1;refine⟨bs,r2,r3,fun hq=>?_⟩;simp only[Po,hH,aA,hk]at hq;split at hq
       ·obtain⟨r5,r6⟩:=r4 rfl;exact⟨r5,fun b hb=>⟨m0,by simp,r6 b hb⟩⟩
       ·cases hq
     ·have hrd:Rd w v d b1:=by
       cases hc with
       |pure hc=>exact hc
       |acc i _ _=>exact absurd rfl (hna i)
       |ptr i o _ _=>simp[D.Lh]at hp
       |op i j s o _ _ _ _ _=>simp[D.Lh]at hp
      refine⟨b1,hrd.soft,fun b hb=>hz b (by simp[hb]),fun hq=>?_⟩;have hf:d.flat=true:=by
       unfold Po at hq;split at hq
       ·exact absurd rfl (hna _)
       ·exact hq
      rw[hrd.flat hf];exact⟨by simp,by simp⟩
    obtain⟨WL,p1,p2,p3⟩:=one;refine⟨WL++UQ,.cons _ _ _ _ _ _ hv p1 q1,fun b hb=>?_,fun hq=>?_⟩
    ·rcases aU.1 hb with hb|hb
     ·exact p2 b hb
     ·exact q2 b hb
    ·simp only[dD,aX]at hq;obtain⟨p4,p5⟩:=p3 hq.1;obtain⟨q4,q5⟩:=q3 hq.2;refine⟨bA.2 ⟨p4,q4,fun x hx y hy exy=>?_⟩,fun b hb=>?_⟩
     ·subst exy;obtain⟨m1,hm1,e1⟩:=p5 x hx;obtain⟨m2,hm2,e2⟩:=q5 x hy;exact n3 m1 hm1 m2 hm2 (by omega)
     ·rcases aU.1 hb with hb|hb
      ·obtain⟨x,hx,ex⟩:=p5 b hb;exact⟨x,by simp[hx],ex⟩
      ·obtain⟨x,hx,ex⟩:=q5 b hb;exact⟨x,by simp[hx],ex⟩
  ·cases h
theorem cz.put(hs:cz Γ st κ Θ a w){H':bJ}{κ':Nat->Option Value}{Θ' ρ:Nat->Nat}{w':World}{id:Nat}{o:Ob}(ms:aP)
 (key:∀(j:Nat) x,H'[j]?=some x->(j=id/\x=o)\/(j≠id/\st.H[j]?=some x)) (hn:∀(j:Nat) v,κ j=some v->κ' j=some v)
 (Xd:∀i,H'.length<=i->κ' i=none) (hk1:∀(i:Nat) u,κ' i=some u->u.oneCell'=true) (k:gZ w w' Θ Θ' (id+2)) (hm:∀b,2<=Θ' b->uS Γ b) (ho:sQ w' κ' Θ' id o)
 (hu:vg Γ st.H κ Θ w ρ) (IZ:∀m∈ms,∀x,m≠id->st.H[m]?=some x->x.RD=false)
 (hq:∀e sz rows,o=.row .uq e sz rows->∃v cs bs,κ' id=some v/\w'.ownsRow 0 e sz v rows.length cs/\jR w' cs rows.flatten bs/\bs.Nodup/\∀b∈bs,ρ b=id+1\/∃m∈ms,ρ b=m+1)
 (hmv:o.Z2=false:=by first|rfl|exact Ob.Ml _ _ _ _):
 cz Γ ⟨st.σ,H'⟩ κ' Θ' a w':=by
 have q9:=hs.lG k hn hu;let ρ':Nat->Nat:=fun b=>if ms.any (fun m=>ρ b==m+1)then id+1 else ρ b
 have a2c:∀b,ρ' b≠0->ρ b≠0:=by
  intro b hb h0;simp only[ρ',h0]at hb;split at hb
  ·rename_i h;obtain⟨m,_,hm⟩:=cW.1 h;simp at hm
  ·exact hb rfl
 refine hs.step k hm hn Xd hk1 ?_ ⟨ρ',fun b hb=>q9.1 b (a2c b hb),?_,?_⟩
 ·intro j x hj;rcases key j x hj with⟨rfl,rfl⟩|⟨h1,h2⟩
  ·exact .inr (.inr ho)
  ·exact .inr (.inl ⟨by omega,h2⟩)
 ·intro j e sz rows hj;rcases key j _ hj with⟨rfl,ho'⟩|⟨h1,h2⟩
  ·obtain⟨v,cs,bs,q1,q2,q3,q4,q5⟩:=hq e sz rows ho'.symm;refine⟨v,cs,bs,q1,q2,q3,q4,fun b hb=>?_⟩;simp only[ρ'];split
   ·rfl
   ·rename_i hno;rcases q5 b hb with h|⟨m,hm1,hm2⟩
    ·exact h
    ·exact absurd (cW.2 ⟨m,hm1,by simp[hm2]⟩) hno
  ·obtain⟨v,cs,bs,q1,q2,q3,q4,q5⟩:=q9.2.1 j e sz rows (by omega) h2;refine⟨v,cs,bs,q1,q2,q3,q4,fun b hb=>?_⟩;simp only[ρ'];rw[b9]
   ·exact q5 b hb
   ·intro h;obtain⟨m,hm1,hm2⟩:=cW.1 h;simp only[q5 b hb,cR]at hm2;have:j=m:=by omega
    subst this;have:=IZ j hm1 _ h1 h2;simp[Ob.RD]at this
 ·intro j x hj;rcases key j _ hj with⟨rfl,rfl⟩|⟨h1,h2⟩
  ·exact GJ.sZ hmv
  ·by_cases hx:x.RD=false
   ·exact GJ.plain hx
   ·refine(q9.2.2 j x (by omega) h2).re fun b hb=>?_
    simp only[ρ'];rw[b9]
    ·exact hb
    ·intro h;obtain⟨m,hm1,hm2⟩:=cW.1 h;simp only[hb,cR]at hm2;have:j=m:=by omega
     subst this;exact hx (IZ j hm1 _ h1 h2)
theorem yQ{H:bJ}{o:Ob}:∀(j:Nat) x,(H++[o])[j]?=some x->(j=H.length/\x=o)\/(j≠H.length/\H[j]?=some x):=by
 intro j x hj;by_cases hlt:j<H.length
 ·rw[aj hlt]at hj;exact .inr ⟨by omega,hj⟩
 ·have hj':=(aD.1 hj).1;simp only[aM,aG,b8]at hj';have e:j=H.length:=by omega
  subst e;rw[av (bH _)]at hj;simp at hj;exact .inl ⟨rfl,hj.symm⟩
theorem vQ{H:bJ}{o:Ob}{id:Nat}:∀(j:Nat) x,(H.set id o)[j]?=some x->(j=id/\x=o)\/(j≠id/\H[j]?=some x):=by
 intro j x hj;by_cases e:id=j
 ·subst e;have hlt:id<H.length:=by
   have:=(aD.1 hj).1;simpa using this
  rw[cx hlt]at hj;cases hj;exact .inl ⟨rfl,rfl⟩
 ·rw[bw e]at hj;exact .inr ⟨fun h=>e h.symm,hj⟩
theorem cz.newRow(hs:cz Γ st κ Θ a w){ρ:Nat->Nat}(hu:vg Γ st.H κ Θ w ρ){u:Bool}{ms:aP}{e sz cap:Nat}{rows:List aK}{bs:aP}(cur:Array Value)(hsz:0<sz)(hrl:∀r∈rows,r.length=sz)
 (IW:cur.size=cap*sz) (hn:rows.length<=cap) (hcap:cap<=maxLen) (hr:jR w (cur.toList.take (rows.length*sz)) rows.flatten bs) (hz:∀b∈bs,Θ b=0)
 (IZ:∀m∈ms,∀x,st.H[m]?=some x->x.RD=false) (hq:u=true->bs.Nodup/\∀b∈bs,∃m∈ms,ρ b=m+1):
 cz Γ ⟨st.σ,st.H++[.row (vP u) e sz rows]⟩ (uP κ st.H.length (some (.slice (some ⟨w.heap.size,0,none⟩) rows.length cap))) (fun b=>if b=w.heap.size then st.H.length+2 else Θ b) a (w.alloc (.cells cur e)):=by
 have k:=gZ.alloc hs (.cells cur e) (tag:=st.H.length+2) (by omega);obtain⟨h1,h2⟩:=jR.over k hr hz;have hlen:(cur.toList.take (rows.length*sz)).length=rows.length*sz:=by
  have:rows.length*sz<=cap*sz:=dO _ hn;have h3:cur.toList.length=cap*sz:=by rw[<-IW];simp
  rw[cG,h3,eD this]
 have hown:(w.alloc (.cells cur e)).ownsRow 0 e sz (.slice (some ⟨w.heap.size,0,none⟩) rows.length cap) rows.length (cur.toList.take (rows.length*sz)):=
  ⟨hlen,.inr ⟨w.heap.size,cap,cur,rfl,by omega,heap_alloc_new w _,hn,hcap,IW,rfl⟩⟩
 refine hs.put ms yQ (tf (hs.mT _ (bH _)) _) ?_ ?_ k (hs.vS (fun b hb=>by by_cases e:b=w.heap.size<;>simp_all)) ?_ hu (fun m hm x _=>IZ m hm x) ?_
 ·intro i hi;simp only[aM,aG,b8]at hi;unfold uP;rw[b9 (by omega)];exact hs.mT i (by omega)
 ·intro i x hx;unfold uP at hx;split at hx
  ·cases hx;rfl
  ·exact hs.lM i x hx
 ·refine⟨hsz,hrl,_,_,bs,by simp[uP],hown,h1,?_,?_⟩
  ·intro g hg;simp only[Value.ownBlock,ah]at hg;subst hg;simp
  ·cases u<;>exact h2
 ·intro e' sz' cm he;cases u with
  |false=>simp[vP]at he
  |true=>
   simp only[vP,Ob.row.injEq,nU]at he;obtain⟨rfl,rfl,rfl⟩:=he;obtain⟨q1,q2⟩:=hq rfl;exact⟨_,_,bs,by simp[uP],hown,h1,q1,fun b hb=>.inr (q2 b hb)⟩
theorem KR{o:Oper}{T e sz t:Nat}{x y:Operand}{k k':IntKind}{n:Int}{zs:aK}(hop:o.op=.makeSlice T x y)(hd:o.dst=some t)(hg:o.guard=none)(ht:t<Γ.nt)
 (hT:CL P T=some (e,sz)) (hz:tz P e=some zs) (hsz:0<sz) (hx:st.ev x=.int k n) (hy:st.ev y=.int k' n) (h0:0<=n) (hroom:U3 P e*n.toNat<=281474976710656) (xR:n.toNat<=4611686018427387904)
 (h:AO P Γ all rest Q ⟨(t,.acc st.H.length)::st.σ,st.H++[.row .uq e sz (List.replicate n.toNat (zs.map D.DY))]⟩):AO P Γ all (o::rest) Q st:=by
 intro κ Θ a w hs;obtain⟨b1,r1,_⟩:=hs.ev x;obtain⟨b2,r2,_⟩:=hs.ev y;rw[hx]at r1;rw[hy]at r2;have e1:=r1.nR;have e2:=r2.nR;obtain⟨hu,_,Fh⟩:=lg hT;obtain⟨i,z,hi,uN,Ko,hlen,hone,rfl⟩:=tW hz;have zF:i.size=sz:=by rw[<-Fh];simp[vV,Program.cellsOf,hi]
 have hby:i.bytes=U3 P e:=by simp[U3,Program.bytesOf,hi]
 obtain⟨m,rfl⟩:=ru h0;simp only[sL]at hroom xR h;have hrun:=run_make (P:=P) w T e i z hu hi uN k k' m m (by omega) (by omega) (by rw[hby];have:=Int.ofNat_le.2 hroom;rw[Int.natCast_mul]at this;exact this) (by omega);simp only[sL]at hrun;rw[<-Ko]at hrun;have SN:=Iq z.cells m;obtain⟨ρ,huq⟩:=hs.qA;have hs':=hs.newRow huq (u:=true) (ms:=[]) (e:=e) (sz:=sz) (cap:=m) (rows:=List.replicate m ((z.cells.toList.map D.OM).map D.DY)) (bs:=[]) (madeCells z.cells (m*z.cells.size)) hsz
  (by intro r hr;rw[xG hr];simp[Ko,zF]) (by rw[size_madeCells,Ko,zF]) (by simp) (by unfold maxLen;omega)
  (by
   rw[zf,oI (by simp[size_madeCells,Ko,zF]),SN];have hcell:=(yO (w:=w) (κ:=κ) z.cells.toList hone).pure (by
    rw[Ek,au];intro c _;simp only[Function.comp];unfold D.OM;split<;>(try split)<;>rfl)
   exact hcell.soft.rep m) (by simp) (by simp) (by simp)
 refine wpList_plain hg fun K hK=>?_
 unfold Oper.wp;have MU:(execOp a.eval o).run P w=.ok (.value (.slice (some ⟨w.heap.size,0,none⟩) m m)) (w.alloc (.cells (madeCells z.cells (m*z.cells.size)) e)):=by
  simp only[execOp,hop,e1,e2];simp[hrun]
 rw[MU,Oper.upon_value,hd];simp only[zf]at hs';refine hK _ _ (h _ _ _ _ (hs'.set (t:=t) (d:=.acc st.H.length) (bs:=[]) ht ?_ (by simp)));exact(vR.acc st.H.length _ (by simp[uP])).LR
def pW(len sz:Nat):List (Nat×Nat):=(List.range len).map fun i=>(i*sz,sz)
def chunk(sz:Nat):Nat->aK->List aK
 |0,_=>[]
 |n+1,ds=>ds.take sz::chunk sz n (ds.drop sz)
theorem Ao(sz:Nat):∀(n:Nat) (ds:aK),ds.length=n*sz->(chunk sz n ds).length=n/\(chunk sz n ds).flatten=ds/\∀r∈chunk sz n ds,r.length=sz:=by
 intro n
 induction n with
 |zero=>intro ds h;simp at h;subst h;simp[chunk]
 |succ n ih=>
  intro ds h;rw[iT,kP]at h;obtain⟨h1,h2,h3⟩:=ih (ds.drop sz) (by rw[tN];omega);refine⟨by simp[chunk,h1],by simp[chunk,h2],fun r hr=>?_⟩;rcases bG.1 hr with rfl|hr
  ·rw[cG];omega
  ·exact h3 r hr
theorem Np{len sz:Nat}:∀(parts:List (Nat×Value)) (cs arr:Array Value),Instr.fill ((pW len sz).toArray[·]?) cs parts=some arr->Instr.fill (fun i=>some (i*sz,sz)) cs parts=some arr:=by
 intro parts
 induction parts with
 |nil=>intro cs arr h;exact h
 |cons p parts ih=>
  intro cs arr h;obtain⟨i,v⟩:=p;simp only[Instr.fill]at h⊢;split at h
  ·cases h
  ·rename_i off size hp;have e:(off,size)=(i*sz,sz):=by
    simp only[pW,iB,bg]at hp;cases hr:(List.range len)[i]? with
    |none=>simp[hr]at hp
    |some j=>
     have hj:=(aD.1 hr)
     simp only[hr,cJ,ah]at hp;have:j=i:=by have:=hj.2;simp at this;omega
     rw[<-hp,this]
   cases e;split at h
   ·cases h
   ·rename_i hc;rw[b9 hc];exact ih _ _ h
theorem L9{places:List (Nat×Nat)}:∀(ps:List (Nat×D)) (cells ds:aK),uJ places cells ps=some ds->ds.length=cells.length:=by
 intro ps
 induction ps with
 |nil=>intro cells ds h;simp only[uJ,ah]at h;rw[h]
 |cons p ps ih=>
  intro cells ds h;obtain⟨i,d⟩:=p;simp only[uJ]at h;split at h
  ·split at h
   ·rename_i hc;rw[ih _ _ h];simp;omega
   ·cases h
  ·cases h
theorem vn{o:Oper}{T e sz len:Nat}{parts:Array (Nat×Operand)}{zs ds:aK}(hop:o.op=.buildSlice T len parts)
 (hT:CL P T=some (e,sz)) (hz:tz P e=some zs) (hsz:0<sz) (hsmall:len*sz<=16777216)
 (hf:uJ (pW len sz) (List.replicate len zs).flatten (parts.toList.map fun p=>(p.1,st.ev p.2))=some ds) (hs:cz Γ st κ Θ a w):
 ∃(arr:Array Value) (b0:aP),(execOp a.eval o).run P w=.ok (.value (.slice (some ⟨w.heap.size,0,none⟩) len len)) (w.alloc (.cells arr e))/\eN w κ arr.toList ds b0/\(∀b∈b0,Θ b=0)/\arr.size=len*sz/\ds.length=len*sz:=by
 obtain⟨hu,_,Fh⟩:=lg hT;obtain⟨i,z,hi,uN,Ko,hlen,hone,rfl⟩:=tW hz;have zF:i.size=sz:=by rw[<-Fh];simp[vV,Program.cellsOf,hi]
 have SN:=Iq z.cells len;have hzero:eN w κ (madeCells z.cells (len*z.cells.size)).toList (List.replicate len (z.cells.toList.map D.OM)).flatten []:=by
  rw[SN];have hcell:=(yO (w:=w) (κ:=κ) z.cells.toList hone).pure (by
   rw[Ek,au];intro c _;simp only[Function.comp];unfold D.OM;split<;>(try split)<;>rfl)
  exact eN.zY (hcell.rep len)
 obtain⟨arr,b0,ZZ,JZ,hb0⟩:=PC hs parts.toList _ _ ds [] hzero (by simp) hf;have Nv:=Np _ _ _ ZZ;have hdl:ds.length=len*sz:=by
  rw[L9 _ _ _ hf,lR (sz:=sz) (by intro r hr;rw[xG hr];simp[Ko,zF])];simp
 have hal:arr.size=len*sz:=by have:=JZ.length;simp at this;omega
 refine⟨arr,b0,?_,JZ,hb0,hal,hdl⟩;simp only[execOp,hop];by_cases h0:len*i.size=0
 ·have hl0:len=0:=by
   rw[zF]at h0;rcases Nat.mul_eq_zero.1 h0 with h|h
   ·exact h
   ·omega
  subst hl0;have hma:madeCells z.cells (0*z.cells.size)= #[]:=by simp[madeCells]
  rw[hma]at Nv;have hpe:(parts.map fun(x:Nat×Operand)=>(x.1,a.eval x.2)).toList=parts.toList.map fun p=>(p.1,a.eval p.2):=by simp
  have ZY:=Nv;rw[<-hpe,<-zF]at ZY;simp at ZY;have hr0:Array.range 0= #[]:=rfl;simp[Instr.buildSlice,run_underlying hu,sizeOf,typeInfo,hi,newRow,hr0,ZY]
 ·have hpe:(parts.map fun(x:Nat×Operand)=>(x.1,a.eval x.2)).toList=parts.toList.map fun p=>(p.1,a.eval p.2):=by simp
  have:=run_buildSlice (P:=P) w T e len (parts.map fun(x:Nat×Operand)=>(x.1,a.eval x.2)) arr i z hu hi uN (by rw[zF];omega) h0 (by
   rw[hpe,zF];have e2:(Array.range (len*sz)).map (z.cells[· %z.cells.size]!)=madeCells z.cells (len*z.cells.size):=by unfold madeCells;rw[Ko,zF]
   rw[e2];exact Nv)
  simp[this]
theorem JP{o:Oper}{T e sz len t:Nat}{parts:Array (Nat×Operand)}{zs ds es:aK}{ms:aP}(hop:o.op=.buildSlice T len parts)(hd:o.dst=some t)(hg:o.guard=none)(ht:t<Γ.nt)
 (hT:CL P T=some (e,sz)) (hz:tz P e=some zs) (hsz:0<sz) (hsmall:len*sz<=16777216)
 (hf:uJ (pW len sz) (List.replicate len zs).flatten (parts.toList.map fun p=>(p.1,st.ev p.2))=some ds) (habs:GL st.H ds=some (es,ms)) (hnd:ms.Nodup)
 (h:AO P Γ all rest Q ⟨(t,.acc st.H.length)::st.σ,kill st.H ms++[.row (vP (ds.all (Po st.H))) e sz (chunk sz len es)]⟩):AO P Γ all (o::rest) Q st:=by
 intro κ Θ a w hs;obtain⟨arr,b0,hrun,JZ,hb0,hal,hdl⟩:=vn hop hT hz hsz hsmall hf hs;obtain⟨ρ,huq⟩:=hs.qA;obtain⟨Θ1,ρ1,hs1,hu1,hm1,Jf,O4⟩:=cz.Mi ms hs huq hnd (Lu habs);obtain⟨bs,q1,q2,q3⟩:=NV (H:=st.H) (ρ:=ρ1) habs hnd JZ (fun b hb=>Jf b (hb0 b hb)) hm1;have hel:es.length=len*sz:=by rw[<-q1.length,JZ.length,hdl]
 obtain⟨c1,c2,c3⟩:=Ao sz len es hel;have hs':=hs1.newRow hu1 (u:=ds.all (Po st.H)) (ms:=ms) (e:=e) (sz:=sz) (cap:=len) (rows:=chunk sz len es) (bs:=bs) arr hsz c3 hal (by rw[c1];exact bH _)
  (by unfold maxLen;have:len*1<=len*sz:=dw _ hsz;omega) (by rw[c1,c2,oI (by simp[hal])];exact q1) q2
  (by
   intro m hm x hH;rcases lF hH with h|⟨h,_⟩
   ·subst h;rfl
   ·exact absurd hm h) q3
 refine wpList_plain hg fun K hK=>?_
 unfold Oper.wp;rw[hrun,Oper.upon_value,hd];rw[c1,eX]at hs';refine hK _ _ (h _ _ _ _ (hs'.set (t:=t) (d:=.acc st.H.length) (bs:=[]) ht ?_ (by simp)));exact(vR.acc st.H.length _ (by simp[uP])).LR
end
end Go.Cx
namespace Go.Cx
open Go.RowKit
section
variable{P:Program}{Γ:pG}{Q:Exit->St->Prop}{st:St}{κ:Nat->Option Value}{Θ:Nat->Nat}{a:Act}{w:World}{all:Array Oper}{rest:List Oper}
theorem He(w:World)(t ty e:TypeId)(i:TypeInfo)(ht:P.underlying t=some (.slice e))(hi:P.info? e=some i)(b:Option Addr)(n cap:Nat)(hn:n<=cap):
 (Builtin.append_ #[t,t] ty #[.slice b n cap,.slice none 0 0]).run P w=.ok (.slice b n cap) w:=by
 cases b<;>simp[Builtin.append_,run_underlying ht,sizeOf,typeInfo,hi,Builtin.lenOf,Builtin.firstCells,hn,storeCells]
structure Ri(w:World)(Θ ρ:Nat->Nat)(e sz:Nat)(v:Value)(rows:List (List D))(u1:Bool)(i1:Nat)(bs:List Nat)(cs:List Value):Prop where
 rl:∀r∈rows,r.length=sz
 own:w.ownsRow 0 e sz v rows.length cs
 rd:jR w cs rows.flatten bs
 zero:∀b∈bs,Θ b=0
 top:∀g,v.ownBlock=some g->Θ g=i1+2
 uq:u1=true->bs.Nodup/\∀b∈bs,ρ b=i1+1
structure Px(w:World)(Θ ρ:Nat->Nat)(sz:Nat)(u:Value)(rows:List (List D))(u2:Bool)(i2:Nat)(bs:List Nat)(cs:List Value):Prop where
 rl:∀r∈rows,r.length=sz
 at_:(u=.slice none 0 0/\rows=[])\/∃ad c,u=.slice (some ad) rows.length c/\∀j x,cs[j]?=some x->w.cell? (ad.add j)=some x
 rd:jR w cs rows.flatten bs
 zero:∀b∈bs,Θ b=0
 uq:u2=true->bs.Nodup/\∀b∈bs,ρ b=i2+1
theorem NY{T e sz i1 i2:Nat}{v u:Value}{rows eY:List aK}{u1 u2:Bool}{b1 b2:aP}{c1 c2:bY}{ρ:Nat->Nat}{zs:aK}{ty:TypeId}(hT:CL P T=some (e,sz))(hz:tz P e=some zs)(hsz:0<sz)
 (hS:Ri w Θ ρ e sz v rows u1 i1 b1 c1) (hX:Px w Θ ρ sz u eY u2 i2 b2 c2) (h63:rows.length+eY.length<=maxLen) (hby:(rows.length+eY.length)*U3 P e<=140737488355328):
 ∃v' w',(Builtin.append_ #[T,T] ty #[v,u]).run P w=.ok v' w'/\w'.ownsRow 0 e sz v' (rows++eY).length (c1++c2)/\w.grownBy w' v.ownBlock/\(v'.ownBlock=v.ownBlock\/v'.ownBlock=some w.heap.size)/\
  jR w (c1++c2) (rows++eY).flatten (b1++b2):=by
 obtain⟨hu,_,Fh⟩:=lg hT;obtain⟨i,z,hi,uN,Ko,hlen,hone,rfl⟩:=tW hz;have zF:i.size=sz:=by rw[<-Fh];simp[vV,Program.cellsOf,hi]
 have hib:i.bytes=U3 P e:=by simp[U3,Program.bytesOf,hi]
 have hr:jR w (c1++c2) (rows++eY).flatten (b1++b2):=by rw[jQ];exact hS.rd.app hX.rd
 have ZT:c2.length=eY.length*sz:=by rw[hX.rd.length,lR hX.rl]
 rcases hX.at_ with⟨rfl,rfl⟩|⟨ad,c,rfl,hcell⟩
 ·have hc:c2=[]:=cS (by simpa using ZT);subst hc;have hv:∃b n cap,v=.slice b n cap/\n<=cap:=by
   rcases hS.own.2 with⟨rfl,_⟩|⟨g,cap,cur,rfl,_,_,hn,_⟩
   ·exact⟨_,_,_,rfl,bH _⟩
   ·exact⟨_,_,_,rfl,hn⟩
  obtain⟨b,n,cap,rfl,hn⟩:=hv;exact⟨_,w,He w T ty e i hu hi b n cap hn,by simpa using hS.own,⟨rfl,rfl,rfl,bH _,fun _ _ _=>rfl⟩,.inl rfl,hr⟩
 ·obtain⟨v',w',q1,q2,q3,_,q5⟩:=run_append_own_at (P:=P) w 0 T ty e i z sz (U3 P e) hu hi uN zF hib (by rw[Ko,zF]) hsz v rows.length c1 hS.own ad eY.length c c2 ZT hcell hX.rd.one h63 hby (Af _);exact⟨v',w',q1,by simpa using q2,q3,q5,hr⟩
theorem Pt{o:Oper}{T e sz t:Nat}{s x:Operand}{rows eY:List aK}{zs:aK}{u:Bool}{ks:aP}(hop:o.op=.call {callee:=.builtin .append,args:= #[s,x],argTypes:= #[T,T]})
 (hd:o.dst=some t) (hg:o.guard=none) (ht:t<Γ.nt) (hT:CL P T=some (e,sz)) (hz:tz P e=some zs) (hsz:0<sz)
 (h63:rows.length+eY.length<=maxLen) (hby:(rows.length+eY.length)*U3 P e<=140737488355328)
 (hin:∀κ Θ a w ρ,cz Γ st κ Θ a w->vg Γ st.H κ Θ w ρ->∃u1 u2 i1 i2 b1 b2 c1 c2,Ri w Θ ρ e sz (a.eval s) rows u1 i1 b1 c1/\Px w Θ ρ sz (a.eval x) eY u2 i2 b2 c2/\
  (i1∈ks\/i1=st.H.length)/\(u=true->u1=true/\u2=true/\(b2=[]\/(i2∈ks/\i1≠i2))))
 (h:AO P Γ all rest Q ⟨(t,.acc st.H.length)::st.σ,kill st.H ks++[.row (vP u) e sz (rows++eY)]⟩):AO P Γ all (o::rest) Q st:=by
 intro κ Θ a w hs;obtain⟨ρ,hu⟩:=hs.qA;obtain⟨u1,u2,i1,i2,b1,b2,c1,c2,hS,hX,hi1,hq⟩:=hin κ Θ a w ρ hs hu;obtain⟨v',w',hrun,hown,Yz,XW,hrd⟩:=NY (P:=P) (ty:=o.type) hT hz hsz hS hX h63 hby;refine wpList_plain hg fun K hK=>?_
 have MU:(execOp a.eval o).run P w=.ok (.value v') w':=by
  simp only[execOp,hop,resolve,invoke,builtin,Sem.run_bind,Sem.run_pure,Result.andThen_ok,lS,bI,bP,hrun]
 unfold Oper.wp;rw[MU,Oper.upon_value,hd];let id:=st.H.length
 let Θ':Nat->Nat:=fun b=>if some b=v'.ownBlock then id+2 else Θ b
 have UW:∀g,v'.ownBlock=some g->Θ g=i1+2\/g=w.heap.size:=by
  intro g QY;rcases XW with h|h
  ·exact .inl (hS.top g (h▸QY))
  ·rw[h]at QY;cases QY;exact .inr rfl
 have hnew:Θ w.heap.size=0:=by
  cases h0:Θ w.heap.size with
  |zero=>rfl
  |succ n=>exact absurd (hs.own w.heap.size (by omega)) (by omega)
 have k:gZ w w' Θ Θ' (i1+2):=by
  refine⟨by omega,Yz.os,Yz.tape,Yz.output,Yz.size,fun b hb hne=>Yz.block b hb (fun e=>hne (hS.top b e.symm)),fun b hb hne=>?_,fun b hb=>?_⟩
  ·simp only[Θ'];rw[b9];intro e;rcases UW b e.symm with h|h
   ·exact hne h
   ·omega
  ·simp only[Θ']at hb;split at hb
   ·rename_i e;exact(hown.lt b e.symm).2
   ·exact dG (hs.own b hb) Yz.size
 have hm:∀b,2<=Θ' b->uS Γ b:=by
  intro b hb;simp only[Θ']at hb;split at hb
  ·rename_i e;rcases UW b e.symm with h|h
   ·exact hs.mine b (by omega)
   ·exact .inl (by rw[h];exact hs.base)
  ·exact hs.mine b hb
 have hn:=tf (hs.mT id (bH _)) (some v');have hv1:v'.oneCell'=true:=by
  rcases hown.2 with⟨rfl,_⟩|⟨g,cap,cur,rfl,_⟩<;>rfl
 have uN:∀b∈b1++b2,Θ b=0:=by
  intro b hb;rcases aU.1 hb with hb|hb
  ·exact hS.zero b hb
  ·exact hX.zero b hb
 obtain⟨Ia,JI⟩:=jR.over k hrd uN;have hrl:∀r∈rows++eY,r.length=sz:=by
  intro r hr;rcases aU.1 hr with hr|hr
  ·exact hS.rl r hr
  ·exact hX.rl r hr
 have Bs:∀g,v'.ownBlock=some g->Θ' g=id+2:=fun g QY=>by simp only[Θ'];rw[bM QY.symm]
 have key:∀(j:Nat) y,(kill st.H ks++[.row (vP u) e sz (rows++eY)])[j]?=some y->(j=id/\y=.row (vP u) e sz (rows++eY))\/(j≠id/\(y=.gone\/(j∉ks/\st.H[j]?=some y))):=by
  intro j y hj;rcases yQ j y hj with⟨h1,h2⟩|⟨h1,h2⟩
  ·rw[eX]at h1;exact .inl ⟨h1,h2⟩
  ·rw[eX]at h1;exact .inr ⟨h1,lF h2⟩
 have hne:∀(j:Nat) y,j∉ks->st.H[j]?=some y->j+2≠i1+2:=by
  intro j y hj hy;have:=(aD.1 hy).1;rcases hi1 with h|h
  ·intro e;exact hj (by
    have:j=i1:=by omega
    rw[this];exact h)
  ·omega
 have q9:=hs.lG k hn hu;let ρ':Nat->Nat:=fun b=>if u=true/\(b∈b1\/b∈b2)then id+1 else ρ b
 have hold:∀(j:Nat) y,j∉ks->st.H[j]?=some y->∀b,ρ b=j+1->ρ' b=j+1:=by
  intro j y hjk hy b hb;simp only[ρ'];rw[b9]
  ·exact hb
  ·rintro⟨sr,hmem⟩;obtain⟨p1,p2,p3⟩:=hq sr;rcases hmem with h|h
   ·have:=(hS.uq p1).2 b h;exact hne j _ hjk hy (by omega)
   ·have:=(hX.uq p2).2 b h;rcases p3 with h0|⟨h0,_⟩
    ·rw[h0]at h;cases h
    ·have:j=i2:=by omega
     subst this;exact hjk h0
 have hU:vg Γ (kill st.H ks++[.row (vP u) e sz (rows++eY)]) (uP κ id (some v')) Θ' w' ρ':=by
  refine⟨fun b hb=>?_,fun j e' sz' cm hj=>?_,fun j x hj=>?_⟩
  ·simp only[ρ']at hb;split at hb
   ·rename_i hc;obtain⟨sr,hmem⟩:=hc;obtain⟨q1,q2,q3⟩:=hq sr;rcases hmem with h|h
    ·exact q9.1 b (by rw[(hS.uq q1).2 b h];omega)
    ·exact q9.1 b (by rw[(hX.uq q2).2 b h];omega)
   ·exact q9.1 b hb
  ·rcases key j _ hj with⟨rfl,hy⟩|⟨_,hy|⟨hjk,hy⟩⟩
   ·cases sr:u with
    |false=>rw[sr]at hy;simp[vP]at hy
    |true=>
     rw[sr]at hy;simp only[vP,Ob.row.injEq,nU]at hy;obtain⟨rfl,rfl,rfl⟩:=hy;obtain⟨q1,q2,q3⟩:=hq sr;refine⟨v',c1++c2,b1++b2,jN _ _ _,hown,Ia,?_,fun b hb=>?_⟩
     ·obtain⟨n1,r1⟩:=hS.uq q1;obtain⟨n2,r2⟩:=hX.uq q2;refine bA.2 ⟨n1,n2,fun y hy z hz hyz=>?_⟩;subst hyz;rcases q3 with h|⟨_,h⟩
      ·rw[h]at hz;cases hz
      ·have:=r1 y hy;have:=r2 y hz;omega
     ·simp only[ρ'];rw[bM ⟨sr,aU.1 hb⟩]
   ·cases hy
   ·obtain⟨v2,cs,bs,q1,q2,q3,q4,q5⟩:=q9.2.1 j e' sz' cm (hne j _ hjk hy) hy;exact⟨v2,cs,bs,q1,q2,q3,q4,fun b hb=>hold j _ hjk hy b (q5 b hb)⟩
  ·rcases key j _ hj with⟨rfl,hy⟩|⟨_,hy|⟨hjk,hy⟩⟩
   ·subst hy;exact GJ.sZ (Ob.Ml _ _ _ _)
   ·subst hy;trivial
   ·exact(q9.2.2 j x (hne j _ hjk hy) hy).re fun b hb=>hold j _ hjk hy b hb
 have hs':cz Γ ⟨st.σ,kill st.H ks++[.row (vP u) e sz (rows++eY)]⟩ (uP κ id (some v')) Θ' a w':=by
  refine hs.step k hm hn ?_ ?_ ?_ ⟨ρ',hU⟩
  ·intro i hi;simp only[aM,aG,b8,eX]at hi;unfold uP;rw[b9 (by omega)];exact hs.mT i (by omega)
  ·intro i y hy;unfold uP at hy;split at hy
   ·cases hy;exact hv1
   ·exact hs.lM i y hy
  ·intro j y hj;rcases key j y hj with⟨rfl,rfl⟩|⟨_,hy|⟨hjk,hy⟩⟩
   ·exact .inr (.inr ⟨hsz,hrl,v',_,_,jN _ _ _,hown,Ia,Bs,by cases u<;>exact JI⟩)
   ·exact .inl hy
   ·exact .inr (.inl ⟨hne j y hjk hy,hy⟩)
 refine hK _ _ (h _ _ _ _ (hs'.set (t:=t) (d:=.acc id) (bs:=[]) ht ?_ (by simp)));exact(vR.acc id _ (jN _ _ _)).LR
def D.qV(rows:List aK):Bool:=rows.all fun r=>r.all D.flat
theorem jR.flat{vs:bY}{ds:aK}{bs:aP}(h:jR w vs ds bs)(hf:ds.all D.flat=true):bs=[]:=by
 induction ds generalizing vs bs with
 |nil=>cases h;rfl
 |cons d ds ih=>
  simp only[dD,aX]at hf;cases h with
  |cons v vs _ _ b1 b2 h1 h2 h3=>rw[h2.flat hf.1,ih h3 hf.2];rfl
theorem Rp{e sz i1:Nat}{ρ:Nat->Nat}:Ri w Θ ρ e sz (.slice none 0 0) [] true i1 [] []:=
 ⟨by simp,World.ownsRow_nil w 0 e sz,.nil,by simp,by simp[Value.ownBlock],by simp⟩
theorem Ev{ρ:Nat->Nat}(hs:cz Γ st κ Θ a w)(hu:vg Γ st.H κ Θ w ρ){id e sz:Nat}{k:RK}{rows:List aK}{v:Value}(hk:κ id=some v)(hH:st.H[id]?=some (.row k e sz rows))(ho:k.L8=true):
 ∃bs cs,Ri w Θ ρ e sz v rows (match k with| .uq=>true|_=>false) id bs cs:=by
 obtain⟨_,hrl,v2,cs,bs,hk2,hown,p9,hΘ,hz⟩:=hs.ob id _ hH;rw[hk]at hk2;cases hk2;cases k with
 |cl=>simp[RK.L8]at ho
 |sh=>exact⟨bs,cs,hrl,hown,p9,hz,hΘ,by simp⟩
 |mv n=>exact⟨bs,cs,hrl,hown,p9,hz,hΘ,by simp⟩
 |uq=>
  obtain⟨v2,c2,b2,q1,q2,q3,q4,q5⟩:=hu.rows id e sz rows hH;rw[hk]at q1;cases q1;exact⟨b2,c2,hrl,q2,q3,fun b hb=>(hu.free b (by rw[q5 b hb];omega)).1,hΘ,fun _=>⟨q4,q5⟩⟩
theorem Lw{ρ:Nat->Nat}(hs:cz Γ st κ Θ a w)(hu:vg Γ st.H κ Θ w ρ){id e sz:Nat}{k:RK}{rows:List aK}{v:Value}(hk:κ id=some v)(hH:st.H[id]?=some (.row k e sz rows))(ho:k.L8=true):
 ∃bs cs,Px w Θ ρ sz v rows (match k with| .uq=>true|_=>false) id bs cs:=by
 obtain⟨bs,cs,h⟩:=Ev hs hu hk hH ho;refine⟨bs,cs,h.rl,?_,h.rd,h.zero,h.uq⟩;rcases h.own.2 with⟨rfl,hn⟩|⟨g,cap,cur,rfl,_⟩
 ·exact .inl ⟨rfl,cS hn⟩
 ·exact .inr ⟨_,cap,rfl,h.own.cells (g:=g) (by simp[Value.ownBlock])⟩
theorem Rq{sz i2:Nat}{ρ:Nat->Nat}:Px w Θ ρ sz (.slice none 0 0) [] true i2 [] []:=
 ⟨by simp,.inl ⟨rfl,rfl⟩,.nil,by simp,by simp⟩
theorem Uq{ρ:Nat->Nat}{v:Value}{rows:List aK}{bs:aP}{sz:Nat}(h:Rd w v (.sl rows) bs)(hz:∀b∈bs,Θ b=0)(hrl:∀r∈rows,r.length=sz)(i2:Nat)(fl:Bool)(hf:fl=true->D.qV rows=true):
 ∃b2 cs,Px w Θ ρ sz v rows fl i2 b2 cs/\(fl=true->b2=[]):=by
 cases h with
 |vD=>exact⟨[],[],⟨by simp,.inl ⟨rfl,rfl⟩,.nil,by simp,by simp⟩,by simp⟩
 |lN ad cap hc=>exact⟨[],[],⟨by simp,.inr ⟨ad,cap,rfl,by simp⟩,.nil,by simp,by simp⟩,by simp⟩
 |sl b off cap sz' _ cs bs' h0 h1 h2 h3 h4 h5=>
  have hfl:fl=true->bs'=[]:=fun e=>h5.flat (by
   have:=hf e;unfold D.qV at this;rw[au]at this⊢;intro d hd;obtain⟨r,hr,Ei⟩:=dA.1 hd;exact au.1 (this r hr) d Ei)
  refine⟨bs',cs,⟨hrl,.inr ⟨_,cap,rfl,fun j x hj=>?_⟩,h5,fun y hy=>hz y (by simp[hy]),fun e=>by rw[hfl e];simp⟩,hfl⟩;have:=h4 j x hj;simpa[Addr.add_lit]using this
end
end Go.Cx
namespace Go.Cx
open Go.RowKit
section
variable{P:Program}{Γ:pG}{Q:Exit->St->Prop}{st:St}{κ:Nat->Option Value}{Θ:Nat->Nat}{a:Act}{w:World}{all:Array Oper}{rest:List Oper}
theorem fB{H:bJ}{ms:aP}{j:Nat}(h:j∉ms):(kill H ms)[j]?=H[j]?:=by
 induction ms generalizing H with
 |nil=>rfl
 |cons m ms ih=>
  simp only[bG,GF]at h;simp only[kill];rw[ih h.2,bw (fun e=>h.1 e.symm)]
def RK.after(k:RK)(b:Bool):RK:=match k with
 | .uq=>vP b
 | .mv _=>.sh
 |k=>k
theorem RK.Q3(k:RK)(b:Bool)(e:TypeId)(sz:Nat)(rows:List aK):(Ob.row (k.after b) e sz rows).Z2=false:=by cases k<;>cases b<;>rfl
theorem Li{o:Oper}{T id i sz off e:Nat}{k0:RK}{x y:Operand}{rows:List aK}{row ds es:aK}{ms:aP}(hop:o.op=.store T x y)(hd:o.dst=none)(hg:o.guard=none)
 (hx:st.ev x=.op id i sz off) (hH:st.H[id]?=some (.row k0 e sz rows)) (hk0:k0.L8=true) (hrow:rows[i]?=some row) (hc:(st.ev y).cellsOf=some ds) (habs:GL st.H ds=some (es,ms)) (hnd:ms.Nodup) (hid:id∉ms)
 (hT:LP P T=true) (hl:ds.length=vV P T) (hfit:off+ds.length<=sz)
 (h:AO P Γ all rest Q ⟨st.σ,(kill st.H ms).set id (.row (k0.after (ds.all (Po st.H))) e sz (rows.set i (row.take off++es++row.drop (off+ds.length))))⟩):AO P Γ all (o::rest) Q st:=by
 intro κ Θ0 a w hs0;obtain⟨b1,r1,_⟩:=hs0.ev x;obtain⟨b20,r2,a2a⟩:=hs0.ev y;rw[hx]at r1;obtain⟨g,o0,len,cap,hk,hv⟩:=r1.C1;have hcv:=xu hs0.lM r2 hc;obtain⟨ρ0,VF⟩:=hs0.qA;obtain⟨Θ,ρ,hs,hu,hm1,Jf,O4⟩:=cz.Mi ms hs0 VF hnd (Lu habs);obtain⟨b2,ZW,Se,Ej⟩:=NV (H:=st.H) (ρ:=ρ) habs hnd hcv (fun b hb=>Jf b (a2a b hb)) hm1;have JH:(kill st.H ms)[id]?=some (.row k0 e sz rows):=by rw[fB hid];exact hH
 obtain⟨bs,cs,hA⟩:=Ev hs hu hk JH hk0;have hrl:=hA.rl;have hown:=hA.own;have UT:=zL hown;subst UT;rw[cY]at hv;have p9:=hA.rd;have hsz:0<sz:=by
  obtain⟨hsz,_⟩:=hs.ob id _ JH;exact hsz
 rcases hown.2 with⟨rM,_⟩|⟨g',cap2,cur,hkv,hb,Km,hnc,hcm,hcs,MV⟩
 ·cases rM
 ·cases hkv;have Kq:=hA.top g (by simp[Value.ownBlock]);have hl1:=hcv.length;have hle:es.length=ds.length:=by rw[<-ZW.length,hl1]
  have hilt:i<rows.length:=(aD.1 hrow).1;have Xb:(i+1)*sz<=rows.length*sz:=dO _ hilt;have a4W:rows.length*sz<=cap*sz:=dO _ hnc;rw[iT,kP]at Xb;have Xo:(a.eval y).cells.size=vV P T:=by rw[<-hl,<-hl1];simp
  have a4f:(a.eval y).cells.size=ds.length:=by rw[<-hl1];simp
  have hst:=C4 (P:=P) (T:=T) (off:=i*sz+off) Km Xo (dP.1 hT) (by omega) hcv.one;have k:=gZ.setRow hs (g:=g) (cs:=(cur.toList.take (i*sz+off)++(a.eval y).cells.toList++cur.toList.drop (i*sz+off+(a.eval y).cells.toList.length)).toArray) (tag:=id+2) (by omega) Kq;refine wpList_plain hg fun K hK=>?_
  unfold Oper.wp;have hrun:(execOp a.eval o).run P w=.ok .skip (w.setRow g (cur.toList.take (i*sz+off)++(a.eval y).cells.toList++cur.toList.drop (i*sz+off+(a.eval y).cells.toList.length)).toArray):=by
   simp only[execOp,hop,hv];simp[hst]
  rw[hrun,Oper.upon_skip,hd];have hfl:=lR hrl;have e0:rows.flatten=rows.flatten.take (i*sz+off)++((rows.flatten.drop (i*sz+off)).take ds.length++(rows.flatten.drop (i*sz+off)).drop ds.length):=by rw[cA,cA]
  rw[e0]at p9;obtain⟨v1,v2,c1,c2,Ib,Bq,k1,k2⟩:=p9.split;obtain⟨v3,v4,c3,c4,rfl,rfl,k3,k4⟩:=k2.split;have l1:v1.length=i*sz+off:=by rw[k1.length,cG];omega
  have l3:v3.length=ds.length:=by rw[k3.length,cG,tN];omega
  rw[fU]at k4;have hnew:=(k1.app ZW).app k4;have JI:∀b∈((c1++b2)++c4),Θ b=0:=by
   intro b hb;simp only[aU]at hb;rcases hb with(hb|hb)|hb
   ·exact hA.zero b (by rw[Bq];simp[hb])
   ·exact Se b hb
   ·exact hA.zero b (by rw[Bq];simp[hb])
  obtain⟨n1,n2⟩:=jR.over k hnew JI;have hfs:=Bm (ds:=es) (off:=off) hrl hrow (by omega);rw[hle]at hfs;rw[<-hfs]at n1;have SC:cs.length=rows.length*sz:=hown.1;have ZX:cur.toList=v1++(v3++(v4++cur.toList.drop (rows.length*sz))):=by
   have:cur.toList=cs++cur.toList.drop (rows.length*sz):=by rw[<-MV,cA]
   rw[Ib]at this;simpa using this
  have t1:cur.toList.take (i*sz+off)=v1:=by rw[ZX];exact gU l1
  have t2:cur.toList.drop (i*sz+off+(a.eval y).cells.toList.length)=v4++cur.toList.drop (rows.length*sz):=by
   rw[hl1,<-fU]
   conv=>lhs;rw[ZX]
   rw[eg l1,eg l3]
  have Zg:(v1++(a.eval y).cells.toList++v4).length=rows.length*sz:=by
   have:=SC;rw[Ib]at this;simp only[aM]at this⊢;omega
  have Ff:(w.setRow g (cur.toList.take (i*sz+off)++(a.eval y).cells.toList++cur.toList.drop (i*sz+off+(a.eval y).cells.toList.length)).toArray).ownsRow 0 e sz (.slice (some ⟨g,0,none⟩) rows.length cap)
   (rows.set i (row.take off++es++row.drop (off+ds.length))).length (v1++(a.eval y).cells.toList++v4):=by
   refine⟨by simpa using Zg,.inr ⟨g,cap,_,by simp,hb,setRow_heap w g cur _ e _ Km,by simpa using hnc,hcm,?_,?_⟩⟩
   ·simp only[x7,aM,cG,tN,qu];omega
   ·rw[t1,t2];simp only[bQ];rw[<-bN];exact gU Zg
  have HW:∀r∈rows.set i (row.take off++es++row.drop (off+ds.length)),r.length=sz:=by
   intro r hr;rcases wg hr with hr|rfl
   ·exact hrl r hr
   ·have:=hrl row (aB hrow);simp;omega
  have Bs:∀g2,(Value.slice (some ⟨g,0,none⟩) rows.length cap).ownBlock=some g2->Θ g2=id+2:=by
   intro g2 Zc;simp only[Value.ownBlock,ah]at Zc;subst Zc;exact Kq
  refine hK _ _ (h _ _ _ _ (hs.put ms vQ (fun _ _ h=>h) (fun i hi=>hs.mT i (by simpa using hi)) hs.lM k hs.mine ?_ hu ?_ ?_ (RK.Q3 _ _ _ _ _)))
  ·refine⟨hsz,HW,_,_,_,hk,Ff,n1,Bs,?_⟩;cases k0 with
   |cl=>simp[RK.L8]at hk0
   |sh=>exact n2
   |mv n=>exact n2
   |uq=>simp only[RK.after];cases(ds.all (Po st.H))<;>exact n2
  ·intro m hm x _ AX;rcases lF AX with h|⟨h,_⟩
   ·subst h;rfl
   ·exact absurd hm h
  ·intro e' sz' cm he;cases k0 with
   |cl=>simp[RK.L8]at hk0
   |sh=>simp[RK.after]at he
   |mv n=>simp[RK.after]at he
   |uq=>
    simp only[RK.after]at he;cases hq:ds.all (Po st.H)with
    |false=>rw[hq]at he;simp[vP]at he
    |true=>
     rw[hq]at he;simp only[vP,Ob.row.injEq,nU]at he;obtain⟨rfl,rfl,rfl⟩:=he;obtain⟨q1,q2⟩:=Ej hq;obtain⟨p1,p2⟩:=hA.uq rfl;rw[Bq]at p1 p2;obtain⟨m1,m2,m3⟩:=bA.1 p1;obtain⟨m4,m5,m6⟩:=bA.1 m2;refine⟨_,_,_,hk,Ff,n1,?_,fun b hb=>?_⟩
     ·refine bA.2 ⟨bA.2 ⟨m1,q1,fun x hx y hy e=>?_⟩,m5,fun x hx y hy e=>?_⟩
      ·subst e;obtain⟨m,hm,he⟩:=q2 x hy;have:=p2 x (by simp[hx]);exact hid (by
        have:id=m:=by omega
        rw[this];exact hm)
      ·subst e;rcases aU.1 hx with hx|hx
       ·exact m3 x hx x (by simp[hy]) rfl
       ·obtain⟨m,hm,he⟩:=q2 x hx;have:=p2 x (by simp[hy]);exact hid (by
         have:id=m:=by omega
         rw[this];exact hm)
     ·simp only[aU]at hb;rcases hb with(hb|hb)|hb
      ·exact .inl (p2 b (by simp[hb]))
      ·exact .inr (q2 b hb)
      ·exact .inl (p2 b (by simp[hb]))
end
end Go.Cx
namespace Go.Cx
open Go.RowKit
inductive Ow(w:World):List Value->List D->List Nat->Prop
 |nil:Ow w [] [] []
 |cons (v:Value) (vs:bY) (d:D) (ds:aK) (b1 b2:aP):Rd w v d b1->Ow w vs ds b2->Ow w (v::vs) (d::ds) (b1++b2)
inductive CM(w:World):Value->D->List Nat->List Nat->List Nat->Prop
 |pure {v:Value} {d:D} {bs:aP}:Rd w v d bs->CM w v d bs [] []
 |fr (v:Value) (e sz:Nat) (rows:List aK) (cs:bY) (ns:aP):0<sz->(∀r∈rows,r.length=sz)->w.ownsRow 0 e sz v rows.length cs->jR w cs rows.flatten ns->v.oneCell'=true->
  CM w v (.fr e sz rows) [] v.ownBlock.toList (v.ownBlock.toList++ns)
inductive qK(w:World):List Value->List D->List Nat->List Nat->List Nat->Prop
 |nil:qK w [] [] [] [] []
 |cons (v:Value) (vs:bY) (d:D) (ds:aK) (b1 b2 t1 t2 u1 u2:aP):v.oneCell'=true->CM w v d b1 t1 u1->qK w vs ds b2 t2 u2->qK w (v::vs) (d::ds) (b1++b2) (t1++t2) (u1++u2)
inductive CN(w:World):Value->D->List Nat->List Nat->List Nat->Prop
 |cell {v:Value} {d:D} {bs ts us:aP}:CM w v d bs ts us->CN w v d bs ts us
 |agg (cs:bY) (ds:aK) (bs ts us:aP):qK w cs ds bs ts us->CN w (.agg cs.toArray) (.agg ds) bs ts us
inductive x9(w:World):List Value->List D->List Nat->List Nat->List Nat->Prop
 |nil:x9 w [] [] [] [] []
 |cons (v:Value) (vs:bY) (d:D) (ds:aK) (b1 b2 t1 t2 u1 u2:aP):CN w v d b1 t1 u1->x9 w vs ds b2 t2 u2->x9 w (v::vs) (d::ds) (b1++b2) (t1++t2) (u1++u2)
inductive vf(w:World):Value->D->List Nat->List Nat->List Nat->Prop
 |v {v:Value} {d:D} {bs ts us:aP}:CN w v d bs ts us->vf w v d bs ts us
 |iE (vs:bY) (ds:aK) (bs ts us:aP):x9 w vs ds bs ts us->vf w (.tuple vs.toArray) (.iE ds) bs ts us
def Good(P:Program)(f:FuncId)(ds:aK)(d:D):Prop:=
 (∃fn,P.funcs[f]?=some fn/\fn.body.isSome=true/\(fn.name== "runtime.NumGoroutine")=false)/\
 ∀(w:World) (Θ:Nat->Nat) (args:bY) (bs:aP),JR w (fun _=>False)->Ow w args ds bs->(∀b∈bs,Θ b=0)->(∀b,Θ b≠0->b<w.heap.size)->(∀b,Θ b<=1)->
  Calls P f args.toArray w (fun e w'=>∃v bs' ts us,e=.returned v/\Below w.heap.size w w'/\vf w' v d bs' ts us/\(∀b∈bs',b<w.heap.size->Θ b=0)/\(∀b∈bs',b∉ts)/\us.Nodup/\
   (∀b∈us,w.heap.size<=b/\Wr w' b)/\∀b∈ts,b∈us)
def zX(n:Nat)(d:D):D×bJ:=match d with
 | .fr e sz rows=>(.acc n,[.row .uq e sz rows])
 |d=>(d,[])
def kW(n:Nat):aK->aK×bJ
 | []=>([],[])
 |d::ds=>((zX n d).1::(kW (n+(zX n d).2.length) ds).1,(zX n d).2++(kW (n+(zX n d).2.length) ds).2)
def yL(n:Nat)(d:D):D×bJ:=match d with
 | .agg cs=>(.agg (kW n cs).1,(kW n cs).2)
 |d=>zX n d
def xT(n:Nat):aK->aK×bJ
 | []=>([],[])
 |d::ds=>((yL n d).1::(xT (n+(yL n d).2.length) ds).1,(yL n d).2++(xT (n+(yL n d).2.length) ds).2)
def lE(n:Nat)(d:D):D×bJ:=match d with
 | .iE vs=>(.iE (xT n vs).1,(xT n vs).2)
 |d=>yL n d
structure Fs where
 v:Value
 e:Nat
 sz:Nat
 rows:List aK
 cs:bY
 ns:aP
def Fs.ob(x:Fs):Ob:=.row .uq x.e x.sz x.rows
def Fs.ok(w:World)(x:Fs):Prop:=0<x.sz/\(∀r∈x.rows,r.length=x.sz)/\w.ownsRow 0 x.e x.sz x.v x.rows.length x.cs/\jR w x.cs x.rows.flatten x.ns/\x.v.oneCell'=true
def Fs.bl(x:Fs):aP:=x.v.ownBlock.toList++x.ns
def Fs.ts(x:Fs):aP:=x.v.ownBlock.toList
section
variable{P:Program}{Γ:pG}{Q:Exit->St->Prop}{st:St}{κ κ':Nat->Option Value}{Θ Θ':Nat->Nat}{a:Act}{w w':World}{all:Array Oper}{rest:List Oper}
def Names(κ:Nat->Option Value)(n:Nat)(L:List Fs):Prop:=∀(i:Nat) x,L[i]?=some x->κ (n+i)=some x.v
theorem Names.left{n:Nat}{L1 L2:List Fs}(h:Names κ n (L1++L2)):Names κ n L1:=fun i x hx=>h i x (by
 rw[aj (aD.1 hx).1];exact hx)
theorem Names.right{n:Nat}{L1 L2:List Fs}(h:Names κ n (L1++L2)):Names κ (n+L1.length) L2:=fun i x hx=>by
 have:=h (L1.length+i) x (by rw[av (by omega)];simpa using hx);rw[<-this];congr 1;omega
theorem CM.inst{v:Value}{d:D}{bs ts us:aP}(h:CM w v d bs ts us)(n:Nat):
 ∃L:List Fs,L.map Fs.ob=(zX n d).2/\(∀x∈L,x.ok w)/\us=L.flatMap Fs.bl/\ts=L.flatMap Fs.ts/\∀κ,Names κ n L->vR w κ v (zX n d).1 bs:=by
 cases h with
 |pure h=>
  have e:zX n d=(d,[]):=by cases h<;>rfl
  rw[e];exact⟨[],rfl,by simp,rfl,rfl,fun κ _=>.pure h⟩
 |fr e sz rows cs ns h1 h2 h3 h4 h5=>
  refine⟨[⟨v,e,sz,rows,cs,ns⟩],rfl,?_,by simp[Fs.bl],by simp[Fs.ts],fun κ hk=>?_⟩
  ·intro x hx;simp at hx;subst hx;exact⟨h1,h2,h3,h4,h5⟩
  ·exact .acc n v (by simpa using hk 0 _ rfl)
theorem qK.inst{vs:bY}{ds:aK}{bs ts us:aP}(h:qK w vs ds bs ts us)(n:Nat):
 ∃L:List Fs,L.map Fs.ob=(kW n ds).2/\(∀x∈L,x.ok w)/\us=L.flatMap Fs.bl/\ts=L.flatMap Fs.ts/\∀κ,Names κ n L->eN w κ vs (kW n ds).1 bs:=by
 induction h generalizing n with
 |nil=>exact⟨[],rfl,by simp,rfl,rfl,fun κ _=>.nil⟩
 |cons v vs d ds b1 b2 t1 t2 u1 u2 h1 h2 _ ih=>
  obtain⟨L1,q1,q2,q3,q4,q5⟩:=h2.inst n;obtain⟨L2,p1,p2,p3,p4,p5⟩:=ih (n+(zX n d).2.length);have hl:L1.length=(zX n d).2.length:=by rw[<-q1];simp
  refine⟨L1++L2,by simp[kW,q1,p1],?_,by simp[q3,p3],by simp[q4,p4],fun κ hk=>?_⟩
  ·intro x hx;rcases aU.1 hx with hx|hx
   ·exact q2 x hx
   ·exact p2 x hx
  ·refine .cons _ _ _ _ _ _ h1 (q5 κ hk.left) (p5 κ ?_);rw[<-hl];exact hk.right
theorem CN.inst{v:Value}{d:D}{bs ts us:aP}(h:CN w v d bs ts us)(n:Nat):
 ∃L:List Fs,L.map Fs.ob=(yL n d).2/\(∀x∈L,x.ok w)/\us=L.flatMap Fs.bl/\ts=L.flatMap Fs.ts/\∀κ,Names κ n L->I0 w κ v (yL n d).1 bs:=by
 cases h with
 |cell h=>
  by_cases qG:∃ds,d=.agg ds
  ·obtain⟨ds,rfl⟩:=qG;cases h with
   |pure h=>
    cases h with
    |agg cs _ _ h=>
     have:∀(vs:bY) (es:aK) (b:aP),jR w vs es b->∀n,(kW n es).1=es/\(kW n es).2=[]:=by
      intro vs es
      induction es generalizing vs with
      |nil=>intro b _ n;exact⟨rfl,rfl⟩
      |cons e es ih=>
       intro b hh n;cases hh with
       |cons v vs _ _ b1 b2 _ h2 h3=>
        have e1:zX n e=(e,[]):=by cases h2<;>rfl
        have:=ih vs b2 h3 n;simp[kW,e1,this]
     obtain⟨e1,e2⟩:=this _ _ _ h n;refine⟨[],by simp[yL,e2],by simp,rfl,rfl,fun κ _=>?_⟩;simp only[yL,e1];exact .agg _ _ _ (eN.zY h)
  ·have e:yL n d=zX n d:=by cases d<;>first|rfl|exact absurd ⟨_,rfl⟩ qG
   rw[e];obtain⟨L,q1,q2,q3,q4,q5⟩:=h.inst n;exact⟨L,q1,q2,q3,q4,fun κ hk=>.cell (q5 κ hk)⟩
 |agg cs ds bs ts us h=>
  obtain⟨L,q1,q2,q3,q4,q5⟩:=h.inst n;exact⟨L,q1,q2,q3,q4,fun κ hk=>.agg _ _ _ (q5 κ hk)⟩
theorem x9.inst{vs:bY}{ds:aK}{bs ts us:aP}(h:x9 w vs ds bs ts us)(n:Nat):
 ∃L:List Fs,L.map Fs.ob=(xT n ds).2/\(∀x∈L,x.ok w)/\us=L.flatMap Fs.bl/\ts=L.flatMap Fs.ts/\∀κ,Names κ n L->yd w κ vs (xT n ds).1 bs:=by
 induction h generalizing n with
 |nil=>exact⟨[],rfl,by simp,rfl,rfl,fun κ _=>.nil⟩
 |cons v vs d ds b1 b2 t1 t2 u1 u2 h2 _ ih=>
  obtain⟨L1,q1,q2,q3,q4,q5⟩:=h2.inst n;obtain⟨L2,p1,p2,p3,p4,p5⟩:=ih (n+(yL n d).2.length);have hl:L1.length=(yL n d).2.length:=by rw[<-q1];simp
  refine⟨L1++L2,by simp[xT,q1,p1],?_,by simp[q3,p3],by simp[q4,p4],fun κ hk=>?_⟩
  ·intro x hx;rcases aU.1 hx with hx|hx
   ·exact q2 x hx
   ·exact p2 x hx
  ·refine .cons _ _ _ _ _ _ (q5 κ hk.left) (p5 κ ?_);rw[<-hl];exact hk.right
theorem vf.inst{v:Value}{d:D}{bs ts us:aP}(h:vf w v d bs ts us)(n:Nat):
 ∃L:List Fs,L.map Fs.ob=(lE n d).2/\(∀x∈L,x.ok w)/\us=L.flatMap Fs.bl/\ts=L.flatMap Fs.ts/\∀κ,Names κ n L->oK w κ v (lE n d).1 bs:=by
 cases h with
 |v h=>
  have hnt:∀vs,d≠ .iE vs:=by
   intro vs e;subst e;cases h with
   |cell h=>cases h with|pure h=>cases h
  have e:lE n d=yL n d:=by cases d<;>first|rfl|exact absurd rfl (hnt _)
  rw[e];obtain⟨L,q1,q2,q3,q4,q5⟩:=h.inst n;exact⟨L,q1,q2,q3,q4,fun κ hk=>.v (q5 κ hk)⟩
 |iE vs ds bs ts us h=>
  obtain⟨L,q1,q2,q3,q4,q5⟩:=h.inst n;exact⟨L,q1,q2,q3,q4,fun κ hk=>.iE _ _ _ (q5 κ hk)⟩
theorem Ln{v:Value}{d:D}{bs ts us:aP}(h:CM w v d bs ts us):∀b∈ts,Wr w b:=by
 cases h with
 |pure=>simp
 |fr e sz rows cs ns h1 h2 h3 h4 h5=>
  intro b hb;simp only[j8]at hb;rcases h3.2 with⟨rfl,_⟩|⟨g,cap,cur,rfl,_,hg,_⟩
  ·simp[Value.ownBlock]at hb
  ·simp[Value.ownBlock]at hb;subst hb;exact⟨_,_,hg⟩
theorem Py{vs:bY}{ds:aK}{bs ts us:aP}(h:qK w vs ds bs ts us):∀b∈ts,Wr w b:=by
 induction h with
 |nil=>simp
 |cons v vs d ds b1 b2 t1 t2 u1 u2 h1 h2 _ ih=>
  intro b hb;rcases aU.1 hb with hb|hb
  ·exact Ln h2 b hb
  ·exact ih b hb
theorem I2{v:Value}{d:D}{bs ts us:aP}(h:CN w v d bs ts us):∀b∈ts,Wr w b:=by
 cases h with
 |cell h=>exact Ln h
 |agg cs ds bs ts us h=>exact Py h
theorem GH{vs:bY}{ds:aK}{bs ts us:aP}(h:x9 w vs ds bs ts us):∀b∈ts,Wr w b:=by
 induction h with
 |nil=>simp
 |cons v vs d ds b1 b2 t1 t2 u1 u2 h2 _ ih=>
  intro b hb;rcases aU.1 hb with hb|hb
  ·exact I2 h2 b hb
  ·exact ih b hb
theorem I1{v:Value}{d:D}{bs ts us:aP}(h:vf w v d bs ts us):∀b∈ts,Wr w b:=by
 cases h with
 |v h=>exact I2 h
 |iE vs ds bs ts us h=>exact GH h
def ix{α:Type}(p:α->Bool):List α->Option Nat
 | []=>none
 |x::r=>if p x then some 0 else(ix p r).map (· +1)
theorem td{α:Type}{p:α->Bool}:∀ {l:List α} {i:Nat},ix p l=some i->∃x,l[i]?=some x/\p x=true:=by
 intro l
 induction l with
 |nil=>intro i h;cases h
 |cons x r ih=>
  intro i h;simp only[ix]at h;split at h
  ·cases h;exact⟨x,rfl,by assumption⟩
  ·cases hr:ix p r with
   |none=>simp[hr]at h
   |some j=>simp[hr]at h;subst h;simpa using ih hr
theorem zG{α:Type}{p:α->Bool}:∀ {l:List α} {i:Nat} {x:α},l[i]?=some x->p x=true->(∀(j:Nat) y,l[j]?=some y->p y=true->j=i)->ix p l=some i:=by
 intro l
 induction l with
 |nil=>intro i x h;simp at h
 |cons y r ih=>
  intro i x h hp hu;simp only[ix];split
  ·rename_i hy;rw[hu 0 y rfl hy]
  ·rename_i hy;cases i with
   |zero=>simp at h;subst h;exact absurd hp hy
   |succ i=>
    rw[ih (by simpa using h) hp (fun j z hz Xm=>by have:=hu (j+1) z (by simpa using hz) Xm;omega)];rfl
theorem sE{α:Type}{f:α->aP}:∀ {l:List α},(l.flatMap f).Nodup->∀(i j:Nat) x y b,l[i]?=some x->l[j]?=some y->b∈f x->b∈f y->i=j:=by
 intro l
 induction l with
 |nil=>intro _ i j x y b hi;simp at hi
 |cons z r ih=>
  intro hnd i j x y b hi hj xD hby;simp only[eF]at hnd;obtain⟨n1,n2,n3⟩:=bA.1 hnd;cases i with
  |zero=>
   simp at hi;subst hi;cases j with
   |zero=>rfl
   |succ j=>
    simp at hj;exact absurd rfl (n3 b xD b (bp.2 ⟨y,aB hj,hby⟩))
  |succ i=>
   simp at hi;cases j with
   |zero=>
    simp at hj;subst hj;exact absurd rfl (n3 b hby b (bp.2 ⟨x,aB hi,xD⟩))
   |succ j=>simp at hj;rw[ih n2 i j x y b hi hj xD hby]
theorem cz.K1(hs:cz Γ st κ Θ a w)(hb:Below w.heap.size w w')(L:List Fs)(hL:∀x∈L,x.ok w')(hnd:(L.flatMap Fs.bl).Nodup)(hfr:∀b∈L.flatMap Fs.bl,w.heap.size<=b/\Wr w' b)
 (n:Nat) (H':bJ) (hfree:∀i,i<L.length->κ (n+i)=none) (hlen':st.H.length<=H'.length) (hin:n+L.length<=H'.length)
 (key:∀(j:Nat) y,H'[j]?=some y->(∃i x,j=n+i/\L[i]?=some x/\y=x.ob)\/((j<n\/n+L.length<=j)/\(y=.gone\/st.H[j]?=some y))):
 ∃κ' Θ',cz Γ ⟨st.σ,H'⟩ κ' Θ' a w'/\Names κ' n L/\(∀(j:Nat) v,κ j=some v->κ' j=some v)/\(∀b,b∉L.flatMap Fs.ts->Θ' b=Θ b)/\(∀j,(j<n\/n+L.length<=j)->κ' j=κ j):=by
 let κ':Nat->Option Value:=fun j=>if j<n\/n+L.length<=j then κ j else(L[j-n]?).map Fs.v
 let Θ':Nat->Nat:=fun b=>match ix (fun x:Fs=>x.v.ownBlock==some b) L with|some i=>n+i+2|none=>Θ b
 have hu1:∀(i j:Nat) x y b,L[i]?=some x->L[j]?=some y->b∈x.bl->b∈y.bl->i=j:=fun i j x y b=>sE hnd i j x y b
 have hts:∀(i:Nat) x b,L[i]?=some x->x.v.ownBlock=some b->Θ' b=n+i+2:=by
  intro i x b hi RO;have:ix (fun x:Fs=>x.v.ownBlock==some b) L=some i:=zG hi (by simp[RO]) (fun j y hj hy=>by
   simp only[cR]at hy;exact hu1 j i y x b hj hi (by simp[Fs.bl,hy]) (by simp[Fs.bl,RO]))
  simp only[Θ',this]
 have hno:∀b,b∉L.flatMap Fs.ts->Θ' b=Θ b:=by
  intro b hb';simp only[Θ'];cases h:ix (fun x:Fs=>x.v.ownBlock==some b) L with
  |none=>rfl
  |some i=>
   obtain⟨x,hx,hp⟩:=td h;exact absurd (bp.2 ⟨x,aB hx,by simp only[cR]at hp;simp[Fs.ts,hp]⟩) hb'
 have hsub:∀b,b∈L.flatMap Fs.ts->b∈L.flatMap Fs.bl:=by
  intro b h;obtain⟨x,hx,xD⟩:=bp.1 h;exact bp.2 ⟨x,hx,by simp only[Fs.bl,Fs.ts]at xD⊢;exact aU.2 (.inl xD)⟩
 have hold:∀b,b<w.heap.size->Θ' b=Θ b:=fun b hlt=>hno b (fun h=>by have:=(hfr b (hsub b h)).1;omega)
 have hzero:∀b,w.heap.size<=b->Θ b=0:=fun b hge=>by
  cases h:Θ b with
  |zero=>rfl
  |succ m=>exact absurd (hs.own b (by omega)) (by omega)
 have hn:∀(j:Nat) v,κ j=some v->κ' j=some v:=by
  intro j v hj;have:j<n\/n+L.length<=j:=by
   rcases dL j n with h|h
   ·exact .inl h
   ·rcases dL j (n+L.length)with h2|h2
    ·have:=hfree (j-n) (by omega);rw[show n+(j-n)=j from by omega,hj]at this;cases this
    ·exact .inr h2
  simp only[κ'];rw[bM this];exact hj
 have rZ:Names κ' n L:=by
  intro i x hx;have hlt:=(aD.1 hx).1;simp only[κ'];rw[b9 (by omega),ck,hx];rfl
 have hTb:∀b,Θ' b≠0->Θ b≠0\/b∈L.flatMap Fs.bl:=by
  intro b h;by_cases ZS:b∈L.flatMap Fs.ts
  ·exact .inr (hsub b ZS)
  ·rw[hno b ZS]at h;exact .inl h
 have k:gZ w w' Θ Θ' (H'.length+2):=by
  refine⟨by omega,hb.os,hb.tape,hb.output,hb.size,fun b hlt _=>hb.block b hlt,fun b hlt _=>hold b hlt,fun b h=>?_⟩;rcases hTb b h with h|h
  ·exact dG (hs.own b h) hb.size
  ·obtain⟨cs,T,hx⟩:=(hfr b h).2;exact(az.1 hx).1
 have hm:∀b,2<=Θ' b->uS Γ b:=by
  intro b h;by_cases ZS:b∈L.flatMap Fs.ts
  ·exact .inl (cZ hs.base (hfr b (hsub b ZS)).1)
  ·rw[hno b ZS]at h;exact hs.mine b h
 obtain⟨ρ,hu⟩:=hs.qA;have q9:=hs.lG k hn hu;let ρ':Nat->Nat:=fun b=>match ix (fun x:Fs=>x.ns.contains b) L with|some i=>n+i+1|none=>ρ b
 have hns:∀(i:Nat) x b,L[i]?=some x->b∈x.ns->ρ' b=n+i+1:=by
  intro i x b hi RO;have:ix (fun x:Fs=>x.ns.contains b) L=some i:=zG hi (by simpa using RO) (fun j y hj hy=>by
   exact hu1 j i y x b hj hi (by simp only[Fs.bl];exact aU.2 (.inr (by simpa using hy))) (by simp only[Fs.bl];exact aU.2 (.inr RO)))
  simp only[ρ',this]
 have uN:∀(i:Nat) x b,L[i]?=some x->b∈x.ns->Θ' b=0:=by
  intro i x b hi RO;have hmem:b∈L.flatMap Fs.bl:=bp.2 ⟨x,aB hi,by simp only[Fs.bl];exact aU.2 (.inr RO)⟩;rw[hno b ?_]
  ·exact hzero b (hfr b hmem).1
  ·intro h;obtain⟨y,hy,hby⟩:=bp.1 h;obtain⟨j,hj⟩:=cX hy;have:=hu1 j i y x b hj hi (by simp only[Fs.bl,Fs.ts]at hby⊢;exact aU.2 (.inl hby)) (by simp only[Fs.bl];exact aU.2 (.inr RO));subst this;rw[hj]at hi;cases hi;have Gf:x.bl.Nodup:=by
    have:∀(l:List Fs),(l.flatMap Fs.bl).Nodup->∀x∈l,x.bl.Nodup:=by
     intro l
     induction l with
     |nil=>intro _ x hx;cases hx
     |cons z r ih=>
      intro hnd x hx;simp only[eF]at hnd;obtain⟨n1,n2,_⟩:=bA.1 hnd;rcases bG.1 hx with rfl|hx
      ·exact n1
      ·exact ih n2 x hx
    exact this L hnd x hy
   simp only[Fs.bl]at Gf;exact(bA.1 Gf).2.2 b hby b RO rfl
 have hlen:∀i,H'.length<=i->κ' i=none:=by
  intro i hi;simp only[κ'];rw[bM (by omega)];exact hs.mT i (by omega)
 have IX:∀(j:Nat) y,H'[j]?=some y->j+2≠H'.length+2:=fun j y hj=>by
  have:=(aD.1 hj).1;omega
 refine⟨κ',Θ',?_,rZ,hn,hno,fun j hj=>bM hj⟩;have H7:∀b,b<w.heap.size->ρ' b=ρ b:=by
  intro b hlt';simp only[ρ'];cases hi:ix (fun x:Fs=>x.ns.contains b) L with
  |none=>rfl
  |some i=>
   obtain⟨x,hx,hp⟩:=td hi;have:=(hfr b (bp.2 ⟨x,aB hx,by simp only[Fs.bl];exact aU.2 (.inr (by simpa using hp))⟩)).1;omega
 have WV:∀b,ρ b≠0->b<w.heap.size:=fun b hb'=>by
  obtain⟨_,_,cs',T,hx⟩:=hu.free b hb';exact(az.1 hx).1
 refine hs.step k hm hn hlen ?_ ?_ ⟨ρ',?_,?_,?_⟩
 ·intro i u sr;simp only[κ']at sr;split at sr
  ·exact hs.lM i u sr
  ·cases hx:L[i-n]? with
   |none=>simp[hx]at sr
   |some x=>simp[hx]at sr;subst sr;exact(hL x (aB hx)).2.2.2.2
 ·intro j y hj;have hjl:=IX j y hj;rcases key j y hj with⟨i,x,rfl,hx,rfl⟩|⟨hlt,hy|hy⟩
  ·obtain⟨q1,q2,q3,q4,_⟩:=hL x (aB hx);exact .inr (.inr ⟨q1,q2,x.v,x.cs,x.ns,rZ i x hx,q3,q4,fun g hg=>hts i x g hx hg,fun b hb'=>uN i x b hx hb'⟩)
  ·exact .inl hy
  ·exact .inr (.inl ⟨hjl,hy⟩)
 ·intro b hb';by_cases h:∃(i:Nat) (x:Fs),L[i]?=some x/\b∈x.ns
  ·obtain⟨i,x,hx,xD⟩:=h;have hmem:b∈L.flatMap Fs.bl:=bp.2 ⟨x,aB hx,by simp only[Fs.bl];exact aU.2 (.inr xD)⟩;exact⟨uN i x b hx xD,.inl (.inl (cZ hs.base (hfr b hmem).1)),(hfr b hmem).2⟩
  ·have:ρ' b=ρ b:=by
    simp only[ρ'];cases hi:ix (fun x:Fs=>x.ns.contains b) L with
    |none=>rfl
    |some i=>
     obtain⟨x,hx,hp⟩:=td hi;exact absurd ⟨i,x,hx,by simpa using hp⟩ h
   rw[this]at hb';exact q9.1 b hb'
 ·intro j e sz rows hj;have hjl:=IX j _ hj;rcases key j _ hj with⟨i,x,rfl,hx,hy⟩|⟨hlt,hy|hy⟩
  ·simp only[Fs.ob,Ob.row.injEq,nU]at hy;obtain⟨rfl,rfl,rfl⟩:=hy;obtain⟨q1,q2,q3,q4,_⟩:=hL x (aB hx);have Gf:x.ns.Nodup:=by
    have:∀(l:List Fs),(l.flatMap Fs.bl).Nodup->∀x∈l,x.bl.Nodup:=by
     intro l
     induction l with
     |nil=>intro _ x hx;cases hx
     |cons z r ih=>
      intro hnd x hx;simp only[eF]at hnd;obtain⟨n1,n2,_⟩:=bA.1 hnd;rcases bG.1 hx with rfl|hx
      ·exact n1
      ·exact ih n2 x hx
    exact(bA.1 (this L hnd x (aB hx))).2.1
   exact⟨x.v,x.cs,x.ns,rZ i x hx,q3,q4,Gf,fun b hb'=>hns i x b hx hb'⟩
  ·cases hy
  ·obtain⟨v,cs,bs,q1,q2,q3,q4,q5⟩:=q9.2.1 j e sz rows hjl hy;exact⟨v,cs,bs,q1,q2,q3,q4,fun b hb'=>(H7 b (WV b (by rw[q5 b hb'];omega))).trans (q5 b hb')⟩
 ·intro j y hj;have hjl:=IX j _ hj;rcases key j _ hj with⟨i,x,rfl,hx,hy⟩|⟨hlt,hy|hy⟩
  ·subst hy;exact GJ.sZ rfl
  ·subst hy;trivial
  ·exact(q9.2.2 j y hjl hy).re fun b hb'=>(H7 b (WV b (by omega))).trans hb'
theorem cz.VU(hs:cz Γ st κ Θ a w)(hb:Below w.heap.size w w')(L:List Fs)(hL:∀x∈L,x.ok w')(hnd:(L.flatMap Fs.bl).Nodup)(hfr:∀b∈L.flatMap Fs.bl,w.heap.size<=b/\Wr w' b):
 ∃κ' Θ',cz Γ ⟨st.σ,st.H++L.map Fs.ob⟩ κ' Θ' a w'/\Names κ' st.H.length L/\(∀(j:Nat) v,κ j=some v->κ' j=some v)/\(∀b,b∉L.flatMap Fs.ts->Θ' b=Θ b):=by
 obtain⟨κ',Θ',h1,h2,h3,h4,_⟩:=hs.K1 hb L hL hnd hfr st.H.length (st.H++L.map Fs.ob) (fun i _=>hs.mT _ (by omega)) (by simp) (by simp) (by
  intro j y hj;by_cases hlt:j<st.H.length
  ·rw[aj hlt]at hj;exact .inr ⟨.inl hlt,.inr hj⟩
  ·rw[av (by omega),bg]at hj;cases hx:L[j-st.H.length]? with
   |none=>simp[hx]at hj
   |some x=>simp[hx]at hj;exact .inl ⟨j-st.H.length,x,by omega,hx,hj.symm⟩)
 exact⟨κ',Θ',h1,h2,h3,h4⟩
def RQ(H:bJ)(d:D):Option (D×aP):=match d with
 | .acc m=>(match H[m]? with|some (.row _ _ _ rows)=>some (.sl rows,[m])|some (.eE _ rows _)=>some (.sl rows,[m])|some (.tk rows)=>some (.sl rows,[])|_=>none)
 | .ptr _ _=>none
 | .op _ _ _ _=>none
 |d=>some (d.DY,[])
def NI(H:bJ):aK->Option (aK×aP)
 | []=>some ([],[])
 |d::ds=>match RQ H d,NI H ds with|some (e,m),some (es,ms)=>some (e::es,m++ms)|_,_=>none
def UC(H:bJ)(d:D):Option (D×aP):=match d with
 | .agg cs=>(match NI H cs with|some (es,ms)=>some (.agg es,ms)|none=>none)
 | .iE _=>none
 |d=>RQ H d
def DL(H:bJ):aK->Option (aK×aP)
 | []=>some ([],[])
 |d::ds=>match UC H d,DL H ds with|some (e,m),some (es,ms)=>some (e::es,m++ms)|_,_=>none
def Seen(Θ:Nat->Nat)(ms:aP)(b:Nat):Prop:=Θ b=0\/∃m∈ms,Θ b=m+2
theorem Seen.mono{ms ns:aP}{b:Nat}(h:Seen Θ ms b)(hs:∀m∈ms,m∈ns):Seen Θ ns b:=by
 rcases h with h|⟨m,h1,h2⟩
 ·exact .inl h
 ·exact .inr ⟨m,hs m h1,h2⟩
theorem UB(hs:cz Γ st κ Θ a w){v:Value}{d e:D}{bs:aP}{ms:aP}(h:RQ st.H d=some (e,ms))(hr:vR w κ v d bs)(hz:∀b∈bs,Θ b=0):∃b',Rd w v e b'/\∀b∈b',Seen Θ ms b:=by
 cases hr with
 |pure hr=>
  have:RQ st.H d=some (d.DY,[]):=by cases hr<;>rfl
  rw[this]at h;cases h;exact⟨bs,hr.soft,fun b hb=>.inl (hz b hb)⟩
 |acc m _ hk=>
  simp only[RQ]at h;split at h
  ·rename_i k e' sz rows hH;cases h;obtain⟨_,hrl,v2,cs,b2,hk2,hown,p9,hΘ,hd⟩:=hs.ob m _ hH;rw[hk]at hk2;cases hk2;refine⟨_,rj hrl hown p9,fun b hb=>?_⟩;rcases aU.1 hb with hb|hb
   ·simp only[j8]at hb;exact .inr ⟨m,by simp,hΘ b hb⟩
   ·cases k with
    |cl=>exact .inr ⟨m,by simp,(hd.2.1 b hb).1⟩
    |sh=>exact .inl (hd b hb)
    |uq=>exact .inl (hd b hb)
    |mv n=>exact .inl (hd b hb)
  ·rename_i sz rows u hH;cases h;obtain⟨_,_,v2,b2,hk2,hrd,_,Bq⟩:=hs.ob m _ hH;rw[hk]at hk2;cases hk2;exact⟨b2,hrd,fun b hb=>.inr ⟨m,by simp,(Bq b hb).1⟩⟩
  ·rename_i rows hH;cases h;obtain⟨v2,b2,hk2,hrd,Se⟩:=hs.ob m _ hH;rw[hk]at hk2;cases hk2;exact⟨b2,hrd,fun b hb=>.inl (Se b hb)⟩
  ·cases h
 |ptr=>simp[RQ]at h
 |op=>simp[RQ]at h
theorem WC(hs:cz Γ st κ Θ a w):∀ {ds es:aK} {vs:bY} {bs ms:aP},NI st.H ds=some (es,ms)->eN w κ vs ds bs->(∀b∈bs,Θ b=0)->∃b',jR w vs es b'/\∀b∈b',Seen Θ ms b:=by
 intro ds
 induction ds with
 |nil=>
  intro es vs bs ms h hr _;simp only[NI,ah,cK]at h;obtain⟨rfl,rfl⟩:=h;cases hr;exact⟨[],.nil,by simp⟩
 |cons d ds ih=>
  intro es vs bs ms h hr hz;simp only[NI]at h;split at h
  ·rename_i e m es' ms' h1 h2;cases h;cases hr with
   |cons v vs _ _ b1 b2 hv hc hcs=>
    obtain⟨c1,q1,q2⟩:=UB hs h1 hc (fun b hb=>hz b (by simp[hb]));obtain⟨c2,p1,p2⟩:=ih h2 hcs (fun b hb=>hz b (by simp[hb]));refine⟨c1++c2,.cons _ _ _ _ _ _ hv q1 p1,fun b hb=>?_⟩;rcases aU.1 hb with hb|hb
    ·exact(q2 b hb).mono (fun m hm=>by simp[hm])
    ·exact(p2 b hb).mono (fun m hm=>by simp[hm])
  ·cases h
theorem Yr(hs:cz Γ st κ Θ a w){v:Value}{d e:D}{bs ms:aP}(h:UC st.H d=some (e,ms))(hr:oK w κ v d bs)(hz:∀b∈bs,Θ b=0):∃b',Rd w v e b'/\∀b∈b',Seen Θ ms b:=by
 by_cases qG:∃ds,d=.agg ds
 ·obtain⟨ds,rfl⟩:=qG;obtain⟨cs,rfl,hcs⟩:=hr.CB;simp only[UC]at h;split at h
  ·rename_i es ms' h1;cases h;obtain⟨b',q1,q2⟩:=WC hs h1 hcs hz;exact⟨b',.agg _ _ _ q1,q2⟩
  ·cases h
 ·have hc:vR w κ v d bs:=by
   cases hr with
   |v hr=>cases hr with
    |cell hr=>exact hr
    |agg=>exact absurd ⟨_,rfl⟩ qG
   |iE=>simp[UC]at h
  have e1:UC st.H d=RQ st.H d:=by
   cases d<;>first|rfl|exact absurd ⟨_,rfl⟩ qG|simp[UC]at h
  rw[e1]at h;exact UB hs h hc hz
theorem Hr(hs:cz Γ st κ Θ a w):∀ {xs:List Operand} {es:aK} {ms:aP},DL st.H (xs.map st.ev)=some (es,ms)->∃b',Ow w (xs.map a.eval) es b'/\∀b∈b',Seen Θ ms b:=by
 intro xs
 induction xs with
 |nil=>
  intro es ms h;simp only[bP,DL,ah,cK]at h;obtain⟨rfl,rfl⟩:=h;exact⟨[],.nil,by simp⟩
 |cons x xs ih=>
  intro es ms h;simp only[bI,DL]at h;split at h
  ·rename_i e m es' ms' h1 h2;cases h;obtain⟨b0,r0,z0⟩:=hs.ev x;obtain⟨c1,q1,q2⟩:=Yr hs h1 r0 z0;obtain⟨c2,p1,p2⟩:=ih h2;refine⟨c1++c2,.cons _ _ _ _ _ _ q1 p1,fun b hb=>?_⟩;rcases aU.1 hb with hb|hb
   ·exact(q2 b hb).mono (fun m hm=>by simp[hm])
   ·exact(p2 b hb).mono (fun m hm=>by simp[hm])
  ·cases h
def D.UZ(d:D):D:=match d with
 | .fr _ _ rows=>.sl rows
 |d=>d
def D.Ua(d:D):D:=match d with
 | .agg cs=>.agg (cs.map D.UZ)
 |d=>d.UZ
theorem qK.zY{w:World}:∀ {ds:aK} {vs:bY} {bs:aP},jR w vs ds bs->qK w vs ds bs [] []:=by
 intro ds
 induction ds with
 |nil=>intro vs bs h;cases h;exact .nil
 |cons d ds ih=>
  intro vs bs h;cases h with
  |cons v vs _ _ b1 b2 h1 h2 h3=>exact .cons _ _ _ _ _ _ [] [] [] [] h1 (.pure h2) (ih h3)
theorem CM.zM{w:World}{v:Value}{d:D}{bs ts us:aP}(h:CM w v d bs ts us):∃b,Rd w v d.UZ b/\∀x∈b,x∈bs\/x∈us:=by
 cases h with
 |pure h=>
  have e:d.UZ=d:=by cases h<;>rfl
  exact⟨_,e.symm▸h,fun x hx=>.inl hx⟩
 |fr e sz rows cs ns h1 h2 h3 h4 h5=>exact⟨_,rj h2 h3 h4,fun x hx=>.inr hx⟩
theorem qK.zM{w:World}{vs:bY}{ds:aK}{bs ts us:aP}(h:qK w vs ds bs ts us):∃b,jR w vs (ds.map D.UZ) b/\∀x∈b,x∈bs\/x∈us:=by
 induction h with
 |nil=>exact⟨_,.nil,by simp⟩
 |cons v vs d ds b1 b2 t1 t2 u1 u2 h1 h2 _ ih=>
  obtain⟨b,q,s⟩:=h2.zM;obtain⟨b',q',s'⟩:=ih;refine⟨_,.cons _ _ _ _ _ _ h1 q q',fun x hx=>?_⟩;rcases aU.1 hx with h|h
  ·rcases s x h with h|h<;>simp[h]
  ·rcases s' x h with h|h<;>simp[h]
theorem CN.zM{w:World}{v:Value}{d:D}{bs ts us:aP}(h:CN w v d bs ts us):∃b,Rd w v d.Ua b/\∀x∈b,x∈bs\/x∈us:=by
 cases h with
 |cell h=>
  by_cases qG:∃ds,d=.agg ds
  ·obtain⟨ds,rfl⟩:=qG;cases h with
   |pure h=>cases h with
    |agg cs _ _ h=>
     obtain⟨b,q,s⟩:=(qK.zY h).zM;exact⟨_,.agg _ _ _ q,s⟩
  ·have e:d.Ua=d.UZ:=by cases d<;>first|rfl|exact absurd ⟨_,rfl⟩ qG
   rw[e];exact h.zM
 |agg cs ds bs ts us h=>
  obtain⟨b,q,s⟩:=h.zM;exact⟨_,.agg _ _ _ q,s⟩
def D.Qv(d:D):Bool:=match d with
 | .fr _ _ _=>true
 |d=>d.flat
def D.Mt(d:D):Bool:=match d with
 | .agg cs=>cs.all D.Qv
 |d=>d.Qv
def D.J0(d:D):Bool:=match d with
 | .iE vs=>vs.all D.Mt
 |d=>d.Mt
def D.YR(d:D):Bool:=match d with
 | .iE _=>false
 |d=>d.Mt
theorem CM.own{v:Value}{d:D}{bs ts us:aP}(h:CM w v d bs ts us)(ho:d.Qv=true):bs=[]:=by
 cases h with
 |pure h=>exact h.flat (by cases h<;>exact ho)
 |fr=>rfl
theorem qK.own{vs:bY}{ds:aK}{bs ts us:aP}(h:qK w vs ds bs ts us)(ho:ds.all D.Qv=true):bs=[]:=by
 induction h with
 |nil=>rfl
 |cons v vs d ds b1 b2 t1 t2 u1 u2 h1 h2 _ ih=>
  simp only[dD,aX]at ho;rw[h2.own ho.1,ih ho.2];rfl
theorem CN.own{v:Value}{d:D}{bs ts us:aP}(h:CN w v d bs ts us)(ho:d.Mt=true):bs=[]:=by
 cases h with
 |cell h=>
  by_cases qG:∃ds,d=.agg ds
  ·obtain⟨ds,rfl⟩:=qG;cases h with
   |pure h=>
    cases h with
    |agg cs _ _ h=>
     simp only[D.Mt]at ho;have:∀(es:aK) (vs:bY) (b:aP),jR w vs es b->es.all D.Qv=true->es.all D.flat=true:=by
      intro es
      induction es with
      |nil=>intros;rfl
      |cons e es ih=>
       intro vs b hh ho;simp only[dD,aX]at ho⊢;cases hh with
       |cons v vs _ _ b1 b2 _ h2 h3=>exact⟨by cases h2<;>exact ho.1,ih _ _ h3 ho.2⟩
     exact jR.flat h (this _ _ _ h ho)
  ·have e:d.Mt=d.Qv:=by cases d<;>first|rfl|exact absurd ⟨_,rfl⟩ qG
   exact h.own (e▸ho)
 |agg cs ds bs ts us h=>exact h.own ho
theorem x9.own{vs:bY}{ds:aK}{bs ts us:aP}(h:x9 w vs ds bs ts us)(ho:ds.all D.Mt=true):bs=[]:=by
 induction h with
 |nil=>rfl
 |cons v vs d ds b1 b2 t1 t2 u1 u2 h2 _ ih=>
  simp only[dD,aX]at ho;rw[h2.own ho.1,ih ho.2];rfl
theorem vf.own{v:Value}{d:D}{bs ts us:aP}(h:vf w v d bs ts us)(ho:d.J0=true):bs=[]:=by
 cases h with
 |v h=>
  have hnt:∀vs,d≠ .iE vs:=by
   intro vs e;subst e;cases h with
   |cell h=>cases h with|pure h=>cases h
  have e:d.J0=d.Mt:=by cases d<;>first|rfl|exact absurd rfl (hnt _)
  exact h.own (e▸ho)
 |iE vs ds bs ts us h=>exact h.own ho
theorem si{o:Oper}{f:FuncId}{xs:Array Operand}{ts:Array TypeId}(hop:o.op=.call {callee:=.value (.func f),args:=xs,argTypes:=ts})
 (hf:∃fn,P.funcs[f]?=some fn/\fn.body.isSome=true/\(fn.name== "runtime.NumGoroutine")=false):
 (execOp a.eval o).run P w=.ok (.enter f (xs.map a.eval)) w:=by
 obtain⟨fn,h1,h2,h3⟩:=hf;have h2':¬fn.body=none:=by intro hb;simp[hb]at h2
 simp only[dK,ne_eq]at h3;simp[execOp,hop,resolve,Deferred.ofValue,Act.eval,invoke,callFunc,h1,h2',h3]
theorem M7{Q':Exit->Act->World->Prop}{K:Act->World->Prop}{o:Oper}{f t:Nat}{xs:Array Operand}{ts:Array TypeId}{ds:aK}{ms:aP}{d:D}(hs:cz Γ st κ Θ a w)
 (hop:o.op=.call {callee:=.value (.func f),args:=xs,argTypes:=ts}) (hd:o.dst=some t) (ht:t<Γ.nt) (hds:∃bs,Ow w (xs.toList.map a.eval) ds bs/\∀b∈bs,Seen Θ ms b) (hsh:ms=[]\/d.J0=true)
 (kV:Good P f ds d) (hK:∀κ' Θ' a' w',cz Γ ⟨(t,(lE st.H.length d).1)::st.σ,st.H++(lE st.H.length d).2⟩ κ' Θ' a' w'->K a' w'):o.wp P a w K Q':=by
 obtain⟨bs,hargs,hz⟩:=hds;let Θc:Nat->Nat:=fun b=>if Θ b=0\/ms.any (fun m=>Θ b==m+2)then 0 else 1
 have H6:∀b,Seen Θ ms b->Θc b=0:=by
  intro b h;simp only[Θc];rw[bM];rcases h with h|⟨m,h1,h2⟩
  ·exact .inl h
  ·exact .inr (cW.2 ⟨m,h1,by simp[h2]⟩)
 have hc:=kV.2 w Θc _ bs hs.Z5 hargs (fun b hb=>H6 b (hz b hb)) (fun b hb=>hs.own b (fun e=>hb (H6 b (.inl e)))) (fun b=>by simp only[Θc];split<;>omega);unfold Oper.wp;rw[si hop kV.1,Oper.upon_enter];have e:xs.map a.eval=(xs.toList.map a.eval).toArray:=by rw[<-fY,iR]
 rw[e];refine hc.mono ?_;rintro e w' ⟨v,bs',tb,ub,rfl,hb,hr,JI,htb,hnd,hfr,hsub⟩;show K (a.put o.dst v) w';rw[hd];obtain⟨L,q1,q2,q3,q4,q5⟩:=hr.inst st.H.length;obtain⟨κ',Θ',hs',hnm,_,hno⟩:=hs.VU hb L q2 (q3▸hnd) (fun b hb'=>hfr b (q3▸hb'));rw[q1]at hs';refine hK κ' Θ' _ w' (hs'.set (t:=t) ht (q5 κ' hnm) fun b hb'=>?_);rw[hno b (q4▸htb b hb')];rcases hsh with IZ|hown
 ·by_cases hlt:b<w.heap.size
  ·have h0:=JI b hb' hlt;simp only[Θc,IZ,El]at h0;by_cases h1:Θ b=0
   ·exact h1
   ·simp[h1]at h0
  ·by_cases h0:Θ b=0
   ·exact h0
   ·exact absurd (hs.own b h0) hlt
 ·rw[hr.own hown]at hb';cases hb'
theorem Us{Q':Exit->Act->World->Prop}{K:Act->World->Prop}{o:Oper}{f t:Nat}{xs:Array Operand}{ts:Array TypeId}{ds:aK}{ms:aP}{d:D}(hs:cz Γ st κ Θ a w)
 (hop:o.op=.call {callee:=.value (.func f),args:=xs,argTypes:=ts}) (hd:o.dst=some t) (ht:t<Γ.nt) (hds:DL st.H (xs.toList.map st.ev)=some (ds,ms)) (hsh:ms=[]\/d.J0=true)
 (kV:Good P f ds d) (hK:∀κ' Θ' a' w',cz Γ ⟨(t,(lE st.H.length d).1)::st.σ,st.H++(lE st.H.length d).2⟩ κ' Θ' a' w'->K a' w'):o.wp P a w K Q':=
 M7 hs hop hd ht (Hr hs hds) hsh kV hK
def H9(d:D):Bool:=match d with
 | .agg cs=>cs.all D.Lh
 | .iE _=>false
 |d=>d.Lh
theorem Sy{v:Value}{d:D}{bs:aP}(hr:oK w κ v d bs)(h:H9 d=true):Rd w v d bs:=by
 by_cases qG:∃ds,d=.agg ds
 ·obtain⟨ds,rfl⟩:=qG;obtain⟨cs,rfl,hcs⟩:=hr.CB;exact .agg _ _ _ (hcs.pure h)
 ·have hp:d.Lh=true:=by
   cases d<;>first|exact h|exact absurd ⟨_,rfl⟩ qG|simp[H9]at h
  cases hr with
  |v hr=>cases hr with
   |cell hr=>cases hr with
    |pure hr=>exact hr
    |acc=>simp[D.Lh]at hp
    |ptr=>simp[D.Lh]at hp
    |op=>simp[D.Lh]at hp
   |agg=>exact absurd ⟨_,rfl⟩ qG
  |iE=>simp[H9]at h
theorem K3(hs:cz Γ st κ Θ a w):∀ {xs:List Operand},(xs.map st.ev).all H9=true->∃b',Ow w (xs.map a.eval) (xs.map st.ev) b'/\∀b∈b',Seen Θ [] b:=by
 intro xs
 induction xs with
 |nil=>intro _;exact⟨[],.nil,by simp⟩
 |cons x xs ih=>
  intro h;simp only[bI,dD,aX]at h;obtain⟨b0,r0,z0⟩:=hs.ev x;obtain⟨c2,p1,p2⟩:=ih h.2;refine⟨b0++c2,.cons _ _ _ _ _ _ (Sy r0 h.1) p1,fun b hb=>?_⟩;rcases aU.1 hb with hb|hb
  ·exact .inl (z0 b hb)
  ·exact p2 b hb
theorem RW{o:Oper}{f t:Nat}{xs:Array Operand}{ts:Array TypeId}{d:D}(hop:o.op=.call {callee:=.value (.func f),args:=xs,argTypes:=ts})(hd:o.dst=some t)(hg:o.guard=none)
 (ht:t<Γ.nt) (hk:(xs.toList.map st.ev).all H9=true) (kV:Good P f (xs.toList.map st.ev) d)
 (h:AO P Γ all rest Q ⟨(t,(lE st.H.length d).1)::st.σ,st.H++(lE st.H.length d).2⟩):AO P Γ all (o::rest) Q st:=by
 intro κ Θ a w hs;exact wpList_plain hg fun K hK=>M7 hs hop hd ht (K3 hs hk) (.inl rfl) kV fun κ' Θ' a' w' hs'=>hK _ _ (h κ' Θ' a' w' hs')
theorem Uf{o:Oper}{f t:Nat}{xs:Array Operand}{ts:Array TypeId}{ds:aK}{ms:aP}{d:D}(hop:o.op=.call {callee:=.value (.func f),args:=xs,argTypes:=ts})(hd:o.dst=some t)(hg:o.guard=none)
 (ht:t<Γ.nt) (hds:DL st.H (xs.toList.map st.ev)=some (ds,ms)) (hsh:ms=[]\/d.J0=true) (kV:Good P f ds d)
 (h:AO P Γ all rest Q ⟨(t,(lE st.H.length d).1)::st.σ,st.H++(lE st.H.length d).2⟩):AO P Γ all (o::rest) Q st:=by
 intro κ Θ a w hs;exact wpList_plain hg fun K hK=>Us hs hop hd ht hds hsh kV fun κ' Θ' a' w' hs'=>hK _ _ (h κ' Θ' a' w' hs')
def TV(P:Program)(st:St):ResultVar->Option D
 | .tmp t=>some (lk st.σ t)
 | .cell x T=>match wU P T,lk st.σ x with
  |some ag,.ptr id off=>(match(st.H[id]?).bind Ob.QE with|some cells=>DW ag (vV P T) cells off|none=>none)
  |_,_=>none
def zZ(P:Program)(st:St):List ResultVar->Option aK
 | []=>some []
 |r::rs=>match TV P st r,zZ P st rs with|some d,some ds=>some (d::ds)|_,_=>none
def TX(tmps:Array Value):ResultVar->Sem Value
 | .tmp t=>pure (tmps.getD t undef)
 | .cell a t=>do loadVar t (<-asAddr (tmps.getD a undef))
theorem results_eq(fn:Func)(tmps:Array Value):results fn tmps=(do let vs<-fn.results.mapM (TX tmps);pure (if h:vs.size=1 then vs[0]else .tuple vs)):=by
 unfold results
 congr 1
theorem TW(hs:cz Γ st κ Θ a w){r:ResultVar}{d:D}(h:TV P st r=some d):
 ∃v bs,(TX a.tmps r).run P w=.ok v w/\oK w κ v d bs/\∀b∈bs,Θ b=0:=by
 cases r with
 |tmp t=>
  simp only[TV,ah]at h;subst h;obtain⟨bs,hr,hz⟩:=hs.slot t;exact⟨_,bs,by simp[TX],hr,hz⟩
 |cell x T=>
  have hp:pv P st (.load T (.tmp x))=some d:=by
   simp only[TV]at h;split at h
   ·rename_i ag id off h1 h2;simp only[pv,h1,St.ev,h2];exact h
   ·cases h
  obtain⟨v,bs,hrun,hr,hz⟩:=Io (o:= {(default:Oper)with op:=.load T (.tmp x)}) hs rfl hp;refine⟨v,bs,?_,hr,hz⟩;simp only[execOp,Act.eval]at hrun;have a2H:∃b off,a.tmps.getD x undef=.pointer (some ⟨b,off,none⟩):=by
   simp only[TV]at h;split at h
   ·rename_i ag id off h1 h2;obtain⟨b0,r0,_⟩:=hs.slot x;rw[h2]at r0;obtain⟨g,_,hv⟩:=r0.xE;exact⟨g,off,hv⟩
   ·cases h
  obtain⟨b,off,hv⟩:=a2H;simp only[TX,hv]at hrun⊢;simp only[Instr.loadAt,Instr.sureAddr,Sem.run_bind,Sem.run_pure,Result.andThen_ok]at hrun;simp only[asAddr,Sem.run_bind,Sem.run_pure,Result.andThen_ok];cases hl:(loadVar T ⟨b,off,none⟩).run P w with
  |ok u w1=>simp only[hl,Result.andThen_ok,Result.ok.injEq,Next.value.injEq]at hrun;rw[hrun.1,hrun.2]
  |halt u w1=>simp[hl]at hrun
theorem yS(hs:cz Γ st κ Θ a w):∀ {rs:List ResultVar} {ds:aK},zZ P st rs=some ds->
 ∃(vs:bY) (bs:aP),(rs.mapM (TX a.tmps)).run P w=.ok vs w/\
  vs.length=rs.length/\ds.length=rs.length/\(∀(i:Nat) d,ds[i]?=some d->∃v b,vs[i]?=some v/\oK w κ v d b/\∀x∈b,x∈bs)/\∀b∈bs,Θ b=0:=by
 intro rs
 induction rs with
 |nil=>
  intro ds h;simp only[zZ,ah]at h;subst h;exact⟨[],[],by simp,rfl,rfl,by simp,by simp⟩
 |cons r rs ih=>
  intro ds h;simp only[zZ]at h;split at h
  ·rename_i d ds' h1 h2;cases h;obtain⟨v,b,k1,k2,k3⟩:=TW hs h1;obtain⟨vs,bs,m1,m2,m3,m4,m5⟩:=ih h2;refine⟨v::vs,b++bs,?_,by simp[m2],by simp[m3],?_,?_⟩
   ·simp only[Ae,Sem.run_bind,k1,Result.andThen_ok,m1,Sem.run_pure]
   ·intro i x hx;cases i with
    |zero=>simp at hx;subst hx;exact⟨v,b,by simp,k2,by intro y hy;simp[hy]⟩
    |succ i=>
     simp at hx;obtain⟨u,b',q1,q2,q3⟩:=m4 i x hx;exact⟨u,b',by simpa using q1,q2,fun y hy=>by simp[q3 y hy]⟩
   ·intro y hy;rcases aU.1 hy with hy|hy
    ·exact k3 y hy
    ·exact m5 y hy
  ·cases h
def vC:aK->D
 | [d]=>d
 |ds=>.iE ds
def uj:Nat->aK->List (Nat×D)
 |_,[]=>[]
 |k,d::ds=>(k,d)::uj (k+1) ds
theorem By:∀(ds:aK) (k t:Nat),lk (uj k ds) t=if t<k then .any else(ds[t-k]?).getD .any:=by
 intro ds
 induction ds with
 |nil=>intro k t;simp[uj,lk]
 |cons d ds ih=>
  intro k t;simp only[uj,lk];by_cases h:t=k
  ·subst h;simp
  ·rw[b9 h,ih];by_cases h1:t<k
   ·rw[bM (by omega),bM h1]
   ·rw[b9 (by omega),b9 h1];have:t-k=(t-(k+1))+1:=by omega
    rw[this,di]
theorem Ow.at{vs:bY}{ds:aK}{bs:aP}(h:Ow w vs ds bs):vs.length=ds.length/\∀(i:Nat) d,ds[i]?=some d->∃v b,vs[i]?=some v/\Rd w v d b/\∀x∈b,x∈bs:=by
 induction ds generalizing vs bs with
 |nil=>cases h;exact⟨rfl,by simp⟩
 |cons e ds ih=>
  cases h with
  |cons v vs _ _ b1 b2 h2 h3=>
   obtain⟨l,hi⟩:=ih h3;refine⟨by simp[l],fun i d hd=>?_⟩;cases i with
   |zero=>simp at hd;subst hd;exact⟨v,b1,by simp,h2,by intro x hx;simp[hx]⟩
   |succ i=>
    simp at hd;obtain⟨u,b,k1,k3,k4⟩:=hi i d hd;exact⟨u,b,by simpa using k1,k3,fun x hx=>by simp[k4 x hx]⟩
def gm(d:D):Prop:=∃w v bs,Rd w v d bs
theorem gm.str{s:Bytes}(h:gm (.str s)):s.length<=maxLen:=by
 obtain⟨w,v,bs,h⟩:=h;cases h with|str x hx=>simpa using hx
theorem jR.rdb{vs:bY}{ds:aK}{bs:aP}(h:jR w vs ds bs):∀d∈ds,gm d:=by
 intro d hd;obtain⟨i,hi,rfl⟩:=dN.1 hd;obtain⟨v,b,_,_,hr,_⟩:=h.at (aV hi);exact⟨w,v,b,hr⟩
theorem gm.agg{ds:aK}(h:gm (.agg ds)):∀d∈ds,gm d:=by
 obtain⟨w,v,bs,h⟩:=h;cases h with|agg cs _ _ hx=>exact hx.rdb
theorem gm.sl{rows:List aK}(h:gm (.sl rows)):rows.length<=maxLen/\∀r∈rows,∀d∈r,gm d:=by
 obtain⟨w,v,bs,h⟩:=h;cases h with
 |vD=>simp
 |lN=>simp
 |sl b off cap sz _ cs bs hb h1 h2 h3 h4 h5=>
  exact⟨by omega,fun r hr d hd=>h5.rdb d (dA.2 ⟨r,hr,hd⟩)⟩
theorem Ow.rdb{vs:bY}{ds:aK}{bs:aP}(h:Ow w vs ds bs):∀d∈ds,gm d:=by
 intro d hd;obtain⟨i,hi,rfl⟩:=dN.1 hd;obtain⟨v,b,_,hr,_⟩:=h.at.2 i _ (aV hi);exact⟨w,v,b,hr⟩
def TF(z:Option (Nat×Nat))(d:D):D:=match d,z with
 | .nil,some (e,sz+1)=>.fr e (sz+1) []
 |d,_=>d.DY
def AZ(H:bJ)(z:Option (Nat×Nat))(d:D):Option (D×aP×aP):=match d with
 | .acc m=>(match H[m]? with|some (.row k e sz rows)=>(match k with| .uq=>some (.fr e sz rows,[],[m])| .sh=>some (.sl rows,[m],[])| .cl=>none| .mv _=>none)|_=>none)
 | .ptr _ _=>none
 | .op _ _ _ _=>none
 | .agg _=>none
 | .iE _=>none
 |d=>some (TF z d,[],[])
def HF(H:bJ):List (Option (Nat×Nat))->aK->Option (aK×aP×aP)
 |_,[]=>some ([],[],[])
 |zs,d::ds=>match AZ H zs.head?.join d,HF H zs.tail ds with|some (e,m,q),some (es,ms,qs)=>some (e::es,m++ms,q++qs)|_,_=>none
def OV(H:bJ)(zs:List (Option (Nat×Nat)))(d:D):Option (D×aP×aP):=match d with
 | .agg cs=>(match HF H zs cs with|some (es,ms,qs)=>some (.agg es,ms,qs)|none=>none)
 |d=>AZ H zs.head?.join d
def wR(H:bJ):List (List (Option (Nat×Nat)))->aK->Option (aK×aP×aP)
 |_,[]=>some ([],[],[])
 |zs,d::ds=>match OV H (zs.head?.getD []) d,wR H zs.tail ds with|some (e,m,q),some (es,ms,qs)=>some (e::es,m++ms,q++qs)|_,_=>none
def KY(P:Program)(fn:Func)(d:D)(e:Exit)(st:St):Prop:=
 (e=.ret\/e=.normal)/\∃nz ds es ms qs,zZ P st fn.results.toList=some ds/\wR st.H nz ds=some (es,ms,qs)/\ms.Nodup/\qs.Nodup/\vC es=d
structure RP(Θ ρ:Nat->Nat)(qs bs ts us:List Nat):Prop where
 zero:∀b∈bs,Θ b=0
 top:∀b∈ts,(∃m∈qs,Θ b=m+2)/\b∈us
 mem:∀b∈us,b∈ts\/∃m∈qs,ρ b=m+1
 nd:us.Nodup
theorem RP.nil{ρ:Nat->Nat}{bs:aP}(h:∀b∈bs,Θ b=0):RP Θ ρ [] bs [] []:=⟨h,by simp,by simp,by simp⟩
theorem RP.app{ρ:Nat->Nat}{q1 q2 b1 b2 t1 t2 u1 u2:aP}(hf:∀b,ρ b≠0->Θ b=0)(hq:(q1++q2).Nodup)(h1:RP Θ ρ q1 b1 t1 u1)(h2:RP Θ ρ q2 b2 t2 u2):RP Θ ρ (q1++q2) (b1++b2) (t1++t2) (u1++u2):=by
 refine⟨fun b hb=>?_,fun b hb=>?_,fun b hb=>?_,bA.2 ⟨h1.nd,h2.nd,fun x hx y hy e=>?_⟩⟩
 ·rcases aU.1 hb with hb|hb
  ·exact h1.zero b hb
  ·exact h2.zero b hb
 ·rcases aU.1 hb with hb|hb
  ·obtain⟨⟨m,p,q⟩,r⟩:=h1.top b hb;exact⟨⟨m,by simp[p],q⟩,by simp[r]⟩
  ·obtain⟨⟨m,p,q⟩,r⟩:=h2.top b hb;exact⟨⟨m,by simp[p],q⟩,by simp[r]⟩
 ·rcases aU.1 hb with hb|hb
  ·rcases h1.mem b hb with h|⟨m,p,q⟩
   ·exact .inl (by simp[h])
   ·exact .inr ⟨m,by simp[p],q⟩
  ·rcases h2.mem b hb with h|⟨m,p,q⟩
   ·exact .inl (by simp[h])
   ·exact .inr ⟨m,by simp[p],q⟩
 ·subst e;have hd:=(bA.1 hq).2.2;rcases h1.mem x hx with hx|⟨m,p,q⟩
  ·obtain⟨⟨m,p,q⟩,_⟩:=h1.top x hx;rcases h2.mem x hy with hy|⟨m',p',q'⟩
   ·obtain⟨⟨m',p',q'⟩,_⟩:=h2.top x hy;exact hd m p m' p' (by omega)
   ·have:=hf x (by omega);omega
  ·rcases h2.mem x hy with hy|⟨m',p',q'⟩
   ·obtain⟨⟨m',p',q'⟩,_⟩:=h2.top x hy;have:=hf x (by omega);omega
   ·exact hd m p m' p' (by omega)
theorem Mp(z:Option (Nat×Nat)){v:Value}{d:D}{b0:aP}(hr:Rd w v d b0):∃bs,CM w v (TF z d) bs [] []/\∀b∈bs,b∈b0:=by
 unfold TF;split
 ·rename_i e sz;cases hr;refine⟨[],?_,by simp⟩;have:=CM.fr (w:=w) (.slice none 0 0) e (sz+1) [] [] [] (Nat.succ_pos _) (by simp) (World.ownsRow_nil w 0 e (sz+1)) .nil rfl;simpa[Value.ownBlock]using this
 ·exact⟨b0,.pure hr.soft,fun _ h=>h⟩
section
variable{H:bJ}{ρ:Nat->Nat}(hf:∀b,ρ b≠0->Θ b=0)
 (hq:∀m e sz rows,H[m]?=some (.row .uq e sz rows)->∃v cs ns,κ m=some v/\0<sz/\(∀r∈rows,r.length=sz)/\w.ownsRow 0 e sz v rows.length cs/\jR w cs rows.flatten ns/\ns.Nodup/\(∀b∈ns,ρ b=m+1)/\∀g,v.ownBlock=some g->Θ g=m+2)
include hf hq
theorem Mz{z:Option (Nat×Nat)}{d e:D}{ms qs:aP}{v:Value}{b0:aP}(h:AZ H z d=some (e,ms,qs))(hone:v.oneCell'=true)(hr:vR w κ v d b0)(hz:∀b∈b0,Θ b=0)
 (hm:∀m∈ms,∀k e sz rows,H[m]?=some (.row k e sz rows)->ve κ Θ ρ w m k rows):∃bs ts us,CM w v e bs ts us/\RP Θ ρ qs bs ts us:=by
 cases hr with
 |pure hr=>
  have:AZ H z d=some (TF z d,[],[]):=by cases hr<;>first|rfl|simp[AZ]at h
  rw[this]at h;cases h;obtain⟨bs,hb,JI⟩:=Mp z hr;exact⟨bs,[],[],hb,RP.nil (fun b hb'=>hz b (JI b hb'))⟩
 |acc m _ hk=>
  simp only[AZ]at h;split at h
  ·rename_i k e' sz rows hH;split at h
   ·cases h;obtain⟨v2,cs,ns,r1,r2,r3,r4,r5,r6,r7,r8⟩:=hq m _ _ _ hH;rw[hk]at r1;cases r1;refine⟨[],_,_,.fr v _ _ _ cs ns r2 r3 r4 r5 hone,by simp,fun b hb=>?_,fun b hb=>?_,?_⟩
    ·simp only[j8]at hb;exact⟨⟨m,by simp,r8 b hb⟩,by simp[hb]⟩
    ·rcases aU.1 hb with hb|hb
     ·exact .inl hb
     ·exact .inr ⟨m,by simp,r7 b hb⟩
    ·refine bA.2 ⟨by cases v.ownBlock<;>simp,r6,fun x hx y hy exy=>?_⟩;subst exy;simp only[j8]at hx;have h1:=r8 x hx;have h2:=hf x (by rw[r7 x hy];omega);omega
   ·cases h;obtain⟨v2,bs,r1,r2,r3,_⟩:=hm m (by simp) _ _ _ _ hH;rw[hk]at r1;cases r1;exact⟨bs,[],[],.pure r2,RP.nil r3⟩
   ·cases h
   ·cases h
  ·cases h
 |ptr=>simp[AZ]at h
 |op=>simp[AZ]at h
theorem R1:∀ {ds es:aK} {zs:List (Option (Nat×Nat))} {ms qs:aP} {vs:bY} {b0:aP},HF H zs ds=some (es,ms,qs)->qs.Nodup->eN w κ vs ds b0->(∀b∈b0,Θ b=0)->
 (∀m∈ms,∀k e sz rows,H[m]?=some (.row k e sz rows)->ve κ Θ ρ w m k rows)->∃bs ts us,qK w vs es bs ts us/\RP Θ ρ qs bs ts us:=by
 intro ds
 induction ds with
 |nil=>
  intro es zs ms qs vs b0 h _ hr _ _;simp only[HF,ah,cK]at h;obtain⟨rfl,rfl,rfl⟩:=h;cases hr;exact⟨[],[],[],.nil,RP.nil (by simp)⟩
 |cons d ds ih=>
  intro es zs ms qs vs b0 h hnd hr hz hm;simp only[HF]at h;split at h
  ·rename_i e m q es' ms' qs' h1 h2;cases h;cases hr with
   |cons v vs _ _ b1 b2 hv hc hcs=>
    obtain⟨c1,t1,u1,q1,q2⟩:=Mz hf hq h1 hv hc (fun b hb=>hz b (by simp[hb])) (fun x hx=>hm x (by simp[hx]));obtain⟨c2,t2,u2,p1,p2⟩:=ih h2 (bA.1 hnd).2.1 hcs (fun b hb=>hz b (by simp[hb])) (fun x hx=>hm x (by simp[hx]));exact⟨_,_,_,.cons _ _ _ _ _ _ _ _ _ _ hv q1 p1,RP.app hf hnd q2 p2⟩
  ·cases h
theorem TZ(hk1:∀(i:Nat) u,κ i=some u->u.oneCell'=true){zs:List (Option (Nat×Nat))}{d e:D}{ms qs:aP}{v:Value}{b0:aP}(h:OV H zs d=some (e,ms,qs))(hnd:qs.Nodup)(hr:oK w κ v d b0)(hz:∀b∈b0,Θ b=0)
 (hm:∀m∈ms,∀k e sz rows,H[m]?=some (.row k e sz rows)->ve κ Θ ρ w m k rows):∃bs ts us,CN w v e bs ts us/\RP Θ ρ qs bs ts us:=by
 by_cases qG:∃ds,d=.agg ds
 ·obtain⟨ds,rfl⟩:=qG;obtain⟨cs,rfl,hcs⟩:=hr.CB;simp only[OV]at h;split at h
  ·rename_i es ms' qs' h1;cases h;obtain⟨bs,ts,us,q1,q2⟩:=R1 hf hq h1 hnd hcs hz hm;exact⟨bs,ts,us,.agg _ _ _ _ _ q1,q2⟩
  ·cases h
 ·have e1:OV H zs d=AZ H zs.head?.join d:=by cases d<;>first|rfl|exact absurd ⟨_,rfl⟩ qG
  rw[e1]at h;have hc:vR w κ v d b0:=by
   cases hr with
   |v hr=>cases hr with
    |cell hr=>exact hr
    |agg=>exact absurd ⟨_,rfl⟩ qG
   |iE=>simp[AZ]at h
  cases hc with
  |pure hr=>
   have:AZ H zs.head?.join d=some (TF zs.head?.join d,[],[]):=by cases hr<;>first|rfl|simp[AZ]at h
   rw[this]at h;cases h;obtain⟨bs,hb,JI⟩:=Mp zs.head?.join hr;exact⟨bs,[],[],.cell hb,RP.nil (fun b hb'=>hz b (JI b hb'))⟩
  |acc m _ hk=>
   obtain⟨bs,ts,us,q1,q2⟩:=Mz hf hq h (hk1 _ _ hk) (.acc m _ hk) (by simp) hm;exact⟨bs,ts,us,.cell q1,q2⟩
  |ptr=>simp[AZ]at h
  |op=>simp[AZ]at h
theorem vU(hk1:∀(i:Nat) u,κ i=some u->u.oneCell'=true):∀ {ds es:aK} {zs:List (List (Option (Nat×Nat)))} {ms qs:aP} {vs:bY},wR H zs ds=some (es,ms,qs)->qs.Nodup->vs.length=ds.length->
 (∀(i:Nat) d,ds[i]?=some d->∃v b,vs[i]?=some v/\oK w κ v d b/\∀x∈b,Θ x=0)->
 (∀m∈ms,∀k e sz rows,H[m]?=some (.row k e sz rows)->ve κ Θ ρ w m k rows)->∃bs ts us,x9 w vs es bs ts us/\RP Θ ρ qs bs ts us:=by
 intro ds
 induction ds with
 |nil=>
  intro es zs ms qs vs h _ hl _ _;simp only[wR,ah,cK]at h;obtain⟨rfl,rfl,rfl⟩:=h;cases vs with
  |nil=>exact⟨[],[],[],.nil,RP.nil (by simp)⟩
  |cons=>simp at hl
 |cons d ds ih=>
  intro es zs ms qs vs h hnd hl hr hm;simp only[wR]at h;split at h
  ·rename_i e m q es' ms' qs' h1 h2;cases h;cases vs with
   |nil=>simp at hl
   |cons v vs=>
    obtain⟨v',b0,Z0,hr0,uN⟩:=hr 0 d rfl;simp at Z0;subst Z0;obtain⟨c1,t1,u1,q1,q2⟩:=TZ hf hq hk1 h1 (bA.1 hnd).1 hr0 uN (fun x hx=>hm x (by simp[hx]));obtain⟨c2,t2,u2,p1,p2⟩:=ih h2 (bA.1 hnd).2.1 (by simpa using hl) (fun i d' Ei=>by
     obtain⟨v',b,k1,k2⟩:=hr (i+1) d' (by simpa using Ei);exact⟨v',b,by simpa using k1,k2⟩) (fun x hx=>hm x (by simp[hx]))
    exact⟨_,_,_,.cons _ _ _ _ _ _ _ _ _ _ q1 p1,RP.app hf hnd q2 p2⟩
  ·cases h
end
theorem J8{H:bJ}{z:Option (Nat×Nat)}{d e:D}{ms qs:aP}(h:AZ H z d=some (e,ms,qs)):(∀m∈ms,∃e sz rows,H[m]?=some (.row .sh e sz rows))/\∀m∈qs,∃e sz rows,H[m]?=some (.row .uq e sz rows):=by
 cases d with
 |acc m=>
  simp only[AZ]at h;split at h
  ·rename_i k e' sz rows hH;split at h
   ·cases h;exact⟨by simp,fun m' hm'=>by simp at hm';subst hm';exact⟨_,_,_,hH⟩⟩
   ·cases h;exact⟨fun m' hm'=>by simp at hm';subst hm';exact⟨_,_,_,hH⟩,by simp⟩
   ·cases h
   ·cases h
  ·cases h
 |_=>simp[AZ]at h<;>(try(obtain⟨_,rfl,rfl⟩:=h;simp))
theorem N0{H:bJ}:∀ {ds es:aK} {zs:List (Option (Nat×Nat))} {ms qs:aP},HF H zs ds=some (es,ms,qs)->(∀m∈ms,∃e sz rows,H[m]?=some (.row .sh e sz rows))/\∀m∈qs,∃e sz rows,H[m]?=some (.row .uq e sz rows):=by
 intro ds
 induction ds with
 |nil=>intro es zs ms qs h;simp only[HF,ah,cK]at h;obtain⟨rfl,rfl,rfl⟩:=h;simp
 |cons d ds ih=>
  intro es zs ms qs h;simp only[HF]at h;split at h
  ·rename_i e m q es' ms' qs' h1 h2;cases h;have a1:=J8 h1;have a2:=ih h2;refine⟨fun x hx=>?_,fun x hx=>?_⟩<;>rcases aU.1 hx with hx|hx
   ·exact a1.1 x hx
   ·exact a2.1 x hx
   ·exact a1.2 x hx
   ·exact a2.2 x hx
  ·cases h
theorem OW{H:bJ}{zs:List (Option (Nat×Nat))}{d e:D}{ms qs:aP}(h:OV H zs d=some (e,ms,qs)):(∀m∈ms,∃e sz rows,H[m]?=some (.row .sh e sz rows))/\∀m∈qs,∃e sz rows,H[m]?=some (.row .uq e sz rows):=by
 by_cases qG:∃ds,d=.agg ds
 ·obtain⟨ds,rfl⟩:=qG;simp only[OV]at h;split at h
  ·rename_i es ms' qs' h1;cases h;exact N0 h1
  ·cases h
 ·have e1:OV H zs d=AZ H zs.head?.join d:=by cases d<;>first|rfl|exact absurd ⟨_,rfl⟩ qG
  rw[e1]at h;exact J8 h
theorem sG{H:bJ}:∀ {ds es:aK} {zs:List (List (Option (Nat×Nat)))} {ms qs:aP},wR H zs ds=some (es,ms,qs)->(∀m∈ms,∃e sz rows,H[m]?=some (.row .sh e sz rows))/\∀m∈qs,∃e sz rows,H[m]?=some (.row .uq e sz rows):=by
 intro ds
 induction ds with
 |nil=>intro es zs ms qs h;simp only[wR,ah,cK]at h;obtain⟨rfl,rfl,rfl⟩:=h;simp
 |cons d ds ih=>
  intro es zs ms qs h;simp only[wR]at h;split at h
  ·rename_i e m q es' ms' qs' h1 h2;cases h;have a1:=OW h1;have a2:=ih h2;refine⟨fun x hx=>?_,fun x hx=>?_⟩<;>rcases aU.1 hx with hx|hx
   ·exact a1.1 x hx
   ·exact a2.1 x hx
   ·exact a1.2 x hx
   ·exact a2.2 x hx
  ·cases h
theorem Good.of{f:FuncId}{fn:Func}{c:Code}{ds:aK}{d:D}(hf:P.funcs[f]?=some fn)(hb:fn.body=some c)(hn:(fn.name== "runtime.NumGoroutine")=false)
 (hl:ds.length<=fn.ntmps) (h:(∀d∈ds,gm d)->∀Γ:pG,Γ.nt=fn.ntmps->AW P Γ c (KY P fn d) ⟨uj 0 ds,[]⟩):Good P f ds d:=by
 refine⟨⟨fn,hf,by simp[hb],hn⟩,?_⟩;intro w Θ args bs hvs hargs hz hown h1;obtain⟨hlen,XW⟩:=hargs.at;refine calls_of_wp hf hb ?_;let Γ:pG:=⟨w,Θ,fun _=>False,fn.ntmps,fun _=>False,hvs⟩
 have hs:cz Γ ⟨uj 0 ds,[]⟩ (fun _=>none) Θ {tmps:=args.toArray++Array.replicate (fn.ntmps-args.toArray.size) undef,defers:=[]} w:=by
  refine⟨rfl,?_,fun _ _=>rfl,by simp,?_,by simp,hown,fun b _ _=>⟨rfl,h1 b⟩,fun b hb=>by have:=h1 b;omega,⟨rfl,rfl,rfl,bH _,fun _ _ _=>rfl⟩,⟨fun _=>0,by simp,by simp,by simp⟩⟩
  ·simp[Γ];omega
  ·intro t;rw[By];simp only[rP,vb,sO];cases hd:ds[t]? with
   |none=>exact⟨[],.of (.any _),by simp⟩
   |some x=>
    obtain⟨v,b,k1,k2,k3⟩:=XW t x hd;refine⟨b,?_,fun y hy=>hz y (k3 y hy)⟩;have hlt:t<args.length:=(aD.1 k1).1;have:(args.toArray++Array.replicate (fn.ntmps-args.toArray.size) undef).getD t undef=v:=by
     rw[bz,dV (by simpa using hlt)];simp[k1]
    rw[this];exact .of k2
 refine wp_mono (h hargs.rdb Γ rfl _ _ _ _ hs) ?_;rintro e a' w' ⟨JJ,κ0,Θ0,hs0,xS,nz,QF,es,ms,qs,hres,SX,IZ,Gg,rfl⟩;obtain⟨ρ0,VF⟩:=hs0.qA;have wv:=sG SX;obtain⟨Θ1,ρ1,hs1,hu1,hm1,Jf,O4⟩:=cz.CG ms hs0 VF IZ (fun m hm=>by
  obtain⟨e,sz,rows,hH⟩:=wv.1 m hm;exact⟨_,e,sz,rows,hH,rfl⟩)
 obtain⟨vs,bs',m1,m2,m3,m4,m5⟩:=yS hs0 hres;have hq:∀m e sz rows,JJ.H[m]?=some (.row .uq e sz rows)->∃v cs ns,κ0 m=some v/\0<sz/\(∀r∈rows,r.length=sz)/\w'.ownsRow 0 e sz v rows.length cs/\jR w' cs rows.flatten ns/\ns.Nodup/\(∀b∈ns,ρ1 b=m+1)/\∀g,v.ownBlock=some g->Θ1 g=m+2:=by
  intro m e sz rows hH;have hnm:m∉ms:=fun hm=>by
   obtain⟨e',sz',cm,AX⟩:=wv.1 m hm;rw[hH]at AX;cases AX
  have JH:(kill JJ.H ms)[m]?=some (.row .uq e sz rows):=by rw[fB hnm];exact hH
  obtain⟨v,cs,ns,r1,r2,r3,r4,r5⟩:=hu1.rows m e sz rows JH;obtain⟨p1,p2,v2,_,_,p3,_,_,p4,_⟩:=hs1.ob m _ JH;rw[r1]at p3;cases p3;exact⟨v,cs,ns,r1,p1,p2,r2,r3,r4,r5,p4⟩
 obtain⟨c,ts,us,yK,wH⟩:=vU (w:=w') (vs:=vs) (fun b hb=>(hu1.free b hb).1) hq hs0.lM SX Gg (by omega) (fun i d hd=>by
  obtain⟨v,b,k1,k2,k3⟩:=m4 i d hd;exact⟨v,b,k1,k2,fun x hx=>Jf x (m5 x (k3 x hx))⟩) hm1
 have ES:∃v,(results fn a'.tmps).run P w'=.ok v w'/\vf w' v (vC es) c ts us:=by
  have hrun:(results fn a'.tmps).run P w'=.ok (if h:vs.toArray.size=1 then vs.toArray[0]else .tuple vs.toArray) w':=by
   rw[results_eq,je];simp[m1]
  cases yK with
  |nil=>exact⟨.tuple #[],by simpa using hrun,.iE [] [] [] [] [] .nil⟩
  |cons v vs d es b1 b2 t1 t2 u1 u2 hv p8=>
   cases p8 with
   |nil=>
    simp only[cB];exact⟨v,by simpa using hrun,.v hv⟩
   |cons v2 vs d2 es b3 b4 t3 t4 u3 u4 MW p8=>exact⟨.tuple (v::v2::vs).toArray,by simpa using hrun,.iE _ _ _ _ _ (.cons _ _ _ _ _ _ _ _ _ _ hv (.cons _ _ _ _ _ _ _ _ _ _ MW p8))⟩
 obtain⟨v,O5,Jd⟩:=ES;have Ns:Below w.heap.size w w':=⟨hs1.stays.os,hs1.stays.tape,hs1.stays.output,hs1.stays.size,fun b hb=>hs1.stays.block b hb (fun h=>h)⟩
 have Gz:∀b,uS Γ b->w.heap.size<=b:=fun b h=>by
  rcases h with h|h
  ·exact h
  ·exact h.elim
 have hwr:∀b∈us,w.heap.size<=b/\Wr w' b:=by
  intro b hb';rcases wH.mem b hb' with h|⟨m,hm,hρ⟩
  ·obtain⟨⟨m,hm,hΘ⟩,_⟩:=wH.top b h;refine⟨Gz b (hs1.mine b (by omega)),?_⟩;obtain⟨e,sz,rows,hH⟩:=wv.2 m hm;have:=wH;exact I1 Jd b h
  ·have:=hu1.free b (by omega);exact⟨this.2.1.elim (Gz b) False.elim,this.2.2⟩
 have post:a'.defers=[]/\∃v,(results fn a'.tmps).run P w'=.ok v w'/\∃u bs' ts us,Ending.returned v=.returned u/\Below w.heap.size w w'/\vf w' u (vC es) bs' ts us/\(∀b∈bs',b<w.heap.size->Θ b=0)/\(∀b∈bs',b∉ts)/\us.Nodup/\
  (∀b∈us,w.heap.size<=b/\Wr w' b)/\∀b∈ts,b∈us:=by
  refine⟨hs0.defers,v,O5,v,c,ts,us,rfl,Ns,Jd,fun b hb' hlt=>?_,fun b hb' ht=>?_,wH.nd,hwr,fun b hb'=>(wH.top b hb').2⟩
  ·have he:Θ1 b=Θ b:=(hs1.old b hlt (fun h=>h)).1;rw[<-he];exact wH.zero b hb'
  ·obtain⟨⟨m,_,hΘ⟩,_⟩:=wH.top b ht;have:=wH.zero b hb';omega
 rcases xS with rfl|rfl
 ·exact post
 ·exact post
end
end Go.Cx
