/- The operations that make or change memory, as rules of the abstract walk: box, alloc, store, slices made, built, appended to and given up; guards, tests. No condition; plain lemmas. -/
import Derived.Test.YtoeenpcilfhjbaaDoorNMem
import Derived.Great.BuildSlice
import Derived.Maps.AppendAt
namespace Go.Cx
set_option linter.unusedVariables false
set_option linter.unusedSimpArgs false
open Go.RowKit

section
variable {P : Program} {Γ : Ctx} {Q : Exit → St → Prop} {st : St} {κ : Nat → Option Value} {Θ : Nat → Nat} {a : Act} {w : World} {all : Array Oper} {rest : List Oper}

/-! tests and guards -/
theorem AW_cond {c : Operand} {x y : Code} {b : Bool} (hc : st.ev c = .bool b) (ht : b = true → AW P Γ x Q st) (hf : b = false → AW P Γ y Q st) : AW P Γ (.cond c x y) Q st := by
  intro κ Θ a w hs
  obtain ⟨bs, r, _⟩ := hs.ev c
  rw [hc] at r
  exact wp_cond_split r.bool_inv (fun h => ht h κ Θ a w hs) (fun h => hf h κ Θ a w hs)

theorem AO_guard {o : Oper} {j s : Nat} {want b : Bool} (hg : o.guard = some (j, want)) (hj : (all[j]?).bind (·.dst) = some s) (hb : lk st.σ s = .bool b)
    (hd : ∀ t, o.dst = some t → t < Γ.nt)
    (hyes : b = want → AO P Γ all ({ o with guard := none } :: rest) Q st) (hno : b ≠ want → AO P Γ all rest Q (st.put o.dst (.tup []))) : AO P Γ all (o :: rest) Q st := by
  intro κ Θ a w hs
  obtain ⟨bs, r, _⟩ := hs.slot s
  rw [hb] at r
  have hv := r.bool_inv
  have hlt : s < a.tmps.size := by
    rcases Nat.lt_or_ge s a.tmps.size with h | h
    · exact h
    · exfalso
      rw [Array.getD_eq_getD_getElem?, Array.getElem?_eq_none h] at hv
      simp [undef] at hv
  have hy : yielded all a.tmps j = some b := by
    have h1 : a.tmps[s]? = some (.bool b) := by
      rw [Array.getD_eq_getD_getElem?, Array.getElem?_eq_getElem hlt] at hv
      rw [Array.getElem?_eq_getElem hlt]
      simpa using hv
    simp [yielded, hj, h1]
  by_cases e : b = want
  · have := hyes e κ Θ a w hs
    unfold wpList at this ⊢
    have hw : Region.wanted o (yielded all a.tmps) = true := by simp [Region.wanted, hg, hy, e]
    have hw' : Region.wanted { o with guard := none } (yielded all a.tmps) = true := rfl
    rw [if_pos hw]
    rw [if_pos hw'] at this
    exact this
  · have hw : Region.wanted o (yielded all a.tmps) = false := by simp [Region.wanted, hg, hy, e]
    unfold wpList
    rw [hw, if_neg (by simp)]
    refine hno e κ Θ _ w ?_
    cases hdst : o.dst with
    | none => exact hs
    | some t => exact hs.set (hd t hdst) (.tup [] [] [] .nil) (by simp)

theorem RdS.undef_inv {w : World} {κ : Nat → Option Value} {v : Value} {bs : List Nat} (h : RdS w κ v (.tup []) bs) : v = .tuple #[] := by
  cases h with
  | v h => cases h with | cell h => cases h with | pure h => cases h
  | tup vs ds bs h => cases h; rfl

/-- an operation whose guard was itself not run -/
theorem AO_guardU {o : Oper} {j s : Nat} {want : Bool} (hg : o.guard = some (j, want)) (hj : (all[j]?).bind (·.dst) = some s) (hb : lk st.σ s = .tup [])
    (hd : ∀ t, o.dst = some t → t < Γ.nt) (hno : AO P Γ all rest Q (st.put o.dst (.tup []))) : AO P Γ all (o :: rest) Q st := by
  intro κ Θ a w hs
  obtain ⟨bs, r, _⟩ := hs.slot s
  rw [hb] at r
  have hv := r.undef_inv
  have hy : yielded all a.tmps j = none := by
    rcases Nat.lt_or_ge s a.tmps.size with hlt | hlt
    · have h1 : a.tmps[s]? = some (.tuple #[]) := by
        rw [Array.getD_eq_getD_getElem?, Array.getElem?_eq_getElem hlt] at hv
        rw [Array.getElem?_eq_getElem hlt]
        simpa using hv
      simp [yielded, hj, h1]
    · simp [yielded, hj, Array.getElem?_eq_none hlt]
  have hw : Region.wanted o (yielded all a.tmps) = false := by simp [Region.wanted, hg, hy]
  unfold wpList
  rw [hw, if_neg (by simp)]
  refine hno κ Θ _ w ?_
  cases hdst : o.dst with
  | none => exact hs
  | some t => exact hs.set (hd t hdst) (.tup [] [] [] .nil) (by simp)

/-! new blocks -/
theorem Keeps.alloc (hs : Sim Γ st κ Θ a w) (o : Obj) {tag : Nat} (h2 : 2 ≤ tag) : Keeps w (w.alloc o) Θ (fun b => if b = w.heap.size then tag else Θ b) tag := by
  refine ⟨h2, rfl, rfl, rfl, by simp, fun b hb _ => Below.heap_alloc w o b hb, fun b hb _ => ?_, fun b hb => ?_⟩
  · rw [if_neg (by omega)]
  · by_cases e : b = w.heap.size
    · subst e; simp
    · rw [if_neg e] at hb
      have := hs.own b hb
      simp; omega

theorem Sim.newBox (hs : Sim Γ st κ Θ a w) {cs : Array Value} {ds : List D} {bs : List Nat} (T : TypeId) (hr : RdCs w κ cs.toList ds bs) (hz : ∀ b ∈ bs, Θ b = 0) :
    Sim Γ ⟨st.σ, st.H ++ [.box ds]⟩ (upd κ st.H.length (some (.pointer (some ⟨w.heap.size, 0, none⟩)))) (fun b => if b = w.heap.size then st.H.length + 2 else Θ b) a (w.alloc (.cells cs T)) := by
  have k := Keeps.alloc hs (.cells cs T) (tag := st.H.length + 2) (by omega)
  refine hs.push rfl k (hs.keepsMine (fun b hb => by by_cases e : b = w.heap.size <;> simp_all)) ?_ rfl
  have hn := upd_old (hs.kout _ (Nat.le_refl _)) (some (Value.pointer (some ⟨w.heap.size, 0, none⟩)))
  obtain ⟨h1, h2⟩ := RdCs.stay k hn hr hz
  exact ⟨w.heap.size, cs, T, by simp [upd], heap_alloc_new w _, by simp, bs, h1, h2⟩

theorem AO_box {o : Oper} {T t : Nat} {x : Operand} {ds : List D} (hop : o.op = .box T x) (hd : o.dst = some t) (hg : o.guard = none) (ht : t < Γ.nt)
    (hc : (st.ev x).cellsOf = some ds) (h : AO P Γ all rest Q ⟨(t, .ptr st.H.length 0) :: st.σ, st.H ++ [.box ds]⟩) : AO P Γ all (o :: rest) Q st := by
  intro κ Θ a w hs
  obtain ⟨bs, r, hz⟩ := hs.ev x
  have hcs := cells_rd hs.kone r hc
  have hs' := hs.newBox T hcs hz
  refine wpList_plain hg fun K hK => ?_
  unfold Oper.wp
  have hrun : (execOp a.eval o).run P w = .ok (.value (.pointer (some ⟨w.heap.size, 0, none⟩))) (w.alloc (.cells (a.eval x).cells T)) := by
    simp [execOp, hop, Instr.box, newVar, newRow]
  rw [hrun, Oper.upon_value, hd]
  refine hK _ _ (h _ _ _ _ (hs'.set (t := t) (d := .ptr st.H.length 0) (bs := []) ht ?_ (by simp)))
  exact (RdC.ptr st.H.length 0 w.heap.size (by simp [upd])).toS

theorem AO_alloc {o : Oper} {T t : Nat} {zs : List D} (hop : o.op = .alloc T) (hd : o.dst = some t) (hg : o.guard = none) (ht : t < Γ.nt)
    (hz : tz P T = some zs) (h : AO P Γ all rest Q ⟨(t, .ptr st.H.length 0) :: st.σ, st.H ++ [.box zs]⟩) : AO P Γ all (o :: rest) Q st := by
  intro κ Θ a w hs
  obtain ⟨i, z, hi, hz0, hsz, hlen, hone, rfl⟩ := zero_cells hz
  have hs' := hs.newBox T (cs := z.cells) (ofV_cells z.cells.toList hone) (by simp)
  refine wpList_plain hg fun K hK => ?_
  unfold Oper.wp
  have hrun : (execOp a.eval o).run P w = .ok (.value (.pointer (some ⟨w.heap.size, 0, none⟩))) (w.alloc (.cells z.cells T)) := by
    simp [execOp, hop, Instr.alloc, zeroValue, typeInfo, hi, hz0, newVar, newRow]
  rw [hrun, Oper.upon_value, hd]
  refine hK _ _ (h _ _ _ _ (hs'.set (t := t) (d := .ptr st.H.length 0) (bs := []) ht ?_ (by simp)))
  exact (RdC.ptr st.H.length 0 w.heap.size (by simp [upd])).toS

/-! stores -/
theorem Keeps.setRow (hs : Sim Γ st κ Θ a w) {g : Nat} {cs : Array Value} {tag : Nat} (h2 : 2 ≤ tag) (hg : Θ g = tag) : Keeps w (w.setRow g cs) Θ Θ tag := by
  refine ⟨h2, rfl, rfl, rfl, by simp, fun b _ hne => setRow_other w g b cs (fun e => hne (e ▸ hg)), fun b _ _ => rfl, fun b hb => ?_⟩
  simpa using hs.own b hb

theorem run_storeAt {T g off : Nat} {v : Value} {cur : Array Value} {e : TypeId} (hg : w.heap[g]? = some (.cells cur e (0, 0))) (hsz : v.cells.size = tsz P T) (hinf : ∃ i, P.info? T = some i)
    (hfit : off + v.cells.size ≤ cur.size) (hone : ∀ c ∈ v.cells.toList, c.oneCell' = true) :
    (Instr.storeAt T (.pointer (some ⟨g, off, none⟩)) v).run P w = .ok () (w.setRow g (cur.toList.take off ++ v.cells.toList ++ cur.toList.drop (off + v.cells.toList.length)).toArray) := by
  have := run_storeCells_at P g off e v.cells.toList 0 cur w hg (by simpa using hfit) hone
  simp only [Nat.add_zero] at this
  simp [Instr.storeAt, Instr.sureAddr, storeVar, run_size hinf, hsz, this]

def tinf (P : Program) (t : TypeId) : Bool := (P.info? t).isSome

/-- a store into a variable of the call's own -/
theorem store_run {o : Oper} {T id off : Nat} {x y : Operand} {cells ds : List D} (hop : o.op = .store T x y)
    (hx : st.ev x = .ptr id off) {ob : Ob} (hH : st.H[id]? = some ob) (hob : ob.cs? = some cells) (hc : (st.ev y).cellsOf = some ds) (hT : tinf P T = true) (hl : ds.length = tsz P T) (hfit : off + ds.length ≤ cells.length) (hkp : ob.keepB off = true) (hs : Sim Γ st κ Θ a w) :
    ∃ w', (execOp a.eval o).run P w = .ok .skip w' ∧ Sim Γ ⟨st.σ, st.H.set id (ob.re (cells.take off ++ ds ++ cells.drop (off + ds.length)))⟩ κ Θ a w' := by
  obtain ⟨b1, r1, _⟩ := hs.ev x
  obtain ⟨b2, r2, hz2⟩ := hs.ev y
  rw [hx] at r1
  obtain ⟨g, hk, hv⟩ := r1.ptr_inv
  obtain ⟨g', cs, Tb, hk', hgc, hΘ, bs, hrs, hz⟩ := (hs.ob id _ hH).cs hob
  rw [hk] at hk'
  cases hk'
  have hcs := cells_rd hs.kone r2 hc
  have hl1 := hcs.length
  have hl2 := hrs.length
  have hsz : (a.eval y).cells.size = tsz P T := by rw [← hl, ← hl1]; simp
  have hst := run_storeAt (P := P) (T := T) (off := off) hgc hsz (Option.isSome_iff_exists.1 hT) (by
    have : (a.eval y).cells.size = ds.length := by rw [← hl1]; simp
    have h3 : cs.size = cells.length := by rw [← hl2]; simp
    omega) hcs.one
  have k := Keeps.setRow hs (g := g) (cs := (cs.toList.take off ++ (a.eval y).cells.toList ++ cs.toList.drop (off + (a.eval y).cells.toList.length)).toArray) (tag := id + 2) (by omega) hΘ
  have hrun : (execOp a.eval o).run P w = .ok .skip (w.setRow g (cs.toList.take off ++ (a.eval y).cells.toList ++ cs.toList.drop (off + (a.eval y).cells.toList.length)).toArray) := by
    simp only [execOp, hop, hv]
    simp [hst]
  refine ⟨_, hrun, hs.change k hs.mine (ObRel.ofCs hob (hs.ob id _ hH) (fun _ h => h) (fun c0 u0 e0 => ?_) ?_) (by cases ob <;> rfl)⟩
  · subst e0
    intro c hc' g2 cs2 T2 hk2 hg2
    rw [hk] at hk2; cases hk2
    rw [setRow_heap w g cs _ Tb _ hgc] at hg2; cases hg2
    obtain ⟨z1, z2⟩ := (hs.ob id _ hH).1.2 c hc' g cs Tb hk hgc
    simp only [Ob.cs?, Option.some.injEq] at hob
    subst hob
    have h3 : c0.length = 3 := by rw [← hl2]; simpa using z1
    have hoff : 1 ≤ off := by
      simp only [Ob.keepB, h3, beq_self_eq_true, Bool.not_true, Bool.false_or] at hkp
      exact Nat.le_of_ble_eq_true hkp
    have hcs3 : cs.toList.length = 3 := by simpa using z1
    have hel : (a.eval y).cells.toList.length = ds.length := hl1
    refine ⟨by simp only [List.size_toArray, List.length_append, List.length_take, List.length_drop]; omega, ?_⟩
    rw [List.getElem?_toArray, List.append_assoc, List.getElem?_append_left (by rw [List.length_take]; omega), List.getElem?_take_of_lt (by omega)]
    simpa using z2
  have e : cells = cells.take off ++ ((cells.drop off).take ds.length ++ (cells.drop off).drop ds.length) := by rw [List.take_append_drop, List.take_append_drop]
  rw [e] at hrs
  obtain ⟨v1, v2, c1, c2, hv12, rfl, k1, k2⟩ := hrs.split
  obtain ⟨v3, v4, c3, c4, rfl, rfl, k3, k4⟩ := k2.split
  have l1 : v1.length = off := by rw [k1.length]; simp; omega
  have l3 : v3.length = ds.length := by rw [k3.length]; simp; omega
  have e1 : cs.toList.take off = v1 := by rw [hv12]; exact List.take_left' l1
  have e4 : cs.toList.drop (off + (a.eval y).cells.toList.length) = v4 := by
    rw [hv12, ← List.drop_drop, List.drop_left' l1, hl1]; exact List.drop_left' l3
  have hnew : RdCs w κ (v1 ++ (a.eval y).cells.toList ++ v4) (cells.take off ++ ds ++ cells.drop (off + ds.length)) ((c1 ++ b2) ++ c4) := by
    rw [List.drop_drop] at k4
    exact (k1.app hcs).app k4
  have hz' : ∀ b ∈ ((c1 ++ b2) ++ c4), Θ b = 0 := by
    intro b hb
    simp only [List.mem_append] at hb
    rcases hb with (hb | hb) | hb
    · exact hz b (by simp [hb])
    · exact hz2 b hb
    · exact hz b (by simp [hb])
  obtain ⟨h1, h2⟩ := RdCs.stay k (fun _ _ h => h) hnew hz'
  refine ⟨g, _, Tb, hk, setRow_heap w g cs _ Tb _ hgc, hΘ, _, ?_, h2⟩
  rw [e1, e4] at h1 ⊢
  exact h1

theorem AO_store {o : Oper} {T id off : Nat} {x y : Operand} {cells ds : List D} (hop : o.op = .store T x y) (hd : o.dst = none) (hg : o.guard = none)
    (hx : st.ev x = .ptr id off) {ob : Ob} (hH : st.H[id]? = some ob) (hob : ob.cs? = some cells) (hc : (st.ev y).cellsOf = some ds) (hT : tinf P T = true) (hl : ds.length = tsz P T) (hfit : off + ds.length ≤ cells.length) (hkp : ob.keepB off = true)
    (h : AO P Γ all rest Q ⟨st.σ, st.H.set id (ob.re (cells.take off ++ ds ++ cells.drop (off + ds.length)))⟩) : AO P Γ all (o :: rest) Q st := by
  intro κ Θ a w hs
  obtain ⟨w', hrun, hs'⟩ := store_run hop hx hH hob hc hT hl hfit hkp hs
  refine wpList_plain hg fun K hK => ?_
  unfold Oper.wp
  rw [hrun, Oper.upon_skip, hd]
  exact hK _ _ (h _ _ _ _ hs')

end

def D.isP : D → Bool
  | .acc _ => false
  | .ptr _ _ => false
  | .op _ _ _ _ => false
  | _ => true
def tby (P : Program) (t : TypeId) : Nat := P.bytesOf t

theorem mem_split {α : Type} {l : List α} {i : Nat} {x : α} (h : l[i]? = some x) : ∃ p q, l = p ++ x :: q ∧ p.length = i := by
  have hlt := (List.getElem?_eq_some_iff.1 h).1
  have hx := (List.getElem?_eq_some_iff.1 h).2
  refine ⟨l.take i, l.drop (i + 1), ?_, by simp; omega⟩
  rw [← hx, List.getElem_cons_drop, List.take_append_drop]

theorem flatten_set {rows : List (List D)} {sz i off : Nat} {row ds : List D} (hrl : ∀ r ∈ rows, r.length = sz) (hr : rows[i]? = some row) (hfit : off + ds.length ≤ sz) :
    (rows.set i (row.take off ++ ds ++ row.drop (off + ds.length))).flatten = rows.flatten.take (i * sz + off) ++ ds ++ rows.flatten.drop (i * sz + off + ds.length) := by
  obtain ⟨p, q, rfl, rfl⟩ := mem_split hr
  have hrow : row.length = sz := hrl row (by simp)
  have hp : p.flatten.length = p.length * sz := flatten_len (fun r hr => hrl r (by simp [hr]))
  rw [List.set_append_right _ _ (Nat.le_refl _), Nat.sub_self, List.set_cons_zero]
  simp only [List.flatten_append, List.flatten_cons]
  rw [← hp, List.take_length_add_append, Nat.add_assoc, List.drop_length_add_append, List.take_append_of_le_length (by omega), List.drop_append_of_le_length (by omega)]
  simp only [List.append_assoc]

theorem made_cells (z : Array Value) (n : Nat) : (madeCells z (n * z.size)).toList = (List.replicate n z.toList).flatten := by
  induction n with
  | zero => simp [madeCells]
  | succ n ih =>
    rw [List.replicate_succ', List.flatten_append, ← ih]
    apply List.ext_getElem?
    intro j
    by_cases hz : z.size = 0
    · have : z = #[] := Array.size_eq_zero_iff.1 hz
      subst this
      simp [madeCells]
    · by_cases h1 : j < n * z.size
      · rw [List.getElem?_append_left (by simpa [madeCells] using h1)]
        have h2 : j < (n + 1) * z.size := by rw [Nat.add_mul]; omega
        simp [madeCells, h1, h2]
      · rw [List.getElem?_append_right (by simpa [madeCells] using h1)]
        by_cases h2 : j < (n + 1) * z.size
        · rw [Nat.add_mul, Nat.one_mul] at h2
          have hm : j % z.size = j - n * z.size := by
            have hmc := Nat.mul_comm z.size n
            have e : j = (j - n * z.size) + z.size * n := by omega
            conv => lhs; rw [e]
            rw [Nat.add_mul_mod_self_left, Nat.mod_eq_of_lt (by omega)]
          have h3 : j - n * z.size < z.size := by omega
          have h2' : j < (n + 1) * z.size := by rw [Nat.add_mul, Nat.one_mul]; exact h2
          simp [madeCells, h2', hm, h3]
        · rw [List.getElem?_eq_none (by simp [madeCells]; omega), List.getElem?_eq_none]
          rw [Nat.add_mul, Nat.one_mul] at h2
          simp [madeCells]; omega

section
variable {P : Program} {Γ : Ctx} {Q : Exit → St → Prop} {st : St} {κ : Nat → Option Value} {Θ : Nat → Nat} {a : Act} {w : World} {all : Array Oper} {rest : List Oper}

theorem RdCs.pure {vs : List Value} {ds : List D} {bs : List Nat} (h : RdCs w κ vs ds bs) (hp : ds.all D.isP = true) : Rds w vs ds bs := by
  induction ds generalizing vs bs with
  | nil => cases h; exact .nil
  | cons d ds ih =>
    simp only [List.all_cons, Bool.and_eq_true] at hp
    cases h with
    | cons v vs _ _ b1 b2 h1 h2 h3 =>
      refine .cons _ _ _ _ _ _ h1 ?_ (ih h3 hp.2)
      cases h2 with
      | pure h => exact h
      | acc => simp [D.isP] at hp
      | ptr => simp [D.isP] at hp
      | op => simp [D.isP] at hp

theorem Rds.rep {vs : List Value} {ds : List D} (h : Rds w vs ds []) (m : Nat) : Rds w (List.replicate m vs).flatten (List.replicate m ds).flatten [] := by
  induction m with
  | zero => exact .nil
  | succ m ih =>
    simp only [List.replicate_succ, List.flatten_cons]
    have := h.app ih
    simpa using this


/-- a nil slice, shown as an empty one -/
def D.softC (d : D) : D := match d with
  | .nil => .sl []
  | d => d
theorem Rd.soft {v : Value} {d : D} {bs : List Nat} (h : Rd w v d bs) : Rd w v d.softC bs := by
  cases h with
  | nil => exact .slNil
  | any => exact .any _
  | int _ _ h => exact .int _ _ h
  | bool => exact .bool _
  | str _ h => exact .str _ h
  | val => exact .val _
  | slNil => exact .slNil
  | slEmpty a cap h => exact .slEmpty a cap h
  | sl b off cap sz rows cs bs h0 h1 h2 h3 h4 h5 => exact .sl b off cap sz rows cs bs h0 h1 h2 h3 h4 h5
  | agg cs ds bs h => exact .agg cs ds bs h
  | ep b off cs row o bs h0 h4 h5 => exact .ep b off cs row o bs h0 h4 h5
  | ifc0 => exact .ifc0
  | ifc1 t u => exact .ifc1 t u
theorem Rds.soft {vs : List Value} {ds : List D} {bs : List Nat} (h : Rds w vs ds bs) : Rds w vs (ds.map D.softC) bs := by
  induction ds generalizing vs bs with
  | nil => cases h; exact .nil
  | cons d ds ih => cases h with | cons v vs _ _ b1 b2 h1 h2 h3 => exact .cons _ _ _ _ _ _ h1 h2.soft (ih h3)

/-! cells that are handed over to a slice -/
def D.flat : D → Bool
  | .any => true
  | .nil => true
  | .int _ _ => true
  | .bool _ => true
  | .str _ => true
  | .val _ => true
  | _ => false
def absC (H : List Ob) (d : D) : Option (D × List Nat) := match d with
  | .acc m => (match (H[m]?).bind Ob.slOf with | some (_, rows) => some (.sl rows, [m]) | none => none)
  | .ptr _ _ => none
  | .op _ _ _ _ => none
  | d => some (d.softC, [])
def absL (H : List Ob) : List D → Option (List D × List Nat)
  | [] => some ([], [])
  | d :: ds => match absC H d, absL H ds with | some (e, m), some (es, ms) => some (e :: es, m ++ ms) | _, _ => none
def uqC (H : List Ob) (d : D) : Bool := match d with
  | .acc m => (match (H[m]?).bind Ob.slOf with | some (k, _) => (match k with | .uq => true | _ => false) | none => false)
  | d => d.flat
def rkOf (b : Bool) : RK := match b with | true => .uq | false => .sh
/-- cells of which the slices in full columns are full -/
def fulC (H : List Ob) (t : Option (TypeId × Nat)) (d : D) : Bool := match t with
  | none => true
  | some t' => (match d with
    | .acc m => (match (H[m]?).bind Ob.tOf with | some t2 => t2.1 == t'.1 && t2.2 == t'.2 | none => false)
    | .nil => Nat.blt 0 t'.2
    | .any => true
    | _ => false)
def fulL (H : List Ob) (f : Nat → Option (TypeId × Nat)) : Nat → List D → Bool
  | _, [] => true
  | i, d :: ds => fulC H (f i) d && fulL H f (i + 1) ds
def uqT (e : Nat) : Bool := match fspec e with | none => true | some _ => false
theorem uqT_none {e : Nat} (h : uqT e = true) : fspec e = none := by
  unfold uqT at h
  split at h
  · assumption
  · cases h
def uqL (H : List Ob) (e i : Nat) (ds : List D) : Bool := ds.all (uqC H) && (match fspec e with | none => true | some _ => fulL H (fcol e) i ds)

theorem Ob.mvB_rkOf (u : Bool) (e : TypeId) (sz : Nat) (rows : List (List D)) : (Ob.row (rkOf u) e sz rows).mvB = false := by cases u <;> rfl
theorem Rd.flat {v : Value} {d : D} {bs : List Nat} (h : Rd w v d bs) (hf : d.flat = true) : bs = [] := by
  cases h <;> first | rfl | simp [D.flat] at hf

theorem absC_inv {H : List Ob} {d e : D} {m : List Nat} (h : absC H d = some (e, m)) :
    (∃ m0 o k rows, d = .acc m0 ∧ H[m0]? = some o ∧ o.slOf = some (k, rows) ∧ e = .sl rows ∧ m = [m0]) ∨ (d.isP = true ∧ (∀ i, d ≠ .acc i) ∧ e = d.softC ∧ m = []) := by
  cases d with
  | acc m0 =>
    simp only [absC] at h
    split at h
    · rename_i k rows hH
      simp only [Option.some.injEq, Prod.mk.injEq] at h
      obtain ⟨rfl, rfl⟩ := h
      obtain ⟨o, hH, ho⟩ := Option.bind_eq_some_iff.1 hH
      exact .inl ⟨m0, o, k, rows, rfl, hH, ho, rfl, rfl⟩
    · cases h
  | ptr i o => simp [absC] at h
  | op i j s o => simp [absC] at h
  | _ => simp only [absC, Option.some.injEq, Prod.mk.injEq] at h; obtain ⟨rfl, rfl⟩ := h; exact .inr ⟨rfl, by simp, rfl, rfl⟩

theorem absL_mem {H : List Ob} : ∀ {ds es : List D} {ms : List Nat}, absL H ds = some (es, ms) → ∀ m ∈ ms, ∃ o k rows, H[m]? = some o ∧ o.slOf = some (k, rows) := by
  intro ds
  induction ds with
  | nil => intro es ms h; simp only [absL, Option.some.injEq, Prod.mk.injEq] at h; obtain ⟨rfl, rfl⟩ := h; simp
  | cons d ds ih =>
    intro es ms h
    simp only [absL] at h
    split at h
    · rename_i e m es' ms' h1 h2
      simp only [Option.some.injEq, Prod.mk.injEq] at h
      obtain ⟨rfl, rfl⟩ := h
      intro x hx
      rcases List.mem_append.1 hx with hx | hx
      · rcases absC_inv h1 with ⟨m0, o, k, rows', rfl, hH, hk, rfl, rfl⟩ | ⟨_, _, _, rfl⟩
        · simp at hx; subst hx; exact ⟨o, k, _, hH, hk⟩
        · simp at hx
      · exact ih h2 x hx
    · cases h

theorem fulC_acc {H : List Ob} {t' : TypeId × Nat} {m : Nat} {o : Ob} (h : fulC H (some t') (.acc m) = true) (hH : H[m]? = some o) : o.tOf = some t' := by
  simp only [fulC, hH, Option.bind_some] at h
  split at h
  · rename_i t2 e
    rw [e]
    simp only [Bool.and_eq_true, beq_iff_eq] at h
    obtain ⟨h1, h2⟩ := h
    obtain ⟨a1, a2⟩ := t2
    obtain ⟨c1, c2⟩ := t'
    simp only at h1 h2
    rw [h1, h2]
  · cases h
theorem fulC_rd {H : List Ob} {t' : TypeId × Nat} {d : D} {v : Value} {bs : List Nat} (h : fulC H (some t') d = true) (hna : ∀ i, d ≠ .acc i) (hr : Rd w v d bs) : FullC w t' v d.softC bs := by
  cases d with
  | acc i => exact absurd rfl (hna i)
  | nil =>
    simp only [fulC] at h
    cases hr
    exact .inr ⟨[], [], [], rfl, Nat.lt_of_lt_of_le Nat.zero_lt_one (by simpa [Nat.blt] using h), by simp, World.ownsRow_nil w 0 _ _, .nil, by simp [Value.ownBlock]⟩
  | any => cases hr; exact .inl ⟨rfl, rfl⟩
  | _ => simp [fulC] at h

theorem abs_rdF {H : List Ob} {ρ : Nat → Nat} {f : Nat → Option (TypeId × Nat)} : ∀ {ds es : List D} {ms : List Nat} {vs : List Value} {b0 : List Nat} (i : Nat), absL H ds = some (es, ms) → ms.Nodup → RdCs w κ vs ds b0 → (∀ b ∈ b0, Θ b = 0) →
    (∀ m ∈ ms, ∀ o k rows, H[m]? = some o → o.slOf = some (k, rows) → Melted κ Θ ρ w m k rows o.tOf) →
    ∃ bs, Rds w vs es bs ∧ (∀ b ∈ bs, Θ b = 0) ∧ (ds.all (uqC H) = true → bs.Nodup ∧ ∀ b ∈ bs, ∃ m ∈ ms, ρ b = m + 1) ∧ (fulL H f i ds = true → RdF w f i vs es bs) := by
  intro ds
  induction ds with
  | nil =>
    intro es ms vs b0 i h _ hr _ _
    simp only [absL, Option.some.injEq, Prod.mk.injEq] at h; obtain ⟨rfl, rfl⟩ := h
    cases hr
    exact ⟨[], .nil, by simp, by simp, fun _ => .nil _⟩
  | cons d ds ih =>
    intro es ms vs b0 i h hnd hr hz hm
    simp only [absL] at h
    split at h
    · rename_i e m es' ms' h1 h2
      simp only [Option.some.injEq, Prod.mk.injEq] at h
      obtain ⟨rfl, rfl⟩ := h
      obtain ⟨n1, n2, n3⟩ := List.nodup_append.1 hnd
      cases hr with
      | cons v vs _ _ b1 b2 hv hc hcs =>
        obtain ⟨bs2, q1, q2, q3, q7⟩ := ih (i + 1) h2 n2 hcs (fun b hb => hz b (by simp [hb])) (fun x hx => hm x (by simp [hx]))
        have one : ∃ bs1, Rd w v e bs1 ∧ (∀ b ∈ bs1, Θ b = 0) ∧ (uqC H d = true → bs1.Nodup ∧ ∀ b ∈ bs1, ∃ x ∈ m, ρ b = x + 1) ∧ (∀ t, f i = some t → fulC H (f i) d = true → FullC w t v e bs1) := by
          rcases absC_inv h1 with ⟨m0, o, k, rows', rfl, hH, hk, rfl, rfl⟩ | ⟨hp, hna, rfl, rfl⟩
          · obtain ⟨v', bs, r1, r2, r3, r4, r7⟩ := hm m0 (by simp) o k rows' hH hk
            cases hc with
            | pure hc => cases hc
            | acc _ _ hkv =>
              rw [hkv] at r1; cases r1
              refine ⟨bs, r2, r3, fun hq => ?_, fun t ht hf => r7 t (fulC_acc (by rwa [ht] at hf) hH)⟩
              simp only [uqC, hH, Option.bind_some, hk] at hq
              split at hq
              · obtain ⟨r5, r6⟩ := r4 rfl
                exact ⟨r5, fun b hb => ⟨m0, by simp, r6 b hb⟩⟩
              · cases hq
          · have hrd : Rd w v d b1 := by
              cases hc with
              | pure hc => exact hc
              | acc i _ _ => exact absurd rfl (hna i)
              | ptr i o _ _ => simp [D.isP] at hp
              | op i j s o _ _ _ _ _ => simp [D.isP] at hp
            refine ⟨b1, hrd.soft, fun b hb => hz b (by simp [hb]), fun hq => ?_, fun t ht hf => fulC_rd (by rwa [ht] at hf) hna hrd⟩
            have hf : d.flat = true := by
              unfold uqC at hq
              split at hq
              · exact absurd rfl (hna _)
              · exact hq
            rw [hrd.flat hf]
            exact ⟨by simp, by simp⟩
        obtain ⟨bs1, p1, p2, p3, p7⟩ := one
        refine ⟨bs1 ++ bs2, .cons _ _ _ _ _ _ hv p1 q1, fun b hb => ?_, fun hq => ?_, fun hf => ?_⟩
        · rcases List.mem_append.1 hb with hb | hb
          · exact p2 b hb
          · exact q2 b hb
        · simp only [List.all_cons, Bool.and_eq_true] at hq
          obtain ⟨p4, p5⟩ := p3 hq.1
          obtain ⟨q4, q5⟩ := q3 hq.2
          refine ⟨List.nodup_append.2 ⟨p4, q4, fun x hx y hy exy => ?_⟩, fun b hb => ?_⟩
          · subst exy
            obtain ⟨m1, hm1, e1⟩ := p5 x hx
            obtain ⟨m2, hm2, e2⟩ := q5 x hy
            exact n3 m1 hm1 m2 hm2 (by omega)
          · rcases List.mem_append.1 hb with hb | hb
            · obtain ⟨x, hx, ex⟩ := p5 b hb; exact ⟨x, by simp [hx], ex⟩
            · obtain ⟨x, hx, ex⟩ := q5 b hb; exact ⟨x, by simp [hx], ex⟩
        · simp only [fulL, Bool.and_eq_true] at hf
          exact .cons _ _ _ _ _ _ _ hv p1 (fun t ht => p7 t ht hf.1) (q7 hf.2)
    · cases h
/-- of cells that are handed over: what they show, and that it is all well where the abstract look says so -/
theorem abs_rd {H : List Ob} {ρ : Nat → Nat} {ds es : List D} {ms : List Nat} {vs : List Value} {b0 : List Nat} (h : absL H ds = some (es, ms)) (hnd : ms.Nodup) (hr : RdCs w κ vs ds b0) (hz : ∀ b ∈ b0, Θ b = 0)
    (hm : ∀ m ∈ ms, ∀ o k rows, H[m]? = some o → o.slOf = some (k, rows) → Melted κ Θ ρ w m k rows o.tOf) (e i : Nat := 0) :
    ∃ bs, Rds w vs es bs ∧ (∀ b ∈ bs, Θ b = 0) ∧ (uqL H e i ds = true → bs.Nodup ∧ (∀ b ∈ bs, ∃ m ∈ ms, ρ b = m + 1) ∧ RdF w (fcol e) i vs es bs) := by
  obtain ⟨bs, q1, q2, q3, q4⟩ := abs_rdF (f := fcol e) i h hnd hr hz hm
  refine ⟨bs, q1, q2, fun hq => ?_⟩
  simp only [uqL, Bool.and_eq_true] at hq
  obtain ⟨p1, p2⟩ := q3 hq.1
  refine ⟨p1, p2, ?_⟩
  have h2 := hq.2
  split at h2
  · rename_i hn; exact .of q1 (fcol_none hn)
  · exact q4 h2

theorem RdF.over {w' : World} {Θ' : Nat → Nat} {tag i : Nat} {f : Nat → Option (TypeId × Nat)} {vs : List Value} {ds : List D} {bs : List Nat} (h : RdF w f i vs ds bs) (k : Keeps w w' Θ Θ' tag) (hz : ∀ b ∈ bs, Θ b = 0) : RdF w' f i vs ds bs := by
  have := k.two
  exact h.keep fun b hb => k.block b (h.lt b hb) (by rw [hz b hb]; omega)
/-- ONE OBJECT IS TOLD ANEW; it may take over what lay in slices that are given up -/
theorem Sim.put (hs : Sim Γ st κ Θ a w) {H' : List Ob} {κ' : Nat → Option Value} {Θ' ρ : Nat → Nat} {w' : World} {id : Nat} {o : Ob} (ms : List Nat)
    (key : ∀ (j : Nat) x, H'[j]? = some x → (j = id ∧ x = o) ∨ (j ≠ id ∧ st.H[j]? = some x)) (hn : ∀ (j : Nat) v, κ j = some v → κ' j = some v)
    (hko : ∀ i, H'.length ≤ i → κ' i = none) (hk1 : ∀ (i : Nat) u, κ' i = some u → u.oneCell' = true) (k : Keeps w w' Θ Θ' (id + 2)) (hm : ∀ b, 2 ≤ Θ' b → Mine Γ b) (ho : ObRel w' κ' Θ' id o)
    (hu : Uniq Γ st.H κ Θ w ρ) (hms : ∀ m ∈ ms, ∀ x, m ≠ id → st.H[m]? = some x → x.uqB = false)
    (hq : ∀ e sz rows, o = .row .uq e sz rows → ∃ v cs bs, κ' id = some v ∧ w'.ownsRow 0 e sz v rows.length cs ∧ RdF w' (fcol e) 0 cs rows.flatten bs ∧ bs.Nodup ∧ ∀ b ∈ bs, ρ b = id + 1 ∨ ∃ m ∈ ms, ρ b = m + 1)
    (hmv : o.mvB = false := by first | rfl | exact Ob.mvB_rkOf _ _ _ _) :
    Sim Γ ⟨st.σ, H'⟩ κ' Θ' a w' := by
  have hus := hs.uniqStay k hn hu
  let ρ' : Nat → Nat := fun b => if ms.any (fun m => ρ b == m + 1) then id + 1 else ρ b
  have hρ0 : ∀ b, ρ' b ≠ 0 → ρ b ≠ 0 := by
    intro b hb h0
    simp only [ρ', h0] at hb
    split at hb
    · rename_i h
      obtain ⟨m, _, hm⟩ := List.any_eq_true.1 h
      simp at hm
    · exact hb rfl
  refine hs.step k hm hn hko hk1 ?_ ⟨ρ', fun b hb => hus.1 b (hρ0 b hb), ?_, ?_⟩
  · intro j x hj
    rcases key j x hj with ⟨rfl, rfl⟩ | ⟨h1, h2⟩
    · exact .inr (.inr ho)
    · exact .inr (.inl ⟨by omega, h2⟩)
  · intro j e sz rows hj
    rcases key j _ hj with ⟨rfl, ho'⟩ | ⟨h1, h2⟩
    · obtain ⟨v, cs, bs, q1, q2, q3, q4, q5⟩ := hq e sz rows ho'.symm
      refine ⟨v, cs, bs, q1, q2, q3, q4, fun b hb => ?_⟩
      simp only [ρ']
      split
      · rfl
      · rename_i hno
        rcases q5 b hb with h | ⟨m, hm1, hm2⟩
        · exact h
        · exact absurd (List.any_eq_true.2 ⟨m, hm1, by simp [hm2]⟩) hno
    · obtain ⟨v, cs, bs, q1, q2, q3, q4, q5⟩ := hus.2.1 j e sz rows (by omega) h2
      refine ⟨v, cs, bs, q1, q2, q3, q4, fun b hb => ?_⟩
      simp only [ρ']
      rw [if_neg]
      · exact q5 b hb
      · intro h
        obtain ⟨m, hm1, hm2⟩ := List.any_eq_true.1 h
        simp only [q5 b hb, beq_iff_eq] at hm2
        have : j = m := by omega
        subst this
        have := hms j hm1 _ h1 h2
        simp [Ob.uqB] at this
  · intro j x hj
    rcases key j _ hj with ⟨rfl, rfl⟩ | ⟨h1, h2⟩
    · exact UqM.plain2 hmv
    · by_cases hx : x.uqB = false
      · exact UqM.plain hx
      · refine (hus.2.2 j x (by omega) h2).re fun b hb => ?_
        simp only [ρ']
        rw [if_neg]
        · exact hb
        · intro h
          obtain ⟨m, hm1, hm2⟩ := List.any_eq_true.1 h
          simp only [hb, beq_iff_eq] at hm2
          have : j = m := by omega
          subst this
          exact hx (hms j hm1 _ h1 h2)

theorem push_key {H : List Ob} {o : Ob} : ∀ (j : Nat) x, (H ++ [o])[j]? = some x → (j = H.length ∧ x = o) ∨ (j ≠ H.length ∧ H[j]? = some x) := by
  intro j x hj
  by_cases hlt : j < H.length
  · rw [List.getElem?_append_left hlt] at hj
    exact .inr ⟨by omega, hj⟩
  · have hj' := (List.getElem?_eq_some_iff.1 hj).1
    simp only [List.length_append, List.length_cons, List.length_nil] at hj'
    have e : j = H.length := by omega
    subst e
    rw [List.getElem?_append_right (Nat.le_refl _)] at hj
    simp at hj
    exact .inl ⟨rfl, hj.symm⟩
theorem set_key {H : List Ob} {o : Ob} {id : Nat} : ∀ (j : Nat) x, (H.set id o)[j]? = some x → (j = id ∧ x = o) ∨ (j ≠ id ∧ H[j]? = some x) := by
  intro j x hj
  by_cases e : id = j
  · subst e
    have hlt : id < H.length := by
      have := (List.getElem?_eq_some_iff.1 hj).1
      simpa using this
    rw [List.getElem?_set_self hlt] at hj
    cases hj
    exact .inl ⟨rfl, rfl⟩
  · rw [List.getElem?_set_ne e] at hj
    exact .inr ⟨fun h => e h.symm, hj⟩

/-- a new slice of the call's own, in a block of its own -/
theorem Sim.newRow (hs : Sim Γ st κ Θ a w) {ρ : Nat → Nat} (hu : Uniq Γ st.H κ Θ w ρ) {u : Bool} {ms : List Nat} {e sz cap : Nat} {rows : List (List D)} {bs : List Nat} (cur : Array Value) (hsz : 0 < sz) (hrl : ∀ r ∈ rows, r.length = sz)
    (hcur : cur.size = cap * sz) (hn : rows.length ≤ cap) (hcap : cap ≤ maxLen) (hr : Rds w (cur.toList.take (rows.length * sz)) rows.flatten bs) (hz : ∀ b ∈ bs, Θ b = 0)
    (hms : ∀ m ∈ ms, ∀ x, st.H[m]? = some x → x.uqB = false) (hq : u = true → bs.Nodup ∧ (∀ b ∈ bs, ∃ m ∈ ms, ρ b = m + 1) ∧ RdF w (fcol e) 0 (cur.toList.take (rows.length * sz)) rows.flatten bs) :
    Sim Γ ⟨st.σ, st.H ++ [.row (rkOf u) e sz rows]⟩ (upd κ st.H.length (some (.slice (some ⟨w.heap.size, 0, none⟩) rows.length cap))) (fun b => if b = w.heap.size then st.H.length + 2 else Θ b) a (w.alloc (.cells cur e)) := by
  have k := Keeps.alloc hs (.cells cur e) (tag := st.H.length + 2) (by omega)
  obtain ⟨h1, h2⟩ := Rds.over k hr hz
  have hlen : (cur.toList.take (rows.length * sz)).length = rows.length * sz := by
    have : rows.length * sz ≤ cap * sz := Nat.mul_le_mul_right _ hn
    have h3 : cur.toList.length = cap * sz := by rw [← hcur]; simp
    rw [List.length_take, h3, Nat.min_eq_left this]
  have hown : (w.alloc (.cells cur e)).ownsRow 0 e sz (.slice (some ⟨w.heap.size, 0, none⟩) rows.length cap) rows.length (cur.toList.take (rows.length * sz)) :=
    ⟨hlen, .inr ⟨w.heap.size, cap, cur, rfl, by omega, heap_alloc_new w _, hn, hcap, hcur, rfl⟩⟩
  refine hs.put ms push_key (upd_old (hs.kout _ (Nat.le_refl _)) _) ?_ ?_ k (hs.keepsMine (fun b hb => by by_cases e : b = w.heap.size <;> simp_all)) ?_ hu (fun m hm x _ => hms m hm x) ?_
  · intro i hi
    simp only [List.length_append, List.length_cons, List.length_nil] at hi
    unfold upd
    rw [if_neg (by omega)]
    exact hs.kout i (by omega)
  · intro i x hx
    unfold upd at hx
    split at hx
    · cases hx; rfl
    · exact hs.kone i x hx
  · refine ⟨hsz, hrl, _, _, bs, by simp [upd], hown, h1, ?_, ?_⟩
    · intro g hg
      simp only [Value.ownBlock, Option.some.injEq] at hg
      subst hg
      simp
    · cases u <;> exact h2
  · intro e' sz' rows' he
    cases u with
    | false => simp [rkOf] at he
    | true =>
      simp only [rkOf, Ob.row.injEq, true_and] at he
      obtain ⟨rfl, rfl, rfl⟩ := he
      obtain ⟨q1, q2, q3⟩ := hq rfl
      exact ⟨_, _, bs, by simp [upd], hown, q3.over k hz, q1, fun b hb => .inr (q2 b hb)⟩

theorem AO_makeSlice {o : Oper} {T e sz t : Nat} {x y : Operand} {k k' : IntKind} {n : Int} {zs : List D} (hop : o.op = .makeSlice T x y) (hd : o.dst = some t) (hg : o.guard = none) (ht : t < Γ.nt)
    (hT : tel P T = some (e, sz)) (hz : tz P e = some zs) (hsz : 0 < sz) (hx : st.ev x = .int k n) (hy : st.ev y = .int k' n) (h0 : 0 ≤ n) (hroom : tby P e * n.toNat ≤ 281474976710656) (hmax : n.toNat ≤ 4611686018427387904)
    (h : AO P Γ all rest Q ⟨(t, .acc st.H.length) :: st.σ, st.H ++ [.row (rkOf (uqT e)) e sz (List.replicate n.toNat (zs.map D.softC))]⟩) : AO P Γ all (o :: rest) Q st := by
  intro κ Θ a w hs
  obtain ⟨b1, r1, _⟩ := hs.ev x
  obtain ⟨b2, r2, _⟩ := hs.ev y
  rw [hx] at r1
  rw [hy] at r2
  have e1 := r1.int_inv
  have e2 := r2.int_inv
  obtain ⟨hu, _, htsz⟩ := tel_parts hT
  obtain ⟨i, z, hi, hz0, hzsz, hlen, hone, rfl⟩ := zero_cells hz
  have hisz : i.size = sz := by rw [← htsz]; simp [tsz, Program.cellsOf, hi]
  have hby : i.bytes = tby P e := by simp [tby, Program.bytesOf, hi]
  obtain ⟨m, rfl⟩ := Int.eq_ofNat_of_zero_le h0
  simp only [Int.toNat_natCast] at hroom hmax h
  have hrun := run_make (P := P) w T e i z hu hi hz0 k k' m m (by omega) (by omega) (by rw [hby]; have := Int.ofNat_le.2 hroom; rw [Int.natCast_mul] at this; exact this) (by omega)
  simp only [Int.toNat_natCast] at hrun
  rw [← hzsz] at hrun
  have hmade := made_cells z.cells m
  obtain ⟨ρ, huq⟩ := hs.uniq
  have hrr : Rds w ((madeCells z.cells (m * z.cells.size)).toList.take ((List.replicate m ((z.cells.toList.map D.ofV).map D.softC)).length * sz)) (List.replicate m ((z.cells.toList.map D.ofV).map D.softC)).flatten [] := by
      rw [List.length_replicate, List.take_of_length_le (by simp [size_madeCells, hzsz, hisz]), hmade]
      have hcell := (ofV_cells (w := w) (κ := κ) z.cells.toList hone).pure (by
        rw [List.all_map, List.all_eq_true]
        intro c _
        simp only [Function.comp]
        unfold D.ofV
        split <;> (try split) <;> rfl)
      exact hcell.soft.rep m
  have hs' := hs.newRow huq (u := uqT e) (ms := []) (e := e) (sz := sz) (cap := m) (rows := List.replicate m ((z.cells.toList.map D.ofV).map D.softC)) (bs := []) (madeCells z.cells (m * z.cells.size)) hsz
    (by intro r hr; rw [List.eq_of_mem_replicate hr]; simp [hzsz, hisz]) (by rw [size_madeCells, hzsz, hisz]) (by simp) (by unfold maxLen; omega)
    hrr (by simp) (by simp) (fun hq => ⟨by simp, by simp, .of hrr (fcol_none (uqT_none hq))⟩)
  refine wpList_plain hg fun K hK => ?_
  unfold Oper.wp
  have hrun' : (execOp a.eval o).run P w = .ok (.value (.slice (some ⟨w.heap.size, 0, none⟩) m m)) (w.alloc (.cells (madeCells z.cells (m * z.cells.size)) e)) := by
    simp only [execOp, hop, e1, e2]
    simp [hrun]
  rw [hrun', Oper.upon_value, hd]
  simp only [List.length_replicate] at hs'
  refine hK _ _ (h _ _ _ _ (hs'.set (t := t) (d := .acc st.H.length) (bs := []) ht ?_ (by simp)))
  exact (RdC.acc st.H.length _ (by simp [upd])).toS

/-! slice literals -/
def rowPlaces (len sz : Nat) : List (Nat × Nat) := (List.range len).map fun i => (i * sz, sz)
def chunk (sz : Nat) : Nat → List D → List (List D)
  | 0, _ => []
  | n + 1, ds => ds.take sz :: chunk sz n (ds.drop sz)

theorem chunk_props (sz : Nat) : ∀ (n : Nat) (ds : List D), ds.length = n * sz → (chunk sz n ds).length = n ∧ (chunk sz n ds).flatten = ds ∧ ∀ r ∈ chunk sz n ds, r.length = sz := by
  intro n
  induction n with
  | zero => intro ds h; simp at h; subst h; simp [chunk]
  | succ n ih =>
    intro ds h
    rw [Nat.add_mul, Nat.one_mul] at h
    obtain ⟨h1, h2, h3⟩ := ih (ds.drop sz) (by rw [List.length_drop]; omega)
    refine ⟨by simp [chunk, h1], by simp [chunk, h2], fun r hr => ?_⟩
    rcases List.mem_cons.1 hr with rfl | hr
    · rw [List.length_take]; omega
    · exact h3 r hr

theorem fill_total {len sz : Nat} : ∀ (parts : List (Nat × Value)) (cs arr : Array Value), Instr.fill ((rowPlaces len sz).toArray[·]?) cs parts = some arr → Instr.fill (fun i => some (i * sz, sz)) cs parts = some arr := by
  intro parts
  induction parts with
  | nil => intro cs arr h; exact h
  | cons p parts ih =>
    intro cs arr h
    obtain ⟨i, v⟩ := p
    simp only [Instr.fill] at h ⊢
    split at h
    · cases h
    · rename_i off size hp
      have e : (off, size) = (i * sz, sz) := by
        simp only [rowPlaces, List.getElem?_toArray, List.getElem?_map] at hp
        cases hr : (List.range len)[i]? with
        | none => simp [hr] at hp
        | some j =>
          have hj := (List.getElem?_eq_some_iff.1 hr)
          simp only [hr, Option.map_some, Option.some.injEq] at hp
          have : j = i := by have := hj.2; simp at this; omega
          rw [← hp, this]
      cases e
      split at h
      · cases h
      · rename_i hc
        rw [if_neg hc]
        exact ih _ _ h

theorem pfill_length {places : List (Nat × Nat)} : ∀ (ps : List (Nat × D)) (cells ds : List D), pfill places cells ps = some ds → ds.length = cells.length := by
  intro ps
  induction ps with
  | nil => intro cells ds h; simp only [pfill, Option.some.injEq] at h; rw [h]
  | cons p ps ih =>
    intro cells ds h
    obtain ⟨i, d⟩ := p
    simp only [pfill] at h
    split at h
    · split at h
      · rename_i hc
        rw [ih _ _ h]
        simp; omega
      · cases h
    · cases h

/-- what a slice literal gives: its cells, before anything is given up for it -/
theorem buildSlice_run {o : Oper} {T e sz len : Nat} {parts : Array (Nat × Operand)} {zs ds : List D} (hop : o.op = .buildSlice T len parts)
    (hT : tel P T = some (e, sz)) (hz : tz P e = some zs) (hsz : 0 < sz) (hsmall : len * sz ≤ 16777216)
    (hf : pfill (rowPlaces len sz) (List.replicate len zs).flatten (parts.toList.map fun p => (p.1, st.ev p.2)) = some ds) (hs : Sim Γ st κ Θ a w) :
    ∃ (arr : Array Value) (b0 : List Nat), (execOp a.eval o).run P w = .ok (.value (.slice (some ⟨w.heap.size, 0, none⟩) len len)) (w.alloc (.cells arr e)) ∧ RdCs w κ arr.toList ds b0 ∧ (∀ b ∈ b0, Θ b = 0) ∧ arr.size = len * sz ∧ ds.length = len * sz := by
  obtain ⟨hu, _, htsz⟩ := tel_parts hT
  obtain ⟨i, z, hi, hz0, hzsz, hlen, hone, rfl⟩ := zero_cells hz
  have hisz : i.size = sz := by rw [← htsz]; simp [tsz, Program.cellsOf, hi]
  have hmade := made_cells z.cells len
  have hzero : RdCs w κ (madeCells z.cells (len * z.cells.size)).toList (List.replicate len (z.cells.toList.map D.ofV)).flatten [] := by
    rw [hmade]
    have hcell := (ofV_cells (w := w) (κ := κ) z.cells.toList hone).pure (by
      rw [List.all_map, List.all_eq_true]
      intro c _
      simp only [Function.comp]
      unfold D.ofV
      split <;> (try split) <;> rfl)
    exact RdCs.ofRds (hcell.rep len)
  obtain ⟨arr, b0, hfill, harr, hb0⟩ := fill_rd hs parts.toList _ _ ds [] hzero (by simp) hf
  have hfill' := fill_total _ _ _ hfill
  have hdl : ds.length = len * sz := by
    rw [pfill_length _ _ _ hf, flatten_len (sz := sz) (by intro r hr; rw [List.eq_of_mem_replicate hr]; simp [hzsz, hisz])]
    simp
  have hal : arr.size = len * sz := by have := harr.length; simp at this; omega
  refine ⟨arr, b0, ?_, harr, hb0, hal, hdl⟩
  simp only [execOp, hop]
  by_cases h0 : len * i.size = 0
  · have hl0 : len = 0 := by
      rw [hisz] at h0
      rcases Nat.mul_eq_zero.1 h0 with h | h
      · exact h
      · omega
    subst hl0
    have hma : madeCells z.cells (0 * z.cells.size) = #[] := by simp [madeCells]
    rw [hma] at hfill'
    have hpe : (parts.map fun (x : Nat × Operand) => (x.1, a.eval x.2)).toList = parts.toList.map fun p => (p.1, a.eval p.2) := by simp
    have hf2 := hfill'
    rw [← hpe, ← hisz] at hf2
    simp at hf2
    have hr0 : Array.range 0 = #[] := rfl
    simp [Instr.buildSlice, run_underlying hu, sizeOf, typeInfo, hi, newRow, hr0, hf2]
  · have hpe : (parts.map fun (x : Nat × Operand) => (x.1, a.eval x.2)).toList = parts.toList.map fun p => (p.1, a.eval p.2) := by simp
    have := run_buildSlice (P := P) w T e len (parts.map fun (x : Nat × Operand) => (x.1, a.eval x.2)) arr i z hu hi hz0 (by rw [hisz]; omega) h0 (by
      rw [hpe, hisz]
      have e2 : (Array.range (len * sz)).map (z.cells[· % z.cells.size]!) = madeCells z.cells (len * z.cells.size) := by unfold madeCells; rw [hzsz, hisz]
      rw [e2]; exact hfill')
    simp [this]

theorem AO_buildSlice {o : Oper} {T e sz len t : Nat} {parts : Array (Nat × Operand)} {zs ds es : List D} {ms : List Nat} (hop : o.op = .buildSlice T len parts) (hd : o.dst = some t) (hg : o.guard = none) (ht : t < Γ.nt)
    (hT : tel P T = some (e, sz)) (hz : tz P e = some zs) (hsz : 0 < sz) (hsmall : len * sz ≤ 16777216)
    (hf : pfill (rowPlaces len sz) (List.replicate len zs).flatten (parts.toList.map fun p => (p.1, st.ev p.2)) = some ds) (habs : absL st.H ds = some (es, ms)) (hnd : ms.Nodup)
    (h : AO P Γ all rest Q ⟨(t, .acc st.H.length) :: st.σ, kill st.H ms ++ [.row (rkOf (uqL st.H e 0 ds)) e sz (chunk sz len es)]⟩) : AO P Γ all (o :: rest) Q st := by
  intro κ Θ a w hs
  obtain ⟨arr, b0, hrun, harr, hb0, hal, hdl⟩ := buildSlice_run hop hT hz hsz hsmall hf hs
  obtain ⟨ρ, huq⟩ := hs.uniq
  obtain ⟨Θ1, ρ1, hs1, hu1, hm1, hz1, hr1⟩ := Sim.meltAllT ms hs huq hnd (absL_mem habs)
  obtain ⟨bs, q1, q2, q3⟩ := abs_rd (H := st.H) (ρ := ρ1) habs hnd harr (fun b hb => hz1 b (hb0 b hb)) hm1 e 0
  have hel : es.length = len * sz := by rw [← q1.length, harr.length, hdl]
  obtain ⟨c1, c2, c3⟩ := chunk_props sz len es hel
  have hs' := hs1.newRow hu1 (u := uqL st.H e 0 ds) (ms := ms) (e := e) (sz := sz) (cap := len) (rows := chunk sz len es) (bs := bs) arr hsz c3 hal (by rw [c1]; exact Nat.le_refl _)
    (by unfold maxLen; have : len * 1 ≤ len * sz := Nat.mul_le_mul_left _ hsz; omega) (by rw [c1, c2, List.take_of_length_le (by simp [hal])]; exact q1) q2
    (by
      intro m hm x hH
      rcases kill_get hH with h | ⟨h, _⟩
      · subst h; rfl
      · exact absurd hm h) (fun hq => ⟨(q3 hq).1, (q3 hq).2.1, by rw [c1, c2, List.take_of_length_le (by simp [hal])]; exact (q3 hq).2.2⟩)
  refine wpList_plain hg fun K hK => ?_
  unfold Oper.wp
  rw [hrun, Oper.upon_value, hd]
  rw [c1, kill_length] at hs'
  refine hK _ _ (h _ _ _ _ (hs'.set (t := t) (d := .acc st.H.length) (bs := []) ht ?_ (by simp)))
  exact (RdC.acc st.H.length _ (by simp [upd])).toS

end
end Go.Cx
