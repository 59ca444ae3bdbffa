/- The operations that make or change memory, as rules of the abstract walk: box, alloc, store, slices made, built, appended to and given up; guards, tests. No condition; plain lemmas. -/
import Derived.Test.YtnagcfnebfhnhaaMem
namespace Go.Bx
open Go.RowKit

section
variable {P : Program} {Γ : Ctx} {Q : Exit → St → Prop} {st : St} {κ : Nat → Option Value} {Θ : Nat → Nat} {a : Act} {w : World} {all : Array Oper} {rest : List Oper}

/-! tests and guards -/
theorem AW_cond {c : Operand} {x y : Code} {b : Bool} (hc : st.ev c = .bool b) (ht : b = true → AW P Γ x Q st) (hf : b = false → AW P Γ y Q st) : AW P Γ (.cond c x y) Q st := by
  intro κ Θ a w hs
  obtain ⟨bs, r, _⟩ := hs.ev c
  rw [hc] at r
  exact wp_cond_split r.bool_inv (fun h => ht h κ Θ a w hs) (fun h => hf h κ Θ a w hs)

theorem AO_guard {o : Oper} {j s : Nat} {want b : Bool} (hg : o.guard = some (j, want)) (hj : (all[j]?).bind (·.dst) = some s) (hb : lk st.σ s = .bool b)
    (hd : ∀ t, o.dst = some t → t < Γ.nt)
    (hyes : b = want → AO P Γ all ({ o with guard := none } :: rest) Q st) (hno : b ≠ want → AO P Γ all rest Q (st.put o.dst .any)) : AO P Γ all (o :: rest) Q st := by
  intro κ Θ a w hs
  obtain ⟨bs, r, _⟩ := hs.slot s
  rw [hb] at r
  have hv := r.bool_inv
  have hlt : s < a.tmps.size := by
    rcases Nat.lt_or_ge s a.tmps.size with h | h
    · exact h
    · exfalso
      rw [Array.getD_eq_getD_getElem?, Array.getElem?_eq_none h] at hv
      simp [undef] at hv
  have hy : yielded all a.tmps j = some b := by
    have h1 : a.tmps[s]? = some (.bool b) := by
      rw [Array.getD_eq_getD_getElem?, Array.getElem?_eq_getElem hlt] at hv
      rw [Array.getElem?_eq_getElem hlt]
      simpa using hv
    simp [yielded, hj, h1]
  by_cases e : b = want
  · have := hyes e κ Θ a w hs
    unfold wpList at this ⊢
    have hw : Region.wanted o (yielded all a.tmps) = true := by simp [Region.wanted, hg, hy, e]
    have hw' : Region.wanted { o with guard := none } (yielded all a.tmps) = true := rfl
    rw [if_pos hw]
    rw [if_pos hw'] at this
    exact this
  · have hw : Region.wanted o (yielded all a.tmps) = false := by simp [Region.wanted, hg, hy, e]
    unfold wpList
    rw [hw, if_neg (by simp)]
    refine hno e κ Θ _ w ?_
    cases hdst : o.dst with
    | none => exact hs
    | some t => exact hs.set (hd t hdst) (.of (.any _)) (by simp)

/-! new blocks -/
theorem Keeps.alloc (hs : Sim Γ st κ Θ a w) (o : Obj) {tag : Nat} (h2 : 2 ≤ tag) : Keeps w (w.alloc o) Θ (fun b => if b = w.heap.size then tag else Θ b) tag := by
  refine ⟨h2, rfl, rfl, rfl, by simp, fun b hb _ => Below.heap_alloc w o b hb, fun b hb _ => ?_, fun b hb => ?_⟩
  · rw [if_neg (by omega)]
  · by_cases e : b = w.heap.size
    · subst e; simp
    · rw [if_neg e] at hb
      have := hs.own b hb
      simp; omega

theorem Sim.newBox (hs : Sim Γ st κ Θ a w) {cs : Array Value} {ds : List D} {bs : List Nat} (T : TypeId) (hr : RdCs w κ cs.toList ds bs) (hz : ∀ b ∈ bs, Θ b = 0) :
    Sim Γ ⟨st.σ, st.H ++ [.box ds]⟩ (upd κ st.H.length (some (.pointer (some ⟨w.heap.size, 0, none⟩)))) (fun b => if b = w.heap.size then st.H.length + 2 else Θ b) a (w.alloc (.cells cs T)) := by
  have k := Keeps.alloc hs (.cells cs T) (tag := st.H.length + 2) (by omega)
  refine hs.push rfl k ?_
  have hn := upd_old (hs.kout _ (Nat.le_refl _)) (some (Value.pointer (some ⟨w.heap.size, 0, none⟩)))
  obtain ⟨h1, h2⟩ := RdCs.stay k hn hr hz
  exact ⟨w.heap.size, cs, T, by simp [upd], heap_alloc_new w _, hs.base, by simp, bs, h1, h2⟩

theorem AO_box {o : Oper} {T t : Nat} {x : Operand} {ds : List D} (hop : o.op = .box T x) (hd : o.dst = some t) (hg : o.guard = none) (ht : t < Γ.nt)
    (hc : (st.ev x).cellsOf = some ds) (h : AO P Γ all rest Q ⟨(t, .ptr st.H.length 0) :: st.σ, st.H ++ [.box ds]⟩) : AO P Γ all (o :: rest) Q st := by
  intro κ Θ a w hs
  obtain ⟨bs, r, hz⟩ := hs.ev x
  have hcs := cells_rd hs.kone r hc
  have hs' := hs.newBox T hcs hz
  refine wpList_plain hg fun K hK => ?_
  unfold Oper.wp
  have hrun : (execOp a.eval o).run P w = .ok (.value (.pointer (some ⟨w.heap.size, 0, none⟩))) (w.alloc (.cells (a.eval x).cells T)) := by
    simp [execOp, hop, Instr.box, newVar, newRow]
  rw [hrun, Oper.upon_value, hd]
  refine hK _ _ (h _ _ _ _ (hs'.set (t := t) (d := .ptr st.H.length 0) (bs := []) ht ?_ (by simp)))
  exact (RdC.ptr st.H.length 0 w.heap.size (by simp [upd])).toS

theorem AO_alloc {o : Oper} {T t : Nat} {zs : List D} (hop : o.op = .alloc T) (hd : o.dst = some t) (hg : o.guard = none) (ht : t < Γ.nt)
    (hz : tz P T = some zs) (h : AO P Γ all rest Q ⟨(t, .ptr st.H.length 0) :: st.σ, st.H ++ [.box zs]⟩) : AO P Γ all (o :: rest) Q st := by
  intro κ Θ a w hs
  obtain ⟨i, z, hi, hz0, hsz, hlen, hone, rfl⟩ := zero_cells hz
  have hs' := hs.newBox T (cs := z.cells) (ofV_cells z.cells.toList hone) (by simp)
  refine wpList_plain hg fun K hK => ?_
  unfold Oper.wp
  have hrun : (execOp a.eval o).run P w = .ok (.value (.pointer (some ⟨w.heap.size, 0, none⟩))) (w.alloc (.cells z.cells T)) := by
    simp [execOp, hop, Instr.alloc, zeroValue, typeInfo, hi, hz0, newVar, newRow]
  rw [hrun, Oper.upon_value, hd]
  refine hK _ _ (h _ _ _ _ (hs'.set (t := t) (d := .ptr st.H.length 0) (bs := []) ht ?_ (by simp)))
  exact (RdC.ptr st.H.length 0 w.heap.size (by simp [upd])).toS

/-! stores -/
theorem Keeps.setRow (hs : Sim Γ st κ Θ a w) {g : Nat} {cs : Array Value} {tag : Nat} (h2 : 2 ≤ tag) (hg : Θ g = tag) : Keeps w (w.setRow g cs) Θ Θ tag := by
  refine ⟨h2, rfl, rfl, rfl, by simp, fun b _ hne => setRow_other w g b cs (fun e => hne (e ▸ hg)), fun b _ _ => rfl, fun b hb => ?_⟩
  simpa using hs.own b hb

theorem run_storeAt {T g off : Nat} {v : Value} {cur : Array Value} {e : TypeId} (hg : w.heap[g]? = some (.cells cur e (0, 0))) (hsz : v.cells.size = tsz P T) (hinf : ∃ i, P.info? T = some i)
    (hfit : off + v.cells.size ≤ cur.size) (hone : ∀ c ∈ v.cells.toList, c.oneCell' = true) :
    (Instr.storeAt T (.pointer (some ⟨g, off, none⟩)) v).run P w = .ok () (w.setRow g (cur.toList.take off ++ v.cells.toList ++ cur.toList.drop (off + v.cells.toList.length)).toArray) := by
  have := run_storeCells_at P g off e v.cells.toList 0 cur w hg (by simpa using hfit) hone
  simp only [Nat.add_zero] at this
  simp [Instr.storeAt, Instr.sureAddr, storeVar, run_size hinf, hsz, this]

def tinf (P : Program) (t : TypeId) : Bool := (P.info? t).isSome

theorem AO_store {o : Oper} {T id off : Nat} {x y : Operand} {cells ds : List D} (hop : o.op = .store T x y) (hd : o.dst = none) (hg : o.guard = none)
    (hx : st.ev x = .ptr id off) (hH : st.H[id]? = some (.box cells)) (hc : (st.ev y).cellsOf = some ds) (hT : tinf P T = true) (hl : ds.length = tsz P T) (hfit : off + ds.length ≤ cells.length)
    (h : AO P Γ all rest Q ⟨st.σ, st.H.set id (.box (cells.take off ++ ds ++ cells.drop (off + ds.length)))⟩) : AO P Γ all (o :: rest) Q st := by
  intro κ Θ a w hs
  obtain ⟨b1, r1, _⟩ := hs.ev x
  obtain ⟨b2, r2, hz2⟩ := hs.ev y
  rw [hx] at r1
  obtain ⟨g, hk, hv⟩ := r1.ptr_inv
  obtain ⟨g', cs, Tb, hk', hgc, hn0, hΘ, bs, hrs, hz⟩ := hs.ob id _ hH
  rw [hk] at hk'
  cases hk'
  have hcs := cells_rd hs.kone r2 hc
  have hl1 := hcs.length
  have hl2 := hrs.length
  have hsz : (a.eval y).cells.size = tsz P T := by rw [← hl, ← hl1]; simp
  have hst := run_storeAt (P := P) (T := T) (off := off) hgc hsz (Option.isSome_iff_exists.1 hT) (by
    have : (a.eval y).cells.size = ds.length := by rw [← hl1]; simp
    have h3 : cs.size = cells.length := by rw [← hl2]; simp
    omega) hcs.one
  have k := Keeps.setRow hs (g := g) (cs := (cs.toList.take off ++ (a.eval y).cells.toList ++ cs.toList.drop (off + (a.eval y).cells.toList.length)).toArray) (tag := id + 2) (by omega) hΘ
  refine wpList_plain hg fun K hK => ?_
  unfold Oper.wp
  have hrun : (execOp a.eval o).run P w = .ok .skip (w.setRow g (cs.toList.take off ++ (a.eval y).cells.toList ++ cs.toList.drop (off + (a.eval y).cells.toList.length)).toArray) := by
    simp only [execOp, hop, hv]
    simp [hst]
  rw [hrun, Oper.upon_skip, hd]
  refine hK _ _ (h _ _ _ _ (hs.change k ?_))
  have e : cells = cells.take off ++ ((cells.drop off).take ds.length ++ (cells.drop off).drop ds.length) := by rw [List.take_append_drop, List.take_append_drop]
  rw [e] at hrs
  obtain ⟨v1, v2, c1, c2, hv12, rfl, k1, k2⟩ := hrs.split
  obtain ⟨v3, v4, c3, c4, rfl, rfl, k3, k4⟩ := k2.split
  have l1 : v1.length = off := by rw [k1.length]; simp; omega
  have l3 : v3.length = ds.length := by rw [k3.length]; simp; omega
  have e1 : cs.toList.take off = v1 := by rw [hv12]; exact List.take_left' l1
  have e4 : cs.toList.drop (off + (a.eval y).cells.toList.length) = v4 := by
    rw [hv12, ← List.drop_drop, List.drop_left' l1, hl1]; exact List.drop_left' l3
  have hnew : RdCs w κ (v1 ++ (a.eval y).cells.toList ++ v4) (cells.take off ++ ds ++ cells.drop (off + ds.length)) ((c1 ++ b2) ++ c4) := by
    rw [List.drop_drop] at k4
    exact (k1.app hcs).app k4
  have hz' : ∀ b ∈ ((c1 ++ b2) ++ c4), Θ b = 0 := by
    intro b hb
    simp only [List.mem_append] at hb
    rcases hb with (hb | hb) | hb
    · exact hz b (by simp [hb])
    · exact hz2 b hb
    · exact hz b (by simp [hb])
  obtain ⟨h1, h2⟩ := RdCs.stay k (fun _ _ h => h) hnew hz'
  refine ⟨g, _, Tb, hk, setRow_heap w g cs _ Tb _ hgc, hn0, hΘ, _, ?_, h2⟩
  rw [e1, e4] at h1 ⊢
  exact h1

end

end Go.Bx
