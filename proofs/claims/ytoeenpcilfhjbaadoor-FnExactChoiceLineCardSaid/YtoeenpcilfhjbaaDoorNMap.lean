/- Maps of the call's own: made, looked into, written into. No condition; plain lemmas. -/
import Derived.Test.YtoeenpcilfhjbaaDoorNPtr
import Derived.MapKept
namespace Go.Cx
set_option linter.unusedVariables false
set_option linter.unusedSimpArgs false
open Go.RowKit

section
variable {P : Program} {Γ : Ctx} {Q : Exit → St → Prop} {st : St} {κ κ' : Nat → Option Value} {Θ Θ' : Nat → Nat} {a : Act} {w w' : World} {all : Array Oper} {rest : List Oper}

theorem Sim.newMap (hs : Sim Γ st κ Θ a w) :
    Sim Γ ⟨st.σ, st.H ++ [.mp []]⟩ (upd κ st.H.length (some (.map (some w.heap.size)))) (fun b => if b = w.heap.size then st.H.length + 2 else Θ b) a (w.alloc (.map #[] 0)) := by
  have k := Keeps.alloc hs (.map #[] 0) (tag := st.H.length + 2) (by omega)
  refine hs.push rfl k (hs.keepsMine (fun b hb => by by_cases e : b = w.heap.size <;> simp_all)) ?_ rfl
  exact ⟨w.heap.size, #[], 0, by simp [upd], heap_alloc_new w _, by simp, rfl, by simp⟩

theorem AO_makeMap {o : Oper} {T t : Nat} (hop : o.op = .makeMap T none) (hd : o.dst = some t) (hg : o.guard = none) (ht : t < Γ.nt)
    (h : AO P Γ all rest Q ⟨(t, .acc st.H.length) :: st.σ, st.H ++ [.mp []]⟩) : AO P Γ all (o :: rest) Q st := by
  intro κ Θ a w hs
  have hs' := hs.newMap
  refine wpList_plain hg fun K hK => ?_
  unfold Oper.wp
  have hrun : (execOp a.eval o).run P w = .ok (.value (.map (some w.heap.size))) (w.alloc (.map #[] 0)) := by
    simp [execOp, hop, Instr.makeMap, newObj]
    rfl
  rw [hrun, Oper.upon_value, hd]
  refine hK _ _ (h _ _ _ _ (hs'.set (t := t) (d := .acc st.H.length) (bs := []) ht ?_ (by simp)))
  exact (RdC.acc st.H.length _ (upd_self _ _ _)).toS

theorem heap_set_other {w : World} {g : Nat} {o : Obj} {b : Nat} (h : b ≠ g) : (w.heap.setIfInBounds g o)[b]? = w.heap[b]? := by simp [Ne.symm h]

theorem KvRel.push {es : List MapEntry} {kv : List (D × D)} {k v : D} {u x : Value} (h : KvRel w es kv) (hk : Rd w u k []) (hv : Rd w x v []) (c : Nat) : KvRel w (es ++ [{ key := u, val := x, born := c }]) (kv ++ [(k, v)]) := by
  refine ⟨by simp [h.1], fun j e p h1 h2 => ?_⟩
  by_cases hj : j < es.length
  · rw [List.getElem?_append_left hj] at h1
    rw [List.getElem?_append_left (by rw [← h.1]; exact hj)] at h2
    exact h.2 j e p h1 h2
  · rw [List.getElem?_append_right (by omega)] at h1
    rw [List.getElem?_append_right (by rw [← h.1]; omega), ← h.1] at h2
    have e0 : j - es.length = 0 := by
      have := (List.getElem?_eq_some_iff.1 h1).1
      simp at this; omega
    rw [e0] at h1 h2
    simp at h1 h2
    subst h1; subst h2
    exact ⟨hk, hv⟩

theorem KvRel.put {es : List MapEntry} {kv : List (D × D)} {k v : D} {u x : Value} (h : KvRel w es kv) (hk : Rd w u k []) (hv : Rd w x v []) (i : Nat) {es' : List MapEntry} (hl : es'.length = es.length)
    (he : ∀ (j : Nat) e, es'[j]? = some e → (j = i ∧ e.key = u ∧ e.val = x) ∨ (j ≠ i ∧ es[j]? = some e)) : KvRel w es' (kv.set i (k, v)) := by
  refine ⟨by simp [hl, h.1], fun j e p h1 h2 => ?_⟩
  rcases he j e h1 with ⟨rfl, h3, h4⟩ | ⟨hne, h3⟩
  · have hlt : j < kv.length := by
      have := (List.getElem?_eq_some_iff.1 h2).1
      simpa using this
    rw [List.getElem?_set_self hlt] at h2
    cases h2
    rw [h3, h4]
    exact ⟨hk, hv⟩
  · rw [List.getElem?_set_ne (Ne.symm hne)] at h2
    exact h.2 j e p h3 h2

/-- what a map holds behind a write -/
theorem kv_put {kd : TypeDesc} {k v : D} {u : Value} (hkd : keyD kd k = true) (hu : Rd w u k []) : ∀ {es : List MapEntry} {kv kv' : List (D × D)} (i : Nat), KvRel w es kv → kvPut k v kv = some kv' →
    (Instr.findNow kd u es i = some none ∧ kv' = kv ++ [(k, v)]) ∨ ∃ j x e, Instr.findNow kd u es i = some (some (i + j, x)) ∧ es[j]? = some e ∧ e.key = u ∧ kv' = kv.set j (k, v) := by
  intro es
  induction es with
  | nil =>
    intro kv kv' i hr h
    cases kv with
    | nil => cases h; exact .inl ⟨rfl, rfl⟩
    | cons p kv => exact absurd hr.1 (by simp)
  | cons e es ih =>
    intro kv kv' i hr h
    cases kv with
    | nil => exact absurd hr.1 (by simp)
    | cons p kv =>
      obtain ⟨r1, r2, r3⟩ := hr.cons
      simp only [kvPut] at h
      split at h
      · rename_i hq
        cases h
        have := keq_now hkd hu r1 hq
        exact .inr ⟨0, e.val, e, by simp [Instr.findNow, this.1], rfl, this.2 rfl, rfl⟩
      · rename_i hq
        have hq' := (keq_now hkd hu r1 hq).1
        cases hk : kvPut k v kv with
        | none => rw [hk] at h; cases h
        | some kv1 =>
          rw [hk] at h
          cases h
          rcases ih (i + 1) r3 hk with ⟨h1, h2⟩ | ⟨j, x, e', h1, h2, h3, h4⟩
          · exact .inl ⟨by simpa [Instr.findNow, hq'] using h1, by rw [h2]; rfl⟩
          · exact .inr ⟨j + 1, x, e', by simp only [Instr.findNow, hq']; rw [h1]; congr 3; omega, by simpa using h2, h3, by rw [h4]; rfl⟩
      · cases h

theorem sameBits_key {kd : TypeDesc} {u : Value} (h : MapKept.IsKey kd u) (n : Nat) : Instr.sameBits n u u = true := by
  cases kd <;> cases u <;> simp [MapKept.IsKey] at h <;> simp [Instr.sameBits]
  all_goals first
    | exact (MapKept.bytes_beq _ _).2 rfl
    | rfl

/-- what a value in a map shows -/
def D.scalar : D → Bool
  | .str _ => true
  | .int _ _ => true
  | .bool _ => true
  | _ => false
theorem scalar_flat {v : Value} {d : D} {bs : List Nat} (hd : d.scalar = true) (hu : RdS w κ v d bs) : Rd w v d [] := by
  cases d <;> simp [D.scalar] at hd
  all_goals cases hu with | v h => cases h with | cell h => cases h with | pure h => cases h <;> (constructor <;> assumption)

theorem AO_mapUpdate {o : Oper} {T id : Nat} {x i y : Operand} {kd : TypeDesc} {dz : D} {kv kv' : List (D × D)} (hop : o.op = .mapUpdate T x i y) (hd : o.dst = none) (hg : o.guard = none)
    (hT : tmap P T = some (kd, dz)) (hx : st.ev x = .acc id) (hH : st.H[id]? = some (.mp kv)) (hkd : keyD kd (st.ev i) = true) (hsc : (st.ev y).scalar = true) (hput : kvPut (st.ev i) (st.ev y) kv = some kv')
    (h : AO P Γ all rest Q ⟨st.σ, st.H.set id (.mp kv')⟩) : AO P Γ all (o :: rest) Q st := by
  intro κ Θ a w hs
  obtain ⟨g, es, c, q1, q2, q3, q4⟩ := hs.ob id _ hH
  obtain ⟨bs, r, _⟩ := hs.ev x
  rw [hx] at r
  obtain ⟨hk, _⟩ := r.acc_inv
  rw [q1] at hk
  have hxv : a.eval x = .map (some g) := (Option.some.inj hk).symm
  obtain ⟨bi, ri, _⟩ := hs.ev i
  obtain ⟨by', ry, _⟩ := hs.ev y
  have hu := keyD_flat hkd ri
  have hv := scalar_flat hsc ry
  obtain ⟨kt, et, z, t1, t2, t3, t4⟩ := tmap_parts hT
  have hik := isKey_of hkd hu
  have hck := MapKept.run_checkKey (P := P) (w := w) t2 hik false 9999
  have hglt : g < w.heap.size := (Array.getElem?_eq_some_iff.1 q2).1
  have hidl : id < st.H.length := (List.getElem?_eq_some_iff.1 hH).1
  have hrun : ∃ es' c', (execOp a.eval o).run P w = .ok .skip { w with heap := w.heap.setIfInBounds g (.map es' c') } ∧ KvRel w es'.toList kv' := by
    rcases kv_put hkd hu 0 q4 hput with ⟨hn, rfl⟩ | ⟨j, x', e, hn, he, hek, rfl⟩
    · have hfk := MapKept.run_findKey (P := P) (w := w) t2 hn
      refine ⟨es.push { key := a.eval i, val := a.eval y, born := c }, c + 1, ?_, ?_⟩
      · simp [execOp, hop, hxv, Instr.mapUpdate, run_underlying t1, MapKept.run_getObj_map q2, hck, hfk, MapKept.run_setObj_map _ q2]
      · rw [Array.toList_push]
        exact q4.push hu hv c
    · rw [Nat.zero_add] at hn
      have hfk := MapKept.run_findKey (P := P) (w := w) t2 hn
      have hej : es[j]? = some e := by simpa using he
      have hst : (Instr.keyThatStays (((es[j]?).map (·.key)).getD (a.eval i)) (a.eval i)).run P w = .ok (a.eval i) w := by
        rw [hej]
        simp [Instr.keyThatStays, hek, sameBits_key hik]
      refine ⟨es.modify j fun e => { e with key := a.eval i, val := a.eval y }, c, ?_, ?_⟩
      · simp [execOp, hop, hxv, Instr.mapUpdate, run_underlying t1, MapKept.run_getObj_map q2, hck, hfk, hst, MapKept.run_setObj_map _ q2]
      · refine q4.put hu hv j (by simp) fun m e' hm => ?_
        rw [Array.getElem?_toList, Array.getElem?_modify] at hm
        by_cases hmj : j = m
        · subst hmj
          rw [if_pos rfl, hej] at hm
          cases hm
          exact .inl ⟨rfl, rfl, rfl⟩
        · rw [if_neg hmj] at hm
          exact .inr ⟨Ne.symm hmj, by simpa using hm⟩
  obtain ⟨es', c', hr, hrel⟩ := hrun
  have hother : ∀ b, b ≠ g → (w.heap.setIfInBounds g (.map es' c'))[b]? = w.heap[b]? := fun b hb => by simp [Ne.symm hb]
  have k : Keeps w { w with heap := w.heap.setIfInBounds g (.map es' c') } Θ Θ (id + 2) := by
    refine ⟨by omega, rfl, rfl, rfl, by simp, fun b hb hne => hother b fun e => hne (e ▸ q3), fun _ _ _ => rfl, fun b hb => ?_⟩
    simpa using hs.own b hb
  have hs' : Sim Γ ⟨st.σ, st.H.set id (.mp kv')⟩ κ Θ a { w with heap := w.heap.setIfInBounds g (.map es' c') } := by
    obtain ⟨ρ, hu'⟩ := hs.uniq
    have hus := hs.uniqStay k (fun _ _ h => h) hu'
    refine hs.step k hs.mine (fun _ _ h => h) (fun i hi => hs.kout i (by simpa using hi)) hs.kone ?_ ⟨ρ, hus.1, fun j e sz rows hj => ?_, fun j y hj => ?_⟩
    · intro j y' hj
      by_cases e : j = id
      · subst e
        rw [List.getElem?_set_self hidl] at hj
        cases hj
        exact .inr (.inr ⟨g, es', c', q1, by simp [hglt], q3, hrel.stay⟩)
      · rw [List.getElem?_set_ne (Ne.symm e)] at hj
        exact .inr (.inl ⟨by omega, hj⟩)
    · by_cases e' : j = id
      · subst e'
        rw [List.getElem?_set_self hidl] at hj
        cases hj
      · rw [List.getElem?_set_ne (Ne.symm e')] at hj
        exact hus.2.1 j e sz rows (by omega) hj
    · by_cases e' : j = id
      · subst e'
        rw [List.getElem?_set_self hidl] at hj
        cases hj; trivial
      · rw [List.getElem?_set_ne (Ne.symm e')] at hj
        exact hus.2.2 j y (by omega) hj
  refine wpList_plain hg fun K hK => ?_
  unfold Oper.wp
  rw [hr, Oper.upon_skip, hd]
  exact hK _ _ (h _ _ _ _ hs')
end
end Go.Cx
