/- Slices of the call's own, as rules of the abstract walk: made, built, written into, appended to, given up. No condition; plain lemmas. -/
import Derived.Test.YtnagcfnebfhnhaaOps
namespace Go.Bx
open Go.RowKit

def D.isP : D → Bool
  | .acc _ => false
  | .ptr _ _ => false
  | .op _ _ _ _ => false
  | _ => true
def tby (P : Program) (t : TypeId) : Nat := P.bytesOf t

theorem mem_split {α : Type} {l : List α} {i : Nat} {x : α} (h : l[i]? = some x) : ∃ p q, l = p ++ x :: q ∧ p.length = i := by
  have hlt := (List.getElem?_eq_some_iff.1 h).1
  have hx := (List.getElem?_eq_some_iff.1 h).2
  refine ⟨l.take i, l.drop (i + 1), ?_, by simp; omega⟩
  rw [← hx, List.getElem_cons_drop, List.take_append_drop]

theorem flatten_set {rows : List (List D)} {sz i off : Nat} {row ds : List D} (hrl : ∀ r ∈ rows, r.length = sz) (hr : rows[i]? = some row) (hfit : off + ds.length ≤ sz) :
    (rows.set i (row.take off ++ ds ++ row.drop (off + ds.length))).flatten = rows.flatten.take (i * sz + off) ++ ds ++ rows.flatten.drop (i * sz + off + ds.length) := by
  obtain ⟨p, q, rfl, rfl⟩ := mem_split hr
  have hrow : row.length = sz := hrl row (by simp)
  have hp : p.flatten.length = p.length * sz := flatten_len (fun r hr => hrl r (by simp [hr]))
  rw [List.set_append_right _ _ (Nat.le_refl _), Nat.sub_self, List.set_cons_zero]
  simp only [List.flatten_append, List.flatten_cons]
  rw [← hp, List.take_length_add_append, Nat.add_assoc, List.drop_length_add_append, List.take_append_of_le_length (by omega), List.drop_append_of_le_length (by omega)]
  simp only [List.append_assoc]

theorem made_cells (z : Array Value) (n : Nat) : (madeCells z (n * z.size)).toList = (List.replicate n z.toList).flatten := by
  induction n with
  | zero => simp [madeCells]
  | succ n ih =>
    rw [List.replicate_succ', List.flatten_append, ← ih]
    apply List.ext_getElem?
    intro j
    by_cases hz : z.size = 0
    · have : z = #[] := Array.size_eq_zero_iff.1 hz
      subst this
      simp [madeCells]
    · by_cases h1 : j < n * z.size
      · rw [List.getElem?_append_left (by simpa [madeCells] using h1)]
        have h2 : j < (n + 1) * z.size := by rw [Nat.add_mul]; omega
        simp [madeCells, h1, h2]
      · rw [List.getElem?_append_right (by simpa [madeCells] using h1)]
        by_cases h2 : j < (n + 1) * z.size
        · rw [Nat.add_mul, Nat.one_mul] at h2
          have hm : j % z.size = j - n * z.size := by
            have hmc := Nat.mul_comm z.size n
            have e : j = (j - n * z.size) + z.size * n := by omega
            conv => lhs; rw [e]
            rw [Nat.add_mul_mod_self_left, Nat.mod_eq_of_lt (by omega)]
          have h3 : j - n * z.size < z.size := by omega
          have h2' : j < (n + 1) * z.size := by rw [Nat.add_mul, Nat.one_mul]; exact h2
          simp [madeCells, h2', hm, h3]
        · rw [List.getElem?_eq_none (by simp [madeCells]; omega), List.getElem?_eq_none]
          rw [Nat.add_mul, Nat.one_mul] at h2
          simp [madeCells]; omega

section
variable {P : Program} {Γ : Ctx} {Q : Exit → St → Prop} {st : St} {κ : Nat → Option Value} {Θ : Nat → Nat} {a : Act} {w : World} {all : Array Oper} {rest : List Oper}

theorem RdCs.pure {vs : List Value} {ds : List D} {bs : List Nat} (h : RdCs w κ vs ds bs) (hp : ds.all D.isP = true) : Rds w vs ds bs := by
  induction ds generalizing vs bs with
  | nil => cases h; exact .nil
  | cons d ds ih =>
    simp only [List.all_cons, Bool.and_eq_true] at hp
    cases h with
    | cons v vs _ _ b1 b2 h1 h2 h3 =>
      refine .cons _ _ _ _ _ _ h1 ?_ (ih h3 hp.2)
      cases h2 with
      | pure h => exact h
      | acc => simp [D.isP] at hp
      | ptr => simp [D.isP] at hp
      | op => simp [D.isP] at hp

theorem Rds.rep {vs : List Value} {ds : List D} (h : Rds w vs ds []) (m : Nat) : Rds w (List.replicate m vs).flatten (List.replicate m ds).flatten [] := by
  induction m with
  | zero => exact .nil
  | succ m ih =>
    simp only [List.replicate_succ, List.flatten_cons]
    have := h.app ih
    simpa using this

theorem Sim.newRow (hs : Sim Γ st κ Θ a w) {e sz cap : Nat} {rows : List (List D)} {bs : List Nat} (cur : Array Value) (hsz : 0 < sz) (hrl : ∀ r ∈ rows, r.length = sz)
    (hcur : cur.size = cap * sz) (hn : rows.length ≤ cap) (hcap : cap ≤ maxLen) (hr : Rds w (cur.toList.take (rows.length * sz)) rows.flatten bs) (hz : ∀ b ∈ bs, Θ b = 0) :
    Sim Γ ⟨st.σ, st.H ++ [.row false e sz rows]⟩ (upd κ st.H.length (some (.slice (some ⟨w.heap.size, 0, none⟩) rows.length cap))) (fun b => if b = w.heap.size then st.H.length + 2 else Θ b) a (w.alloc (.cells cur e)) := by
  have k := Keeps.alloc hs (.cells cur e) (tag := st.H.length + 2) (by omega)
  refine hs.push rfl k ?_
  obtain ⟨h1, h2⟩ := Rds.over k hr hz
  refine ⟨hsz, hrl, _, _, bs, by simp [upd], ⟨?_, .inr ⟨w.heap.size, cap, cur, rfl, hs.base, heap_alloc_new w _, hn, hcap, hcur, rfl⟩⟩, h1, ?_, h2⟩
  · have : rows.length * sz ≤ cap * sz := Nat.mul_le_mul_right _ hn
    have h3 : cur.toList.length = cap * sz := by rw [← hcur]; simp
    rw [List.length_take, h3, Nat.min_eq_left this]
  · intro g hg
    simp only [Value.ownBlock, Option.some.injEq] at hg
    subst hg
    simp

theorem AO_makeSlice {o : Oper} {T e sz t : Nat} {x y : Operand} {k k' : IntKind} {n : Int} {zs : List D} (hop : o.op = .makeSlice T x y) (hd : o.dst = some t) (hg : o.guard = none) (ht : t < Γ.nt)
    (hT : tel P T = some (e, sz)) (hz : tz P e = some zs) (hsz : 0 < sz) (hx : st.ev x = .int k n) (hy : st.ev y = .int k' n) (h0 : 0 ≤ n) (hroom : tby P e * n.toNat ≤ 281474976710656) (hmax : n.toNat ≤ 4611686018427387904)
    (h : AO P Γ all rest Q ⟨(t, .acc st.H.length) :: st.σ, st.H ++ [.row false e sz (List.replicate n.toNat zs)]⟩) : AO P Γ all (o :: rest) Q st := by
  intro κ Θ a w hs
  obtain ⟨b1, r1, _⟩ := hs.ev x
  obtain ⟨b2, r2, _⟩ := hs.ev y
  rw [hx] at r1
  rw [hy] at r2
  have e1 := r1.int_inv
  have e2 := r2.int_inv
  obtain ⟨hu, _, htsz⟩ := tel_parts hT
  obtain ⟨i, z, hi, hz0, hzsz, hlen, hone, rfl⟩ := zero_cells hz
  have hisz : i.size = sz := by rw [← htsz]; simp [tsz, Program.cellsOf, hi]
  have hby : i.bytes = tby P e := by simp [tby, Program.bytesOf, hi]
  obtain ⟨m, rfl⟩ := Int.eq_ofNat_of_zero_le h0
  simp only [Int.toNat_natCast] at hroom hmax h
  have hrun := run_make (P := P) w T e i z hu hi hz0 k k' m m (by omega) (by omega) (by rw [hby]; have := Int.ofNat_le.2 hroom; rw [Int.natCast_mul] at this; exact this) (by omega)
  simp only [Int.toNat_natCast] at hrun
  rw [← hzsz] at hrun
  have hmade := made_cells z.cells m
  have hs' := hs.newRow (e := e) (sz := sz) (cap := m) (rows := List.replicate m (z.cells.toList.map D.ofV)) (bs := []) (madeCells z.cells (m * z.cells.size)) hsz
    (by intro r hr; rw [List.eq_of_mem_replicate hr]; simp [hzsz, hisz]) (by rw [size_madeCells, hzsz, hisz]) (by simp) (by unfold maxLen; omega)
    (by
      rw [List.length_replicate, List.take_of_length_le (by simp [size_madeCells, hzsz, hisz]), hmade]
      have hcell := (ofV_cells (w := w) (κ := κ) z.cells.toList hone).pure (by
        rw [List.all_map, List.all_eq_true]
        intro c _
        simp only [Function.comp]
        unfold D.ofV
        split <;> (try split) <;> rfl)
      exact hcell.rep m) (by simp)
  refine wpList_plain hg fun K hK => ?_
  unfold Oper.wp
  have hrun' : (execOp a.eval o).run P w = .ok (.value (.slice (some ⟨w.heap.size, 0, none⟩) m m)) (w.alloc (.cells (madeCells z.cells (m * z.cells.size)) e)) := by
    simp only [execOp, hop, e1, e2]
    simp [hrun]
  rw [hrun', Oper.upon_value, hd]
  refine hK _ _ (h _ _ _ _ (hs'.set (t := t) (d := .acc st.H.length) (bs := []) ht ?_ (by simp)))
  exact (RdC.acc st.H.length _ (by simp [upd])).toS

theorem AO_storeRow {o : Oper} {T id i sz off e : Nat} {x y : Operand} {rows : List (List D)} {row ds : List D} (hop : o.op = .store T x y) (hd : o.dst = none) (hg : o.guard = none)
    (hx : st.ev x = .op id i sz off) (hH : st.H[id]? = some (.row false e sz rows)) (hrow : rows[i]? = some row) (hc : (st.ev y).cellsOf = some ds) (hp : ds.all D.isP = true) (hT : tinf P T = true) (hl : ds.length = tsz P T)
    (hfit : off + ds.length ≤ sz)
    (h : AO P Γ all rest Q ⟨st.σ, st.H.set id (.row false e sz (rows.set i (row.take off ++ ds ++ row.drop (off + ds.length))))⟩) : AO P Γ all (o :: rest) Q st := by
  intro κ Θ a w hs
  obtain ⟨b1, r1, _⟩ := hs.ev x
  obtain ⟨b2, r2, hz2⟩ := hs.ev y
  rw [hx] at r1
  obtain ⟨g, len, cap, hk, hv⟩ := r1.op_inv
  obtain ⟨hsz, hrl, vk, cs, bs, hvk, hown, hrs, hΘ, hz⟩ := hs.ob id _ hH
  rw [hk] at hvk
  cases hvk
  rcases hown.2 with ⟨hnil, _⟩ | ⟨g', cap2, cur, hkv, hb, hgg, hnc, hcm, hcs, htake⟩
  · cases hnil
  · cases hkv
    have hΘg := hΘ g (by simp [Value.ownBlock])
    have hcv := cells_rd hs.kone r2 hc
    have hcp := hcv.pure hp
    have hl1 := hcv.length
    have hilt : i < rows.length := (List.getElem?_eq_some_iff.1 hrow).1
    have hile : (i + 1) * sz ≤ rows.length * sz := Nat.mul_le_mul_right _ hilt
    have hncs : rows.length * sz ≤ cap * sz := Nat.mul_le_mul_right _ hnc
    rw [Nat.add_mul, Nat.one_mul] at hile
    have hsz2 : (a.eval y).cells.size = tsz P T := by rw [← hl, ← hl1]; simp
    have hsz3 : (a.eval y).cells.size = ds.length := by rw [← hl1]; simp
    have hst := run_storeAt (P := P) (T := T) (off := i * sz + off) hgg hsz2 (Option.isSome_iff_exists.1 hT) (by omega) hcv.one
    have k := Keeps.setRow hs (g := g) (cs := (cur.toList.take (i * sz + off) ++ (a.eval y).cells.toList ++ cur.toList.drop (i * sz + off + (a.eval y).cells.toList.length)).toArray) (tag := id + 2) (by omega) hΘg
    refine wpList_plain hg fun K hK => ?_
    unfold Oper.wp
    have hrun : (execOp a.eval o).run P w = .ok .skip (w.setRow g (cur.toList.take (i * sz + off) ++ (a.eval y).cells.toList ++ cur.toList.drop (i * sz + off + (a.eval y).cells.toList.length)).toArray) := by
      simp only [execOp, hop, hv]
      simp [hst]
    rw [hrun, Oper.upon_skip, hd]
    refine hK _ _ (h _ _ _ _ (hs.change k ?_))
    have hfl := flatten_len hrl
    have e0 : rows.flatten = rows.flatten.take (i * sz + off) ++ ((rows.flatten.drop (i * sz + off)).take ds.length ++ (rows.flatten.drop (i * sz + off)).drop ds.length) := by rw [List.take_append_drop, List.take_append_drop]
    rw [e0] at hrs
    obtain ⟨v1, v2, c1, c2, hv12, rfl, k1, k2⟩ := hrs.split
    obtain ⟨v3, v4, c3, c4, rfl, rfl, k3, k4⟩ := k2.split
    have l1 : v1.length = i * sz + off := by rw [k1.length, List.length_take]; omega
    have l3 : v3.length = ds.length := by rw [k3.length, List.length_take, List.length_drop]; omega
    rw [List.drop_drop] at k4
    have hnew := (k1.app hcp).app k4
    have hz' : ∀ b ∈ ((c1 ++ b2) ++ c4), Θ b = 0 := by
      intro b hb
      simp only [List.mem_append] at hb
      rcases hb with (hb | hb) | hb
      · exact hz b (by simp [hb])
      · exact hz2 b hb
      · exact hz b (by simp [hb])
    obtain ⟨n1, n2⟩ := Rds.over k hnew hz'
    rw [← flatten_set hrl hrow hfit] at n1
    have hclen : cs.length = rows.length * sz := hown.1
    have hcut : cur.toList = v1 ++ (v3 ++ (v4 ++ cur.toList.drop (rows.length * sz))) := by
      have : cur.toList = cs ++ cur.toList.drop (rows.length * sz) := by rw [← htake, List.take_append_drop]
      rw [hv12] at this
      simpa using this
    have t1 : cur.toList.take (i * sz + off) = v1 := by rw [hcut]; exact List.take_left' l1
    have t2 : cur.toList.drop (i * sz + off + (a.eval y).cells.toList.length) = v4 ++ cur.toList.drop (rows.length * sz) := by
      rw [hl1, ← List.drop_drop]
      conv => lhs; rw [hcut]
      rw [List.drop_left' l1, List.drop_left' l3]
    have hl4 : (v1 ++ (a.eval y).cells.toList ++ v4).length = rows.length * sz := by
      have := hclen
      rw [hv12] at this
      simp only [List.length_append] at this ⊢
      omega
    refine ⟨hsz, ?_, _, v1 ++ (a.eval y).cells.toList ++ v4, _, hk, ⟨by simpa using hl4, .inr ⟨g, cap, _, by simp, hb, setRow_heap w g cur _ e _ hgg, by simpa using hnc, hcm, ?_, ?_⟩⟩, n1, ?_, n2⟩
    · intro r hr
      rcases List.mem_or_eq_of_mem_set hr with hr | rfl
      · exact hrl r hr
      · have := hrl row (List.mem_of_getElem? hrow)
        simp; omega
    · simp only [List.size_toArray, List.length_append, List.length_take, List.length_drop, Array.length_toList]
      omega
    · rw [t1, t2]
      simp only [List.length_set]
      rw [← List.append_assoc]
      exact List.take_left' hl4
    · intro g2 hg2
      simp only [Value.ownBlock, Option.some.injEq] at hg2
      subst hg2
      exact hΘg

/-- a slice of the call's own is given up: from now on it only shows its rows -/
theorem Sim.freeze (hs : Sim Γ st κ Θ a w) {id e sz : Nat} {deep : Bool} {rows : List (List D)} (hH : st.H[id]? = some (.row deep e sz rows)) :
    ∃ κ' Θ', Sim Γ ⟨(st.sub id (.sl rows)).σ, (st.sub id (.sl rows)).H.set id .gone⟩ κ' Θ' a w := by
  obtain ⟨hsz, hrl, v, cs, bs, hk, hown, hrs, hΘ, hd⟩ := hs.ob id _ hH
  refine ⟨upd κ id none, fun b => if Θ b = id + 2 then 0 else Θ b, ?_⟩
  have k : Keeps w w Θ (fun b => if Θ b = id + 2 then 0 else Θ b) (id + 2) := by
    refine ⟨by omega, rfl, rfl, rfl, Nat.le_refl _, fun _ _ _ => rfl, fun b _ hne => by simp [hne], fun b hb => ?_⟩
    split at hb
    · exact absurd rfl hb
    · exact hs.own b hb
  have hfree : ∀ b ∈ bs, (if Θ b = id + 2 then 0 else Θ b) = 0 := by
    intro b hb
    cases deep with
    | true => rw [if_pos (hd.2.1 b hb).1]
    | false => have := hd b hb; split <;> simp_all
  refine hs.give k ?_ ?_ ?_ ?_ trivial
  · intro i hi
    unfold upd
    split
    · rfl
    · exact hs.kout i hi
  · intro i u hu
    unfold upd at hu
    split at hu
    · cases hu
    · exact hs.kone i u hu
  · intro j u hne hj
    unfold upd
    rw [if_neg hne]; exact hj
  · intro u hu
    rw [hk] at hu
    cases hu
    rcases hown.2 with ⟨rfl, hz0⟩ | ⟨g, cap, cur, rfl, hb, hgg, hnc, hcm, hcs, htake⟩
    · have : rows = [] := List.eq_nil_of_length_eq_zero hz0
      subst this
      exact ⟨[], .pure .slNil, by simp⟩
    · refine ⟨g :: bs, .pure (.sl g 0 cap sz rows cs bs (Array.getElem?_eq_some_iff.1 hgg).1 hnc hcm hrl ?_ hrs), ?_⟩
      · intro j c hj
        have := hown.cells (g := g) (by simp [Value.ownBlock]) j c hj
        simpa [Addr.add_lit] using this
      · intro b hb
        rcases List.mem_cons.1 hb with rfl | hb
        · rw [if_pos (hΘ b (by simp [Value.ownBlock]))]
        · exact hfree b hb

def St.freeze (st : St) (id : Nat) (rows : List (List D)) : St := ⟨(st.sub id (.sl rows)).σ, (st.sub id (.sl rows)).H.set id .gone⟩

theorem AO_freeze {ops : List Oper} (id : Nat) {e sz : Nat} {deep : Bool} {rows : List (List D)} (hH : st.H[id]? = some (.row deep e sz rows)) (h : AO P Γ all ops Q (st.freeze id rows)) : AO P Γ all ops Q st := by
  intro κ Θ a w hs
  obtain ⟨κ', Θ', hs'⟩ := hs.freeze hH
  exact h _ _ _ _ hs'
theorem AW_freeze {c : Code} (id : Nat) {e sz : Nat} {deep : Bool} {rows : List (List D)} (hH : st.H[id]? = some (.row deep e sz rows)) (h : AW P Γ c Q (st.freeze id rows)) : AW P Γ c Q st := by
  intro κ Θ a w hs
  obtain ⟨κ', Θ', hs'⟩ := hs.freeze hH
  exact h _ _ _ _ hs'
end
end Go.Bx
