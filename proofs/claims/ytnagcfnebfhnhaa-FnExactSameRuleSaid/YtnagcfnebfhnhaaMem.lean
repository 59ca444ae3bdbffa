/- How an abstract state passes from world to world: new blocks, a change in one object's own blocks, a slice that is given up. No condition; plain lemmas. -/
import Derived.Test.YtnagcfnebfhnhaaPv
namespace Go.Bx
open Go.RowKit

def D.subC (d : D) (id : Nat) (r : D) : D := match d with
  | .acc i => if i = id then r else .acc i
  | .op i a b c => if i = id then .any else .op i a b c
  | .ptr i o => if i = id then .any else .ptr i o
  | d => d
def D.subV (d : D) (id : Nat) (r : D) : D := match d with
  | .agg cs => .agg (cs.map fun c => c.subC id r)
  | d => d.subC id r
def D.sub (d : D) (id : Nat) (r : D) : D := match d with
  | .tup vs => .tup (vs.map fun c => c.subV id r)
  | d => d.subV id r
def Ob.sub (o : Ob) (id : Nat) (r : D) : Ob := match o with
  | .box cells => .box (cells.map fun c => c.subC id r)
  | o => o
def St.sub (st : St) (id : Nat) (r : D) : St := ⟨st.σ.map fun p => (p.1, p.2.sub id r), st.H.map fun o => o.sub id r⟩

theorem lk_sub (σ : List (Nat × D)) (id : Nat) (r : D) (t : Nat) : lk (σ.map fun p => (p.1, p.2.sub id r)) t = (lk σ t).sub id r := by
  induction σ with
  | nil => rfl
  | cons p σ ih =>
    obtain ⟨u, d⟩ := p
    simp only [List.map_cons, lk]
    split
    · rfl
    · exact ih

/-- what a step keeps: blocks that are not 'tag''s, and whose they are -/
structure Keeps (w w' : World) (Θ Θ' : Nat → Nat) (tag : Nat) : Prop where
  two : 2 ≤ tag
  os : w'.os = w.os
  tape : w'.tape = w.tape
  output : w'.output = w.output
  size : w.heap.size ≤ w'.heap.size
  block : ∀ b, b < w.heap.size → Θ b ≠ tag → w'.heap[b]? = w.heap[b]?
  owner : ∀ b, b < w.heap.size → Θ b ≠ tag → Θ' b = Θ b
  own : ∀ b, Θ' b ≠ 0 → b < w'.heap.size

section
variable {w w' : World} {κ κ' : Nat → Option Value} {Θ Θ' : Nat → Nat} {tag id : Nat} {r : D}

theorem Keeps.free (k : Keeps w w' Θ Θ' tag) {b : Nat} (hb : b < w.heap.size) (hz : Θ b = 0) : Θ' b = 0 := by
  have := k.two
  rw [k.owner b hb (by omega)]; exact hz

theorem Rd.over {v : Value} {d : D} {bs : List Nat} (k : Keeps w w' Θ Θ' tag) (h : Rd w v d bs) (hz : ∀ b ∈ bs, Θ b = 0) : Rd w' v d bs ∧ ∀ b ∈ bs, Θ' b = 0 := by
  have := k.two
  exact ⟨h.keep fun b hb => k.block b (h.lt b hb) (by rw [hz b hb]; omega), fun b hb => k.free (h.lt b hb) (hz b hb)⟩

theorem Rds.over {vs : List Value} {ds : List D} {bs : List Nat} (k : Keeps w w' Θ Θ' tag) (h : Rds w vs ds bs) (hz : ∀ b ∈ bs, Θ b = 0) : Rds w' vs ds bs ∧ ∀ b ∈ bs, Θ' b = 0 := by
  have := k.two
  exact ⟨h.keep fun b hb => k.block b (h.lt b hb) (by rw [hz b hb]; omega), fun b hb => k.free (h.lt b hb) (hz b hb)⟩

/-! without a name that is given up -/
section
variable (k : Keeps w w' Θ Θ' tag) (hn : ∀ (j : Nat) v, κ j = some v → κ' j = some v)
include k hn
theorem RdC.stay {v : Value} {d : D} {bs : List Nat} (h : RdC w κ v d bs) (hz : ∀ b ∈ bs, Θ b = 0) : RdC w' κ' v d bs ∧ ∀ b ∈ bs, Θ' b = 0 := by
  cases h with
  | pure h => exact ⟨.pure (Rd.over k h hz).1, (Rd.over k h hz).2⟩
  | acc i v hk => exact ⟨.acc i v (hn _ _ hk), by simp⟩
  | ptr i off b hk => exact ⟨.ptr i off b (hn _ _ hk), by simp⟩
  | op i j sz off b len cap hk => exact ⟨.op i j sz off b len cap (hn _ _ hk), by simp⟩

theorem RdCs.stay {vs : List Value} {ds : List D} {bs : List Nat} (h : RdCs w κ vs ds bs) (hz : ∀ b ∈ bs, Θ b = 0) : RdCs w' κ' vs ds bs ∧ ∀ b ∈ bs, Θ' b = 0 := by
  induction ds generalizing vs bs with
  | nil => cases h; exact ⟨.nil, by simp⟩
  | cons d ds ih =>
    cases h with
    | cons v vs _ _ b1 b2 h1 h2 h3 =>
      obtain ⟨k1, k2⟩ := RdC.stay k hn h2 (fun b hb => hz b (by simp [hb]))
      obtain ⟨k3, k4⟩ := ih h3 (fun b hb => hz b (by simp [hb]))
      refine ⟨.cons _ _ _ _ _ _ h1 k1 k3, fun b hb => ?_⟩
      rcases List.mem_append.1 hb with hb | hb
      · exact k2 b hb
      · exact k4 b hb

theorem RdV.stay {v : Value} {d : D} {bs : List Nat} (h : RdV w κ v d bs) (hz : ∀ b ∈ bs, Θ b = 0) : RdV w' κ' v d bs ∧ ∀ b ∈ bs, Θ' b = 0 := by
  cases h with
  | cell h => exact ⟨.cell (RdC.stay k hn h hz).1, (RdC.stay k hn h hz).2⟩
  | agg cs ds bs h => exact ⟨.agg _ _ _ (RdCs.stay k hn h hz).1, (RdCs.stay k hn h hz).2⟩

theorem RdVs.stay {vs : List Value} {ds : List D} {bs : List Nat} (h : RdVs w κ vs ds bs) (hz : ∀ b ∈ bs, Θ b = 0) : RdVs w' κ' vs ds bs ∧ ∀ b ∈ bs, Θ' b = 0 := by
  induction ds generalizing vs bs with
  | nil => cases h; exact ⟨.nil, by simp⟩
  | cons d ds ih =>
    cases h with
    | cons v vs _ _ b1 b2 h2 h3 =>
      obtain ⟨k1, k2⟩ := RdV.stay k hn h2 (fun b hb => hz b (by simp [hb]))
      obtain ⟨k3, k4⟩ := ih h3 (fun b hb => hz b (by simp [hb]))
      refine ⟨.cons _ _ _ _ _ _ k1 k3, fun b hb => ?_⟩
      rcases List.mem_append.1 hb with hb | hb
      · exact k2 b hb
      · exact k4 b hb

theorem RdS.stay {v : Value} {d : D} {bs : List Nat} (h : RdS w κ v d bs) (hz : ∀ b ∈ bs, Θ b = 0) : RdS w' κ' v d bs ∧ ∀ b ∈ bs, Θ' b = 0 := by
  cases h with
  | v h => exact ⟨.v (RdV.stay k hn h hz).1, (RdV.stay k hn h hz).2⟩
  | tup vs ds bs h => exact ⟨.tup _ _ _ (RdVs.stay k hn h hz).1, (RdVs.stay k hn h hz).2⟩

theorem ObRel.stay {n0 j : Nat} {o : Ob} (hj : j + 2 ≠ tag) (h : ObRel w κ Θ n0 j o) : ObRel w' κ' Θ' n0 j o := by
  cases o with
  | gone => trivial
  | box cells =>
    obtain ⟨g, cs, T, hk, hg, hn0, hΘ, bs, hrs, hz⟩ := h
    have hlt : g < w.heap.size := (Array.getElem?_eq_some_iff.1 hg).1
    have hne : Θ g ≠ tag := by rw [hΘ]; exact hj
    obtain ⟨h1, h2⟩ := RdCs.stay k hn hrs hz
    exact ⟨g, cs, T, hn _ _ hk, (k.block g hlt hne).trans hg, hn0, (k.owner g hlt hne).trans hΘ, bs, h1, h2⟩
  | row deep e sz rows =>
    obtain ⟨hsz, hrl, v, cs, bs, hk, hown, hrs, hΘ, hd⟩ := h
    refine ⟨hsz, hrl, v, cs, bs, hn _ _ hk, ?_, ?_, ?_, ?_⟩
    · refine ⟨hown.1, ?_⟩
      rcases hown.2 with hnil | ⟨g, cap, cur, rfl, hb, hgg, rest⟩
      · exact .inl hnil
      · have hlt : g < w.heap.size := (Array.getElem?_eq_some_iff.1 hgg).1
        have hne : Θ g ≠ tag := by rw [hΘ g (by simp [Value.ownBlock])]; exact hj
        exact .inr ⟨g, cap, cur, rfl, hb, (k.block g hlt hne).trans hgg, rest⟩
    · refine hrs.keep fun b hb => k.block b (hrs.lt b hb) ?_
      have := k.two
      cases deep with
      | true => rw [(hd.2.1 b hb).1]; exact hj
      | false => rw [hd b hb]; omega
    · intro g hg
      have hlt := (hown.lt g hg).2
      have e := hΘ g hg
      rw [k.owner g hlt (by rw [e]; exact hj)]; exact e
    · cases deep with
      | true =>
        refine ⟨hd.1, fun b hb => ⟨?_, (hd.2.1 b hb).2⟩, hd.2.2⟩
        rw [k.owner b (hrs.lt b hb) (by rw [(hd.2.1 b hb).1]; exact hj)]
        exact (hd.2.1 b hb).1
      | false => exact fun b hb => k.free (hrs.lt b hb) (hd b hb)
end

/-! with the name 'id' given up for 'r' -/
section
variable (k : Keeps w w' Θ Θ' tag) (hn : ∀ (j : Nat) v, j ≠ id → κ j = some v → κ' j = some v) (hr : ∀ v, κ id = some v → ∃ bs, RdC w' κ' v r bs ∧ ∀ b ∈ bs, Θ' b = 0)
include k hn hr
theorem RdC.give {v : Value} {d : D} {bs : List Nat} (h : RdC w κ v d bs) (hz : ∀ b ∈ bs, Θ b = 0) : ∃ bs', RdC w' κ' v (d.subC id r) bs' ∧ ∀ b ∈ bs', Θ' b = 0 := by
  cases h with
  | pure h =>
    obtain ⟨h1, h2⟩ := Rd.over k h hz
    have e : d.subC id r = d := by cases h <;> rfl
    rw [e]
    exact ⟨bs, .pure h1, h2⟩
  | acc i v hk =>
    simp only [D.subC]
    split
    · rename_i e; subst e; exact hr v hk
    · rename_i e; exact ⟨[], .acc i v (hn i v e hk), by simp⟩
  | ptr i off b hk =>
    simp only [D.subC]
    split
    · exact ⟨[], .pure (.any _), by simp⟩
    · rename_i e; exact ⟨[], .ptr i off b (hn i _ e hk), by simp⟩
  | op i j sz off b len cap hk =>
    simp only [D.subC]
    split
    · exact ⟨[], .pure (.any _), by simp⟩
    · rename_i e; exact ⟨[], .op i j sz off b len cap (hn i _ e hk), by simp⟩

theorem RdCs.give {vs : List Value} {ds : List D} {bs : List Nat} (h : RdCs w κ vs ds bs) (hz : ∀ b ∈ bs, Θ b = 0) : ∃ bs', RdCs w' κ' vs (ds.map fun c => c.subC id r) bs' ∧ ∀ b ∈ bs', Θ' b = 0 := by
  induction ds generalizing vs bs with
  | nil => cases h; exact ⟨[], .nil, by simp⟩
  | cons d ds ih =>
    cases h with
    | cons v vs _ _ b1 b2 h1 h2 h3 =>
      obtain ⟨c1, k1, k2⟩ := RdC.give k hn hr h2 (fun b hb => hz b (by simp [hb]))
      obtain ⟨c2, k3, k4⟩ := ih h3 (fun b hb => hz b (by simp [hb]))
      refine ⟨c1 ++ c2, .cons _ _ _ _ _ _ h1 k1 k3, fun b hb => ?_⟩
      rcases List.mem_append.1 hb with hb | hb
      · exact k2 b hb
      · exact k4 b hb

theorem RdV.give {v : Value} {d : D} {bs : List Nat} (h : RdV w κ v d bs) (hz : ∀ b ∈ bs, Θ b = 0) : ∃ bs', RdV w' κ' v (d.subV id r) bs' ∧ ∀ b ∈ bs', Θ' b = 0 := by
  cases h with
  | cell h =>
    by_cases hagg : ∃ ds, d = .agg ds
    · obtain ⟨ds, rfl⟩ := hagg
      cases h with
      | pure h =>
        cases h with
        | agg cs _ _ h =>
          obtain ⟨b', h1, h2⟩ := RdCs.give k hn hr (RdCs.ofRds h) hz
          exact ⟨b', .agg _ _ _ h1, h2⟩
    · obtain ⟨b', h1, h2⟩ := RdC.give k hn hr h hz
      refine ⟨b', ?_, h2⟩
      have e : d.subV id r = d.subC id r := by cases d <;> first | rfl | (exfalso; exact hagg ⟨_, rfl⟩)
      rw [e]; exact .cell h1
  | agg cs ds bs h =>
    obtain ⟨b', h1, h2⟩ := RdCs.give k hn hr h hz
    exact ⟨b', .agg _ _ _ h1, h2⟩

theorem RdVs.give {vs : List Value} {ds : List D} {bs : List Nat} (h : RdVs w κ vs ds bs) (hz : ∀ b ∈ bs, Θ b = 0) : ∃ bs', RdVs w' κ' vs (ds.map fun c => c.subV id r) bs' ∧ ∀ b ∈ bs', Θ' b = 0 := by
  induction ds generalizing vs bs with
  | nil => cases h; exact ⟨[], .nil, by simp⟩
  | cons d ds ih =>
    cases h with
    | cons v vs _ _ b1 b2 h2 h3 =>
      obtain ⟨c1, k1, k2⟩ := RdV.give k hn hr h2 (fun b hb => hz b (by simp [hb]))
      obtain ⟨c2, k3, k4⟩ := ih h3 (fun b hb => hz b (by simp [hb]))
      refine ⟨c1 ++ c2, .cons _ _ _ _ _ _ k1 k3, fun b hb => ?_⟩
      rcases List.mem_append.1 hb with hb | hb
      · exact k2 b hb
      · exact k4 b hb

theorem RdS.give {v : Value} {d : D} {bs : List Nat} (h : RdS w κ v d bs) (hz : ∀ b ∈ bs, Θ b = 0) : ∃ bs', RdS w' κ' v (d.sub id r) bs' ∧ ∀ b ∈ bs', Θ' b = 0 := by
  cases h with
  | v h =>
    obtain ⟨b', h1, h2⟩ := RdV.give k hn hr h hz
    have e : d.sub id r = d.subV id r := by
      cases h with
      | cell h => cases h with
        | pure h => cases h <;> rfl
        | acc => rfl
        | ptr => rfl
        | op => rfl
      | agg => rfl
    rw [e]
    exact ⟨b', .v h1, h2⟩
  | tup vs ds bs h =>
    obtain ⟨b', h1, h2⟩ := RdVs.give k hn hr h hz
    exact ⟨b', .tup _ _ _ h1, h2⟩

theorem ObRel.give {n0 j : Nat} {o : Ob} (hid : tag = id + 2) (hj : j ≠ id) (h : ObRel w κ Θ n0 j o) : ObRel w' κ' Θ' n0 j (o.sub id r) := by
  cases o with
  | gone => trivial
  | box cells =>
    obtain ⟨g, cs, T, hk, hg, hn0, hΘ, bs, hrs, hz⟩ := h
    have hlt : g < w.heap.size := (Array.getElem?_eq_some_iff.1 hg).1
    have hne : Θ g ≠ tag := by rw [hΘ, hid]; omega
    obtain ⟨b', h1, h2⟩ := RdCs.give k hn hr hrs hz
    exact ⟨g, cs, T, hn _ _ hj hk, (k.block g hlt hne).trans hg, hn0, (k.owner g hlt hne).trans hΘ, b', h1, h2⟩
  | row deep e sz rows =>
    have hj' : j + 2 ≠ tag := by omega
    obtain ⟨hsz, hrl, v, cs, bs, hk, hown, hrs, hΘ, hd⟩ := h
    refine ⟨hsz, hrl, v, cs, bs, hn _ _ hj hk, ?_, ?_, ?_, ?_⟩
    · refine ⟨hown.1, ?_⟩
      rcases hown.2 with hnil | ⟨g, cap, cur, rfl, hb, hgg, rest⟩
      · exact .inl hnil
      · have hlt : g < w.heap.size := (Array.getElem?_eq_some_iff.1 hgg).1
        have hne : Θ g ≠ tag := by rw [hΘ g (by simp [Value.ownBlock])]; exact hj'
        exact .inr ⟨g, cap, cur, rfl, hb, (k.block g hlt hne).trans hgg, rest⟩
    · refine hrs.keep fun b hb => k.block b (hrs.lt b hb) ?_
      have := k.two
      cases deep with
      | true => rw [(hd.2.1 b hb).1]; exact hj'
      | false => rw [hd b hb]; omega
    · intro g hg
      have hlt := (hown.lt g hg).2
      have e := hΘ g hg
      rw [k.owner g hlt (by rw [e]; exact hj')]; exact e
    · cases deep with
      | true =>
        refine ⟨hd.1, fun b hb => ⟨?_, (hd.2.1 b hb).2⟩, hd.2.2⟩
        rw [k.owner b (hrs.lt b hb) (by rw [(hd.2.1 b hb).1]; exact hj')]
        exact (hd.2.1 b hb).1
      | false => exact fun b hb => k.free (hrs.lt b hb) (hd b hb)
end
end

section
variable {Γ : Ctx} {st : St} {κ κ' : Nat → Option Value} {Θ Θ' : Nat → Nat} {a : Act} {w w' : World}

theorem Sim.base (hs : Sim Γ st κ Θ a w) : Γ.W0.heap.size ≤ w.heap.size := hs.below.size

theorem Sim.keepsBelow (hs : Sim Γ st κ Θ a w) {tag : Nat} (k : Keeps w w' Θ Θ' tag) : Below Γ.W0.heap.size Γ.W0 w' := by
  refine hs.below.trans ⟨k.os, k.tape, k.output, k.size, fun b hb => ?_⟩
  have := k.two
  have h1 := (hs.old b hb).2
  exact k.block b (Nat.lt_of_lt_of_le hb hs.base) (by omega)

theorem Sim.keepsOld (hs : Sim Γ st κ Θ a w) {tag : Nat} (k : Keeps w w' Θ Θ' tag) : ∀ b, b < Γ.W0.heap.size → Θ' b = Γ.Θ0 b ∧ Θ' b ≤ 1 := by
  intro b hb
  have := k.two
  have h1 := hs.old b hb
  rw [k.owner b (Nat.lt_of_lt_of_le hb hs.base) (by omega)]
  exact h1

/-- a step that changes one object's own blocks, and no name -/
theorem Sim.change (hs : Sim Γ st κ Θ a w) {id : Nat} {o : Ob} (k : Keeps w w' Θ Θ' (id + 2)) (ho : ObRel w' κ Θ' Γ.W0.heap.size id o) :
    Sim Γ ⟨st.σ, st.H.set id o⟩ κ Θ' a w' := by
  refine ⟨hs.defers, hs.size, fun i hi => hs.kout i (by simpa using hi), hs.kone, ?_, ?_, k.own, hs.keepsOld k, hs.keepsBelow k⟩
  · intro t
    obtain ⟨bs, hr, hz⟩ := hs.slot t
    exact ⟨bs, RdS.stay k (fun _ _ h => h) hr hz⟩
  · intro j o' hj
    by_cases e : id = j
    · subst e
      have hlt : id < st.H.length := by
        have := (List.getElem?_eq_some_iff.1 hj).1
        simpa using this
      rw [List.getElem?_set_self hlt] at hj
      cases hj
      exact ho
    · rw [List.getElem?_set_ne e] at hj
      exact ObRel.stay k (fun _ _ h => h) (by omega) (hs.ob j o' hj)

/-- a name for a new object -/
def upd (κ : Nat → Option Value) (id : Nat) (v : Option Value) : Nat → Option Value := fun i => if i = id then v else κ i

theorem upd_old {κ : Nat → Option Value} {id : Nat} (h : κ id = none) (v : Option Value) : ∀ (j : Nat) u, κ j = some u → upd κ id v j = some u := by
  intro j u hj
  unfold upd
  rw [if_neg (fun e => by subst e; rw [h] at hj; cases hj)]
  exact hj

/-- a step that makes an object at a free place (behind all, or where none is): its blocks are new -/
theorem Sim.place (hs : Sim Γ st κ Θ a w) {H' : List Ob} {id : Nat} {v : Value} {o : Ob} (h1 : v.oneCell' = true) (hnone : κ id = none)
    (hH : ∀ (j : Nat) x, H'[j]? = some x → (j = id ∧ x = o) ∨ (j ≠ id ∧ st.H[j]? = some x)) (hid : id < H'.length) (hlen : st.H.length ≤ H'.length) (k : Keeps w w' Θ Θ' (id + 2))
    (ho : ObRel w' (upd κ id (some v)) Θ' Γ.W0.heap.size id o) :
    Sim Γ ⟨st.σ, H'⟩ (upd κ id (some v)) Θ' a w' := by
  have hn := upd_old hnone (some v)
  refine ⟨hs.defers, hs.size, ?_, ?_, ?_, ?_, k.own, hs.keepsOld k, hs.keepsBelow k⟩
  · intro i hi
    simp only at hi
    unfold upd
    rw [if_neg (by omega)]
    exact hs.kout i (by omega)
  · intro i u hu
    unfold upd at hu
    split at hu
    · cases hu; exact h1
    · exact hs.kone i u hu
  · intro t
    obtain ⟨bs, hr, hz⟩ := hs.slot t
    exact ⟨bs, RdS.stay k hn hr hz⟩
  · intro j o' hj
    rcases hH j o' hj with ⟨rfl, rfl⟩ | ⟨hne, hj'⟩
    · exact ho
    · exact ObRel.stay k hn (by omega) (hs.ob j o' hj')

theorem Sim.push (hs : Sim Γ st κ Θ a w) {v : Value} {o : Ob} (h1 : v.oneCell' = true) (k : Keeps w w' Θ Θ' (st.H.length + 2))
    (ho : ObRel w' (upd κ st.H.length (some v)) Θ' Γ.W0.heap.size st.H.length o) :
    Sim Γ ⟨st.σ, st.H ++ [o]⟩ (upd κ st.H.length (some v)) Θ' a w' := by
  refine hs.place h1 (hs.kout _ (Nat.le_refl _)) ?_ (by simp) (by simp) k ho
  intro j x hj
  by_cases hlt : j < st.H.length
  · rw [List.getElem?_append_left hlt] at hj
    exact .inr ⟨by omega, hj⟩
  · have hj' := (List.getElem?_eq_some_iff.1 hj).1
    simp only [List.length_append, List.length_cons, List.length_nil] at hj'
    have e : j = st.H.length := by omega
    subst e
    rw [List.getElem?_append_right (Nat.le_refl _)] at hj
    simp at hj
    exact .inl ⟨rfl, hj.symm⟩

/-- a step in which the name 'id' is given up for 'r', and its object becomes another -/
theorem Sim.give (hs : Sim Γ st κ Θ a w) {id : Nat} {r : D} {o : Ob} (k : Keeps w w' Θ Θ' (id + 2)) (hl : ∀ id, st.H.length ≤ id → κ' id = none) (h1 : ∀ (id : Nat) u, κ' id = some u → u.oneCell' = true)
    (hn : ∀ (j : Nat) v, j ≠ id → κ j = some v → κ' j = some v) (hr : ∀ v, κ id = some v → ∃ bs, RdC w' κ' v r bs ∧ ∀ b ∈ bs, Θ' b = 0)
    (ho : ObRel w' κ' Θ' Γ.W0.heap.size id o) : Sim Γ ⟨(st.sub id r).σ, (st.sub id r).H.set id o⟩ κ' Θ' a w' := by
  refine ⟨hs.defers, hs.size, fun i hi => hl i (by simpa [St.sub] using hi), h1, ?_, ?_, k.own, hs.keepsOld k, hs.keepsBelow k⟩
  · intro t
    obtain ⟨bs, hr', hz⟩ := hs.slot t
    show ∃ bs, RdS w' κ' _ (lk (st.σ.map fun p => (p.1, p.2.sub id r)) t) bs ∧ _
    rw [lk_sub]
    exact RdS.give k hn hr hr' hz
  · intro j o' hj
    by_cases e : id = j
    · subst e
      have hlt : id < (st.sub id r).H.length := by
        have := (List.getElem?_eq_some_iff.1 hj).1
        simpa using this
      rw [List.getElem?_set_self hlt] at hj
      cases hj
      exact ho
    · rw [List.getElem?_set_ne e] at hj
      simp only [St.sub, List.getElem?_map] at hj
      cases hH : st.H[j]? with
      | none => simp [hH] at hj
      | some o0 =>
        simp only [hH, Option.map_some, Option.some.injEq] at hj
        subst hj
        exact ObRel.give k hn hr rfl (fun h => e h.symm) (hs.ob j o0 hH)
end
end Go.Bx
