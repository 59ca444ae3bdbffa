/- How an abstract state passes from world to world: new blocks, a change in one object's own blocks, slices that are given up. No condition; plain lemmas. -/
import Derived.Test.YtoeenpcilfhjbaaNPv
namespace Go.Cx
set_option linter.unusedVariables false
set_option linter.unusedSimpArgs false
open Go.RowKit

/-- what a step keeps: blocks that are not 'tag''s, and whose they are -/
structure Keeps (w w' : World) (Θ Θ' : Nat → Nat) (tag : Nat) : Prop where
  two : 2 ≤ tag
  os : w'.os = w.os
  tape : w'.tape = w.tape
  output : w'.output = w.output
  size : w.heap.size ≤ w'.heap.size
  block : ∀ b, b < w.heap.size → Θ b ≠ tag → w'.heap[b]? = w.heap[b]?
  owner : ∀ b, b < w.heap.size → Θ b ≠ tag → Θ' b = Θ b
  own : ∀ b, Θ' b ≠ 0 → b < w'.heap.size

section
variable {w w' : World} {κ κ' : Nat → Option Value} {Θ Θ' : Nat → Nat} {tag id : Nat} {r : D}

theorem Keeps.free (k : Keeps w w' Θ Θ' tag) {b : Nat} (hb : b < w.heap.size) (hz : Θ b = 0) : Θ' b = 0 := by
  have := k.two
  rw [k.owner b hb (by omega)]; exact hz

theorem Rd.over {v : Value} {d : D} {bs : List Nat} (k : Keeps w w' Θ Θ' tag) (h : Rd w v d bs) (hz : ∀ b ∈ bs, Θ b = 0) : Rd w' v d bs ∧ ∀ b ∈ bs, Θ' b = 0 := by
  have := k.two
  exact ⟨h.keep fun b hb => k.block b (h.lt b hb) (by rw [hz b hb]; omega), fun b hb => k.free (h.lt b hb) (hz b hb)⟩

theorem Rds.over {vs : List Value} {ds : List D} {bs : List Nat} (k : Keeps w w' Θ Θ' tag) (h : Rds w vs ds bs) (hz : ∀ b ∈ bs, Θ b = 0) : Rds w' vs ds bs ∧ ∀ b ∈ bs, Θ' b = 0 := by
  have := k.two
  exact ⟨h.keep fun b hb => k.block b (h.lt b hb) (by rw [hz b hb]; omega), fun b hb => k.free (h.lt b hb) (hz b hb)⟩

/-! without a name that is given up -/
section
variable (hn : ∀ (j : Nat) v, κ j = some v → κ' j = some v)
include hn
theorem RdC.held {v : Value} {d : D} {bs : List Nat} (h : RdC w κ v d bs) (hb : ∀ b ∈ bs, w'.heap[b]? = w.heap[b]?) : RdC w' κ' v d bs := by
  cases h with
  | pure h => exact .pure (h.keep hb)
  | acc i v hk => exact .acc i v (hn _ _ hk)
  | ptr i off b hk => exact .ptr i off b (hn _ _ hk)
  | op i j sz off b o0 len cap hk => exact .op i j sz off b o0 len cap (hn _ _ hk)
theorem RdCs.held {vs : List Value} {ds : List D} {bs : List Nat} (h : RdCs w κ vs ds bs) (hb : ∀ b ∈ bs, w'.heap[b]? = w.heap[b]?) : RdCs w' κ' vs ds bs := by
  induction h with
  | nil => exact .nil
  | cons v vs d ds b1 b2 h1 h2 _ ih => exact .cons _ _ _ _ _ _ h1 (RdC.held hn h2 fun b hb' => hb b (by simp [hb'])) (ih fun b hb' => hb b (by simp [hb']))
end
theorem RdH.lt {v : Value} {rows : List (List D)} {p n : Nat} {bs : List Nat} (h : RdH w κ v rows p n bs) : ∀ b ∈ bs, b < w.heap.size := by
  obtain ⟨b, off, cap, cs, ns, rfl, h1, h2, h3, h4, h5, rfl, _⟩ := h
  intro x hx
  rcases List.mem_cons.1 hx with rfl | hx
  · exact h1
  · exact h5.lt x hx

section
variable (hn : ∀ (j : Nat) v, κ j = some v → κ' j = some v)
include hn
theorem RdH.stay {v : Value} {rows : List (List D)} {p n : Nat} {bs : List Nat} (h : RdH w κ v rows p n bs) (hb : ∀ b ∈ bs, w'.heap[b]? = w.heap[b]?) : RdH w' κ' v rows p n bs := by
  obtain ⟨b, off, cap, cs, ns, rfl, h1, h2, h3, h4, h5, rfl, c, h6, h7⟩ := h
  exact ⟨b, off, cap, cs, ns, rfl, lt_same h1 (hb b (by simp)), h2, h3, fun j c hc => (cell_same (hb b (by simp))).trans (h4 j c hc), h5.keep (fun x hx => hb x (by simp [hx])), rfl, c, h6, hn _ _ h7⟩
end
section
variable (k : Keeps w w' Θ Θ' tag) (hn : ∀ (j : Nat) v, κ j = some v → κ' j = some v)
include k hn
theorem RdC.stay {v : Value} {d : D} {bs : List Nat} (h : RdC w κ v d bs) (hz : ∀ b ∈ bs, Θ b = 0) : RdC w' κ' v d bs ∧ ∀ b ∈ bs, Θ' b = 0 := by
  cases h with
  | pure h => exact ⟨.pure (Rd.over k h hz).1, (Rd.over k h hz).2⟩
  | acc i v hk => exact ⟨.acc i v (hn _ _ hk), by simp⟩
  | ptr i off b hk => exact ⟨.ptr i off b (hn _ _ hk), by simp⟩
  | op i j sz off b o0 len cap hk => exact ⟨.op i j sz off b o0 len cap (hn _ _ hk), by simp⟩

theorem RdCs.stay {vs : List Value} {ds : List D} {bs : List Nat} (h : RdCs w κ vs ds bs) (hz : ∀ b ∈ bs, Θ b = 0) : RdCs w' κ' vs ds bs ∧ ∀ b ∈ bs, Θ' b = 0 := by
  induction ds generalizing vs bs with
  | nil => cases h; exact ⟨.nil, by simp⟩
  | cons d ds ih =>
    cases h with
    | cons v vs _ _ b1 b2 h1 h2 h3 =>
      obtain ⟨k1, k2⟩ := RdC.stay k hn h2 (fun b hb => hz b (by simp [hb]))
      obtain ⟨k3, k4⟩ := ih h3 (fun b hb => hz b (by simp [hb]))
      refine ⟨.cons _ _ _ _ _ _ h1 k1 k3, fun b hb => ?_⟩
      rcases List.mem_append.1 hb with hb | hb
      · exact k2 b hb
      · exact k4 b hb

theorem RdV.stay {v : Value} {d : D} {bs : List Nat} (h : RdV w κ v d bs) (hz : ∀ b ∈ bs, Θ b = 0) : RdV w' κ' v d bs ∧ ∀ b ∈ bs, Θ' b = 0 := by
  cases h with
  | cell h => exact ⟨.cell (RdC.stay k hn h hz).1, (RdC.stay k hn h hz).2⟩
  | agg cs ds bs h => exact ⟨.agg _ _ _ (RdCs.stay k hn h hz).1, (RdCs.stay k hn h hz).2⟩

theorem RdVs.stay {vs : List Value} {ds : List D} {bs : List Nat} (h : RdVs w κ vs ds bs) (hz : ∀ b ∈ bs, Θ b = 0) : RdVs w' κ' vs ds bs ∧ ∀ b ∈ bs, Θ' b = 0 := by
  induction ds generalizing vs bs with
  | nil => cases h; exact ⟨.nil, by simp⟩
  | cons d ds ih =>
    cases h with
    | cons v vs _ _ b1 b2 h2 h3 =>
      obtain ⟨k1, k2⟩ := RdV.stay k hn h2 (fun b hb => hz b (by simp [hb]))
      obtain ⟨k3, k4⟩ := ih h3 (fun b hb => hz b (by simp [hb]))
      refine ⟨.cons _ _ _ _ _ _ k1 k3, fun b hb => ?_⟩
      rcases List.mem_append.1 hb with hb | hb
      · exact k2 b hb
      · exact k4 b hb

theorem RdS.stay {v : Value} {d : D} {bs : List Nat} (h : RdS w κ v d bs) (hz : ∀ b ∈ bs, Θ b = 0) : RdS w' κ' v d bs ∧ ∀ b ∈ bs, Θ' b = 0 := by
  cases h with
  | v h => exact ⟨.v (RdV.stay k hn h hz).1, (RdV.stay k hn h hz).2⟩
  | tup vs ds bs h => exact ⟨.tup _ _ _ (RdVs.stay k hn h hz).1, (RdVs.stay k hn h hz).2⟩

theorem ObRel.stay {j : Nat} {o : Ob} (hj : j + 2 ≠ tag) (h : ObRel w κ Θ j o) : ObRel w' κ' Θ' j o := by
  cases o with
  | gone => trivial
  | tk rows =>
    obtain ⟨v, bs, hk, hrd, hz⟩ := h
    obtain ⟨h1, h2⟩ := Rd.over k hrd hz
    exact ⟨v, bs, hn _ _ hk, h1, h2⟩
  | tf e sz rows =>
    obtain ⟨v, bs, hk, hrd, hz⟩ := h
    obtain ⟨h1, h2⟩ := Rd.over k hrd hz
    exact ⟨v, bs, hn _ _ hk, h1, h2⟩
  | mp kv =>
    obtain ⟨g, es, c, q1, q2, q3, q4⟩ := h
    have hlt : g < w.heap.size := (Array.getElem?_eq_some_iff.1 q2).1
    have hne : Θ g ≠ tag := by rw [q3]; exact hj
    exact ⟨g, es, c, hn _ _ q1, (k.block g hlt hne).trans q2, by rw [k.owner g hlt hne]; exact q3, q4.stay⟩
  | lent sz rows u =>
    obtain ⟨hrl, hux, v, bs, hk, hrd, hnd, hbs⟩ := h
    have hsame : ∀ b ∈ bs, w'.heap[b]? = w.heap[b]? := fun b hb => k.block b (hrd.lt b hb) (by rw [(hbs b hb).1]; exact hj)
    refine ⟨hrl, fun x hx => hn _ _ (hux x hx), v, bs, hn _ _ hk, hrd.keep hsame, hnd, fun b hb => ⟨?_, ?_⟩⟩
    · rw [k.owner b (hrd.lt b hb) (by rw [(hbs b hb).1]; exact hj)]
      exact (hbs b hb).1
    · obtain ⟨x, T, hx⟩ := (hbs b hb).2
      exact ⟨x, T, (hsame b hb).trans hx⟩
  | hole sz rows u p n =>
    obtain ⟨hrl, hux, v, bs, hk, hrd, hnd, hbs⟩ := h
    have hsame : ∀ b ∈ bs, w'.heap[b]? = w.heap[b]? := fun b hb => k.block b (hrd.lt b hb) (by rw [(hbs b hb).1]; exact hj)
    refine ⟨hrl, fun x hx => hn _ _ (hux x hx), v, bs, hn _ _ hk, RdH.stay hn hrd hsame, hnd, fun b hb => ⟨?_, ?_⟩⟩
    · rw [k.owner b (hrd.lt b hb) (by rw [(hbs b hb).1]; exact hj)]
      exact (hbs b hb).1
    · obtain ⟨x, T, hx⟩ := (hbs b hb).2
      exact ⟨x, T, (hsame b hb).trans hx⟩
  | box cells =>
    obtain ⟨g, cs, T, hk, hg, hΘ, bs, hrs, hz⟩ := h
    have hlt : g < w.heap.size := (Array.getElem?_eq_some_iff.1 hg).1
    have hne : Θ g ≠ tag := by rw [hΘ]; exact hj
    obtain ⟨h1, h2⟩ := RdCs.stay k hn hrs hz
    exact ⟨g, cs, T, hn _ _ hk, (k.block g hlt hne).trans hg, (k.owner g hlt hne).trans hΘ, bs, h1, h2⟩
  | pbx cells u =>
    obtain ⟨hu, g, cs, T, hk, hg, hΘ, bs, hrs, hz⟩ := h
    have hlt : g < w.heap.size := (Array.getElem?_eq_some_iff.1 hg).1
    have hne : Θ g ≠ tag := by rw [hΘ]; exact hj
    obtain ⟨h1, h2⟩ := RdCs.stay k hn hrs hz
    exact ⟨⟨hn _ _ hu.1, hu.2.same hk hg (hn _ _ hk) ((k.block g hlt hne).trans hg)⟩, g, cs, T, hn _ _ hk, (k.block g hlt hne).trans hg, (k.owner g hlt hne).trans hΘ, bs, h1, h2⟩
  | row deep e sz rows =>
    obtain ⟨hsz, hrl, v, cs, bs, hk, hown, hrs, hΘ, hd⟩ := h
    refine ⟨hsz, hrl, v, cs, bs, hn _ _ hk, ?_, ?_, ?_, ?_⟩
    · refine ⟨hown.1, ?_⟩
      rcases hown.2 with hnil | ⟨g, cap, cur, rfl, hb, hgg, rest⟩
      · exact .inl hnil
      · have hlt : g < w.heap.size := (Array.getElem?_eq_some_iff.1 hgg).1
        have hne : Θ g ≠ tag := by rw [hΘ g (by simp [Value.ownBlock])]; exact hj
        exact .inr ⟨g, cap, cur, rfl, hb, (k.block g hlt hne).trans hgg, rest⟩
    · refine hrs.keep fun b hb => k.block b (hrs.lt b hb) ?_
      have := k.two
      cases deep with
      | cl => rw [(hd.2.1 b hb).1]; exact hj
      | sh => rw [hd b hb]; omega
      | uq => rw [hd b hb]; omega
      | mv n => rw [hd b hb]; omega
      | ho p n => rw [hd b hb]; omega
    · intro g hg
      have hlt := (hown.lt g hg).2
      have e := hΘ g hg
      rw [k.owner g hlt (by rw [e]; exact hj)]; exact e
    · cases deep with
      | cl =>
        refine ⟨hd.1, fun b hb => ⟨?_, ?_⟩, hd.2.2.1, hd.2.2.2.keep fun b hb => k.block b (hrs.lt b hb) (by rw [(hd.2.1 b hb).1]; exact hj)⟩
        · rw [k.owner b (hrs.lt b hb) (by rw [(hd.2.1 b hb).1]; exact hj)]
          exact (hd.2.1 b hb).1
        · obtain ⟨x, T, hx⟩ := (hd.2.1 b hb).2
          exact ⟨x, T, (k.block b (hrs.lt b hb) (by rw [(hd.2.1 b hb).1]; exact hj)).trans hx⟩
      | sh => exact fun b hb => k.free (hrs.lt b hb) (hd b hb)
      | uq => exact fun b hb => k.free (hrs.lt b hb) (hd b hb)
      | mv n => exact fun b hb => k.free (hrs.lt b hb) (hd b hb)
      | ho p n => exact fun b hb => k.free (hrs.lt b hb) (hd b hb)
end

end

section
variable {Γ : Ctx} {st : St} {κ κ' : Nat → Option Value} {Θ Θ' : Nat → Nat} {a : Act} {w w' : World} {tag : Nat}

theorem Sim.base (hs : Sim Γ st κ Θ a w) : Γ.W0.heap.size ≤ w.heap.size := hs.stays.size

theorem Sim.keepsStays (hs : Sim Γ st κ Θ a w) (k : Keeps w w' Θ Θ' tag) : Stays Γ w' := by
  refine ⟨k.os.trans hs.stays.os, k.tape.trans hs.stays.tape, k.output.trans hs.stays.output, Nat.le_trans hs.stays.size k.size, fun b hb hx => ?_⟩
  have := k.two
  have h1 := (hs.old b hb hx).2
  exact (k.block b (Nat.lt_of_lt_of_le hb hs.base) (by omega)).trans (hs.stays.block b hb hx)

theorem Sim.keepsOld (hs : Sim Γ st κ Θ a w) (k : Keeps w w' Θ Θ' tag) : ∀ b, b < Γ.W0.heap.size → ¬ Γ.X b → Θ' b = Γ.Θ0 b ∧ Θ' b ≤ 1 := by
  intro b hb hx
  have := k.two
  have h1 := hs.old b hb hx
  rw [k.owner b (Nat.lt_of_lt_of_le hb hs.base) (by omega)]
  exact h1

theorem Sim.uniqStay (hs : Sim Γ st κ Θ a w) (k : Keeps w w' Θ Θ' tag) (hn : ∀ (j : Nat) v, κ j = some v → κ' j = some v) {ρ : Nat → Nat} (hu : Uniq Γ st.H κ Θ w ρ) :
    (∀ b, ρ b ≠ 0 → Θ' b = 0 ∧ MineU Γ b ∧ Wr w' b) ∧ (∀ id e sz rows, id + 2 ≠ tag → st.H[id]? = some (.row .uq e sz rows) →
      ∃ v cs bs, κ' id = some v ∧ w'.ownsRow 0 e sz v rows.length cs ∧ RdF w' (fcol e) 0 cs rows.flatten bs ∧ bs.Nodup ∧ ∀ b ∈ bs, ρ b = id + 1) ∧
      ∀ id o, id + 2 ≠ tag → st.H[id]? = some o → UqM w' κ' ρ id o := by
  have h2 := k.two
  refine ⟨?_, ?_, ?_⟩
  · intro b hb
    obtain ⟨h0, hm, x, T, hx⟩ := hu.free b hb
    have hlt : b < w.heap.size := (Array.getElem?_eq_some_iff.1 hx).1
    exact ⟨k.free hlt h0, hm, x, T, (k.block b hlt (by omega)).trans hx⟩
  · intro id e sz rows hid hH
    obtain ⟨v, cs, bs, hk, hown, hrs, hnd, hρ⟩ := hu.rows id e sz rows hH
    obtain ⟨_, _, v2, _, _, hk2, _, _, hΘ, _⟩ := hs.ob id _ hH
    rw [hk] at hk2; cases hk2
    refine ⟨v, cs, bs, hn _ _ hk, ⟨hown.1, ?_⟩, hrs.keep fun b hb => k.block b (hrs.lt b hb) ?_, hnd, hρ⟩
    · rcases hown.2 with hnil | ⟨g, cap, cur, rfl, hb, hgg, rest⟩
      · exact .inl hnil
      · have hlt : g < w.heap.size := (Array.getElem?_eq_some_iff.1 hgg).1
        have hne : Θ g ≠ tag := by rw [hΘ g (by simp [Value.ownBlock])]; exact hid
        exact .inr ⟨g, cap, cur, rfl, hb, (k.block g hlt hne).trans hgg, rest⟩
    · have := hρ b hb
      have := (hu.free b (by omega)).1
      omega
  · intro id o hid hH
    have hm := hu.more id o hH
    have hb0 : ∀ {bs : List Nat}, (∀ b ∈ bs, ρ b = id + 1) → ∀ b ∈ bs, Θ b ≠ tag := fun hρ b hb => by
      have := hρ b hb
      have := (hu.free b (by omega)).1
      omega
    cases o with
    | tk rows =>
      obtain ⟨v, bs, hk, hrd, hnd, hρ⟩ := hm
      exact ⟨v, bs, hn _ _ hk, hrd.keep fun b hb => k.block b (hrd.lt b hb) (hb0 hρ b hb), hnd, hρ⟩
    | tf e sz rows =>
      obtain ⟨v, bs, hk, hrd, hlt, hnd, hρ⟩ := hm
      exact ⟨v, bs, hn _ _ hk, hrd.keep fun b hb => k.block b (hlt b hb) (hb0 hρ b hb), fun b hb => Nat.lt_of_lt_of_le (hlt b hb) k.size, hnd, hρ⟩
    | row kd e sz rows =>
      cases kd with
      | mv n =>
        obtain ⟨v, cs, bs, hk, hown, hrs, hnd, hρ⟩ := hm
        obtain ⟨_, _, v2, _, _, hk2, _, _, hΘ, _⟩ := hs.ob id _ hH
        rw [hk] at hk2; cases hk2
        refine ⟨v, cs, bs, hn _ _ hk, ⟨hown.1, ?_⟩, hrs.keep fun b hb => k.block b (hrs.lt b hb) (hb0 hρ b hb), hnd, hρ⟩
        rcases hown.2 with hnil | ⟨g, cap, cur, rfl, hb, hgg, rest⟩
        · exact .inl hnil
        · have hlt : g < w.heap.size := (Array.getElem?_eq_some_iff.1 hgg).1
          have hne : Θ g ≠ tag := by rw [hΘ g (by simp [Value.ownBlock])]; exact hid
          exact .inr ⟨g, cap, cur, rfl, hb, (k.block g hlt hne).trans hgg, rest⟩
      | ho p n =>
        obtain ⟨v, cs, bs, hk, hown, hrs, hnd, hρ, c, hc, hkc⟩ := hm
        obtain ⟨_, _, v2, _, _, hk2, _, _, hΘ, _⟩ := hs.ob id _ hH
        rw [hk] at hk2; cases hk2
        exact ⟨v, cs, bs, hn _ _ hk, ownsRow_same hown (fun g hg => k.block g (hown.lt g hg).2 (by rw [hΘ g hg]; exact hid)), hrs.keep fun b hb => k.block b (hrs.lt b hb) (hb0 hρ b hb), hnd, hρ, c, hc, hn _ _ hkc⟩
      | _ => trivial
    | _ => trivial

/-- what ρ tells may be told anew where it does not name the object -/
theorem UqM.re {ρ ρ' : Nat → Nat} {id : Nat} {o : Ob} (h : UqM w κ ρ id o) (hr : ∀ b, ρ b = id + 1 → ρ' b = id + 1) : UqM w κ ρ' id o := by
  cases o with
  | tk rows =>
    obtain ⟨v, bs, hk, hrd, hnd, hρ⟩ := h
    exact ⟨v, bs, hk, hrd, hnd, fun b hb => hr b (hρ b hb)⟩
  | tf e sz rows =>
    obtain ⟨v, bs, hk, hrd, hlt, hnd, hρ⟩ := h
    exact ⟨v, bs, hk, hrd, hlt, hnd, fun b hb => hr b (hρ b hb)⟩
  | row kd e sz rows =>
    cases kd with
    | mv n =>
      obtain ⟨v, cs, bs, hk, hown, hrs, hnd, hρ⟩ := h
      exact ⟨v, cs, bs, hk, hown, hrs, hnd, fun b hb => hr b (hρ b hb)⟩
    | ho p n =>
      obtain ⟨v, cs, bs, hk, hown, hrs, hnd, hρ, hc⟩ := h
      exact ⟨v, cs, bs, hk, hown, hrs, hnd, fun b hb => hr b (hρ b hb), hc⟩
    | _ => trivial
  | _ => trivial

/-- A STEP: blocks with one tag may change; each object is gone, or as it was, or told anew -/
theorem Sim.step (hs : Sim Γ st κ Θ a w) {H' : List Ob} (k : Keeps w w' Θ Θ' tag) (hm : ∀ b, 2 ≤ Θ' b → Mine Γ b) (hn : ∀ (j : Nat) v, κ j = some v → κ' j = some v)
    (hko : ∀ id, H'.length ≤ id → κ' id = none) (hk1 : ∀ (id : Nat) u, κ' id = some u → u.oneCell' = true)
    (hob : ∀ (j : Nat) o, H'[j]? = some o → o = .gone ∨ (j + 2 ≠ tag ∧ st.H[j]? = some o) ∨ ObRel w' κ' Θ' j o) (hu : ∃ ρ, Uniq Γ H' κ' Θ' w' ρ) : Sim Γ ⟨st.σ, H'⟩ κ' Θ' a w' := by
  refine ⟨hs.defers, hs.size, hko, hk1, ?_, ?_, k.own, hs.keepsOld k, hm, hs.keepsStays k, hu⟩
  · intro t
    obtain ⟨bs, hr, hz⟩ := hs.slot t
    exact ⟨bs, RdS.stay k hn hr hz⟩
  · intro j o hj
    rcases hob j o hj with rfl | ⟨hne, hj'⟩ | h
    · trivial
    · exact ObRel.stay k hn hne (hs.ob j o hj')
    · exact h

/-- a name for a new object -/
def upd (κ : Nat → Option Value) (id : Nat) (v : Option Value) : Nat → Option Value := fun i => if i = id then v else κ i

theorem upd_self (κ : Nat → Option Value) (id : Nat) (v : Option Value) : upd κ id v id = v := by simp [upd]
theorem upd_old {κ : Nat → Option Value} {id : Nat} (h : κ id = none) (v : Option Value) : ∀ (j : Nat) u, κ j = some u → upd κ id v j = some u := by
  intro j u hj
  unfold upd
  rw [if_neg (fun e => by subst e; rw [h] at hj; cases hj)]
  exact hj

def Ob.uqB : Ob → Bool
  | .row .uq _ _ _ => true
  | .row (.mv _) _ _ _ => true
  | .row (.ho _ _) _ _ _ => true
  | .tk _ => true
  | .tf _ _ _ => true
  | _ => false
def Ob.mvB : Ob → Bool
  | .row (.mv _) _ _ _ => true
  | .row (.ho _ _) _ _ _ => true
  | .tk _ => true
  | .tf _ _ _ => true
  | _ => false
theorem UqM.plain2 {ρ : Nat → Nat} {id : Nat} {o : Ob} (h : o.mvB = false) : UqM w κ ρ id o := by
  cases o with
  | tk rows => simp [Ob.mvB] at h
  | tf e sz rows => simp [Ob.mvB] at h
  | row kd e sz rows =>
    cases kd with
    | mv n => simp [Ob.mvB] at h
    | ho p n => simp [Ob.mvB] at h
    | _ => trivial
  | _ => trivial
theorem UqM.plain {ρ : Nat → Nat} {id : Nat} {o : Ob} (h : o.uqB = false) : UqM w κ ρ id o := by
  cases o with
  | tk rows => simp [Ob.uqB] at h
  | tf e sz rows => simp [Ob.uqB] at h
  | row kd e sz rows =>
    cases kd with
    | mv n => simp [Ob.uqB] at h
    | ho p n => simp [Ob.uqB] at h
    | _ => trivial
  | _ => trivial

/-- the next object: no slice, or one whose rows may be shared -/
theorem Sim.push (hs : Sim Γ st κ Θ a w) {v : Value} {o : Ob} (h1 : v.oneCell' = true) (k : Keeps w w' Θ Θ' (st.H.length + 2)) (hm : ∀ b, 2 ≤ Θ' b → Mine Γ b)
    (ho : ObRel w' (upd κ st.H.length (some v)) Θ' st.H.length o) (hq : o.uqB = false) : Sim Γ ⟨st.σ, st.H ++ [o]⟩ (upd κ st.H.length (some v)) Θ' a w' := by
  have hn := upd_old (hs.kout _ (Nat.le_refl _)) (some v)
  have key : ∀ (j : Nat) x, (st.H ++ [o])[j]? = some x → (j = st.H.length ∧ x = o) ∨ (j + 2 ≠ st.H.length + 2 ∧ st.H[j]? = some x) := by
    intro j x hj
    by_cases hlt : j < st.H.length
    · rw [List.getElem?_append_left hlt] at hj
      exact .inr ⟨by omega, hj⟩
    · have hj' := (List.getElem?_eq_some_iff.1 hj).1
      simp only [List.length_append, List.length_cons, List.length_nil] at hj'
      have e : j = st.H.length := by omega
      subst e
      rw [List.getElem?_append_right (Nat.le_refl _)] at hj
      simp at hj
      exact .inl ⟨rfl, hj.symm⟩
  obtain ⟨ρ, hu⟩ := hs.uniq
  have hus := hs.uniqStay k hn hu
  refine hs.step k hm hn ?_ ?_ ?_ ⟨ρ, hus.1, ?_, ?_⟩
  · intro i hi
    simp only [List.length_append, List.length_cons, List.length_nil] at hi
    unfold upd
    rw [if_neg (by omega)]
    exact hs.kout i (by omega)
  · intro i u hu
    unfold upd at hu
    split at hu
    · cases hu; exact h1
    · exact hs.kone i u hu
  · intro j x hj
    rcases key j x hj with ⟨rfl, rfl⟩ | h
    · exact .inr (.inr ho)
    · exact .inr (.inl h)
  · intro id e sz rows hj
    rcases key id _ hj with ⟨rfl, rfl⟩ | h
    · simp [Ob.uqB] at hq
    · exact hus.2.1 id e sz rows h.1 h.2
  · intro id x hj
    rcases key id _ hj with ⟨rfl, rfl⟩ | h
    · exact UqM.plain hq
    · exact hus.2.2 id x h.1 h.2

/-- one object's own blocks change, and no name: no slice, or one whose rows may be shared -/
theorem Sim.change (hs : Sim Γ st κ Θ a w) {id : Nat} {o : Ob} (k : Keeps w w' Θ Θ' (id + 2)) (hm : ∀ b, 2 ≤ Θ' b → Mine Γ b) (ho : ObRel w' κ Θ' id o) (hq : o.uqB = false) :
    Sim Γ ⟨st.σ, st.H.set id o⟩ κ Θ' a w' := by
  have key : ∀ (j : Nat) x, (st.H.set id o)[j]? = some x → (j = id ∧ x = o) ∨ (j + 2 ≠ id + 2 ∧ st.H[j]? = some x) := by
    intro j x hj
    by_cases e : id = j
    · subst e
      have hlt : id < st.H.length := by
        have := (List.getElem?_eq_some_iff.1 hj).1
        simpa using this
      rw [List.getElem?_set_self hlt] at hj
      cases hj
      exact .inl ⟨rfl, rfl⟩
    · rw [List.getElem?_set_ne e] at hj
      exact .inr ⟨by omega, hj⟩
  obtain ⟨ρ, hu⟩ := hs.uniq
  have hus := hs.uniqStay k (fun _ _ h => h) hu
  refine hs.step k hm (fun _ _ h => h) (fun i hi => hs.kout i (by simpa using hi)) hs.kone ?_ ⟨ρ, hus.1, ?_, ?_⟩
  · intro j x hj
    rcases key j x hj with ⟨rfl, rfl⟩ | h
    · exact .inr (.inr ho)
    · exact .inr (.inl h)
  · intro i e sz rows hj
    rcases key i _ hj with ⟨rfl, rfl⟩ | h
    · simp [Ob.uqB] at hq
    · exact hus.2.1 i e sz rows h.1 h.2
  · intro i x hj
    rcases key i _ hj with ⟨rfl, rfl⟩ | h
    · exact UqM.plain hq
    · exact hus.2.2 i x h.1 h.2

theorem Sim.keepsMine (hs : Sim Γ st κ Θ a w) (h : ∀ b, 2 ≤ Θ' b → 2 ≤ Θ b ∨ w.heap.size ≤ b) : ∀ b, 2 ≤ Θ' b → Mine Γ b := by
  intro b hb
  rcases h b hb with h | h
  · exact hs.mine b h
  · exact .inl (Nat.le_trans hs.base h)

theorem Keeps.refl (h : ∀ b, Θ b ≠ 0 → b < w.heap.size) (h2 : 2 ≤ tag) : Keeps w w Θ Θ tag := ⟨h2, rfl, rfl, rfl, Nat.le_refl _, fun _ _ _ => rfl, fun _ _ _ => rfl, h⟩

theorem Keeps.ofBelow (h : ∀ b, Θ b ≠ 0 → b < w.heap.size) (hb : Below w.heap.size w w') (h2 : 2 ≤ tag) : Keeps w w' Θ Θ tag :=
  ⟨h2, hb.os, hb.tape, hb.output, hb.size, fun b hlt _ => hb.block b hlt, fun _ _ _ => rfl, fun b hn => Nat.lt_of_lt_of_le (h b hn) hb.size⟩

/-- memory that grows, and nothing else -/
theorem Sim.grow (hs : Sim Γ st κ Θ a w) (hb : Below w.heap.size w w') : Sim Γ st κ Θ a w' := by
  have k : Keeps w w' Θ Θ (st.H.length + 2) := Keeps.ofBelow hs.own hb (by omega)
  obtain ⟨ρ, hu⟩ := hs.uniq
  have hus := hs.uniqStay k (fun _ _ h => h) hu
  have hlt : ∀ (j : Nat) o, st.H[j]? = some o → j + 2 ≠ st.H.length + 2 := fun j o h => by
    have := (List.getElem?_eq_some_iff.1 h).1; omega
  exact hs.step k hs.mine (fun _ _ h => h) hs.kout hs.kone (fun j o h => .inr (.inl ⟨hlt j o h, h⟩)) ⟨ρ, hus.1, fun id e sz rows h => hus.2.1 id e sz rows (hlt _ _ h) h, fun id o h => hus.2.2 id o (hlt _ _ h) h⟩

theorem Sim.drew (hs : Sim Γ st κ Θ a w) : Sim Γ st κ Θ a w.drew := hs.grow ((Below.refl _ _).drew)

/-! slices that are given up -/
def kill (H : List Ob) : List Nat → List Ob
  | [] => H
  | m :: ms => kill (H.set m .gone) ms

theorem kill_length (H : List Ob) (ms : List Nat) : (kill H ms).length = H.length := by
  induction ms generalizing H with
  | nil => rfl
  | cons m ms ih => simp [kill, ih]

theorem kill_get {H : List Ob} {ms : List Nat} {j : Nat} {o : Ob} (h : (kill H ms)[j]? = some o) : o = .gone ∨ (j ∉ ms ∧ H[j]? = some o) := by
  induction ms generalizing H with
  | nil => exact .inr ⟨by simp, h⟩
  | cons m ms ih =>
    rcases ih h with h | ⟨h1, h2⟩
    · exact .inl h
    · by_cases e : m = j
      · subst e
        have hlt := (List.getElem?_eq_some_iff.1 h2).1
        rw [List.getElem?_set_self (by simpa using hlt)] at h2
        cases h2; exact .inl rfl
      · rw [List.getElem?_set_ne e] at h2
        exact .inr ⟨by simp [h1, Ne.symm e], h2⟩

/-- what a slice that is given up shows from then on -/
def Melted (κ : Nat → Option Value) (Θ ρ : Nat → Nat) (w : World) (m : Nat) (k : RK) (rows : List (List D)) (t : Option (TypeId × Nat) := none) : Prop :=
  ∃ v bs, κ m = some v ∧ Rd w v (.sl rows) bs ∧ (∀ b ∈ bs, Θ b = 0) ∧ (k = .uq → bs.Nodup ∧ ∀ b ∈ bs, ρ b = m + 1) ∧ (∀ t', t = some t' → FullC w t' v (.sl rows) bs)
theorem Melted.none {m : Nat} {k : RK} {rows : List (List D)} {t : Option (TypeId × Nat)} {ρ : Nat → Nat} (h : Melted κ Θ ρ w m k rows t) : Melted κ Θ ρ w m k rows := by
  obtain ⟨v, bs, h1, h2, h3, h4, _⟩ := h
  exact ⟨v, bs, h1, h2, h3, h4, fun _ h => by cases h⟩
def Ob.tOf : Ob → Option (TypeId × Nat)
  | .row _ e sz _ => some (e, sz)
  | _ => Option.none

theorem ownsRow_rd {e sz : Nat} {v : Value} {rows : List (List D)} {cs : List Value} {bs : List Nat} (hrl : ∀ r ∈ rows, r.length = sz) (hown : w.ownsRow 0 e sz v rows.length cs) (hrs : Rds w cs rows.flatten bs) :
    Rd w v (.sl rows) (v.ownBlock.toList ++ bs) := by
  rcases hown.2 with ⟨rfl, hn⟩ | ⟨g, cap, cur, rfl, _, hg, hnc, hcm, _, ht⟩
  · have : rows = [] := List.eq_nil_of_length_eq_zero hn
    subst this
    cases hrs
    exact .slNil
  · have hlt : g < w.heap.size := (Array.getElem?_eq_some_iff.1 hg).1
    refine .sl g 0 cap sz rows cs bs hlt hnc hcm hrl (fun j c hc => ?_) hrs
    have := hown.cells (g := g) (by simp [Value.ownBlock]) j c hc
    simpa [Addr.add_lit] using this

theorem Sim.melt (hs : Sim Γ st κ Θ a w) {ρ : Nat → Nat} (hu : Uniq Γ st.H κ Θ w ρ) {m e sz : Nat} {k : RK} {rows : List (List D)} (hH : st.H[m]? = some (.row k e sz rows)) (hk : k.opn = true) :
    ∃ Θ' ρ', Sim Γ ⟨st.σ, st.H.set m .gone⟩ κ Θ' a w ∧ Uniq Γ (st.H.set m .gone) κ Θ' w ρ' ∧ Melted κ Θ' ρ' w m k rows (some (e, sz)) ∧
      (∀ b, Θ b = 0 → Θ' b = 0) ∧ (∀ b, ρ b ≠ 0 → ρ' b = ρ b) := by
  obtain ⟨hsz, hrl, v, cs, bs, hkm, hown, hrs, hΘ, hz⟩ := hs.ob m _ hH
  have hz0 : ∀ b ∈ bs, Θ b = 0 := by cases k <;> first | exact hz | simp [RK.opn] at hk
  let Θ' : Nat → Nat := fun b => if Θ b = m + 2 then 0 else Θ b
  let ρ' : Nat → Nat := fun b => if some b = v.ownBlock then m + 1 else ρ b
  have hk' : Keeps w w Θ Θ' (m + 2) := ⟨by omega, rfl, rfl, rfl, Nat.le_refl _, fun _ _ _ => rfl, fun b _ hne => if_neg hne, fun b hb => hs.own b (fun h0 => hb (by simp only [Θ']; split <;> simp_all))⟩
  have hT0 : ∀ b, Θ b = 0 → Θ' b = 0 := fun b h => by simp only [Θ']; split <;> omega
  have hmine : ∀ b, 2 ≤ Θ' b → Mine Γ b := fun b hb => hs.mine b (by simp only [Θ'] at hb; split at hb <;> omega)
  have htop : ∀ g, v.ownBlock = some g → ρ g = 0 := by
    intro g hg
    cases h : ρ g with
    | zero => rfl
    | succ n => have := (hu.free g (by omega)).1; rw [hΘ g hg] at this; omega
  have hρ : ∀ b, ρ b ≠ 0 → ρ' b = ρ b := fun b hb => if_neg (fun h => hb (htop b h.symm))
  have key : ∀ (j : Nat) x, (st.H.set m .gone)[j]? = some x → x = .gone ∨ (j + 2 ≠ m + 2 ∧ st.H[j]? = some x) := by
    intro j x hj
    rcases kill_get (ms := [m]) hj with h | ⟨h1, h2⟩
    · exact .inl h
    · exact .inr ⟨by simp at h1; omega, h2⟩
  have hus := hs.uniqStay hk' (fun _ _ h => h) hu
  have hU : Uniq Γ (st.H.set m .gone) κ Θ' w ρ' := by
    refine ⟨fun b hb => ?_, fun id e sz rows h => ?_, fun id x h => ?_⟩
    · by_cases hb' : some b = v.ownBlock
      · have e1 := hΘ b hb'.symm
        refine ⟨by simp only [Θ']; rw [if_pos e1], .inl (hs.mine b (by omega)), ?_⟩
        rcases hown.2 with ⟨rfl, _⟩ | ⟨g, cap, cur, rfl, _, hg, _⟩
        · simp [Value.ownBlock] at hb'
        · simp [Value.ownBlock] at hb'
          subst hb'
          exact ⟨_, _, hg⟩
      · exact hus.1 b (by simp only [ρ'] at hb; rwa [if_neg hb'] at hb)
    · rcases key id _ h with h | ⟨h1, h2⟩
      · cases h
      · obtain ⟨v2, c2, b2, q1, q2, q3, q4, q5⟩ := hus.2.1 id e sz rows h1 h2
        exact ⟨v2, c2, b2, q1, q2, q3, q4, fun b hb => by rw [hρ b (by rw [q5 b hb]; omega)]; exact q5 b hb⟩
    · rcases key id _ h with h | ⟨h1, h2⟩
      · subst h; trivial
      · exact (hus.2.2 id x h1 h2).re fun b hb => (hρ b (by omega)).trans hb
  refine ⟨Θ', ρ', ?_, hU, ?_, hT0, hρ⟩
  · exact hs.step hk' hmine (fun _ _ h => h) (fun i hi => hs.kout i (by simpa using hi)) hs.kone (fun j x hj => by
      rcases key j x hj with h | h
      · exact .inl h
      · exact .inr (.inl h)) ⟨ρ', hU⟩
  · have plain : k ≠ .uq → Melted κ Θ' ρ' w m k rows (some (e, sz)) := fun hne => by
      refine ⟨v, _, hkm, ownsRow_rd hrl hown hrs, fun b hb => ?_, fun h => absurd h hne, fun t ht => by cases ht; exact .inr ⟨rows, cs, bs, rfl, hsz, hrl, hown, hrs, rfl⟩⟩
      rcases List.mem_append.1 hb with hb | hb
      · simp only [Option.mem_toList] at hb
        simp only [Θ']; rw [if_pos (hΘ b hb)]
      · exact hT0 b (hz0 b hb)
    cases k with
    | cl => simp [RK.opn] at hk
    | sh => exact plain (by simp)
    | mv n => exact plain (by simp)
    | ho p n => exact plain (by simp)
    | uq =>
      obtain ⟨v2, c2, b2, q1, q2, q3, q4, q5⟩ := hu.rows m e sz rows hH
      rw [hkm] at q1; cases q1
      have hfr : ∀ b ∈ b2, ρ b ≠ 0 := fun b hb => by rw [q5 b hb]; omega
      refine ⟨v, _, hkm, ownsRow_rd hrl q2 q3.rd, fun b hb => ?_, fun _ => ⟨?_, fun b hb => ?_⟩, fun t ht => by cases ht; exact .inr ⟨rows, c2, b2, rfl, hsz, hrl, q2, q3.rd, rfl⟩⟩
      · rcases List.mem_append.1 hb with hb | hb
        · simp only [Option.mem_toList] at hb
          simp only [Θ']; rw [if_pos (hΘ b hb)]
        · exact hT0 b (hu.free b (hfr b hb)).1
      · rw [List.nodup_append]
        refine ⟨by cases v.ownBlock <;> simp, q4, fun x hx y hy e => ?_⟩
        simp only [Option.mem_toList] at hx
        subst e
        exact hfr x hy (htop x hx)
      · rcases List.mem_append.1 hb with hb | hb
        · simp only [Option.mem_toList] at hb
          simp only [ρ']; rw [if_pos hb.symm]
        · rw [hρ b (hfr b hb)]; exact q5 b hb

/-- a closed slice is opened: its rows may be read from now on -/
theorem Sim.openCl (hs : Sim Γ st κ Θ a w) {m e sz : Nat} {rows : List (List D)} (hH : st.H[m]? = some (.row .cl e sz rows)) :
    ∃ Θ', Sim Γ ⟨st.σ, st.H.set m (.row .uq e sz rows)⟩ κ Θ' a w := by
  obtain ⟨ρ, hu⟩ := hs.uniq
  obtain ⟨hsz, hrl, v, cs, bs, hkm, hown, hrs, hΘ, hnd, hbs, hno, hF⟩ := hs.ob m _ hH
  let Θ' : Nat → Nat := fun b => if b ∈ bs then 0 else Θ b
  let ρ' : Nat → Nat := fun b => if b ∈ bs then m + 1 else ρ b
  have hk' : Keeps w w Θ Θ' (m + 2) := ⟨by omega, rfl, rfl, rfl, Nat.le_refl _, fun _ _ _ => rfl, fun b _ hne => if_neg (fun h => hne (hbs b h).1), fun b hb => hs.own b (fun h0 => hb (by simp only [Θ']; split <;> simp_all))⟩
  have hmine : ∀ b, 2 ≤ Θ' b → Mine Γ b := fun b hb => hs.mine b (by simp only [Θ'] at hb; split at hb <;> omega)
  have hρ0 : ∀ b ∈ bs, ρ b = 0 := by
    intro b hb
    cases h : ρ b with
    | zero => rfl
    | succ n => have := (hu.free b (by omega)).1; rw [(hbs b hb).1] at this; omega
  have key : ∀ (j : Nat) x, (st.H.set m (.row .uq e sz rows))[j]? = some x → (j = m ∧ x = .row .uq e sz rows) ∨ (j ≠ m ∧ st.H[j]? = some x) := by
    intro j x hj
    by_cases e1 : m = j
    · subst e1
      have hlt := (List.getElem?_eq_some_iff.1 hH).1
      rw [List.getElem?_set_self hlt] at hj
      cases hj; exact .inl ⟨rfl, rfl⟩
    · rw [List.getElem?_set_ne e1] at hj
      exact .inr ⟨fun h => e1 h.symm, hj⟩
  have hus := hs.uniqStay hk' (fun _ _ h => h) hu
  refine ⟨Θ', hs.step hk' hmine (fun _ _ h => h) (fun i hi => hs.kout i (by simpa using hi)) hs.kone (fun j x hj => ?_) ⟨ρ', fun b hb => ?_, fun id e' sz' rows' h => ?_, fun id x h => ?_⟩⟩
  · rcases key j x hj with ⟨rfl, rfl⟩ | ⟨h1, h2⟩
    · refine .inr (.inr ⟨hsz, hrl, v, cs, bs, hkm, hown, hrs, fun g hg => ?_, fun b hb => if_pos hb⟩)
      simp only [Θ']
      rw [if_neg (hno g hg)]
      exact hΘ g hg
    · exact .inr (.inl ⟨by omega, h2⟩)
  · simp only [ρ'] at hb
    split at hb
    · rename_i hin
      exact ⟨if_pos hin, .inl (hs.mine b (by rw [(hbs b hin).1]; omega)), (hbs b hin).2⟩
    · exact hus.1 b hb
  · rcases key id _ h with ⟨rfl, h1⟩ | ⟨h1, h2⟩
    · simp only [Ob.row.injEq, true_and] at h1
      obtain ⟨rfl, rfl, rfl⟩ := h1
      exact ⟨v, cs, bs, hkm, hown, hF, hnd, fun b hb => if_pos hb⟩
    · obtain ⟨v2, c2, b2, q1, q2, q3, q4, q5⟩ := hus.2.1 id e' sz' rows' (by omega) h2
      refine ⟨v2, c2, b2, q1, q2, q3, q4, fun b hb => ?_⟩
      simp only [ρ']
      rw [if_neg (fun hin => by have := hρ0 b hin; have := q5 b hb; omega)]
      exact q5 b hb
  · rcases key id _ h with ⟨rfl, rfl⟩ | ⟨h1, h2⟩
    · exact UqM.plain2 rfl
    · refine (hus.2.2 id x (by omega) h2).re fun b hb => ?_
      simp only [ρ']
      rw [if_neg (fun hin => by have := hρ0 b hin; omega)]
      exact hb

/-- a slice that was taken out is given up -/
theorem Sim.meltT (hs : Sim Γ st κ Θ a w) {ρ : Nat → Nat} (hu : Uniq Γ st.H κ Θ w ρ) {m : Nat} {rows : List (List D)} (hH : st.H[m]? = some (.tk rows)) :
    Sim Γ ⟨st.σ, st.H.set m .gone⟩ κ Θ a w ∧ Uniq Γ (st.H.set m .gone) κ Θ w ρ ∧ Melted κ Θ ρ w m .uq rows := by
  have key : ∀ (j : Nat) x, (st.H.set m .gone)[j]? = some x → x = .gone ∨ (j ≠ m ∧ st.H[j]? = some x) := by
    intro j x hj
    rcases kill_get (ms := [m]) hj with h | ⟨h1, h2⟩
    · exact .inl h
    · exact .inr ⟨by simpa using h1, h2⟩
  have hU : Uniq Γ (st.H.set m .gone) κ Θ w ρ := by
    refine ⟨hu.free, fun id e sz rows h => ?_, fun id x h => ?_⟩
    · rcases key id _ h with h | ⟨_, h2⟩
      · cases h
      · exact hu.rows id e sz rows h2
    · rcases key id _ h with h | ⟨_, h2⟩
      · subst h; trivial
      · exact hu.more id x h2
  obtain ⟨v, bs, q1, q2, q3, q4⟩ := hu.more m _ hH
  refine ⟨⟨hs.defers, hs.size, fun i hi => hs.kout i (by simpa using hi), hs.kone, hs.slot, fun id o h => ?_, hs.own, hs.old, hs.mine, hs.stays, ρ, hU⟩, hU, v, bs, q1, q2, fun b hb => (hu.free b (by rw [q4 b hb]; omega)).1, fun _ => ⟨q3, q4⟩, fun _ h => by cases h⟩
  rcases key id _ h with h | ⟨_, h2⟩
  · subst h; trivial
  · exact hs.ob id o h2
/-- what an object that is handed over shows -/
def Ob.slOf : Ob → Option (RK × List (List D))
  | .row k _ _ rows => (match k with | .cl => none | _ => some (k, rows))
  | .tk rows => some (.uq, rows)
  | _ => none
theorem Ob.slOf_inv {o : Ob} {k : RK} {rows : List (List D)} (h : o.slOf = some (k, rows)) : (∃ e sz, o = .row k e sz rows ∧ k.opn = true) ∨ (o = .tk rows ∧ k = .uq) := by
  cases o with
  | row k' e sz r =>
    cases k' with
    | cl => simp [Ob.slOf] at h
    | _ => simp only [Ob.slOf, Option.some.injEq, Prod.mk.injEq] at h; obtain ⟨rfl, rfl⟩ := h; exact .inl ⟨e, sz, rfl, rfl⟩
  | tk r => simp only [Ob.slOf, Option.some.injEq, Prod.mk.injEq] at h; obtain ⟨rfl, rfl⟩ := h; exact .inr ⟨rfl, rfl⟩
  | _ => simp [Ob.slOf] at h
theorem Sim.melt1 (hs : Sim Γ st κ Θ a w) {ρ : Nat → Nat} (hu : Uniq Γ st.H κ Θ w ρ) {m : Nat} {o : Ob} {k : RK} {rows : List (List D)} (hH : st.H[m]? = some o) (ho : o.slOf = some (k, rows)) :
    ∃ Θ' ρ', Sim Γ ⟨st.σ, st.H.set m .gone⟩ κ Θ' a w ∧ Uniq Γ (st.H.set m .gone) κ Θ' w ρ' ∧ Melted κ Θ' ρ' w m k rows o.tOf ∧
      (∀ b, Θ b = 0 → Θ' b = 0) ∧ (∀ b, ρ b ≠ 0 → ρ' b = ρ b) := by
  rcases Ob.slOf_inv ho with ⟨e, sz, rfl, hk⟩ | ⟨rfl, rfl⟩
  · exact hs.melt hu hH hk
  · obtain ⟨h1, h2, h3⟩ := hs.meltT hu hH
    exact ⟨Θ, ρ, h1, h2, h3, fun _ h => h, fun _ _ => rfl⟩
theorem Sim.meltAllT : ∀ (ms : List Nat) {st : St} {Θ ρ : Nat → Nat}, Sim Γ st κ Θ a w → Uniq Γ st.H κ Θ w ρ → ms.Nodup →
    (∀ m ∈ ms, ∃ o k rows, st.H[m]? = some o ∧ o.slOf = some (k, rows)) →
    ∃ Θ' ρ', Sim Γ ⟨st.σ, kill st.H ms⟩ κ Θ' a w ∧ Uniq Γ (kill st.H ms) κ Θ' w ρ' ∧ (∀ m ∈ ms, ∀ o k rows, st.H[m]? = some o → o.slOf = some (k, rows) → Melted κ Θ' ρ' w m k rows o.tOf) ∧
      (∀ b, Θ b = 0 → Θ' b = 0) ∧ (∀ b, ρ b ≠ 0 → ρ' b = ρ b) := by
  intro ms
  induction ms with
  | nil => intro st Θ ρ hs hu _ _; exact ⟨Θ, ρ, hs, hu, by simp, fun _ h => h, fun _ _ => rfl⟩
  | cons m ms ih =>
    intro st Θ ρ hs hu hnd hall
    obtain ⟨hnm, hnd'⟩ := List.nodup_cons.1 hnd
    obtain ⟨o, k, rows, hH, hk⟩ := hall m (by simp)
    obtain ⟨Θ1, ρ1, hs1, hu1, hm1, hz1, hr1⟩ := hs.melt1 hu hH hk
    have hget : ∀ m' ∈ ms, (st.H.set m .gone)[m']? = st.H[m']? := fun m' hm' => List.getElem?_set_ne (fun e : m = m' => hnm (by rw [e]; exact hm'))
    obtain ⟨Θ2, ρ2, hs2, hu2, hm2, hz2, hr2⟩ := ih (st := ⟨st.σ, st.H.set m .gone⟩) hs1 hu1 hnd' (fun m' hm' => by
      obtain ⟨o', k', rows', h1, h2⟩ := hall m' (by simp [hm'])
      exact ⟨o', k', rows', (hget m' hm').trans h1, h2⟩)
    refine ⟨Θ2, ρ2, hs2, hu2, ?_, fun b h => hz2 b (hz1 b h), fun b h => (hr2 b (by rw [hr1 b h]; exact h)).trans (hr1 b h)⟩
    intro m' hm' o' k' rows' hH' ho'
    rcases List.mem_cons.1 hm' with rfl | hm''
    · rw [hH] at hH'; cases hH'
      rw [hk] at ho'; cases ho'
      obtain ⟨v, bs, q1, q2, q3, q4, q7⟩ := hm1
      refine ⟨v, bs, q1, q2, fun b hb => hz2 b (q3 b hb), fun hq => ?_, fun _ h => q7 _ h⟩
      obtain ⟨q5, q6⟩ := q4 hq
      exact ⟨q5, fun b hb => by rw [hr2 b (by rw [q6 b hb]; omega)]; exact q6 b hb⟩
    · exact hm2 m' hm'' o' k' rows' ((hget m' hm'').trans hH') ho'
theorem Sim.meltAll : ∀ (ms : List Nat) {st : St} {Θ ρ : Nat → Nat}, Sim Γ st κ Θ a w → Uniq Γ st.H κ Θ w ρ → ms.Nodup →
    (∀ m ∈ ms, ∃ k e sz rows, st.H[m]? = some (.row k e sz rows) ∧ k.opn = true) →
    ∃ Θ' ρ', Sim Γ ⟨st.σ, kill st.H ms⟩ κ Θ' a w ∧ Uniq Γ (kill st.H ms) κ Θ' w ρ' ∧ (∀ m ∈ ms, ∀ k e sz rows, st.H[m]? = some (.row k e sz rows) → Melted κ Θ' ρ' w m k rows) ∧
      (∀ b, Θ b = 0 → Θ' b = 0) ∧ (∀ b, ρ b ≠ 0 → ρ' b = ρ b) := by
  intro ms
  induction ms with
  | nil => intro st Θ ρ hs hu _ _; exact ⟨Θ, ρ, hs, hu, by simp, fun _ h => h, fun _ _ => rfl⟩
  | cons m ms ih =>
    intro st Θ ρ hs hu hnd hall
    obtain ⟨hnm, hnd'⟩ := List.nodup_cons.1 hnd
    obtain ⟨k, e, sz, rows, hH, hk⟩ := hall m (by simp)
    obtain ⟨Θ1, ρ1, hs1, hu1, hm1, hz1, hr1⟩ := hs.melt hu hH hk
    have hget : ∀ m' ∈ ms, (st.H.set m .gone)[m']? = st.H[m']? := fun m' hm' => List.getElem?_set_ne (fun e : m = m' => hnm (by rw [e]; exact hm'))
    obtain ⟨Θ2, ρ2, hs2, hu2, hm2, hz2, hr2⟩ := ih (st := ⟨st.σ, st.H.set m .gone⟩) hs1 hu1 hnd' (fun m' hm' => by
      obtain ⟨k', e', sz', rows', h1, h2⟩ := hall m' (by simp [hm'])
      exact ⟨k', e', sz', rows', (hget m' hm').trans h1, h2⟩)
    refine ⟨Θ2, ρ2, hs2, hu2, ?_, fun b h => hz2 b (hz1 b h), fun b h => (hr2 b (by rw [hr1 b h]; exact h)).trans (hr1 b h)⟩
    intro m' hm' k' e' sz' rows' hH'
    rcases List.mem_cons.1 hm' with rfl | hm''
    · rw [hH] at hH'; cases hH'
      obtain ⟨v, bs, q1, q2, q3, q4, q7⟩ := hm1
      refine ⟨v, bs, q1, q2, fun b hb => hz2 b (q3 b hb), fun hq => ?_, fun _ h => by cases h⟩
      obtain ⟨q5, q6⟩ := q4 hq
      exact ⟨q5, fun b hb => by rw [hr2 b (by rw [q6 b hb]; omega)]; exact q6 b hb⟩
    · exact hm2 m' hm'' k' e' sz' rows' ((hget m' hm'').trans hH')
end
end Go.Cx
