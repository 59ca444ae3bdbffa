/- A state told anew at a loop's head: which slots are kept, which objects, in which order; loops. No condition; plain lemmas. -/
import Derived.Test.YtoeenpcilfhjbaaDoorNDraw
namespace Go.Cx
set_option linter.unusedVariables false
set_option linter.unusedSimpArgs false
open Go.RowKit

def pos (o : List Nat) (i : Nat) : Option Nat := ix (fun j => j == i) o
def D.rnC (o : List Nat) (d : D) : D := match d with
  | .acc i => (match pos o i with | some j => .acc j | none => .any)
  | .ptr i off => (match pos o i with | some j => .ptr j off | none => .any)
  | .op i a b c => (match pos o i with | some j => .op j a b c | none => .any)
  | d => d
def D.rnV (o : List Nat) (d : D) : D := match d with
  | .agg cs => .agg (cs.map (D.rnC o))
  | d => d.rnC o
def D.rnS (o : List Nat) (d : D) : D := match d with
  | .tup vs => .tup (vs.map (D.rnV o))
  | d => d.rnV o
def Ob.rn (o : List Nat) (x : Ob) : Ob := match x with
  | .box cells => .box (cells.map (D.rnC o))
  | .pbx cells v => .pbx (cells.map (D.rnC o)) v
  | .hole _ _ _ _ _ => .gone
  | .row k e sz rows => (match k with | .ho _ _ => .gone | k => .row k e sz rows)
  | x => x
def St.canon (st : St) (K o : List Nat) : St := ⟨K.map fun t => (t, (lk st.σ t).rnS o), o.map fun i => ((st.H[i]?).getD .gone).rn o⟩

section
variable {P : Program} {Γ : Ctx} {Q : Exit → St → Prop} {st : St} {κ κ' : Nat → Option Value} {Θ Θ' : Nat → Nat} {a : Act} {w : World} {o : List Nat}

theorem nodup_inj : ∀ {o : List Nat}, o.Nodup → ∀ (i j x : Nat), o[i]? = some x → o[j]? = some x → i = j := by
  intro o
  induction o with
  | nil => intro _ i j x h; simp at h
  | cons y o ih =>
    intro hnd i j x hi hj
    obtain ⟨h1, h2⟩ := List.nodup_cons.1 hnd
    cases i with
    | zero =>
      cases j with
      | zero => rfl
      | succ j => simp at hi hj; subst hi; exact absurd (List.mem_of_getElem? hj) h1
    | succ i =>
      cases j with
      | zero => simp at hi hj; subst hj; exact absurd (List.mem_of_getElem? hi) h1
      | succ j => simp at hi hj; rw [ih h2 i j x hi hj]
theorem pos_get {i j : Nat} (h : pos o i = some j) : o[j]? = some i := by
  obtain ⟨x, h1, h2⟩ := ix_some h
  simp only [beq_iff_eq] at h2
  subst h2; exact h1
theorem pos_of {i j : Nat} (hnd : o.Nodup) (h : o[j]? = some i) : pos o i = some j :=
  ix_hit h (by simp) (fun k y hk hy => by
    simp only [beq_iff_eq] at hy
    subst hy
    obtain ⟨h1, h2⟩ := List.getElem?_eq_some_iff.1 h
    obtain ⟨h3, h4⟩ := List.getElem?_eq_some_iff.1 hk
    exact nodup_inj hnd k j _ hk h)

section
variable (hk : ∀ (i j : Nat) v, pos o i = some j → κ i = some v → κ' j = some v) (hz0 : ∀ b, Θ b = 0 → Θ' b = 0)
include hk hz0
theorem RdC.rn {v : Value} {d : D} {bs : List Nat} (h : RdC w κ v d bs) (hz : ∀ b ∈ bs, Θ b = 0) : ∃ b', RdC w κ' v (d.rnC o) b' ∧ ∀ b ∈ b', Θ' b = 0 := by
  cases h with
  | pure h =>
    have e : d.rnC o = d := by cases h <;> rfl
    rw [e]
    exact ⟨bs, .pure h, fun b hb => hz0 b (hz b hb)⟩
  | acc i v hi =>
    simp only [D.rnC]
    cases hp : pos o i with
    | none => exact ⟨[], .pure (.any _), by simp⟩
    | some j => exact ⟨[], .acc j v (hk i j v hp hi), by simp⟩
  | ptr i off b hi =>
    simp only [D.rnC]
    cases hp : pos o i with
    | none => exact ⟨[], .pure (.any _), by simp⟩
    | some j => exact ⟨[], .ptr j off b (hk i j _ hp hi), by simp⟩
  | op i x sz off b o0 len cap hi =>
    simp only [D.rnC]
    cases hp : pos o i with
    | none => exact ⟨[], .pure (.any _), by simp⟩
    | some j => exact ⟨[], .op j x sz off b o0 len cap (hk i j _ hp hi), by simp⟩
theorem RdCs.rn {vs : List Value} {ds : List D} {bs : List Nat} (h : RdCs w κ vs ds bs) (hz : ∀ b ∈ bs, Θ b = 0) : ∃ b', RdCs w κ' vs (ds.map (D.rnC o)) b' ∧ ∀ b ∈ b', Θ' b = 0 := by
  induction h with
  | nil => exact ⟨[], .nil, by simp⟩
  | cons v vs d ds b1 b2 h1 h2 _ ih =>
    obtain ⟨c1, q1, q2⟩ := RdC.rn hk hz0 h2 (fun b hb => hz b (by simp [hb]))
    obtain ⟨c2, p1, p2⟩ := ih (fun b hb => hz b (by simp [hb]))
    refine ⟨c1 ++ c2, .cons _ _ _ _ _ _ h1 q1 p1, fun b hb => ?_⟩
    rcases List.mem_append.1 hb with hb | hb
    · exact q2 b hb
    · exact p2 b hb
theorem RdV.rn {v : Value} {d : D} {bs : List Nat} (h : RdV w κ v d bs) (hz : ∀ b ∈ bs, Θ b = 0) : ∃ b', RdV w κ' v (d.rnV o) b' ∧ ∀ b ∈ b', Θ' b = 0 := by
  cases h with
  | cell h =>
    by_cases hagg : ∃ ds, d = .agg ds
    · obtain ⟨ds, rfl⟩ := hagg
      cases h with
      | pure h =>
        cases h with
        | agg cs _ _ h =>
          obtain ⟨b', q1, q2⟩ := RdCs.rn hk hz0 (RdCs.ofRds (κ := κ) h) hz
          exact ⟨b', .agg _ _ _ q1, q2⟩
    · have e : d.rnV o = d.rnC o := by cases d <;> first | rfl | exact absurd ⟨_, rfl⟩ hagg
      rw [e]
      obtain ⟨b', q1, q2⟩ := RdC.rn hk hz0 h hz
      exact ⟨b', .cell q1, q2⟩
  | agg cs ds bs h =>
    obtain ⟨b', q1, q2⟩ := RdCs.rn hk hz0 h hz
    exact ⟨b', .agg _ _ _ q1, q2⟩
theorem RdVs.rn {vs : List Value} {ds : List D} {bs : List Nat} (h : RdVs w κ vs ds bs) (hz : ∀ b ∈ bs, Θ b = 0) : ∃ b', RdVs w κ' vs (ds.map (D.rnV o)) b' ∧ ∀ b ∈ b', Θ' b = 0 := by
  induction h with
  | nil => exact ⟨[], .nil, by simp⟩
  | cons v vs d ds b1 b2 h2 _ ih =>
    obtain ⟨c1, q1, q2⟩ := RdV.rn hk hz0 h2 (fun b hb => hz b (by simp [hb]))
    obtain ⟨c2, p1, p2⟩ := ih (fun b hb => hz b (by simp [hb]))
    refine ⟨c1 ++ c2, .cons _ _ _ _ _ _ q1 p1, fun b hb => ?_⟩
    rcases List.mem_append.1 hb with hb | hb
    · exact q2 b hb
    · exact p2 b hb
theorem RdS.rn {v : Value} {d : D} {bs : List Nat} (h : RdS w κ v d bs) (hz : ∀ b ∈ bs, Θ b = 0) : ∃ b', RdS w κ' v (d.rnS o) b' ∧ ∀ b ∈ b', Θ' b = 0 := by
  cases h with
  | v h =>
    have hnt : ∀ vs, d ≠ .tup vs := by
      intro vs e; subst e
      cases h with
      | cell h => cases h with | pure h => cases h
    have e : d.rnS o = d.rnV o := by cases d <;> first | rfl | exact absurd rfl (hnt _)
    rw [e]
    obtain ⟨b', q1, q2⟩ := RdV.rn hk hz0 h hz
    exact ⟨b', .v q1, q2⟩
  | tup vs ds bs h =>
    obtain ⟨b', q1, q2⟩ := RdVs.rn hk hz0 h hz
    exact ⟨b', .tup _ _ _ q1, q2⟩
end

theorem lk_canon (σ : List (Nat × D)) (K : List Nat) (f : D → D) (t : Nat) : lk (K.map fun t => (t, f (lk σ t))) t = if t ∈ K then f (lk σ t) else .any := by
  induction K with
  | nil => simp [lk]
  | cons u K ih =>
    simp only [List.map_cons, lk]
    by_cases e : t = u
    · subst e; simp
    · rw [if_neg e, ih]; simp [e]

theorem Sim.canon (hs : Sim Γ st κ Θ a w) (K o : List Nat) (hnd : o.Nodup) : ∃ κ' Θ', Sim Γ (st.canon K o) κ' Θ' a w := by
  let κ' : Nat → Option Value := fun j => (o[j]?).bind κ
  let Θ' : Nat → Nat := fun b => if Θ b ≤ 1 then Θ b else match pos o (Θ b - 2) with | some j => j + 2 | none => 1
  have hz0 : ∀ b, Θ b = 0 → Θ' b = 0 := fun b h => by simp [Θ', h]
  have hk : ∀ (i j : Nat) v, pos o i = some j → κ i = some v → κ' j = some v := fun i j v h1 h2 => by simp [κ', pos_get h1, h2]
  have hk2 : ∀ (i j : Nat), o[j]? = some i → κ' j = κ i := fun i j h => by simp [κ', h]
  have htag : ∀ b (i j : Nat), o[j]? = some i → Θ b = i + 2 → Θ' b = j + 2 := by
    intro b i j hj h
    simp only [Θ']
    rw [if_neg (by omega), h, Nat.add_sub_cancel, pos_of hnd hj]
  have key : ∀ (j : Nat) x, (st.canon K o).H[j]? = some x → ∃ i, o[j]? = some i ∧ ((st.H[i]? = none ∧ x = .gone) ∨ ∃ y, st.H[i]? = some y ∧ x = y.rn o) := by
    intro j x hj
    simp only [St.canon, List.getElem?_map] at hj
    cases ho : o[j]? with
    | none => simp [ho] at hj
    | some i =>
      simp only [ho, Option.map_some, Option.some.injEq] at hj
      refine ⟨i, rfl, ?_⟩
      cases hH : st.H[i]? with
      | none => rw [hH] at hj; exact .inl ⟨rfl, hj.symm⟩
      | some y => rw [hH] at hj; exact .inr ⟨y, rfl, hj.symm⟩
  obtain ⟨ρ, hu⟩ := hs.uniq
  let ρ' : Nat → Nat := fun b => if ρ b = 0 then 0 else match pos o (ρ b - 1) with | some j => j + 1 | none => 0
  refine ⟨κ', Θ', hs.defers, hs.size, ?_, ?_, ?_, ?_, ?_, ?_, ?_, hs.stays, ρ', ?_, ?_, ?_⟩
  · intro i hi
    simp only [St.canon, List.length_map] at hi
    simp [κ', List.getElem?_eq_none hi]
  · intro i u hu'
    simp only [κ'] at hu'
    cases ho : o[i]? with
    | none => simp [ho] at hu'
    | some j => simp [ho] at hu'; exact hs.kone j u hu'
  · intro t
    show ∃ bs, RdS w κ' _ (lk (K.map fun t => (t, (lk st.σ t).rnS o)) t) bs ∧ _
    rw [lk_canon st.σ K (fun d => d.rnS o) t]
    split
    · obtain ⟨bs, hr, hz⟩ := hs.slot t
      exact RdS.rn hk hz0 hr hz
    · exact ⟨[], .of (.any _), by simp⟩
  · intro j x hj
    obtain ⟨i, ho, ⟨_, rfl⟩ | ⟨y, hH, rfl⟩⟩ := key j x hj
    · trivial
    · have hob := hs.ob i y hH
      cases y with
      | gone => trivial
      | hole => trivial
      | tk rows =>
        obtain ⟨v, bs, q1, q2, q3⟩ := hob
        exact ⟨v, bs, by rw [hk2 i j ho]; exact q1, q2, fun b hb => hz0 b (q3 b hb)⟩
      | tf e sz rows =>
        obtain ⟨v, bs, q1, q2, q3⟩ := hob
        exact ⟨v, bs, by rw [hk2 i j ho]; exact q1, q2, fun b hb => hz0 b (q3 b hb)⟩
      | mp kv =>
        obtain ⟨g, es, c, q1, q2, q3, q4⟩ := hob
        exact ⟨g, es, c, by rw [hk2 i j ho]; exact q1, q2, htag g i j ho q3, q4⟩
      | lent sz rows u =>
        obtain ⟨q1, q0, v, bs, q2, q3, q4, q5⟩ := hob
        exact ⟨q1, fun x hx => by rw [hk2 i j ho]; exact q0 x hx, v, bs, by rw [hk2 i j ho]; exact q2, q3, q4, fun b hb => ⟨htag b i j ho (q5 b hb).1, (q5 b hb).2⟩⟩
      | box cells =>
        obtain ⟨g, cs, T, q1, q2, q3, bs, q4, q5⟩ := hob
        obtain ⟨b', p1, p2⟩ := RdCs.rn hk hz0 q4 q5
        exact ⟨g, cs, T, by rw [hk2 i j ho]; exact q1, q2, htag g i j ho q3, b', p1, p2⟩
      | pbx cells u =>
        obtain ⟨q0, g, cs, T, q1, q2, q3, bs, q4, q5⟩ := hob
        obtain ⟨b', p1, p2⟩ := RdCs.rn hk hz0 q4 q5
        exact ⟨⟨by rw [hk2 i j ho]; exact q0.1, q0.2.same q1 q2 (by rw [hk2 i j ho]; exact q1) q2⟩, g, cs, T, by rw [hk2 i j ho]; exact q1, q2, htag g i j ho q3, b', p1, p2⟩
      | row k e sz rows =>
        obtain ⟨q1, q2, v, cs, bs, q3, q4, q5, q6, q7⟩ := hob
        cases k with
        | ho p n => exact trivial
        | _ =>
        refine ⟨q1, q2, v, cs, bs, by rw [hk2 i j ho]; exact q3, q4, q5, fun g hg => htag g i j ho (q6 g hg), ?_⟩
        first
        | exact ⟨q7.1, fun b hb => ⟨htag b i j ho (q7.2.1 b hb).1, (q7.2.1 b hb).2⟩, q7.2.2⟩
        | exact fun b hb => hz0 b (q7 b hb)
  · intro b hb
    exact hs.own b (fun h => hb (hz0 b h))
  · intro b hb hx
    obtain ⟨h1, h2⟩ := hs.old b hb hx
    simp only [Θ']
    rw [if_pos h2]
    exact ⟨h1, h2⟩
  · intro b hb
    refine hs.mine b ?_
    simp only [Θ'] at hb
    split at hb <;> omega
  · intro b hb
    have hb' : ρ b ≠ 0 := fun h => hb (by simp [ρ', h])
    obtain ⟨h1, h2⟩ := hu.free b hb'
    exact ⟨hz0 b h1, h2⟩
  · intro j e sz rows hj
    obtain ⟨i, ho, ⟨_, h⟩ | ⟨y, hH, h⟩⟩ := key j _ hj
    · cases h
    · have hy : y = .row .uq e sz rows := by
        cases y with
        | row k2 e2 sz2 rows2 => cases k2 <;> simp only [Ob.rn, reduceCtorEq] at h <;> exact h.symm
        | _ => cases h
      subst hy
      obtain ⟨v, cs, bs, q1, q2, q3, q4, q5⟩ := hu.rows i e sz rows hH
      refine ⟨v, cs, bs, by rw [hk2 i j ho]; exact q1, q2, q3, q4, fun b hb => ?_⟩
      simp only [ρ']
      rw [q5 b hb, if_neg (by omega), Nat.add_sub_cancel, pos_of hnd ho]
  · intro j x hj
    obtain ⟨i, ho, ⟨_, h⟩ | ⟨y, hH, h⟩⟩ := key j _ hj
    · subst h; trivial
    · have hm := hu.more i y hH
      have hρ2 : ∀ b, ρ b = i + 1 → ρ' b = j + 1 := fun b hb => by
        simp only [ρ']
        rw [hb, if_neg (by omega), Nat.add_sub_cancel, pos_of hnd ho]
      subst h
      cases y with
      | tk rows =>
        obtain ⟨v, bs, q1, q2, q3, q4⟩ := hm
        exact ⟨v, bs, by rw [hk2 i j ho]; exact q1, q2, q3, fun b hb => hρ2 b (q4 b hb)⟩
      | tf e sz rows =>
        obtain ⟨v, bs, q1, q2, q0, q3, q4⟩ := hm
        exact ⟨v, bs, by rw [hk2 i j ho]; exact q1, q2, q0, q3, fun b hb => hρ2 b (q4 b hb)⟩
      | row k e sz rows =>
        cases k with
        | mv n =>
          obtain ⟨v, cs, bs, q1, q2, q3, q4, q5⟩ := hm
          exact ⟨v, cs, bs, by rw [hk2 i j ho]; exact q1, q2, q3, q4, fun b hb => hρ2 b (q5 b hb)⟩
        | _ => trivial
      | _ => trivial

/-- A LOOP: what holds of the state at its head, told anew; 'n' falls -/
theorem AW_lp {c : Code} (R : Nat → St → Prop) (h0 : ∃ n K o, o.Nodup ∧ R n (st.canon K o))
    (round : ∀ n st, R n st → AW P Γ c (thenQ (fun st' => ∃ m K o, m < n ∧ o.Nodup ∧ R m (st'.canon K o)) Q) st) : AW P Γ (.loop c) Q st := by
  intro κ Θ a w hs
  obtain ⟨n, K, o, hnd, h0⟩ := h0
  obtain ⟨κ1, Θ1, hs1⟩ := hs.canon K o hnd
  refine wp_loop_ghost (fun g a w => ∃ st κ Θ, R g st ∧ Sim Γ st κ Θ a w) n ⟨_, κ1, Θ1, h0, hs1⟩ ?_
  rintro g a w ⟨st, κ, Θ, hR, hs⟩
  refine wp_mono (round g st hR κ Θ a w hs) ?_
  rintro e a' w' ⟨st', κ', Θ', hs', hq⟩
  cases e with
  | normal =>
    obtain ⟨m, K, o, hlt, hnd, hR'⟩ := hq
    obtain ⟨κ2, Θ2, hs2⟩ := hs'.canon K o hnd
    exact ⟨m, hlt, _, κ2, Θ2, hR', hs2⟩
  | exit id => exact ⟨_, _, _, hs', hq⟩
  | goto l => exact ⟨_, _, _, hs', hq⟩
  | ret => exact ⟨_, _, _, hs', hq⟩
  | panic c => exact ⟨_, _, _, hs', hq⟩
  | outgrown => exact ⟨_, _, _, hs', hq⟩
end
end Go.Cx
