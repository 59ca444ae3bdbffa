/- Slices that are lent to a call with all that lies below them, and calls that write into them. No condition; plain lemmas. -/
import Derived.Test.YtoeenpcilfhjbaaNCan
namespace Go.Cx
set_option linter.unusedVariables false
set_option linter.unusedSimpArgs false
open Go.RowKit

abbrev Rw := Nat × List (List D)
def Rw.ob (x : Rw) (v : Option Value) : Ob := .lent x.1 x.2 v

/-- lent slices, as they lie in memory -/
def Lents (w : World) (κ : Nat → Option Value) : Nat → List Rw → List Nat → Prop
  | _, [], us => us = []
  | n, x :: xs, us => ∃ v bs us', κ n = some v ∧ (∀ r ∈ x.2, r.length = x.1) ∧ Rd w v (.sl x.2) bs ∧ us = bs ++ us' ∧ Lents w κ (n + 1) xs us'

/-- f is handed slices that are lent to it, with all that lies below them; afterwards they show outs; all else stays -/
def GoodV (P : Program) (f : FuncId) (ds : List D) (ins outs : List Rw) (d : D) : Prop :=
  (∃ fn, P.funcs[f]? = some fn ∧ fn.body.isSome = true ∧ (fn.name == "runtime.NumGoroutine") = false) ∧ outs.length = ins.length ∧ d.flat = true ∧
  ∀ (w : World) (κ : Nat → Option Value) (args : List Value) (us : List Nat), Vok w (fun b => b ∈ us) → args.length = ds.length → (∀ (i : Nat) d, ds[i]? = some d → ∃ v, args[i]? = some v ∧ RdS w κ v d []) →
    (∀ i, ins.length ≤ i → κ i = none) → (∀ (i : Nat) u, κ i = some u → u.oneCell' = true) → Lents w κ 0 ins us → us.Nodup → (∀ b ∈ us, Wr w b) →
    Calls P f args.toArray w (fun e w' => ∃ v us', e = .returned v ∧ Rd w' v d [] ∧ Lents w' κ 0 outs us' ∧ us'.Nodup ∧ (∀ b ∈ us', (b ∈ us ∨ w.heap.size ≤ b) ∧ Wr w' b) ∧
      w'.os = w.os ∧ w'.tape = w.tape ∧ w'.output = w.output ∧ w.heap.size ≤ w'.heap.size ∧ ∀ b, b < w.heap.size → b ∉ us → w'.heap[b]? = w.heap[b]?)

section
variable {P : Program} {Γ : Ctx} {Q : Exit → St → Prop} {st : St} {κ κ' : Nat → Option Value} {Θ Θ' : Nat → Nat} {a : Act} {w w' : World} {all : Array Oper} {rest : List Oper}

theorem Lents.at : ∀ {xs : List Rw} {n : Nat} {us : List Nat}, Lents w κ n xs us → ∀ (i : Nat) x, xs[i]? = some x → ∃ v bs, κ (n + i) = some v ∧ (∀ r ∈ x.2, r.length = x.1) ∧ Rd w v (.sl x.2) bs ∧ ∀ b ∈ bs, b ∈ us := by
  intro xs
  induction xs with
  | nil => intro n us _ i x hx; simp at hx
  | cons y ys ih =>
    intro n us h i x hx
    obtain ⟨v, bs, us', h1, h2, h3, rfl, h5⟩ := h
    cases i with
    | zero => simp at hx; subst hx; exact ⟨v, bs, h1, h2, h3, fun b hb => by simp [hb]⟩
    | succ i =>
      simp at hx
      obtain ⟨v', bs', q1, q2, q3, q4⟩ := ih h5 i x hx
      exact ⟨v', bs', by rw [← q1]; congr 1; omega, q2, q3, fun b hb => by simp [q4 b hb]⟩

/-- the parts of the blocks, one a slice -/
theorem Lents.parts : ∀ {xs : List Rw} {n : Nat} {us : List Nat}, Lents w κ n xs us → ∃ L : List (List Nat), L.length = xs.length ∧ us = L.flatten ∧ ∀ (i : Nat) x bs, xs[i]? = some x → L[i]? = some bs → ∃ v, κ (n + i) = some v ∧ (∀ r ∈ x.2, r.length = x.1) ∧ Rd w v (.sl x.2) bs := by
  intro xs
  induction xs with
  | nil => intro n us h; exact ⟨[], rfl, by simpa [Lents] using h, by simp⟩
  | cons y ys ih =>
    intro n us h
    obtain ⟨v, bs, us', h1, h2, h3, rfl, h5⟩ := h
    obtain ⟨L, q1, rfl, q3⟩ := ih h5
    refine ⟨bs :: L, by simp [q1], by simp, ?_⟩
    intro i x b hx hb
    cases i with
    | zero => simp at hx hb; subst hx; subst hb; exact ⟨v, h1, h2, h3⟩
    | succ i =>
      simp at hx hb
      obtain ⟨v', r1, r2, r3⟩ := q3 i x b hx hb
      exact ⟨v', by rw [← r1]; congr 1; omega, r2, r3⟩
theorem Lents.of : ∀ {xs : List Rw} {n : Nat} {L : List (List Nat)}, L.length = xs.length → (∀ (i : Nat) x bs, xs[i]? = some x → L[i]? = some bs → ∃ v, κ (n + i) = some v ∧ (∀ r ∈ x.2, r.length = x.1) ∧ Rd w v (.sl x.2) bs) → Lents w κ n xs L.flatten := by
  intro xs
  induction xs with
  | nil =>
    intro n L hl _
    have : L = [] := List.eq_nil_of_length_eq_zero (by simpa using hl)
    subst this; rfl
  | cons y ys ih =>
    intro n L hl h
    cases L with
    | nil => simp at hl
    | cons bs L =>
      obtain ⟨v, h1, h2, h3⟩ := h 0 y bs rfl rfl
      refine ⟨v, bs, L.flatten, h1, h2, h3, by simp, ih (by simpa using hl) ?_⟩
      intro i x b hx hb
      obtain ⟨v', r1, r2, r3⟩ := h (i + 1) x b (by simpa using hx) (by simpa using hb)
      exact ⟨v', by rw [← r1]; congr 1; omega, r2, r3⟩

/-! objects that are given up together -/
theorem Sim.forget (hs : Sim Γ st κ Θ a w) (ms : List Nat) : Sim Γ ⟨st.σ, kill st.H ms⟩ κ (fun b => if ms.any (fun m => Θ b == m + 2) then st.H.length + 2 else Θ b) a w := by
  have h0 : ∀ b, Θ b = 0 → (if ms.any (fun m => Θ b == m + 2) then st.H.length + 2 else Θ b) = 0 := by
    intro b hb
    rw [if_neg, hb]
    intro h
    obtain ⟨m, _, hm⟩ := List.any_eq_true.1 h
    simp [hb] at hm
  have hk : ∀ (j : Nat) o, (kill st.H ms)[j]? = some o → o = .gone ∨ (j ∉ ms ∧ st.H[j]? = some o) := fun j o h => kill_get h
  have hold : ∀ b j, j ∉ ms → Θ b = j + 2 → (if ms.any (fun m => Θ b == m + 2) then st.H.length + 2 else Θ b) = j + 2 := by
    intro b j hj hb
    rw [if_neg, hb]
    intro h
    obtain ⟨m, hm, he⟩ := List.any_eq_true.1 h
    simp only [hb, beq_iff_eq] at he
    exact hj (by have : j = m := by omega
                 rw [this]; exact hm)
  obtain ⟨ρ, hu⟩ := hs.uniq
  refine ⟨hs.defers, hs.size, fun i hi => hs.kout i (by simpa [kill_length] using hi), hs.kone, ?_, ?_, ?_, ?_, ?_, hs.stays, ρ, ?_, ?_, ?_⟩
  · intro t
    obtain ⟨bs, hr, hz⟩ := hs.slot t
    exact ⟨bs, hr, fun b hb => h0 b (hz b hb)⟩
  · intro j o hj
    rcases hk j o hj with rfl | ⟨hn, hj'⟩
    · trivial
    · have hob := hs.ob j o hj'
      cases o with
      | gone => trivial
      | tk rows =>
        obtain ⟨v, bs, q1, q2, q3⟩ := hob
        exact ⟨v, bs, q1, q2, fun b hb => h0 b (q3 b hb)⟩
      | tf e sz rows =>
        obtain ⟨v, bs, q1, q2, q3⟩ := hob
        exact ⟨v, bs, q1, q2, fun b hb => h0 b (q3 b hb)⟩
      | box cells =>
        obtain ⟨g, cs, T, q1, q2, q3, bs, q4, q5⟩ := hob
        exact ⟨g, cs, T, q1, q2, hold g j hn q3, bs, q4, fun b hb => h0 b (q5 b hb)⟩
      | pbx cells u =>
        obtain ⟨q0, g, cs, T, q1, q2, q3, bs, q4, q5⟩ := hob
        exact ⟨q0, g, cs, T, q1, q2, hold g j hn q3, bs, q4, fun b hb => h0 b (q5 b hb)⟩
      | row k e sz rows =>
        obtain ⟨q1, q2, v, cs, bs, q3, q4, q5, q6, q7⟩ := hob
        refine ⟨q1, q2, v, cs, bs, q3, q4, q5, fun g hg => hold g j hn (q6 g hg), ?_⟩
        cases k with
        | cl => exact ⟨q7.1, fun b hb => ⟨hold b j hn (q7.2.1 b hb).1, (q7.2.1 b hb).2⟩, q7.2.2⟩
        | sh => exact fun b hb => h0 b (q7 b hb)
        | uq => exact fun b hb => h0 b (q7 b hb)
        | mv n => exact fun b hb => h0 b (q7 b hb)
        | ho p n => exact fun b hb => h0 b (q7 b hb)
      | lent sz rows u =>
        obtain ⟨q1, q0, v, bs, q2, q3, q4, q5⟩ := hob
        exact ⟨q1, q0, v, bs, q2, q3, q4, fun b hb => ⟨hold b j hn (q5 b hb).1, (q5 b hb).2⟩⟩
      | hole sz rows u p n =>
        obtain ⟨q1, q0, v, bs, q2, q3, q4, q5⟩ := hob
        exact ⟨q1, q0, v, bs, q2, q3, q4, fun b hb => ⟨hold b j hn (q5 b hb).1, (q5 b hb).2⟩⟩
      | mp kv =>
        obtain ⟨g, es, c, q1, q2, q3, q4⟩ := hob
        exact ⟨g, es, c, q1, q2, hold g j hn q3, q4⟩
  · intro b hb
    refine hs.own b fun h => hb ?_
    exact h0 b h
  · intro b hb hx
    obtain ⟨h1, h2⟩ := hs.old b hb hx
    have : (if ms.any (fun m => Θ b == m + 2) then st.H.length + 2 else Θ b) = Θ b := by
      rw [if_neg]
      intro h
      obtain ⟨m, _, hm⟩ := List.any_eq_true.1 h
      simp only [beq_iff_eq] at hm
      omega
    show (if ms.any (fun m => Θ b == m + 2) then st.H.length + 2 else Θ b) = _ ∧ (if ms.any (fun m => Θ b == m + 2) then st.H.length + 2 else Θ b) ≤ 1
    rw [this]
    exact ⟨h1, h2⟩
  · intro b hb
    refine hs.mine b ?_
    by_cases h : ms.any (fun m => Θ b == m + 2) = true
    · obtain ⟨m, _, hm⟩ := List.any_eq_true.1 h
      simp only [beq_iff_eq] at hm
      omega
    · simp only [h] at hb
      simpa using hb
  · intro b hb
    obtain ⟨h1, h2⟩ := hu.free b hb
    exact ⟨h0 b h1, h2⟩
  · intro id e sz rows hj
    rcases hk id _ hj with h | ⟨_, h⟩
    · cases h
    · exact hu.rows id e sz rows h
  · intro id o hj
    rcases hk id _ hj with h | ⟨_, h⟩
    · subst h; trivial
    · exact hu.more id o h

/-- objects told anew as lent slices -/
def lv (H : List Ob) (m : Nat) : Option Value := match H[m]? with | some (.lent _ _ v) => v | _ => none
def putL : List Ob → List Nat → List Rw → List Ob
  | H, m :: ms, x :: xs => putL (H.set m (x.ob (lv H m))) ms xs
  | H, _, _ => H
theorem putL_length : ∀ (H : List Ob) (ms : List Nat) (xs : List Rw), (putL H ms xs).length = H.length := by
  intro H ms
  induction ms generalizing H with
  | nil => intro xs; cases xs <;> rfl
  | cons m ms ih => intro xs; cases xs with | nil => rfl | cons x xs => simp [putL, ih]
theorem putL_get : ∀ {H : List Ob} {ms : List Nat} {xs : List Rw} {j : Nat} {y : Ob}, ms.Nodup → xs.length = ms.length → (putL H ms xs)[j]? = some y → (∃ (i : Nat) (x : Rw), ms[i]? = some j ∧ xs[i]? = some x ∧ y = x.ob (lv H j)) ∨ (j ∉ ms ∧ H[j]? = some y) := by
  intro H ms
  induction ms generalizing H with
  | nil => intro xs j y _ _ h; cases xs <;> exact .inr ⟨by simp, h⟩
  | cons m ms ih =>
    intro xs j y hnd hl h
    cases xs with
    | nil => simp at hl
    | cons x xs =>
      obtain ⟨n1, n2⟩ := List.nodup_cons.1 hnd
      rcases ih n2 (by simpa using hl) h with ⟨i, z, h1, h2, h3⟩ | ⟨h1, h2⟩
      · refine .inl ⟨i + 1, z, by simpa using h1, by simpa using h2, ?_⟩
        rw [h3]
        have hne : m ≠ j := fun e => n1 (by rw [e]; exact List.mem_of_getElem? h1)
        simp only [lv, List.getElem?_set_ne hne]
      · rcases set_key j y h2 with ⟨rfl, rfl⟩ | ⟨h3, h4⟩
        · exact .inl ⟨0, x, rfl, rfl, rfl⟩
        · exact .inr ⟨by simp [h1, h3], h4⟩

def lentAt (H : List Ob) : List Nat → Option (List Rw)
  | [] => some []
  | m :: ms => match H[m]?, lentAt H ms with | some (.lent sz rows _), some xs => some ((sz, rows) :: xs) | _, _ => none
theorem lentAt_get {H : List Ob} : ∀ {ms : List Nat} {xs : List Rw}, lentAt H ms = some xs → xs.length = ms.length ∧ ∀ (i m : Nat) x, ms[i]? = some m → xs[i]? = some x → ∃ v, H[m]? = some (x.ob v) := by
  intro ms
  induction ms with
  | nil => intro xs h; cases h; simp
  | cons m ms ih =>
    intro xs h
    simp only [lentAt] at h
    split at h
    · rename_i sz rows u ys h1 h2
      cases h
      obtain ⟨q1, q2⟩ := ih h2
      refine ⟨by simp [q1], ?_⟩
      intro i m' x hm hx
      cases i with
      | zero => simp at hm hx; subst hm; subst hx; exact ⟨u, h1⟩
      | succ i => exact q2 i m' x (by simpa using hm) (by simpa using hx)
    · cases h

/-- cells without blocks -/
def D.bareC (d : D) : Bool := match d with
  | .acc _ => true
  | d => d.flat
def D.bare (d : D) : Bool := match d with
  | .agg cs => cs.all D.bareC
  | d => d.bareC
theorem RdC.flatNil {v : Value} {d : D} {bs : List Nat} (h : RdC w κ v d bs) (hf : d.bareC = true) : bs = [] := by
  cases h with
  | pure h =>
    refine h.flat ?_
    cases h <;> exact hf
  | _ => rfl
theorem RdCs.flatNil {vs : List Value} {ds : List D} {bs : List Nat} (h : RdCs w κ vs ds bs) (hf : ds.all D.bareC = true) : bs = [] := by
  induction h with
  | nil => rfl
  | cons v vs d ds b1 b2 h1 h2 _ ih =>
    simp only [List.all_cons, Bool.and_eq_true] at hf
    rw [h2.flatNil hf.1, ih hf.2]; rfl
theorem RdS.bareNil {v : Value} {d : D} {bs : List Nat} (h : RdS w κ v d bs) (hf : d.bare = true) : bs = [] := by
  cases h with
  | v h =>
    cases h with
    | cell h =>
      cases h with
      | pure h =>
        cases h with
        | agg cs ds _ h => exact RdCs.flatNil (RdCs.ofRds (κ := κ) h) hf
        | _ => first | rfl | exact absurd hf (by simp [D.bare, D.bareC, D.flat])
      | _ => rfl
    | agg cs ds bs h => exact h.flatNil hf
  | tup => simp [D.bare, D.bareC, D.flat] at hf
theorem D.bareC_rn (o : List Nat) {c : D} (h : c.bareC = true) : (c.rnC o).bareC = true := by
  cases c with
  | acc m => simp only [D.rnC]; cases pos o m <;> rfl
  | _ => first | exact h | (simp [D.bareC, D.flat] at h)
theorem D.bare_rn (o : List Nat) {d : D} (h : d.bare = true) : (d.rnS o).bare = true := by
  cases d with
  | agg cs =>
    simp only [D.rnS, D.rnV, D.bare, List.all_map] at h ⊢
    rw [List.all_eq_true] at h ⊢
    intro c hcm
    exact D.bareC_rn o (h c hcm)
  | acc m => simp only [D.rnS, D.rnV, D.rnC]; cases pos o m <;> rfl
  | _ => first | exact h | (simp [D.bare, D.bareC, D.flat] at h)

theorem flatten_inj {L : List (List Nat)} (h : L.flatten.Nodup) : ∀ (i j : Nat) x y b, L[i]? = some x → L[j]? = some y → b ∈ x → b ∈ y → i = j := by
  intro i j x y b hi hj hx hy
  have := flatMap_inj (f := fun l : List Nat => l) (l := L) (by simpa [List.flatMap_id] using h)
  exact this i j x y b hi hj hx hy
theorem flatten_nd {L : List (List Nat)} (h : L.flatten.Nodup) : ∀ x ∈ L, x.Nodup := by
  induction L with
  | nil => intro x hx; cases hx
  | cons y L ih =>
    intro x hx
    simp only [List.flatten_cons] at h
    obtain ⟨h1, h2, _⟩ := List.nodup_append.1 h
    rcases List.mem_cons.1 hx with rfl | hx
    · exact h1
    · exact ih h2 x hx
theorem nodup_flatten : ∀ {L : List (List Nat)}, (∀ x ∈ L, x.Nodup) → (∀ (i j : Nat) x y b, L[i]? = some x → L[j]? = some y → b ∈ x → b ∈ y → i = j) → L.flatten.Nodup := by
  intro L
  induction L with
  | nil => intro _ _; simp
  | cons y L ih =>
    intro h1 h2
    simp only [List.flatten_cons]
    refine List.nodup_append.2 ⟨h1 y (by simp), ih (fun x hx => h1 x (by simp [hx])) (fun i j x z b hi hj hx hz => ?_), ?_⟩
    · have := h2 (i + 1) (j + 1) x z b (by simpa using hi) (by simpa using hj) hx hz; omega
    · intro b hb c hc e
      subst e
      obtain ⟨x, hx, hbx⟩ := List.mem_flatten.1 hc
      obtain ⟨j, hj⟩ := List.getElem?_of_mem hx
      have := h2 0 (j + 1) y x b rfl (by simpa using hj) hb hbx
      omega

/-- A CALL THAT WRITES INTO SLICES THAT IT IS LENT -/
theorem AO_callV {o : Oper} {f t : Nat} {xs : Array Operand} {ts : Array TypeId} {ms : List Nat} {ins outs : List Rw} {d : D} (hop : o.op = .call { callee := .value (.func f), args := xs, argTypes := ts }) (hd : o.dst = some t) (hg : o.guard = none)
    (ht : t < Γ.nt) (hnd : ms.Nodup) (hins : lentAt st.H ms = some ins) (hb : ((xs.toList.map st.ev).all D.bare) = true) (hgood : GoodV P f ((xs.toList.map st.ev).map (D.rnS ms)) ins outs d)
    (h : AO P Γ all rest Q ⟨(t, d) :: st.σ, putL st.H ms outs⟩) : AO P Γ all (o :: rest) Q st := by
  intro κ Θ a w hs
  obtain ⟨hil, hig⟩ := lentAt_get hins
  obtain ⟨hfn, hol, hfl, hcall⟩ := hgood
  let κc : Nat → Option Value := fun j => (ms[j]?).bind κ
  have hkc : ∀ (i m : Nat), ms[i]? = some m → κc i = κ m := fun i m h => by simp [κc, h]
  have hob : ∀ (i m : Nat) x, ms[i]? = some m → ins[i]? = some x → ∃ v bs, κ m = some v ∧ (∀ r ∈ x.2, r.length = x.1) ∧ Rd w v (.sl x.2) bs ∧ bs.Nodup ∧ ∀ b ∈ bs, Θ b = m + 2 ∧ Wr w b := by
    intro i m x hm hx
    obtain ⟨u, hu⟩ := hig i m x hm hx
    obtain ⟨q1, _, v, bs, q2, q3, q4, q5⟩ := hs.ob m _ hu
    exact ⟨v, bs, q2, q1, q3, q4, q5⟩
  -- the blocks of each
  have hL : ∃ L : List (List Nat), L.length = ins.length ∧ ∀ (i m : Nat) x bs, ms[i]? = some m → ins[i]? = some x → L[i]? = some bs → (∃ v, κ m = some v ∧ (∀ r ∈ x.2, r.length = x.1) ∧ Rd w v (.sl x.2) bs) ∧ bs.Nodup ∧ ∀ b ∈ bs, Θ b = m + 2 ∧ Wr w b := by
    have key : ∀ (ms : List Nat) (ins : List Rw), ins.length = ms.length → (∀ (i m : Nat) x, ms[i]? = some m → ins[i]? = some x → ∃ v bs, κ m = some v ∧ (∀ r ∈ x.2, r.length = x.1) ∧ Rd w v (.sl x.2) bs ∧ bs.Nodup ∧ ∀ b ∈ bs, Θ b = m + 2 ∧ Wr w b) →
        ∃ L : List (List Nat), L.length = ins.length ∧ ∀ (i m : Nat) x bs, ms[i]? = some m → ins[i]? = some x → L[i]? = some bs → (∃ v, κ m = some v ∧ (∀ r ∈ x.2, r.length = x.1) ∧ Rd w v (.sl x.2) bs) ∧ bs.Nodup ∧ ∀ b ∈ bs, Θ b = m + 2 ∧ Wr w b := by
      intro ms
      induction ms with
      | nil => intro ins hl _; exact ⟨[], by simpa using hl.symm, by simp⟩
      | cons m ms ih =>
        intro ins hl hob
        cases ins with
        | nil => simp at hl
        | cons x ins =>
          obtain ⟨L, q1, q2⟩ := ih ins (by simpa using hl) (fun i m' x' hm hx => hob (i + 1) m' x' (by simpa using hm) (by simpa using hx))
          obtain ⟨v, bs, r1, r2, r3, r4, r5⟩ := hob 0 m x rfl rfl
          refine ⟨bs :: L, by simp [q1], ?_⟩
          intro i m' x' b hm hx hb
          cases i with
          | zero => simp at hm hx hb; subst hm; subst hx; subst hb; exact ⟨⟨v, r1, r2, r3⟩, r4, r5⟩
          | succ i => exact q2 i m' x' b (by simpa using hm) (by simpa using hx) (by simpa using hb)
    exact key ms ins hil hob
  obtain ⟨L, hLl, hLi⟩ := hL
  have hmi : ∀ (i : Nat) bs, L[i]? = some bs → ∃ m x, ms[i]? = some m ∧ ins[i]? = some x := by
    intro i bs hb'
    have hlt := (List.getElem?_eq_some_iff.1 hb').1
    exact ⟨_, _, List.getElem?_eq_getElem (by omega), List.getElem?_eq_getElem (by omega)⟩
  have hmem : ∀ b ∈ L.flatten, ∃ m ∈ ms, Θ b = m + 2 := by
    intro b hb'
    obtain ⟨x, hx, hbx⟩ := List.mem_flatten.1 hb'
    obtain ⟨i, hi⟩ := List.getElem?_of_mem hx
    obtain ⟨m, y, h1, h2⟩ := hmi i x hi
    exact ⟨m, List.mem_of_getElem? h1, ((hLi i m y x h1 h2 hi).2.2 b hbx).1⟩
  have hus : L.flatten.Nodup := by
    refine nodup_flatten (fun x hx => ?_) (fun i j x y b hi hj hx hy => ?_)
    · obtain ⟨i, hi⟩ := List.getElem?_of_mem hx
      obtain ⟨m, y, h1, h2⟩ := hmi i x hi
      exact (hLi i m y x h1 h2 hi).2.1
    · obtain ⟨m1, y1, h1, h2⟩ := hmi i x hi
      obtain ⟨m2, y2, h3, h4⟩ := hmi j y hj
      have e1 := ((hLi i m1 y1 x h1 h2 hi).2.2 b hx).1
      have e2 := ((hLi j m2 y2 y h3 h4 hj).2.2 b hy).1
      have : m1 = m2 := by omega
      subst this
      exact nodup_inj hnd i j m1 h1 h3
  have hlents : Lents w κc 0 ins L.flatten := Lents.of hLl (fun i x bs hx hb' => by
    obtain ⟨m, y, h1, h2⟩ := hmi i bs hb'
    rw [hx] at h2; cases h2
    obtain ⟨⟨v, q1, q2, q3⟩, _⟩ := hLi i m x bs h1 hx hb'
    exact ⟨v, by rw [Nat.zero_add, hkc i m h1]; exact q1, q2, q3⟩)
  have hwr : ∀ b ∈ L.flatten, Wr w b := by
    intro b hb'
    obtain ⟨x, hx, hbx⟩ := List.mem_flatten.1 hb'
    obtain ⟨i, hi⟩ := List.getElem?_of_mem hx
    obtain ⟨m, y, h1, h2⟩ := hmi i x hi
    exact ((hLi i m y x h1 h2 hi).2.2 b hbx).2
  have hargs : ∀ (i : Nat) d, ((xs.toList.map st.ev).map (D.rnS ms))[i]? = some d → ∃ v, (xs.toList.map a.eval)[i]? = some v ∧ RdS w κc v d [] := by
    intro i d hd'
    rw [List.getElem?_map, List.getElem?_map] at hd'
    cases hx : xs.toList[i]? with
    | none => rw [hx] at hd'; cases hd'
    | some x =>
      rw [hx] at hd'
      simp only [Option.map_some, Option.some.injEq] at hd'
      subst hd'
      refine ⟨a.eval x, by rw [List.getElem?_map, hx]; rfl, ?_⟩
      obtain ⟨bs, r, hz⟩ := hs.ev x
      have hbare : (st.ev x).bare = true := List.all_eq_true.1 hb _ (List.mem_map.2 ⟨x, List.mem_of_getElem? hx, rfl⟩)
      obtain ⟨b', r', _⟩ := RdS.rn (o := ms) (κ' := κc) (Θ := fun _ => 0) (Θ' := fun _ => 0) (fun i j v h1 h2 => by simp [κc, pos_get h1, h2]) (fun _ _ => rfl) r (fun _ _ => rfl)
      have := r'.bareNil (D.bare_rn ms hbare)
      subst this
      exact r'
  have hvok : Vok w fun b => b ∈ L.flatten := by
    obtain ⟨B, v1, v2⟩ := hs.vsb
    refine ⟨B, v1, fun b hB => ⟨(v2 b hB).2.1, fun hb' => ?_⟩⟩
    obtain ⟨x, hx, hbx⟩ := List.mem_flatten.1 hb'
    obtain ⟨i, hi⟩ := List.getElem?_of_mem hx
    obtain ⟨m, y, h1, h2⟩ := hmi i x hi
    have e1 := ((hLi i m y x h1 h2 hi).2.2 b hbx).1
    rcases hs.mine b (by omega) with q | q
    · have := (v2 b hB).1; omega
    · exact (v2 b hB).2.2 q
  have hc := hcall w κc (xs.toList.map a.eval) L.flatten hvok (by simp) hargs (fun i hi => by simp [κc, List.getElem?_eq_none (by omega : ms.length ≤ i)]) (fun i u hu => by
    simp only [κc] at hu
    cases hm : ms[i]? with
    | none => rw [hm] at hu; cases hu
    | some m => rw [hm] at hu; exact hs.kone m u hu) hlents hus hwr
  refine wpList_plain hg fun K hK => ?_
  unfold Oper.wp
  rw [run_call hop hfn, Oper.upon_enter]
  have e : xs.map a.eval = (xs.toList.map a.eval).toArray := by rw [← Array.toList_map, Array.toArray_toList]
  rw [e]
  refine hc.mono ?_
  rintro e w' ⟨v, us', rfl, hv, hl', hnd', hbl', k1, k2, k3, k4, k5⟩
  show K (a.put o.dst v) w'
  rw [hd]
  obtain ⟨L', hLl', rfl, hLi'⟩ := hl'.parts
  have hmi' : ∀ (i : Nat) bs, L'[i]? = some bs → ∃ m x, ms[i]? = some m ∧ outs[i]? = some x := by
    intro i bs hb'
    have hlt := (List.getElem?_eq_some_iff.1 hb').1
    exact ⟨_, _, List.getElem?_eq_getElem (by omega), List.getElem?_eq_getElem (by omega)⟩
  have hs1 := hs.forget ms
  let Θ1 : Nat → Nat := fun b => if ms.any (fun m => Θ b == m + 2) then st.H.length + 2 else Θ b
  have hΘ1 : ∀ b, b ∈ L.flatten → Θ1 b = st.H.length + 2 := by
    intro b hb'
    obtain ⟨m, hm, he⟩ := hmem b hb'
    simp only [Θ1]
    rw [if_pos (List.any_eq_true.2 ⟨m, hm, by simp [he]⟩)]
  let Θ2 : Nat → Nat := fun b => match ix (fun x : List Nat => x.contains b) L' with | some i => (match ms[i]? with | some m => m + 2 | none => 1) | none => if Θ1 b = st.H.length + 2 then 1 else Θ1 b
  have hΘ2 : ∀ (i m : Nat) bs b, ms[i]? = some m → L'[i]? = some bs → b ∈ bs → Θ2 b = m + 2 := by
    intro i m bs b hm hi hb'
    have : ix (fun x : List Nat => x.contains b) L' = some i := ix_hit hi (by simpa using hb') (fun j y hj hy => flatten_inj hnd' j i y bs b hj hi (by simpa using hy) hb')
    simp only [Θ2, this, hm]
  have hΘ2n : ∀ b, b ∉ L'.flatten → Θ2 b = if Θ1 b = st.H.length + 2 then 1 else Θ1 b := by
    intro b hb'
    simp only [Θ2]
    cases h : ix (fun x : List Nat => x.contains b) L' with
    | none => rfl
    | some i =>
      obtain ⟨x, hx, hp⟩ := ix_some h
      exact absurd (List.mem_flatten.2 ⟨x, List.mem_of_getElem? hx, by simpa using hp⟩) hb'
  have hlt' : ∀ b ∈ L'.flatten, b < w'.heap.size := fun b hb' => by
    obtain ⟨cs, T, hx⟩ := (hbl' b hb').2
    exact (Array.getElem?_eq_some_iff.1 hx).1
  have kk : Keeps w w' Θ1 Θ2 (st.H.length + 2) := by
    refine ⟨by omega, k1, k2, k3, k4, fun b hlt hne => k5 b hlt fun hb' => hne (hΘ1 b hb'), fun b hlt hne => ?_, fun b hb' => ?_⟩
    · by_cases hin : b ∈ L'.flatten
      · rcases (hbl' b hin).1 with h' | h'
        · exact absurd (hΘ1 b h') hne
        · omega
      · rw [hΘ2n b hin, if_neg hne]
    · by_cases hin : b ∈ L'.flatten
      · exact hlt' b hin
      · rw [hΘ2n b hin] at hb'
        refine Nat.lt_of_lt_of_le (hs1.own b ?_) k4
        intro h0
        have h0' : Θ1 b = 0 := h0
        rw [h0'] at hb'
        rw [if_neg (by omega)] at hb'
        exact hb' rfl
  have hm2 : ∀ b, 2 ≤ Θ2 b → Mine Γ b := by
    intro b hb'
    by_cases hin : b ∈ L'.flatten
    · rcases (hbl' b hin).1 with h' | h'
      · obtain ⟨m, _, he⟩ := hmem b h'
        exact hs.mine b (by omega)
      · exact .inl (Nat.le_trans hs.base h')
    · rw [hΘ2n b hin] at hb'
      split at hb'
      · omega
      · exact hs1.mine b hb'
  obtain ⟨ρ, hu⟩ := hs1.uniq
  have hus1 := hs1.uniqStay kk (κ' := κ) (fun _ _ h => h) hu
  have hkl : (kill st.H ms).length = st.H.length := kill_length _ _
  have hpk : ∀ (j : Nat) y, (putL st.H ms outs)[j]? = some y → (∃ (i : Nat) (x : Rw), ms[i]? = some j ∧ outs[i]? = some x ∧ y = x.ob (lv st.H j)) ∨ (j ∉ ms ∧ (kill st.H ms)[j]? = some y) := by
    intro j y hj
    rcases putL_get hnd (by omega) hj with h' | ⟨h1, h2⟩
    · exact .inl h'
    · exact .inr ⟨h1, by rw [kill_other h1]; exact h2⟩
  have hjlt : ∀ (j : Nat) y, (putL st.H ms outs)[j]? = some y → j + 2 ≠ st.H.length + 2 := fun j y hj => by
    have := (List.getElem?_eq_some_iff.1 hj).1; rw [putL_length] at this; omega
  have hs2 : Sim Γ ⟨st.σ, putL st.H ms outs⟩ κ Θ2 a w' := by
    refine hs1.step kk hm2 (fun _ _ h => h) (fun i hi => hs.kout i (by rw [putL_length] at hi; exact hi)) hs.kone ?_ ⟨ρ, hus1.1, ?_, ?_⟩
    · intro j y hj
      have hjl := hjlt j y hj
      rcases hpk j y hj with ⟨i, x, h1, h2, rfl⟩ | ⟨_, h2⟩
      · right; right
        have hbi : ∃ bs, L'[i]? = some bs := ⟨_, List.getElem?_eq_getElem (by have := (List.getElem?_eq_some_iff.1 h2).1; omega)⟩
        obtain ⟨bs, hbi⟩ := hbi
        obtain ⟨v', q1, q2, q3⟩ := hLi' i x bs h2 hbi
        rw [Nat.zero_add, hkc i j h1] at q1
        refine ⟨q2, fun x hx => ?_, v', bs, q1, q3, flatten_nd hnd' bs (List.mem_of_getElem? hbi), fun b hb' => ⟨hΘ2 i j bs b h1 hbi hb', (hbl' b (List.mem_flatten.2 ⟨bs, List.mem_of_getElem? hbi, hb'⟩)).2⟩⟩
        unfold lv at hx
        split at hx
        · rename_i sz0 rows0 u0 hH0
          subst hx
          obtain ⟨_, q0, _⟩ := hs.ob j _ hH0
          exact q0 x rfl
        · cases hx
      · exact .inr (.inl ⟨hjl, h2⟩)
    · intro id e' sz' rows' hj
      have hjl := hjlt id _ hj
      rcases hpk id _ hj with ⟨i, x, h1, h2, h3⟩ | ⟨_, h2⟩
      · simp [Rw.ob] at h3
      · exact hus1.2.1 id e' sz' rows' hjl h2
    · intro id y hj
      have hjl := hjlt id _ hj
      rcases hpk id _ hj with ⟨i, x, h1, h2, h3⟩ | ⟨_, h2⟩
      · subst h3; exact UqM.plain2 rfl
      · exact hus1.2.2 id y hjl h2
  have hrs : RdS w' κ v d [] := .of hv
  exact hK _ _ (h κ Θ2 _ w' (hs2.set (t := t) ht hrs (by simp)))

/-! results that are closed at once -/
def Ob.close : Ob → Ob
  | .row _ _ sz rows => .lent sz rows none
  | o => o

theorem Sim.installCl (hs : Sim Γ st κ Θ a w) (hb : Below w.heap.size w w') (L : List Fs) (hL : ∀ x ∈ L, x.ok w') (hnd : (L.flatMap Fs.bl).Nodup) (hfr : ∀ b ∈ L.flatMap Fs.bl, w.heap.size ≤ b ∧ Wr w' b) (hvs : ∀ x ∈ L, x.sh = true → x.vs = []) :
    ∃ κ' Θ', Sim Γ ⟨st.σ, st.H ++ (L.map Fs.ob).map Ob.close⟩ κ' Θ' a w' ∧ Names κ' st.H.length L := by
  let n := st.H.length
  let κ' : Nat → Option Value := fun j => if j < n ∨ n + L.length ≤ j then κ j else (L[j - n]?).map Fs.v
  let Θ' : Nat → Nat := fun b => match ix (fun x : Fs => x.bl.contains b) L with | some i => n + i + 2 | none => Θ b
  have hu1 : ∀ (i j : Nat) x y b, L[i]? = some x → L[j]? = some y → b ∈ x.bl → b ∈ y.bl → i = j := fun i j x y b => flatMap_inj hnd i j x y b
  have hts : ∀ (i : Nat) x b, L[i]? = some x → b ∈ x.bl → Θ' b = n + i + 2 := by
    intro i x b hi hxb
    have : ix (fun x : Fs => x.bl.contains b) L = some i := ix_hit hi (by simpa using hxb) (fun j y hj hy => hu1 j i y x b hj hi (by simpa using hy) hxb)
    simp only [Θ', this]
  have hno : ∀ b, b ∉ L.flatMap Fs.bl → Θ' b = Θ b := by
    intro b hb'
    simp only [Θ']
    cases h : ix (fun x : Fs => x.bl.contains b) L with
    | none => rfl
    | some i =>
      obtain ⟨x, hx, hp⟩ := ix_some h
      exact absurd (List.mem_flatMap.2 ⟨x, List.mem_of_getElem? hx, by simpa using hp⟩) hb'
  have hold : ∀ b, b < w.heap.size → Θ' b = Θ b := fun b hlt => hno b (fun h => by have := (hfr b h).1; omega)
  have hn : ∀ (j : Nat) v, κ j = some v → κ' j = some v := by
    intro j v hj
    have : j < n := by
      rcases Nat.lt_or_ge j n with h | h
      · exact h
      · have := hs.kout j h; rw [hj] at this; cases this
    simp only [κ']; rw [if_pos (.inl this)]; exact hj
  have hnames : Names κ' n L := by
    intro i x hx
    have hlt := (List.getElem?_eq_some_iff.1 hx).1
    simp only [κ']
    rw [if_neg (by omega), Nat.add_sub_cancel_left, hx]; rfl
  have hlen : (st.H ++ (L.map Fs.ob).map Ob.close).length = n + L.length := by simp [n]
  have k : Keeps w w' Θ Θ' (n + L.length + 2) := by
    refine ⟨by omega, hb.os, hb.tape, hb.output, hb.size, fun b hlt _ => hb.block b hlt, fun b hlt _ => hold b hlt, fun b h => ?_⟩
    by_cases hin : b ∈ L.flatMap Fs.bl
    · obtain ⟨cs, T, hx⟩ := (hfr b hin).2
      exact (Array.getElem?_eq_some_iff.1 hx).1
    · rw [hno b hin] at h
      exact Nat.lt_of_lt_of_le (hs.own b h) hb.size
  have hm : ∀ b, 2 ≤ Θ' b → Mine Γ b := by
    intro b h
    by_cases hin : b ∈ L.flatMap Fs.bl
    · exact .inl (Nat.le_trans hs.base (hfr b hin).1)
    · rw [hno b hin] at h; exact hs.mine b h
  have key : ∀ (j : Nat) y, (st.H ++ (L.map Fs.ob).map Ob.close)[j]? = some y → (∃ i x, j = n + i ∧ L[i]? = some x ∧ y = .lent x.sz x.rows none) ∨ (j < n ∧ st.H[j]? = some y) := by
    intro j y hj
    by_cases hlt : j < st.H.length
    · rw [List.getElem?_append_left hlt] at hj; exact .inr ⟨hlt, hj⟩
    · rw [List.getElem?_append_right (by omega), List.getElem?_map, List.getElem?_map] at hj
      cases hx : L[j - st.H.length]? with
      | none => simp [hx] at hj
      | some x => simp [hx] at hj; exact .inl ⟨j - st.H.length, x, by omega, hx, hj.symm⟩
  have hjlt : ∀ (j : Nat) y, (st.H ++ (L.map Fs.ob).map Ob.close)[j]? = some y → j + 2 ≠ n + L.length + 2 := fun j y hj => by
    have := (List.getElem?_eq_some_iff.1 hj).1; omega
  obtain ⟨ρ, hu⟩ := hs.uniq
  have hus := hs.uniqStay k hn hu
  refine ⟨κ', Θ', hs.step k hm hn (fun i hi => ?_) (fun i u hu' => ?_) (fun j y hj => ?_) ⟨ρ, hus.1, fun id e sz rows hj => ?_, fun id y hj => ?_⟩, hnames⟩
  · rw [hlen] at hi
    simp only [κ']
    rw [if_pos (by omega)]
    exact hs.kout i (by omega)
  · simp only [κ'] at hu'
    split at hu'
    · exact hs.kone i u hu'
    · cases hx : L[i - n]? with
      | none => simp [hx] at hu'
      | some x => simp [hx] at hu'; subst hu'; exact (hL x (List.mem_of_getElem? hx)).2.2.2.2
  · have hjl := hjlt j y hj
    rcases key j y hj with ⟨i, x, rfl, hx, rfl⟩ | ⟨hlt, hy⟩
    · right; right
      obtain ⟨q1, q2, q3, q4, _⟩ := hL x (List.mem_of_getElem? hx)
      have hnd1 : x.bl.Nodup := by
        have : ∀ (l : List Fs), (l.flatMap Fs.bl).Nodup → ∀ x ∈ l, x.bl.Nodup := by
          intro l
          induction l with
          | nil => intro _ x hx; cases hx
          | cons z r ih =>
            intro hnd x hx
            simp only [List.flatMap_cons] at hnd
            obtain ⟨n1, n2, _⟩ := List.nodup_append.1 hnd
            rcases List.mem_cons.1 hx with rfl | hx
            · exact n1
            · exact ih n2 x hx
        exact this L hnd x (List.mem_of_getElem? hx)
      have hbl : ∃ bb, Rd w' x.v (.sl x.rows) bb ∧ bb.Nodup ∧ ∀ b ∈ bb, b ∈ x.bl := by
        unfold Fs.rs at q4
        cases hsx : x.sh with
        | false => rw [hsx] at q4; exact ⟨x.bl, ownsRow_rd q2 q3 q4.rd, hnd1, fun _ h => h⟩
        | true =>
          rw [hsx, hvs x (List.mem_of_getElem? hx) hsx] at q4
          exact ⟨_, ownsRow_rd q2 q3 q4.rd, by cases x.v.ownBlock <;> simp, fun b hb' => List.mem_append.2 (.inl (by simpa using hb'))⟩
      obtain ⟨bb, r1, r2, r3⟩ := hbl
      exact ⟨q2, by simp, x.v, bb, hnames i x hx, r1, r2, fun b hb' => ⟨hts i x b hx (r3 b hb'), (hfr b (List.mem_flatMap.2 ⟨x, List.mem_of_getElem? hx, r3 b hb'⟩)).2⟩⟩
    · exact .inr (.inl ⟨hjl, hy⟩)
  · have hjl := hjlt id _ hj
    rcases key id _ hj with ⟨i, x, _, _, h⟩ | ⟨hlt, hy⟩
    · cases h
    · exact hus.2.1 id e sz rows hjl hy
  · have hjl := hjlt id _ hj
    rcases key id _ hj with ⟨i, x, _, _, h⟩ | ⟨hlt, hy⟩
    · subst h; exact UqM.plain2 rfl
    · exact hus.2.2 id y hjl hy

theorem AO_callC {o : Oper} {f t : Nat} {xs : Array Operand} {ts : Array TypeId} {ds : List D} {ms : List Nat} {d : D} (hop : o.op = .call { callee := .value (.func f), args := xs, argTypes := ts }) (hd : o.dst = some t) (hg : o.guard = none)
    (ht : t < Γ.nt) (hds : vwVs st.H (xs.toList.map st.ev) = some (ds, ms)) (hown : d.ownS = true) (hgood : Good P f ds d)
    (h : AO P Γ all rest Q ⟨(t, (instS st.H.length d).1) :: st.σ, st.H ++ (instS st.H.length d).2.map Ob.close⟩) : AO P Γ all (o :: rest) Q st := by
  intro κ Θ a w hs
  obtain ⟨bs, hargs, hz⟩ := vwVs_rd hs hds
  let Θc : Nat → Nat := fun b => if Θ b = 0 ∨ ms.any (fun m => Θ b == m + 2) then 0 else 1
  have hseen : ∀ b, Seen Θ ms b → Θc b = 0 := by
    intro b h
    simp only [Θc]
    rw [if_pos]
    rcases h with h | ⟨m, h1, h2⟩
    · exact .inl h
    · exact .inr (List.any_eq_true.2 ⟨m, h1, by simp [h2]⟩)
  have hc := hgood.2 w Θc _ bs hs.vok hargs (fun b hb => hseen b (hz b hb)) (fun b hb => hs.own b (fun e => hb (hseen b (.inl e)))) (fun b => by simp only [Θc]; split <;> omega)
  refine wpList_plain hg fun K hK => ?_
  unfold Oper.wp
  rw [run_call hop hgood.1, Oper.upon_enter]
  have e : xs.map a.eval = (xs.toList.map a.eval).toArray := by rw [← Array.toList_map, Array.toArray_toList]
  rw [e]
  refine hc.mono ?_
  rintro e w' ⟨v, bs', tb, ub, rfl, hb, hr, hz', htb, hnd, hfr, hsub⟩
  show K (a.put o.dst v) w'
  rw [hd]
  obtain ⟨L, q1, q2, q3, q4, q6, q5⟩ := hr.inst st.H.length
  have hbs : bs' = [] := hr.own hown
  obtain ⟨κ', Θ', hs', hnm⟩ := hs.installCl hb L q2 (q3 ▸ hnd) (fun b hb' => hfr b (q3 ▸ hb')) (fun x hx hx' => by have := q6 x hx hx'; rw [hbs] at this; exact List.eq_nil_iff_forall_not_mem.2 fun b hb' => by cases this b hb')
  obtain ⟨b0, hr0, hsub0⟩ := q5 κ' hnm
  rw [q1] at hs'
  refine hK _ _ (h κ' Θ' _ w' (hs'.set (t := t) ht hr0 fun b hb' => ?_))
  have hb' := hsub0 b hb'
  rw [hbs] at hb'; cases hb'

/-! a function's own walk -/
def lents0 : List Rw → List Value → List Ob
  | x :: xs, v :: vs => x.ob (some v) :: lents0 xs vs
  | _, _ => []
theorem lents0_get : ∀ {xs : List Rw} {vs : List Value} {j : Nat} {y : Ob}, (lents0 xs vs)[j]? = some y → ∃ x v, xs[j]? = some x ∧ vs[j]? = some v ∧ y = x.ob (some v) := by
  intro xs
  induction xs with
  | nil => intro vs j y h; simp [lents0] at h
  | cons x xs ih =>
    intro vs j y h
    cases vs with
    | nil => simp [lents0] at h
    | cons v vs =>
      cases j with
      | zero => simp [lents0] at h; exact ⟨x, v, rfl, rfl, h.symm⟩
      | succ j => simp only [lents0, List.getElem?_cons_succ] at h ⊢; exact ih h
theorem lents0_length : ∀ (xs : List Rw) (vs : List Value), (lents0 xs vs).length = min xs.length vs.length := by
  intro xs
  induction xs with
  | nil => intro vs; simp [lents0]
  | cons x xs ih => intro vs; cases vs with | nil => simp [lents0] | cons v vs => simp [lents0, ih]

def RetV (P : Program) (fn : Func) (vs : List Value) (outs : List Rw) (d : D) (e : Exit) (st : St) : Prop :=
  (e = .ret ∨ e = .normal) ∧ ∃ ds, resDs P st fn.results.toList = some ds ∧ ds.all D.flat = true ∧ packD ds = d ∧ ∀ (i : Nat) x v, outs[i]? = some x → vs[i]? = some v → st.H[i]? = some (x.ob (some v))

theorem GoodV.of {f : FuncId} {fn : Func} {c : Code} {ds : List D} {ins outs : List Rw} {d : D} (hf : P.funcs[f]? = some fn) (hb : fn.body = some c) (hn : (fn.name == "runtime.NumGoroutine") = false)
    (hl : ds.length ≤ fn.ntmps) (hol : outs.length = ins.length) (hfl : d.flat = true) (h : (∀ x ∈ ins, x.2.length ≤ maxLen) → ∀ Γ : Ctx, Γ.nt = fn.ntmps → ∀ vs : List Value, vs.length = ins.length → AW P Γ c (RetV P fn vs outs d) ⟨args0 0 ds, lents0 ins vs⟩) : GoodV P f ds ins outs d := by
  refine ⟨⟨fn, hf, by simp [hb], hn⟩, hol, hfl, ?_⟩
  intro w κ args us hvok hlen hargs hko hk1 hlents hnd hwr
  obtain ⟨L, hLl, rfl, hLi⟩ := hlents.parts
  have hvs : ∃ vs : List Value, vs.length = ins.length ∧ ∀ (i : Nat) v, vs[i]? = some v → κ i = some v := by
    have : ∀ (xs : List Rw) (n : Nat), (∀ (i : Nat) x, xs[i]? = some x → ∃ v, κ (n + i) = some v) → ∃ vs : List Value, vs.length = xs.length ∧ ∀ (i : Nat) v, vs[i]? = some v → κ (n + i) = some v := by
      intro xs
      induction xs with
      | nil => intro n _; exact ⟨[], rfl, by simp⟩
      | cons x xs ih =>
        intro n h
        obtain ⟨v, hv⟩ := h 0 x rfl
        obtain ⟨vs, q1, q2⟩ := ih (n + 1) (fun i y hy => by
          obtain ⟨v, hv⟩ := h (i + 1) y (by simpa using hy)
          exact ⟨v, by rw [← hv]; congr 1; omega⟩)
        refine ⟨v :: vs, by simp [q1], ?_⟩
        intro i u hu
        cases i with
        | zero => simp at hu; subst hu; exact hv
        | succ i =>
          have := q2 i u (by simpa using hu)
          rw [← this]; congr 1; omega
    obtain ⟨vs, q1, q2⟩ := this ins 0 (fun i x hx => by
      obtain ⟨v, bs, h1, _⟩ := hlents.at i x hx
      exact ⟨v, h1⟩)
    exact ⟨vs, q1, fun i v hv => by have := q2 i v hv; rwa [Nat.zero_add] at this⟩
  obtain ⟨vs, hvl, hvk⟩ := hvs
  refine calls_of_wp hf hb ?_
  let Θ : Nat → Nat := fun b => match ix (fun x : List Nat => x.contains b) L with | some i => i + 2 | none => if b < w.heap.size then 1 else 0
  have hΘ : ∀ (i : Nat) bs b, L[i]? = some bs → b ∈ bs → Θ b = i + 2 := by
    intro i bs b hi hb'
    have : ix (fun x : List Nat => x.contains b) L = some i := ix_hit hi (by simpa using hb') (fun j y hj hy => flatten_inj hnd j i y bs b hj hi (by simpa using hy) hb')
    simp only [Θ, this]
  have hΘn : ∀ b, b ∉ L.flatten → Θ b = if b < w.heap.size then 1 else 0 := by
    intro b hb'
    simp only [Θ]
    cases h : ix (fun x : List Nat => x.contains b) L with
    | none => rfl
    | some i =>
      obtain ⟨x, hx, hp⟩ := ix_some h
      exact absurd (List.mem_flatten.2 ⟨x, List.mem_of_getElem? hx, by simpa using hp⟩) hb'
  have hlt : ∀ b ∈ L.flatten, b < w.heap.size := fun b hb' => by
    obtain ⟨cs, T, hx⟩ := hwr b hb'
    exact (Array.getElem?_eq_some_iff.1 hx).1
  let Γ : Ctx := ⟨w, Θ, fun b => b ∈ L.flatten, fn.ntmps, fun _ => False, hvok⟩
  have hmax : ∀ x ∈ ins, x.2.length ≤ maxLen := by
    intro x hx
    obtain ⟨i, hi⟩ := List.getElem?_of_mem hx
    obtain ⟨v, bs, _, _, hr, _⟩ := hlents.at i x hi
    exact (Rdb.sl ⟨w, v, bs, hr⟩).1
  have hs : Sim Γ ⟨args0 0 ds, lents0 ins vs⟩ κ Θ { tmps := args.toArray ++ Array.replicate (fn.ntmps - args.toArray.size) undef, defers := [] } w := by
    refine ⟨rfl, ?_, fun i hi => hko i (by rw [lents0_length] at hi; omega), hk1, ?_, ?_, ?_, ?_, ?_, ⟨rfl, rfl, rfl, Nat.le_refl _, fun _ _ _ => rfl⟩, ⟨fun _ => 0, by simp, ?_, ?_⟩⟩
    · simp [Γ]; omega
    · intro t
      rw [lk_args0]
      simp only [Nat.not_lt_zero, if_false, Nat.sub_zero]
      cases hd : ds[t]? with
      | none => exact ⟨[], .of (.any _), by simp⟩
      | some x =>
        obtain ⟨v, k1, k2⟩ := hargs t x hd
        refine ⟨[], ?_, by simp⟩
        have hlt : t < args.length := (List.getElem?_eq_some_iff.1 k1).1
        have : (args.toArray ++ Array.replicate (fn.ntmps - args.toArray.size) undef).getD t undef = v := by
          rw [Array.getD_eq_getD_getElem?, Array.getElem?_append_left (by simpa using hlt)]
          simp [k1]
        rw [this]
        exact k2
    · intro j o hj
      obtain ⟨x, v0, hx, hv0, rfl⟩ := lents0_get hj
      have hbi : ∃ bs, L[j]? = some bs := ⟨_, List.getElem?_eq_getElem (by have := (List.getElem?_eq_some_iff.1 hx).1; omega)⟩
      obtain ⟨bs, hbi⟩ := hbi
      obtain ⟨v, q1, q2, q3⟩ := hLi j x bs hx hbi
      refine ⟨q2, fun y hy => by cases hy; exact hvk j v0 hv0, v, bs, by rw [← q1]; congr 1; omega, q3, flatten_nd hnd bs (List.mem_of_getElem? hbi), fun b hb' => ⟨hΘ j bs b hbi hb', hwr b (List.mem_flatten.2 ⟨bs, List.mem_of_getElem? hbi, hb'⟩)⟩⟩
    · intro b hb'
      by_cases hin : b ∈ L.flatten
      · exact hlt b hin
      · rw [hΘn b hin] at hb'
        split at hb'
        · assumption
        · exact absurd rfl hb'
    · intro b hb' hx
      refine ⟨rfl, ?_⟩
      rw [hΘn b hx]; split <;> omega
    · intro b hb'
      by_cases hin : b ∈ L.flatten
      · exact .inr hin
      · rw [hΘn b hin] at hb'
        split at hb' <;> omega
    · intro id e sz rows hj
      obtain ⟨x, v0, _, _, h⟩ := lents0_get hj
      simp [Rw.ob] at h
    · intro id o hj
      obtain ⟨x, v0, _, _, h⟩ := lents0_get hj
      subst h; exact UqM.plain2 rfl
  refine wp_mono (h hmax Γ rfl vs hvl _ _ _ _ hs) ?_
  rintro e a' w' ⟨st0, κ0, Θ0, hs0, hret, ds0, hres, hflat, rfl, hout⟩
  obtain ⟨rs, bs', m1, m2, m3, m4, m5⟩ := resDs_run hs0 hres
  -- the results
  have hfin : ∃ v, (results fn a'.tmps).run P w' = .ok v w' ∧ Rd w' v (packD ds0) [] := by
    have hrun : (results fn a'.tmps).run P w' = .ok (if h : rs.toArray.size = 1 then rs.toArray[0] else .tuple rs.toArray) w' := by
      rw [results_eq, Array.mapM_eq_mapM_toList]
      simp [m1]
    match ds0, rs, m2, m3, m4, hflat, hfl, hrun with
    | [x], [v], _, _, m4, hflat, _, hrun =>
      obtain ⟨v', b, k1, k2, _⟩ := m4 0 x rfl
      simp at k1; subst k1
      refine ⟨v, by simpa using hrun, ?_⟩
      simp only [List.all_cons, List.all_nil, Bool.and_true] at hflat
      simp only [packD]
      cases k2 with
      | v k2 =>
        cases k2 with
        | cell k2 =>
          cases k2 with
          | pure k2 => have := k2.flat hflat; subst this; exact k2
          | _ => simp [D.flat] at hflat
        | agg => simp [D.flat] at hflat
      | tup => simp [D.flat] at hflat
    | [], _, _, _, _, _, hfl, _ => simp [packD, D.flat] at hfl
    | _ :: _ :: _, _, _, _, _, _, hfl, _ => simp [packD, D.flat] at hfl
    | [x], [], h1, h2, _, _, _, _ => simp at h1 h2; omega
    | [x], _ :: _ :: _, h1, h2, _, _, _, _ => simp at h1 h2; omega
  obtain ⟨v, hr1, hr2⟩ := hfin
  -- the lent slices
  have hob : ∀ (i : Nat) x, outs[i]? = some x → ∃ v bs, κ i = some v ∧ (∀ r ∈ x.2, r.length = x.1) ∧ Rd w' v (.sl x.2) bs ∧ bs.Nodup ∧ ∀ b ∈ bs, Θ0 b = i + 2 ∧ Wr w' b := by
    intro i x hx
    have hlt : i < vs.length := by have := (List.getElem?_eq_some_iff.1 hx).1; omega
    obtain ⟨q1, q0, v, bs, q2, q3, q4, q5⟩ := hs0.ob i _ (hout i x _ hx (List.getElem?_eq_getElem hlt))
    have e1 := q0 _ rfl
    rw [q2] at e1; cases e1
    exact ⟨_, bs, hvk i _ (List.getElem?_eq_getElem hlt), q1, q3, q4, q5⟩
  have hL' : ∃ L' : List (List Nat), L'.length = outs.length ∧ ∀ (i : Nat) x bs, outs[i]? = some x → L'[i]? = some bs → (∃ v, κ i = some v ∧ (∀ r ∈ x.2, r.length = x.1) ∧ Rd w' v (.sl x.2) bs) ∧ bs.Nodup ∧ ∀ b ∈ bs, Θ0 b = i + 2 ∧ Wr w' b := by
    have key : ∀ (xs : List Rw) (n : Nat), (∀ (i : Nat) x, xs[i]? = some x → ∃ v bs, κ (n + i) = some v ∧ (∀ r ∈ x.2, r.length = x.1) ∧ Rd w' v (.sl x.2) bs ∧ bs.Nodup ∧ ∀ b ∈ bs, Θ0 b = (n + i) + 2 ∧ Wr w' b) →
        ∃ L' : List (List Nat), L'.length = xs.length ∧ ∀ (i : Nat) x bs, xs[i]? = some x → L'[i]? = some bs → (∃ v, κ (n + i) = some v ∧ (∀ r ∈ x.2, r.length = x.1) ∧ Rd w' v (.sl x.2) bs) ∧ bs.Nodup ∧ ∀ b ∈ bs, Θ0 b = (n + i) + 2 ∧ Wr w' b := by
      intro xs
      induction xs with
      | nil => intro n _; exact ⟨[], rfl, by simp⟩
      | cons x xs ih =>
        intro n h
        obtain ⟨v, bs, r1, r2, r3, r4, r5⟩ := h 0 x rfl
        obtain ⟨L', q1, q2⟩ := ih (n + 1) (fun i y hy => by
          have := h (i + 1) y (by simpa using hy)
          rw [show n + (i + 1) = n + 1 + i from by omega] at this
          exact this)
        refine ⟨bs :: L', by simp [q1], ?_⟩
        intro i y b hy hb'
        cases i with
        | zero => simp at hy hb'; subst hy; subst hb'; exact ⟨⟨v, r1, r2, r3⟩, r4, r5⟩
        | succ i =>
          have := q2 i y b (by simpa using hy) (by simpa using hb')
          rw [show n + 1 + i = n + (i + 1) from by omega] at this
          exact this
    obtain ⟨L', q1, q2⟩ := key outs 0 (fun i x hx => by rw [Nat.zero_add]; exact hob i x hx)
    exact ⟨L', q1, fun i x bs hx hb' => by have := q2 i x bs hx hb'; rwa [Nat.zero_add] at this⟩
  obtain ⟨L', hLl', hLi'⟩ := hL'
  have hmi' : ∀ (i : Nat) bs, L'[i]? = some bs → ∃ x, outs[i]? = some x := fun i bs hb' => ⟨_, List.getElem?_eq_getElem (by have := (List.getElem?_eq_some_iff.1 hb').1; omega)⟩
  have hnd' : L'.flatten.Nodup := by
    refine nodup_flatten (fun x hx => ?_) (fun i j x y b hi hj hx hy => ?_)
    · obtain ⟨i, hi⟩ := List.getElem?_of_mem hx
      obtain ⟨y, h1⟩ := hmi' i x hi
      exact (hLi' i y x h1 hi).2.1
    · obtain ⟨y1, h1⟩ := hmi' i x hi
      obtain ⟨y2, h2⟩ := hmi' j y hj
      have e1 := ((hLi' i y1 x h1 hi).2.2 b hx).1
      have e2 := ((hLi' j y2 y h2 hj).2.2 b hy).1
      omega
  have hbl : ∀ b ∈ L'.flatten, 2 ≤ Θ0 b ∧ Wr w' b := by
    intro b hb'
    obtain ⟨x, hx, hbx⟩ := List.mem_flatten.1 hb'
    obtain ⟨i, hi⟩ := List.getElem?_of_mem hx
    obtain ⟨y, h1⟩ := hmi' i x hi
    have := (hLi' i y x h1 hi).2.2 b hbx
    exact ⟨by omega, this.2⟩
  have hmine : ∀ b ∈ L'.flatten, b ∈ L.flatten ∨ w.heap.size ≤ b := by
    intro b hb'
    rcases hs0.mine b (hbl b hb').1 with h | h
    · exact .inr h
    · exact .inl h
  have post : a'.defers = [] ∧ ∃ v, (results fn a'.tmps).run P w' = .ok v w' ∧ ∃ u us', Ending.returned v = .returned u ∧ Rd w' u (packD ds0) [] ∧ Lents w' κ 0 outs us' ∧ us'.Nodup ∧ (∀ b ∈ us', (b ∈ L.flatten ∨ w.heap.size ≤ b) ∧ Wr w' b) ∧
      w'.os = w.os ∧ w'.tape = w.tape ∧ w'.output = w.output ∧ w.heap.size ≤ w'.heap.size ∧ ∀ b, b < w.heap.size → b ∉ L.flatten → w'.heap[b]? = w.heap[b]? := by
    refine ⟨hs0.defers, v, hr1, v, L'.flatten, rfl, hr2, Lents.of hLl' (fun i x bs hx hb' => ?_), hnd', fun b hb' => ⟨hmine b hb', (hbl b hb').2⟩, hs0.stays.os, hs0.stays.tape, hs0.stays.output, hs0.stays.size, fun b hb' hx => hs0.stays.block b hb' hx⟩
    obtain ⟨⟨v', q1, q2, q3⟩, _⟩ := hLi' i x bs hx hb'
    exact ⟨v', by rw [Nat.zero_add]; exact q1, q2, q3⟩
  rcases hret with rfl | rfl
  · exact post
  · exact post
end
end Go.Cx
