/- Calls as contracts of the abstract walk ('Good'): arguments are looked at, results may be handed over whole and new; how a body's abstract walk gives its contract. No condition; plain lemmas. -/
import Derived.Test.YtoeenpcilfhjbaaNSto
namespace Go.Cx
set_option linter.unusedVariables false
set_option linter.unusedSimpArgs false
open Go.RowKit

/-- arguments: values without names of own objects -/
inductive Rda (w : World) : List Value → List D → List Nat → Prop
  | nil : Rda w [] [] []
  | cons (v : Value) (vs : List Value) (d : D) (ds : List D) (b1 b2 : List Nat) : Rd w v d b1 → Rda w vs ds b2 → Rda w (v :: vs) (d :: ds) (b1 ++ b2)

/-! results: 'bs' is shared with others, 'ts' are the first blocks of slices that are handed over, 'us' all of their blocks -/
inductive ResC (w : World) : Value → D → List Nat → List Nat → List Nat → Prop
  | pure {v : Value} {d : D} {bs : List Nat} : Rd w v d bs → ResC w v d bs [] []
  | fr (v : Value) (e sz : Nat) (rows : List (List D)) (cs : List Value) (ns : List Nat) : 0 < sz → (∀ r ∈ rows, r.length = sz) → w.ownsRow 0 e sz v rows.length cs → RdF w (fcol e) 0 cs rows.flatten ns → v.oneCell' = true →
      ResC w v (.fr e sz rows) [] v.ownBlock.toList (v.ownBlock.toList ++ ns)
  /-- its first block alone is handed over -/
  | fs (v : Value) (e sz : Nat) (rows : List (List D)) (cs : List Value) (ns : List Nat) : 0 < sz → (∀ r ∈ rows, r.length = sz) → w.ownsRow 0 e sz v rows.length cs → Rds w cs rows.flatten ns → v.oneCell' = true →
      ResC w v (.fs e sz rows) ns v.ownBlock.toList v.ownBlock.toList
inductive ResCs (w : World) : List Value → List D → List Nat → List Nat → List Nat → Prop
  | nil : ResCs w [] [] [] [] []
  | cons (v : Value) (vs : List Value) (d : D) (ds : List D) (b1 b2 t1 t2 u1 u2 : List Nat) : v.oneCell' = true → ResC w v d b1 t1 u1 → ResCs w vs ds b2 t2 u2 → ResCs w (v :: vs) (d :: ds) (b1 ++ b2) (t1 ++ t2) (u1 ++ u2)
inductive ResV (w : World) : Value → D → List Nat → List Nat → List Nat → Prop
  | cell {v : Value} {d : D} {bs ts us : List Nat} : ResC w v d bs ts us → ResV w v d bs ts us
  | agg (cs : List Value) (ds : List D) (bs ts us : List Nat) : ResCs w cs ds bs ts us → ResV w (.agg cs.toArray) (.agg ds) bs ts us
inductive ResVs (w : World) : List Value → List D → List Nat → List Nat → List Nat → Prop
  | nil : ResVs w [] [] [] [] []
  | cons (v : Value) (vs : List Value) (d : D) (ds : List D) (b1 b2 t1 t2 u1 u2 : List Nat) : ResV w v d b1 t1 u1 → ResVs w vs ds b2 t2 u2 → ResVs w (v :: vs) (d :: ds) (b1 ++ b2) (t1 ++ t2) (u1 ++ u2)
inductive ResS (w : World) : Value → D → List Nat → List Nat → List Nat → Prop
  | v {v : Value} {d : D} {bs ts us : List Nat} : ResV w v d bs ts us → ResS w v d bs ts us
  | tup (vs : List Value) (ds : List D) (bs ts us : List Nat) : ResVs w vs ds bs ts us → ResS w (.tuple vs.toArray) (.tup ds) bs ts us

/-- a call of f with arguments that show ds comes back with a value that shows d; what was there stays as it was -/
def Good (P : Program) (f : FuncId) (ds : List D) (d : D) : Prop :=
  (∃ fn, P.funcs[f]? = some fn ∧ fn.body.isSome = true ∧ (fn.name == "runtime.NumGoroutine") = false) ∧
  ∀ (w : World) (Θ : Nat → Nat) (args : List Value) (bs : List Nat), Vok w (fun _ => False) → Rda w args ds bs → (∀ b ∈ bs, Θ b = 0) → (∀ b, Θ b ≠ 0 → b < w.heap.size) → (∀ b, Θ b ≤ 1) →
    Calls P f args.toArray w (fun e w' => ∃ v bs' ts us, e = .returned v ∧ Below w.heap.size w w' ∧ ResS w' v d bs' ts us ∧ (∀ b ∈ bs', b < w.heap.size → Θ b = 0) ∧ (∀ b ∈ bs', b ∉ ts) ∧ us.Nodup ∧
      (∀ b ∈ us, w.heap.size ≤ b ∧ Wr w' b) ∧ ∀ b ∈ ts, b ∈ us)

/-! results in the caller: each slice that is handed over becomes an object -/
def instC (n : Nat) (d : D) : D × List Ob := match d with
  | .fr e sz rows => (.acc n, [.row .uq e sz rows])
  | .fs e sz rows => (.acc n, [.row .sh e sz rows])
  | d => (d, [])
def instCs (n : Nat) : List D → List D × List Ob
  | [] => ([], [])
  | d :: ds => ((instC n d).1 :: (instCs (n + (instC n d).2.length) ds).1, (instC n d).2 ++ (instCs (n + (instC n d).2.length) ds).2)
def instV (n : Nat) (d : D) : D × List Ob := match d with
  | .agg cs => (.agg (instCs n cs).1, (instCs n cs).2)
  | d => instC n d
def instVs (n : Nat) : List D → List D × List Ob
  | [] => ([], [])
  | d :: ds => ((instV n d).1 :: (instVs (n + (instV n d).2.length) ds).1, (instV n d).2 ++ (instVs (n + (instV n d).2.length) ds).2)
def instS (n : Nat) (d : D) : D × List Ob := match d with
  | .tup vs => (.tup (instVs n vs).1, (instVs n vs).2)
  | d => instV n d

/-- a slice that is handed over -/
structure Fs where
  v : Value
  e : Nat
  sz : Nat
  rows : List (List D)
  cs : List Value
  ns : List Nat
  sh : Bool
  vs : List Nat
def Fs.ob (x : Fs) : Ob := .row (bif x.sh then .sh else .uq) x.e x.sz x.rows
def Fs.rs (x : Fs) : List Nat := bif x.sh then x.vs else x.ns
def Fs.ok (w : World) (x : Fs) : Prop := 0 < x.sz ∧ (∀ r ∈ x.rows, r.length = x.sz) ∧ w.ownsRow 0 x.e x.sz x.v x.rows.length x.cs ∧ RdF w (bif x.sh then (fun _ => none) else fcol x.e) 0 x.cs x.rows.flatten x.rs ∧ x.v.oneCell' = true
theorem Fs.ok.uq {w : World} {x : Fs} (h : x.ok w) (hs : x.sh = false) : RdF w (fcol x.e) 0 x.cs x.rows.flatten x.ns := by
  have := h.2.2.2.1
  unfold Fs.rs at this
  rw [hs] at this
  exact this
theorem Fs.uq_inv {x : Fs} {e sz : Nat} {rows : List (List D)} (h : x.ob = .row .uq e sz rows) : x.sh = false ∧ x.e = e ∧ x.sz = sz ∧ x.rows = rows := by
  unfold Fs.ob at h
  cases hs : x.sh with
  | true => rw [hs] at h; cases h
  | false => rw [hs] at h; cases h; exact ⟨rfl, rfl, rfl, rfl⟩
theorem Fs.rel {w : World} {κ : Nat → Option Value} {Θ : Nat → Nat} {id : Nat} {x : Fs} (h : x.ok w) (hk : κ id = some x.v) (ht : ∀ g, x.v.ownBlock = some g → Θ g = id + 2) (hz : ∀ b ∈ x.ns, Θ b = 0) (hv : x.sh = true → ∀ b ∈ x.vs, Θ b = 0) : ObRel w κ Θ id x.ob := by
  obtain ⟨q1, q2, q3, q4, _⟩ := h
  unfold Fs.ob
  unfold Fs.rs at q4
  cases hs : x.sh with
  | true => rw [hs] at q4; exact ⟨q1, q2, x.v, x.cs, x.vs, hk, q3, q4.rd, ht, hv hs⟩
  | false => rw [hs] at q4; exact ⟨q1, q2, x.v, x.cs, x.ns, hk, q3, q4.rd, ht, hz⟩
theorem Fs.plain {w : World} {κ : Nat → Option Value} {ρ : Nat → Nat} {id : Nat} (x : Fs) : UqM w κ ρ id x.ob := by
  unfold Fs.ob
  cases x.sh <;> exact UqM.plain2 rfl
def Fs.bl (x : Fs) : List Nat := x.v.ownBlock.toList ++ x.ns
def Fs.ts (x : Fs) : List Nat := x.v.ownBlock.toList

section
variable {P : Program} {Γ : Ctx} {Q : Exit → St → Prop} {st : St} {κ κ' : Nat → Option Value} {Θ Θ' : Nat → Nat} {a : Act} {w w' : World} {all : Array Oper} {rest : List Oper}

def Names (κ : Nat → Option Value) (n : Nat) (L : List Fs) : Prop := ∀ (i : Nat) x, L[i]? = some x → κ (n + i) = some x.v

theorem Names.left {n : Nat} {L1 L2 : List Fs} (h : Names κ n (L1 ++ L2)) : Names κ n L1 := fun i x hx => h i x (by
  rw [List.getElem?_append_left (List.getElem?_eq_some_iff.1 hx).1]; exact hx)
theorem Names.right {n : Nat} {L1 L2 : List Fs} (h : Names κ n (L1 ++ L2)) : Names κ (n + L1.length) L2 := fun i x hx => by
  have := h (L1.length + i) x (by rw [List.getElem?_append_right (by omega)]; simpa using hx)
  rw [← this]; congr 1; omega

theorem ResC.inst {v : Value} {d : D} {bs ts us : List Nat} (h : ResC w v d bs ts us) (n : Nat) :
    ∃ L : List Fs, L.map Fs.ob = (instC n d).2 ∧ (∀ x ∈ L, x.ok w) ∧ us = L.flatMap Fs.bl ∧ ts = L.flatMap Fs.ts ∧ (∀ x ∈ L, x.sh = true → ∀ b ∈ x.vs, b ∈ bs) ∧ ∀ κ, Names κ n L → ∃ b0, RdC w κ v (instC n d).1 b0 ∧ ∀ b ∈ b0, b ∈ bs := by
  cases h with
  | pure h =>
    have e : instC n d = (d, []) := by cases h <;> rfl
    rw [e]
    exact ⟨[], rfl, by simp, rfl, rfl, by simp, fun κ _ => ⟨_, .pure h, fun _ h => h⟩⟩
  | fr e sz rows cs ns h1 h2 h3 h4 h5 =>
    refine ⟨[⟨v, e, sz, rows, cs, ns, false, []⟩], rfl, ?_, by simp [Fs.bl], by simp [Fs.ts], by simp, fun κ hk => ⟨[], ?_, by simp⟩⟩
    · intro x hx; simp at hx; subst hx; exact ⟨h1, h2, h3, h4, h5⟩
    · exact .acc n v (by simpa using hk 0 _ rfl)
  | fs e sz rows cs ns h1 h2 h3 h4 h5 =>
    refine ⟨[⟨v, e, sz, rows, cs, [], true, bs⟩], rfl, ?_, by simp [Fs.bl], by simp [Fs.ts], fun x hx _ b hb => ?_, fun κ hk => ⟨[], ?_, by simp⟩⟩
    · intro x hx; simp at hx; subst hx; exact ⟨h1, h2, h3, .of h4 (fun _ => rfl), h5⟩
    · simp at hx; subst hx; exact hb
    · exact .acc n v (by simpa using hk 0 _ rfl)

theorem ResCs.inst {vs : List Value} {ds : List D} {bs ts us : List Nat} (h : ResCs w vs ds bs ts us) (n : Nat) :
    ∃ L : List Fs, L.map Fs.ob = (instCs n ds).2 ∧ (∀ x ∈ L, x.ok w) ∧ us = L.flatMap Fs.bl ∧ ts = L.flatMap Fs.ts ∧ (∀ x ∈ L, x.sh = true → ∀ b ∈ x.vs, b ∈ bs) ∧ ∀ κ, Names κ n L → ∃ b0, RdCs w κ vs (instCs n ds).1 b0 ∧ ∀ b ∈ b0, b ∈ bs := by
  induction h generalizing n with
  | nil => exact ⟨[], rfl, by simp, rfl, rfl, by simp, fun κ _ => ⟨_, .nil, fun _ h => h⟩⟩
  | cons v vs d ds b1 b2 t1 t2 u1 u2 h1 h2 _ ih =>
    obtain ⟨L1, q1, q2, q3, q4, q6, q5⟩ := h2.inst n
    obtain ⟨L2, p1, p2, p3, p4, p6, p5⟩ := ih (n + (instC n d).2.length)
    have hl : L1.length = (instC n d).2.length := by rw [← q1]; simp
    refine ⟨L1 ++ L2, by simp [instCs, q1, p1], ?_, by simp [q3, p3], by simp [q4, p4], fun x hx hs b hb => ?_, fun κ hk => ?_⟩
    · intro x hx
      rcases List.mem_append.1 hx with hx | hx
      · exact q2 x hx
      · exact p2 x hx
    · rcases List.mem_append.1 hx with hx | hx
      · exact List.mem_append.2 (.inl (q6 x hx hs b hb))
      · exact List.mem_append.2 (.inr (p6 x hx hs b hb))
    · obtain ⟨c1, r1, s1⟩ := q5 κ hk.left
      obtain ⟨c2, r2, s2⟩ := p5 κ (by rw [← hl]; exact hk.right)
      refine ⟨_, .cons _ _ _ _ _ _ h1 r1 r2, fun b hb => ?_⟩
      rcases List.mem_append.1 hb with hb | hb
      · exact List.mem_append.2 (.inl (s1 b hb))
      · exact List.mem_append.2 (.inr (s2 b hb))

theorem ResV.inst {v : Value} {d : D} {bs ts us : List Nat} (h : ResV w v d bs ts us) (n : Nat) :
    ∃ L : List Fs, L.map Fs.ob = (instV n d).2 ∧ (∀ x ∈ L, x.ok w) ∧ us = L.flatMap Fs.bl ∧ ts = L.flatMap Fs.ts ∧ (∀ x ∈ L, x.sh = true → ∀ b ∈ x.vs, b ∈ bs) ∧ ∀ κ, Names κ n L → ∃ b0, RdV w κ v (instV n d).1 b0 ∧ ∀ b ∈ b0, b ∈ bs := by
  cases h with
  | cell h =>
    by_cases hagg : ∃ ds, d = .agg ds
    · obtain ⟨ds, rfl⟩ := hagg
      cases h with
      | pure h =>
        cases h with
        | agg cs _ _ h =>
          have : ∀ (vs : List Value) (es : List D) (b : List Nat), Rds w vs es b → ∀ n, (instCs n es).1 = es ∧ (instCs n es).2 = [] := by
            intro vs es
            induction es generalizing vs with
            | nil => intro b _ n; exact ⟨rfl, rfl⟩
            | cons e es ih =>
              intro b hh n
              cases hh with
              | cons v vs _ _ b1 b2 _ h2 h3 =>
                have e1 : instC n e = (e, []) := by cases h2 <;> rfl
                have := ih vs b2 h3 n
                simp [instCs, e1, this]
          obtain ⟨e1, e2⟩ := this _ _ _ h n
          refine ⟨[], by simp [instV, e2], by simp, rfl, rfl, by simp, fun κ _ => ⟨_, ?_, fun _ h => h⟩⟩
          simp only [instV, e1]
          exact .agg _ _ _ (RdCs.ofRds h)
    · have e : instV n d = instC n d := by cases d <;> first | rfl | exact absurd ⟨_, rfl⟩ hagg
      rw [e]
      obtain ⟨L, q1, q2, q3, q4, q6, q5⟩ := h.inst n
      exact ⟨L, q1, q2, q3, q4, q6, fun κ hk => by obtain ⟨c, r, s⟩ := q5 κ hk; exact ⟨c, .cell r, s⟩⟩
  | agg cs ds bs ts us h =>
    obtain ⟨L, q1, q2, q3, q4, q6, q5⟩ := h.inst n
    exact ⟨L, q1, q2, q3, q4, q6, fun κ hk => by obtain ⟨c, r, s⟩ := q5 κ hk; exact ⟨c, .agg _ _ _ r, s⟩⟩

theorem ResVs.inst {vs : List Value} {ds : List D} {bs ts us : List Nat} (h : ResVs w vs ds bs ts us) (n : Nat) :
    ∃ L : List Fs, L.map Fs.ob = (instVs n ds).2 ∧ (∀ x ∈ L, x.ok w) ∧ us = L.flatMap Fs.bl ∧ ts = L.flatMap Fs.ts ∧ (∀ x ∈ L, x.sh = true → ∀ b ∈ x.vs, b ∈ bs) ∧ ∀ κ, Names κ n L → ∃ b0, RdVs w κ vs (instVs n ds).1 b0 ∧ ∀ b ∈ b0, b ∈ bs := by
  induction h generalizing n with
  | nil => exact ⟨[], rfl, by simp, rfl, rfl, by simp, fun κ _ => ⟨_, .nil, fun _ h => h⟩⟩
  | cons v vs d ds b1 b2 t1 t2 u1 u2 h2 _ ih =>
    obtain ⟨L1, q1, q2, q3, q4, q6, q5⟩ := h2.inst n
    obtain ⟨L2, p1, p2, p3, p4, p6, p5⟩ := ih (n + (instV n d).2.length)
    have hl : L1.length = (instV n d).2.length := by rw [← q1]; simp
    refine ⟨L1 ++ L2, by simp [instVs, q1, p1], ?_, by simp [q3, p3], by simp [q4, p4], fun x hx hs b hb => ?_, fun κ hk => ?_⟩
    · intro x hx
      rcases List.mem_append.1 hx with hx | hx
      · exact q2 x hx
      · exact p2 x hx
    · rcases List.mem_append.1 hx with hx | hx
      · exact List.mem_append.2 (.inl (q6 x hx hs b hb))
      · exact List.mem_append.2 (.inr (p6 x hx hs b hb))
    · obtain ⟨c1, r1, s1⟩ := q5 κ hk.left
      obtain ⟨c2, r2, s2⟩ := p5 κ (by rw [← hl]; exact hk.right)
      refine ⟨_, .cons _ _ _ _ _ _ r1 r2, fun b hb => ?_⟩
      rcases List.mem_append.1 hb with hb | hb
      · exact List.mem_append.2 (.inl (s1 b hb))
      · exact List.mem_append.2 (.inr (s2 b hb))

theorem ResS.inst {v : Value} {d : D} {bs ts us : List Nat} (h : ResS w v d bs ts us) (n : Nat) :
    ∃ L : List Fs, L.map Fs.ob = (instS n d).2 ∧ (∀ x ∈ L, x.ok w) ∧ us = L.flatMap Fs.bl ∧ ts = L.flatMap Fs.ts ∧ (∀ x ∈ L, x.sh = true → ∀ b ∈ x.vs, b ∈ bs) ∧ ∀ κ, Names κ n L → ∃ b0, RdS w κ v (instS n d).1 b0 ∧ ∀ b ∈ b0, b ∈ bs := by
  cases h with
  | v h =>
    have hnt : ∀ vs, d ≠ .tup vs := by
      intro vs e; subst e
      cases h with
      | cell h => cases h with | pure h => cases h
    have e : instS n d = instV n d := by cases d <;> first | rfl | exact absurd rfl (hnt _)
    rw [e]
    obtain ⟨L, q1, q2, q3, q4, q6, q5⟩ := h.inst n
    exact ⟨L, q1, q2, q3, q4, q6, fun κ hk => by obtain ⟨c, r, s⟩ := q5 κ hk; exact ⟨c, .v r, s⟩⟩
  | tup vs ds bs ts us h =>
    obtain ⟨L, q1, q2, q3, q4, q6, q5⟩ := h.inst n
    exact ⟨L, q1, q2, q3, q4, q6, fun κ hk => by obtain ⟨c, r, s⟩ := q5 κ hk; exact ⟨c, .tup _ _ _ r, s⟩⟩

theorem ResC_top {v : Value} {d : D} {bs ts us : List Nat} (h : ResC w v d bs ts us) : ∀ b ∈ ts, Wr w b := by
  cases h with
  | pure => simp
  | fr e sz rows cs ns h1 h2 h3 h4 h5 =>
    intro b hb
    simp only [Option.mem_toList] at hb
    rcases h3.2 with ⟨rfl, _⟩ | ⟨g, cap, cur, rfl, _, hg, _⟩
    · simp [Value.ownBlock] at hb
    · simp [Value.ownBlock] at hb; subst hb; exact ⟨_, _, hg⟩
  | fs e sz rows cs ns h1 h2 h3 h4 h5 =>
    intro b hb
    simp only [Option.mem_toList] at hb
    rcases h3.2 with ⟨rfl, _⟩ | ⟨g, cap, cur, rfl, _, hg, _⟩
    · simp [Value.ownBlock] at hb
    · simp [Value.ownBlock] at hb; subst hb; exact ⟨_, _, hg⟩
theorem ResCs_top {vs : List Value} {ds : List D} {bs ts us : List Nat} (h : ResCs w vs ds bs ts us) : ∀ b ∈ ts, Wr w b := by
  induction h with
  | nil => simp
  | cons v vs d ds b1 b2 t1 t2 u1 u2 h1 h2 _ ih =>
    intro b hb
    rcases List.mem_append.1 hb with hb | hb
    · exact ResC_top h2 b hb
    · exact ih b hb
theorem ResV_top {v : Value} {d : D} {bs ts us : List Nat} (h : ResV w v d bs ts us) : ∀ b ∈ ts, Wr w b := by
  cases h with
  | cell h => exact ResC_top h
  | agg cs ds bs ts us h => exact ResCs_top h
theorem ResVs_top {vs : List Value} {ds : List D} {bs ts us : List Nat} (h : ResVs w vs ds bs ts us) : ∀ b ∈ ts, Wr w b := by
  induction h with
  | nil => simp
  | cons v vs d ds b1 b2 t1 t2 u1 u2 h2 _ ih =>
    intro b hb
    rcases List.mem_append.1 hb with hb | hb
    · exact ResV_top h2 b hb
    · exact ih b hb
theorem ResS_top {v : Value} {d : D} {bs ts us : List Nat} (h : ResS w v d bs ts us) : ∀ b ∈ ts, Wr w b := by
  cases h with
  | v h => exact ResV_top h
  | tup vs ds bs ts us h => exact ResVs_top h

/-! which of a list first fits -/
def ix {α : Type} (p : α → Bool) : List α → Option Nat
  | [] => none
  | x :: r => if p x then some 0 else (ix p r).map (· + 1)

theorem ix_some {α : Type} {p : α → Bool} : ∀ {l : List α} {i : Nat}, ix p l = some i → ∃ x, l[i]? = some x ∧ p x = true := by
  intro l
  induction l with
  | nil => intro i h; cases h
  | cons x r ih =>
    intro i h
    simp only [ix] at h
    split at h
    · cases h; exact ⟨x, rfl, by assumption⟩
    · cases hr : ix p r with
      | none => simp [hr] at h
      | some j => simp [hr] at h; subst h; simpa using ih hr

theorem ix_hit {α : Type} {p : α → Bool} : ∀ {l : List α} {i : Nat} {x : α}, l[i]? = some x → p x = true → (∀ (j : Nat) y, l[j]? = some y → p y = true → j = i) → ix p l = some i := by
  intro l
  induction l with
  | nil => intro i x h; simp at h
  | cons y r ih =>
    intro i x h hp hu
    simp only [ix]
    split
    · rename_i hy; rw [hu 0 y rfl hy]
    · rename_i hy
      cases i with
      | zero => simp at h; subst h; exact absurd hp hy
      | succ i =>
        rw [ih (by simpa using h) hp (fun j z hz hpz => by have := hu (j + 1) z (by simpa using hz) hpz; omega)]
        rfl

theorem flatMap_inj {α : Type} {f : α → List Nat} : ∀ {l : List α}, (l.flatMap f).Nodup → ∀ (i j : Nat) x y b, l[i]? = some x → l[j]? = some y → b ∈ f x → b ∈ f y → i = j := by
  intro l
  induction l with
  | nil => intro _ i j x y b hi; simp at hi
  | cons z r ih =>
    intro hnd i j x y b hi hj hbx hby
    simp only [List.flatMap_cons] at hnd
    obtain ⟨n1, n2, n3⟩ := List.nodup_append.1 hnd
    cases i with
    | zero =>
      simp at hi; subst hi
      cases j with
      | zero => rfl
      | succ j =>
        simp at hj
        exact absurd rfl (n3 b hbx b (List.mem_flatMap.2 ⟨y, List.mem_of_getElem? hj, hby⟩))
    | succ i =>
      simp at hi
      cases j with
      | zero =>
        simp at hj; subst hj
        exact absurd rfl (n3 b hby b (List.mem_flatMap.2 ⟨x, List.mem_of_getElem? hi, hbx⟩))
      | succ j => simp at hj; rw [ih n2 i j x y b hi hj hbx hby]

/-- a call comes back: slices that are handed over become objects -/
theorem Sim.installAt (hs : Sim Γ st κ Θ a w) (hb : Below w.heap.size w w') (L : List Fs) (hL : ∀ x ∈ L, x.ok w') (hnd : (L.flatMap Fs.bl).Nodup) (hfr : ∀ b ∈ L.flatMap Fs.bl, w.heap.size ≤ b ∧ Wr w' b) (hvs : ∀ x ∈ L, x.sh = true → ∀ b ∈ x.vs, Θ b = 0 ∧ b ∉ L.flatMap Fs.ts)
    (n : Nat) (H' : List Ob) (hfree : ∀ i, i < L.length → κ (n + i) = none) (hlen' : st.H.length ≤ H'.length) (hin : n + L.length ≤ H'.length)
    (key : ∀ (j : Nat) y, H'[j]? = some y → (∃ i x, j = n + i ∧ L[i]? = some x ∧ y = x.ob) ∨ ((j < n ∨ n + L.length ≤ j) ∧ (y = .gone ∨ st.H[j]? = some y))) :
    ∃ κ' Θ', Sim Γ ⟨st.σ, H'⟩ κ' Θ' a w' ∧ Names κ' n L ∧ (∀ (j : Nat) v, κ j = some v → κ' j = some v) ∧ (∀ b, b ∉ L.flatMap Fs.ts → Θ' b = Θ b) ∧ (∀ j, (j < n ∨ n + L.length ≤ j) → κ' j = κ j) := by
  let κ' : Nat → Option Value := fun j => if j < n ∨ n + L.length ≤ j then κ j else (L[j - n]?).map Fs.v
  let Θ' : Nat → Nat := fun b => match ix (fun x : Fs => x.v.ownBlock == some b) L with | some i => n + i + 2 | none => Θ b
  have hu1 : ∀ (i j : Nat) x y b, L[i]? = some x → L[j]? = some y → b ∈ x.bl → b ∈ y.bl → i = j := fun i j x y b => flatMap_inj hnd i j x y b
  have hts : ∀ (i : Nat) x b, L[i]? = some x → x.v.ownBlock = some b → Θ' b = n + i + 2 := by
    intro i x b hi hxb
    have : ix (fun x : Fs => x.v.ownBlock == some b) L = some i := ix_hit hi (by simp [hxb]) (fun j y hj hy => by
      simp only [beq_iff_eq] at hy
      exact hu1 j i y x b hj hi (by simp [Fs.bl, hy]) (by simp [Fs.bl, hxb]))
    simp only [Θ', this]
  have hno : ∀ b, b ∉ L.flatMap Fs.ts → Θ' b = Θ b := by
    intro b hb'
    simp only [Θ']
    cases h : ix (fun x : Fs => x.v.ownBlock == some b) L with
    | none => rfl
    | some i =>
      obtain ⟨x, hx, hp⟩ := ix_some h
      exact absurd (List.mem_flatMap.2 ⟨x, List.mem_of_getElem? hx, by simp only [beq_iff_eq] at hp; simp [Fs.ts, hp]⟩) hb'
  have hsub : ∀ b, b ∈ L.flatMap Fs.ts → b ∈ L.flatMap Fs.bl := by
    intro b h
    obtain ⟨x, hx, hbx⟩ := List.mem_flatMap.1 h
    exact List.mem_flatMap.2 ⟨x, hx, by simp only [Fs.bl, Fs.ts] at hbx ⊢; exact List.mem_append.2 (.inl hbx)⟩
  have hold : ∀ b, b < w.heap.size → Θ' b = Θ b := fun b hlt => hno b (fun h => by have := (hfr b (hsub b h)).1; omega)
  have hzero : ∀ b, w.heap.size ≤ b → Θ b = 0 := fun b hge => by
    cases h : Θ b with
    | zero => rfl
    | succ m => exact absurd (hs.own b (by omega)) (by omega)
  have hn : ∀ (j : Nat) v, κ j = some v → κ' j = some v := by
    intro j v hj
    have : j < n ∨ n + L.length ≤ j := by
      rcases Nat.lt_or_ge j n with h | h
      · exact .inl h
      · rcases Nat.lt_or_ge j (n + L.length) with h2 | h2
        · have := hfree (j - n) (by omega)
          rw [show n + (j - n) = j from by omega, hj] at this; cases this
        · exact .inr h2
    simp only [κ']; rw [if_pos this]; exact hj
  have hnames : Names κ' n L := by
    intro i x hx
    have hlt := (List.getElem?_eq_some_iff.1 hx).1
    simp only [κ']
    rw [if_neg (by omega), Nat.add_sub_cancel_left, hx]; rfl
  have hTb : ∀ b, Θ' b ≠ 0 → Θ b ≠ 0 ∨ b ∈ L.flatMap Fs.bl := by
    intro b h
    by_cases hbt : b ∈ L.flatMap Fs.ts
    · exact .inr (hsub b hbt)
    · rw [hno b hbt] at h; exact .inl h
  have k : Keeps w w' Θ Θ' (H'.length + 2) := by
    refine ⟨by omega, hb.os, hb.tape, hb.output, hb.size, fun b hlt _ => hb.block b hlt, fun b hlt _ => hold b hlt, fun b h => ?_⟩
    rcases hTb b h with h | h
    · exact Nat.lt_of_lt_of_le (hs.own b h) hb.size
    · obtain ⟨cs, T, hx⟩ := (hfr b h).2
      exact (Array.getElem?_eq_some_iff.1 hx).1
  have hm : ∀ b, 2 ≤ Θ' b → Mine Γ b := by
    intro b h
    by_cases hbt : b ∈ L.flatMap Fs.ts
    · exact .inl (Nat.le_trans hs.base (hfr b (hsub b hbt)).1)
    · rw [hno b hbt] at h; exact hs.mine b h
  obtain ⟨ρ, hu⟩ := hs.uniq
  have hus := hs.uniqStay k hn hu
  let ρ' : Nat → Nat := fun b => match ix (fun x : Fs => x.ns.contains b) L with | some i => n + i + 1 | none => ρ b
  have hns : ∀ (i : Nat) x b, L[i]? = some x → b ∈ x.ns → ρ' b = n + i + 1 := by
    intro i x b hi hxb
    have : ix (fun x : Fs => x.ns.contains b) L = some i := ix_hit hi (by simpa using hxb) (fun j y hj hy => by
      exact hu1 j i y x b hj hi (by simp only [Fs.bl]; exact List.mem_append.2 (.inr (by simpa using hy))) (by simp only [Fs.bl]; exact List.mem_append.2 (.inr hxb)))
    simp only [ρ', this]
  have hz0 : ∀ (i : Nat) x b, L[i]? = some x → b ∈ x.ns → Θ' b = 0 := by
    intro i x b hi hxb
    have hmem : b ∈ L.flatMap Fs.bl := List.mem_flatMap.2 ⟨x, List.mem_of_getElem? hi, by simp only [Fs.bl]; exact List.mem_append.2 (.inr hxb)⟩
    rw [hno b ?_]
    · exact hzero b (hfr b hmem).1
    · intro h
      obtain ⟨y, hy, hby⟩ := List.mem_flatMap.1 h
      obtain ⟨j, hj⟩ := List.getElem?_of_mem hy
      have := hu1 j i y x b hj hi (by simp only [Fs.bl, Fs.ts] at hby ⊢; exact List.mem_append.2 (.inl hby)) (by simp only [Fs.bl]; exact List.mem_append.2 (.inr hxb))
      subst this
      rw [hj] at hi; cases hi
      -- within one slice
      have hnd1 : x.bl.Nodup := by
        have : ∀ (l : List Fs), (l.flatMap Fs.bl).Nodup → ∀ x ∈ l, x.bl.Nodup := by
          intro l
          induction l with
          | nil => intro _ x hx; cases hx
          | cons z r ih =>
            intro hnd x hx
            simp only [List.flatMap_cons] at hnd
            obtain ⟨n1, n2, _⟩ := List.nodup_append.1 hnd
            rcases List.mem_cons.1 hx with rfl | hx
            · exact n1
            · exact ih n2 x hx
        exact this L hnd x hy
      simp only [Fs.bl] at hnd1
      exact (List.nodup_append.1 hnd1).2.2 b hby b hxb rfl
  have hlen : ∀ i, H'.length ≤ i → κ' i = none := by
    intro i hi
    simp only [κ']
    rw [if_pos (by omega)]
    exact hs.kout i (by omega)
  have hjlt : ∀ (j : Nat) y, H'[j]? = some y → j + 2 ≠ H'.length + 2 := fun j y hj => by
    have := (List.getElem?_eq_some_iff.1 hj).1; omega
  refine ⟨κ', Θ', ?_, hnames, hn, hno, fun j hj => if_pos hj⟩
  have hstay : ∀ b, b < w.heap.size → ρ' b = ρ b := by
    intro b hlt'
    simp only [ρ']
    cases hi : ix (fun x : Fs => x.ns.contains b) L with
    | none => rfl
    | some i =>
      obtain ⟨x, hx, hp⟩ := ix_some hi
      have := (hfr b (List.mem_flatMap.2 ⟨x, List.mem_of_getElem? hx, by simp only [Fs.bl]; exact List.mem_append.2 (.inr (by simpa using hp))⟩)).1
      omega
  have hltρ : ∀ b, ρ b ≠ 0 → b < w.heap.size := fun b hb' => by
    obtain ⟨_, _, cs', T, hx⟩ := hu.free b hb'
    exact (Array.getElem?_eq_some_iff.1 hx).1
  refine hs.step k hm hn hlen ?_ ?_ ⟨ρ', ?_, ?_, ?_⟩
  · intro i u hu'
    simp only [κ'] at hu'
    split at hu'
    · exact hs.kone i u hu'
    · cases hx : L[i - n]? with
      | none => simp [hx] at hu'
      | some x => simp [hx] at hu'; subst hu'; exact (hL x (List.mem_of_getElem? hx)).2.2.2.2
  · intro j y hj
    have hjl := hjlt j y hj
    rcases key j y hj with ⟨i, x, rfl, hx, rfl⟩ | ⟨hlt, hy | hy⟩
    · refine .inr (.inr (Fs.rel (hL x (List.mem_of_getElem? hx)) (hnames i x hx) (fun g hg => hts i x g hx hg) (fun b hb' => hz0 i x b hx hb') fun hs' b hb' => ?_))
      obtain ⟨e1, e2⟩ := hvs x (List.mem_of_getElem? hx) hs' b hb'
      rw [hno b e2]; exact e1
    · exact .inl hy
    · exact .inr (.inl ⟨hjl, hy⟩)
  · intro b hb'
    by_cases h : ∃ (i : Nat) (x : Fs), L[i]? = some x ∧ b ∈ x.ns
    · obtain ⟨i, x, hx, hbx⟩ := h
      have hmem : b ∈ L.flatMap Fs.bl := List.mem_flatMap.2 ⟨x, List.mem_of_getElem? hx, by simp only [Fs.bl]; exact List.mem_append.2 (.inr hbx)⟩
      exact ⟨hz0 i x b hx hbx, .inl (.inl (Nat.le_trans hs.base (hfr b hmem).1)), (hfr b hmem).2⟩
    · have : ρ' b = ρ b := by
        simp only [ρ']
        cases hi : ix (fun x : Fs => x.ns.contains b) L with
        | none => rfl
        | some i =>
          obtain ⟨x, hx, hp⟩ := ix_some hi
          exact absurd ⟨i, x, hx, by simpa using hp⟩ h
      rw [this] at hb'
      exact hus.1 b hb'
  · intro j e sz rows hj
    have hjl := hjlt j _ hj
    rcases key j _ hj with ⟨i, x, rfl, hx, hy⟩ | ⟨hlt, hy | hy⟩
    · obtain ⟨hsh, rfl, rfl, rfl⟩ := Fs.uq_inv hy.symm
      have hok := hL x (List.mem_of_getElem? hx)
      have q4 := hok.uq hsh
      obtain ⟨q1, q2, q3, _, _⟩ := hok
      have hnd1 : x.ns.Nodup := by
        have : ∀ (l : List Fs), (l.flatMap Fs.bl).Nodup → ∀ x ∈ l, x.bl.Nodup := by
          intro l
          induction l with
          | nil => intro _ x hx; cases hx
          | cons z r ih =>
            intro hnd x hx
            simp only [List.flatMap_cons] at hnd
            obtain ⟨n1, n2, _⟩ := List.nodup_append.1 hnd
            rcases List.mem_cons.1 hx with rfl | hx
            · exact n1
            · exact ih n2 x hx
        exact (List.nodup_append.1 (this L hnd x (List.mem_of_getElem? hx))).2.1
      exact ⟨x.v, x.cs, x.ns, hnames i x hx, q3, q4, hnd1, fun b hb' => hns i x b hx hb'⟩
    · cases hy
    · obtain ⟨v, cs, bs, q1, q2, q3, q4, q5⟩ := hus.2.1 j e sz rows hjl hy
      exact ⟨v, cs, bs, q1, q2, q3, q4, fun b hb' => (hstay b (hltρ b (by rw [q5 b hb']; omega))).trans (q5 b hb')⟩
  · intro j y hj
    have hjl := hjlt j _ hj
    rcases key j _ hj with ⟨i, x, rfl, hx, hy⟩ | ⟨hlt, hy | hy⟩
    · subst hy; exact Fs.plain x
    · subst hy; trivial
    · exact (hus.2.2 j y hjl hy).re fun b hb' => (hstay b (hltρ b (by omega))).trans hb'

theorem Sim.install (hs : Sim Γ st κ Θ a w) (hb : Below w.heap.size w w') (L : List Fs) (hL : ∀ x ∈ L, x.ok w') (hnd : (L.flatMap Fs.bl).Nodup) (hfr : ∀ b ∈ L.flatMap Fs.bl, w.heap.size ≤ b ∧ Wr w' b) (hvs : ∀ x ∈ L, x.sh = true → ∀ b ∈ x.vs, Θ b = 0 ∧ b ∉ L.flatMap Fs.ts) :
    ∃ κ' Θ', Sim Γ ⟨st.σ, st.H ++ L.map Fs.ob⟩ κ' Θ' a w' ∧ Names κ' st.H.length L ∧ (∀ (j : Nat) v, κ j = some v → κ' j = some v) ∧ (∀ b, b ∉ L.flatMap Fs.ts → Θ' b = Θ b) := by
  obtain ⟨κ', Θ', h1, h2, h3, h4, _⟩ := hs.installAt hb L hL hnd hfr hvs st.H.length (st.H ++ L.map Fs.ob) (fun i _ => hs.kout _ (by omega)) (by simp) (by simp) (by
    intro j y hj
    by_cases hlt : j < st.H.length
    · rw [List.getElem?_append_left hlt] at hj; exact .inr ⟨.inl hlt, .inr hj⟩
    · rw [List.getElem?_append_right (by omega), List.getElem?_map] at hj
      cases hx : L[j - st.H.length]? with
      | none => simp [hx] at hj
      | some x => simp [hx] at hj; exact .inl ⟨j - st.H.length, x, by omega, hx, hj.symm⟩)
  exact ⟨κ', Θ', h1, h2, h3, h4⟩

/-! arguments: what own objects show -/
def vwC (H : List Ob) (d : D) : Option (D × List Nat) := match d with
  | .acc m => (match H[m]? with | some (.row _ _ _ rows) => some (.sl rows, [m]) | some (.lent _ rows _) => some (.sl rows, [m]) | some (.tk rows) => some (.sl rows, []) | _ => none)
  | .ptr _ _ => none
  | .op _ _ _ _ => none
  | d => some (d.softC, [])
def vwCs (H : List Ob) : List D → Option (List D × List Nat)
  | [] => some ([], [])
  | d :: ds => match vwC H d, vwCs H ds with | some (e, m), some (es, ms) => some (e :: es, m ++ ms) | _, _ => none
def vwV (H : List Ob) (d : D) : Option (D × List Nat) := match d with
  | .agg cs => (match vwCs H cs with | some (es, ms) => some (.agg es, ms) | none => none)
  | .tup _ => none
  | d => vwC H d
def vwVs (H : List Ob) : List D → Option (List D × List Nat)
  | [] => some ([], [])
  | d :: ds => match vwV H d, vwVs H ds with | some (e, m), some (es, ms) => some (e :: es, m ++ ms) | _, _ => none

def Seen (Θ : Nat → Nat) (ms : List Nat) (b : Nat) : Prop := Θ b = 0 ∨ ∃ m ∈ ms, Θ b = m + 2

theorem Seen.mono {ms ns : List Nat} {b : Nat} (h : Seen Θ ms b) (hs : ∀ m ∈ ms, m ∈ ns) : Seen Θ ns b := by
  rcases h with h | ⟨m, h1, h2⟩
  · exact .inl h
  · exact .inr ⟨m, hs m h1, h2⟩

theorem vwC_rd (hs : Sim Γ st κ Θ a w) {v : Value} {d e : D} {bs : List Nat} {ms : List Nat} (h : vwC st.H d = some (e, ms)) (hr : RdC w κ v d bs) (hz : ∀ b ∈ bs, Θ b = 0) : ∃ b', Rd w v e b' ∧ ∀ b ∈ b', Seen Θ ms b := by
  cases hr with
  | pure hr =>
    have : vwC st.H d = some (d.softC, []) := by cases hr <;> rfl
    rw [this] at h; cases h
    exact ⟨bs, hr.soft, fun b hb => .inl (hz b hb)⟩
  | acc m _ hk =>
    simp only [vwC] at h
    split at h
    · rename_i k e' sz rows hH
      cases h
      obtain ⟨_, hrl, v2, cs, b2, hk2, hown, hrs, hΘ, hd⟩ := hs.ob m _ hH
      rw [hk] at hk2; cases hk2
      refine ⟨_, ownsRow_rd hrl hown hrs, fun b hb => ?_⟩
      rcases List.mem_append.1 hb with hb | hb
      · simp only [Option.mem_toList] at hb
        exact .inr ⟨m, by simp, hΘ b hb⟩
      · cases k with
        | cl => exact .inr ⟨m, by simp, (hd.2.1 b hb).1⟩
        | sh => exact .inl (hd b hb)
        | uq => exact .inl (hd b hb)
        | mv n => exact .inl (hd b hb)
        | ho p n => exact .inl (hd b hb)
    · rename_i sz rows u hH
      cases h
      obtain ⟨_, _, v2, b2, hk2, hrd, _, hbs⟩ := hs.ob m _ hH
      rw [hk] at hk2; cases hk2
      exact ⟨b2, hrd, fun b hb => .inr ⟨m, by simp, (hbs b hb).1⟩⟩
    · rename_i rows hH
      cases h
      obtain ⟨v2, b2, hk2, hrd, hz2⟩ := hs.ob m _ hH
      rw [hk] at hk2; cases hk2
      exact ⟨b2, hrd, fun b hb => .inl (hz2 b hb)⟩
    · cases h
  | ptr => simp [vwC] at h
  | op => simp [vwC] at h

theorem vwCs_rd (hs : Sim Γ st κ Θ a w) : ∀ {ds es : List D} {vs : List Value} {bs ms : List Nat}, vwCs st.H ds = some (es, ms) → RdCs w κ vs ds bs → (∀ b ∈ bs, Θ b = 0) → ∃ b', Rds w vs es b' ∧ ∀ b ∈ b', Seen Θ ms b := by
  intro ds
  induction ds with
  | nil =>
    intro es vs bs ms h hr _
    simp only [vwCs, Option.some.injEq, Prod.mk.injEq] at h; obtain ⟨rfl, rfl⟩ := h
    cases hr
    exact ⟨[], .nil, by simp⟩
  | cons d ds ih =>
    intro es vs bs ms h hr hz
    simp only [vwCs] at h
    split at h
    · rename_i e m es' ms' h1 h2
      cases h
      cases hr with
      | cons v vs _ _ b1 b2 hv hc hcs =>
        obtain ⟨c1, q1, q2⟩ := vwC_rd hs h1 hc (fun b hb => hz b (by simp [hb]))
        obtain ⟨c2, p1, p2⟩ := ih h2 hcs (fun b hb => hz b (by simp [hb]))
        refine ⟨c1 ++ c2, .cons _ _ _ _ _ _ hv q1 p1, fun b hb => ?_⟩
        rcases List.mem_append.1 hb with hb | hb
        · exact (q2 b hb).mono (fun m hm => by simp [hm])
        · exact (p2 b hb).mono (fun m hm => by simp [hm])
    · cases h

theorem vwV_rd (hs : Sim Γ st κ Θ a w) {v : Value} {d e : D} {bs ms : List Nat} (h : vwV st.H d = some (e, ms)) (hr : RdS w κ v d bs) (hz : ∀ b ∈ bs, Θ b = 0) : ∃ b', Rd w v e b' ∧ ∀ b ∈ b', Seen Θ ms b := by
  by_cases hagg : ∃ ds, d = .agg ds
  · obtain ⟨ds, rfl⟩ := hagg
    obtain ⟨cs, rfl, hcs⟩ := hr.agg_inv
    simp only [vwV] at h
    split at h
    · rename_i es ms' h1
      cases h
      obtain ⟨b', q1, q2⟩ := vwCs_rd hs h1 hcs hz
      exact ⟨b', .agg _ _ _ q1, q2⟩
    · cases h
  · have hc : RdC w κ v d bs := by
      cases hr with
      | v hr => cases hr with
        | cell hr => exact hr
        | agg => exact absurd ⟨_, rfl⟩ hagg
      | tup => simp [vwV] at h
    have e1 : vwV st.H d = vwC st.H d := by
      cases d <;> first | rfl | exact absurd ⟨_, rfl⟩ hagg | simp [vwV] at h
    rw [e1] at h
    exact vwC_rd hs h hc hz

theorem vwVs_rd (hs : Sim Γ st κ Θ a w) : ∀ {xs : List Operand} {es : List D} {ms : List Nat}, vwVs st.H (xs.map st.ev) = some (es, ms) → ∃ b', Rda w (xs.map a.eval) es b' ∧ ∀ b ∈ b', Seen Θ ms b := by
  intro xs
  induction xs with
  | nil =>
    intro es ms h
    simp only [List.map_nil, vwVs, Option.some.injEq, Prod.mk.injEq] at h; obtain ⟨rfl, rfl⟩ := h
    exact ⟨[], .nil, by simp⟩
  | cons x xs ih =>
    intro es ms h
    simp only [List.map_cons, vwVs] at h
    split at h
    · rename_i e m es' ms' h1 h2
      cases h
      obtain ⟨b0, r0, z0⟩ := hs.ev x
      obtain ⟨c1, q1, q2⟩ := vwV_rd hs h1 r0 z0
      obtain ⟨c2, p1, p2⟩ := ih h2
      refine ⟨c1 ++ c2, .cons _ _ _ _ _ _ q1 p1, fun b hb => ?_⟩
      rcases List.mem_append.1 hb with hb | hb
      · exact (q2 b hb).mono (fun m hm => by simp [hm])
      · exact (p2 b hb).mono (fun m hm => by simp [hm])
    · cases h

/-! a result that is only looked into -/
/-- what an argument shows, be it handed over or not -/
def D.shC (d : D) : D := match d with
  | .fr _ _ rows => .sl rows
  | .fs _ _ rows => .sl rows
  | d => d
def D.shV (d : D) : D := match d with
  | .agg cs => .agg (cs.map D.shC)
  | d => d.shC

theorem ResCs.ofRds {w : World} : ∀ {ds : List D} {vs : List Value} {bs : List Nat}, Rds w vs ds bs → ResCs w vs ds bs [] [] := by
  intro ds
  induction ds with
  | nil => intro vs bs h; cases h; exact .nil
  | cons d ds ih =>
    intro vs bs h
    cases h with
    | cons v vs _ _ b1 b2 h1 h2 h3 => exact .cons _ _ _ _ _ _ [] [] [] [] h1 (.pure h2) (ih h3)
theorem ResC.shownIn {w : World} {v : Value} {d : D} {bs ts us : List Nat} (h : ResC w v d bs ts us) : ∃ b, Rd w v d.shC b ∧ ∀ x ∈ b, x ∈ bs ∨ x ∈ us := by
  cases h with
  | pure h =>
    have e : d.shC = d := by cases h <;> rfl
    exact ⟨_, e.symm ▸ h, fun x hx => .inl hx⟩
  | fr e sz rows cs ns h1 h2 h3 h4 h5 => exact ⟨_, ownsRow_rd h2 h3 h4.rd, fun x hx => .inr hx⟩
  | fs e sz rows cs ns h1 h2 h3 h4 h5 => exact ⟨_, ownsRow_rd h2 h3 h4, fun x hx => (List.mem_append.1 hx).symm⟩
theorem ResCs.shownIn {w : World} {vs : List Value} {ds : List D} {bs ts us : List Nat} (h : ResCs w vs ds bs ts us) : ∃ b, Rds w vs (ds.map D.shC) b ∧ ∀ x ∈ b, x ∈ bs ∨ x ∈ us := by
  induction h with
  | nil => exact ⟨_, .nil, by simp⟩
  | cons v vs d ds b1 b2 t1 t2 u1 u2 h1 h2 _ ih =>
    obtain ⟨b, q, s⟩ := h2.shownIn
    obtain ⟨b', q', s'⟩ := ih
    refine ⟨_, .cons _ _ _ _ _ _ h1 q q', fun x hx => ?_⟩
    rcases List.mem_append.1 hx with h | h
    · rcases s x h with h | h <;> simp [h]
    · rcases s' x h with h | h <;> simp [h]
theorem ResV.shownIn {w : World} {v : Value} {d : D} {bs ts us : List Nat} (h : ResV w v d bs ts us) : ∃ b, Rd w v d.shV b ∧ ∀ x ∈ b, x ∈ bs ∨ x ∈ us := by
  cases h with
  | cell h =>
    by_cases hagg : ∃ ds, d = .agg ds
    · obtain ⟨ds, rfl⟩ := hagg
      cases h with
      | pure h => cases h with
        | agg cs _ _ h =>
          obtain ⟨b, q, s⟩ := (ResCs.ofRds h).shownIn
          exact ⟨_, .agg _ _ _ q, s⟩
    · have e : d.shV = d.shC := by cases d <;> first | rfl | exact absurd ⟨_, rfl⟩ hagg
      rw [e]
      exact h.shownIn
  | agg cs ds bs ts us h =>
    obtain ⟨b, q, s⟩ := h.shownIn
    exact ⟨_, .agg _ _ _ q, s⟩
/-- nothing in it is shared -/
def D.ownC (d : D) : Bool := match d with
  | .fr _ _ _ => true
  | d => d.flat
def D.ownV (d : D) : Bool := match d with
  | .agg cs => cs.all D.ownC
  | d => d.ownC
def D.ownS (d : D) : Bool := match d with
  | .tup vs => vs.all D.ownV
  | d => d.ownV

/-- nothing in it is shared, and it is one value -/
def D.ownT (d : D) : Bool := match d with
  | .tup _ => false
  | d => d.ownV
theorem ResC.own {v : Value} {d : D} {bs ts us : List Nat} (h : ResC w v d bs ts us) (ho : d.ownC = true) : bs = [] := by
  cases h with
  | pure h => exact h.flat (by cases h <;> exact ho)
  | fr => rfl
  | fs => cases ho
theorem ResCs.own {vs : List Value} {ds : List D} {bs ts us : List Nat} (h : ResCs w vs ds bs ts us) (ho : ds.all D.ownC = true) : bs = [] := by
  induction h with
  | nil => rfl
  | cons v vs d ds b1 b2 t1 t2 u1 u2 h1 h2 _ ih =>
    simp only [List.all_cons, Bool.and_eq_true] at ho
    rw [h2.own ho.1, ih ho.2]; rfl
theorem ResV.own {v : Value} {d : D} {bs ts us : List Nat} (h : ResV w v d bs ts us) (ho : d.ownV = true) : bs = [] := by
  cases h with
  | cell h =>
    by_cases hagg : ∃ ds, d = .agg ds
    · obtain ⟨ds, rfl⟩ := hagg
      cases h with
      | pure h =>
        cases h with
        | agg cs _ _ h =>
          simp only [D.ownV] at ho
          have : ∀ (es : List D) (vs : List Value) (b : List Nat), Rds w vs es b → es.all D.ownC = true → es.all D.flat = true := by
            intro es
            induction es with
            | nil => intros; rfl
            | cons e es ih =>
              intro vs b hh ho
              simp only [List.all_cons, Bool.and_eq_true] at ho ⊢
              cases hh with
              | cons v vs _ _ b1 b2 _ h2 h3 => exact ⟨by cases h2 <;> exact ho.1, ih _ _ h3 ho.2⟩
          exact Rds.flat h (this _ _ _ h ho)
    · have e : d.ownV = d.ownC := by cases d <;> first | rfl | exact absurd ⟨_, rfl⟩ hagg
      exact h.own (e ▸ ho)
  | agg cs ds bs ts us h => exact h.own ho
theorem ResVs.own {vs : List Value} {ds : List D} {bs ts us : List Nat} (h : ResVs w vs ds bs ts us) (ho : ds.all D.ownV = true) : bs = [] := by
  induction h with
  | nil => rfl
  | cons v vs d ds b1 b2 t1 t2 u1 u2 h2 _ ih =>
    simp only [List.all_cons, Bool.and_eq_true] at ho
    rw [h2.own ho.1, ih ho.2]; rfl
theorem ResS.own {v : Value} {d : D} {bs ts us : List Nat} (h : ResS w v d bs ts us) (ho : d.ownS = true) : bs = [] := by
  cases h with
  | v h =>
    have hnt : ∀ vs, d ≠ .tup vs := by
      intro vs e; subst e
      cases h with
      | cell h => cases h with | pure h => cases h
    have e : d.ownS = d.ownV := by cases d <;> first | rfl | exact absurd rfl (hnt _)
    exact h.own (e ▸ ho)
  | tup vs ds bs ts us h => exact h.own ho

theorem run_call {o : Oper} {f : FuncId} {xs : Array Operand} {ts : Array TypeId} (hop : o.op = .call { callee := .value (.func f), args := xs, argTypes := ts })
    (hf : ∃ fn, P.funcs[f]? = some fn ∧ fn.body.isSome = true ∧ (fn.name == "runtime.NumGoroutine") = false) :
    (execOp a.eval o).run P w = .ok (.enter f (xs.map a.eval)) w := by
  obtain ⟨fn, h1, h2, h3⟩ := hf
  have h2' : ¬ fn.body = none := by intro hb; simp [hb] at h2
  simp only [beq_eq_false_iff_ne, ne_eq] at h3
  simp [execOp, hop, resolve, Deferred.ofValue, Act.eval, invoke, callFunc, h1, h2', h3]


/-- what a call leaves -/
theorem call_wpA {Q' : Exit → Act → World → Prop} {K : Act → World → Prop} {o : Oper} {f t : Nat} {xs : Array Operand} {ts : Array TypeId} {ds : List D} {ms : List Nat} {d : D} (hs : Sim Γ st κ Θ a w)
    (hop : o.op = .call { callee := .value (.func f), args := xs, argTypes := ts }) (hd : o.dst = some t) (ht : t < Γ.nt) (hds : ∃ bs, Rda w (xs.toList.map a.eval) ds bs ∧ ∀ b ∈ bs, Seen Θ ms b) (hsh : ms = [] ∨ d.ownS = true)
    (hgood : Good P f ds d) (hK : ∀ κ' Θ' a' w', Sim Γ ⟨(t, (instS st.H.length d).1) :: st.σ, st.H ++ (instS st.H.length d).2⟩ κ' Θ' a' w' → K a' w') : o.wp P a w K Q' := by
  obtain ⟨bs, hargs, hz⟩ := hds
  let Θc : Nat → Nat := fun b => if Θ b = 0 ∨ ms.any (fun m => Θ b == m + 2) then 0 else 1
  have hseen : ∀ b, Seen Θ ms b → Θc b = 0 := by
    intro b h
    simp only [Θc]
    rw [if_pos]
    rcases h with h | ⟨m, h1, h2⟩
    · exact .inl h
    · exact .inr (List.any_eq_true.2 ⟨m, h1, by simp [h2]⟩)
  have hc := hgood.2 w Θc _ bs hs.vok hargs (fun b hb => hseen b (hz b hb)) (fun b hb => hs.own b (fun e => hb (hseen b (.inl e)))) (fun b => by simp only [Θc]; split <;> omega)
  unfold Oper.wp
  rw [run_call hop hgood.1, Oper.upon_enter]
  have e : xs.map a.eval = (xs.toList.map a.eval).toArray := by rw [← Array.toList_map, Array.toArray_toList]
  rw [e]
  refine hc.mono ?_
  rintro e w' ⟨v, bs', tb, ub, rfl, hb, hr, hz', htb, hnd, hfr, hsub⟩
  show K (a.put o.dst v) w'
  rw [hd]
  obtain ⟨L, q1, q2, q3, q4, q6, q5⟩ := hr.inst st.H.length
  have hbz : ∀ b ∈ bs', Θ b = 0 := fun b hb' => ?_
  obtain ⟨κ', Θ', hs', hnm, _, hno⟩ := hs.install hb L q2 (q3 ▸ hnd) (fun b hb' => hfr b (q3 ▸ hb')) (fun x hx hx' b hb' => ⟨hbz b (q6 x hx hx' b hb'), q4 ▸ htb b (q6 x hx hx' b hb')⟩)
  rw [q1] at hs'
  obtain ⟨b0, hr0, hsub0⟩ := q5 κ' hnm
  refine hK κ' Θ' _ w' (hs'.set (t := t) ht hr0 fun b hb' => ?_)
  · rw [hno b (q4 ▸ htb b (hsub0 b hb'))]; exact hbz b (hsub0 b hb')
  rcases hsh with hms | hown
  · by_cases hlt : b < w.heap.size
    · have h0 := hz' b hb' hlt
      simp only [Θc, hms, List.any_nil] at h0
      by_cases h1 : Θ b = 0
      · exact h1
      · simp [h1] at h0
    · by_cases h0 : Θ b = 0
      · exact h0
      · exact absurd (hs.own b h0) hlt
  · rw [hr.own hown] at hb'; cases hb'

theorem call_wp {Q' : Exit → Act → World → Prop} {K : Act → World → Prop} {o : Oper} {f t : Nat} {xs : Array Operand} {ts : Array TypeId} {ds : List D} {ms : List Nat} {d : D} (hs : Sim Γ st κ Θ a w)
    (hop : o.op = .call { callee := .value (.func f), args := xs, argTypes := ts }) (hd : o.dst = some t) (ht : t < Γ.nt) (hds : vwVs st.H (xs.toList.map st.ev) = some (ds, ms)) (hsh : ms = [] ∨ d.ownS = true)
    (hgood : Good P f ds d) (hK : ∀ κ' Θ' a' w', Sim Γ ⟨(t, (instS st.H.length d).1) :: st.σ, st.H ++ (instS st.H.length d).2⟩ κ' Θ' a' w' → K a' w') : o.wp P a w K Q' :=
  call_wpA hs hop hd ht (vwVs_rd hs hds) hsh hgood hK

/-- arguments that hold no names are seen as they are -/
def keepV (d : D) : Bool := match d with
  | .agg cs => cs.all D.isP
  | .tup _ => false
  | d => d.isP
theorem keepV_rd {v : Value} {d : D} {bs : List Nat} (hr : RdS w κ v d bs) (h : keepV d = true) : Rd w v d bs := by
  by_cases hagg : ∃ ds, d = .agg ds
  · obtain ⟨ds, rfl⟩ := hagg
    obtain ⟨cs, rfl, hcs⟩ := hr.agg_inv
    exact .agg _ _ _ (hcs.pure h)
  · have hp : d.isP = true := by
      cases d <;> first | exact h | exact absurd ⟨_, rfl⟩ hagg | simp [keepV] at h
    cases hr with
    | v hr => cases hr with
      | cell hr => cases hr with
        | pure hr => exact hr
        | acc => simp [D.isP] at hp
        | ptr => simp [D.isP] at hp
        | op => simp [D.isP] at hp
      | agg => exact absurd ⟨_, rfl⟩ hagg
    | tup => simp [keepV] at h
theorem keepVs_rd (hs : Sim Γ st κ Θ a w) : ∀ {xs : List Operand}, (xs.map st.ev).all keepV = true → ∃ b', Rda w (xs.map a.eval) (xs.map st.ev) b' ∧ ∀ b ∈ b', Seen Θ [] b := by
  intro xs
  induction xs with
  | nil => intro _; exact ⟨[], .nil, by simp⟩
  | cons x xs ih =>
    intro h
    simp only [List.map_cons, List.all_cons, Bool.and_eq_true] at h
    obtain ⟨b0, r0, z0⟩ := hs.ev x
    obtain ⟨c2, p1, p2⟩ := ih h.2
    refine ⟨b0 ++ c2, .cons _ _ _ _ _ _ (keepV_rd r0 h.1) p1, fun b hb => ?_⟩
    rcases List.mem_append.1 hb with hb | hb
    · exact .inl (z0 b hb)
    · exact p2 b hb
theorem AO_callK {o : Oper} {f t : Nat} {xs : Array Operand} {ts : Array TypeId} {d : D} (hop : o.op = .call { callee := .value (.func f), args := xs, argTypes := ts }) (hd : o.dst = some t) (hg : o.guard = none)
    (ht : t < Γ.nt) (hk : (xs.toList.map st.ev).all keepV = true) (hgood : Good P f (xs.toList.map st.ev) d)
    (h : AO P Γ all rest Q ⟨(t, (instS st.H.length d).1) :: st.σ, st.H ++ (instS st.H.length d).2⟩) : AO P Γ all (o :: rest) Q st := by
  intro κ Θ a w hs
  exact wpList_plain hg fun K hK => call_wpA hs hop hd ht (keepVs_rd hs hk) (.inl rfl) hgood fun κ' Θ' a' w' hs' => hK _ _ (h κ' Θ' a' w' hs')

theorem AO_call {o : Oper} {f t : Nat} {xs : Array Operand} {ts : Array TypeId} {ds : List D} {ms : List Nat} {d : D} (hop : o.op = .call { callee := .value (.func f), args := xs, argTypes := ts }) (hd : o.dst = some t) (hg : o.guard = none)
    (ht : t < Γ.nt) (hds : vwVs st.H (xs.toList.map st.ev) = some (ds, ms)) (hsh : ms = [] ∨ d.ownS = true) (hgood : Good P f ds d)
    (h : AO P Γ all rest Q ⟨(t, (instS st.H.length d).1) :: st.σ, st.H ++ (instS st.H.length d).2⟩) : AO P Γ all (o :: rest) Q st := by
  intro κ Θ a w hs
  exact wpList_plain hg fun K hK => call_wp hs hop hd ht hds hsh hgood fun κ' Θ' a' w' hs' => hK _ _ (h κ' Θ' a' w' hs')

/-! what a function hands back -/
def resD (P : Program) (st : St) : ResultVar → Option D
  | .tmp t => some (lk st.σ t)
  | .cell x T => match tagg P T, lk st.σ x with
    | some ag, .ptr id off => (match (st.H[id]?).bind Ob.cs? with | some cells => pload ag (tsz P T) cells off | none => none)
    | _, _ => none
def resDs (P : Program) (st : St) : List ResultVar → Option (List D)
  | [] => some []
  | r :: rs => match resD P st r, resDs P st rs with | some d, some ds => some (d :: ds) | _, _ => none

def resF (tmps : Array Value) : ResultVar → Sem Value
  | .tmp t => pure (tmps.getD t undef)
  | .cell a t => do loadVar t (← asAddr (tmps.getD a undef))

theorem results_eq (fn : Func) (tmps : Array Value) : results fn tmps = (do let vs ← fn.results.mapM (resF tmps); pure (if h : vs.size = 1 then vs[0] else .tuple vs)) := by
  unfold results
  congr 1

theorem resD_run (hs : Sim Γ st κ Θ a w) {r : ResultVar} {d : D} (h : resD P st r = some d) :
    ∃ v bs, (resF a.tmps r).run P w = .ok v w ∧ RdS w κ v d bs ∧ ∀ b ∈ bs, Θ b = 0 := by
  cases r with
  | tmp t =>
    simp only [resD, Option.some.injEq] at h
    subst h
    obtain ⟨bs, hr, hz⟩ := hs.slot t
    exact ⟨_, bs, by simp [resF], hr, hz⟩
  | cell x T =>
    have hp : pv P st (.load T (.tmp x)) = some d := by
      simp only [resD] at h
      split at h
      · rename_i ag id off h1 h2
        simp only [pv, h1, St.ev, h2]
        exact h
      · cases h
    obtain ⟨v, bs, hrun, hr, hz⟩ := load_gives (o := { (default : Oper) with op := .load T (.tmp x) }) hs rfl hp
    refine ⟨v, bs, ?_, hr, hz⟩
    simp only [execOp, Act.eval] at hrun
    have hptr : ∃ b off, a.tmps.getD x undef = .pointer (some ⟨b, off, none⟩) := by
      simp only [resD] at h
      split at h
      · rename_i ag id off h1 h2
        obtain ⟨b0, r0, _⟩ := hs.slot x
        rw [h2] at r0
        obtain ⟨g, _, hv⟩ := r0.ptr_inv
        exact ⟨g, off, hv⟩
      · cases h
    obtain ⟨b, off, hv⟩ := hptr
    simp only [resF, hv] at hrun ⊢
    simp only [Instr.loadAt, Instr.sureAddr, Sem.run_bind, Sem.run_pure, Result.andThen_ok] at hrun
    simp only [asAddr, Sem.run_bind, Sem.run_pure, Result.andThen_ok]
    cases hl : (loadVar T ⟨b, off, none⟩).run P w with
    | ok u w1 => simp only [hl, Result.andThen_ok, Result.ok.injEq, Next.value.injEq] at hrun; rw [hrun.1, hrun.2]
    | halt u w1 => simp [hl] at hrun

theorem resDs_run (hs : Sim Γ st κ Θ a w) : ∀ {rs : List ResultVar} {ds : List D}, resDs P st rs = some ds →
    ∃ (vs : List Value) (bs : List Nat), (rs.mapM (resF a.tmps)).run P w = .ok vs w ∧
      vs.length = rs.length ∧ ds.length = rs.length ∧ (∀ (i : Nat) d, ds[i]? = some d → ∃ v b, vs[i]? = some v ∧ RdS w κ v d b ∧ ∀ x ∈ b, x ∈ bs) ∧ ∀ b ∈ bs, Θ b = 0 := by
  intro rs
  induction rs with
  | nil =>
    intro ds h
    simp only [resDs, Option.some.injEq] at h
    subst h
    exact ⟨[], [], by simp, rfl, rfl, by simp, by simp⟩
  | cons r rs ih =>
    intro ds h
    simp only [resDs] at h
    split at h
    · rename_i d ds' h1 h2
      cases h
      obtain ⟨v, b, k1, k2, k3⟩ := resD_run hs h1
      obtain ⟨vs, bs, m1, m2, m3, m4, m5⟩ := ih h2
      refine ⟨v :: vs, b ++ bs, ?_, by simp [m2], by simp [m3], ?_, ?_⟩
      · simp only [List.mapM_cons, Sem.run_bind, k1, Result.andThen_ok, m1, Sem.run_pure]
      · intro i x hx
        cases i with
        | zero => simp at hx; subst hx; exact ⟨v, b, by simp, k2, by intro y hy; simp [hy]⟩
        | succ i =>
          simp at hx
          obtain ⟨u, b', q1, q2, q3⟩ := m4 i x hx
          exact ⟨u, b', by simpa using q1, q2, fun y hy => by simp [q3 y hy]⟩
      · intro y hy
        rcases List.mem_append.1 hy with hy | hy
        · exact k3 y hy
        · exact m5 y hy
    · cases h

def packD : List D → D
  | [d] => d
  | ds => .tup ds

def args0 : Nat → List D → List (Nat × D)
  | _, [] => []
  | k, d :: ds => (k, d) :: args0 (k + 1) ds

theorem lk_args0 : ∀ (ds : List D) (k t : Nat), lk (args0 k ds) t = if t < k then .any else (ds[t - k]?).getD .any := by
  intro ds
  induction ds with
  | nil => intro k t; simp [args0, lk]
  | cons d ds ih =>
    intro k t
    simp only [args0, lk]
    by_cases h : t = k
    · subst h; simp
    · rw [if_neg h, ih]
      by_cases h1 : t < k
      · rw [if_pos (by omega), if_pos h1]
      · rw [if_neg (by omega), if_neg h1]
        have : t - k = (t - (k + 1)) + 1 := by omega
        rw [this, List.getElem?_cons_succ]

theorem Rda.at {vs : List Value} {ds : List D} {bs : List Nat} (h : Rda w vs ds bs) : vs.length = ds.length ∧ ∀ (i : Nat) d, ds[i]? = some d → ∃ v b, vs[i]? = some v ∧ Rd w v d b ∧ ∀ x ∈ b, x ∈ bs := by
  induction ds generalizing vs bs with
  | nil => cases h; exact ⟨rfl, by simp⟩
  | cons e ds ih =>
    cases h with
    | cons v vs _ _ b1 b2 h2 h3 =>
      obtain ⟨l, hi⟩ := ih h3
      refine ⟨by simp [l], fun i d hd => ?_⟩
      cases i with
      | zero => simp at hd; subst hd; exact ⟨v, b1, by simp, h2, by intro x hx; simp [hx]⟩
      | succ i =>
        simp at hd
        obtain ⟨u, b, k1, k3, k4⟩ := hi i d hd
        exact ⟨u, b, by simpa using k1, k3, fun x hx => by simp [k4 x hx]⟩

/-- some value shows d in some world -/
def Rdb (d : D) : Prop := ∃ w v bs, Rd w v d bs

theorem Rdb.str {s : Bytes} (h : Rdb (.str s)) : s.length ≤ maxLen := by
  obtain ⟨w, v, bs, h⟩ := h
  cases h with | str x hx => simpa using hx
theorem Rdb.int {k : IntKind} {n : Int} (h : Rdb (.int k n)) : InR k n := by
  obtain ⟨w, v, bs, h⟩ := h
  cases h with | int _ _ hx => exact hx
theorem Rds.rdb {vs : List Value} {ds : List D} {bs : List Nat} (h : Rds w vs ds bs) : ∀ d ∈ ds, Rdb d := by
  intro d hd
  obtain ⟨i, hi, rfl⟩ := List.mem_iff_getElem.1 hd
  obtain ⟨v, b, _, _, hr, _⟩ := h.at (List.getElem?_eq_getElem hi)
  exact ⟨w, v, b, hr⟩
theorem Rdb.agg {ds : List D} (h : Rdb (.agg ds)) : ∀ d ∈ ds, Rdb d := by
  obtain ⟨w, v, bs, h⟩ := h
  cases h with | agg cs _ _ hx => exact hx.rdb
theorem Rdb.sl {rows : List (List D)} (h : Rdb (.sl rows)) : rows.length ≤ maxLen ∧ ∀ r ∈ rows, ∀ d ∈ r, Rdb d := by
  obtain ⟨w, v, bs, h⟩ := h
  cases h with
  | slNil => simp
  | slEmpty => simp
  | sl b off cap sz _ cs bs hb h1 h2 h3 h4 h5 =>
    exact ⟨by omega, fun r hr d hd => h5.rdb d (List.mem_flatten.2 ⟨r, hr, hd⟩)⟩
theorem Rda.rdb {vs : List Value} {ds : List D} {bs : List Nat} (h : Rda w vs ds bs) : ∀ d ∈ ds, Rdb d := by
  intro d hd
  obtain ⟨i, hi, rfl⟩ := List.mem_iff_getElem.1 hd
  obtain ⟨v, b, _, hr, _⟩ := h.at.2 i _ (List.getElem?_eq_getElem hi)
  exact ⟨w, v, b, hr⟩


/-! what a function hands back of its own objects -/
def nilR (z : Option (Nat × Nat)) (d : D) : D := match d, z with
  | .nil, some (e, sz + 1) => .fr e (sz + 1) []
  | d, _ => d.softC
def retC (H : List Ob) (z : Option (Nat × Nat)) (d : D) : Option (D × List Nat × List Nat) := match d with
  | .acc m => (match H[m]? with | some (.row k e sz rows) => (match k with | .uq => some (.fr e sz rows, [], [m]) | .sh => (match z with | some (_, 0) => some (.fs e sz rows, [], [m]) | _ => some (.sl rows, [m], [])) | .cl => none | .mv _ => none | .ho _ _ => none) | _ => none)
  | .ptr _ _ => none
  | .op _ _ _ _ => none
  | .agg _ => none
  | .tup _ => none
  | d => some (nilR z d, [], [])
def retCs (H : List Ob) : List (Option (Nat × Nat)) → List D → Option (List D × List Nat × List Nat)
  | _, [] => some ([], [], [])
  | zs, d :: ds => match retC H (zs.head?.join) d, retCs H zs.tail ds with | some (e, m, q), some (es, ms, qs) => some (e :: es, m ++ ms, q ++ qs) | _, _ => none
def retV (H : List Ob) (zs : List (Option (Nat × Nat))) (d : D) : Option (D × List Nat × List Nat) := match d with
  | .agg cs => (match retCs H zs cs with | some (es, ms, qs) => some (.agg es, ms, qs) | none => none)
  | d => retC H (zs.head?.join) d
def retVs (H : List Ob) : List (List (Option (Nat × Nat))) → List D → Option (List D × List Nat × List Nat)
  | _, [] => some ([], [], [])
  | zs, d :: ds => match retV H (zs.head?.getD []) d, retVs H zs.tail ds with | some (e, m, q), some (es, ms, qs) => some (e :: es, m ++ ms, q ++ qs) | _, _ => none

def RetQ (P : Program) (fn : Func) (d : D) (e : Exit) (st : St) : Prop :=
  (e = .ret ∨ e = .normal) ∧ ∃ nz ds es ms qs, resDs P st fn.results.toList = some ds ∧ retVs st.H nz ds = some (es, ms, qs) ∧ ms.Nodup ∧ qs.Nodup ∧ (∀ m ∈ qs, m ∉ ms) ∧ packD es = d

structure RP (Θ ρ : Nat → Nat) (qs bs ts us : List Nat) : Prop where
  zero : ∀ b ∈ bs, Θ b = 0
  top : ∀ b ∈ ts, (∃ m ∈ qs, Θ b = m + 2) ∧ b ∈ us
  mem : ∀ b ∈ us, b ∈ ts ∨ ∃ m ∈ qs, ρ b = m + 1
  nd : us.Nodup

theorem RP.nil {ρ : Nat → Nat} {bs : List Nat} (h : ∀ b ∈ bs, Θ b = 0) : RP Θ ρ [] bs [] [] := ⟨h, by simp, by simp, by simp⟩
theorem RP.app {ρ : Nat → Nat} {q1 q2 b1 b2 t1 t2 u1 u2 : List Nat} (hf : ∀ b, ρ b ≠ 0 → Θ b = 0) (hq : (q1 ++ q2).Nodup) (h1 : RP Θ ρ q1 b1 t1 u1) (h2 : RP Θ ρ q2 b2 t2 u2) : RP Θ ρ (q1 ++ q2) (b1 ++ b2) (t1 ++ t2) (u1 ++ u2) := by
  refine ⟨fun b hb => ?_, fun b hb => ?_, fun b hb => ?_, List.nodup_append.2 ⟨h1.nd, h2.nd, fun x hx y hy e => ?_⟩⟩
  · rcases List.mem_append.1 hb with hb | hb
    · exact h1.zero b hb
    · exact h2.zero b hb
  · rcases List.mem_append.1 hb with hb | hb
    · obtain ⟨⟨m, p, q⟩, r⟩ := h1.top b hb; exact ⟨⟨m, by simp [p], q⟩, by simp [r]⟩
    · obtain ⟨⟨m, p, q⟩, r⟩ := h2.top b hb; exact ⟨⟨m, by simp [p], q⟩, by simp [r]⟩
  · rcases List.mem_append.1 hb with hb | hb
    · rcases h1.mem b hb with h | ⟨m, p, q⟩
      · exact .inl (by simp [h])
      · exact .inr ⟨m, by simp [p], q⟩
    · rcases h2.mem b hb with h | ⟨m, p, q⟩
      · exact .inl (by simp [h])
      · exact .inr ⟨m, by simp [p], q⟩
  · subst e
    have hd := (List.nodup_append.1 hq).2.2
    rcases h1.mem x hx with hx | ⟨m, p, q⟩
    · obtain ⟨⟨m, p, q⟩, _⟩ := h1.top x hx
      rcases h2.mem x hy with hy | ⟨m', p', q'⟩
      · obtain ⟨⟨m', p', q'⟩, _⟩ := h2.top x hy
        exact hd m p m' p' (by omega)
      · have := hf x (by omega); omega
    · rcases h2.mem x hy with hy | ⟨m', p', q'⟩
      · obtain ⟨⟨m', p', q'⟩, _⟩ := h2.top x hy
        have := hf x (by omega); omega
      · exact hd m p m' p' (by omega)

theorem nilR_res (z : Option (Nat × Nat)) {v : Value} {d : D} {b0 : List Nat} (hr : Rd w v d b0) : ∃ bs, ResC w v (nilR z d) bs [] [] ∧ ∀ b ∈ bs, b ∈ b0 := by
  unfold nilR
  split
  · rename_i e sz
    cases hr
    refine ⟨[], ?_, by simp⟩
    have := ResC.fr (w := w) (.slice none 0 0) e (sz + 1) [] [] [] (Nat.succ_pos _) (by simp) (World.ownsRow_nil w 0 e (sz + 1)) (.nil _) rfl
    simpa [Value.ownBlock] using this
  · exact ⟨b0, .pure hr.soft, fun _ h => h⟩

section
variable {H : List Ob} {ρ : Nat → Nat} (hf : ∀ b, ρ b ≠ 0 → Θ b = 0)
  (hq : ∀ m e sz rows, H[m]? = some (.row .uq e sz rows) → ∃ v cs ns, κ m = some v ∧ 0 < sz ∧ (∀ r ∈ rows, r.length = sz) ∧ w.ownsRow 0 e sz v rows.length cs ∧ RdF w (fcol e) 0 cs rows.flatten ns ∧ ns.Nodup ∧ (∀ b ∈ ns, ρ b = m + 1) ∧ ∀ g, v.ownBlock = some g → Θ g = m + 2)
  {M : List Nat} (hq2 : ∀ m e sz rows, m ∉ M → H[m]? = some (.row .sh e sz rows) → ∃ v cs ns, κ m = some v ∧ 0 < sz ∧ (∀ r ∈ rows, r.length = sz) ∧ w.ownsRow 0 e sz v rows.length cs ∧ Rds w cs rows.flatten ns ∧ (∀ b ∈ ns, Θ b = 0) ∧ ∀ g, v.ownBlock = some g → Θ g = m + 2)
include hf hq hq2
theorem retC_res {z : Option (Nat × Nat)} {d e : D} {ms qs : List Nat} {v : Value} {b0 : List Nat} (h : retC H z d = some (e, ms, qs)) (hM : ∀ m ∈ qs, m ∉ M) (hone : v.oneCell' = true) (hr : RdC w κ v d b0) (hz : ∀ b ∈ b0, Θ b = 0)
    (hm : ∀ m ∈ ms, ∀ k e sz rows, H[m]? = some (.row k e sz rows) → Melted κ Θ ρ w m k rows) : ∃ bs ts us, ResC w v e bs ts us ∧ RP Θ ρ qs bs ts us := by
  cases hr with
  | pure hr =>
    have : retC H z d = some (nilR z d, [], []) := by cases hr <;> first | rfl | simp [retC] at h
    rw [this] at h; cases h
    obtain ⟨bs, hb, hz'⟩ := nilR_res z hr
    exact ⟨bs, [], [], hb, RP.nil (fun b hb' => hz b (hz' b hb'))⟩
  | acc m _ hk =>
    simp only [retC] at h
    split at h
    · rename_i k e' sz rows hH
      split at h
      · cases h
        obtain ⟨v2, cs, ns, r1, r2, r3, r4, r5, r6, r7, r8⟩ := hq m _ _ _ hH
        rw [hk] at r1; cases r1
        refine ⟨[], _, _, .fr v _ _ _ cs ns r2 r3 r4 r5 hone, by simp, fun b hb => ?_, fun b hb => ?_, ?_⟩
        · simp only [Option.mem_toList] at hb
          exact ⟨⟨m, by simp, r8 b hb⟩, by simp [hb]⟩
        · rcases List.mem_append.1 hb with hb | hb
          · exact .inl hb
          · exact .inr ⟨m, by simp, r7 b hb⟩
        · refine List.nodup_append.2 ⟨by cases v.ownBlock <;> simp, r6, fun x hx y hy exy => ?_⟩
          subst exy
          simp only [Option.mem_toList] at hx
          have h1 := r8 x hx
          have h2 := hf x (by rw [r7 x hy]; omega)
          omega
      · split at h
        · cases h
          obtain ⟨v2, cs, ns, r1, r2, r3, r4, r5, r6, r7⟩ := hq2 m _ _ _ (hM m (by simp)) hH
          rw [hk] at r1; cases r1
          refine ⟨_, _, _, .fs v _ _ _ cs ns r2 r3 r4 r5 hone, r6, fun b hb => ?_, fun b hb => .inl hb, by cases v.ownBlock <;> simp⟩
          simp only [Option.mem_toList] at hb
          exact ⟨⟨m, by simp, r7 b hb⟩, by simp [hb]⟩
        · cases h
          obtain ⟨v2, bs, r1, r2, r3, _⟩ := hm m (by simp) _ _ _ _ hH
          rw [hk] at r1; cases r1
          exact ⟨bs, [], [], .pure r2, RP.nil r3⟩
      · cases h
      · cases h
      · cases h
    · cases h
  | ptr => simp [retC] at h
  | op => simp [retC] at h

theorem retCs_res : ∀ {ds es : List D} {zs : List (Option (Nat × Nat))} {ms qs : List Nat} {vs : List Value} {b0 : List Nat}, retCs H zs ds = some (es, ms, qs) → (∀ m ∈ qs, m ∉ M) → qs.Nodup → RdCs w κ vs ds b0 → (∀ b ∈ b0, Θ b = 0) →
    (∀ m ∈ ms, ∀ k e sz rows, H[m]? = some (.row k e sz rows) → Melted κ Θ ρ w m k rows) → ∃ bs ts us, ResCs w vs es bs ts us ∧ RP Θ ρ qs bs ts us := by
  intro ds
  induction ds with
  | nil =>
    intro es zs ms qs vs b0 h _ _ hr _ _
    simp only [retCs, Option.some.injEq, Prod.mk.injEq] at h; obtain ⟨rfl, rfl, rfl⟩ := h
    cases hr
    exact ⟨[], [], [], .nil, RP.nil (by simp)⟩
  | cons d ds ih =>
    intro es zs ms qs vs b0 h hM hnd hr hz hm
    simp only [retCs] at h
    split at h
    · rename_i e m q es' ms' qs' h1 h2
      cases h
      cases hr with
      | cons v vs _ _ b1 b2 hv hc hcs =>
        obtain ⟨c1, t1, u1, q1, q2⟩ := retC_res hf hq hq2 h1 (fun x hx => hM x (by simp [hx])) hv hc (fun b hb => hz b (by simp [hb])) (fun x hx => hm x (by simp [hx]))
        obtain ⟨c2, t2, u2, p1, p2⟩ := ih h2 (fun x hx => hM x (by simp [hx])) (List.nodup_append.1 hnd).2.1 hcs (fun b hb => hz b (by simp [hb])) (fun x hx => hm x (by simp [hx]))
        exact ⟨_, _, _, .cons _ _ _ _ _ _ _ _ _ _ hv q1 p1, RP.app hf hnd q2 p2⟩
    · cases h

theorem retV_res (hk1 : ∀ (i : Nat) u, κ i = some u → u.oneCell' = true) {zs : List (Option (Nat × Nat))} {d e : D} {ms qs : List Nat} {v : Value} {b0 : List Nat} (h : retV H zs d = some (e, ms, qs)) (hM : ∀ m ∈ qs, m ∉ M) (hnd : qs.Nodup) (hr : RdS w κ v d b0) (hz : ∀ b ∈ b0, Θ b = 0)
    (hm : ∀ m ∈ ms, ∀ k e sz rows, H[m]? = some (.row k e sz rows) → Melted κ Θ ρ w m k rows) : ∃ bs ts us, ResV w v e bs ts us ∧ RP Θ ρ qs bs ts us := by
  by_cases hagg : ∃ ds, d = .agg ds
  · obtain ⟨ds, rfl⟩ := hagg
    obtain ⟨cs, rfl, hcs⟩ := hr.agg_inv
    simp only [retV] at h
    split at h
    · rename_i es ms' qs' h1
      cases h
      obtain ⟨bs, ts, us, q1, q2⟩ := retCs_res hf hq hq2 h1 hM hnd hcs hz hm
      exact ⟨bs, ts, us, .agg _ _ _ _ _ q1, q2⟩
    · cases h
  · have e1 : retV H zs d = retC H (zs.head?.join) d := by cases d <;> first | rfl | exact absurd ⟨_, rfl⟩ hagg
    rw [e1] at h
    have hc : RdC w κ v d b0 := by
      cases hr with
      | v hr => cases hr with
        | cell hr => exact hr
        | agg => exact absurd ⟨_, rfl⟩ hagg
      | tup => simp [retC] at h
    cases hc with
    | pure hr =>
      have : retC H (zs.head?.join) d = some (nilR (zs.head?.join) d, [], []) := by cases hr <;> first | rfl | simp [retC] at h
      rw [this] at h; cases h
      obtain ⟨bs, hb, hz'⟩ := nilR_res (zs.head?.join) hr
      exact ⟨bs, [], [], .cell hb, RP.nil (fun b hb' => hz b (hz' b hb'))⟩
    | acc m _ hk =>
      obtain ⟨bs, ts, us, q1, q2⟩ := retC_res hf hq hq2 h hM (hk1 _ _ hk) (.acc m _ hk) (by simp) hm
      exact ⟨bs, ts, us, .cell q1, q2⟩
    | ptr => simp [retC] at h
    | op => simp [retC] at h

theorem retVs_res (hk1 : ∀ (i : Nat) u, κ i = some u → u.oneCell' = true) : ∀ {ds es : List D} {zs : List (List (Option (Nat × Nat)))} {ms qs : List Nat} {vs : List Value}, retVs H zs ds = some (es, ms, qs) → (∀ m ∈ qs, m ∉ M) → qs.Nodup → vs.length = ds.length →
    (∀ (i : Nat) d, ds[i]? = some d → ∃ v b, vs[i]? = some v ∧ RdS w κ v d b ∧ ∀ x ∈ b, Θ x = 0) →
    (∀ m ∈ ms, ∀ k e sz rows, H[m]? = some (.row k e sz rows) → Melted κ Θ ρ w m k rows) → ∃ bs ts us, ResVs w vs es bs ts us ∧ RP Θ ρ qs bs ts us := by
  intro ds
  induction ds with
  | nil =>
    intro es zs ms qs vs h _ _ hl _ _
    simp only [retVs, Option.some.injEq, Prod.mk.injEq] at h; obtain ⟨rfl, rfl, rfl⟩ := h
    cases vs with
    | nil => exact ⟨[], [], [], .nil, RP.nil (by simp)⟩
    | cons => simp at hl
  | cons d ds ih =>
    intro es zs ms qs vs h hM hnd hl hr hm
    simp only [retVs] at h
    split at h
    · rename_i e m q es' ms' qs' h1 h2
      cases h
      cases vs with
      | nil => simp at hl
      | cons v vs =>
        obtain ⟨v', b0, hv', hr0, hz0⟩ := hr 0 d rfl
        simp at hv'; subst hv'
        obtain ⟨c1, t1, u1, q1, q2⟩ := retV_res hf hq hq2 hk1 h1 (fun x hx => hM x (by simp [hx])) (List.nodup_append.1 hnd).1 hr0 hz0 (fun x hx => hm x (by simp [hx]))
        obtain ⟨c2, t2, u2, p1, p2⟩ := ih h2 (fun x hx => hM x (by simp [hx])) (List.nodup_append.1 hnd).2.1 (by simpa using hl) (fun i d' hd' => by
          obtain ⟨v', b, k1, k2⟩ := hr (i + 1) d' (by simpa using hd')
          exact ⟨v', b, by simpa using k1, k2⟩) (fun x hx => hm x (by simp [hx]))
        exact ⟨_, _, _, .cons _ _ _ _ _ _ _ _ _ _ q1 p1, RP.app hf hnd q2 p2⟩
    · cases h
end

theorem retC_melts {H : List Ob} {z : Option (Nat × Nat)} {d e : D} {ms qs : List Nat} (h : retC H z d = some (e, ms, qs)) : (∀ m ∈ ms, ∃ e sz rows, H[m]? = some (.row .sh e sz rows)) ∧ ∀ m ∈ qs, ∃ k e sz rows, H[m]? = some (.row k e sz rows) := by
  cases d with
  | acc m =>
    simp only [retC] at h
    split at h
    · rename_i k e' sz rows hH
      split at h
      · cases h; exact ⟨by simp, fun m' hm' => by simp at hm'; subst hm'; exact ⟨_, _, _, _, hH⟩⟩
      · split at h
        · cases h; exact ⟨by simp, fun m' hm' => by simp at hm'; subst hm'; exact ⟨_, _, _, _, hH⟩⟩
        · cases h; exact ⟨fun m' hm' => by simp at hm'; subst hm'; exact ⟨_, _, _, hH⟩, by simp⟩
      · cases h
      · cases h
      · cases h
    · cases h
  | _ => simp [retC] at h <;> (try (obtain ⟨_, rfl, rfl⟩ := h; simp))
theorem retCs_melts {H : List Ob} : ∀ {ds es : List D} {zs : List (Option (Nat × Nat))} {ms qs : List Nat}, retCs H zs ds = some (es, ms, qs) → (∀ m ∈ ms, ∃ e sz rows, H[m]? = some (.row .sh e sz rows)) ∧ ∀ m ∈ qs, ∃ k e sz rows, H[m]? = some (.row k e sz rows) := by
  intro ds
  induction ds with
  | nil => intro es zs ms qs h; simp only [retCs, Option.some.injEq, Prod.mk.injEq] at h; obtain ⟨rfl, rfl, rfl⟩ := h; simp
  | cons d ds ih =>
    intro es zs ms qs h
    simp only [retCs] at h
    split at h
    · rename_i e m q es' ms' qs' h1 h2
      cases h
      have a1 := retC_melts h1
      have a2 := ih h2
      refine ⟨fun x hx => ?_, fun x hx => ?_⟩ <;> rcases List.mem_append.1 hx with hx | hx
      · exact a1.1 x hx
      · exact a2.1 x hx
      · exact a1.2 x hx
      · exact a2.2 x hx
    · cases h
theorem retV_melts {H : List Ob} {zs : List (Option (Nat × Nat))} {d e : D} {ms qs : List Nat} (h : retV H zs d = some (e, ms, qs)) : (∀ m ∈ ms, ∃ e sz rows, H[m]? = some (.row .sh e sz rows)) ∧ ∀ m ∈ qs, ∃ k e sz rows, H[m]? = some (.row k e sz rows) := by
  by_cases hagg : ∃ ds, d = .agg ds
  · obtain ⟨ds, rfl⟩ := hagg
    simp only [retV] at h
    split at h
    · rename_i es ms' qs' h1; cases h; exact retCs_melts h1
    · cases h
  · have e1 : retV H zs d = retC H (zs.head?.join) d := by cases d <;> first | rfl | exact absurd ⟨_, rfl⟩ hagg
    rw [e1] at h; exact retC_melts h
theorem retVs_melts {H : List Ob} : ∀ {ds es : List D} {zs : List (List (Option (Nat × Nat)))} {ms qs : List Nat}, retVs H zs ds = some (es, ms, qs) → (∀ m ∈ ms, ∃ e sz rows, H[m]? = some (.row .sh e sz rows)) ∧ ∀ m ∈ qs, ∃ k e sz rows, H[m]? = some (.row k e sz rows) := by
  intro ds
  induction ds with
  | nil => intro es zs ms qs h; simp only [retVs, Option.some.injEq, Prod.mk.injEq] at h; obtain ⟨rfl, rfl, rfl⟩ := h; simp
  | cons d ds ih =>
    intro es zs ms qs h
    simp only [retVs] at h
    split at h
    · rename_i e m q es' ms' qs' h1 h2
      cases h
      have a1 := retV_melts h1
      have a2 := ih h2
      refine ⟨fun x hx => ?_, fun x hx => ?_⟩ <;> rcases List.mem_append.1 hx with hx | hx
      · exact a1.1 x hx
      · exact a2.1 x hx
      · exact a1.2 x hx
      · exact a2.2 x hx
    · cases h

/-- A CONTRACT OUT OF AN ABSTRACT WALK -/
theorem Good.of {f : FuncId} {fn : Func} {c : Code} {ds : List D} {d : D} (hf : P.funcs[f]? = some fn) (hb : fn.body = some c) (hn : (fn.name == "runtime.NumGoroutine") = false)
    (hl : ds.length ≤ fn.ntmps) (h : (∀ d ∈ ds, Rdb d) → ∀ Γ : Ctx, Γ.nt = fn.ntmps → AW P Γ c (RetQ P fn d) ⟨args0 0 ds, []⟩) : Good P f ds d := by
  refine ⟨⟨fn, hf, by simp [hb], hn⟩, ?_⟩
  intro w Θ args bs hvs hargs hz hown h1
  obtain ⟨hlen, hat⟩ := hargs.at
  refine calls_of_wp hf hb ?_
  let Γ : Ctx := ⟨w, Θ, fun _ => False, fn.ntmps, fun _ => False, hvs⟩
  have hs : Sim Γ ⟨args0 0 ds, []⟩ (fun _ => none) Θ { tmps := args.toArray ++ Array.replicate (fn.ntmps - args.toArray.size) undef, defers := [] } w := by
    refine ⟨rfl, ?_, fun _ _ => rfl, by simp, ?_, by simp, hown, fun b _ _ => ⟨rfl, h1 b⟩, fun b hb => by have := h1 b; omega, ⟨rfl, rfl, rfl, Nat.le_refl _, fun _ _ _ => rfl⟩, ⟨fun _ => 0, by simp, by simp, by simp⟩⟩
    · simp [Γ]; omega
    · intro t
      rw [lk_args0]
      simp only [Nat.not_lt_zero, if_false, Nat.sub_zero]
      cases hd : ds[t]? with
      | none => exact ⟨[], .of (.any _), by simp⟩
      | some x =>
        obtain ⟨v, b, k1, k2, k3⟩ := hat t x hd
        refine ⟨b, ?_, fun y hy => hz y (k3 y hy)⟩
        have hlt : t < args.length := (List.getElem?_eq_some_iff.1 k1).1
        have : (args.toArray ++ Array.replicate (fn.ntmps - args.toArray.size) undef).getD t undef = v := by
          rw [Array.getD_eq_getD_getElem?, Array.getElem?_append_left (by simpa using hlt)]
          simp [k1]
        rw [this]
        exact .of k2
  refine wp_mono (h hargs.rdb Γ rfl _ _ _ _ hs) ?_
  rintro e a' w' ⟨st0, κ0, Θ0, hs0, hret, nz, ds0, es, ms, qs, hres, hrv, hms, hqs, hqm, rfl⟩
  obtain ⟨ρ0, hu0⟩ := hs0.uniq
  have hmel := retVs_melts hrv
  obtain ⟨Θ1, ρ1, hs1, hu1, hm1, hz1, hr1⟩ := Sim.meltAll ms hs0 hu0 hms (fun m hm => by
    obtain ⟨e, sz, rows, hH⟩ := hmel.1 m hm
    exact ⟨_, e, sz, rows, hH, rfl⟩)
  obtain ⟨vs, bs', m1, m2, m3, m4, m5⟩ := resDs_run hs0 hres
  have hq : ∀ m e sz rows, st0.H[m]? = some (.row .uq e sz rows) → ∃ v cs ns, κ0 m = some v ∧ 0 < sz ∧ (∀ r ∈ rows, r.length = sz) ∧ w'.ownsRow 0 e sz v rows.length cs ∧ RdF w' (fcol e) 0 cs rows.flatten ns ∧ ns.Nodup ∧ (∀ b ∈ ns, ρ1 b = m + 1) ∧ ∀ g, v.ownBlock = some g → Θ1 g = m + 2 := by
    intro m e sz rows hH
    have hnm : m ∉ ms := fun hm => by
      obtain ⟨e', sz', rows', hH'⟩ := hmel.1 m hm
      rw [hH] at hH'; cases hH'
    have hH1 : (kill st0.H ms)[m]? = some (.row .uq e sz rows) := by rw [kill_other hnm]; exact hH
    obtain ⟨v, cs, ns, r1, r2, r3, r4, r5⟩ := hu1.rows m e sz rows hH1
    obtain ⟨p1, p2, v2, _, _, p3, _, _, p4, _⟩ := hs1.ob m _ hH1
    rw [r1] at p3; cases p3
    exact ⟨v, cs, ns, r1, p1, p2, r2, r3, r4, r5, p4⟩
  have hq2 : ∀ m e sz rows, m ∉ ms → st0.H[m]? = some (.row .sh e sz rows) → ∃ v cs ns, κ0 m = some v ∧ 0 < sz ∧ (∀ r ∈ rows, r.length = sz) ∧ w'.ownsRow 0 e sz v rows.length cs ∧ Rds w' cs rows.flatten ns ∧ (∀ b ∈ ns, Θ1 b = 0) ∧ ∀ g, v.ownBlock = some g → Θ1 g = m + 2 := by
    intro m e sz rows hnm hH
    obtain ⟨p1, p2, v2, cs, ns, p3, p4, p5, p6, p7⟩ := hs1.ob m _ (show (kill st0.H ms)[m]? = _ by rw [kill_other hnm]; exact hH)
    exact ⟨v2, cs, ns, p3, p1, p2, p4, p5, p7, p6⟩
  obtain ⟨c, ts, us, hresv, hrp⟩ := retVs_res (w := w') (vs := vs) (fun b hb => (hu1.free b hb).1) hq hq2 hs0.kone hrv hqm hqs (by omega) (fun i d hd => by
    obtain ⟨v, b, k1, k2, k3⟩ := m4 i d hd
    exact ⟨v, b, k1, k2, fun x hx => hz1 x (m5 x (k3 x hx))⟩) hm1
  have hfin : ∃ v, (results fn a'.tmps).run P w' = .ok v w' ∧ ResS w' v (packD es) c ts us := by
    have hrun : (results fn a'.tmps).run P w' = .ok (if h : vs.toArray.size = 1 then vs.toArray[0] else .tuple vs.toArray) w' := by
      rw [results_eq, Array.mapM_eq_mapM_toList]
      simp [m1]
    cases hresv with
    | nil => exact ⟨.tuple #[], by simpa using hrun, .tup [] [] [] [] [] .nil⟩
    | cons v vs d es b1 b2 t1 t2 u1 u2 hv hrest =>
      cases hrest with
      | nil =>
        simp only [List.append_nil]
        exact ⟨v, by simpa using hrun, .v hv⟩
      | cons v2 vs d2 es b3 b4 t3 t4 u3 u4 hv2 hrest => exact ⟨.tuple (v :: v2 :: vs).toArray, by simpa using hrun, .tup _ _ _ _ _ (.cons _ _ _ _ _ _ _ _ _ _ hv (.cons _ _ _ _ _ _ _ _ _ _ hv2 hrest))⟩
  obtain ⟨v, hr1', hr2'⟩ := hfin
  have hbelow : Below w.heap.size w w' := ⟨hs1.stays.os, hs1.stays.tape, hs1.stays.output, hs1.stays.size, fun b hb => hs1.stays.block b hb (fun h => h)⟩
  have hmine : ∀ b, Mine Γ b → w.heap.size ≤ b := fun b h => by
    rcases h with h | h
    · exact h
    · exact h.elim
  have hwr : ∀ b ∈ us, w.heap.size ≤ b ∧ Wr w' b := by
    intro b hb'
    rcases hrp.mem b hb' with h | ⟨m, hm, hρ⟩
    · obtain ⟨⟨m, hm, hΘ⟩, _⟩ := hrp.top b h
      refine ⟨hmine b (hs1.mine b (by omega)), ?_⟩
      -- a first block: it lies in an object
      exact ResS_top hr2' b h
    · have := hu1.free b (by omega)
      exact ⟨this.2.1.elim (hmine b) False.elim, this.2.2⟩
  have post : a'.defers = [] ∧ ∃ v, (results fn a'.tmps).run P w' = .ok v w' ∧ ∃ u bs' ts us, Ending.returned v = .returned u ∧ Below w.heap.size w w' ∧ ResS w' u (packD es) bs' ts us ∧ (∀ b ∈ bs', b < w.heap.size → Θ b = 0) ∧ (∀ b ∈ bs', b ∉ ts) ∧ us.Nodup ∧
      (∀ b ∈ us, w.heap.size ≤ b ∧ Wr w' b) ∧ ∀ b ∈ ts, b ∈ us := by
    refine ⟨hs0.defers, v, hr1', v, c, ts, us, rfl, hbelow, hr2', fun b hb' hlt => ?_, fun b hb' ht => ?_, hrp.nd, hwr, fun b hb' => (hrp.top b hb').2⟩
    · have he : Θ1 b = Θ b := (hs1.old b hlt (fun h => h)).1
      rw [← he]; exact hrp.zero b hb'
    · obtain ⟨⟨m, _, hΘ⟩, _⟩ := hrp.top b ht
      have := hrp.zero b hb'
      omega
  rcases hret with rfl | rfl
  · exact post
  · exact post
end
end Go.Cx
