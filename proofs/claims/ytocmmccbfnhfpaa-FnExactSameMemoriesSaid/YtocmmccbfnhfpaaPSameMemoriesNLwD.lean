/- Comparing rules and networks, stamps and times, in plain words. No condition but bounds on sizes. -/
import Derived.Test.YtocmmccbfnhfpaaPSameMemoriesNLwC
namespace Go.Cx
open Go.RowKit Go.Proofs
set_option linter.unusedVariables false
set_option linter.unusedSimpArgs false
/-- loops that compare two lists of one length, element by element -/
theorem pairL {α β : Type} [DecidableEq β] {f : α → α → Option Bool} {g : α → β} {a b : List α} {k : Option Bool} {L : List α → Nat → Option Bool} (hl : a.length = b.length) (hnil : ∀ i, L [] i = k)
    (hcons : ∀ x xs i, L (x :: xs) i = (atI b (i : Int)).bind fun y => (f x y).bind fun r => bif !r then some false else L xs (i + 1)) (hf : ∀ x y, f x y = some (decide (g x = g y))) :
    L a 0 = bif decide (a.map g = b.map g) then k else some false := by
  have key : ∀ (ra rb pa pb : List α), a = pa ++ ra → b = pb ++ rb → pa.length = pb.length → L ra pa.length = bif decide (ra.map g = rb.map g) then k else some false := by
    intro ra
    induction ra with
    | nil =>
      intro rb pa pb h1 h2 h3
      rw [hnil]
      have : rb = [] := by
        have := congrArg List.length h1; have := congrArg List.length h2
        simp at *
        apply List.eq_nil_of_length_eq_zero; omega
      subst this; simp
    | cons x xs ih =>
      intro rb pa pb h1 h2 h3
      cases rb with
      | nil =>
        exfalso
        have := congrArg List.length h1; have := congrArg List.length h2
        simp at *
        omega
      | cons y ys =>
        have e1 : atI b (pa.length : Int) = some y := by rw [h3]; exact atI_mid h2
        rw [hcons, e1, Option.bind_some, hf, Option.bind_some]
        have := ih ys (pa ++ [x]) (pb ++ [y]) (by rw [h1]; simp) (by rw [h2]; simp) (by simp [h3])
        simp only [List.length_append, List.length_cons, List.length_nil] at this
        rw [this]
        by_cases hxy : g x = g y
        · simp [hxy]
        · simp [hxy]
  exact key a b [] [] rfl rfl rfl
theorem map_ne_len {α β : Type} {g : α → β} {a b : List α} (h : a.length ≠ b.length) : a.map g ≠ b.map g := fun e => h (by have := congrArg List.length e; simpa using this)
theorem len_dec {α : Type} {c : α → List D} (a b : List α) : ((((a.map c).length : Int) : Int) != (((b.map c).length : Int))) = !decide (a.length = b.length) := by
  rw [Bool.eq_iff_iff]; simp; omega
theorem map_id' {α : Type} (l : List α) : l.map (fun x => x) = l := by simp
theorem sSameR (a b : Rule) : d_spec_SameRule a b = some (decide (a = b)) := by
  have k2 : ∀ (k : Option Bool), a.acts.length = b.acts.length → d_spec_SameRule_L2 a b k a.acts 0 = bif decide (a.acts = b.acts) then k else some false := fun k hl => by
    have := pairL (g := fun x : Action => x) (f := fun x y : Action => bif x.kind != y.kind then some false else d_spec_SamePattern x.pat y.pat) (k := k) (L := d_spec_SameRule_L2 a b k) hl (fun _ => rfl) (fun x xs i => by
      rw [d_spec_SameRule_L2]; congr 1; funext y; cases (x.kind != y.kind) <;> rfl) (fun x y => by
      obtain ⟨x0, x1⟩ := x; obtain ⟨y0, y1⟩ := y
      simp only [sSameP, bne, beq_dec]
      by_cases h0 : x0 = y0 <;> by_cases h1 : x1 = y1 <;> simp [h0, h1])
    rw [map_id', map_id'] at this; exact this
  have k1 : ∀ (k : Option Bool), a.conds.length = b.conds.length → d_spec_SameRule_L1 a b k a.conds 0 = bif decide (a.conds = b.conds) then k else some false := fun k hl => by
    have := pairL (g := fun x : Cond => x) (f := d_spec_SameCond) (k := k) (L := d_spec_SameRule_L1 a b k) hl (fun _ => rfl) (fun _ _ _ => rfl) sSameC
    rw [map_id', map_id'] at this; exact this
  unfold d_spec_SameRule
  rw [len_dec, len_dec]
  obtain ⟨a0, a1, a2, a3⟩ := a; obtain ⟨b0, b1, b2, b3⟩ := b
  simp only at k1 k2 ⊢
  simp only [bne, beq_dec, Bool.not_not]
  by_cases h0 : a0 = b0
  rotate_left
  · simp [h0]
  by_cases h1 : a1 = b1
  rotate_left
  · simp [h1]
  by_cases h2 : a2.length = b2.length
  rotate_left
  · have : a2 ≠ b2 := fun e => h2 (by rw [e])
    simp [h2, this]
  by_cases h3 : a3.length = b3.length
  rotate_left
  · have : a3 ≠ b3 := fun e => h3 (by rw [e])
    simp [h3, this]
  rw [k1 _ h2, k2 _ h3]
  by_cases h4 : a2 = b2 <;> by_cases h5 : a3 = b3 <;> simp [h0, h1, h2, h3, h4, h5]
theorem iSameR (a b : Rule) : d_impl_SameRule a b = some (decide (a = b)) := by
  have k2 : ∀ (k : Option Bool), a.acts.length = b.acts.length → d_impl_SameRule_L2 a b k a.acts 0 = bif decide (a.acts = b.acts) then k else some false := fun k hl => by
    have := pairL (g := fun x : Action => x) (f := fun x y : Action => bif x.kind != y.kind then some false else d_impl_SamePattern x.pat y.pat) (k := k) (L := d_impl_SameRule_L2 a b k) hl (fun _ => rfl) (fun x xs i => by
      rw [d_impl_SameRule_L2]; congr 1; funext y; cases (x.kind != y.kind) <;> rfl) (fun x y => by
      obtain ⟨x0, x1⟩ := x; obtain ⟨y0, y1⟩ := y
      simp only [iSameP, bne, beq_dec]
      by_cases h0 : x0 = y0 <;> by_cases h1 : x1 = y1 <;> simp [h0, h1])
    rw [map_id', map_id'] at this; exact this
  have k1 : ∀ (k : Option Bool), a.conds.length = b.conds.length → d_impl_SameRule_L1 a b k a.conds 0 = bif decide (a.conds = b.conds) then k else some false := fun k hl => by
    have := pairL (g := fun x : Cond => x) (f := d_impl_SameCond) (k := k) (L := d_impl_SameRule_L1 a b k) hl (fun _ => rfl) (fun _ _ _ => rfl) iSameC
    rw [map_id', map_id'] at this; exact this
  unfold d_impl_SameRule
  rw [len_dec, len_dec]
  obtain ⟨a0, a1, a2, a3⟩ := a; obtain ⟨b0, b1, b2, b3⟩ := b
  simp only at k1 k2 ⊢
  simp only [bne, beq_dec, Bool.not_not]
  by_cases h0 : a0 = b0
  rotate_left
  · simp [h0]
  by_cases h1 : a1 = b1
  rotate_left
  · simp [h1]
  by_cases h2 : a2.length = b2.length
  rotate_left
  · have : a2 ≠ b2 := fun e => h2 (by rw [e])
    simp [h2, this]
  by_cases h3 : a3.length = b3.length
  rotate_left
  · have : a3 ≠ b3 := fun e => h3 (by rw [e])
    simp [h3, this]
  rw [k1 _ h2, k2 _ h3]
  by_cases h4 : a2 = b2 <;> by_cases h5 : a3 = b3 <;> simp [h0, h1, h2, h3, h4, h5]
theorem iSameRs (a b : List Rule) : d_impl_sameRules a b = some (decide (a = b)) := by
  unfold d_impl_sameRules
  exact eqL (c := Rule.c) (f := d_impl_SameRule) (fun k => d_impl_sameRules_L1 a b k) (fun _ _ => rfl) (fun _ _ _ _ => rfl) iSameR
theorem pair_dec (x y : Pair) : ((x.var : Bytes) == y.var && (x.value : Bytes) == y.value) = decide (x = y) := by
  obtain ⟨x0, x1⟩ := x; obtain ⟨y0, y1⟩ := y
  simp only [beq_dec]
  by_cases h0 : x0 = y0 <;> by_cases h1 : x1 = y1 <;> simp [h0, h1]
theorem sSameB (a b : List Pair) : d_spec_l6SameBinding a b = some (decide (a = b)) := by
  unfold d_spec_l6SameBinding
  exact eqL (c := Pair.c) (f := fun x y => some (decide (x = y))) (fun k => d_spec_l6SameBinding_L1 a b k) (fun _ _ => rfl) (fun k x xs i => by rw [d_spec_l6SameBinding_L1]; congr 1; funext y; rw [pair_dec]; rfl) (fun _ _ => rfl)
theorem iSameB (a b : List Pair) : d_impl_samePairs a b = some (decide (a = b)) := by
  unfold d_impl_samePairs
  exact eqL (c := Pair.c) (f := fun x y => some (decide (x = y))) (fun k => d_impl_samePairs_L1 a b k) (fun _ _ => rfl) (fun k x xs i => by rw [d_impl_samePairs_L1]; congr 1; funext y; rw [pair_dec]; rfl) (fun _ _ => rfl)
theorem sSameTo (a b : List Token) : d_spec_l7SameTokens a b = some (decide (a = b)) := by
  unfold d_spec_l7SameTokens
  exact eqL (c := Token.c) (f := fun x y => (d_spec_SameFacts x.facts y.facts).bind fun r => bif !r then some false else d_spec_l6SameBinding x.bind y.bind) (fun k => d_spec_l7SameTokens_L1 a b k) (fun _ _ => rfl) (fun k x xs i => by
    rw [d_spec_l7SameTokens_L1]; congr 1; funext y; rw [sSameFs, Option.bind_some, Option.bind_some]; cases decide (x.facts = y.facts) <;> rfl) (fun x y => by
    obtain ⟨x0, x1⟩ := x; obtain ⟨y0, y1⟩ := y
    simp only [sSameFs, sSameB, Option.bind_some]
    by_cases h0 : x0 = y0 <;> by_cases h1 : x1 = y1 <;> simp [h0, h1])
theorem iSameTo (a b : List Token) : d_impl_sameTokens a b = some (decide (a = b)) := by
  unfold d_impl_sameTokens
  exact eqL (c := Token.c) (f := fun x y => (d_impl_SameFacts x.facts y.facts).bind fun r => bif !r then some false else d_impl_samePairs x.bind y.bind) (fun k => d_impl_sameTokens_L1 a b k) (fun _ _ => rfl) (fun k x xs i => by
    rw [d_impl_sameTokens_L1]; congr 1; funext y; rw [iSameFs, Option.bind_some, Option.bind_some]; cases decide (x.facts = y.facts) <;> rfl) (fun x y => by
    obtain ⟨x0, x1⟩ := x; obtain ⟨y0, y1⟩ := y
    simp only [iSameFs, iSameB, Option.bind_some]
    by_cases h0 : x0 = y0 <;> by_cases h1 : x1 = y1 <;> simp [h0, h1])
/-- networks with one form: which shapes and which nodes -/
def formB (a b : Network) : Bool := decide (a.alphas.map Alpha.shape = b.alphas.map Alpha.shape) && (decide (a.nodes.map (fun x => (x.parent, x.alpha, x.cond)) = b.nodes.map (fun x => (x.parent, x.alpha, x.cond))) && decide (a.ends = b.ends))
def memB (a b : Network) : Bool := decide (a.rules = b.rules) && (decide (a.ends = b.ends) && (decide (a.facts = b.facts) && (decide (a.alphas = b.alphas) && decide (a.nodes = b.nodes))))
theorem alphas_two (a b : List Alpha) : a = b ↔ a.map Alpha.shape = b.map Alpha.shape ∧ a.map Alpha.facts = b.map Alpha.facts := by
  constructor
  · rintro rfl; exact ⟨rfl, rfl⟩
  · induction a generalizing b with
    | nil => rintro ⟨h, _⟩; cases b with | nil => rfl | cons => simp at h
    | cons x a ih =>
      rintro ⟨h1, h2⟩
      cases b with
      | nil => simp at h1
      | cons y b =>
        simp only [List.map_cons, List.cons.injEq] at h1 h2
        obtain ⟨x0, x1⟩ := x; obtain ⟨y0, y1⟩ := y
        simp only at h1 h2
        rw [h1.1, h2.1, ih b ⟨h1.2, h2.2⟩]
theorem nodes_two (a b : List Node) : a = b ↔ a.map (fun x => (x.parent, x.alpha, x.cond)) = b.map (fun x => (x.parent, x.alpha, x.cond)) ∧ a.map Node.tokens = b.map Node.tokens := by
  constructor
  · rintro rfl; exact ⟨rfl, rfl⟩
  · induction a generalizing b with
    | nil => rintro ⟨h, _⟩; cases b with | nil => rfl | cons => simp at h
    | cons x a ih =>
      rintro ⟨h1, h2⟩
      cases b with
      | nil => simp at h1
      | cons y b =>
        simp only [List.map_cons, List.cons.injEq, Prod.mk.injEq] at h1 h2
        obtain ⟨x0, x1, x2, x3⟩ := x; obtain ⟨y0, y1, y2, y3⟩ := y
        simp only at h1 h2
        rw [h1.1.1, h1.1.2.1, h1.1.2.2, h2.1, ih b ⟨h1.2, h2.2⟩]
theorem sForm (a b : Network) : d_spec_l7SameForm a b = some (formB a b) := by
  unfold d_spec_l7SameForm formB
  rw [len_dec, len_dec, len_dec]
  by_cases h1 : a.alphas.length = b.alphas.length
  rotate_left
  · simp [h1, map_ne_len h1]
  by_cases h2 : a.nodes.length = b.nodes.length
  rotate_left
  · simp [h2, map_ne_len h2]
  by_cases h3 : a.ends.length = b.ends.length
  rotate_left
  · have : a.ends ≠ b.ends := fun e => h3 (by rw [e])
    simp [h3, this]
  have k1 := fun k => pairL (g := Alpha.shape) (f := fun x y : Alpha => d_spec_SamePattern x.shape y.shape) (k := k) (L := d_spec_l7SameForm_L1 a b k) h1 (fun _ => rfl) (fun _ _ _ => rfl) (fun x y => sSameP _ _)
  have k2 := fun k => pairL (g := fun x : Node => (x.parent, x.alpha, x.cond)) (f := fun x y : Node => bif x.parent != y.parent then some false else bif x.alpha != y.alpha then some false else d_spec_SameCond x.cond y.cond) (k := k) (L := d_spec_l7SameForm_L2 a b k) h2 (fun _ => rfl) (fun x xs i => by
    rw [d_spec_l7SameForm_L2]; congr 1; funext y; cases (x.parent != y.parent) <;> cases (x.alpha != y.alpha) <;> rfl) (fun x y => by
    simp only [sSameC, bne, beq_dec]
    by_cases q0 : x.parent = y.parent <;> by_cases q1 : x.alpha = y.alpha <;> by_cases q2 : x.cond = y.cond <;> simp [q0, q1, q2])
  have k3 := fun k => pairL (g := fun x : Int => x) (f := fun x y : Int => some (decide (x = y))) (k := k) (L := d_spec_l7SameForm_L3 a b k) h3 (fun _ => rfl) (fun x xs i => by
    rw [d_spec_l7SameForm_L3]; congr 1) (fun x y => rfl)
  rw [k1, k2, k3, map_id', map_id']
  simp only [h1, h2, h3, decide_true, Bool.not_true, cond_false]
  cases decide (a.alphas.map Alpha.shape = b.alphas.map Alpha.shape) <;> cases decide (a.nodes.map (fun x => (x.parent, x.alpha, x.cond)) = b.nodes.map (fun x => (x.parent, x.alpha, x.cond))) <;> cases decide (a.ends = b.ends) <;> rfl
theorem sMem (a b : Network) : d_spec_SameMemories a b = some (memB a b) := by
  unfold d_spec_SameMemories
  rw [sForm, Option.bind_some, sSameFs, Option.bind_some, len_dec]
  by_cases h0 : a.rules.length = b.rules.length
  rotate_left
  · have : a.rules ≠ b.rules := fun e => h0 (by rw [e])
    simp only [h0, memB, this, decide_false, Bool.not_false, cond_true, Bool.false_and]
    cases formB a b <;> cases decide (a.facts = b.facts) <;> rfl
  by_cases h1 : a.alphas.length = b.alphas.length
  rotate_left
  · have e1 : formB a b = false := by simp [formB, map_ne_len h1]
    have e2 : memB a b = false := by
      have : a.alphas ≠ b.alphas := fun e => h1 (by rw [e])
      simp [memB, this]
    rw [e1, e2]; rfl
  by_cases h2 : a.nodes.length = b.nodes.length
  rotate_left
  · have e1 : formB a b = false := by simp [formB, map_ne_len h2]
    have e2 : memB a b = false := by
      have : a.nodes ≠ b.nodes := fun e => h2 (by rw [e])
      simp [memB, this]
    rw [e1, e2]; rfl
  have k1 := fun k => pairL (g := fun x : Rule => x) (f := d_spec_SameRule) (k := k) (L := d_spec_SameMemories_L1 a b k) h0 (fun _ => rfl) (fun _ _ _ => rfl) sSameR
  have k2 := fun k => pairL (g := Alpha.facts) (f := fun x y : Alpha => d_spec_SameFacts x.facts y.facts) (k := k) (L := d_spec_SameMemories_L2 a b k) h1 (fun _ => rfl) (fun _ _ _ => rfl) (fun x y => sSameFs _ _)
  have k3 := fun k => pairL (g := Node.tokens) (f := fun x y : Node => d_spec_l7SameTokens x.tokens y.tokens) (k := k) (L := d_spec_SameMemories_L3 a b k) h2 (fun _ => rfl) (fun _ _ _ => rfl) (fun x y => sSameTo _ _)
  rw [k1, k2, k3, map_id', map_id']
  unfold memB formB
  have e1 : decide (a.alphas = b.alphas) = (decide (a.alphas.map Alpha.shape = b.alphas.map Alpha.shape) && decide (a.alphas.map Alpha.facts = b.alphas.map Alpha.facts)) := by rw [Bool.eq_iff_iff]; simp [← alphas_two]
  have e2 : decide (a.nodes = b.nodes) = (decide (a.nodes.map (fun x => (x.parent, x.alpha, x.cond)) = b.nodes.map (fun x => (x.parent, x.alpha, x.cond))) && decide (a.nodes.map Node.tokens = b.nodes.map Node.tokens)) := by rw [Bool.eq_iff_iff]; simp [← nodes_two]
  rw [e1, e2]
  simp only [h0, decide_true, Bool.not_true, cond_false]
  cases decide (a.rules = b.rules) <;> cases decide (a.ends = b.ends) <;> cases decide (a.facts = b.facts) <;> cases decide (a.alphas.map Alpha.shape = b.alphas.map Alpha.shape) <;> cases decide (a.alphas.map Alpha.facts = b.alphas.map Alpha.facts) <;> cases decide (a.nodes.map (fun x => (x.parent, x.alpha, x.cond)) = b.nodes.map (fun x => (x.parent, x.alpha, x.cond))) <;> cases decide (a.nodes.map Node.tokens = b.nodes.map Node.tokens) <;> rfl
theorem iMem (a b : Network) : d_impl_SameMemories a b = some (memB a b) := by
  unfold d_impl_SameMemories
  simp only [iSameRs, iSameI, iSameFs, Option.bind_some, len_dec]
  by_cases h1 : a.alphas.length = b.alphas.length
  rotate_left
  · have : a.alphas ≠ b.alphas := fun e => h1 (by rw [e])
    simp only [h1, memB, this, decide_false, Bool.not_false, cond_true, Bool.false_and]
    cases decide (a.rules = b.rules) <;> cases decide (a.ends = b.ends) <;> cases decide (a.facts = b.facts) <;> rfl
  by_cases h2 : a.nodes.length = b.nodes.length
  rotate_left
  · have : a.nodes ≠ b.nodes := fun e => h2 (by rw [e])
    simp only [h1, h2, memB, this, decide_true, decide_false, Bool.not_false, Bool.not_true, cond_true, cond_false, Bool.and_false]
    cases decide (a.rules = b.rules) <;> cases decide (a.ends = b.ends) <;> cases decide (a.facts = b.facts) <;> rfl
  have k1 := fun k => pairL (g := fun x : Alpha => x) (f := fun x y : Alpha => (d_impl_SamePattern x.shape y.shape).bind fun r => bif !r then some false else d_impl_SameFacts x.facts y.facts) (k := k) (L := d_impl_SameMemories_L1 a b k) h1 (fun _ => rfl) (fun x xs i => by
    rw [d_impl_SameMemories_L1]; congr 1; funext y; rw [iSameP, Option.bind_some, Option.bind_some]; cases decide (x.shape = y.shape) <;> rfl) (fun x y => by
    obtain ⟨x0, x1⟩ := x; obtain ⟨y0, y1⟩ := y
    simp only [iSameP, iSameFs, Option.bind_some]
    by_cases q0 : x0 = y0 <;> by_cases q1 : x1 = y1 <;> simp [q0, q1])
  have k2 := fun k => pairL (g := fun x : Node => x) (f := fun x y : Node => bif x.parent != y.parent then some false else bif x.alpha != y.alpha then some false else (d_impl_SameCond x.cond y.cond).bind fun r => bif !r then some false else d_impl_sameTokens x.tokens y.tokens) (k := k) (L := d_impl_SameMemories_L2 a b k) h2 (fun _ => rfl) (fun x xs i => by
    rw [d_impl_SameMemories_L2]; congr 1; funext y; rw [iSameC, Option.bind_some, Option.bind_some]; cases (x.parent != y.parent) <;> cases (x.alpha != y.alpha) <;> cases decide (x.cond = y.cond) <;> rfl) (fun x y => by
    obtain ⟨x0, x1, x2, x3⟩ := x; obtain ⟨y0, y1, y2, y3⟩ := y
    simp only [iSameC, iSameTo, Option.bind_some, bne, beq_dec]
    by_cases q0 : x0 = y0 <;> by_cases q1 : x1 = y1 <;> by_cases q2 : x2 = y2 <;> by_cases q3 : x3 = y3 <;> simp [q0, q1, q2, q3])
  rw [k1, k2, map_id', map_id', map_id', map_id', memB]
  simp only [h1, h2, decide_true, Bool.not_true, cond_false]
  cases decide (a.rules = b.rules) <;> cases decide (a.ends = b.ends) <;> cases decide (a.facts = b.facts) <;> cases decide (a.alphas = b.alphas) <;> cases decide (a.nodes = b.nodes) <;> rfl
end Go.Cx
