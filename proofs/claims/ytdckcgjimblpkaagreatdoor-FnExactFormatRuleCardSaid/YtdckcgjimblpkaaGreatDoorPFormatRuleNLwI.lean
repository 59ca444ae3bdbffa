/- Texts of patterns, conditions, actions, rules and nodes in plain words: of the program and of the reference. No condition but bounds on sizes. -/
import Derived.Test.YtdckcgjimblpkaaGreatDoorPFormatRuleNLwD
import Derived.Test.YtdckcgjimblpkaaGreatDoorPFormatRuleNLwE
namespace Go.Cx
open Go.RowKit Go.Proofs
set_option linter.unusedVariables false
set_option linter.unusedSimpArgs false
theorem okLen {a b : Bytes} (h : a.length + b.length ≤ 1099511627776) : decide ((a : Bytes).length + (b : Bytes).length ≤ maxLen) = true := by unfold maxLen; simp; omega
theorem beqI (a b : Int) : (a == b) = decide (a = b) := by rw [Bool.eq_iff_iff]; simp
/-! joins -/
theorem joinLen (sep : Bytes) (B : Nat) : ∀ (xs : List Bytes), (∀ x ∈ xs, x.length ≤ B) → (Lib.joinTail sep xs).length ≤ xs.length * (sep.length + B) := by
  intro xs
  induction xs with
  | nil => intro _; simp [Lib.joinTail]
  | cons x xs ih =>
    intro h
    have h1 := ih fun y hy => h y (by simp [hy])
    have h2 := h x (by simp)
    have : (Lib.joinTail sep (x :: xs)).length = sep.length + x.length + (Lib.joinTail sep xs).length := by simp [Lib.joinTail, Nat.add_assoc]
    rw [this, List.length_cons, Nat.add_mul]
    omega
theorem joinLen' (sep : Bytes) (B : Nat) (xs : List Bytes) (h : ∀ x ∈ xs, x.length ≤ B) : (Lib.join xs sep).length ≤ xs.length * (sep.length + B) := by
  cases xs with
  | nil => simp [Lib.join_nil]
  | cons x r =>
    have h1 := joinLen sep B r fun y hy => h y (by simp [hy])
    have h2 := h x (by simp)
    rw [Lib.join_cons, List.length_append, List.length_cons, Nat.add_mul]
    omega
theorem sJoinL (a : List Bytes) (sep : Bytes) (k : Bytes → Option Bytes) : ∀ (l : List Bytes) (i : Nat) (v : Bytes), 0 < i → (v ++ Lib.joinTail sep l).length ≤ maxLen → d_spec_Join_L1 a sep k l i v = k (v ++ Lib.joinTail sep l) := by
  intro l
  induction l with
  | nil => intro i v _ _; simp [d_spec_Join_L1, Lib.joinTail]
  | cons x xs ih =>
    intro i v hi hb
    have e : v ++ Lib.joinTail sep (x :: xs) = ((v ++ sep) ++ x) ++ Lib.joinTail sep xs := by simp [Lib.joinTail]
    rw [e] at hb ⊢
    have hb' := hb
    simp only [List.length_append] at hb'
    have e1 : decide (((i : Nat) : Int) > 0) = true := by simp; omega
    have e2 : decide ((v : Bytes).length + sep.length ≤ maxLen) = true := by simp; omega
    have e3 : decide ((v ++ sep : Bytes).length + x.length ≤ maxLen) = true := by simp; omega
    rw [d_spec_Join_L1, e1, cond_true, e2, cond_true, e3, cond_true]
    exact ih (i + 1) _ (by omega) hb
theorem sJoin (xs : List Bytes) (sep : Bytes) (h : (Lib.join xs sep).length ≤ 1099511627776) : d_spec_Join xs sep = some (Lib.join xs sep) := by
  unfold d_spec_Join
  cases xs with
  | nil => rfl
  | cons x r =>
    rw [Lib.join_cons] at h ⊢
    have e1 : decide (((0 : Nat) : Int) > 0) = false := by decide
    have e2 : decide (([] : Bytes).length + x.length ≤ maxLen) = true := okLen (by simp at h ⊢; omega)
    rw [d_spec_Join_L1, e1, cond_false, e2, cond_true]
    exact sJoinL _ _ _ r 1 x (by omega) (by unfold maxLen; omega)
theorem iJoin (xs : List Bytes) (sep : Bytes) (h : (Lib.join xs sep).length ≤ 1099511627776) (hn : xs.length ≤ 1099511627776) : d_impl_Join xs sep = some (Lib.join xs sep) := by
  have h1 : (Lib.join xs sep).length ≤ 140737488355328 := by omega
  have h2 : xs.length ≤ 140737488355328 := by omega
  simp [d_impl_Join, d_strings_Join, l_Join, h1, h2]
/-! patterns -/
def textP (p : Fact) : Bytes := ((p.rel ++ [40]) ++ Lib.join p.args [44]) ++ [41]
def fmtP (p : Fact) : Bytes := bif patB p then textP p else []
theorem patB_len {p : Fact} (h : patB p = true) : p.rel.length ≤ 8 ∧ (Lib.join p.args [44]).length ≤ 30 ∧ p.args.length ≤ 3 := by
  simp only [patB, Bool.and_eq_true, decide_eq_true_eq, List.all_eq_true] at h
  have h1 := (nameB_len h.2.1).2
  have h2 := joinLen' [44] 9 p.args fun x hx => (termB_len (h.1 x hx)).2
  simp only [List.length_cons, List.length_nil] at h2
  omega
theorem fmtP_len (p : Fact) : (fmtP p).length ≤ 40 := by
  unfold fmtP
  cases h : patB p with
  | false => simp
  | true => have := patB_len h; simp [textP]; omega
theorem sFmtP (p : Fact) (h : p.wt ≤ 1048576) : d_spec_FormatPattern p = some (fmtP p) := by
  unfold d_spec_FormatPattern fmtP
  rw [sPat p h, Option.bind_some]
  cases hp : patB p with
  | false => rfl
  | true =>
    have := patB_len hp
    rw [Bool.not_true, cond_false, okLen (by simp; omega), cond_true, sJoin _ _ (by omega), Option.bind_some, okLen (by simp; omega), cond_true, okLen (by simp; omega), cond_true, cond_true]
    rfl
theorem iFmtP (p : Fact) (h : p.wt ≤ 1048576) : d_impl_FormatPattern p = some (fmtP p) := by
  unfold d_impl_FormatPattern fmtP
  rw [iPat p h, Option.bind_some]
  cases hp : patB p with
  | false => rfl
  | true =>
    have := patB_len hp
    rw [Bool.not_true, cond_false, okLen (by simp; omega), cond_true, iJoin _ _ (by omega) (by omega), Option.bind_some, okLen (by simp; omega), cond_true, okLen (by simp; omega), cond_true, cond_true]
    rfl
/-! conditions -/
def signB (k : Int) : Bytes := bif decide (k = 3) then [32, 61, 32] else bif decide (k = 4) then [32, 33, 61, 32] else [32, 60, 32]
theorem signB_len (k : Int) : (signB k).length ≤ 4 := by unfold signB; cases decide (k = 3) <;> cases decide (k = 4) <;> simp
def fmtC (c : Cond) : Bytes := bif condB c then (bif decide (c.kind = 1) then fmtP c.pat else bif decide (c.kind = 2) then [110, 111, 116, 32] ++ fmtP c.pat else (c.left ++ signB c.kind) ++ c.right) else []
theorem condB_terms {c : Cond} (h : condB c = true) (h1 : c.kind ≠ 1) (h2 : c.kind ≠ 2) : c.left.length ≤ 9 ∧ c.right.length ≤ 9 ∧ (c.kind = 3 ∨ c.kind = 4 ∨ c.kind = 5) := by
  have hk := condB_kind h
  unfold condB at h
  rw [decide_eq_false h1, decide_eq_false h2] at h
  simp only [Bool.or_false, cond_false] at h
  have h3 : (decide (c.kind = 3) || decide (c.kind = 4) || decide (c.kind = 5)) = true := by simp; omega
  rw [h3, cond_true] at h
  simp only [Bool.and_eq_true] at h
  exact ⟨(termB_len h.2.1).2, (termB_len h.2.2).2, by omega⟩
theorem fmtC_len (c : Cond) : (fmtC c).length ≤ 44 := by
  have hp := fmtP_len c.pat
  unfold fmtC
  cases h : condB c with
  | false => simp
  | true =>
    rw [cond_true]
    by_cases h1 : c.kind = 1
    · rw [decide_eq_true h1, cond_true]; omega
    · rw [decide_eq_false h1, cond_false]
      by_cases h2 : c.kind = 2
      · rw [decide_eq_true h2, cond_true]; simp; omega
      · rw [decide_eq_false h2, cond_false]
        have := condB_terms h h1 h2
        have := signB_len c.kind
        simp; omega
theorem sFmtC (c : Cond) (h : c.wt ≤ 1048576) : d_spec_FormatCond c = some (fmtC c) := by
  have hp := fmtP_len c.pat
  unfold d_spec_FormatCond fmtC
  rw [sCond c h, Option.bind_some, beqI, beqI, sFmtP c.pat (Cond.pat_le h), Option.bind_some, Option.bind_some]
  cases hc : condB c with
  | false => rfl
  | true =>
    rw [Bool.not_true, cond_false, cond_true]
    by_cases h1 : c.kind = 1
    · rw [decide_eq_true h1]; rfl
    · rw [decide_eq_false h1, cond_false, cond_false]
      by_cases h2 : c.kind = 2
      · rw [decide_eq_true h2, cond_true, cond_true, okLen (by simp; omega)]; rfl
      · rw [decide_eq_false h2, cond_false, cond_false]
        have ht := condB_terms hc h1 h2
        have hs := signB_len c.kind
        have e : d_spec_l4Sign c.kind = some (signB c.kind) := by
          unfold d_spec_l4Sign signB
          rw [beqI, beqI]
          cases decide (c.kind = 3) <;> cases decide (c.kind = 4) <;> rfl
        rw [e, Option.bind_some, okLen (by omega), cond_true, okLen (by simp; omega), cond_true]
theorem iFmtC (c : Cond) (h : c.wt ≤ 1048576) : d_impl_FormatCond c = some (fmtC c) := by
  have hp := fmtP_len c.pat
  unfold d_impl_FormatCond fmtC
  rw [iCond c h, Option.bind_some, beqI, beqI, iFmtP c.pat (Cond.pat_le h), Option.bind_some, Option.bind_some]
  cases hc : condB c with
  | false => rfl
  | true =>
    rw [Bool.not_true, cond_false, cond_true]
    by_cases h1 : c.kind = 1
    · rw [decide_eq_true h1]; rfl
    · rw [decide_eq_false h1, cond_false, cond_false]
      by_cases h2 : c.kind = 2
      · rw [decide_eq_true h2, cond_true, cond_true, okLen (by simp; omega)]; rfl
      · rw [decide_eq_false h2, cond_false, cond_false]
        have ht := condB_terms hc h1 h2
        have hs := signB_len c.kind
        have e : atI ([[32, 61, 32], [32, 33, 61, 32], [32, 60, 32]] : List Bytes) (IntKind.i64.wrap ((c.kind) - (3))) = some (signB c.kind) := by
          rcases ht.2.2 with hk | hk | hk <;> rw [hk] <;> rfl
        rw [e, Option.bind_some, okLen (by omega), cond_true, okLen (by simp; omega), cond_true]
/-! actions and rules -/
def fmtA (a : Action) : Bytes := bif actB a then (bif decide (a.kind = 1) then [97, 100, 100, 32] ++ fmtP a.pat else bif decide (a.kind = 2) then [100, 114, 111, 112, 32] ++ fmtP a.pat else [115, 116, 111, 112]) else []
theorem fmtA_len (a : Action) : (fmtA a).length ≤ 45 := by
  have hp := fmtP_len a.pat
  unfold fmtA
  cases actB a <;> cases decide (a.kind = 1) <;> cases decide (a.kind = 2) <;> simp <;> omega
theorem sFmtA (a : Action) (h : a.wt ≤ 1048576) : d_spec_FormatAction a = some (fmtA a) := by
  have hp := fmtP_len a.pat
  unfold d_spec_FormatAction fmtA
  rw [sAct a h, Option.bind_some, beqI, beqI, sFmtP a.pat (Action.pat_le h), Option.bind_some, Option.bind_some, okLen (by simp; omega), okLen (by simp; omega)]
  cases actB a <;> cases decide (a.kind = 1) <;> cases decide (a.kind = 2) <;> rfl
theorem iFmtA (a : Action) (h : a.wt ≤ 1048576) : d_impl_FormatAction a = some (fmtA a) := by
  have hp := fmtP_len a.pat
  unfold d_impl_FormatAction fmtA
  rw [iAct a h, Option.bind_some, beqI, beqI, iFmtP a.pat (Action.pat_le h), Option.bind_some, Option.bind_some, okLen (by simp; omega), okLen (by simp; omega)]
  cases actB a <;> cases decide (a.kind = 1) <;> cases decide (a.kind = 2) <;> rfl
def textR (r : Rule) : Bytes := (((((r.name ++ [32]) ++ Lib.itoa r.prio) ++ [58, 32]) ++ Lib.join (r.conds.map fmtC) [32, 38, 32]) ++ [32, 45, 62, 32]) ++ Lib.join (r.acts.map fmtA) [32, 38, 32]
theorem ruleB_parts {r : Rule} (h : ruleB r = true) : r.name.length ≤ 8 ∧ r.conds.length ≤ 4 ∧ r.acts.length ≤ 2 ∧ InR .i64 r.prio := by
  unfold ruleB at h
  simp only [Bool.and_eq_true, decide_eq_true_eq] at h
  have h1 := (nameB_len h.1.1.1.1).2
  refine ⟨h1, by omega, by omega, InR.i64.2 (by omega)⟩
theorem join_le {α : Type} {f : α → Bytes} (B : Nat) (hf : ∀ x, (f x).length ≤ B) (l : List α) (n : Nat) (hl : l.length ≤ n) : (Lib.join (l.map f) [32, 38, 32]).length ≤ n * (3 + B) := by
  have h1 := joinLen' [32, 38, 32] B (l.map f) (fun x hx => by obtain ⟨y, _, rfl⟩ := List.mem_map.1 hx; exact hf y)
  rw [List.length_map] at h1
  exact Nat.le_trans h1 (Nat.mul_le_mul_right _ hl)
theorem sFmtRule (r : Rule) (h : r.wt ≤ 1048576) : d_spec_FormatRule r = some (bif ruleB r then textR r else []) := by
  unfold d_spec_FormatRule
  rw [sRule r h, Option.bind_some]
  cases hr : ruleB r with
  | false => rfl
  | true =>
    have hb := ruleB_parts hr
    have hi := itoa_len21 r.prio hb.2.2.2
    have j1 := join_le 44 fmtC_len r.conds 4 hb.2.1
    have j2 := join_le 45 fmtA_len r.acts 2 hb.2.2.1
    rw [Bool.not_true, cond_false, cond_true]
    rw [mapL (c := tx) (b := 16) (f := d_spec_FormatCond) (g := fmtC) (L := d_spec_FormatRule_L1 r _) (k := _) (by decide) (fun _ _ => rfl) (fun _ _ _ _ => rfl) r.conds 0 [] (fun c hc => sFmtC c (Rule.cond_le h hc)) (by simp; omega)]
    rw [List.nil_append, mapL (c := tx) (b := 16) (f := d_spec_FormatAction) (g := fmtA) (L := d_spec_FormatRule_L2 r _ _) (k := _) (by decide) (fun _ _ => rfl) (fun _ _ _ _ => rfl) r.acts 0 [] (fun a ha => sFmtA a (Rule.act_le h ha)) (by simp; omega)]
    rw [List.nil_append, okLen (by simp; omega), cond_true, sFmt r.prio hb.2.2.2, Option.bind_some, okLen (by simp; omega), cond_true, okLen (by simp; omega), cond_true, sJoin _ _ (by omega), Option.bind_some, okLen (by simp; omega), cond_true, okLen (by simp; omega), cond_true, sJoin _ _ (by omega), Option.bind_some, okLen (by simp; omega), cond_true]
    rfl
theorem iFmtRule (r : Rule) (h : r.wt ≤ 1048576) : d_impl_FormatRule r = some (bif ruleB r then textR r else []) := by
  unfold d_impl_FormatRule
  rw [iRule r h, Option.bind_some]
  cases hr : ruleB r with
  | false => rfl
  | true =>
    have hb := ruleB_parts hr
    have hi := itoa_len21 r.prio hb.2.2.2
    have j1 := join_le 44 fmtC_len r.conds 4 hb.2.1
    have j2 := join_le 45 fmtA_len r.acts 2 hb.2.2.1
    rw [Bool.not_true, cond_false, cond_true]
    rw [mapL (c := tx) (b := 16) (f := d_impl_FormatCond) (g := fmtC) (L := d_impl_FormatRule_L1 r _) (k := _) (by decide) (fun _ _ => rfl) (fun _ _ _ _ => rfl) r.conds 0 [] (fun c hc => iFmtC c (Rule.cond_le h hc)) (by simp; omega)]
    rw [List.nil_append, mapL (c := tx) (b := 16) (f := d_impl_FormatAction) (g := fmtA) (L := d_impl_FormatRule_L2 r _ _) (k := _) (by decide) (fun _ _ => rfl) (fun _ _ _ _ => rfl) r.acts 0 [] (fun a ha => iFmtA a (Rule.act_le h ha)) (by simp; omega)]
    rw [List.nil_append, okLen (by simp; omega), cond_true, iFmt, Option.bind_some, okLen (by simp; omega), cond_true, okLen (by simp; omega), cond_true, iJoin _ _ (by omega) (by rw [List.length_map]; omega), Option.bind_some, okLen (by simp; omega), cond_true, okLen (by simp; omega), cond_true, iJoin _ _ (by omega) (by rw [List.length_map]; omega), Option.bind_some, okLen (by simp; omega), cond_true]
    rfl
/-! nodes -/
theorem Node.cond_le {x : Node} {n : Nat} (h : x.wt ≤ n) : x.cond.wt ≤ n := by simp only [Node.wt, Cond.wt] at h ⊢; omega
end Go.Cx
