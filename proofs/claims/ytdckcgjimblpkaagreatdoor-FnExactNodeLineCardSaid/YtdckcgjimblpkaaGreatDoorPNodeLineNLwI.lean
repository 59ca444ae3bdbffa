/- Texts of patterns, conditions, actions, rules and nodes in plain words: of the program and of the reference. No condition but bounds on sizes. -/
import Derived.Test.YtdckcgjimblpkaaGreatDoorPNodeLineNLwD
import Derived.Test.YtdckcgjimblpkaaGreatDoorPNodeLineNLwE
namespace Go.Cx
open Go.RowKit Go.Proofs
set_option linter.unusedVariables false
set_option linter.unusedSimpArgs false
theorem okLen {a b : Bytes} (h : a.length + b.length ≤ 1099511627776) : decide ((a : Bytes).length + (b : Bytes).length ≤ maxLen) = true := by unfold maxLen; simp; omega
theorem beqI (a b : Int) : (a == b) = decide (a = b) := by rw [Bool.eq_iff_iff]; simp
/-! joins -/
theorem joinLen (sep : Bytes) (B : Nat) : ∀ (xs : List Bytes), (∀ x ∈ xs, x.length ≤ B) → (Lib.joinTail sep xs).length ≤ xs.length * (sep.length + B) := by
  intro xs
  induction xs with
  | nil => intro _; simp [Lib.joinTail]
  | cons x xs ih =>
    intro h
    have h1 := ih fun y hy => h y (by simp [hy])
    have h2 := h x (by simp)
    have : (Lib.joinTail sep (x :: xs)).length = sep.length + x.length + (Lib.joinTail sep xs).length := by simp [Lib.joinTail, Nat.add_assoc]
    rw [this, List.length_cons, Nat.add_mul]
    omega
theorem joinLen' (sep : Bytes) (B : Nat) (xs : List Bytes) (h : ∀ x ∈ xs, x.length ≤ B) : (Lib.join xs sep).length ≤ xs.length * (sep.length + B) := by
  cases xs with
  | nil => simp [Lib.join_nil]
  | cons x r =>
    have h1 := joinLen sep B r fun y hy => h y (by simp [hy])
    have h2 := h x (by simp)
    rw [Lib.join_cons, List.length_append, List.length_cons, Nat.add_mul]
    omega
theorem sJoinL (a : List Bytes) (sep : Bytes) (k : Bytes → Option Bytes) : ∀ (l : List Bytes) (i : Nat) (v : Bytes), 0 < i → (v ++ Lib.joinTail sep l).length ≤ maxLen → d_spec_Join_L1 a sep k l i v = k (v ++ Lib.joinTail sep l) := by
  intro l
  induction l with
  | nil => intro i v _ _; simp [d_spec_Join_L1, Lib.joinTail]
  | cons x xs ih =>
    intro i v hi hb
    have e : v ++ Lib.joinTail sep (x :: xs) = ((v ++ sep) ++ x) ++ Lib.joinTail sep xs := by simp [Lib.joinTail]
    rw [e] at hb ⊢
    have hb' := hb
    simp only [List.length_append] at hb'
    have e1 : decide (((i : Nat) : Int) > 0) = true := by simp; omega
    have e2 : decide ((v : Bytes).length + sep.length ≤ maxLen) = true := by simp; omega
    have e3 : decide ((v ++ sep : Bytes).length + x.length ≤ maxLen) = true := by simp; omega
    rw [d_spec_Join_L1, e1, cond_true, e2, cond_true, e3, cond_true]
    exact ih (i + 1) _ (by omega) hb
theorem sJoin (xs : List Bytes) (sep : Bytes) (h : (Lib.join xs sep).length ≤ 1099511627776) : d_spec_Join xs sep = some (Lib.join xs sep) := by
  unfold d_spec_Join
  cases xs with
  | nil => rfl
  | cons x r =>
    rw [Lib.join_cons] at h ⊢
    have e1 : decide (((0 : Nat) : Int) > 0) = false := by decide
    have e2 : decide (([] : Bytes).length + x.length ≤ maxLen) = true := okLen (by simp at h ⊢; omega)
    rw [d_spec_Join_L1, e1, cond_false, e2, cond_true]
    exact sJoinL _ _ _ r 1 x (by omega) (by unfold maxLen; omega)
theorem iJoin (xs : List Bytes) (sep : Bytes) (h : (Lib.join xs sep).length ≤ 1099511627776) (hn : xs.length ≤ 1099511627776) : d_impl_Join xs sep = some (Lib.join xs sep) := by
  have h1 : (Lib.join xs sep).length ≤ 140737488355328 := by omega
  have h2 : xs.length ≤ 140737488355328 := by omega
  simp [d_impl_Join, d_strings_Join, l_Join, h1, h2]
/-! patterns -/
def textP (p : Fact) : Bytes := ((p.rel ++ [40]) ++ Lib.join p.args [44]) ++ [41]
def fmtP (p : Fact) : Bytes := bif patB p then textP p else []
theorem patB_len {p : Fact} (h : patB p = true) : p.rel.length ≤ 8 ∧ (Lib.join p.args [44]).length ≤ 30 ∧ p.args.length ≤ 3 := by
  simp only [patB, Bool.and_eq_true, decide_eq_true_eq, List.all_eq_true] at h
  have h1 := (nameB_len h.2.1).2
  have h2 := joinLen' [44] 9 p.args fun x hx => (termB_len (h.1 x hx)).2
  simp only [List.length_cons, List.length_nil] at h2
  omega
theorem fmtP_len (p : Fact) : (fmtP p).length ≤ 40 := by
  unfold fmtP
  cases h : patB p with
  | false => simp
  | true => have := patB_len h; simp [textP]; omega
theorem sFmtP (p : Fact) (h : p.wt ≤ 1048576) : d_spec_FormatPattern p = some (fmtP p) := by
  unfold d_spec_FormatPattern fmtP
  rw [sPat p h, Option.bind_some]
  cases hp : patB p with
  | false => rfl
  | true =>
    have := patB_len hp
    rw [Bool.not_true, cond_false, okLen (by simp; omega), cond_true, sJoin _ _ (by omega), Option.bind_some, okLen (by simp; omega), cond_true, okLen (by simp; omega), cond_true, cond_true]
    rfl
theorem iFmtP (p : Fact) (h : p.wt ≤ 1048576) : d_impl_FormatPattern p = some (fmtP p) := by
  unfold d_impl_FormatPattern fmtP
  rw [iPat p h, Option.bind_some]
  cases hp : patB p with
  | false => rfl
  | true =>
    have := patB_len hp
    rw [Bool.not_true, cond_false, okLen (by simp; omega), cond_true, iJoin _ _ (by omega) (by omega), Option.bind_some, okLen (by simp; omega), cond_true, okLen (by simp; omega), cond_true, cond_true]
    rfl
/-! conditions -/
def signB (k : Int) : Bytes := bif decide (k = 3) then [32, 61, 32] else bif decide (k = 4) then [32, 33, 61, 32] else [32, 60, 32]
theorem signB_len (k : Int) : (signB k).length ≤ 4 := by unfold signB; cases decide (k = 3) <;> cases decide (k = 4) <;> simp
def fmtC (c : Cond) : Bytes := bif condB c then (bif decide (c.kind = 1) then fmtP c.pat else bif decide (c.kind = 2) then [110, 111, 116, 32] ++ fmtP c.pat else (c.left ++ signB c.kind) ++ c.right) else []
theorem condB_terms {c : Cond} (h : condB c = true) (h1 : c.kind ≠ 1) (h2 : c.kind ≠ 2) : c.left.length ≤ 9 ∧ c.right.length ≤ 9 ∧ (c.kind = 3 ∨ c.kind = 4 ∨ c.kind = 5) := by
  have hk := condB_kind h
  unfold condB at h
  rw [decide_eq_false h1, decide_eq_false h2] at h
  simp only [Bool.or_false, cond_false] at h
  have h3 : (decide (c.kind = 3) || decide (c.kind = 4) || decide (c.kind = 5)) = true := by simp; omega
  rw [h3, cond_true] at h
  simp only [Bool.and_eq_true] at h
  exact ⟨(termB_len h.2.1).2, (termB_len h.2.2).2, by omega⟩
theorem fmtC_len (c : Cond) : (fmtC c).length ≤ 44 := by
  have hp := fmtP_len c.pat
  unfold fmtC
  cases h : condB c with
  | false => simp
  | true =>
    rw [cond_true]
    by_cases h1 : c.kind = 1
    · rw [decide_eq_true h1, cond_true]; omega
    · rw [decide_eq_false h1, cond_false]
      by_cases h2 : c.kind = 2
      · rw [decide_eq_true h2, cond_true]; simp; omega
      · rw [decide_eq_false h2, cond_false]
        have := condB_terms h h1 h2
        have := signB_len c.kind
        simp; omega
theorem sFmtC (c : Cond) (h : c.wt ≤ 1048576) : d_spec_FormatCond c = some (fmtC c) := by
  have hp := fmtP_len c.pat
  unfold d_spec_FormatCond fmtC
  rw [sCond c h, Option.bind_some, beqI, beqI, sFmtP c.pat (Cond.pat_le h), Option.bind_some, Option.bind_some]
  cases hc : condB c with
  | false => rfl
  | true =>
    rw [Bool.not_true, cond_false, cond_true]
    by_cases h1 : c.kind = 1
    · rw [decide_eq_true h1]; rfl
    · rw [decide_eq_false h1, cond_false, cond_false]
      by_cases h2 : c.kind = 2
      · rw [decide_eq_true h2, cond_true, cond_true, okLen (by simp; omega)]; rfl
      · rw [decide_eq_false h2, cond_false, cond_false]
        have ht := condB_terms hc h1 h2
        have hs := signB_len c.kind
        have e : d_spec_l4Sign c.kind = some (signB c.kind) := by
          unfold d_spec_l4Sign signB
          rw [beqI, beqI]
          cases decide (c.kind = 3) <;> cases decide (c.kind = 4) <;> rfl
        rw [e, Option.bind_some, okLen (by omega), cond_true, okLen (by simp; omega), cond_true]
theorem iFmtC (c : Cond) (h : c.wt ≤ 1048576) : d_impl_FormatCond c = some (fmtC c) := by
  have hp := fmtP_len c.pat
  unfold d_impl_FormatCond fmtC
  rw [iCond c h, Option.bind_some, beqI, beqI, iFmtP c.pat (Cond.pat_le h), Option.bind_some, Option.bind_some]
  cases hc : condB c with
  | false => rfl
  | true =>
    rw [Bool.not_true, cond_false, cond_true]
    by_cases h1 : c.kind = 1
    · rw [decide_eq_true h1]; rfl
    · rw [decide_eq_false h1, cond_false, cond_false]
      by_cases h2 : c.kind = 2
      · rw [decide_eq_true h2, cond_true, cond_true, okLen (by simp; omega)]; rfl
      · rw [decide_eq_false h2, cond_false, cond_false]
        have ht := condB_terms hc h1 h2
        have hs := signB_len c.kind
        have e : atI ([[32, 61, 32], [32, 33, 61, 32], [32, 60, 32]] : List Bytes) (IntKind.i64.wrap ((c.kind) - (3))) = some (signB c.kind) := by
          rcases ht.2.2 with hk | hk | hk <;> rw [hk] <;> rfl
        rw [e, Option.bind_some, okLen (by omega), cond_true, okLen (by simp; omega), cond_true]
/-! actions and rules -/
/-! nodes -/
def lineN (x : Node) (i : Int) : Bytes := bif decide (i = 0) then [48, 58, 32] ++ (([91] ++ Lib.itoa (x.tokens.length : Int)) ++ [93]) else (((((Lib.itoa i ++ [32, 60, 45, 32]) ++ Lib.itoa x.parent) ++ [58, 32]) ++ fmtC x.cond) ++ [32]) ++ (([91] ++ Lib.itoa (x.tokens.length : Int)) ++ [93])
def lineB (n : Network) (i : Int) : Bytes := match atI n.nodes i with | some x => lineN x i | none => []
theorem Node.cond_le {x : Node} {n : Nat} (h : x.wt ≤ n) : x.cond.wt ≤ n := by simp only [Node.wt, Cond.wt] at h ⊢; omega
theorem Node.toks_le {x : Node} {n : Nat} (h : x.wt ≤ n) : x.tokens.length ≤ n := by simp only [Node.wt] at h; have := wtL_len Token.wt x.tokens; omega
theorem Network.node_le {n : Network} {k : Nat} (h : n.wt ≤ k) {x : Node} (hx : x ∈ n.nodes) : x.wt ≤ k := by simp only [Network.wt] at h; have := wtL_mem (w := Node.wt) hx; omega
theorem Network.nodes_le {n : Network} {k : Nat} (h : n.wt ≤ k) : n.nodes.length ≤ k := by simp only [Network.wt] at h; have := wtL_len Node.wt n.nodes; omega
theorem sLine (n : Network) (i : Int) (h : n.wt ≤ 1048576) (hi : InR .i64 i) (hp : ∀ x ∈ n.nodes, InR .i64 x.parent) : d_spec_NodeLine n i = some (lineB n i) := by
  have hl := Network.nodes_le h
  unfold d_spec_NodeLine lineB
  have e0 : IntKind.i64.wrap (((((n.nodes).map Node.c).length : Int)) - 1) = (n.nodes.length : Int) - 1 := by rw [List.length_map, wrap_in (InR.i64.2 (by omega))]
  rw [e0, in_eq, Option.bind_some]
  by_cases hin : 0 ≤ i ∧ i < (n.nodes.length : Int)
  · have e1 : (decide (i ≥ 0) && decide (i ≤ (n.nodes.length : Int) - 1)) = true := by simp; omega
    have hlt : i.toNat < n.nodes.length := by omega
    have e2 : atI n.nodes i = some n.nodes[i.toNat] := by unfold atI; rw [decide_eq_true hin.1, cond_true]; exact List.getElem?_eq_getElem hlt
    rw [e1, e2, Bool.not_true, cond_false, Option.bind_some]
    generalize hx : n.nodes[i.toNat] = x
    have hxm : x ∈ n.nodes := hx ▸ List.getElem_mem hlt
    have hw := Network.node_le h hxm
    have ht := Node.toks_le hw
    have i1 := itoa_len21 i hi
    have i2 := itoa_len21 x.parent (hp x hxm)
    have hti : InR .i64 ((x.tokens.length : Nat) : Int) := InR.i64.2 (by omega)
    have i3 := itoa_len21 _ hti
    have i4 := fmtC_len x.cond
    rw [sFmt i hi, Option.bind_some, okLen (by simp; omega), cond_true, sFmt x.parent (hp x hxm), Option.bind_some, okLen (by simp; omega), cond_true, okLen (by simp; omega), cond_true, beqI, List.length_map, sFmt _ hti, Option.bind_some, sFmtC x.cond (Node.cond_le hw), Option.bind_some, Option.bind_some]
    rw [okLen (by simp), cond_true, okLen (by simp; omega), cond_true, okLen (by simp; omega), cond_true, okLen (by simp; omega), cond_true, okLen (by simp; omega), cond_true, okLen (by simp; omega), cond_true, okLen (by simp; omega), cond_true, okLen (by simp; omega), cond_true]
    simp only [lineN]
    cases decide (i = 0) <;> simp
  · have e1 : (decide (i ≥ 0) && decide (i ≤ (n.nodes.length : Int) - 1)) = false := by rw [Bool.and_eq_false_iff, decide_eq_false_iff_not, decide_eq_false_iff_not]; omega
    have e2 : atI n.nodes i = none := by
      unfold atI
      by_cases h0 : 0 ≤ i
      · rw [decide_eq_true h0, cond_true, List.getElem?_eq_none]; omega
      · rw [decide_eq_false h0]; rfl
    rw [e1, e2]; rfl
theorem iLine (n : Network) (i : Int) (h : n.wt ≤ 1048576) (hi : InR .i64 i) (hp : ∀ x ∈ n.nodes, InR .i64 x.parent) : d_impl_NodeLine n i = some (lineB n i) := by
  have hl := Network.nodes_le h
  unfold d_impl_NodeLine lineB
  rw [List.length_map]
  by_cases hin : 0 ≤ i ∧ i < (n.nodes.length : Int)
  · have e1 : decide (i < 0) = false := by simp; omega
    have e3 : decide (i ≥ (n.nodes.length : Int)) = false := by simp; omega
    have hlt : i.toNat < n.nodes.length := by omega
    have e2 : atI n.nodes i = some n.nodes[i.toNat] := by unfold atI; rw [decide_eq_true hin.1, cond_true]; exact List.getElem?_eq_getElem hlt
    rw [e1, e2, cond_false, e3, cond_false, Option.bind_some]
    generalize hx : n.nodes[i.toNat] = x
    have hxm : x ∈ n.nodes := hx ▸ List.getElem_mem hlt
    have hw := Network.node_le h hxm
    have ht := Node.toks_le hw
    have i1 := itoa_len21 i hi
    have i2 := itoa_len21 x.parent (hp x hxm)
    have hti : InR .i64 ((x.tokens.length : Nat) : Int) := InR.i64.2 (by omega)
    have i3 := itoa_len21 _ hti
    have i4 := fmtC_len x.cond
    rw [List.length_map, iFmt, Option.bind_some, okLen (by simp; omega), cond_true, okLen (by simp; omega), cond_true, beqI, okLen (by simp; omega), cond_true, iFmt, Option.bind_some, okLen (by simp; omega), cond_true, iFmt, Option.bind_some, okLen (by simp; omega), cond_true, okLen (by simp; omega), cond_true, iFmtC x.cond (Node.cond_le hw), Option.bind_some, okLen (by simp; omega), cond_true, okLen (by simp; omega), cond_true, okLen (by simp; omega), cond_true]
    simp only [lineN]
    cases decide (i = 0) <;> rfl
  · by_cases h0 : i < 0
    · have e2 : atI n.nodes i = none := by unfold atI; rw [decide_eq_false (by omega)]; rfl
      rw [decide_eq_true h0, e2]; rfl
    · have e2 : atI n.nodes i = none := by unfold atI; rw [decide_eq_true (by omega), cond_true, List.getElem?_eq_none]; omega
      have e3 : decide (i ≥ (n.nodes.length : Int)) = true := by simp; omega
      rw [decide_eq_false h0, cond_false, e3, e2]; rfl
end Go.Cx
