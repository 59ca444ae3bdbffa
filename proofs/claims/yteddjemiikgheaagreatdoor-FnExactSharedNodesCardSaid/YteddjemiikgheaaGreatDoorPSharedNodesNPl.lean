/- What the laws' own helpers compute: sizes, copies, equality, marks. No condition. -/
import Derived.Test.YteddjemiikgheaaGreatDoorNPlain
import Derived.Test.YteddjemiikgheaaGreatDoorPSharedNodesNSz
import Derived.Test.YteddjemiikgheaaGreatDoorPSharedNodesNTo
import Derived.Test.YteddjemiikgheaaGreatDoorPSharedNodesNEq
import Derived.Test.YteddjemiikgheaaGreatDoorPSharedNodesNHd
namespace Go.Cx
open Go.RowKit Go.Proofs
set_option linter.unusedVariables false
set_option linter.unusedSimpArgs false
theorem RdbL.sub {a b : List D} (h : RdbL a) (hs : ∀ d ∈ b, d ∈ a) : RdbL b := fun d hd => h d (hs d hd)
def zw (_ : Int) : Nat := 0
theorem szStringS_ok (l : List Bytes) (h : Rdb (.sl (l.map tx))) (v : Int) (h0 : 0 ≤ v) (h1 : v ≤ 1048576) : Szs (d_laws_szStringS l v) v (wtL tw l) := by
  unfold d_laws_szStringS
  exact szS h h0 h1 fun v' g0 g1 => szL (w := tw) (f := fun x v => some (IntKind.i64.wrap (v - (x.length : Int)))) (d_laws_szStringS_L1 l (fun z => some z)) (fun _ _ => rfl) (fun _ _ _ _ => by simp only [d_laws_szStringS_L1, Option.bind_some]) l (fun x hx v g0 g1 => ⟨_, rfl, by rw [wrapS ((RdbL.row h x hx (.str x) (by simp)).str) g0 g1]; omega, fun q => by rw [wrapS ((RdbL.row h x hx (.str x) (by simp)).str) g0 g1] at q ⊢; unfold tw; omega⟩) 0 v' g0 g1
theorem toStringS_ok (l : List Bytes) (h : wtL tw l ≤ 1048576) : d_laws_toStringS l = some l := by
  unfold d_laws_toStringS
  rw [roomB (by rw [List.length_map]; exact Nat.le_trans (wtL_len _ _) h) (by decide)]
  exact toL (c := tx) (f := (fun x => some x)) (d_laws_toStringS_L1 l (fun q => some q)) (fun _ _ => rfl) (fun _ _ _ _ => by simp only [d_laws_toStringS_L1, Option.bind_some]) (fun x hx => rfl)
theorem eqStringS_ok (a b : List Bytes) : d_laws_eqStringS a b = some (decide (a = b)) := by
  unfold d_laws_eqStringS
  exact eqL (c := tx) (f := (fun x y => some (x == y))) (fun k => d_laws_eqStringS_L1 a b k) (fun _ _ => rfl) (fun _ _ _ _ => rfl) (fun x y => by rw [Option.some.injEq, Bool.eq_iff_iff]; simp)
def Fact.wt (x : Fact) : Nat := tw x.rel + wtL tw x.args
theorem szPattern_ok (x : Fact) (h : RdbL x.c) (v : Int) (h0 : 0 ≤ v) (h1 : v ≤ 1048576) : Szs (d_laws_szPattern x v) v (Fact.wt x) := by
  unfold d_laws_szPattern
  refine Szs.eq (n := (tw x.rel + (wtL tw x.args + (0)))) ?_ (by simp only [Fact.wt]; omega)
  refine Szs.str (m := (wtL tw x.args + (0))) ((h (.str x.rel) (by simp)).str) h0 h1 fun g1 e1 => ?_
  rw [e1]
  have l1 : v - (x.rel.length : Int) ≤ 1048576 := by omega
  refine (szStringS_ok x.args (h (.sl (x.args.map tx)) (by simp)) _ g1 l1).sub l1 g1 (m := 0) fun r2 g2 l2 => ?_
  exact Szs.fin
theorem toPattern_ok (x : Fact) (h : Fact.wt x ≤ 1048576) : d_laws_toPattern x = some x := by
  unfold d_laws_toPattern
  simp only [toStringS_ok x.args (by simp only [Fact.wt] at h; omega), Option.bind_some]
theorem eqPattern_ok (a b : Fact) : d_laws_eqPattern a b = some (decide (a = b)) := by
  obtain ⟨a0, a1⟩ := a
  obtain ⟨b0, b1⟩ := b
  unfold d_laws_eqPattern
  simp only [eqStringS_ok, Option.bind_some, beq_dec, bne]
  by_cases h0 : a0 = b0 <;> by_cases h1 : a1 = b1 <;> simp [h0, h1]
def Pair.wt (x : Pair) : Nat := tw x.var + tw x.value
def Cond.wt (x : Cond) : Nat := tw x.pat.rel + wtL tw x.pat.args + tw x.left + tw x.right
theorem szCond_ok (x : Cond) (h : RdbL x.c) (v : Int) (h0 : 0 ≤ v) (h1 : v ≤ 1048576) : Szs (d_laws_szCond x v) v (Cond.wt x) := by
  unfold d_laws_szCond
  refine Szs.eq (n := (Fact.wt x.pat + (tw x.left + (tw x.right + (0))))) ?_ (by simp only [Cond.wt, Fact.wt]; omega)
  refine (szPattern_ok x.pat (RdbL.sub h (by intro d hd; simp only [List.mem_cons, List.not_mem_nil, or_false] at hd ⊢; rcases hd with rfl | rfl <;> simp)) _ h0 h1).sub h1 h0 (m := (tw x.left + (tw x.right + (0)))) fun r1 g1 l1 => ?_
  refine Szs.str (m := (tw x.right + (0))) ((h (.str x.left) (by simp)).str) g1 l1 fun g2 e2 => ?_
  rw [e2]
  have l2 : r1 - (x.left.length : Int) ≤ 1048576 := by omega
  refine Szs.str (m := 0) ((h (.str x.right) (by simp)).str) g2 l2 fun g3 e3 => ?_
  rw [e3]
  have l3 : r1 - (x.left.length : Int) - (x.right.length : Int) ≤ 1048576 := by omega
  exact Szs.fin
theorem toCond_ok (x : Cond) (h : Cond.wt x ≤ 1048576) : d_laws_toCond x = some x := by
  unfold d_laws_toCond
  simp only [toPattern_ok x.pat (by simp only [Cond.wt, Fact.wt] at h ⊢; omega), Option.bind_some]
theorem eqCond_ok (a b : Cond) : d_laws_eqCond a b = some (decide (a = b)) := by
  obtain ⟨a0, a1, a2, a3⟩ := a
  obtain ⟨b0, b1, b2, b3⟩ := b
  unfold d_laws_eqCond
  simp only [eqPattern_ok, Option.bind_some, beq_dec, bne]
  by_cases h0 : a0 = b0 <;> by_cases h1 : a1 = b1 <;> by_cases h2 : a2 = b2 <;> by_cases h3 : a3 = b3 <;> simp [h0, h1, h2, h3]
theorem szCondS_ok (l : List Cond) (h : Rdb (.sl (l.map Cond.c))) (v : Int) (h0 : 0 ≤ v) (h1 : v ≤ 1048576) : Szs (d_laws_szCondS l v) v (wtL Cond.wt l) := by
  unfold d_laws_szCondS
  exact szS h h0 h1 fun v' g0 g1 => szL (w := Cond.wt) (f := d_laws_szCond) (d_laws_szCondS_L1 l (fun z => some z)) (fun _ _ => rfl) (fun _ _ _ _ => rfl) l (fun x hx v g0 g1 => szCond_ok x (RdbL.row h x hx) v g0 g1) 0 v' g0 g1
theorem toCondS_ok (l : List Cond) (h : wtL Cond.wt l ≤ 1048576) : d_laws_toCondS l = some l := by
  unfold d_laws_toCondS
  rw [roomB (by rw [List.length_map]; exact Nat.le_trans (wtL_len _ _) h) (by decide)]
  exact toL (c := Cond.c) (f := d_laws_toCond) (d_laws_toCondS_L1 l (fun q => some q)) (fun _ _ => rfl) (fun _ _ _ _ => rfl) (fun x hx => toCond_ok x (by have := wtL_mem (w := Cond.wt) hx; omega))
theorem eqCondS_ok (a b : List Cond) : d_laws_eqCondS a b = some (decide (a = b)) := by
  unfold d_laws_eqCondS
  exact eqL (c := Cond.c) (f := d_laws_eqCond) (fun k => d_laws_eqCondS_L1 a b k) (fun _ _ => rfl) (fun _ _ _ _ => rfl) eqCond_ok
def Action.wt (x : Action) : Nat := tw x.pat.rel + wtL tw x.pat.args
theorem szAction_ok (x : Action) (h : RdbL x.c) (v : Int) (h0 : 0 ≤ v) (h1 : v ≤ 1048576) : Szs (d_laws_szAction x v) v (Action.wt x) := by
  unfold d_laws_szAction
  refine Szs.eq (n := (Fact.wt x.pat + (0))) ?_ (by simp only [Action.wt, Fact.wt]; omega)
  refine (szPattern_ok x.pat (RdbL.sub h (by intro d hd; simp only [List.mem_cons, List.not_mem_nil, or_false] at hd ⊢; rcases hd with rfl | rfl <;> simp)) _ h0 h1).sub h1 h0 (m := 0) fun r1 g1 l1 => ?_
  exact Szs.fin
theorem toAction_ok (x : Action) (h : Action.wt x ≤ 1048576) : d_laws_toAction x = some x := by
  unfold d_laws_toAction
  simp only [toPattern_ok x.pat (by simp only [Action.wt, Fact.wt] at h ⊢; omega), Option.bind_some]
theorem eqAction_ok (a b : Action) : d_laws_eqAction a b = some (decide (a = b)) := by
  obtain ⟨a0, a1⟩ := a
  obtain ⟨b0, b1⟩ := b
  unfold d_laws_eqAction
  simp only [eqPattern_ok, Option.bind_some, beq_dec, bne]
  by_cases h0 : a0 = b0 <;> by_cases h1 : a1 = b1 <;> simp [h0, h1]
theorem szActionS_ok (l : List Action) (h : Rdb (.sl (l.map Action.c))) (v : Int) (h0 : 0 ≤ v) (h1 : v ≤ 1048576) : Szs (d_laws_szActionS l v) v (wtL Action.wt l) := by
  unfold d_laws_szActionS
  exact szS h h0 h1 fun v' g0 g1 => szL (w := Action.wt) (f := d_laws_szAction) (d_laws_szActionS_L1 l (fun z => some z)) (fun _ _ => rfl) (fun _ _ _ _ => rfl) l (fun x hx v g0 g1 => szAction_ok x (RdbL.row h x hx) v g0 g1) 0 v' g0 g1
theorem toActionS_ok (l : List Action) (h : wtL Action.wt l ≤ 1048576) : d_laws_toActionS l = some l := by
  unfold d_laws_toActionS
  rw [roomB (by rw [List.length_map]; exact Nat.le_trans (wtL_len _ _) h) (by decide)]
  exact toL (c := Action.c) (f := d_laws_toAction) (d_laws_toActionS_L1 l (fun q => some q)) (fun _ _ => rfl) (fun _ _ _ _ => rfl) (fun x hx => toAction_ok x (by have := wtL_mem (w := Action.wt) hx; omega))
theorem eqActionS_ok (a b : List Action) : d_laws_eqActionS a b = some (decide (a = b)) := by
  unfold d_laws_eqActionS
  exact eqL (c := Action.c) (f := d_laws_eqAction) (fun k => d_laws_eqActionS_L1 a b k) (fun _ _ => rfl) (fun _ _ _ _ => rfl) eqAction_ok
def Rule.wt (x : Rule) : Nat := tw x.name + wtL Cond.wt x.conds + wtL Action.wt x.acts
theorem szRule_ok (x : Rule) (h : RdbL x.c) (v : Int) (h0 : 0 ≤ v) (h1 : v ≤ 1048576) : Szs (d_laws_szRule x v) v (Rule.wt x) := by
  unfold d_laws_szRule
  refine Szs.eq (n := (tw x.name + (wtL Cond.wt x.conds + (wtL Action.wt x.acts + (0))))) ?_ (by simp only [Rule.wt]; omega)
  refine Szs.str (m := (wtL Cond.wt x.conds + (wtL Action.wt x.acts + (0)))) ((h (.str x.name) (by simp)).str) h0 h1 fun g1 e1 => ?_
  rw [e1]
  have l1 : v - (x.name.length : Int) ≤ 1048576 := by omega
  refine (szCondS_ok x.conds (h (.sl (x.conds.map Cond.c)) (by simp)) _ g1 l1).sub l1 g1 (m := (wtL Action.wt x.acts + (0))) fun r2 g2 l2 => ?_
  refine (szActionS_ok x.acts (h (.sl (x.acts.map Action.c)) (by simp)) _ g2 l2).sub l2 g2 (m := 0) fun r3 g3 l3 => ?_
  exact Szs.fin
theorem toRule_ok (x : Rule) (h : Rule.wt x ≤ 1048576) : d_laws_toRule x = some x := by
  unfold d_laws_toRule
  simp only [toCondS_ok x.conds (by simp only [Rule.wt] at h; omega), toActionS_ok x.acts (by simp only [Rule.wt] at h; omega), Option.bind_some]
theorem eqRule_ok (a b : Rule) : d_laws_eqRule a b = some (decide (a = b)) := by
  obtain ⟨a0, a1, a2, a3⟩ := a
  obtain ⟨b0, b1, b2, b3⟩ := b
  unfold d_laws_eqRule
  simp only [eqActionS_ok, eqCondS_ok, Option.bind_some, beq_dec, bne]
  by_cases h0 : a0 = b0 <;> by_cases h1 : a1 = b1 <;> by_cases h2 : a2 = b2 <;> by_cases h3 : a3 = b3 <;> simp [h0, h1, h2, h3]
theorem szRuleS_ok (l : List Rule) (h : Rdb (.sl (l.map Rule.c))) (v : Int) (h0 : 0 ≤ v) (h1 : v ≤ 1048576) : Szs (d_laws_szRuleS l v) v (wtL Rule.wt l) := by
  unfold d_laws_szRuleS
  exact szS h h0 h1 fun v' g0 g1 => szL (w := Rule.wt) (f := d_laws_szRule) (d_laws_szRuleS_L1 l (fun z => some z)) (fun _ _ => rfl) (fun _ _ _ _ => rfl) l (fun x hx v g0 g1 => szRule_ok x (RdbL.row h x hx) v g0 g1) 0 v' g0 g1
theorem toRuleS_ok (l : List Rule) (h : wtL Rule.wt l ≤ 1048576) : d_laws_toRuleS l = some l := by
  unfold d_laws_toRuleS
  rw [roomB (by rw [List.length_map]; exact Nat.le_trans (wtL_len _ _) h) (by decide)]
  exact toL (c := Rule.c) (f := d_laws_toRule) (d_laws_toRuleS_L1 l (fun q => some q)) (fun _ _ => rfl) (fun _ _ _ _ => rfl) (fun x hx => toRule_ok x (by have := wtL_mem (w := Rule.wt) hx; omega))
theorem eqRuleS_ok (a b : List Rule) : d_laws_eqRuleS a b = some (decide (a = b)) := by
  unfold d_laws_eqRuleS
  exact eqL (c := Rule.c) (f := d_laws_eqRule) (fun k => d_laws_eqRuleS_L1 a b k) (fun _ _ => rfl) (fun _ _ _ _ => rfl) eqRule_ok
def Token.wt (x : Token) : Nat := wtL Fact.wt x.facts + wtL Pair.wt x.bind
def Alpha.wt (x : Alpha) : Nat := tw x.shape.rel + wtL tw x.shape.args + wtL Fact.wt x.facts
def Node.wt (x : Node) : Nat := tw x.cond.pat.rel + wtL tw x.cond.pat.args + tw x.cond.left + tw x.cond.right + wtL Token.wt x.tokens
def Network.wt (x : Network) : Nat := wtL Rule.wt x.rules + wtL zw x.ends + wtL Alpha.wt x.alphas + wtL Node.wt x.nodes + wtL Fact.wt x.facts
end Go.Cx
