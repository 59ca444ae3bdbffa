/- SharedNodes: the program and the reference agree; the law returns true. No condition. -/
import Derived.Test.YteddjemiikgheaaGreatDoorPSharedNodesNLwS
import Derived.Test.YteddjemiikgheaaGreatDoorPSharedNodesNLawSharedNodes
namespace Go.Cx
open Go.RowKit Go.Proofs
set_option linter.unusedVariables false
set_option linter.unusedSimpArgs false
namespace LawSharedNodes
def sumC (v : Int) (x : Rule) : Int := IntKind.i64.wrap (v + ((x.conds.map Cond.c).length : Int))
theorem sL (a : List Rule) (y : Network × Bool) (k : Int → Option Int) : ∀ (l : List Rule) (i : Nat) (v : Int), d_spec_SharedNodes_L1 a y k l i v = k (l.foldl sumC v)
  | [], _, _ => rfl
  | x :: l, i, v => by rw [d_spec_SharedNodes_L1, sL a y k l]; rfl
theorem iL (a : List Rule) (k : Int → Option Int) : ∀ (l : List Rule) (i : Nat) (v : Int), d_impl_SharedNodes_L1 a k l i v = k (l.foldl sumC v)
  | [], _, _ => rfl
  | x :: l, i, v => by rw [d_impl_SharedNodes_L1, iL a k l]; rfl
theorem both (rs : List Rule) (h : wtL Rule.wt rs ≤ 1048576) : ∃ s, d_spec_SharedNodes rs = some s ∧ d_impl_SharedNodes rs = some s := by
  unfold d_spec_SharedNodes d_impl_SharedNodes
  rw [sEmpty rs h, iAre rs h, Option.bind_some, Option.bind_some]
  cases hb : areB rs with
  | false => exact ⟨-1, rfl, rfl⟩
  | true =>
    simp only [cond_true, Bool.not_true, cond_false]
    rw [sL, iL, iStr rs h hb, Option.bind_some]
    have e : ((strB [⟨[], []⟩] rs).1.2.map Node.c).length = ((strB [] rs).1.2.map Node.c).length := by
      rw [List.length_map, List.length_map, strB_root, strB_root]; rfl
    exact ⟨_, rfl, by rw [e]⟩
theorem law_ok (rs : List Rule) (hrs : Rdb (.sl (rs.map Rule.c))) : d_laws_FnExactSharedNodes rs = some true := by
  unfold d_laws_FnExactSharedNodes
  obtain ⟨r0, e0, l0, w0⟩ := szRuleS_ok rs hrs 1048576 (by omega) (by omega)
  rw [e0, Option.bind_some]
  by_cases c0 : r0 < 0
  · simp [c0]
  have n0 : decide ((r0 : Int) < 0) = false := decide_eq_false c0
  rw [n0, cond_false]
  have w0 := w0 (by omega)
  have hw : wtL Rule.wt rs ≤ 1048576 := by omega
  obtain ⟨s, es, ei⟩ := both rs (by omega)
  simp only [es, ei, toRuleS_ok rs (by omega), eqRuleS_ok, Option.bind_some, decide_true, Bool.not_true, Bool.not_false, cond_false, cond_true, bne_self_eq_false, beq_self_eq_true]
theorem law_good (rs : List Rule) : Good Tryz.prog 4 [.sl (rs.map Rule.c)] (.bool true) :=
  Good.of_rdb ⟨_, Tryz.func4, rfl, by decide⟩ fun h => d_laws_FnExactSharedNodes_good (law_ok rs (h _ (by simp)))
end LawSharedNodes
end Go.Cx
