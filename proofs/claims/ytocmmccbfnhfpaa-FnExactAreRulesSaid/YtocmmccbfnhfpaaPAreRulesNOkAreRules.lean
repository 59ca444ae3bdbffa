/- AreRules: the program and the reference agree; the law returns true. No condition. -/
import Derived.Test.YtocmmccbfnhfpaaPAreRulesNLwD
import Derived.Test.YtocmmccbfnhfpaaPAreRulesNLawAreRules
namespace Go.Cx
open Go.RowKit Go.Proofs
set_option linter.unusedVariables false
set_option linter.unusedSimpArgs false
namespace LawAreRules
theorem both (l : List Rule) (h : wtL Rule.wt l ≤ 1048576) : ∃ s, d_spec_AreRules l = some s ∧ d_impl_AreRules l = some s := ⟨_, sAre l h, iAre l h⟩
theorem law_ok (l : List Rule) (hl : Rdb (.sl (l.map Rule.c))) : d_laws_FnExactAreRules l = some true := by
  unfold d_laws_FnExactAreRules
  obtain ⟨r0, e0, l0, w0⟩ := szRuleS_ok l hl 1048576 (by omega) (by omega)
  rw [e0, Option.bind_some]
  by_cases c0 : r0 < 0
  · simp [c0]
  have n0 : decide ((r0 : Int) < 0) = false := decide_eq_false c0
  rw [n0, cond_false]
  have w0 := w0 (by omega)
  have hw : wtL Rule.wt l ≤ 1048576 := by omega
  obtain ⟨s, es, ei⟩ := both l (by omega)
  simp only [es, ei, toRuleS_ok l (by omega), eqRuleS_ok, Option.bind_some, decide_true, Bool.not_true, Bool.not_false, cond_false, cond_true, bne_self_eq_false, beq_self_eq_true]
theorem law_good (l : List Rule) : Good Try.prog 14 [.sl (l.map Rule.c)] (.bool true) :=
  Good.of_rdb ⟨_, Try.func14, rfl, by decide⟩ fun h => d_laws_FnExactAreRules_good (law_ok l (h _ (by simp)))
end LawAreRules
end Go.Cx
