/- PlainTries: the program and the reference agree; the law returns true. No condition. -/
import Derived.Test.YtdckcgjimblpkaaGreatDoorPPlainTriesNLwH
import Derived.Test.YtdckcgjimblpkaaGreatDoorPPlainTriesNLawPlainTries
namespace Go.Cx
open Go.RowKit Go.Proofs
set_option linter.unusedVariables false
set_option linter.unusedSimpArgs false
namespace LawPlainTries
theorem both (rs : List Rule) (fs : List Fact) (h : wtL Rule.wt rs + wtL Fact.wt fs ≤ 1048576) : ∃ s, d_spec_PlainTries rs fs = some s ∧ d_impl_PlainTries rs fs = some s := ⟨_, sTries rs fs (by omega) (by omega), iTries rs fs (by omega) (by omega)⟩
theorem law_ok (rs : List Rule) (fs : List Fact) (hrs : Rdb (.sl (rs.map Rule.c))) (hfs : Rdb (.sl (fs.map Fact.c))) : d_laws_FnExactPlainTries rs fs = some true := by
  unfold d_laws_FnExactPlainTries
  obtain ⟨r0, e0, l0, w0⟩ := szRuleS_ok rs hrs 1048576 (by omega) (by omega)
  rw [e0, Option.bind_some]
  by_cases c0 : r0 < 0
  · simp [c0]
  have n0 : decide ((r0 : Int) < 0) = false := decide_eq_false c0
  rw [n0, cond_false]
  have w0 := w0 (by omega)
  obtain ⟨r1, e1, l1, w1⟩ := szFactS_ok fs hfs r0 (by omega) (by omega)
  rw [e1, Option.bind_some]
  by_cases c1 : r1 < 0
  · simp [c1]
  have n1 : decide ((r1 : Int) < 0) = false := decide_eq_false c1
  rw [n1, cond_false]
  have w1 := w1 (by omega)
  have hw : wtL Rule.wt rs + wtL Fact.wt fs ≤ 1048576 := by omega
  obtain ⟨s, es, ei⟩ := both rs fs (by omega)
  simp only [es, ei, toRuleS_ok rs (by omega), eqRuleS_ok, toFactS_ok fs (by omega), eqFactS_ok, Option.bind_some, decide_true, Bool.not_true, Bool.not_false, cond_false, cond_true, bne_self_eq_false, beq_self_eq_true]
theorem law_good (rs : List Rule) (fs : List Fact) : Good Tryz.prog 7 [.sl (rs.map Rule.c), .sl (fs.map Fact.c)] (.bool true) :=
  Good.of_rdb ⟨_, Tryz.func7, rfl, by decide⟩ fun h => d_laws_FnExactPlainTries_good (law_ok rs fs (h _ (by simp)) (h _ (by simp)))
end LawPlainTries
end Go.Cx
