/- FormatRule: the program and the reference agree; the law returns true. No condition. -/
import Derived.Test.YtdckcgjimblpkaaGreatDoorPFormatRuleNLwI
import Derived.Test.YtdckcgjimblpkaaGreatDoorPFormatRuleNLawFormatRule
namespace Go.Cx
open Go.RowKit Go.Proofs
set_option linter.unusedVariables false
set_option linter.unusedSimpArgs false
namespace LawFormatRule
theorem both (r : Rule) (h : r.wt ≤ 1048576) : ∃ s, d_spec_FormatRule r = some s ∧ d_impl_FormatRule r = some s := ⟨_, sFmtRule r h, iFmtRule r h⟩
theorem law_ok (r : Rule) (hr : RdbL (Rule.c r)) : d_laws_FnExactFormatRule r = some true := by
  unfold d_laws_FnExactFormatRule
  obtain ⟨r0, e0, l0, w0⟩ := szRule_ok r hr 1048576 (by omega) (by omega)
  rw [e0, Option.bind_some]
  by_cases c0 : r0 < 0
  · simp [c0]
  have n0 : decide ((r0 : Int) < 0) = false := decide_eq_false c0
  rw [n0, cond_false]
  have w0 := w0 (by omega)
  have hw : Rule.wt r ≤ 1048576 := by omega
  obtain ⟨s, es, ei⟩ := both r (by omega)
  simp only [es, ei, toRule_ok r (by omega), eqRule_ok, Option.bind_some, decide_true, Bool.not_true, Bool.not_false, cond_false, cond_true, bne_self_eq_false, beq_self_eq_true]
theorem law_good (r : Rule) : Good Tryz.prog 4 [.agg (Rule.c r)] (.bool true) :=
  Good.of_rdb ⟨_, Tryz.func4, rfl, by decide⟩ fun h => d_laws_FnExactFormatRule_good (law_ok r (Rdb.agg (h _ (by simp))))
end LawFormatRule
end Go.Cx
