/- Chapters 2 to 5 in plain words: facts, patterns, conditions, rules, as the program and the reference read them. No condition but bounds on sizes. -/
import Derived.Test.YtocmmccbfnhfpaaPTimesOfNLwA
namespace Go.Cx
open Go.RowKit Go.Proofs
set_option linter.unusedVariables false
set_option linter.unusedSimpArgs false
theorem sSameF (a b : Fact) : d_spec_l2Same a b = some (decide (a = b)) := by
  obtain ⟨a0, a1⟩ := a; obtain ⟨b0, b1⟩ := b
  unfold d_spec_l2Same
  simp only [sSameT, Option.bind_some, beq_dec]
  by_cases h0 : a0 = b0 <;> by_cases h1 : a1 = b1 <;> simp [h0, h1]
theorem iSameF (a b : Fact) : d_impl_sameFact a b = some (decide (a = b)) := by
  obtain ⟨a0, a1⟩ := a; obtain ⟨b0, b1⟩ := b
  unfold d_impl_sameFact
  simp only [iSameT, Option.bind_some, beq_dec]
  by_cases h0 : a0 = b0 <;> by_cases h1 : a1 = b1 <;> simp [h0, h1]
end Go.Cx
