/- Chapters 2 to 5 in plain words: facts, patterns, conditions, rules, as the program and the reference read them. No condition but bounds on sizes. -/
import Derived.Test.YtocmmccbfnhfpaaPFactsInNLwA
namespace Go.Cx
open Go.RowKit Go.Proofs
set_option linter.unusedVariables false
set_option linter.unusedSimpArgs false
theorem Fact.args_le {p : Fact} {n : Nat} (h : p.wt ≤ n) : p.args.length ≤ n := by unfold Fact.wt at h; have := wtL_len tw p.args; omega
theorem sCopyF (f : Fact) (h : f.args.length ≤ 1099511627776) : d_spec_l2Copy f = some f := by
  unfold d_spec_l2Copy; rw [sTexts _ h]; rfl
theorem iCopyF (f : Fact) (h : f.args.length ≤ 1099511627776) : d_impl_copyFact f = some f := by
  unfold d_impl_copyFact; rw [iTexts _ h]; rfl
end Go.Cx
