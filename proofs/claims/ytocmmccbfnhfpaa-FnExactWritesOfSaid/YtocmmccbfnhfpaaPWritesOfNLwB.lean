/- Chapters 2 to 5 in plain words: facts, patterns, conditions, rules, as the program and the reference read them. No condition but bounds on sizes. -/
import Derived.Test.YtocmmccbfnhfpaaPWritesOfNLwA
namespace Go.Cx
open Go.RowKit Go.Proofs
set_option linter.unusedVariables false
set_option linter.unusedSimpArgs false
theorem Rule.acts_le {r : Rule} {n : Nat} (h : r.wt ≤ n) : wtL Action.wt r.acts ≤ n := by simp only [Rule.wt] at h; omega
end Go.Cx
