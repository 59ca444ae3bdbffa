/- Bindings, matching, conditions that hold, and tokens in plain words: of the program and of the reference. No condition but bounds on sizes. -/
import Derived.Test.YtpglgncmlcpgdaaPFnRuleVarsNLwF
namespace Go.Cx
open Go.RowKit Go.Proofs
set_option linter.unusedVariables false
set_option linter.unusedSimpArgs false
/-! bindings -/
def PB (b : List Pair) : Prop := b.length ≤ 1048576 ∧ ∀ x ∈ b, x.var.length ≤ 1048576 ∧ x.value.length ≤ 1048576
theorem PB.nil : PB [] := ⟨by simp, by simp⟩
/-! matching -/
/-! tests, and conditions that hold -/
def FS (fs : List Fact) : Prop := fs.length ≤ 1048576 ∧ ∀ f ∈ fs, f.wt ≤ 1048576
theorem FS.of {fs : List Fact} (h : wtL Fact.wt fs ≤ 1048576) : FS fs := ⟨by have := wtL_len Fact.wt fs; omega, fun f hf => by have := wtL_mem (w := Fact.wt) hf; omega⟩
end Go.Cx
