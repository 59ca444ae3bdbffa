/- Chapters 2 to 5 in plain words: facts, patterns, conditions, rules, as the program and the reference read them. No condition but bounds on sizes. -/
import Derived.Test.YtapddeddalcppaaDoorPPlainCondsNLwA
namespace Go.Cx
open Go.RowKit Go.Proofs
set_option linter.unusedVariables false
set_option linter.unusedSimpArgs false
theorem Fact.args_le {p : Fact} {n : Nat} (h : p.wt ≤ n) : p.args.length ≤ n := by unfold Fact.wt at h; have := wtL_len tw p.args; omega
theorem Fact.arg_le {p : Fact} {n : Nat} (h : p.wt ≤ n) {x : Bytes} (hx : x ∈ p.args) : x.length ≤ n := by unfold Fact.wt at h; have := wtL_mem (w := tw) hx; have e : tw x = x.length := rfl; omega
theorem Cond.pat_le {c : Cond} {n : Nat} (h : c.wt ≤ n) : c.pat.wt ≤ n := by simp only [Cond.wt, Fact.wt] at h ⊢; omega
theorem Cond.left_le {c : Cond} {n : Nat} (h : c.wt ≤ n) : c.left.length ≤ n := by simp only [Cond.wt, tw] at h; omega
theorem Cond.right_le {c : Cond} {n : Nat} (h : c.wt ≤ n) : c.right.length ≤ n := by simp only [Cond.wt, tw] at h; omega
theorem Action.pat_le {c : Action} {n : Nat} (h : c.wt ≤ n) : c.pat.wt ≤ n := by simp only [Action.wt, Fact.wt] at h ⊢; omega
theorem Rule.conds_le {r : Rule} {n : Nat} (h : r.wt ≤ n) : wtL Cond.wt r.conds ≤ n := by simp only [Rule.wt] at h; omega
theorem Rule.cond_le {r : Rule} {n : Nat} (h : r.wt ≤ n) {c : Cond} (hc : c ∈ r.conds) : c.wt ≤ n := by have := Rule.conds_le h; have := wtL_mem (w := Cond.wt) hc; omega
theorem iTerms (c : Cond) (h : c.wt ≤ 1048576) : d_impl_termsOf c = some (c.pat.args ++ [c.left, c.right]) := by
  unfold d_impl_termsOf
  have h1 := Fact.args_le (Cond.pat_le h)
  rw [iTexts _ (by omega), Option.bind_some]
  rw [roomK (by simp; omega) (by decide)]
  rfl
end Go.Cx
