/- SameMemories: the program and the reference agree; the law returns true. No condition. -/
import Derived.Test.YtocmmccbfnhfpaaPSameMemoriesNLwD
import Derived.Test.YtocmmccbfnhfpaaPSameMemoriesNLawSameMemories
namespace Go.Cx
open Go.RowKit Go.Proofs
set_option linter.unusedVariables false
set_option linter.unusedSimpArgs false
namespace LawSameMemories
theorem both (a b : Network) (h : a.wt + b.wt ≤ 1048576) : ∃ s, d_spec_SameMemories a b = some s ∧ d_impl_SameMemories a b = some s := ⟨_, sMem a b, iMem a b⟩
theorem law_ok (a : Network) (b : Network) (ha : RdbL (Network.c a)) (hb : RdbL (Network.c b)) : d_laws_FnExactSameMemories a b = some true := by
  unfold d_laws_FnExactSameMemories
  obtain ⟨r0, e0, l0, w0⟩ := szNetwork_ok a ha 1048576 (by omega) (by omega)
  rw [e0, Option.bind_some]
  by_cases c0 : r0 < 0
  · simp [c0]
  have n0 : decide ((r0 : Int) < 0) = false := decide_eq_false c0
  rw [n0, cond_false]
  have w0 := w0 (by omega)
  obtain ⟨r1, e1, l1, w1⟩ := szNetwork_ok b hb r0 (by omega) (by omega)
  rw [e1, Option.bind_some]
  by_cases c1 : r1 < 0
  · simp [c1]
  have n1 : decide ((r1 : Int) < 0) = false := decide_eq_false c1
  rw [n1, cond_false]
  have w1 := w1 (by omega)
  have hw : Network.wt a + Network.wt b ≤ 1048576 := by omega
  obtain ⟨s, es, ei⟩ := both a b (by omega)
  simp only [es, ei, toNetwork_ok a (by omega), eqNetwork_ok, toNetwork_ok b (by omega), Option.bind_some, decide_true, Bool.not_true, Bool.not_false, cond_false, cond_true, bne_self_eq_false, beq_self_eq_true]
theorem law_good (a : Network) (b : Network) : Good Try.prog 11 [.agg (Network.c a), .agg (Network.c b)] (.bool true) :=
  Good.of_rdb ⟨_, Try.func11, rfl, by decide⟩ fun h => d_laws_FnExactSameMemories_good (law_ok a b (Rdb.agg (h _ (by simp))) (Rdb.agg (h _ (by simp))))
end LawSameMemories
end Go.Cx
