/- CompareTokens: the program and the reference agree; the law returns true. No condition. -/
import Derived.Test.YtamlfpljmobdoaaDoorPCompareTokensNLwF
import Derived.Test.YtamlfpljmobdoaaDoorPCompareTokensNLawCompareTokens
namespace Go.Cx
open Go.RowKit Go.Proofs
set_option linter.unusedVariables false
set_option linter.unusedSimpArgs false
namespace LawCompareTokens
theorem both (a b : Token) (h : a.wt + b.wt ≤ 1048576) : ∃ s, d_spec_CompareTokens a b = some s ∧ d_impl_CompareTokens a b = some s := ⟨_, sCmpK a b, iCmpK a b⟩
theorem law_ok (a : Token) (b : Token) (ha : RdbL (Token.c a)) (hb : RdbL (Token.c b)) : d_laws_FnExactCompareTokens a b = some true := by
  unfold d_laws_FnExactCompareTokens
  obtain ⟨r0, e0, l0, w0⟩ := szToken_ok a ha 1048576 (by omega) (by omega)
  rw [e0, Option.bind_some]
  by_cases c0 : r0 < 0
  · simp [c0]
  have n0 : decide ((r0 : Int) < 0) = false := decide_eq_false c0
  rw [n0, cond_false]
  have w0 := w0 (by omega)
  obtain ⟨r1, e1, l1, w1⟩ := szToken_ok b hb r0 (by omega) (by omega)
  rw [e1, Option.bind_some]
  by_cases c1 : r1 < 0
  · simp [c1]
  have n1 : decide ((r1 : Int) < 0) = false := decide_eq_false c1
  rw [n1, cond_false]
  have w1 := w1 (by omega)
  have hw : Token.wt a + Token.wt b ≤ 1048576 := by omega
  obtain ⟨s, es, ei⟩ := both a b (by omega)
  simp only [es, ei, toToken_ok a (by omega), eqToken_ok, toToken_ok b (by omega), Option.bind_some, decide_true, Bool.not_true, Bool.not_false, cond_false, cond_true, bne_self_eq_false, beq_self_eq_true]
theorem law_good (a : Token) (b : Token) : Good Tryd.prog 3 [.agg (Token.c a), .agg (Token.c b)] (.bool true) :=
  Good.of_rdb ⟨_, Tryd.func3, rfl, by decide⟩ fun h => d_laws_FnExactCompareTokens_good (law_ok a b (Rdb.agg (h _ (by simp))) (Rdb.agg (h _ (by simp))))
end LawCompareTokens
end Go.Cx
