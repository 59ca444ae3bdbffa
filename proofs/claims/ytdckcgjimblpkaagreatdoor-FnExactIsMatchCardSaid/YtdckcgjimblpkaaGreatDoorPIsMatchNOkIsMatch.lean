/- IsMatch: the program and the reference agree; the law returns true. No condition. -/
import Derived.Test.YtdckcgjimblpkaaGreatDoorPIsMatchNLwH
import Derived.Test.YtdckcgjimblpkaaGreatDoorPIsMatchNLawIsMatch
namespace Go.Cx
open Go.RowKit Go.Proofs
set_option linter.unusedVariables false
set_option linter.unusedSimpArgs false
namespace LawIsMatch
theorem both (r : Rule) (fs : List Fact) (m : Match) (h : r.wt + wtL Fact.wt fs + m.wt ≤ 1048576) : ∃ s, d_spec_IsMatch r fs m = some s ∧ d_impl_IsMatch r fs m = some s := ⟨_, sIsM r fs m (by omega) (by omega), iIsM r fs m (by omega) (by omega)⟩
theorem law_ok (r : Rule) (fs : List Fact) (m : Match) (hr : RdbL (Rule.c r)) (hfs : Rdb (.sl (fs.map Fact.c))) (hm : RdbL (Match.c m)) : d_laws_FnExactIsMatch r fs m = some true := by
  unfold d_laws_FnExactIsMatch
  obtain ⟨r0, e0, l0, w0⟩ := szRule_ok r hr 1048576 (by omega) (by omega)
  rw [e0, Option.bind_some]
  by_cases c0 : r0 < 0
  · simp [c0]
  have n0 : decide ((r0 : Int) < 0) = false := decide_eq_false c0
  rw [n0, cond_false]
  have w0 := w0 (by omega)
  obtain ⟨r1, e1, l1, w1⟩ := szFactS_ok fs hfs r0 (by omega) (by omega)
  rw [e1, Option.bind_some]
  by_cases c1 : r1 < 0
  · simp [c1]
  have n1 : decide ((r1 : Int) < 0) = false := decide_eq_false c1
  rw [n1, cond_false]
  have w1 := w1 (by omega)
  obtain ⟨r2, e2, l2, w2⟩ := szMatch_ok m hm r1 (by omega) (by omega)
  rw [e2, Option.bind_some]
  by_cases c2 : r2 < 0
  · simp [c2]
  have n2 : decide ((r2 : Int) < 0) = false := decide_eq_false c2
  rw [n2, cond_false]
  have w2 := w2 (by omega)
  have hw : Rule.wt r + wtL Fact.wt fs + Match.wt m ≤ 1048576 := by omega
  obtain ⟨s, es, ei⟩ := both r fs m (by omega)
  simp only [es, ei, toRule_ok r (by omega), eqRule_ok, toFactS_ok fs (by omega), eqFactS_ok, toMatch_ok m (by omega), eqMatch_ok, Option.bind_some, decide_true, Bool.not_true, Bool.not_false, cond_false, cond_true, bne_self_eq_false, beq_self_eq_true]
theorem law_good (r : Rule) (fs : List Fact) (m : Match) : Good Tryz.prog 8 [.agg (Rule.c r), .sl (fs.map Fact.c), .agg (Match.c m)] (.bool true) :=
  Good.of_rdb ⟨_, Tryz.func8, rfl, by decide⟩ fun h => d_laws_FnExactIsMatch_good (law_ok r fs m (Rdb.agg (h _ (by simp))) (h _ (by simp)) (Rdb.agg (h _ (by simp))))
end LawIsMatch
end Go.Cx
