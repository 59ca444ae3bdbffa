/- FactsIn: the program and the reference agree; the law returns true. No condition. -/
import Derived.Test.YtocmmccbfnhfpaaPFactsInNLwD
import Derived.Test.YtocmmccbfnhfpaaPFactsInNLawFactsIn
namespace Go.Cx
open Go.RowKit Go.Proofs
set_option linter.unusedVariables false
set_option linter.unusedSimpArgs false
namespace LawFactsIn
theorem both (l : List Stamp) (h : wtL Stamp.wt l ≤ 1048576) : ∃ s, d_spec_FactsIn l = some s ∧ d_impl_FactsIn l = some s ∧ (mkL Fact.mks s : Int) ≤ 4611686018427387000 := by
  refine ⟨_, sFactsIn l h, iFactsIn l h, ?_⟩
  have h1 := mkL_le Fact.mks Fact.wt (l.map Stamp.fact) (fun y => Fact.mks_le y)
  have h2 := wtL_facts l
  omega
theorem law_ok (l : List Stamp) (hl : Rdb (.sl (l.map Stamp.c))) : d_laws_FnExactFactsIn l = some true := by
  unfold d_laws_FnExactFactsIn
  obtain ⟨r0, e0, l0, w0⟩ := szStampS_ok l hl 1048576 (by omega) (by omega)
  rw [e0, Option.bind_some]
  by_cases c0 : r0 < 0
  · simp [c0]
  have n0 : decide ((r0 : Int) < 0) = false := decide_eq_false c0
  rw [n0, cond_false]
  have w0 := w0 (by omega)
  have hw : wtL Stamp.wt l ≤ 1048576 := by omega
  obtain ⟨s, es, ei, hm⟩ := both l (by omega)
  have b0 := mkL_le Stamp.mks Stamp.wt (l) (fun y => Stamp.mks_le y)
  obtain ⟨x0, m0, _⟩ := mkStampS_ok l (1) (by omega) (by omega)
  obtain ⟨g0, p0, q0⟩ := mkFactS_ok s (1) (by omega) (by omega)
  have neg0 : decide (((1 + ((mkL Stamp.mks (l) : Nat) : Int)) : Int) < 0) = false := decide_eq_false (by omega)
  have neg1 : decide (((1 + ((mkL Fact.mks (s) : Nat) : Int)) : Int) < 0) = false := decide_eq_false (by omega)
  simp only [es, ei, toStampS_ok l (by omega), eqStampS_ok, m0, p0, q0, eqFactS_ok, neg0, neg1, Option.bind_some, decide_true, Bool.not_true, Bool.not_false, cond_false, cond_true, bne_self_eq_false, beq_self_eq_true]
theorem law_good (l : List Stamp) : Good Try.prog 3 [.sl (l.map Stamp.c)] (.bool true) :=
  Good.of_rdb ⟨_, Try.func3, rfl, by decide⟩ fun h => d_laws_FnExactFactsIn_good (law_ok l (h _ (by simp)))
end LawFactsIn
end Go.Cx
