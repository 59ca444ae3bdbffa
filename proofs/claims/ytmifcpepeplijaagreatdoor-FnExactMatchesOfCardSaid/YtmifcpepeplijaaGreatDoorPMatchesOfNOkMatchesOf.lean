/- MatchesOf: the program and the reference agree; the law returns true. No condition. -/
import Derived.Test.YtmifcpepeplijaaGreatDoorPMatchesOfNLwP
import Derived.Test.YtmifcpepeplijaaGreatDoorPMatchesOfNLawMatchesOf
namespace Go.Cx
open Go.RowKit Go.Proofs
set_option linter.unusedVariables false
set_option linter.unusedSimpArgs false
namespace LawMatchesOf
theorem both (r : Rule) (fs : List Fact) (h : r.wt + wtL Fact.wt fs ≤ 1048576) : ∃ s, d_spec_MatchesOf r fs = some s ∧ d_impl_MatchesOf r fs = some s ∧ (mkL Match.mks s : Int) ≤ 4611686018427387000 := by
  refine ⟨_, sMts r fs (by omega) (by omega), iMts r fs (by omega) (by omega), ?_⟩
  have := mkMts_le r fs (by omega) (by omega)
  omega
theorem law_ok (r : Rule) (fs : List Fact) (hr : RdbL (Rule.c r)) (hfs : Rdb (.sl (fs.map Fact.c))) : d_laws_FnExactMatchesOf r fs = some true := by
  unfold d_laws_FnExactMatchesOf
  obtain ⟨r0, e0, l0, w0⟩ := szRule_ok r hr 1048576 (by omega) (by omega)
  rw [e0, Option.bind_some]
  by_cases c0 : r0 < 0
  · simp [c0]
  have n0 : decide ((r0 : Int) < 0) = false := decide_eq_false c0
  rw [n0, cond_false]
  have w0 := w0 (by omega)
  obtain ⟨r1, e1, l1, w1⟩ := szFactS_ok fs hfs r0 (by omega) (by omega)
  rw [e1, Option.bind_some]
  by_cases c1 : r1 < 0
  · simp [c1]
  have n1 : decide ((r1 : Int) < 0) = false := decide_eq_false c1
  rw [n1, cond_false]
  have w1 := w1 (by omega)
  have hw : Rule.wt r + wtL Fact.wt fs ≤ 1048576 := by omega
  obtain ⟨s, es, ei, hm⟩ := both r fs (by omega)
  have b0 := Rule.mksN_le (r)
  obtain ⟨x0, m0, _⟩ := mkRule_ok r (1) (by omega) (by omega)
  have b1 := mkL_le Fact.mks Fact.wt (fs) (fun y => Fact.mks_le y)
  obtain ⟨x1, m1, _⟩ := mkFactS_ok fs (1 + ((Rule.mksN (r) : Nat) : Int)) (by omega) (by omega)
  obtain ⟨g0, p0, q0⟩ := mkMatchS_ok s (1) (by omega) (by omega)
  have neg0 : decide (((1 + ((Rule.mksN (r) : Nat) : Int) + ((mkL Fact.mks (fs) : Nat) : Int)) : Int) < 0) = false := decide_eq_false (by omega)
  have neg1 : decide (((1 + ((mkL Match.mks (s) : Nat) : Int)) : Int) < 0) = false := decide_eq_false (by omega)
  simp only [es, ei, toRule_ok r (by omega), eqRule_ok, toFactS_ok fs (by omega), eqFactS_ok, m0, m1, p0, q0, eqMatchS_ok, neg0, neg1, Option.bind_some, decide_true, Bool.not_true, Bool.not_false, cond_false, cond_true, bne_self_eq_false, beq_self_eq_true]
theorem law_good (r : Rule) (fs : List Fact) : Good Tryz.prog 6 [.agg (Rule.c r), .sl (fs.map Fact.c)] (.bool true) :=
  Good.of_rdb ⟨_, Tryz.func6, rfl, by decide⟩ fun h => d_laws_FnExactMatchesOf_good (law_ok r fs (Rdb.agg (h _ (by simp))) (h _ (by simp)))
end LawMatchesOf
end Go.Cx
