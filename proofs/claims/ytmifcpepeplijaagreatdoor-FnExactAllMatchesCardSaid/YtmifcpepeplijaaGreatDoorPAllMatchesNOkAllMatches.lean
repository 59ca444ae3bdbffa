/- AllMatches: the program and the reference agree; the law returns true. No condition. -/
import Derived.Test.YtmifcpepeplijaaGreatDoorPAllMatchesNLwP
import Derived.Test.YtmifcpepeplijaaGreatDoorPAllMatchesNLawAllMatches
namespace Go.Cx
open Go.RowKit Go.Proofs
set_option linter.unusedVariables false
set_option linter.unusedSimpArgs false
namespace LawAllMatches
theorem both (rs : List Rule) (fs : List Fact) (h : wtL Rule.wt rs + wtL Fact.wt fs ≤ 1048576) : ∃ s, d_spec_AllMatches rs fs = some s ∧ d_impl_AllMatches rs fs = some s ∧ (mkL Match.mks s : Int) ≤ 4611686018427387000 := by
  refine ⟨_, sAllM rs fs (by omega) (by omega), iAllM rs fs (by omega) (by omega), ?_⟩
  unfold allB
  cases hb : areB rs with
  | false => simp [mkL]
  | true =>
    have h6 := areB_len hb
    have h1 := mkL_bound (m := Match.mks) (B := 100000000) (rs.flatMap fun r => mtB r fs) (fun m hm => by
      obtain ⟨r, hr, hm⟩ := List.mem_flatMap.1 hm
      exact mkMts_one r fs (by have := wtL_mem (w := Rule.wt) hr; omega) (by omega) m hm)
    have h2 := flat_len fs rs
    rw [cond_true]
    have h3 : 100000000 * (rs.flatMap fun r => mtB r fs).length ≤ 100000000 * 2343750 := Nat.mul_le_mul_left _ (by omega)
    omega
theorem law_ok (rs : List Rule) (fs : List Fact) (hrs : Rdb (.sl (rs.map Rule.c))) (hfs : Rdb (.sl (fs.map Fact.c))) : d_laws_FnExactAllMatches rs fs = some true := by
  unfold d_laws_FnExactAllMatches
  obtain ⟨r0, e0, l0, w0⟩ := szRuleS_ok rs hrs 1048576 (by omega) (by omega)
  rw [e0, Option.bind_some]
  by_cases c0 : r0 < 0
  · simp [c0]
  have n0 : decide ((r0 : Int) < 0) = false := decide_eq_false c0
  rw [n0, cond_false]
  have w0 := w0 (by omega)
  obtain ⟨r1, e1, l1, w1⟩ := szFactS_ok fs hfs r0 (by omega) (by omega)
  rw [e1, Option.bind_some]
  by_cases c1 : r1 < 0
  · simp [c1]
  have n1 : decide ((r1 : Int) < 0) = false := decide_eq_false c1
  rw [n1, cond_false]
  have w1 := w1 (by omega)
  have hw : wtL Rule.wt rs + wtL Fact.wt fs ≤ 1048576 := by omega
  obtain ⟨s, es, ei, hm⟩ := both rs fs (by omega)
  have b0 := mkL_le Rule.mks Rule.wt (rs) (fun y => Rule.mks_le y)
  obtain ⟨x0, m0, _⟩ := mkRuleS_ok rs (1) (by omega) (by omega)
  have b1 := mkL_le Fact.mks Fact.wt (fs) (fun y => Fact.mks_le y)
  obtain ⟨x1, m1, _⟩ := mkFactS_ok fs (1 + ((mkL Rule.mks (rs) : Nat) : Int)) (by omega) (by omega)
  obtain ⟨g0, p0, q0⟩ := mkMatchS_ok s (1) (by omega) (by omega)
  have neg0 : decide (((1 + ((mkL Rule.mks (rs) : Nat) : Int) + ((mkL Fact.mks (fs) : Nat) : Int)) : Int) < 0) = false := decide_eq_false (by omega)
  have neg1 : decide (((1 + ((mkL Match.mks (s) : Nat) : Int)) : Int) < 0) = false := decide_eq_false (by omega)
  simp only [es, ei, toRuleS_ok rs (by omega), eqRuleS_ok, toFactS_ok fs (by omega), eqFactS_ok, m0, m1, p0, q0, eqMatchS_ok, neg0, neg1, Option.bind_some, decide_true, Bool.not_true, Bool.not_false, cond_false, cond_true, bne_self_eq_false, beq_self_eq_true]
theorem law_good (rs : List Rule) (fs : List Fact) : Good Tryz.prog 7 [.sl (rs.map Rule.c), .sl (fs.map Fact.c)] (.bool true) :=
  Good.of_rdb ⟨_, Tryz.func7, rfl, by decide⟩ fun h => d_laws_FnExactAllMatches_good (law_ok rs fs (h _ (by simp)) (h _ (by simp)))
end LawAllMatches
end Go.Cx
