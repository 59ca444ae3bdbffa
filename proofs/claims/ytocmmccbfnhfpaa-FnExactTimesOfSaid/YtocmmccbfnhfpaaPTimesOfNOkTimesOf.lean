/- TimesOf: the program and the reference agree; the law returns true. No condition. -/
import Derived.Test.YtocmmccbfnhfpaaPTimesOfNLwD
import Derived.Test.YtocmmccbfnhfpaaPTimesOfNLawTimesOf
namespace Go.Cx
open Go.RowKit Go.Proofs
set_option linter.unusedVariables false
set_option linter.unusedSimpArgs false
namespace LawTimesOf
theorem mk_len {α : Type} (l : List α) : mkL (fun _ => 1) l = l.length := by
  induction l with
  | nil => rfl
  | cons x l ih => rw [mkL_cons, ih, List.length_cons]; omega
theorem both (l : List Stamp) (fs : List Fact) (h : wtL Stamp.wt l + wtL Fact.wt fs ≤ 1048576) : ∃ s, d_spec_TimesOf l fs = some s ∧ d_impl_TimesOf l fs = some s ∧ (mkL (fun _ => 1) s : Int) ≤ 4611686018427387000 := by
  have hl := wtL_len Fact.wt fs
  refine ⟨_, sTimes l fs (by omega), iTimes l fs (by omega), ?_⟩
  rw [mk_len, List.length_map]
  omega
theorem law_ok (l : List Stamp) (fs : List Fact) (hl : Rdb (.sl (l.map Stamp.c))) (hfs : Rdb (.sl (fs.map Fact.c))) : d_laws_FnExactTimesOf l fs = some true := by
  unfold d_laws_FnExactTimesOf
  obtain ⟨r0, e0, l0, w0⟩ := szStampS_ok l hl 1048576 (by omega) (by omega)
  rw [e0, Option.bind_some]
  by_cases c0 : r0 < 0
  · simp [c0]
  have n0 : decide ((r0 : Int) < 0) = false := decide_eq_false c0
  rw [n0, cond_false]
  have w0 := w0 (by omega)
  obtain ⟨r1, e1, l1, w1⟩ := szFactS_ok fs hfs r0 (by omega) (by omega)
  rw [e1, Option.bind_some]
  by_cases c1 : r1 < 0
  · simp [c1]
  have n1 : decide ((r1 : Int) < 0) = false := decide_eq_false c1
  rw [n1, cond_false]
  have w1 := w1 (by omega)
  have hw : wtL Stamp.wt l + wtL Fact.wt fs ≤ 1048576 := by omega
  obtain ⟨s, es, ei, hm⟩ := both l fs (by omega)
  have b0 := mkL_le Stamp.mks Stamp.wt (l) (fun y => Stamp.mks_le y)
  obtain ⟨x0, m0, _⟩ := mkStampS_ok l (1) (by omega) (by omega)
  have b1 := mkL_le Fact.mks Fact.wt (fs) (fun y => Fact.mks_le y)
  obtain ⟨x1, m1, _⟩ := mkFactS_ok fs (1 + ((mkL Stamp.mks (l) : Nat) : Int)) (by omega) (by omega)
  obtain ⟨g0, p0, q0⟩ := mkIntS_ok s (1) (by omega) (by omega)
  have neg0 : decide (((1 + ((mkL Stamp.mks (l) : Nat) : Int) + ((mkL Fact.mks (fs) : Nat) : Int)) : Int) < 0) = false := decide_eq_false (by omega)
  have neg1 : decide (((1 + ((mkL (fun _ => 1) (s) : Nat) : Int)) : Int) < 0) = false := decide_eq_false (by omega)
  simp only [es, ei, toStampS_ok l (by omega), eqStampS_ok, toFactS_ok fs (by omega), eqFactS_ok, m0, m1, p0, q0, eqIntS_ok, neg0, neg1, Option.bind_some, decide_true, Bool.not_true, Bool.not_false, cond_false, cond_true, bne_self_eq_false, beq_self_eq_true]
theorem law_good (l : List Stamp) (fs : List Fact) : Good Try.prog 4 [.sl (l.map Stamp.c), .sl (fs.map Fact.c)] (.bool true) :=
  Good.of_rdb ⟨_, Try.func4, rfl, by decide⟩ fun h => d_laws_FnExactTimesOf_good (law_ok l fs (h _ (by simp)) (h _ (by simp)))
end LawTimesOf
end Go.Cx
