/- PlainConds: the program and the reference agree; the law returns true. No condition. -/
import Derived.Test.YtapddeddalcppaaDoorPPlainCondsNLwE
import Derived.Test.YtapddeddalcppaaDoorPPlainCondsNLawPlainConds
namespace Go.Cx
open Go.RowKit Go.Proofs
set_option linter.unusedVariables false
set_option linter.unusedSimpArgs false
namespace LawPlainConds
theorem mk_len {α : Type} (l : List α) : mkL (fun _ => 1) l = l.length := by
  induction l with
  | nil => rfl
  | cons x l ih => rw [mkL_cons, ih, List.length_cons]; omega
theorem mk_ren (to : List Pair) (l : List Cond) : mkL Cond.mks (l.map (renC to)) = mkL Cond.mks l := by
  induction l with
  | nil => rfl
  | cons x l ih => rw [List.map_cons, mkL_cons, mkL_cons, ih]; simp [Cond.mks, renC, mk_len]
theorem both (r : Rule) (h : r.wt ≤ 1048576) : ∃ s, d_spec_PlainConds r = some s ∧ d_impl_PlainConds r = some s ∧ (mkL Cond.mks s : Int) ≤ 4611686018427387000 := by
  refine ⟨_, sConds r h, iConds r h, ?_⟩
  unfold plainB
  rw [mk_ren]
  have h1 := mkL_le Cond.mks Cond.wt r.conds (fun y => Cond.mks_le y)
  have h3 := Rule.conds_le h
  omega
theorem law_ok (r : Rule) (hr : RdbL (Rule.c r)) : d_laws_FnExactPlainConds r = some true := by
  unfold d_laws_FnExactPlainConds
  obtain ⟨r0, e0, l0, w0⟩ := szRule_ok r hr 1048576 (by omega) (by omega)
  rw [e0, Option.bind_some]
  by_cases c0 : r0 < 0
  · simp [c0]
  have n0 : decide ((r0 : Int) < 0) = false := decide_eq_false c0
  rw [n0, cond_false]
  have w0 := w0 (by omega)
  have hw : Rule.wt r ≤ 1048576 := by omega
  obtain ⟨s, es, ei, hm⟩ := both r (by omega)
  have b0 := Rule.mksN_le (r)
  obtain ⟨x0, m0, _⟩ := mkRule_ok r (1) (by omega) (by omega)
  obtain ⟨g0, p0, q0⟩ := mkCondS_ok s (1) (by omega) (by omega)
  have neg0 : decide (((1 + ((Rule.mksN (r) : Nat) : Int)) : Int) < 0) = false := decide_eq_false (by omega)
  have neg1 : decide (((1 + ((mkL Cond.mks (s) : Nat) : Int)) : Int) < 0) = false := decide_eq_false (by omega)
  simp only [es, ei, toRule_ok r (by omega), eqRule_ok, m0, p0, q0, eqCondS_ok, neg0, neg1, Option.bind_some, decide_true, Bool.not_true, Bool.not_false, cond_false, cond_true, bne_self_eq_false, beq_self_eq_true]
theorem law_good (r : Rule) : Good Tryd.prog 5 [.agg (Rule.c r)] (.bool true) :=
  Good.of_rdb ⟨_, Tryd.func5, rfl, by decide⟩ fun h => d_laws_FnExactPlainConds_good (law_ok r (Rdb.agg (h _ (by simp))))
end LawPlainConds
end Go.Cx
