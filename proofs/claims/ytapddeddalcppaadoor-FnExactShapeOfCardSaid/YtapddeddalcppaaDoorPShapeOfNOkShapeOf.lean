/- ShapeOf: the program and the reference agree; the law returns true. No condition. -/
import Derived.Test.YtapddeddalcppaaDoorPShapeOfNLwE
import Derived.Test.YtapddeddalcppaaDoorPShapeOfNLawShapeOf
namespace Go.Cx
open Go.RowKit Go.Proofs
set_option linter.unusedVariables false
set_option linter.unusedSimpArgs false
namespace LawShapeOf
theorem mk_len {α : Type} (l : List α) : mkL (fun _ => 1) l = l.length := by
  induction l with
  | nil => rfl
  | cons x l ih => rw [mkL_cons, ih, List.length_cons]; omega
theorem both (p : Fact) (h : p.wt ≤ 1048576) : ∃ s, d_spec_ShapeOf p = some s ∧ d_impl_ShapeOf p = some s ∧ (Pattern.mksN s : Int) ≤ 4611686018427387000 := by
  refine ⟨_, sShape p h, iShape p h, ?_⟩
  have h2 := Fact.args_le h
  unfold Pattern.mksN
  rw [mk_len]
  simp only [shapeB, renC, List.length_map]
  omega
theorem law_ok (p : Fact) (hp : RdbL (Fact.c p)) : d_laws_FnExactShapeOf p = some true := by
  unfold d_laws_FnExactShapeOf
  obtain ⟨r0, e0, l0, w0⟩ := szPattern_ok p hp 1048576 (by omega) (by omega)
  rw [e0, Option.bind_some]
  by_cases c0 : r0 < 0
  · simp [c0]
  have n0 : decide ((r0 : Int) < 0) = false := decide_eq_false c0
  rw [n0, cond_false]
  have w0 := w0 (by omega)
  have hw : Fact.wt p ≤ 1048576 := by omega
  obtain ⟨s, es, ei, hm⟩ := both p (by omega)
  have b0 := Pattern.mksN_le (p)
  obtain ⟨x0, m0, _⟩ := mkPattern_ok p (1) (by omega) (by omega)
  obtain ⟨g0, p0, q0, z0⟩ := mkPattern_ok3 s (1) (by omega) (by omega)
  have neg0 : decide (((1 + ((Pattern.mksN (p) : Nat) : Int)) : Int) < 0) = false := decide_eq_false (by omega)
  have neg1 : decide (((1 + ((Pattern.mksN (s) : Nat) : Int)) : Int) < 0) = false := decide_eq_false (by omega)
  simp only [es, ei, toPattern_ok p (by omega), eqPattern_ok, m0, z0, p0, q0, neg0, neg1, Option.bind_some, decide_true, Bool.not_true, Bool.not_false, cond_false, cond_true, bne_self_eq_false, beq_self_eq_true]
theorem law_good (p : Fact) : Good Tryd.prog 3 [.agg (Fact.c p)] (.bool true) :=
  Good.of_rdb ⟨_, Tryd.func3, rfl, by decide⟩ fun h => d_laws_FnExactShapeOf_good (law_ok p (Rdb.agg (h _ (by simp))))
end LawShapeOf
end Go.Cx
