/- ChoiceLine: the program and the reference agree; the law returns true. No condition. -/
import Derived.Test.YtoeenpcilfhjbaaDoorPChoiceLineNLwFc
import Derived.Test.YtoeenpcilfhjbaaDoorPChoiceLineNLawChoiceLine
namespace Go.Cx
open Go.RowKit Go.Proofs
set_option linter.unusedVariables false
set_option linter.unusedSimpArgs false
namespace LawChoiceLine
theorem both (x : Choice) (hx : RdbL (Choice.c x)) (h : x.wt ≤ 1048576) : ∃ s, d_spec_ChoiceLine x = some s ∧ d_impl_ChoiceLine x = some s := by
  have hp : InR .i64 x.prio := Rdb.int (hx _ (by simp [Choice.c]))
  have hs : InR .i64 x.spec := Rdb.int (hx _ (by simp [Choice.c]))
  have ht : Rdb (.sl (x.times.map ixx)) := hx _ (by simp [Choice.c])
  have hr : ∀ z ∈ x.times, InR .i64 z := fun z hz => Rdb.int (RdbL.row ht z hz _ (by simp))
  unfold Choice.wt tw at h
  have hl := wtL_len zw x.times
  exact ⟨_, sLine x (by omega) (by omega) (by omega) hr hp hs, iLine x (by omega) (by omega) (by omega) hr hp hs⟩
theorem law_ok (x : Choice) (hx : RdbL (Choice.c x)) : d_laws_FnExactChoiceLine x = some true := by
  unfold d_laws_FnExactChoiceLine
  obtain ⟨r0, e0, l0, w0⟩ := szChoice_ok x hx 1048576 (by omega) (by omega)
  rw [e0, Option.bind_some]
  by_cases c0 : r0 < 0
  · simp [c0]
  have n0 : decide ((r0 : Int) < 0) = false := decide_eq_false c0
  rw [n0, cond_false]
  have w0 := w0 (by omega)
  have hw : Choice.wt x ≤ 1048576 := by omega
  obtain ⟨s, es, ei⟩ := both x hx (by omega)
  simp only [es, ei, toChoice_ok x (by omega), eqChoice_ok, Option.bind_some, decide_true, Bool.not_true, Bool.not_false, cond_false, cond_true, bne_self_eq_false, beq_self_eq_true]
theorem law_good (x : Choice) : Good Tryd.prog 3 [.agg (Choice.c x)] (.bool true) :=
  Good.of_rdb ⟨_, Tryd.func3, rfl, by decide⟩ fun h => d_laws_FnExactChoiceLine_good (law_ok x (Rdb.agg (h _ (by simp))))
end LawChoiceLine
end Go.Cx
