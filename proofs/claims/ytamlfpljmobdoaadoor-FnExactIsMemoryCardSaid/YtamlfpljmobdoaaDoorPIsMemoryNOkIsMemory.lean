/- IsMemory: the program and the reference agree; the law returns true. No condition. -/
import Derived.Test.YtamlfpljmobdoaaDoorPIsMemoryNLwF
import Derived.Test.YtamlfpljmobdoaaDoorPIsMemoryNLawIsMemory
namespace Go.Cx
open Go.RowKit Go.Proofs
set_option linter.unusedVariables false
set_option linter.unusedSimpArgs false
namespace LawIsMemory
theorem both (l : List Stamp) (h : wtL Stamp.wt l ≤ 1048576) : ∃ s, d_spec_IsMemory l = some s ∧ d_impl_IsMemory l = some s := ⟨_, sMmo l h, iMmo l h⟩
theorem law_ok (l : List Stamp) (hl : Rdb (.sl (l.map Stamp.c))) : d_laws_FnExactIsMemory l = some true := by
  unfold d_laws_FnExactIsMemory
  obtain ⟨r0, e0, l0, w0⟩ := szStampS_ok l hl 1048576 (by omega) (by omega)
  rw [e0, Option.bind_some]
  by_cases c0 : r0 < 0
  · simp [c0]
  have n0 : decide ((r0 : Int) < 0) = false := decide_eq_false c0
  rw [n0, cond_false]
  have w0 := w0 (by omega)
  have hw : wtL Stamp.wt l ≤ 1048576 := by omega
  obtain ⟨s, es, ei⟩ := both l (by omega)
  simp only [es, ei, toStampS_ok l (by omega), eqStampS_ok, Option.bind_some, decide_true, Bool.not_true, Bool.not_false, cond_false, cond_true, bne_self_eq_false, beq_self_eq_true]
theorem law_good (l : List Stamp) : Good Tryd.prog 4 [.sl (l.map Stamp.c)] (.bool true) :=
  Good.of_rdb ⟨_, Tryd.func4, rfl, by decide⟩ fun h => d_laws_FnExactIsMemory_good (law_ok l (h _ (by simp)))
end LawIsMemory
end Go.Cx
