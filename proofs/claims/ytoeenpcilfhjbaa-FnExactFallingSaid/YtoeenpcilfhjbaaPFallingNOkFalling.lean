/- FnExactFalling: the program and the reference agree; the law returns true. No condition. -/
import Derived.Test.YtoeenpcilfhjbaaPFallingNLwFa
import Derived.Test.YtoeenpcilfhjbaaPFallingNLawFalling
namespace Go.Cx
open Go.RowKit Go.Proofs
set_option linter.unusedVariables false
set_option linter.unusedSimpArgs false
namespace LawFalling
theorem mk_len {α : Type} (l : List α) : mkL (fun _ => 1) l = l.length := by
  induction l with
  | nil => rfl
  | cons x l ih => rw [mkL_cons, ih, List.length_cons]; omega
theorem wt_len (l : List Int) : wtL zw l = l.length := by
  unfold wtL
  have := zw_sum l
  omega
theorem law_ok (l : List Int) : d_laws_FnExactFalling l = some true := by
  unfold d_laws_FnExactFalling
  rw [List.length_map]
  by_cases h : (l.length : Int) > 1048576
  · rw [decide_eq_true h]; rfl
  have hl : l.length ≤ 1048576 := by omega
  rw [decide_eq_false h, cond_false]
  have hk := mk_len l
  have hk2 := mk_len (fallB l)
  have hf := fallB_len l
  obtain ⟨x0, m0, _⟩ := mkIntS_ok l 1 (by omega) (by omega)
  obtain ⟨g0, p0, q0⟩ := mkIntS_ok (fallB l) 1 (by omega) (by omega)
  have neg0 : decide (((1 + ((mkL (fun _ => 1) l : Nat) : Int)) : Int) < 0) = false := decide_eq_false (by omega)
  have neg1 : decide (((1 + ((mkL (fun _ => 1) (fallB l) : Nat) : Int)) : Int) < 0) = false := decide_eq_false (by omega)
  have hw := wt_len l
  simp only [toIntS_ok l (by omega), sFalling l hl, iFalling l hl, eqIntS_ok, m0, p0, q0, neg0, neg1, Option.bind_some, decide_true, Bool.not_true, Bool.not_false, cond_false, cond_true, bne_self_eq_false, beq_self_eq_true]
theorem law_good (l : List Int) : Good Try.prog 4 [.sl (l.map ixx)] (.bool true) :=
  d_laws_FnExactFalling_good (law_ok l)
end LawFalling
end Go.Cx
