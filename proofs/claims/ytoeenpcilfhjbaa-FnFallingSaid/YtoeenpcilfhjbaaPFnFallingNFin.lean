/- The statement FnFalling: for every input the law returns true and each argument reads as before. No condition. -/
import Derived.Test.YtoeenpcilfhjbaaRows
import Derived.Test.YtoeenpcilfhjbaaPFnFallingNOkFnFalling
import Derived.Test.YtoeenpcilfhjbaaNConf
import Derived.Test.YtoeenpcilfhjbaaNJoin
import Derived.ProofKit
namespace Go.Proofs.Ytoeenpcilfhjbaa.fnFalling
open Go.ChangeShapes Go.WideShapes Go.ChangeAt Go.RowKit Go.Cx
theorem own : ownKnob Try.prog.godebug = none := by kernel_rfl
theorem laidOut : laidOutB Try.prog = true := by kernel_rfl
theorem pars : ∀ t ∈ Try.f3.params.toList, argOk Try.prog 20 t = true ∧ Try.prog.readableRec t = true ∧ t < Try.prog.types.size := by
  rw [Try.params3]
  intro t ht
  rcases List.mem_cons.mp ht with rfl | ht
  · exact ⟨by kernel_rfl, by kernel_rfl, of_decide_eq_true (by kernel_rfl)⟩
  cases ht
theorem good (xs : List D) (h : ArgsC Try.prog 20 Try.f3.params.toList xs) : Go.Cx.Good Try.prog 3 xs (.bool true) := by
  rw [Try.params3] at h
  cases h with | cons _ _ _ _ g0 h =>
  cases h
  obtain ⟨code, rfl⟩ := conf_sl conf_yx (ArgC.cell (by kernel_rfl) (by kernel_rfl) g0)
  exact Go.Cx.LawFnFalling.law_good code
set_option maxRecDepth 100000 in
theorem lifted (os : Os) (started : os.Started) (H : Type) (enc : TypeId × Value → H) :
    ReturnsInHanded {} Try.checked os 3 .any (Rows.fnFallingSpec.pre6 enc Try.prog Try.f3 Rows.fnFallingRow.domain false) (Rows.fnFallingSpec.post enc Try.prog Try.f3 false true false false) := by
  refine returnsInHanded_of_change (C := Try.checked) own started (by kernel_rfl) Try.func3
    (ChangeSpec.witness6 (enc := enc) (C := Try.checked) false ⟨#[], #[.slice none 0 0], []⟩ 20 (by kernel_rfl) (by kernel_rfl) (by kernel_rfl) (by kernel_rfl)) ?_
  intro W base args ds gs before hval hW _ _
  refine law_contract (n := 20) (fn := Try.f3) (s := Rows.fnFallingSpec) laidOut pars rfl (by kernel_rfl) rfl ?_ (Vok.nil rfl) good hval hW
  intro ds hds
  rw [Try.params3] at hds
  match ds, hds with
  | [_], _ => rfl
theorem k0 : jp0 Try.prog 3 Try.f3 Rows.fnFallingSpec Rows.fnFallingRow = true := by kernel_rfl
theorem k1 : jp1 Try.prog 3 Try.f3 Rows.fnFallingSpec Rows.fnFallingRow = true := by kernel_rfl
theorem k2 : jp2 Try.prog 3 Try.f3 Rows.fnFallingSpec Rows.fnFallingRow = true := by kernel_rfl
theorem k3 : jp3 Try.prog 3 Try.f3 Rows.fnFallingSpec Rows.fnFallingRow = true := by kernel_rfl
theorem named : Try.prog.funcNamed Rows.fnFallingRow.func = some 3 := by kernel_rfl
theorem closed : joinedFacts Try.prog 3 Try.f3 Rows.fnFallingSpec Rows.fnFallingRow = true := joined_of k0 k1 k2 k3
theorem holds : Rows.FnFallingSaid :=
  OpenClaim.holds_of_wide 3 Try.f3 rfl rfl rfl rfl rfl rfl rfl ⟨rfl, rfl, rfl, rfl, rfl⟩ rfl rfl rfl rfl rfl named Try.func3 closed
    (of_decide_eq_true (by kernel_rfl)) (by unfold Func.isWrapper; first | (rw [if_pos (by decide +kernel)]; kernel_rfl) | (rw [if_neg (by decide +kernel)]; exact ⟨rfl, rfl⟩))
    (fun os started H enc _ => lifted os started H enc)
end Go.Proofs.Ytoeenpcilfhjbaa.fnFalling
