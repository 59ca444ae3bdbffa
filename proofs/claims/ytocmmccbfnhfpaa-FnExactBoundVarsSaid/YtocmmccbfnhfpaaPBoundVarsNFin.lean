/- The statement FnExactBoundVars: for every input the law returns true and each argument reads as before. No condition. -/
import Derived.Test.YtocmmccbfnhfpaaRows
import Derived.Test.YtocmmccbfnhfpaaPBoundVarsNOkBoundVars
import Derived.Test.YtocmmccbfnhfpaaNConf
import Derived.Test.YtocmmccbfnhfpaaNJoin
import Derived.ProofKit
namespace Go.Proofs.Ytocmmccbfnhfpaa.fnExactBoundVars
open Go.ChangeShapes Go.WideShapes Go.ChangeAt Go.RowKit Go.Cx
theorem own : ownKnob Try.prog.godebug = none := by kernel_rfl
theorem laidOut : laidOutB Try.prog = true := by kernel_rfl
theorem pars : ∀ t ∈ Try.f8.params.toList, argOk Try.prog 20 t = true ∧ Try.prog.readableRec t = true ∧ t < Try.prog.types.size := by
  rw [Try.params8]
  intro t ht
  rcases List.mem_cons.mp ht with rfl | ht
  · exact ⟨by kernel_rfl, by kernel_rfl, of_decide_eq_true (by kernel_rfl)⟩
  rcases List.mem_cons.mp ht with rfl | ht
  · exact ⟨by kernel_rfl, by kernel_rfl, of_decide_eq_true (by kernel_rfl)⟩
  cases ht
theorem good (xs : List D) (h : ArgsC Try.prog 20 Try.f8.params.toList xs) : Go.Cx.Good Try.prog 8 xs (.bool true) := by
  rw [Try.params8] at h
  cases h with | cons _ _ _ _ g0 h =>
  cases h with | cons _ _ _ _ g1 h =>
  cases h
  obtain ⟨r, rfl⟩ := ArgC.struct conf_Rule (by kernel_rfl) (by kernel_rfl) g0
  obtain ⟨n, rfl⟩ := conf_int (k := .i64) (ArgC.cell (by kernel_rfl) (by kernel_rfl) g1)
  exact Go.Cx.LawBoundVars.law_good r n
set_option maxRecDepth 100000 in
theorem lifted (os : Os) (started : os.Started) (H : Type) (enc : TypeId × Value → H) :
    ReturnsInHanded {} Try.checked os 8 .any (Rows.fnExactBoundVarsSpec.pre6 enc Try.prog Try.f8 Rows.fnExactBoundVarsRow.domain false) (Rows.fnExactBoundVarsSpec.post enc Try.prog Try.f8 false true false false) := by
  refine returnsInHanded_of_change (C := Try.checked) own started (by kernel_rfl) Try.func8
    (ChangeSpec.witness6 (enc := enc) (C := Try.checked) false ⟨#[], #[.agg #[.string .empty, .int .i64 0, .slice none 0 0, .slice none 0 0], .int .i64 0], []⟩ 20 (by kernel_rfl) (by kernel_rfl) (by kernel_rfl) (by kernel_rfl)) ?_
  intro W base args ds gs before hval hW _ _
  refine law_contract (n := 20) (fn := Try.f8) (s := Rows.fnExactBoundVarsSpec) laidOut pars rfl (by kernel_rfl) rfl ?_ good hval hW
  intro ds hds
  rw [Try.params8] at hds
  match ds, hds with
  | [_, _], _ => rfl
theorem k0 : jp0 Try.prog 8 Try.f8 Rows.fnExactBoundVarsSpec Rows.fnExactBoundVarsRow = true := by kernel_rfl
theorem k1 : jp1 Try.prog 8 Try.f8 Rows.fnExactBoundVarsSpec Rows.fnExactBoundVarsRow = true := by kernel_rfl
theorem k2 : jp2 Try.prog 8 Try.f8 Rows.fnExactBoundVarsSpec Rows.fnExactBoundVarsRow = true := by kernel_rfl
theorem k3 : jp3 Try.prog 8 Try.f8 Rows.fnExactBoundVarsSpec Rows.fnExactBoundVarsRow = true := by kernel_rfl
theorem named : Try.prog.funcNamed Rows.fnExactBoundVarsRow.func = some 8 := by kernel_rfl
theorem closed : joinedFacts Try.prog 8 Try.f8 Rows.fnExactBoundVarsSpec Rows.fnExactBoundVarsRow = true := joined_of k0 k1 k2 k3
theorem holds : Rows.FnExactBoundVarsSaid :=
  OpenClaim.holds_of_wide 8 Try.f8 rfl rfl rfl rfl rfl rfl rfl ⟨rfl, rfl, rfl, rfl, rfl⟩ rfl rfl rfl rfl rfl named Try.func8 closed
    (of_decide_eq_true (by kernel_rfl)) (by unfold Func.isWrapper; first | (rw [if_pos (by decide +kernel)]; kernel_rfl) | (rw [if_neg (by decide +kernel)]; exact ⟨rfl, rfl⟩))
    (fun os started H enc _ => lifted os started H enc)
end Go.Proofs.Ytocmmccbfnhfpaa.fnExactBoundVars
