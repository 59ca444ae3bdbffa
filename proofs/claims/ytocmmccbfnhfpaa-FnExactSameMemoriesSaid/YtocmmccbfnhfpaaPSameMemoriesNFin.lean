/- The statement FnExactSameMemories: for every input the law returns true and each argument reads as before. No condition. -/
import Derived.Test.YtocmmccbfnhfpaaRows
import Derived.Test.YtocmmccbfnhfpaaPSameMemoriesNOkSameMemories
import Derived.Test.YtocmmccbfnhfpaaNConf
import Derived.Test.YtocmmccbfnhfpaaNJoin
import Derived.ProofKit
namespace Go.Proofs.Ytocmmccbfnhfpaa.fnExactSameMemories
open Go.ChangeShapes Go.WideShapes Go.ChangeAt Go.RowKit Go.Cx
theorem own : ownKnob Try.prog.godebug = none := by kernel_rfl
theorem laidOut : laidOutB Try.prog = true := by kernel_rfl
theorem pars : ∀ t ∈ Try.f11.params.toList, argOk Try.prog 20 t = true ∧ Try.prog.readableRec t = true ∧ t < Try.prog.types.size := by
  rw [Try.params11]
  intro t ht
  rcases List.mem_cons.mp ht with rfl | ht
  · exact ⟨by kernel_rfl, by kernel_rfl, of_decide_eq_true (by kernel_rfl)⟩
  rcases List.mem_cons.mp ht with rfl | ht
  · exact ⟨by kernel_rfl, by kernel_rfl, of_decide_eq_true (by kernel_rfl)⟩
  cases ht
theorem good (xs : List D) (h : ArgsC Try.prog 20 Try.f11.params.toList xs) : Go.Cx.Good Try.prog 11 xs (.bool true) := by
  rw [Try.params11] at h
  cases h with | cons _ _ _ _ g0 h =>
  cases h with | cons _ _ _ _ g1 h =>
  cases h
  obtain ⟨a, rfl⟩ := ArgC.struct conf_Network (by kernel_rfl) (by kernel_rfl) g0
  obtain ⟨b, rfl⟩ := ArgC.struct conf_Network (by kernel_rfl) (by kernel_rfl) g1
  exact Go.Cx.LawSameMemories.law_good a b
set_option maxRecDepth 100000 in
theorem lifted (os : Os) (started : os.Started) (H : Type) (enc : TypeId × Value → H) :
    ReturnsInHanded {} Try.checked os 11 .any (Rows.fnExactSameMemoriesSpec.pre6 enc Try.prog Try.f11 Rows.fnExactSameMemoriesRow.domain false) (Rows.fnExactSameMemoriesSpec.post enc Try.prog Try.f11 false true false false) := by
  refine returnsInHanded_of_change (C := Try.checked) own started (by kernel_rfl) Try.func11
    (ChangeSpec.witness6 (enc := enc) (C := Try.checked) false ⟨#[], #[.agg #[.slice none 0 0, .slice none 0 0, .slice none 0 0, .slice none 0 0, .slice none 0 0, .int .i64 0], .agg #[.slice none 0 0, .slice none 0 0, .slice none 0 0, .slice none 0 0, .slice none 0 0, .int .i64 0]], []⟩ 20 (by kernel_rfl) (by kernel_rfl) (by kernel_rfl) (by kernel_rfl)) ?_
  intro W base args ds gs before hval hW _ _
  refine law_contract (n := 20) (fn := Try.f11) (s := Rows.fnExactSameMemoriesSpec) laidOut pars rfl (by kernel_rfl) rfl ?_ good hval hW
  intro ds hds
  rw [Try.params11] at hds
  match ds, hds with
  | [_, _], _ => rfl
theorem k0 : jp0 Try.prog 11 Try.f11 Rows.fnExactSameMemoriesSpec Rows.fnExactSameMemoriesRow = true := by kernel_rfl
theorem k1 : jp1 Try.prog 11 Try.f11 Rows.fnExactSameMemoriesSpec Rows.fnExactSameMemoriesRow = true := by kernel_rfl
theorem k2 : jp2 Try.prog 11 Try.f11 Rows.fnExactSameMemoriesSpec Rows.fnExactSameMemoriesRow = true := by kernel_rfl
theorem k3 : jp3 Try.prog 11 Try.f11 Rows.fnExactSameMemoriesSpec Rows.fnExactSameMemoriesRow = true := by kernel_rfl
theorem named : Try.prog.funcNamed Rows.fnExactSameMemoriesRow.func = some 11 := by kernel_rfl
theorem closed : joinedFacts Try.prog 11 Try.f11 Rows.fnExactSameMemoriesSpec Rows.fnExactSameMemoriesRow = true := joined_of k0 k1 k2 k3
theorem holds : Rows.FnExactSameMemoriesSaid :=
  OpenClaim.holds_of_wide 11 Try.f11 rfl rfl rfl rfl rfl rfl rfl ⟨rfl, rfl, rfl, rfl, rfl⟩ rfl rfl rfl rfl rfl named Try.func11 closed
    (of_decide_eq_true (by kernel_rfl)) (by unfold Func.isWrapper; first | (rw [if_pos (by decide +kernel)]; kernel_rfl) | (rw [if_neg (by decide +kernel)]; exact ⟨rfl, rfl⟩))
    (fun os started H enc _ => lifted os started H enc)
end Go.Proofs.Ytocmmccbfnhfpaa.fnExactSameMemories
