/- The statement FnExactSameRule: for every input the law returns true and each argument reads as before. No condition. -/
import Derived.Test.YtnagcfnebfhnhaaRows
import Derived.Test.YtnagcfnebfhnhaaLawSameRule
import Derived.Test.YtnagcfnebfhnhaaConf
import Derived.ProofKit
namespace Go.Proofs.Ytnagcfnebfhnhaa.fnExactSameRule
open Go.ChangeShapes Go.WideShapes Go.ChangeAt Go.RowKit Go.Bx

theorem own : ownKnob Try.prog.godebug = none := by kernel_rfl
theorem laidOut : laidOutB Try.prog = true := by kernel_rfl
theorem pars : ∀ t ∈ Try.f8.params.toList, argOk Try.prog 8 t = true ∧ Try.prog.readableRec t = true ∧ t < Try.prog.types.size := by
  rw [Try.params8]
  intro t ht
  rcases List.mem_cons.mp ht with rfl | ht
  · exact ⟨by kernel_rfl, by kernel_rfl, of_decide_eq_true (by kernel_rfl)⟩
  rcases List.mem_cons.mp ht with rfl | ht
  · exact ⟨by kernel_rfl, by kernel_rfl, of_decide_eq_true (by kernel_rfl)⟩
  cases ht
theorem good (xs : List D) (h : ArgsC Try.prog 8 Try.f8.params.toList xs) : Go.Bx.Good Try.prog 8 xs (.bool true) := by
  rw [Try.params8] at h
  cases h with | cons _ _ _ _ g0 h =>
  cases h with | cons _ _ _ _ g1 h =>
  cases h
  obtain ⟨a, rfl⟩ := ArgC.struct conf_Rule (by kernel_rfl) (by kernel_rfl) g0
  obtain ⟨b, rfl⟩ := ArgC.struct conf_Rule (by kernel_rfl) (by kernel_rfl) g1
  exact Go.Bx.LawSameRule.law_good a b

set_option maxRecDepth 100000 in
theorem lifted (os : Os) (started : os.Started) (H : Type) (enc : TypeId × Value → H) :
    ReturnsInHanded {} Try.checked os 8 .any (Rows.fnExactSameRuleSpec.pre6 enc Try.prog Try.f8 Rows.fnExactSameRuleRow.domain false) (Rows.fnExactSameRuleSpec.post enc Try.prog Try.f8 false true false false) := by
  refine returnsInHanded_of_change (C := Try.checked) own started (by kernel_rfl) Try.func8
    (ChangeSpec.witness6 (enc := enc) (C := Try.checked) false ⟨#[], #[.agg #[.string .empty, .int .i64 0, .slice none 0 0, .slice none 0 0], .agg #[.string .empty, .int .i64 0, .slice none 0 0, .slice none 0 0]], []⟩ 8 (by kernel_rfl) (by kernel_rfl) (by kernel_rfl) (by kernel_rfl)) ?_
  intro W base args ds gs before hval hW _ _
  refine law_contract (n := 8) (fn := Try.f8) (s := Rows.fnExactSameRuleSpec) laidOut pars rfl (by kernel_rfl) rfl ?_ good hval hW
  intro ds hds
  rw [Try.params8] at hds
  match ds, hds with
  | [_, _], _ => rfl

theorem holds : Rows.FnExactSameRuleSaid :=
  OpenClaim.holds_of_wide 8 Try.f8 rfl rfl rfl rfl rfl rfl rfl ⟨rfl, rfl, rfl, rfl, rfl⟩ rfl rfl rfl rfl rfl (by kernel_rfl) Try.func8 (by kernel_rfl)
    (of_decide_eq_true (by kernel_rfl)) (by unfold Func.isWrapper; first | (rw [if_pos (by decide +kernel)]; kernel_rfl) | (rw [if_neg (by decide +kernel)]; exact ⟨rfl, rfl⟩))
    (fun os started H enc _ => lifted os started H enc)

end Go.Proofs.Ytnagcfnebfhnhaa.fnExactSameRule
