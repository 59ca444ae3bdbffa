/- The statement FnExactSameMatch: for every input the law returns true and each argument reads as before. No condition. -/
import Derived.Test.YtnagcfnebfhnhaaRows
import Derived.Test.YtnagcfnebfhnhaaLawSameMatch
import Derived.Test.YtnagcfnebfhnhaaConf
import Derived.ProofKit
namespace Go.Proofs.Ytnagcfnebfhnhaa.fnExactSameMatch
open Go.ChangeShapes Go.WideShapes Go.ChangeAt Go.RowKit Go.Bx

theorem own : ownKnob Try.prog.godebug = none := by kernel_rfl
theorem laidOut : laidOutB Try.prog = true := by kernel_rfl
theorem pars : ∀ t ∈ Try.f6.params.toList, argOk Try.prog 8 t = true ∧ Try.prog.readableRec t = true ∧ t < Try.prog.types.size := by
  rw [Try.params6]
  intro t ht
  rcases List.mem_cons.mp ht with rfl | ht
  · exact ⟨by kernel_rfl, by kernel_rfl, of_decide_eq_true (by kernel_rfl)⟩
  rcases List.mem_cons.mp ht with rfl | ht
  · exact ⟨by kernel_rfl, by kernel_rfl, of_decide_eq_true (by kernel_rfl)⟩
  cases ht
theorem good (xs : List D) (h : ArgsC Try.prog 8 Try.f6.params.toList xs) : Go.Bx.Good Try.prog 6 xs (.bool true) := by
  rw [Try.params6] at h
  cases h with | cons _ _ _ _ g0 h =>
  cases h with | cons _ _ _ _ g1 h =>
  cases h
  obtain ⟨a, rfl⟩ := ArgC.struct conf_Match (by kernel_rfl) (by kernel_rfl) g0
  obtain ⟨b, rfl⟩ := ArgC.struct conf_Match (by kernel_rfl) (by kernel_rfl) g1
  exact Go.Bx.LawSameMatch.law_good a b

set_option maxRecDepth 100000 in
theorem lifted (os : Os) (started : os.Started) (H : Type) (enc : TypeId × Value → H) :
    ReturnsInHanded {} Try.checked os 6 .any (Rows.fnExactSameMatchSpec.pre6 enc Try.prog Try.f6 Rows.fnExactSameMatchRow.domain false) (Rows.fnExactSameMatchSpec.post enc Try.prog Try.f6 false true false false) := by
  refine returnsInHanded_of_change (C := Try.checked) own started (by kernel_rfl) Try.func6
    (ChangeSpec.witness6 (enc := enc) (C := Try.checked) false ⟨#[], #[.agg #[.string .empty, .slice none 0 0, .slice none 0 0], .agg #[.string .empty, .slice none 0 0, .slice none 0 0]], []⟩ 8 (by kernel_rfl) (by kernel_rfl) (by kernel_rfl) (by kernel_rfl)) ?_
  intro W base args ds gs before hval hW _ _
  refine law_contract (n := 8) (fn := Try.f6) (s := Rows.fnExactSameMatchSpec) laidOut pars rfl (by kernel_rfl) rfl ?_ good hval hW
  intro ds hds
  rw [Try.params6] at hds
  match ds, hds with
  | [_, _], _ => rfl

theorem holds : Rows.FnExactSameMatchSaid :=
  OpenClaim.holds_of_wide 6 Try.f6 rfl rfl rfl rfl rfl rfl rfl ⟨rfl, rfl, rfl, rfl, rfl⟩ rfl rfl rfl rfl rfl (by kernel_rfl) Try.func6 (by kernel_rfl)
    (of_decide_eq_true (by kernel_rfl)) (by unfold Func.isWrapper; first | (rw [if_pos (by decide +kernel)]; kernel_rfl) | (rw [if_neg (by decide +kernel)]; exact ⟨rfl, rfl⟩))
    (fun os started H enc _ => lifted os started H enc)

end Go.Proofs.Ytnagcfnebfhnhaa.fnExactSameMatch
