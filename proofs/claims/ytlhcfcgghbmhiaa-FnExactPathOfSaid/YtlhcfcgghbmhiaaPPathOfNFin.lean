/- The statement FnExactPathOf: for every input the law returns true and each argument reads as before. No condition. -/
import Derived.Test.YtlhcfcgghbmhiaaRows
import Derived.Test.YtlhcfcgghbmhiaaPPathOfNOkPathOf
import Derived.Test.YtlhcfcgghbmhiaaNConf
import Derived.Test.YtlhcfcgghbmhiaaNJoin
import Derived.ProofKit
namespace Go.Proofs.Ytlhcfcgghbmhiaa.fnExactPathOf
open Go.ChangeShapes Go.WideShapes Go.ChangeAt Go.RowKit Go.Cx
theorem own : ownKnob Try.prog.godebug = none := by kernel_rfl
theorem laidOut : laidOutB Try.prog = true := by kernel_rfl
theorem pars : ∀ t ∈ Try.f5.params.toList, argOk Try.prog 20 t = true ∧ Try.prog.readableRec t = true ∧ t < Try.prog.types.size := by
  rw [Try.params5]
  intro t ht
  rcases List.mem_cons.mp ht with rfl | ht
  · exact ⟨by kernel_rfl, by kernel_rfl, of_decide_eq_true (by kernel_rfl)⟩
  rcases List.mem_cons.mp ht with rfl | ht
  · exact ⟨by kernel_rfl, by kernel_rfl, of_decide_eq_true (by kernel_rfl)⟩
  cases ht
theorem good (xs : List D) (h : ArgsC Try.prog 20 Try.f5.params.toList xs) : Go.Cx.Good Try.prog 5 xs (.bool true) := by
  rw [Try.params5] at h
  cases h with | cons _ _ _ _ g0 h =>
  cases h with | cons _ _ _ _ g1 h =>
  cases h
  obtain ⟨n, rfl⟩ := ArgC.struct conf_Network (by kernel_rfl) (by kernel_rfl) g0
  obtain ⟨i, rfl⟩ := conf_int (k := .i64) (ArgC.cell (by kernel_rfl) (by kernel_rfl) g1)
  exact Go.Cx.LawPathOf.law_good n i
set_option maxRecDepth 100000 in
theorem lifted (os : Os) (started : os.Started) (H : Type) (enc : TypeId × Value → H) :
    ReturnsInHanded {} Try.checked os 5 .any (Rows.fnExactPathOfSpec.pre6 enc Try.prog Try.f5 Rows.fnExactPathOfRow.domain false) (Rows.fnExactPathOfSpec.post enc Try.prog Try.f5 false true false false) := by
  refine returnsInHanded_of_change (C := Try.checked) own started (by kernel_rfl) Try.func5
    (ChangeSpec.witness6 (enc := enc) (C := Try.checked) false ⟨#[], #[.agg #[.slice none 0 0, .slice none 0 0, .slice none 0 0, .slice none 0 0, .slice none 0 0, .int .i64 0], .int .i64 0], []⟩ 20 (by kernel_rfl) (by kernel_rfl) (by kernel_rfl) (by kernel_rfl)) ?_
  intro W base args ds gs before hval hW _ _
  refine law_contract (n := 20) (fn := Try.f5) (s := Rows.fnExactPathOfSpec) laidOut pars rfl (by kernel_rfl) rfl ?_ (Vok.nil rfl) good hval hW
  intro ds hds
  rw [Try.params5] at hds
  match ds, hds with
  | [_, _], _ => rfl
theorem k0 : jp0 Try.prog 5 Try.f5 Rows.fnExactPathOfSpec Rows.fnExactPathOfRow = true := by kernel_rfl
theorem k1 : jp1 Try.prog 5 Try.f5 Rows.fnExactPathOfSpec Rows.fnExactPathOfRow = true := by kernel_rfl
theorem k2 : jp2 Try.prog 5 Try.f5 Rows.fnExactPathOfSpec Rows.fnExactPathOfRow = true := by kernel_rfl
theorem k3 : jp3 Try.prog 5 Try.f5 Rows.fnExactPathOfSpec Rows.fnExactPathOfRow = true := by kernel_rfl
theorem named : Try.prog.funcNamed Rows.fnExactPathOfRow.func = some 5 := by kernel_rfl
theorem closed : joinedFacts Try.prog 5 Try.f5 Rows.fnExactPathOfSpec Rows.fnExactPathOfRow = true := joined_of k0 k1 k2 k3
theorem holds : Rows.FnExactPathOfSaid :=
  OpenClaim.holds_of_wide 5 Try.f5 rfl rfl rfl rfl rfl rfl rfl ⟨rfl, rfl, rfl, rfl, rfl⟩ rfl rfl rfl rfl rfl named Try.func5 closed
    (of_decide_eq_true (by kernel_rfl)) (by unfold Func.isWrapper; first | (rw [if_pos (by decide +kernel)]; kernel_rfl) | (rw [if_neg (by decide +kernel)]; exact ⟨rfl, rfl⟩))
    (fun os started H enc _ => lifted os started H enc)
end Go.Proofs.Ytlhcfcgghbmhiaa.fnExactPathOf
