/- The statement FnExactChoiceLine: for every input the law returns true and each argument reads as before. No condition. -/
import Derived.Test.YtoeenpcilfhjbaaDoorRows
import Derived.Test.YtoeenpcilfhjbaaDoorPChoiceLineNOkChoiceLine
import Derived.Test.YtoeenpcilfhjbaaDoorNConf
import Derived.Test.YtoeenpcilfhjbaaDoorNJoin
import Derived.ProofKit
import Derived.SevenTiedAt
import Derived.LaidMore
import Derived.LaidSub
import Derived.Lib.LaidTab
import Derived.Lib.ItoaNum
import Derived.Test.YtoeenpcilfhjbaaDoorCards
import Derived.Test.YtoeenpcilfhjbaaDoorTie
namespace Go.Proofs.YtoeenpcilfhjbaaDoor.fnExactChoiceLine
open Go.ChangeShapes Go.WideShapes Go.ChangeAt Go.RowKit Go.Cx
theorem own : ownKnob Tryd.prog.godebug = none := by kernel_rfl
theorem laidOut : laidOutB Tryd.prog = true := by kernel_rfl
theorem pars : ∀ t ∈ Tryd.f3.params.toList, argOk Tryd.prog 20 t = true ∧ Tryd.prog.readableRec t = true ∧ t < Tryd.prog.types.size := by
  rw [Tryd.params3]
  intro t ht
  rcases List.mem_cons.mp ht with rfl | ht
  · exact ⟨by kernel_rfl, by kernel_rfl, of_decide_eq_true (by kernel_rfl)⟩
  cases ht
theorem good (xs : List D) (h : ArgsC Tryd.prog 20 Tryd.f3.params.toList xs) : Go.Cx.Good Tryd.prog 3 xs (.bool true) := by
  rw [Tryd.params3] at h
  cases h with | cons _ _ _ _ g0 h =>
  cases h
  obtain ⟨x, rfl⟩ := ArgC.struct conf_Choice (by kernel_rfl) (by kernel_rfl) g0
  exact Go.Cx.LawChoiceLine.law_good x
theorem door_met (os : Os) (args : Array Value) : laidMetH Tryd.prog Rows.fnExactChoiceLineRow.laid ((World.doorLaid Tryd.prog 400 os).forCall (fun _ _ => 0) ⟨#[], args, []⟩).memory :=
  laidMetH_of_parts3 (fuel := 8) (laidMet_of_run' 8 (by kernel_rfl) (by kernel_rfl)) (by kernel_rfl) (by kernel_rfl)
theorem vok {W : World} (h : laidMetH Tryd.prog Rows.fnExactChoiceLineRow.laid W) : Vok W fun _ => False := by
  refine Vok.of_var (P := Tryd.prog) fun x hx => ?_
  rcases List.mem_cons.1 hx with rfl | hx
  · have h1 := laidMetH.filter (fun x => x.1 == "internal/strconv.uint64pow10") h
    have h2 : laidMet Tryd.prog [("internal/strconv.uint64pow10", Lib.tabData .u64 Lib.pow10Tab)] W := h1
    exact ⟨"internal/strconv.uint64pow10", _, by kernel_rfl, Lib.tabIs_of_head (g := 0) (t := 132) (e := 100) (n := 20) (by kernel_rfl) (by kernel_rfl) (by kernel_rfl) (by kernel_rfl) (by kernel_rfl) (by kernel_rfl) h2, rfl⟩
  cases hx
set_option maxRecDepth 100000 in
theorem lifted (os : Os) (started : os.Started) (H : Type) (enc : TypeId × Value → H) :
    ReturnsInHanded {} Tryd.checked os 3 .any (fun w args => (Rows.fnExactChoiceLineSpec.pre enc Tryd.prog Tryd.f3 [] false w args ∧ laidMetH Tryd.prog Rows.fnExactChoiceLineRow.laid w) ∧ sizedMet enc Tryd.prog Tryd.f3 (OpenSpec.ofChange Rows.fnExactChoiceLineSpec) false w args)
      (Rows.fnExactChoiceLineSpec.post enc Tryd.prog Tryd.f3 false true false false) := by
  refine returnsInHanded_of_change_and (C := Tryd.checked) (X := fun w _ => laidMetH Tryd.prog Rows.fnExactChoiceLineRow.laid w) (fun _ _ _ hh h => h.of_heap hh) own started (by kernel_rfl) Tryd.func3
    (ChangeSpec.witness_shaped (enc := enc) (C := Tryd.checked) (os := os) (X := fun w _ => laidMetH Tryd.prog Rows.fnExactChoiceLineRow.laid w) false (World.doorLaid Tryd.prog 400 os) #[.agg #[.string .empty, .slice none 0 0, .slice none 0 0, .int .i64 0, .slice none 0 0, .int .i64 0, .int .i64 0]] 20 rfl (World.shaped_of_RefB (by kernel_rfl) (by kernel_rfl)) (by kernel_rfl) (by kernel_rfl) (by kernel_rfl) (door_met os _)) ?_
  intro W base args ds gs before hval hW _ _ hL _
  refine law_contract (n := 20) (fn := Tryd.f3) (s := Rows.fnExactChoiceLineSpec) laidOut pars rfl (by kernel_rfl) rfl ?_ (vok hL) good hval hW
  intro ds hds
  rw [Tryd.params3] at hds
  match ds, hds with
  | [_], _ => rfl
theorem k0 : jp0 Tryd.prog 3 Tryd.f3 Rows.fnExactChoiceLineSpec Rows.fnExactChoiceLineRow = true := by kernel_rfl
theorem k1 : jp1 Tryd.prog 3 Tryd.f3 Rows.fnExactChoiceLineSpec Rows.fnExactChoiceLineRow = true := by kernel_rfl
theorem k2 : jp2 Tryd.prog 3 Tryd.f3 Rows.fnExactChoiceLineSpec Rows.fnExactChoiceLineRow = true := by kernel_rfl
theorem k3 : jp3 Tryd.prog 3 Tryd.f3 Rows.fnExactChoiceLineSpec Rows.fnExactChoiceLineRow = true := by kernel_rfl
theorem named : Tryd.prog.funcNamed Rows.fnExactChoiceLineRow.func = some 3 := by kernel_rfl
theorem closed : joinedFacts Tryd.prog 3 Tryd.f3 Rows.fnExactChoiceLineSpec Rows.fnExactChoiceLineRow = true := joined_of k0 k1 k2 k3
theorem over : Rows.FnExactChoiceLineSaid :=
  OpenClaim.holds_of_wide 3 Tryd.f3 rfl rfl rfl rfl rfl rfl rfl ⟨rfl, rfl, rfl, rfl, rfl⟩ rfl rfl rfl rfl rfl named Tryd.func3 closed
    (of_decide_eq_true (by kernel_rfl)) (by unfold Func.isWrapper; first | (rw [if_pos (by decide +kernel)]; kernel_rfl) | (rw [if_neg (by decide +kernel)]; exact ⟨rfl, rfl⟩))
    (fun os started H enc _ => lifted os started H enc)
theorem a0 : Rows.fnExactChoiceLineRow.wfByText (OpenSpec.ofChange Rows.fnExactChoiceLineSpec) = true := by kernel_rfl
theorem a1 : Tryd.pinned.checked.prog.mainIs = some (Rows.fnExactChoiceLineCard.stood.harness.1, Rows.fnExactChoiceLineCard.stood.harness.2.toList) := by kernel_rfl
theorem a2 : false = Tryd.pinned.checked.prog.looks [] := by kernel_rfl
theorem a3 : false = Rows.fnExactChoiceLineRow.goesBy Tryd.pinned.checked.prog := by kernel_rfl
theorem a4 : ∀ t ∈ Tryd.f3.params.toList, Tryd.prog.wantsStandIn t = false := by
  rw [Tryd.params3]
  intro t hm
  simp only [List.mem_cons, List.not_mem_nil, or_false] at hm
  rcases hm with rfl <;> (show Tryd.prog.wantsStandIn _ = false; kernel_rfl)
theorem holds : Rows.FnExactChoiceLineCardSaid :=
  Claim7.holds_tied_plain_at .later [] [.data, .data, .data] true Rows.fnExactChoiceLineCard.stood.harness false
    over (fun _ h => by cases h) a0 (fun _ h => by cases h) fnExactChoiceLine_row_tie rfl ⟨rfl, rfl⟩ a1 rfl
    (fun f fn hf hfn => by
      obtain rfl : f = 3 := (Option.some.inj (named.symm.trans hf)).symm
      obtain rfl : fn = Tryd.f3 := (Option.some.inj (Tryd.func3.symm.trans hfn)).symm
      exact ⟨a2, fun j t ht => a4 t (List.mem_of_getElem? (i := j) (by simpa using ht))⟩)
    a3
end Go.Proofs.YtoeenpcilfhjbaaDoor.fnExactChoiceLine
