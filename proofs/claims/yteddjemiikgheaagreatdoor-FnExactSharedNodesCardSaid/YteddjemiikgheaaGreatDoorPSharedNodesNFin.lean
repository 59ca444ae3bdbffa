/- The statement FnExactSharedNodes: for every input the law returns true and each argument reads as before. No condition. -/
import Derived.Test.YteddjemiikgheaaGreatDoorRows
import Derived.Test.YteddjemiikgheaaGreatDoorPSharedNodesNOkSharedNodes
import Derived.Test.YteddjemiikgheaaGreatDoorNConf
import Derived.Test.YteddjemiikgheaaGreatDoorNJoin
import Derived.ProofKit
import Derived.SevenTiedAt
import Derived.LaidMore
import Derived.LaidSub
import Derived.Lib.LaidTab
import Derived.Lib.ItoaNum
import Derived.Test.YteddjemiikgheaaGreatDoorCards
import Derived.Test.YteddjemiikgheaaGreatDoorTie
namespace Go.Proofs.YteddjemiikgheaaGreatDoor.fnExactSharedNodes
open Go.ChangeShapes Go.WideShapes Go.ChangeAt Go.RowKit Go.Cx
theorem own : ownKnob Tryz.prog.godebug = none := by kernel_rfl
theorem laidOut : laidOutB Tryz.prog = true := by kernel_rfl
theorem pars : ∀ t ∈ Tryz.f4.params.toList, argOk Tryz.prog 20 t = true ∧ Tryz.prog.readableRec t = true ∧ t < Tryz.prog.types.size := by
  rw [Tryz.params4]
  intro t ht
  rcases List.mem_cons.mp ht with rfl | ht
  · exact ⟨by kernel_rfl, by kernel_rfl, of_decide_eq_true (by kernel_rfl)⟩
  cases ht
theorem good (xs : List D) (h : ArgsC Tryz.prog 20 Tryz.f4.params.toList xs) : Go.Cx.Good Tryz.prog 4 xs (.bool true) := by
  rw [Tryz.params4] at h
  cases h with | cons _ _ _ _ g0 h =>
  cases h
  obtain ⟨rs, rfl⟩ := conf_sl conf_Rule (ArgC.cell (by kernel_rfl) (by kernel_rfl) g0)
  exact Go.Cx.LawSharedNodes.law_good rs
theorem door_met (os : Os) (args : Array Value) : laidMetH Tryz.prog Rows.fnExactSharedNodesRow.laid ((World.doorLaid Tryz.prog 400 os).forCall (fun _ _ => 0) ⟨#[], args, []⟩).memory :=
  laidMetH_of_parts3 (fuel := 8) (laidMet_of_run' 8 (by kernel_rfl) (by kernel_rfl)) (by kernel_rfl) (by kernel_rfl)
theorem vok {W : World} (h : laidMetH Tryz.prog Rows.fnExactSharedNodesRow.laid W) : Vok W fun _ => False := by
  refine Vok.of_var (P := Tryz.prog) fun x hx => ?_
  rcases List.mem_cons.1 hx with rfl | hx
  · have h1 := laidMetH.filter (fun x => x.1 == "internal/strconv.uint64pow10") h
    have h2 : laidMet Tryz.prog [("internal/strconv.uint64pow10", Lib.tabData .u64 Lib.pow10Tab)] W := h1
    exact ⟨"internal/strconv.uint64pow10", _, by kernel_rfl, Lib.tabIs_of_head (g := 0) (t := 244) (e := 216) (n := 20) (by kernel_rfl) (by kernel_rfl) (by kernel_rfl) (by kernel_rfl) (by kernel_rfl) (by kernel_rfl) h2, rfl⟩
  cases hx
set_option maxRecDepth 100000 in
theorem lifted (os : Os) (started : os.Started) (H : Type) (enc : TypeId × Value → H) :
    ReturnsInHanded {} Tryz.checked os 4 .any (fun w args => (Rows.fnExactSharedNodesSpec.pre enc Tryz.prog Tryz.f4 [] false w args ∧ laidMetH Tryz.prog Rows.fnExactSharedNodesRow.laid w) ∧ sizedMet enc Tryz.prog Tryz.f4 (OpenSpec.ofChange Rows.fnExactSharedNodesSpec) false w args)
      (Rows.fnExactSharedNodesSpec.post enc Tryz.prog Tryz.f4 false true false false) := by
  refine returnsInHanded_of_change_and (C := Tryz.checked) (X := fun w _ => laidMetH Tryz.prog Rows.fnExactSharedNodesRow.laid w) (fun _ _ _ hh h => h.of_heap hh) own started (by kernel_rfl) Tryz.func4
    (ChangeSpec.witness_shaped (enc := enc) (C := Tryz.checked) (os := os) (X := fun w _ => laidMetH Tryz.prog Rows.fnExactSharedNodesRow.laid w) false (World.doorLaid Tryz.prog 400 os) #[.slice none 0 0] 20 rfl (World.shaped_of_RefB (by kernel_rfl) (by kernel_rfl)) (by kernel_rfl) (by kernel_rfl) (by kernel_rfl) (door_met os _)) ?_
  intro W base args ds gs before hval hW _ _ hL _
  refine law_contract (n := 20) (fn := Tryz.f4) (s := Rows.fnExactSharedNodesSpec) laidOut pars rfl (by kernel_rfl) rfl ?_ (vok hL) good hval hW
  intro ds hds
  rw [Tryz.params4] at hds
  match ds, hds with
  | [_], _ => rfl
theorem k0 : jp0 Tryz.prog 4 Tryz.f4 Rows.fnExactSharedNodesSpec Rows.fnExactSharedNodesRow = true := by kernel_rfl
theorem k1 : jp1 Tryz.prog 4 Tryz.f4 Rows.fnExactSharedNodesSpec Rows.fnExactSharedNodesRow = true := by kernel_rfl
theorem k2 : jp2 Tryz.prog 4 Tryz.f4 Rows.fnExactSharedNodesSpec Rows.fnExactSharedNodesRow = true := by kernel_rfl
theorem k3 : jp3 Tryz.prog 4 Tryz.f4 Rows.fnExactSharedNodesSpec Rows.fnExactSharedNodesRow = true := by kernel_rfl
theorem named : Tryz.prog.funcNamed Rows.fnExactSharedNodesRow.func = some 4 := by kernel_rfl
theorem closed : joinedFacts Tryz.prog 4 Tryz.f4 Rows.fnExactSharedNodesSpec Rows.fnExactSharedNodesRow = true := joined_of k0 k1 k2 k3
theorem over : Rows.FnExactSharedNodesSaid :=
  OpenClaim.holds_of_wide 4 Tryz.f4 rfl rfl rfl rfl rfl rfl rfl ⟨rfl, rfl, rfl, rfl, rfl⟩ rfl rfl rfl rfl rfl named Tryz.func4 closed
    (of_decide_eq_true (by kernel_rfl)) (by unfold Func.isWrapper; first | (rw [if_pos (by decide +kernel)]; kernel_rfl) | (rw [if_neg (by decide +kernel)]; exact ⟨rfl, rfl⟩))
    (fun os started H enc _ => lifted os started H enc)
theorem holds : Rows.FnExactSharedNodesCardSaid :=
  Claim7.holds_tied_plain_at .later [] [.data, .data, .data] true Rows.fnExactSharedNodesCard.stood.harness true
    over (fun _ h => by cases h) (by kernel_rfl) (fun _ h => by cases h) fnExactSharedNodes_row_tie rfl ⟨rfl, rfl⟩ (by kernel_rfl) rfl
    (fun f fn hf hfn => by
      obtain rfl : f = 4 := (Option.some.inj (named.symm.trans hf)).symm
      obtain rfl : fn = Tryz.f4 := (Option.some.inj (Tryz.func4.symm.trans hfn)).symm
      exact ⟨by kernel_rfl, fun j t ht => by
        rw [Tryz.params4] at ht
        have hm := List.mem_of_getElem? (l := _) (i := j) (a := t) (by simpa using ht)
        simp only [List.mem_cons, List.not_mem_nil, or_false] at hm
        rcases hm with rfl <;> (show Tryz.prog.wantsStandIn _ = false; kernel_rfl)⟩)
    (by kernel_rfl)
end Go.Proofs.YteddjemiikgheaaGreatDoor.fnExactSharedNodes
