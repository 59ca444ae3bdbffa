/- The statement FnExactNodeLine: for every input the law returns true and each argument reads as before. No condition. -/
import Derived.Test.YtdckcgjimblpkaaGreatDoorRows
import Derived.Test.YtdckcgjimblpkaaGreatDoorPNodeLineNOkNodeLine
import Derived.Test.YtdckcgjimblpkaaGreatDoorNConf
import Derived.Test.YtdckcgjimblpkaaGreatDoorNJoin
import Derived.ProofKit
import Derived.SevenTiedAt
import Derived.LaidMore
import Derived.LaidSub
import Derived.Lib.LaidTab
import Derived.Lib.ItoaNum
import Derived.Test.YtdckcgjimblpkaaGreatDoorCards
import Derived.Test.YtdckcgjimblpkaaGreatDoorTie
namespace Go.Proofs.YtdckcgjimblpkaaGreatDoor.fnExactNodeLine
open Go.ChangeShapes Go.WideShapes Go.ChangeAt Go.RowKit Go.Cx
theorem own : ownKnob Tryz.prog.godebug = none := by kernel_rfl
theorem laidOut : laidOutB Tryz.prog = true := by kernel_rfl
theorem pars : ∀ t ∈ Tryz.f3.params.toList, argOk Tryz.prog 20 t = true ∧ Tryz.prog.readableRec t = true ∧ t < Tryz.prog.types.size := by
  rw [Tryz.params3]
  intro t ht
  rcases List.mem_cons.mp ht with rfl | ht
  · exact ⟨by kernel_rfl, by kernel_rfl, of_decide_eq_true (by kernel_rfl)⟩
  rcases List.mem_cons.mp ht with rfl | ht
  · exact ⟨by kernel_rfl, by kernel_rfl, of_decide_eq_true (by kernel_rfl)⟩
  cases ht
theorem good (xs : List D) (h : ArgsC Tryz.prog 20 Tryz.f3.params.toList xs) : Go.Cx.Good Tryz.prog 3 xs (.bool true) := by
  rw [Tryz.params3] at h
  cases h with | cons _ _ _ _ g0 h =>
  cases h with | cons _ _ _ _ g1 h =>
  cases h
  obtain ⟨n, rfl⟩ := ArgC.struct conf_Network (by kernel_rfl) (by kernel_rfl) g0
  obtain ⟨i, rfl⟩ := conf_int (k := .i64) (ArgC.cell (by kernel_rfl) (by kernel_rfl) g1)
  exact Go.Cx.LawNodeLine.law_good n i
theorem door_met (os : Os) (args : Array Value) : laidMetH Tryz.prog Rows.fnExactNodeLineRow.laid ((World.doorLaid Tryz.prog 400 os).forCall (fun _ _ => 0) ⟨#[], args, []⟩).memory :=
  laidMetH_of_parts3 (fuel := 8) (laidMet_of_run' 8 (by kernel_rfl) (by kernel_rfl)) (by kernel_rfl) (by kernel_rfl)
theorem cells_of_strs {H : Type} {enc : TypeId × Value → H} {P : Program} {w : World} {base : Nat} {sp : Nat → Bool} {held : Bool} {fuel : Nat} {t e : TypeId} {n : Nat} {cs : List Value} {zs : List (List UInt8)} {p : List MemPlace}
    (ht : P.underlying t = some (.array n e)) (he : P.underlying e = some .string) (hce : P.cellsOf e = 1) (hct : P.cellsOf t = n)
    (h : DataW.trod enc P w base sp held fuel t cs = some (.agg (zs.map fun z => .lit (.string z)), p)) : cs = zs.map fun z => Value.string ⟨z.toArray⟩ := by
  cases fuel with
  | zero => simp [DataW.trod] at h
  | succ fuel =>
    simp only [DataW.trod, ht, hce, hct, Nat.mul_one] at h
    split at h
    · rename_i hl
      obtain ⟨xs, hm, hx⟩ := Option.map_eq_some_iff.1 h
      have hxs : xs.map (·.1) = zs.map fun z => (DataW.lit (.string z) : DataW H) := by
        have := congrArg Prod.fst hx
        simpa using this
      have hxl : xs.length = n := by simpa using Go.Lib.mapM_length hm
      have hzl : zs.length = n := by
        have := congrArg List.length hxs
        simp at this
        omega
      apply List.ext_getElem?
      intro i
      by_cases hi : i < n
      · obtain ⟨b, hb, hf⟩ := Go.Lib.mapM_at hm i i (by simp [hi])
        obtain ⟨s, hc, rfl, _⟩ := DataW.trod_string he hf
        have h1 : cs[i]? = some (.string s) := by
          have := congrArg (·[0]?) hc
          simpa [List.getElem?_take, List.getElem?_drop] using this
        have h2 : (xs.map (·.1))[i]? = some (DataW.lit (.string s.data.toList) : DataW H) := by simp [hb]
        rw [hxs] at h2
        simp only [List.getElem?_map, Option.map_eq_some_iff, DataW.lit.injEq, Lit.string.injEq] at h2
        obtain ⟨z', hz', rfl⟩ := h2
        simp [h1, hz']
      · rw [List.getElem?_eq_none (by omega), List.getElem?_eq_none (by simp; omega)]
    · cases h
theorem strs_of_head {P : Program} {W : World} {name : String} {zs : List (List UInt8)} {rest : List (String × DataW Unit)} {g : Nat} {t e : TypeId} {n : Nat}
    (hg : P.globalNamed name = some g) (hty : (P.globals[g]?).map (·.type) = some t) (ht : P.underlying t = some (.array n e)) (he : P.underlying e = some .string) (hce : P.cellsOf e = 1) (hct : P.cellsOf t = n)
    (h : laidMet P ((name, .agg (zs.map fun z => .lit (.string z))) :: rest) W) : W.var? P name = some (zs.map fun z => Value.string ⟨z.toArray⟩).toArray := by
  obtain ⟨ps, ⟨g', t', cs, fuel, p, q, hg', ht', hvar, hd, _, _⟩, _⟩ := h
  obtain rfl := Option.some.inj (hg.symm.trans hg')
  obtain rfl := Option.some.inj (hty.symm.trans ht')
  rw [hvar, ← cells_of_strs ht he hce hct hd]
theorem vok {W : World} (h : laidMetH Tryz.prog Rows.fnExactNodeLineRow.laid W) : Vok W fun _ => False := by
  refine Vok.of_var (P := Tryz.prog) fun x hx => ?_
  rcases List.mem_cons.1 hx with rfl | hx
  · have h1 := laidMetH.filter (fun x => x.1 == "internal/strconv.uint64pow10") h
    have h2 : laidMet Tryz.prog [("internal/strconv.uint64pow10", Lib.tabData .u64 Lib.pow10Tab)] W := h1
    exact ⟨"internal/strconv.uint64pow10", _, by kernel_rfl, Lib.tabIs_of_head (g := 2) (t := 234) (e := 221) (n := 20) (by kernel_rfl) (by kernel_rfl) (by kernel_rfl) (by kernel_rfl) (by kernel_rfl) (by kernel_rfl) h2, rfl⟩
  rcases List.mem_cons.1 hx with rfl | hx
  · have h1 := laidMetH.filter (fun x => x.1 == "loop.example/g03015/impl.testSigns") h
    have h2 : laidMet Tryz.prog [("loop.example/g03015/impl.testSigns", .agg (([[32, 61, 32], [32, 33, 61, 32], [32, 60, 32]] : List (List UInt8)).map fun z => .lit (.string z)))] W := h1
    exact ⟨"loop.example/g03015/impl.testSigns", _, by kernel_rfl, strs_of_head (g := 0) (t := 143) (e := 9) (n := 3) (by kernel_rfl) (by kernel_rfl) (by kernel_rfl) (by kernel_rfl) (by kernel_rfl) (by kernel_rfl) h2, rfl⟩
  cases hx
set_option maxRecDepth 100000 in
theorem lifted (os : Os) (started : os.Started) (H : Type) (enc : TypeId × Value → H) :
    ReturnsInHanded {} Tryz.checked os 3 .any (fun w args => (Rows.fnExactNodeLineSpec.pre enc Tryz.prog Tryz.f3 [] false w args ∧ laidMetH Tryz.prog Rows.fnExactNodeLineRow.laid w) ∧ sizedMet enc Tryz.prog Tryz.f3 (OpenSpec.ofChange Rows.fnExactNodeLineSpec) false w args)
      (Rows.fnExactNodeLineSpec.post enc Tryz.prog Tryz.f3 false true false false) := by
  refine returnsInHanded_of_change_and (C := Tryz.checked) (X := fun w _ => laidMetH Tryz.prog Rows.fnExactNodeLineRow.laid w) (fun _ _ _ hh h => h.of_heap hh) own started (by kernel_rfl) Tryz.func3
    (ChangeSpec.witness_shaped (enc := enc) (C := Tryz.checked) (os := os) (X := fun w _ => laidMetH Tryz.prog Rows.fnExactNodeLineRow.laid w) false (World.doorLaid Tryz.prog 400 os) #[.agg #[.slice none 0 0, .slice none 0 0, .slice none 0 0, .slice none 0 0, .slice none 0 0, .int .i64 0], .int .i64 0] 20 rfl (World.shaped_of_RefB (by kernel_rfl) (by kernel_rfl)) (by kernel_rfl) (by kernel_rfl) (by kernel_rfl) (door_met os _)) ?_
  intro W base args ds gs before hval hW _ _ hL _
  refine law_contractV (n := 20) (fn := Tryz.f3) (s := Rows.fnExactNodeLineSpec) laidOut pars rfl (by kernel_rfl) (fun n hn g t h1 h2 => ?_) ?_ (vok hL) good hval hW
  · obtain rfl := List.mem_singleton.1 (show n ∈ ["loop.example/g03015/impl.testSigns"] from hn)
    obtain rfl : g = 0 := Option.some.inj (h1.symm.trans (by kernel_rfl))
    obtain rfl : t = 143 := Option.some.inj (h2.symm.trans (by kernel_rfl))
    exact ⟨by kernel_rfl, of_decide_eq_true (by kernel_rfl)⟩
  intro ds gs hds hgs
  rw [Tryz.params3] at hds
  match ds, hds, gs, hgs with
  | [_, _], _, [_], _ => rfl
theorem k0 : jp0 Tryz.prog 3 Tryz.f3 Rows.fnExactNodeLineSpec Rows.fnExactNodeLineRow = true := by kernel_rfl
theorem k1 : jp1 Tryz.prog 3 Tryz.f3 Rows.fnExactNodeLineSpec Rows.fnExactNodeLineRow = true := by kernel_rfl
theorem k2 : jp2 Tryz.prog 3 Tryz.f3 Rows.fnExactNodeLineSpec Rows.fnExactNodeLineRow = true := by kernel_rfl
theorem k3 : jp3 Tryz.prog 3 Tryz.f3 Rows.fnExactNodeLineSpec Rows.fnExactNodeLineRow = true := by kernel_rfl
theorem named : Tryz.prog.funcNamed Rows.fnExactNodeLineRow.func = some 3 := by kernel_rfl
theorem closed : joinedFacts Tryz.prog 3 Tryz.f3 Rows.fnExactNodeLineSpec Rows.fnExactNodeLineRow = true := joined_of k0 k1 k2 k3
theorem over : Rows.FnExactNodeLineSaid :=
  OpenClaim.holds_of_wide 3 Tryz.f3 rfl rfl rfl rfl rfl rfl rfl ⟨rfl, rfl, rfl, rfl, rfl⟩ rfl rfl rfl rfl rfl named Tryz.func3 closed
    (of_decide_eq_true (by kernel_rfl)) (by unfold Func.isWrapper; first | (rw [if_pos (by decide +kernel)]; kernel_rfl) | (rw [if_neg (by decide +kernel)]; exact ⟨rfl, rfl⟩))
    (fun os started H enc _ => lifted os started H enc)
theorem holds : Rows.FnExactNodeLineCardSaid :=
  Claim7.holds_tied_plain_at .later [] [.data, .data, .data, .data] true Rows.fnExactNodeLineCard.stood.harness true
    over (fun _ h => by cases h) (by kernel_rfl) (fun _ h => by cases h) fnExactNodeLine_row_tie rfl ⟨rfl, rfl⟩ (by kernel_rfl) rfl
    (fun f fn hf hfn => by
      obtain rfl : f = 3 := (Option.some.inj (named.symm.trans hf)).symm
      obtain rfl : fn = Tryz.f3 := (Option.some.inj (Tryz.func3.symm.trans hfn)).symm
      exact ⟨by kernel_rfl, fun j t ht => by
        rw [Tryz.params3] at ht
        have hm := List.mem_of_getElem? (l := _) (i := j) (a := t) (by simpa using ht)
        simp only [List.mem_cons, List.not_mem_nil, or_false] at hm
        rcases hm with rfl | rfl <;> (show Tryz.prog.wantsStandIn _ = false; kernel_rfl)⟩)
    (by kernel_rfl)
end Go.Proofs.YtdckcgjimblpkaaGreatDoor.fnExactNodeLine
