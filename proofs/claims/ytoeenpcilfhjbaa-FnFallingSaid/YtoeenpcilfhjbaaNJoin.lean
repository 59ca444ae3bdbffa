/- The facts of a claim out of its parts. No condition; plain lemmas. -/
import Derived.ProofKit
namespace Go.Cx
open Go.ChangeShapes Go.WideShapes Go.ChangeAt Go.RowKit
set_option linter.unusedVariables false

def jp0 (P : Program) (f : FuncId) (fn : Func) (s : ChangeSpec) (c : OpenClaim) : Bool := (c.wf (OpenSpec.ofChange s) && laidOutB P && mapsRowed P)
def jp1 (P : Program) (f : FuncId) (fn : Func) (s : ChangeSpec) (c : OpenClaim) : Bool := (fn.params.all (P.readableRec ·) && namedTie P c.named s.vars) && ((c.stops == []) && (P.stops == []) && (c.knobs == []) && (P.stopKnobs == [])) && ((c.maps == (fn.params.toList ++ s.plain.varTypes P).any (P.mapsRec ·)) && (c.ifaces == (fn.params.toList ++ s.plain.varTypes P).any (P.ifacesRec ·)) && (c.mapsOut == P.mapsAmong fn.resultTypes.toList)) && ((c.loops == (fn.params.toList ++ s.plain.varTypes P).any (P.loopsFrom ·)) && (c.wideKeys == (fn.params.toList ++ s.plain.varTypes P ++ fn.resultTypes.toList).any (P.wideKeysFrom ·))) && (s.vars.all (P.varReadable ·) && fn.resultTypes.all (fun t => P.readableRec t && decide (t < P.types.size)) && (c.ifacesOut == fn.resultTypes.toList.any (P.ifacesRec ·)) && (c.loopsOut == fn.resultTypes.toList.any (P.loopsFrom ·))) && ((c.kinds == (if c.domain.isEmpty then [] else fn.params.toList.map fun t => match P.underlying t with | some (.int k) => some k | _ => none)) && (c.pinned == c.pinnedBy)) && ((c.veiled == (fn.params.toList ++ s.plain.varTypes P ++ fn.resultTypes.toList).any (P.veiledRec ·)) && c.veiledFits P fn.params.toList (fn.params.toList ++ s.plain.varTypes P ++ fn.resultTypes.toList))
def jp2 (P : Program) (f : FuncId) (fn : Func) (s : ChangeSpec) (c : OpenClaim) : Bool := (c.inPlace == P.inPlace f) && (c.unfollowed == P.unfollowed f) && (c.recurses == P.recurses f) && (c.named == P.varsNamed f)
def jp3 (P : Program) (f : FuncId) (fn : Func) (s : ChangeSpec) (c : OpenClaim) : Bool := (c.plainKeys == P.plainKeys) && (c.shortTexts.isNone && P.stopsHeard) && (P.mayEnter) && (c.lifted == P.liftsFinal) && (P.make == some c.make)
/-- each part is a theorem of its own: less memory -/
theorem joined_of {P : Program} {f : FuncId} {fn : Func} {s : ChangeSpec} {c : OpenClaim} (h0 : jp0 P f fn s c = true) (h1 : jp1 P f fn s c = true) (h2 : jp2 P f fn s c = true) (h3 : jp3 P f fn s c = true) : joinedFacts P f fn s c = true := by
  unfold jp0 at h0
  unfold jp1 at h1
  unfold jp2 at h2
  unfold jp3 at h3
  unfold joinedFacts
  simp only [Bool.and_eq_true] at h0 h1 h2 h3 ⊢
  obtain ⟨⟨x0_0, x0_1⟩, x0_2⟩ := h0
  obtain ⟨⟨⟨⟨⟨⟨⟨x1_0, x1_1⟩, ⟨⟨⟨x2_0, x2_1⟩, x2_2⟩, x2_3⟩⟩, ⟨⟨x7_0, x7_1⟩, x7_2⟩⟩, ⟨x8_0, x8_1⟩⟩, ⟨⟨⟨x9_0, x9_1⟩, x9_2⟩, x9_3⟩⟩, ⟨x15_0, x15_1⟩⟩, ⟨x16_0, x16_1⟩⟩ := h1
  obtain ⟨⟨⟨x3_0, x4_0⟩, x5_0⟩, x6_0⟩ := h2
  obtain ⟨⟨⟨⟨x10_0, ⟨x11_0, x11_1⟩⟩, x12_0⟩, x13_0⟩, x14_0⟩ := h3
  and_intros <;> assumption
end Go.Cx
