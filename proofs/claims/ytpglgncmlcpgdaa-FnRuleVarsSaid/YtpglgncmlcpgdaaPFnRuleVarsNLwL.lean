/- More draws of the reference in plain words: facts, lists of facts, bindings, two patterns; instances. No condition but bounds. -/
import Derived.Test.YtpglgncmlcpgdaaPFnRuleVarsNLwJ
import Derived.Test.YtpglgncmlcpgdaaPFnRuleVarsNLwK
import Derived.Test.YtpglgncmlcpgdaaPFnRuleVarsNLwG
import Derived.Test.YtpglgncmlcpgdaaPFnRuleVarsNFn1
namespace Go.Cx
open Go.RowKit Go.Proofs
set_option linter.unusedVariables false
set_option linter.unusedSimpArgs false
theorem sIntD (c : Cur) (l : List Int) (h : CurOk c) (h0 : 0 < l.length) (h1 : l.length ≤ 256) : ∃ c' s, d_spec_l1Int c l = some (c', s) ∧ CurOk c' ∧ s ∈ l := by
  obtain ⟨c', x, e, hc, hx, hx2⟩ := sBelow c (l.length : Int) h (by omega) (by omega)
  unfold d_spec_l1Int
  rw [List.length_map, e, Option.bind_some]
  have hlt : x.toNat < l.length := by omega
  have e2 : atI l x = some l[x.toNat] := by unfold atI; rw [decide_eq_true hx, cond_true]; exact List.getElem?_eq_getElem hlt
  rw [e2, Option.bind_some]
  exact ⟨_, _, rfl, hc, List.getElem_mem hlt⟩
end Go.Cx
