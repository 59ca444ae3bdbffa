/- NodeLine: the program and the reference agree; the law returns true. No condition. -/
import Derived.Test.YtdckcgjimblpkaaGreatDoorPNodeLineNLwI
import Derived.Test.YtdckcgjimblpkaaGreatDoorPNodeLineNLawNodeLine
namespace Go.Cx
open Go.RowKit Go.Proofs
set_option linter.unusedVariables false
set_option linter.unusedSimpArgs false
namespace LawNodeLine
theorem both (n : Network) (i : Int) (hi : InR .i64 i) (hp : ∀ x ∈ n.nodes, InR .i64 x.parent) (h : n.wt ≤ 1048576) : ∃ s, d_spec_NodeLine n i = some s ∧ d_impl_NodeLine n i = some s := ⟨_, sLine n i h hi hp, iLine n i h hi hp⟩
theorem law_ok (n : Network) (i : Int) (hn : RdbL (Network.c n)) (hi : InR .i64 i) : d_laws_FnExactNodeLine n i = some true := by
  unfold d_laws_FnExactNodeLine
  obtain ⟨r0, e0, l0, w0⟩ := szNetwork_ok n hn 1048576 (by omega) (by omega)
  rw [e0, Option.bind_some]
  by_cases c0 : r0 < 0
  · simp [c0]
  have n0 : decide ((r0 : Int) < 0) = false := decide_eq_false c0
  rw [n0, cond_false]
  have w0 := w0 (by omega)
  have hw : Network.wt n ≤ 1048576 := by omega
  have hp : ∀ x ∈ n.nodes, InR .i64 x.parent := fun x hx => (RdbL.row (c := Node.c) (hn (.sl (n.nodes.map Node.c)) (by simp)) x hx (.int .i64 x.parent) (by simp)).int
  obtain ⟨s, es, ei⟩ := both n i hi hp (by omega)
  simp only [es, ei, toNetwork_ok n (by omega), eqNetwork_ok, Option.bind_some, decide_true, Bool.not_true, Bool.not_false, cond_false, cond_true, bne_self_eq_false, beq_self_eq_true]
theorem law_good (n : Network) (i : Int) : Good Tryz.prog 3 [.agg (Network.c n), .int .i64 i] (.bool true) :=
  Good.of_rdb ⟨_, Tryz.func3, rfl, by decide⟩ fun h => d_laws_FnExactNodeLine_good (law_ok n i (Rdb.agg (h _ (by simp))) (h (.int .i64 i) (by simp)).int)
end LawNodeLine
end Go.Cx
