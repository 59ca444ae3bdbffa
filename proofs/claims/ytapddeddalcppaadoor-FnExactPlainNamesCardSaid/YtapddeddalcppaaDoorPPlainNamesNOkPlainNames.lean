/- PlainNames: the program and the reference agree; the law returns true. No condition. -/
import Derived.Test.YtapddeddalcppaaDoorPPlainNamesNLwE
import Derived.Test.YtapddeddalcppaaDoorPPlainNamesNLawPlainNames
namespace Go.Cx
open Go.RowKit Go.Proofs
set_option linter.unusedVariables false
set_option linter.unusedSimpArgs false
namespace LawPlainNames
theorem mk_pair (l : List Pair) : mkL Pair.mks l = 2 * l.length := by
  induction l with
  | nil => rfl
  | cons x l ih => rw [mkL_cons, ih, List.length_cons, Pair.mks]; omega
theorem both (r : Rule) (h : r.wt ≤ 1048576) : ∃ s, d_spec_PlainNames r = some s ∧ d_impl_PlainNames r = some s ∧ (mkL Pair.mks s : Int) ≤ 4611686018427387000 := by
  refine ⟨_, sNames r h, iNames r h, ?_⟩
  rw [mk_pair]
  have h1 := foldl_nameP_len (termsB r.conds) []
  have h2 := termsB_len r.conds
  have h3 := Rule.conds_le h
  unfold namesB
  simp only [List.length_nil] at h1
  omega
theorem law_ok (r : Rule) (hr : RdbL (Rule.c r)) : d_laws_FnExactPlainNames r = some true := by
  unfold d_laws_FnExactPlainNames
  obtain ⟨r0, e0, l0, w0⟩ := szRule_ok r hr 1048576 (by omega) (by omega)
  rw [e0, Option.bind_some]
  by_cases c0 : r0 < 0
  · simp [c0]
  have n0 : decide ((r0 : Int) < 0) = false := decide_eq_false c0
  rw [n0, cond_false]
  have w0 := w0 (by omega)
  have hw : Rule.wt r ≤ 1048576 := by omega
  obtain ⟨s, es, ei, hm⟩ := both r (by omega)
  have b0 := Rule.mksN_le (r)
  obtain ⟨x0, m0, _⟩ := mkRule_ok r (1) (by omega) (by omega)
  obtain ⟨g0, p0, q0⟩ := mkPairS_ok s (1) (by omega) (by omega)
  have neg0 : decide (((1 + ((Rule.mksN (r) : Nat) : Int)) : Int) < 0) = false := decide_eq_false (by omega)
  have neg1 : decide (((1 + ((mkL Pair.mks (s) : Nat) : Int)) : Int) < 0) = false := decide_eq_false (by omega)
  simp only [es, ei, toRule_ok r (by omega), eqRule_ok, m0, p0, q0, eqPairS_ok, neg0, neg1, Option.bind_some, decide_true, Bool.not_true, Bool.not_false, cond_false, cond_true, bne_self_eq_false, beq_self_eq_true]
theorem law_good (r : Rule) : Good Tryd.prog 4 [.agg (Rule.c r)] (.bool true) :=
  Good.of_rdb ⟨_, Tryd.func4, rfl, by decide⟩ fun h => d_laws_FnExactPlainNames_good (law_ok r (Rdb.agg (h _ (by simp))))
end LawPlainNames
end Go.Cx
