/- PathOf: the program and the reference agree; the law returns true. No condition. -/
import Derived.Test.YtlhcfcgghbmhiaaPPathOfNLwQ
import Derived.Test.YtlhcfcgghbmhiaaPPathOfNLawPathOf
namespace Go.Cx
open Go.RowKit Go.Proofs
set_option linter.unusedVariables false
set_option linter.unusedSimpArgs false
namespace LawPathOf
theorem mkL_bd {α : Type} {m : α → Nat} {B : Nat} : ∀ (l : List α), (∀ x ∈ l, m x ≤ B) → mkL m l ≤ B * l.length
  | [], _ => by simp [mkL]
  | x :: l, h => by
    have h1 := mkL_bd l fun y hy => h y (by simp [hy])
    have h2 := h x (by simp)
    rw [mkL_cons, List.length_cons, Nat.mul_add]; omega
theorem both (n : Network) (i : Int) (h : n.wt ≤ 1048576) : ∃ s, d_spec_PathOf n i = some s ∧ d_impl_PathOf n i = some s ∧ (mkL Cond.mks s : Int) ≤ 4611686018427387000 := by
  refine ⟨_, sPath n i h, iPath n i h, ?_⟩
  have hl := Network.nodes_le' h
  unfold pathB
  split
  · have h1 := mkL_bd (m := Cond.mks) (B := 6291462) (pathC n.nodes i.toNat i.toNat) (fun c hc => by
      unfold pathC at hc
      obtain ⟨j, _, hj⟩ := List.mem_filterMap.1 hc
      unfold condAt at hj
      cases hx : n.nodes[j]? with
      | none => rw [hx] at hj; cases hj
      | some x =>
        rw [hx] at hj
        cases hj
        have := Cond.mks_le x.cond
        have := Node.cond_le' (Network.node_le' h (List.mem_of_getElem? hx))
        omega)
    have h2 := pathC_len n.nodes i.toNat i.toNat
    have h3 : 6291462 * (pathC n.nodes i.toNat i.toNat).length ≤ 6291462 * 1048576 := Nat.mul_le_mul_left _ (by omega)
    omega
  · simp [mkL]
theorem law_ok (n : Network) (i : Int) (hn : RdbL (Network.c n)) : d_laws_FnExactPathOf n i = some true := by
  unfold d_laws_FnExactPathOf
  obtain ⟨r0, e0, l0, w0⟩ := szNetwork_ok n hn 1048576 (by omega) (by omega)
  rw [e0, Option.bind_some]
  by_cases c0 : r0 < 0
  · simp [c0]
  have n0 : decide ((r0 : Int) < 0) = false := decide_eq_false c0
  rw [n0, cond_false]
  have w0 := w0 (by omega)
  have hw : Network.wt n ≤ 1048576 := by omega
  obtain ⟨s, es, ei, hm⟩ := both n i (by omega)
  have b0 := Network.mksN_le (n)
  obtain ⟨x0, m0, _⟩ := mkNetwork_ok n (1) (by omega) (by omega)
  obtain ⟨g0, p0, q0⟩ := mkCondS_ok s (1) (by omega) (by omega)
  have neg0 : decide (((1 + ((Network.mksN (n) : Nat) : Int)) : Int) < 0) = false := decide_eq_false (by omega)
  have neg1 : decide (((1 + ((mkL Cond.mks (s) : Nat) : Int)) : Int) < 0) = false := decide_eq_false (by omega)
  simp only [es, ei, toNetwork_ok n (by omega), eqNetwork_ok, m0, p0, q0, eqCondS_ok, neg0, neg1, Option.bind_some, decide_true, Bool.not_true, Bool.not_false, cond_false, cond_true, bne_self_eq_false, beq_self_eq_true]
theorem law_good (n : Network) (i : Int) : Good Try.prog 5 [.agg (Network.c n), .int .i64 i] (.bool true) :=
  Good.of_rdb ⟨_, Try.func5, rfl, by decide⟩ fun h => d_laws_FnExactPathOf_good (law_ok n i (Rdb.agg (h _ (by simp))))
end LawPathOf
end Go.Cx
