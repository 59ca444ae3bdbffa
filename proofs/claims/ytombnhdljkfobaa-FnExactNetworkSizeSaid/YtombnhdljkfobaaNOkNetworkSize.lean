/- NetworkSize: the program and the reference agree; the law returns true. No condition. -/
import Derived.Test.YtombnhdljkfobaaNPl
import Derived.Test.YtombnhdljkfobaaNLawNetworkSize
namespace Go.Cx
open Go.RowKit Go.Proofs
namespace LawNetworkSize

theorem both2 (x : Network) : ∀ (l : List Node) (i : Nat) (v : Int), ∃ r, d_spec_NetworkSize_L2 x (fun z => some z) l i v = some r ∧ d_impl_NetworkSize_L2 x (fun z => some z) l i v = some r := by
  intro l
  induction l with
  | nil => intro i v; exact ⟨v, rfl, rfl⟩
  | cons y l ih => intro i v; exact ih _ _
theorem both1 (x : Network) {k k' : Int → Option Int} (hk : ∀ v, ∃ r, k v = some r ∧ k' v = some r) : ∀ (l : List Alpha) (i : Nat) (v : Int), ∃ r, d_spec_NetworkSize_L1 x k l i v = some r ∧ d_impl_NetworkSize_L1 x k' l i v = some r := by
  intro l
  induction l with
  | nil => intro i v; exact hk v
  | cons y l ih => intro i v; exact ih _ _
theorem both (x : Network) : ∃ r, d_spec_NetworkSize x = some r ∧ d_impl_NetworkSize x = some r := both1 x (fun v => both2 x x.nodes 0 v) x.alphas 0 0

theorem law_ok (x : Network) (h : RdbL x.c) : d_laws_FnExactNetworkSize x = some true := by
  unfold d_laws_FnExactNetworkSize
  obtain ⟨r, e, _, hb⟩ := szNetwork_ok x h 1048576 (by omega) (by omega)
  rw [e, Option.bind_some]
  by_cases c : r < 0
  · simp [c]
  · obtain ⟨s, e1, e2⟩ := both x
    simp [c, toNetwork_ok x (hb (by omega)), e1, e2, eqNetwork_ok]

theorem law_good (x : Network) : Good Try.prog 3 [.agg x.c] (.bool true) :=
  Good.of_rdb ⟨_, Try.func3, rfl, by decide⟩ fun h => d_laws_FnExactNetworkSize_good (law_ok x (Rdb.agg (h _ (by simp))))
end LawNetworkSize
end Go.Cx
