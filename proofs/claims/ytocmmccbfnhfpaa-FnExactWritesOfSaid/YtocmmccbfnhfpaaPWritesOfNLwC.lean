/- Chapter 5 in plain words: which variables a rule binds and uses, what it reads and writes, whether it is valid. No condition but bounds on sizes. -/
import Derived.Test.YtocmmccbfnhfpaaPWritesOfNLwB
namespace Go.Cx
open Go.RowKit Go.Proofs
set_option linter.unusedVariables false
set_option linter.unusedSimpArgs false
def wrsV (l : List Action) : List Bytes := (l.filter fun c => decide (c.kind = 1) || decide (c.kind = 2)).map fun c => c.pat.rel
theorem wrsV_len (l : List Action) : (wrsV l).length ≤ l.length := by unfold wrsV; rw [List.length_map]; exact List.length_filter_le _ _
theorem sWrites (r : Rule) (h : r.wt ≤ 1048576) : d_spec_WritesOf r = some (uniqS (wrsV r.acts)) := by
  unfold d_spec_WritesOf
  have : ∀ (l : List Action) (i : Nat) (acc : List Bytes), acc.length + l.length ≤ 2097152 → d_spec_WritesOf_L1 r (fun q => some q) l i (uniqS acc) = some (uniqS (acc ++ wrsV l)) := by
    intro l
    induction l with
    | nil => intro i acc _; simp [d_spec_WritesOf_L1, wrsV]
    | cons c l ih =>
      intro i acc hb
      simp only [List.length_cons] at hb
      have hu := len_uniqS acc
      rw [d_spec_WritesOf_L1, sPut _ _ (by omega), Option.bind_some, uniqS_snoc, ih _ _ (by simp; omega), ih _ _ (by omega)]
      by_cases h1 : c.kind = 1
      · simp [h1, wrsV]
      by_cases h2 : c.kind = 2
      · simp [h2, wrsV]
      have e1 : (c.kind == 1) = false := beq_eq_false_iff_ne.2 h1
      have e2 : (c.kind == 2) = false := beq_eq_false_iff_ne.2 h2
      simp [h1, h2, e1, e2, wrsV]
  have hc := Rule.acts_le h
  have hl := wtL_len Action.wt r.acts
  have := this r.acts 0 [] (by simp; omega)
  simpa [uniqS] using this
theorem iWrites (r : Rule) (h : r.wt ≤ 1048576) : d_impl_WritesOf r = some (uniqS (wrsV r.acts)) := by
  unfold d_impl_WritesOf
  have : ∀ (l : List Action) (i : Nat) (w : List Bytes), w.length + l.length ≤ 2097152 → d_impl_WritesOf_L1 r (fun q => (d_impl_SortedTexts q).bind fun y => some y) l i w = some (uniqS (w ++ wrsV l)) := by
    intro l
    induction l with
    | nil => intro i w hb; rw [d_impl_WritesOf_L1, iSorted _ (by simp at hb; omega)]; simp [wrsV]
    | cons c l ih =>
      intro i w hb
      simp only [List.length_cons] at hb
      rw [d_impl_WritesOf_L1, room1 (by omega) (by decide), ih _ _ (by simp; omega), ih _ _ (by omega)]
      by_cases h1 : c.kind = 1
      · simp [h1, wrsV]
      by_cases h2 : c.kind = 2
      · simp [h2, wrsV]
      have e1 : (c.kind == 1) = false := beq_eq_false_iff_ne.2 h1
      have e2 : (c.kind == 2) = false := beq_eq_false_iff_ne.2 h2
      simp [h1, h2, e1, e2, wrsV]
  have hc := Rule.acts_le h
  have hl := wtL_len Action.wt r.acts
  have := this r.acts 0 [] (by simp; omega)
  simpa using this
/-! when a rule is valid -/
end Go.Cx
