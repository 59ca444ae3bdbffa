/- Chapters 2 to 5 in plain words: facts, patterns, conditions, rules, as the program and the reference read them. No condition but bounds on sizes. -/
import Derived.Test.YtocmmccbfnhfpaaPBoundVarsNLwA
namespace Go.Cx
open Go.RowKit Go.Proofs
set_option linter.unusedVariables false
set_option linter.unusedSimpArgs false
theorem Fact.args_le {p : Fact} {n : Nat} (h : p.wt ≤ n) : p.args.length ≤ n := by unfold Fact.wt at h; have := wtL_len tw p.args; omega
theorem Fact.arg_le {p : Fact} {n : Nat} (h : p.wt ≤ n) {x : Bytes} (hx : x ∈ p.args) : x.length ≤ n := by unfold Fact.wt at h; have := wtL_mem (w := tw) hx; have e : tw x = x.length := rfl; omega
theorem Cond.pat_le {c : Cond} {n : Nat} (h : c.wt ≤ n) : c.pat.wt ≤ n := by simp only [Cond.wt, Fact.wt] at h ⊢; omega
theorem Action.pat_le {c : Action} {n : Nat} (h : c.wt ≤ n) : c.pat.wt ≤ n := by simp only [Action.wt, Fact.wt] at h ⊢; omega
theorem Rule.conds_le {r : Rule} {n : Nat} (h : r.wt ≤ n) : wtL Cond.wt r.conds ≤ n := by simp only [Rule.wt] at h; omega
theorem Rule.cond_le {r : Rule} {n : Nat} (h : r.wt ≤ n) {c : Cond} (hc : c ∈ r.conds) : c.wt ≤ n := by have := Rule.conds_le h; have := wtL_mem (w := Cond.wt) hc; omega
/-- the variables among texts -/
def varsB (l : List Bytes) : List Bytes := l.filter varB
theorem varsB_len (l : List Bytes) : (varsB l).length ≤ l.length := List.length_filter_le _ _
theorem sVarsOf (p : Fact) (h : p.wt ≤ 1048576) : d_spec_VarsOf p = some (uniqS (varsB p.args)) := by
  unfold d_spec_VarsOf
  have : ∀ (r : List Bytes) (i : Nat) (w : List Bytes), (∀ x ∈ r, x.length ≤ 1048576) → w.length + r.length ≤ 2097152 → d_spec_VarsOf_L1 p (fun q => some q) r i w = some ((varsB r).foldl putB w) := by
    intro r
    induction r with
    | nil => intro i w _ _; rfl
    | cons x r ih =>
      intro i w hr hw
      simp only [List.length_cons] at hw
      have hl := len_putB w x
      rw [d_spec_VarsOf_L1, sVar x (hr x (by simp)), Option.bind_some, sPut w x (by omega), Option.bind_some, ih _ _ (fun y hy => hr y (by simp [hy])) (by omega), ih _ _ (fun y hy => hr y (by simp [hy])) (by omega)]
      cases hv : varB x <;> simp [varsB, hv]
  exact this p.args 0 [] (fun x hx => Fact.arg_le h hx) (by have := Fact.args_le h; simp; omega)
theorem iVars (l : List Bytes) (hl : l.length ≤ 2097152) (h : ∀ x ∈ l, x.length ≤ 1048576) : d_impl_varsAmong l = some (varsB l) := by
  unfold d_impl_varsAmong
  have : ∀ (r : List Bytes) (i : Nat) (w : List Bytes), (∀ x ∈ r, x.length ≤ 1048576) → w.length + r.length ≤ 2097152 → d_impl_varsAmong_L1 l (fun q => some q) r i w = some (w ++ varsB r) := by
    intro r
    induction r with
    | nil => intro i w _ _; simp [d_impl_varsAmong_L1, varsB]
    | cons x r ih =>
      intro i w hr hw
      simp only [List.length_cons] at hw
      rw [d_impl_varsAmong_L1, iVar x (hr x (by simp)), Option.bind_some, room1 (by omega) (by decide), ih _ _ (fun y hy => hr y (by simp [hy])) (by simp; omega), ih _ _ (fun y hy => hr y (by simp [hy])) (by omega)]
      cases hv : varB x <;> simp [varsB, hv]
  exact this l 0 [] h (by simpa using hl)
end Go.Cx
