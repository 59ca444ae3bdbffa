/- Chapter 5 in plain words: which variables a rule binds and uses, what it reads and writes, whether it is valid. No condition but bounds on sizes. -/
import Derived.Test.YtocmmccbfnhfpaaPRuleVarsNLwB
namespace Go.Cx
open Go.RowKit Go.Proofs
set_option linter.unusedVariables false
set_option linter.unusedSimpArgs false
theorem flatMap_len {α β : Type} {f : α → List β} {w : α → Nat} (l : List α) (h : ∀ x ∈ l, (f x).length ≤ w x + 2) : (l.flatMap f).length ≤ 3 * wtL w l := by
  induction l with
  | nil => simp [wtL]
  | cons x l ih =>
    rw [List.flatMap_cons, List.length_append, wtL_cons]
    have h1 := h x (by simp)
    have h2 := ih (fun y hy => h y (by simp [hy]))
    omega
/-- all variables of the conditions; of the rule -/
def cndV (l : List Cond) : List Bytes := l.flatMap condV
def actV (l : List Action) : List Bytes := l.flatMap fun a => varsB a.pat.args
def rulV (r : Rule) : List Bytes := cndV r.conds ++ actV r.acts
theorem cndV_len (l : List Cond) : (cndV l).length ≤ 3 * wtL Cond.wt l := flatMap_len l (fun c _ => condV_len (Nat.le_refl _))
theorem actV_len (l : List Action) : (actV l).length ≤ 3 * wtL Action.wt l := flatMap_len l (fun c _ => by
  have h1 := varsB_len c.pat.args
  have h2 := Fact.args_le (Action.pat_le (Nat.le_refl c.wt))
  omega)
theorem rulV_len {r : Rule} {n : Nat} (h : r.wt ≤ n) : (rulV r).length ≤ 6 * n := by
  have h1 := cndV_len r.conds; have h2 := actV_len r.acts; have h3 := Rule.conds_le h; have h4 := Rule.acts_le h
  unfold rulV
  rw [List.length_append]; omega
theorem sRuleVL2 (a : Rule) (i : Nat) (y : List Bytes) (k : List Bytes → Option (List Bytes)) : ∀ (l : List Bytes) (j : Nat) (w : List Bytes), w.length + l.length ≤ 1099511627770 → d_spec_RuleVars_L2 a i y k l j w = k (l.foldl putB w) := by
  intro l
  induction l with
  | nil => intro j w _; rfl
  | cons x l ih =>
    intro j w hw
    simp only [List.length_cons] at hw
    have := len_putB w x
    rw [d_spec_RuleVars_L2, sPut w x (by omega), Option.bind_some, ih _ _ (by omega)]; rfl
theorem sRuleVL4 (a : Rule) (i : Nat) (y : List Bytes) (k : List Bytes → Option (List Bytes)) : ∀ (l : List Bytes) (j : Nat) (w : List Bytes), w.length + l.length ≤ 1099511627770 → d_spec_RuleVars_L4 a i y k l j w = k (l.foldl putB w) := by
  intro l
  induction l with
  | nil => intro j w _; rfl
  | cons x l ih =>
    intro j w hw
    simp only [List.length_cons] at hw
    have := len_putB w x
    rw [d_spec_RuleVars_L4, sPut w x (by omega), Option.bind_some, ih _ _ (by omega)]; rfl
theorem sRuleVL1 (a : Rule) (k : List Bytes → Option (List Bytes)) : ∀ (l : List Cond) (i : Nat) (acc : List Bytes), (∀ c ∈ l, c.wt ≤ 1048576) → acc.length + 3 * wtL Cond.wt l ≤ 16777216 →
    d_spec_RuleVars_L1 a k l i (uniqS acc) = k (uniqS (acc ++ cndV l)) := by
  intro l
  induction l with
  | nil => intro i acc _ _; simp [d_spec_RuleVars_L1, cndV]
  | cons c l ih =>
    intro i acc hc hb
    rw [wtL_cons] at hb
    have hwt := hc c (by simp)
    have h1 := condV_len (Nat.le_refl c.wt)
    have hu := len_uniqS (condV c)
    have hu2 := len_uniqS acc
    rw [d_spec_RuleVars_L1, sCondV c hwt, Option.bind_some, lenOk (by omega), cond_true, sRuleVL2 _ _ _ _ _ _ _ (by omega), uniqS_fold2, ih _ _ (fun x hx => hc x (by simp [hx])) (by simp; omega)]
    simp [cndV]
theorem sRuleVL3 (a : Rule) (k : List Bytes → Option (List Bytes)) : ∀ (l : List Action) (i : Nat) (acc : List Bytes), (∀ c ∈ l, c.wt ≤ 1048576) → acc.length + 3 * wtL Action.wt l ≤ 16777216 →
    d_spec_RuleVars_L3 a k l i (uniqS acc) = k (uniqS (acc ++ actV l)) := by
  intro l
  induction l with
  | nil => intro i acc _ _; simp [d_spec_RuleVars_L3, actV]
  | cons c l ih =>
    intro i acc hc hb
    rw [wtL_cons] at hb
    have hwt := hc c (by simp)
    have h1 := varsB_len c.pat.args
    have h2 := Fact.args_le (Action.pat_le (Nat.le_refl c.wt))
    have hu := len_uniqS (varsB c.pat.args)
    have hu2 := len_uniqS acc
    rw [d_spec_RuleVars_L3, sVarsOf _ (Action.pat_le hwt), Option.bind_some, lenOk (by omega), cond_true, sRuleVL4 _ _ _ _ _ _ _ (by omega), uniqS_fold2, ih _ _ (fun x hx => hc x (by simp [hx])) (by simp; omega)]
    simp [actV]
theorem sRuleV (r : Rule) (h : r.wt ≤ 1048576) : d_spec_RuleVars r = some (uniqS (rulV r)) := by
  unfold d_spec_RuleVars
  have h3 := Rule.conds_le h; have h4 := Rule.acts_le h
  have hl := cndV_len r.conds
  have := sRuleVL1 r (fun q => d_spec_RuleVars_L3 r (fun q => some q) r.acts 0 q) r.conds 0 [] (fun c hc => Rule.cond_le h hc) (by simp; omega)
  rw [show uniqS [] = [] from rfl] at this
  rw [this]
  simp only [List.nil_append]
  rw [sRuleVL3 r _ r.acts 0 _ (fun c hc => Rule.act_le h hc) (by omega)]
  rfl
theorem iCndV (l : List Cond) (hc : ∀ c ∈ l, c.wt ≤ 1048576) (hb : wtL Cond.wt l ≤ 1048576) : d_impl_condVarsOf l = some (l.flatMap fun c => uniqS (condV c)) := by
  unfold d_impl_condVarsOf
  have : ∀ (r : List Cond) (i : Nat) (w : List Bytes), (∀ c ∈ r, c.wt ≤ 1048576) → w.length + 3 * wtL Cond.wt r ≤ 16777216 → d_impl_condVarsOf_L1 l (fun q => some q) r i w = some (w ++ r.flatMap fun c => uniqS (condV c)) := by
    intro r
    induction r with
    | nil => intro i w _ _; simp [d_impl_condVarsOf_L1]
    | cons c r ih =>
      intro i w hc hb
      rw [wtL_cons] at hb
      have h1 := condV_len (Nat.le_refl c.wt)
      have hu := len_uniqS (condV c)
      rw [d_impl_condVarsOf_L1, iCondV c (hc c (by simp)), Option.bind_some, roomA (by omega) (by decide), cond_true, ih _ _ (fun x hx => hc x (by simp [hx])) (by simp; omega)]
      simp
  exact this l 0 [] hc (by simp; omega)
theorem cndU_len (l : List Cond) : (l.flatMap fun c => uniqS (condV c)).length ≤ 3 * wtL Cond.wt l := flatMap_len l (fun c _ => by
  have h1 := condV_len (Nat.le_refl c.wt)
  have hu := len_uniqS (condV c)
  omega)
theorem cndU (l : List Cond) (b : List Bytes) : uniqS ((l.flatMap fun c => uniqS (condV c)) ++ b) = uniqS (cndV l ++ b) := uniqS_congr (fun x => by simp [cndV, mem_uniqS])
theorem iRuleV (r : Rule) (h : r.wt ≤ 1048576) : d_impl_RuleVars r = some (uniqS (rulV r)) := by
  unfold d_impl_RuleVars
  have h3 := Rule.conds_le h; have h4 := Rule.acts_le h
  rw [iCndV _ (fun c hc => Rule.cond_le h hc) h3, Option.bind_some]
  have key : ∀ (l : List Action) (i : Nat) (w : List Bytes), (∀ c ∈ l, c.wt ≤ 1048576) → w.length + 3 * wtL Action.wt l ≤ 16777216 → d_impl_RuleVars_L1 r (fun q => (d_impl_SortedTexts q).bind fun y => some y) l i w = some (uniqS (w ++ actV l)) := by
    intro l
    induction l with
    | nil => intro i w _ hb; rw [d_impl_RuleVars_L1, iSorted _ (by omega)]; simp [actV]
    | cons c l ih =>
      intro i w hc hb
      rw [wtL_cons] at hb
      have hwt := hc c (by simp)
      have h1 := varsB_len c.pat.args
      have h2 := Fact.args_le (Action.pat_le (Nat.le_refl c.wt))
      rw [d_impl_RuleVars_L1, iVars _ (by omega) (fun x hx => Fact.arg_le (Action.pat_le hwt) hx), Option.bind_some, roomA (by omega) (by decide), cond_true, ih _ _ (fun x hx => hc x (by simp [hx])) (by simp; omega)]
      simp [actV]
  have hl := cndU_len r.conds
  rw [key r.acts 0 _ (fun c hc => Rule.act_le h hc) (by omega), cndU]
  rfl
/-! when a rule is valid -/
end Go.Cx
