/- Chapter 5 in plain words: which variables a rule binds and uses, what it reads and writes, whether it is valid. No condition but bounds on sizes. -/
import Derived.Test.YtpglgncmlcpgdaaGreatDoorPFnPlainNLwB
namespace Go.Cx
open Go.RowKit Go.Proofs
set_option linter.unusedVariables false
set_option linter.unusedSimpArgs false
def bnd1 (c : Cond) : List Bytes := bif decide (c.kind = 1) then varsB c.pat.args else []
theorem bnd1_len {c : Cond} : (bnd1 c).length ≤ c.wt := by
  unfold bnd1
  have h2 := varsB_len c.pat.args
  have h3 := Fact.args_le (Cond.pat_le (Nat.le_refl c.wt))
  cases decide (c.kind = 1) <;> simp; omega
/-- the variables that the first n conditions bind -/
def bndV (r : Rule) (n : Int) : List Bytes := (r.conds.take n.toNat).flatMap bnd1
theorem take_step {α : Type} (x : α) (xs : List α) (n : Int) (i : Nat) : (x :: xs).take (n - (i : Int)).toNat = if (i : Int) < n then x :: xs.take (n - ((i + 1 : Nat) : Int)).toNat else [] := by
  by_cases h : (i : Int) < n
  · rw [if_pos h]
    obtain ⟨m, hm⟩ : ∃ m, (n - (i : Int)).toNat = m + 1 := ⟨(n - (i : Int)).toNat - 1, by omega⟩
    have : (n - ((i + 1 : Nat) : Int)).toNat = m := by omega
    rw [hm, this]; rfl
  · rw [if_neg h, show (n - (i : Int)).toNat = 0 from by omega]; rfl
theorem flatMap_len {α β : Type} {f : α → List β} {w : α → Nat} (l : List α) (h : ∀ x ∈ l, (f x).length ≤ w x + 2) : (l.flatMap f).length ≤ 3 * wtL w l := by
  induction l with
  | nil => simp [wtL]
  | cons x l ih =>
    rw [List.flatMap_cons, List.length_append, wtL_cons]
    have h1 := h x (by simp)
    have h2 := ih (fun y hy => h y (by simp [hy]))
    omega
theorem bndV_len {r : Rule} {n : Nat} (h : r.wt ≤ n) (m : Int) : (bndV r m).length ≤ 3 * n := by
  unfold bndV
  have h1 := flatMap_len (w := Cond.wt) (f := bnd1) (r.conds.take m.toNat) (fun c _ => by have := @bnd1_len c; omega)
  have h2 : wtL Cond.wt (r.conds.take m.toNat) ≤ wtL Cond.wt r.conds := by
    conv => rhs; rw [← List.take_append_drop m.toNat r.conds]
    rw [wtL_append]; omega
  have h3 := Rule.conds_le h
  omega
theorem sBoundL2 (a : Rule) (n : Int) (i : Nat) (y : List Bytes) (k : List Bytes → Option (List Bytes)) : ∀ (l : List Bytes) (j : Nat) (w : List Bytes), w.length + l.length ≤ 1099511627770 → d_spec_BoundVars_L2 a n i y k l j w = k (l.foldl putB w) := by
  intro l
  induction l with
  | nil => intro j w _; rfl
  | cons x l ih =>
    intro j w hw
    simp only [List.length_cons] at hw
    have := len_putB w x
    rw [d_spec_BoundVars_L2, sPut w x (by omega), Option.bind_some, ih _ _ (by omega)]; rfl
theorem sBoundL (a : Rule) (n : Int) (k : List Bytes → Option (List Bytes)) : ∀ (l : List Cond) (i : Nat) (acc : List Bytes), (∀ c ∈ l, c.wt ≤ 1048576) → acc.length + wtL Cond.wt l ≤ 2097152 →
    d_spec_BoundVars_L1 a n k l i (uniqS acc) = k (uniqS (acc ++ (l.take (n - (i : Int)).toNat).flatMap bnd1)) := by
  intro l
  induction l with
  | nil => intro i acc _ _; simp [d_spec_BoundVars_L1]
  | cons c l ih =>
    intro i acc hc hb
    rw [wtL_cons] at hb
    have hwt := hc c (by simp)
    have hv := varsB_len c.pat.args
    have ha := Fact.args_le (Cond.pat_le (Nat.le_refl c.wt))
    have hu := len_uniqS (varsB c.pat.args)
    have hu2 := len_uniqS acc
    rw [d_spec_BoundVars_L1, take_step]
    by_cases hi : (i : Int) < n
    · have e1 : decide (((i : Int) : Int) < n) = true := by simp [hi]
      rw [e1, cond_true, if_pos hi]
      by_cases hk : c.kind = 1
      · have e2 : ((c.kind : Int) == 1) = true := by simp [hk]
        rw [e2, cond_true, sVarsOf _ (Cond.pat_le hwt), Option.bind_some, lenOk (by omega), cond_true, sBoundL2 _ _ _ _ _ _ _ _ (by omega), uniqS_fold2, ih _ _ (fun x hx => hc x (by simp [hx])) (by simp; omega)]
        simp [bnd1, hk]
      · have e2 : ((c.kind : Int) == 1) = false := by simp [hk]
        rw [e2, cond_false, ih _ _ (fun x hx => hc x (by simp [hx])) (by omega)]
        simp [bnd1, hk]
    · have e1 : decide (((i : Int) : Int) < n) = false := by simp [hi]
      rw [e1, cond_false, if_neg hi]
      simp
theorem sBound (r : Rule) (n : Int) (h : r.wt ≤ 1048576) : d_spec_BoundVars r n = some (uniqS (bndV r n)) := by
  unfold d_spec_BoundVars
  have := sBoundL r n (fun q => some q) r.conds 0 [] (fun c hc => Rule.cond_le h hc) (by have := Rule.conds_le h; simp; omega)
  rw [show uniqS [] = [] from rfl] at this
  rw [this]
  simp [bndV]
theorem iBoundL (a : Rule) (n : Int) (k : List Bytes → Option (List Bytes)) : ∀ (l : List Cond) (i : Nat) (w : List Bytes), (∀ c ∈ l, c.wt ≤ 1048576) → w.length + wtL Cond.wt l ≤ 2097152 →
    d_impl_BoundVars_L1 a n k l i w = k (w ++ (l.take (n - (i : Int)).toNat).flatMap bnd1) := by
  intro l
  induction l with
  | nil => intro i w _ _; simp [d_impl_BoundVars_L1]
  | cons c l ih =>
    intro i w hc hb
    rw [wtL_cons] at hb
    have hwt := hc c (by simp)
    have hv := varsB_len c.pat.args
    have ha := Fact.args_le (Cond.pat_le (Nat.le_refl c.wt))
    rw [d_impl_BoundVars_L1, take_step]
    by_cases hi : (i : Int) < n
    · have e1 : decide (((i : Int) : Int) < n) = true := by simp [hi]
      rw [e1, cond_true, if_pos hi]
      by_cases hk : c.kind = 1
      · have e2 : ((c.kind : Int) == 1) = true := by simp [hk]
        rw [e2, cond_true, iVars _ (by omega) (fun x hx => Fact.arg_le (Cond.pat_le hwt) hx), Option.bind_some, roomA (by omega) (by decide), cond_true, ih _ _ (fun x hx => hc x (by simp [hx])) (by simp; omega)]
        simp [bnd1, hk]
      · have e2 : ((c.kind : Int) == 1) = false := by simp [hk]
        rw [e2, cond_false, ih _ _ (fun x hx => hc x (by simp [hx])) (by omega)]
        simp [bnd1, hk]
    · have e1 : decide (((i : Int) : Int) < n) = false := by simp [hi]
      rw [e1, cond_false, if_neg hi, ih _ _ (fun x hx => hc x (by simp [hx])) (by omega), show (n - ((i + 1 : Nat) : Int)).toNat = 0 from by omega]
      simp
theorem iBound (r : Rule) (n : Int) (h : r.wt ≤ 1048576) : d_impl_BoundVars r n = some (uniqS (bndV r n)) := by
  unfold d_impl_BoundVars
  have hl := bndV_len h n
  rw [iBoundL r n _ r.conds 0 [] (fun c hc => Rule.cond_le h hc) (by have := Rule.conds_le h; simp; omega)]
  have e : ([] : List Bytes) ++ (r.conds.take (n - ((0 : Nat) : Int)).toNat).flatMap bnd1 = bndV r n := by simp [bndV]
  rw [e, iSorted _ (by omega)]
  rfl
/-- all variables of the conditions; of the rule -/
def cndV (l : List Cond) : List Bytes := l.flatMap condV
def actV (l : List Action) : List Bytes := l.flatMap fun a => varsB a.pat.args
def rulV (r : Rule) : List Bytes := cndV r.conds ++ actV r.acts
theorem cndV_len (l : List Cond) : (cndV l).length ≤ 3 * wtL Cond.wt l := flatMap_len l (fun c _ => condV_len (Nat.le_refl _))
theorem sRuleVL2 (a : Rule) (i : Nat) (y : List Bytes) (k : List Bytes → Option (List Bytes)) : ∀ (l : List Bytes) (j : Nat) (w : List Bytes), w.length + l.length ≤ 1099511627770 → d_spec_RuleVars_L2 a i y k l j w = k (l.foldl putB w) := by
  intro l
  induction l with
  | nil => intro j w _; rfl
  | cons x l ih =>
    intro j w hw
    simp only [List.length_cons] at hw
    have := len_putB w x
    rw [d_spec_RuleVars_L2, sPut w x (by omega), Option.bind_some, ih _ _ (by omega)]; rfl
theorem sRuleVL4 (a : Rule) (i : Nat) (y : List Bytes) (k : List Bytes → Option (List Bytes)) : ∀ (l : List Bytes) (j : Nat) (w : List Bytes), w.length + l.length ≤ 1099511627770 → d_spec_RuleVars_L4 a i y k l j w = k (l.foldl putB w) := by
  intro l
  induction l with
  | nil => intro j w _; rfl
  | cons x l ih =>
    intro j w hw
    simp only [List.length_cons] at hw
    have := len_putB w x
    rw [d_spec_RuleVars_L4, sPut w x (by omega), Option.bind_some, ih _ _ (by omega)]; rfl
theorem sRuleVL1 (a : Rule) (k : List Bytes → Option (List Bytes)) : ∀ (l : List Cond) (i : Nat) (acc : List Bytes), (∀ c ∈ l, c.wt ≤ 1048576) → acc.length + 3 * wtL Cond.wt l ≤ 16777216 →
    d_spec_RuleVars_L1 a k l i (uniqS acc) = k (uniqS (acc ++ cndV l)) := by
  intro l
  induction l with
  | nil => intro i acc _ _; simp [d_spec_RuleVars_L1, cndV]
  | cons c l ih =>
    intro i acc hc hb
    rw [wtL_cons] at hb
    have hwt := hc c (by simp)
    have h1 := condV_len (Nat.le_refl c.wt)
    have hu := len_uniqS (condV c)
    have hu2 := len_uniqS acc
    rw [d_spec_RuleVars_L1, sCondV c hwt, Option.bind_some, lenOk (by omega), cond_true, sRuleVL2 _ _ _ _ _ _ _ (by omega), uniqS_fold2, ih _ _ (fun x hx => hc x (by simp [hx])) (by simp; omega)]
    simp [cndV]
theorem sRuleVL3 (a : Rule) (k : List Bytes → Option (List Bytes)) : ∀ (l : List Action) (i : Nat) (acc : List Bytes), (∀ c ∈ l, c.wt ≤ 1048576) → acc.length + 3 * wtL Action.wt l ≤ 16777216 →
    d_spec_RuleVars_L3 a k l i (uniqS acc) = k (uniqS (acc ++ actV l)) := by
  intro l
  induction l with
  | nil => intro i acc _ _; simp [d_spec_RuleVars_L3, actV]
  | cons c l ih =>
    intro i acc hc hb
    rw [wtL_cons] at hb
    have hwt := hc c (by simp)
    have h1 := varsB_len c.pat.args
    have h2 := Fact.args_le (Action.pat_le (Nat.le_refl c.wt))
    have hu := len_uniqS (varsB c.pat.args)
    have hu2 := len_uniqS acc
    rw [d_spec_RuleVars_L3, sVarsOf _ (Action.pat_le hwt), Option.bind_some, lenOk (by omega), cond_true, sRuleVL4 _ _ _ _ _ _ _ (by omega), uniqS_fold2, ih _ _ (fun x hx => hc x (by simp [hx])) (by simp; omega)]
    simp [actV]
theorem sRuleV (r : Rule) (h : r.wt ≤ 1048576) : d_spec_RuleVars r = some (uniqS (rulV r)) := by
  unfold d_spec_RuleVars
  have h3 := Rule.conds_le h; have h4 := Rule.acts_le h
  have hl := cndV_len r.conds
  have := sRuleVL1 r (fun q => d_spec_RuleVars_L3 r (fun q => some q) r.acts 0 q) r.conds 0 [] (fun c hc => Rule.cond_le h hc) (by simp; omega)
  rw [show uniqS [] = [] from rfl] at this
  rw [this]
  simp only [List.nil_append]
  rw [sRuleVL3 r _ r.acts 0 _ (fun c hc => Rule.act_le h hc) (by omega)]
  rfl
theorem iCndV (l : List Cond) (hc : ∀ c ∈ l, c.wt ≤ 1048576) (hb : wtL Cond.wt l ≤ 1048576) : d_impl_condVarsOf l = some (l.flatMap fun c => uniqS (condV c)) := by
  unfold d_impl_condVarsOf
  have : ∀ (r : List Cond) (i : Nat) (w : List Bytes), (∀ c ∈ r, c.wt ≤ 1048576) → w.length + 3 * wtL Cond.wt r ≤ 16777216 → d_impl_condVarsOf_L1 l (fun q => some q) r i w = some (w ++ r.flatMap fun c => uniqS (condV c)) := by
    intro r
    induction r with
    | nil => intro i w _ _; simp [d_impl_condVarsOf_L1]
    | cons c r ih =>
      intro i w hc hb
      rw [wtL_cons] at hb
      have h1 := condV_len (Nat.le_refl c.wt)
      have hu := len_uniqS (condV c)
      rw [d_impl_condVarsOf_L1, iCondV c (hc c (by simp)), Option.bind_some, roomA (by omega) (by decide), cond_true, ih _ _ (fun x hx => hc x (by simp [hx])) (by simp; omega)]
      simp
  exact this l 0 [] hc (by simp; omega)
theorem cndU_len (l : List Cond) : (l.flatMap fun c => uniqS (condV c)).length ≤ 3 * wtL Cond.wt l := flatMap_len l (fun c _ => by
  have h1 := condV_len (Nat.le_refl c.wt)
  have hu := len_uniqS (condV c)
  omega)
theorem cndU (l : List Cond) (b : List Bytes) : uniqS ((l.flatMap fun c => uniqS (condV c)) ++ b) = uniqS (cndV l ++ b) := uniqS_congr (fun x => by simp [cndV, mem_uniqS])
/-! when a rule is valid -/
def elsC (v : Bytes) (k : Int) : List Cond → Nat → Bool
  | [], _ => false
  | c :: cs, i => (decide (((i : Nat) : Int) ≠ k) && (condV c).contains v) || elsC v k cs (i + 1)
def elsB (r : Rule) (k : Int) (v : Bytes) : Bool := elsC v k r.conds 0 || r.acts.any fun a => (varsB a.pat.args).contains v
theorem contains_vars {l : List Bytes} {v : Bytes} (h : varB v = true) : l.contains v = (varsB l).contains v := by
  rw [Bool.eq_iff_iff]
  simp [varsB, h]
theorem sEls (r : Rule) (k : Int) (v : Bytes) (h : r.wt ≤ 1048576) : d_spec_l5Elsewhere r k v = some (elsB r k v) := by
  unfold d_spec_l5Elsewhere elsB
  have k2 : ∀ (l : List Action) (i : Nat), (∀ c ∈ l, c.wt ≤ 1048576) → d_spec_l5Elsewhere_L2 r v (some false) l i = some (l.any fun a => (varsB a.pat.args).contains v) := by
    intro l
    induction l with
    | nil => intro i _; rfl
    | cons a l ih =>
      intro i hc
      rw [d_spec_l5Elsewhere_L2, sVarsOf _ (Action.pat_le (hc a (by simp))), Option.bind_some, sHas, Option.bind_some, contains_uniqS, ih _ (fun x hx => hc x (by simp [hx])), List.any_cons]
      cases (varsB a.pat.args).contains v <;> rfl
  have k1 : ∀ (l : List Cond) (i : Nat), (∀ c ∈ l, c.wt ≤ 1048576) → d_spec_l5Elsewhere_L1 r k v (some (r.acts.any fun a => (varsB a.pat.args).contains v)) l i = some (elsC v k l i || r.acts.any fun a => (varsB a.pat.args).contains v) := by
    intro l
    induction l with
    | nil => intro i _; rfl
    | cons c l ih =>
      intro i hc
      rw [d_spec_l5Elsewhere_L1, sCondV _ (hc c (by simp)), Option.bind_some, sHas, Option.bind_some, contains_uniqS, ih _ (fun x hx => hc x (by simp [hx]))]
      simp only [elsC, bne, beq_dec]
      by_cases hi : ((i : Nat) : Int) = k
      · simp [hi]
      · cases (condV c).contains v <;> simp [hi]
  rw [k2 _ _ (fun c hc => Rule.act_le h hc), k1 _ _ (fun c hc => Rule.cond_le h hc)]
theorem iEls (r : Rule) (k : Int) (v : Bytes) (hv : varB v = true) (h : r.wt ≤ 1048576) : d_impl_occursElsewhere r k v = some (elsB r k v) := by
  unfold d_impl_occursElsewhere elsB
  have k2 : ∀ (l : List Action) (i : Nat), d_impl_occursElsewhere_L2 r v (some false) l i = some (l.any fun a => (varsB a.pat.args).contains v) := by
    intro l
    induction l with
    | nil => intro i; rfl
    | cons a l ih =>
      intro i
      rw [d_impl_occursElsewhere_L2, iHas, Option.bind_some, contains_vars hv, ih, List.any_cons]
      cases (varsB a.pat.args).contains v <;> rfl
  have k1 : ∀ (l : List Cond) (i : Nat), (∀ c ∈ l, c.wt ≤ 1048576) → d_impl_occursElsewhere_L1 r k v (some (r.acts.any fun a => (varsB a.pat.args).contains v)) l i = some (elsC v k l i || r.acts.any fun a => (varsB a.pat.args).contains v) := by
    intro l
    induction l with
    | nil => intro i _; rfl
    | cons c l ih =>
      intro i hc
      rw [d_impl_occursElsewhere_L1, iCondV _ (hc c (by simp)), Option.bind_some, iHas, Option.bind_some, contains_uniqS, ih _ (fun x hx => hc x (by simp [hx]))]
      simp only [elsC, bne, beq_dec]
      by_cases hi : ((i : Nat) : Int) = k
      · simp [hi]
      · cases (condV c).contains v <;> simp [hi]
  rw [k2, k1 _ _ (fun c hc => Rule.cond_le h hc)]
/-- a variable of a condition is bound as it should -/
def fitB (r : Rule) (i : Nat) (c : Cond) (v : Bytes) : Bool := decide (c.kind = 1) || (bndV r i).contains v || (decide (c.kind = 2) && !elsB r i v)
def condsB (r : Rule) : List Cond → Nat → Bool
  | [], _ => true
  | c :: cs, i => (condB c && (!decide (i = 0) || decide (c.kind = 1)) && (uniqS (condV c)).all (fitB r i c)) && condsB r cs (i + 1)
def actsB (r : Rule) : Bool := r.acts.all fun a => actB a && (varsB a.pat.args).all fun v => (bndV r r.conds.length).contains v
def ruleB (r : Rule) : Bool := nameB r.name && (decide (0 ≤ r.prio) && decide (r.prio ≤ 9)) && (decide (1 ≤ (r.conds.length : Int)) && decide ((r.conds.length : Int) ≤ 4)) && (decide (1 ≤ (r.acts.length : Int)) && decide ((r.acts.length : Int) ≤ 2)) &&
  (condsB r r.conds 0 && (actsB r && decide (((uniqS (cndV r.conds)).length : Int) ≤ 6)))
theorem all_uniqS (l : List Bytes) (p : Bytes → Bool) : (uniqS l).all p = l.all p := by
  rw [Bool.eq_iff_iff]
  simp [List.all_eq_true, mem_uniqS]
theorem bnd_sub (r : Rule) (n : Int) {v : Bytes} (h : v ∈ bndV r n) : v ∈ cndV r.conds := by
  unfold bndV at h
  obtain ⟨c, hc, hv⟩ := List.mem_flatMap.1 h
  refine List.mem_flatMap.2 ⟨c, List.mem_of_mem_take hc, ?_⟩
  unfold bnd1 at hv
  cases hk : decide (c.kind = 1) with
  | false => rw [hk] at hv; cases hv
  | true =>
    rw [hk] at hv
    simp only [cond_true] at hv
    unfold condV
    rw [varsB_app]
    exact List.mem_append.2 (.inl hv)
theorem actsB_vars {r : Rule} (h : actsB r = true) : uniqS (rulV r) = uniqS (cndV r.conds) := by
  refine uniqS_congr (fun x => ?_)
  unfold rulV
  simp only [List.mem_append]
  constructor
  · rintro (hx | hx)
    · exact hx
    · obtain ⟨a, ha, hv⟩ := List.mem_flatMap.1 hx
      unfold actsB at h
      have := List.all_eq_true.1 h a ha
      simp only [Bool.and_eq_true, List.all_eq_true] at this
      have := this.2 x hv
      exact bnd_sub r _ (by simpa using this)
  · exact .inl
theorem sRuleL2 (r : Rule) (y : List Bytes) (i : Nat) (c : Cond) (l : List Bytes) (k : Option Bool) (hc : c.wt ≤ 1048576) (hr : r.wt ≤ 1048576) (hcb : condB c = true) : ∀ (rest : List Bytes) (j : Nat), d_spec_IsRule_L2 r y i c (uniqS (bndV r i)) l k rest j = bif rest.all (fitB r i c) then k else some false := by
  have hk := condB_kind hcb
  intro rest
  induction rest with
  | nil => intro j; rfl
  | cons v rest ih =>
    intro j
    rw [d_spec_IsRule_L2, sHas, Option.bind_some, contains_uniqS, sTest c hc, Option.bind_some, sEls r _ v hr, Option.bind_some, ih, List.all_cons]
    unfold testB fitB
    rw [hcb]
    by_cases h1 : c.kind = 1
    · simp [h1]
    by_cases h2 : c.kind = 2
    · cases (bndV r i).contains v <;> cases elsB r i v <;> simp [h2]
    have h3 : c.kind ≥ 3 := by omega
    cases (bndV r i).contains v <;> simp [h1, h2, h3]
theorem sRuleL3 (r : Rule) (y : List Bytes) (i : Nat) (c : Cond) (l : List Bytes) (k : Option Bool) (hc : c.wt ≤ 1048576) (hr : r.wt ≤ 1048576) (hcb : condB c = true) : ∀ (rest : List Bytes) (j : Nat), d_spec_IsRule_L3 r y i c (uniqS (bndV r i)) l k rest j = bif rest.all (fitB r i c) then k else some false := by
  have hk := condB_kind hcb
  intro rest
  induction rest with
  | nil => intro j; rfl
  | cons v rest ih =>
    intro j
    rw [d_spec_IsRule_L3, sHas, Option.bind_some, contains_uniqS, sTest c hc, Option.bind_some, sEls r _ v hr, Option.bind_some, ih, List.all_cons]
    unfold testB fitB
    rw [hcb]
    by_cases h1 : c.kind = 1
    · simp [h1]
    by_cases h2 : c.kind = 2
    · cases (bndV r i).contains v <;> cases elsB r i v <;> simp [h2]
    have h3 : c.kind ≥ 3 := by omega
    cases (bndV r i).contains v <;> simp [h1, h2, h3]
theorem sRuleL1 (r : Rule) (y : List Bytes) (k : Option Bool) (hr : r.wt ≤ 1048576) : ∀ (rest : List Cond) (i : Nat), (∀ c ∈ rest, c.wt ≤ 1048576) → d_spec_IsRule_L1 r y k rest i = bif condsB r rest i then k else some false := by
  intro rest
  induction rest with
  | nil => intro i _; rfl
  | cons c rest ih =>
    intro i h
    have hc := h c (by simp)
    have hl := condV_len hc
    have hu := len_uniqS (condV c)
    rw [d_spec_IsRule_L1, sCond c hc, Option.bind_some, condsB]
    cases hcb : condB c with
    | false => rfl
    | true =>
      rw [sBound r _ hr, sCondV c hc, ih _ (fun x hx => h x (by simp [hx]))]
      simp only [Option.bind_some, lenOk (show (uniqS (condV c)).length ≤ 1099511627776 by omega), cond_true]
      rw [sRuleL2 r y i c _ _ hc hr hcb, sRuleL3 r y i c _ _ hc hr hcb]
      simp only [bne, beq_dec]
      have e0 : decide (((i : Int) : Int) = 0) = decide (i = 0) := by rw [Bool.eq_iff_iff]; simp
      rw [e0]
      cases decide (i = 0) <;> cases decide (c.kind = 1) <;> cases (uniqS (condV c)).all (fitB r i c) <;> simp
theorem sRuleL5 (r : Rule) (y : List Bytes) (i : Nat) (l : List Bytes) (k : Option Bool) : ∀ (rest : List Bytes) (j : Nat), d_spec_IsRule_L5 r y i l k rest j = bif rest.all (fun v => y.contains v) then k else some false :=
  fun rest j => allL (f := fun v => d_spec_l1HasText y v) (L := d_spec_IsRule_L5 r y i l k) (fun _ => rfl) (fun _ _ _ => rfl) rest j (fun v _ => sHas y v)
theorem sRuleL4 (r : Rule) (b : List Bytes) (k : Option Bool) : ∀ (rest : List Action) (i : Nat), (∀ a ∈ rest, a.wt ≤ 1048576) → d_spec_IsRule_L4 r (uniqS b) k rest i = bif rest.all (fun a => actB a && (varsB a.pat.args).all fun v => b.contains v) then k else some false := by
  intro rest
  induction rest with
  | nil => intro i _; rfl
  | cons a rest ih =>
    intro i h
    have ha := h a (by simp)
    have h1 := varsB_len a.pat.args
    have h2 := Fact.args_le (Action.pat_le ha)
    have hu := len_uniqS (varsB a.pat.args)
    rw [d_spec_IsRule_L4, sAct a ha, Option.bind_some, sVarsOf _ (Action.pat_le ha), Option.bind_some, lenOk (by omega), ih _ (fun x hx => h x (by simp [hx])), sRuleL5, List.all_cons, all_uniqS]
    have e : ((varsB a.pat.args).all fun v => (uniqS b).contains v) = (varsB a.pat.args).all fun v => b.contains v := by
      congr 1; funext v; exact contains_uniqS b v
    rw [e]
    cases actB a <;> cases (varsB a.pat.args).all (fun v => b.contains v) <;> simp
theorem sRule (r : Rule) (h : r.wt ≤ 1048576) : d_spec_IsRule r = some (ruleB r) := by
  unfold d_spec_IsRule
  simp only [sName _ (Rule.name_le h), Option.bind_some, in_eq, List.length_map]
  rw [sBound r _ h]
  simp only [Option.bind_some]
  rw [sRuleL1 r _ _ h _ _ (fun c hc => Rule.cond_le h hc), sRuleL4 r _ _ _ _ (fun a ha => Rule.act_le h ha), sRuleV r h]
  simp only [Option.bind_some, List.length_map]
  have hab : (r.acts.all fun a => actB a && (varsB a.pat.args).all fun v => (bndV r r.conds.length).contains v) = actsB r := rfl
  rw [hab]
  unfold ruleB
  have g1 : decide (r.prio ≥ 0) = decide (0 ≤ r.prio) := rfl
  have g2 : decide ((r.conds.length : Int) ≥ 1) = decide (1 ≤ (r.conds.length : Int)) := rfl
  have g3 : decide ((r.acts.length : Int) ≥ 1) = decide (1 ≤ (r.acts.length : Int)) := rfl
  rw [g1, g2, g3]
  cases ha : actsB r with
  | false => cases nameB r.name <;> cases (decide (0 ≤ r.prio) && decide (r.prio ≤ 9)) <;> cases (decide (1 ≤ (r.conds.length : Int)) && decide ((r.conds.length : Int) ≤ 4)) <;> cases (decide (1 ≤ (r.acts.length : Int)) && decide ((r.acts.length : Int) ≤ 2)) <;> cases condsB r r.conds 0 <;> rfl
  | true =>
    rw [actsB_vars ha]
    cases nameB r.name <;> cases (decide (0 ≤ r.prio) && decide (r.prio ≤ 9)) <;> cases (decide (1 ≤ (r.conds.length : Int)) && decide ((r.conds.length : Int) ≤ 4)) <;> cases (decide (1 ≤ (r.acts.length : Int)) && decide ((r.acts.length : Int) ≤ 2)) <;> cases condsB r r.conds 0 <;> simp
theorem iFitsL (r : Rule) (i : Nat) (c : Cond) (l : List Bytes) (k : Option Bool) (hr : r.wt ≤ 1048576) (hcb : condB c = true) : ∀ (rest : List Bytes) (j : Nat), (∀ v ∈ rest, varB v = true) → d_impl_condFits_L1 r (i : Int) c (uniqS (bndV r i)) l k rest j = bif rest.all (fitB r i c) then k else some false := by
  have hk := condB_kind hcb
  intro rest
  induction rest with
  | nil => intro j _; rfl
  | cons v rest ih =>
    intro j hv
    rw [d_impl_condFits_L1, iHas, Option.bind_some, contains_uniqS, iEls r _ v (hv v (by simp)) hr, Option.bind_some, ih _ (fun x hx => hv x (by simp [hx])), List.all_cons]
    unfold fitB
    simp only [bne, beq_dec]
    by_cases h1 : c.kind = 1
    · simp [h1]
    by_cases h2 : c.kind = 2
    · cases (bndV r i).contains v <;> cases elsB r i v <;> simp [h2]
    cases (bndV r i).contains v <;> simp [h1, h2]
theorem iFits (r : Rule) (i : Nat) (c : Cond) (hr : r.wt ≤ 1048576) (hi : r.conds[i]? = some c) (hcb : condB c = true) : d_impl_condFits r (i : Int) = some ((uniqS (condV c)).all (fitB r i c)) := by
  unfold d_impl_condFits
  have hc := Rule.cond_le hr (List.mem_of_getElem? hi)
  have hl := condV_len hc
  have hu := len_uniqS (condV c)
  have e : atI r.conds (i : Int) = some c := by unfold atI; simp [hi]
  rw [e, Option.bind_some, iBound r _ hr, Option.bind_some, iCondV c hc, Option.bind_some, lenOk (by omega), cond_true, iFitsL r i c _ _ hr hcb _ _ (fun v hv => by
    rw [mem_uniqS] at hv
    unfold condV varsB at hv
    exact (List.mem_filter.1 hv).2)]
  cases (uniqS (condV c)).all (fitB r i c) <;> rfl
theorem iRuleL1 (r : Rule) (k : Option Bool) (hr : r.wt ≤ 1048576) : ∀ (rest pre : List Cond), r.conds = pre ++ rest → d_impl_IsRule_L1 r k rest pre.length = bif condsB r rest pre.length then k else some false := by
  intro rest
  induction rest with
  | nil => intro pre _; rfl
  | cons c rest ih =>
    intro pre h
    have hm : c ∈ r.conds := by rw [h]; simp
    have hc := Rule.cond_le hr hm
    have hi : r.conds[pre.length]? = some c := by rw [h]; simp
    have t := ih (pre ++ [c]) (by rw [h]; simp)
    simp only [List.length_append, List.length_cons, List.length_nil] at t
    rw [d_impl_IsRule_L1, iCond c hc, Option.bind_some, condsB]
    cases hcb : condB c with
    | false => rfl
    | true =>
      rw [iFits r _ c hr hi hcb, Option.bind_some, t]
      simp only [bne, beq_dec]
      have e0 : decide ((((pre.length : Nat) : Int) : Int) = 0) = decide (pre.length = 0) := by rw [Bool.eq_iff_iff]; simp
      rw [e0]
      cases decide (pre.length = 0) <;> cases decide (c.kind = 1) <;> cases (uniqS (condV c)).all (fitB r pre.length c) <;> simp
theorem iRuleL3 (r : Rule) (y : List Bytes) (i : Nat) (l : List Bytes) (k : Option Bool) : ∀ (rest : List Bytes) (j : Nat), d_impl_IsRule_L3 r y i l k rest j = bif rest.all (fun v => y.contains v) then k else some false :=
  fun rest j => allL (f := fun v => d_impl_hasText y v) (L := d_impl_IsRule_L3 r y i l k) (fun _ => rfl) (fun _ _ _ => rfl) rest j (fun v _ => iHas y v)
theorem iRuleL2 (r : Rule) (b : List Bytes) (k : Option Bool) : ∀ (rest : List Action) (i : Nat), (∀ a ∈ rest, a.wt ≤ 1048576) → d_impl_IsRule_L2 r (uniqS b) k rest i = bif rest.all (fun a => actB a && (varsB a.pat.args).all fun v => b.contains v) then k else some false := by
  intro rest
  induction rest with
  | nil => intro i _; rfl
  | cons a rest ih =>
    intro i h
    have ha := h a (by simp)
    have h1 := varsB_len a.pat.args
    have h2 := Fact.args_le (Action.pat_le ha)
    rw [d_impl_IsRule_L2, iAct a ha, Option.bind_some, iVars _ (by omega) (fun x hx => Fact.arg_le (Action.pat_le ha) hx), Option.bind_some, lenOk (by omega), ih _ (fun x hx => h x (by simp [hx])), iRuleL3, List.all_cons]
    have e : ((varsB a.pat.args).all fun v => (uniqS b).contains v) = (varsB a.pat.args).all fun v => b.contains v := by
      congr 1; funext v; exact contains_uniqS b v
    rw [e]
    cases actB a <;> cases (varsB a.pat.args).all (fun v => b.contains v) <;> simp
theorem iRule (r : Rule) (h : r.wt ≤ 1048576) : d_impl_IsRule r = some (ruleB r) := by
  unfold d_impl_IsRule
  have hcu := cndU_len r.conds
  have hcl := Rule.conds_le h
  rw [show d_impl_IsRule_L1 r _ r.conds 0 = _ from iRuleL1 r _ h r.conds [] rfl, iBound r _ h, Option.bind_some, iRuleL2 r _ _ _ _ (fun a ha => Rule.act_le h ha), iCndV _ (fun c hc => Rule.cond_le h hc) hcl, Option.bind_some, iSorted _ (by omega), iName _ (Rule.name_le h)]
  have e := cndU r.conds []
  simp only [List.append_nil] at e
  rw [e]
  simp only [Option.bind_some, List.length_map, List.length_nil]
  have hab : (r.acts.all fun a => actB a && (varsB a.pat.args).all fun v => (bndV r r.conds.length).contains v) = actsB r := rfl
  rw [hab]
  unfold ruleB
  have g1 : decide (0 ≤ r.prio) = !decide (r.prio < 0) := by rw [Bool.eq_iff_iff]; simp
  have g2 : decide (r.prio ≤ 9) = !decide (r.prio > 9) := by rw [Bool.eq_iff_iff]; simp
  have g3 : decide (1 ≤ (r.conds.length : Int)) = !decide ((r.conds.length : Int) < 1) := by rw [Bool.eq_iff_iff]; simp
  have g4 : decide ((r.conds.length : Int) ≤ 4) = !decide ((r.conds.length : Int) > 4) := by rw [Bool.eq_iff_iff]; simp
  have g5 : decide (1 ≤ (r.acts.length : Int)) = !decide ((r.acts.length : Int) < 1) := by rw [Bool.eq_iff_iff]; simp
  have g6 : decide ((r.acts.length : Int) ≤ 2) = !decide ((r.acts.length : Int) > 2) := by rw [Bool.eq_iff_iff]; simp
  rw [g1, g2, g3, g4, g5, g6]
  cases nameB r.name
  · rfl
  cases decide (r.prio < 0)
  case true => rfl
  cases decide (r.prio > 9)
  case true => rfl
  cases decide ((r.conds.length : Int) < 1)
  case true => rfl
  cases decide ((r.conds.length : Int) > 4)
  case true => rfl
  cases decide ((r.acts.length : Int) < 1)
  case true => rfl
  cases decide ((r.acts.length : Int) > 2)
  case true => rfl
  cases condsB r r.conds 0
  · rfl
  cases actsB r
  · rfl
  simp
end Go.Cx
