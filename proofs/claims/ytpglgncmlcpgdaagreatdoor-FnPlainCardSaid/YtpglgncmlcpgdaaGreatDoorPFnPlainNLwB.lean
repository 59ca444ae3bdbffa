/- Chapters 2 to 5 in plain words: facts, patterns, conditions, rules, as the program and the reference read them. No condition but bounds on sizes. -/
import Derived.Test.YtpglgncmlcpgdaaGreatDoorPFnPlainNLwA
namespace Go.Cx
open Go.RowKit Go.Proofs
set_option linter.unusedVariables false
set_option linter.unusedSimpArgs false
theorem Fact.rel_le {p : Fact} {n : Nat} (h : p.wt ≤ n) : p.rel.length ≤ n := by unfold Fact.wt tw at h; omega
theorem Fact.args_le {p : Fact} {n : Nat} (h : p.wt ≤ n) : p.args.length ≤ n := by unfold Fact.wt at h; have := wtL_len tw p.args; omega
theorem Fact.arg_le {p : Fact} {n : Nat} (h : p.wt ≤ n) {x : Bytes} (hx : x ∈ p.args) : x.length ≤ n := by unfold Fact.wt at h; have := wtL_mem (w := tw) hx; have e : tw x = x.length := rfl; omega
theorem Cond.pat_le {c : Cond} {n : Nat} (h : c.wt ≤ n) : c.pat.wt ≤ n := by simp only [Cond.wt, Fact.wt] at h ⊢; omega
theorem Cond.left_le {c : Cond} {n : Nat} (h : c.wt ≤ n) : c.left.length ≤ n := by simp only [Cond.wt, tw] at h; omega
theorem Cond.right_le {c : Cond} {n : Nat} (h : c.wt ≤ n) : c.right.length ≤ n := by simp only [Cond.wt, tw] at h; omega
theorem Action.pat_le {c : Action} {n : Nat} (h : c.wt ≤ n) : c.pat.wt ≤ n := by simp only [Action.wt, Fact.wt] at h ⊢; omega
theorem Rule.name_le {r : Rule} {n : Nat} (h : r.wt ≤ n) : r.name.length ≤ n := by simp only [Rule.wt, tw] at h; omega
theorem Rule.conds_le {r : Rule} {n : Nat} (h : r.wt ≤ n) : wtL Cond.wt r.conds ≤ n := by simp only [Rule.wt] at h; omega
theorem Rule.acts_le {r : Rule} {n : Nat} (h : r.wt ≤ n) : wtL Action.wt r.acts ≤ n := by simp only [Rule.wt] at h; omega
theorem Rule.cond_le {r : Rule} {n : Nat} (h : r.wt ≤ n) {c : Cond} (hc : c ∈ r.conds) : c.wt ≤ n := by have := Rule.conds_le h; have := wtL_mem (w := Cond.wt) hc; omega
theorem Rule.act_le {r : Rule} {n : Nat} (h : r.wt ≤ n) {c : Action} (hc : c ∈ r.acts) : c.wt ≤ n := by have := Rule.acts_le h; have := wtL_mem (w := Action.wt) hc; omega
theorem sCopyF (f : Fact) (h : f.args.length ≤ 1099511627776) : d_spec_l2Copy f = some f := by
  unfold d_spec_l2Copy; rw [sTexts _ h]; rfl
theorem iCopyF (f : Fact) (h : f.args.length ≤ 1099511627776) : d_impl_copyFact f = some f := by
  unfold d_impl_copyFact; rw [iTexts _ h]; rfl
theorem sSameF (a b : Fact) : d_spec_l2Same a b = some (decide (a = b)) := by
  obtain ⟨a0, a1⟩ := a; obtain ⟨b0, b1⟩ := b
  unfold d_spec_l2Same
  simp only [sSameT, Option.bind_some, beq_dec]
  by_cases h0 : a0 = b0 <;> by_cases h1 : a1 = b1 <;> simp [h0, h1]
theorem sSameFs (a b : List Fact) : d_spec_SameFacts a b = some (decide (a = b)) := by
  unfold d_spec_SameFacts
  exact eqL (c := Fact.c) (f := d_spec_l2Same) (fun k => d_spec_SameFacts_L1 a b k) (fun _ _ => rfl) (fun _ _ _ _ => rfl) sSameF
def patB (p : Fact) : Bool := p.args.all termB && (nameB p.rel && decide ((p.args.length : Int) ≤ 3))
def factB (f : Fact) : Bool := f.args.all atomB && (nameB f.rel && decide ((f.args.length : Int) ≤ 3))
theorem iFact (f : Fact) (h : f.wt ≤ 1048576) : d_impl_IsFact f = some (factB f) := by
  unfold d_impl_IsFact
  rw [allL (f := d_impl_IsAtom) (L := d_impl_IsFact_L1 f _) (fun _ => rfl) (fun _ _ _ => rfl) f.args 0 (fun x hx => iAtom x (Fact.arg_le h hx)), iName _ (Fact.rel_le h), Option.bind_some, List.length_map, factB]
  have c : decide ((f.args.length : Int) ≤ 3) = !decide ((f.args.length : Int) > 3) := by rw [Bool.eq_iff_iff]; simp
  rw [c]
  cases f.args.all atomB <;> cases nameB f.rel <;> cases decide ((f.args.length : Int) > 3) <;> rfl
theorem sPat (f : Fact) (h : f.wt ≤ 1048576) : d_spec_IsPattern f = some (patB f) := by
  unfold d_spec_IsPattern
  rw [allL (f := d_spec_IsTerm) (L := d_spec_IsPattern_L1 f _) (fun _ => rfl) (fun _ _ _ => rfl) f.args 0 (fun x hx => sTerm x (Fact.arg_le h hx)), sName _ (Fact.rel_le h), Option.bind_some, List.length_map, patB]
  cases f.args.all termB <;> cases nameB f.rel <;> rfl
theorem iPat (f : Fact) (h : f.wt ≤ 1048576) : d_impl_IsPattern f = some (patB f) := by
  unfold d_impl_IsPattern
  rw [allL (f := d_impl_IsTerm) (L := d_impl_IsPattern_L1 f _) (fun _ => rfl) (fun _ _ _ => rfl) f.args 0 (fun x hx => iTerm x (Fact.arg_le h hx)), iName _ (Fact.rel_le h), Option.bind_some, List.length_map, patB]
  have c : decide ((f.args.length : Int) ≤ 3) = !decide ((f.args.length : Int) > 3) := by rw [Bool.eq_iff_iff]; simp
  rw [c]
  cases f.args.all termB <;> cases nameB f.rel <;> cases decide ((f.args.length : Int) > 3) <;> rfl
/-- the variables among texts -/
def varsB (l : List Bytes) : List Bytes := l.filter varB
theorem varsB_len (l : List Bytes) : (varsB l).length ≤ l.length := List.length_filter_le _ _
theorem varsB_app (a b : List Bytes) : varsB (a ++ b) = varsB a ++ varsB b := List.filter_append _ _
theorem sVarsOf (p : Fact) (h : p.wt ≤ 1048576) : d_spec_VarsOf p = some (uniqS (varsB p.args)) := by
  unfold d_spec_VarsOf
  have : ∀ (r : List Bytes) (i : Nat) (w : List Bytes), (∀ x ∈ r, x.length ≤ 1048576) → w.length + r.length ≤ 2097152 → d_spec_VarsOf_L1 p (fun q => some q) r i w = some ((varsB r).foldl putB w) := by
    intro r
    induction r with
    | nil => intro i w _ _; rfl
    | cons x r ih =>
      intro i w hr hw
      simp only [List.length_cons] at hw
      have hl := len_putB w x
      rw [d_spec_VarsOf_L1, sVar x (hr x (by simp)), Option.bind_some, sPut w x (by omega), Option.bind_some, ih _ _ (fun y hy => hr y (by simp [hy])) (by omega), ih _ _ (fun y hy => hr y (by simp [hy])) (by omega)]
      cases hv : varB x <;> simp [varsB, hv]
  exact this p.args 0 [] (fun x hx => Fact.arg_le h hx) (by have := Fact.args_le h; simp; omega)
theorem iVars (l : List Bytes) (hl : l.length ≤ 2097152) (h : ∀ x ∈ l, x.length ≤ 1048576) : d_impl_varsAmong l = some (varsB l) := by
  unfold d_impl_varsAmong
  have : ∀ (r : List Bytes) (i : Nat) (w : List Bytes), (∀ x ∈ r, x.length ≤ 1048576) → w.length + r.length ≤ 2097152 → d_impl_varsAmong_L1 l (fun q => some q) r i w = some (w ++ varsB r) := by
    intro r
    induction r with
    | nil => intro i w _ _; simp [d_impl_varsAmong_L1, varsB]
    | cons x r ih =>
      intro i w hr hw
      simp only [List.length_cons] at hw
      rw [d_impl_varsAmong_L1, iVar x (hr x (by simp)), Option.bind_some, room1 (by omega) (by decide), ih _ _ (fun y hy => hr y (by simp [hy])) (by simp; omega), ih _ _ (fun y hy => hr y (by simp [hy])) (by omega)]
      cases hv : varB x <;> simp [varsB, hv]
  exact this l 0 [] h (by simpa using hl)
/-- the variables of a condition -/
def condV (c : Cond) : List Bytes := varsB (c.pat.args ++ [c.left, c.right])
theorem condV_len {c : Cond} {n : Nat} (h : c.wt ≤ n) : (condV c).length ≤ n + 2 := by
  have h1 := varsB_len (c.pat.args ++ [c.left, c.right])
  have h2 := Fact.args_le (Cond.pat_le h)
  simp only [List.length_append, List.length_cons, List.length_nil] at h1
  unfold condV
  omega
theorem sCondV (c : Cond) (h : c.wt ≤ 1048576) : d_spec_CondVars c = some (uniqS (condV c)) := by
  unfold d_spec_CondVars
  have h1 := Fact.args_le (Cond.pat_le h)
  have h2 := len_uniqS (varsB c.pat.args)
  have h3 := varsB_len c.pat.args
  have h4 := len_putB (uniqS (varsB c.pat.args)) c.left
  rw [sVarsOf _ (Cond.pat_le h), Option.bind_some, sVar _ (Cond.left_le h), Option.bind_some, sVar _ (Cond.right_le h)]
  simp only [Option.bind_some]
  rw [sPut _ _ (by omega), sPut _ _ (by omega), Option.bind_some, sPut _ _ (by omega)]
  simp only [Option.bind_some, condV, varsB_app, uniqS_snoc]
  cases hl : varB c.left <;> cases hr : varB c.right <;> simp [varsB, hl, hr]
theorem iTerms (c : Cond) (h : c.wt ≤ 1048576) : d_impl_termsOf c = some (c.pat.args ++ [c.left, c.right]) := by
  unfold d_impl_termsOf
  have h1 := Fact.args_le (Cond.pat_le h)
  rw [iTexts _ (by omega), Option.bind_some]
  rw [roomK (by simp; omega) (by decide)]
  rfl
theorem iCondV (c : Cond) (h : c.wt ≤ 1048576) : d_impl_CondVars c = some (uniqS (condV c)) := by
  unfold d_impl_CondVars
  have h1 := Fact.args_le (Cond.pat_le h)
  have h5 := condV_len h
  rw [iTerms c h, Option.bind_some, iVars _ (by simp; omega) (fun x hx => by
    simp only [List.mem_append, List.mem_cons, List.not_mem_nil, or_false] at hx
    rcases hx with hx | rfl | rfl
    · exact Fact.arg_le (Cond.pat_le h) hx
    · exact Cond.left_le h
    · exact Cond.right_le h), Option.bind_some]
  rw [show varsB (c.pat.args ++ [c.left, c.right]) = condV c from rfl, iSorted _ (by omega)]
  rfl
def zeroB (p : Fact) : Bool := p.rel == [] && decide ((p.args.length : Int) = 0)
def condB (c : Cond) : Bool := bif decide (c.kind = 1) || decide (c.kind = 2) then patB c.pat && (c.left == [] && c.right == []) else bif decide (c.kind = 3) || decide (c.kind = 4) || decide (c.kind = 5) then zeroB c.pat && (termB c.left && termB c.right) else false
def testB (c : Cond) : Bool := condB c && decide (c.kind ≥ 3)
theorem condB_kind {c : Cond} (h : condB c = true) : 1 ≤ c.kind ∧ c.kind ≤ 5 := by
  unfold condB at h
  by_cases h1 : c.kind = 1
  · omega
  by_cases h2 : c.kind = 2
  · omega
  by_cases h3 : c.kind = 3
  · omega
  by_cases h4 : c.kind = 4
  · omega
  by_cases h5 : c.kind = 5
  · omega
  simp [h1, h2, h3, h4, h5] at h
theorem sCond (c : Cond) (h : c.wt ≤ 1048576) : d_spec_IsCond c = some (condB c) := by
  unfold d_spec_IsCond condB zeroB
  simp only [sPat _ (Cond.pat_le h), sTerm _ (Cond.left_le h), sTerm _ (Cond.right_le h), Option.bind_some, List.length_map, beq_dec]
  by_cases h1 : c.kind = 1
  · simp only [h1]; cases patB c.pat <;> cases decide (c.left = []) <;> simp
  by_cases h2 : c.kind = 2
  · simp only [h2]; cases patB c.pat <;> cases decide (c.left = []) <;> simp
  by_cases h3 : c.kind = 3
  · simp only [h3]; cases decide (c.pat.rel = []) <;> cases decide ((c.pat.args.length : Int) = 0) <;> cases termB c.left <;> simp
  by_cases h4 : c.kind = 4
  · simp only [h4]; cases decide (c.pat.rel = []) <;> cases decide ((c.pat.args.length : Int) = 0) <;> cases termB c.left <;> simp
  by_cases h5 : c.kind = 5
  · simp only [h5]; cases decide (c.pat.rel = []) <;> cases decide ((c.pat.args.length : Int) = 0) <;> cases termB c.left <;> simp
  simp [h1, h2, h3, h4, h5]
theorem iZero (p : Fact) : d_impl_zeroPattern p = some (zeroB p) := by
  unfold d_impl_zeroPattern zeroB
  simp only [List.length_map, beq_dec]
  cases decide (p.rel = []) <;> rfl
theorem iCond (c : Cond) (h : c.wt ≤ 1048576) : d_impl_IsCond c = some (condB c) := by
  unfold d_impl_IsCond condB
  simp only [iPat _ (Cond.pat_le h), iTerm _ (Cond.left_le h), iTerm _ (Cond.right_le h), iZero, Option.bind_some, beq_dec]
  by_cases h1 : c.kind = 1
  · simp only [h1]; cases patB c.pat <;> cases decide (c.left = []) <;> simp
  by_cases h2 : c.kind = 2
  · simp only [h2]; cases patB c.pat <;> cases decide (c.left = []) <;> simp
  by_cases h3 : c.kind = 3
  · simp only [h3]; cases zeroB c.pat <;> cases termB c.left <;> cases termB c.right <;> simp
  by_cases h4 : c.kind = 4
  · simp only [h4]; cases zeroB c.pat <;> cases termB c.left <;> cases termB c.right <;> simp
  by_cases h5 : c.kind = 5
  · simp only [h5]; cases zeroB c.pat <;> cases termB c.left <;> cases termB c.right <;> simp
  simp [h1, h2, h3, h4, h5]
theorem sTest (c : Cond) (h : c.wt ≤ 1048576) : d_spec_IsTest c = some (testB c) := by
  unfold d_spec_IsTest testB
  rw [sCond c h]
  cases condB c <;> rfl
theorem iTest (c : Cond) (h : c.wt ≤ 1048576) : d_impl_IsTest c = some (testB c) := by
  unfold d_impl_IsTest testB
  rw [iCond c h]
  cases condB c <;> rfl
def actB (a : Action) : Bool := bif decide (a.kind = 1) || decide (a.kind = 2) then patB a.pat else bif decide (a.kind = 3) then zeroB a.pat else false
theorem sAct (a : Action) (h : a.wt ≤ 1048576) : d_spec_IsAction a = some (actB a) := by
  unfold d_spec_IsAction actB zeroB
  simp only [sPat _ (Action.pat_le h), Option.bind_some, List.length_map, beq_dec]
  by_cases h1 : a.kind = 1
  · simp [h1]
  by_cases h2 : a.kind = 2
  · simp [h2]
  by_cases h3 : a.kind = 3
  · simp only [h3]; cases decide (a.pat.rel = []) <;> simp
  simp [h1, h2, h3]
theorem iAct (a : Action) (h : a.wt ≤ 1048576) : d_impl_IsAction a = some (actB a) := by
  unfold d_impl_IsAction actB
  simp only [iPat _ (Action.pat_le h), iZero, Option.bind_some, beq_dec]
  by_cases h1 : a.kind = 1
  · simp [h1]
  by_cases h2 : a.kind = 2
  · simp [h2]
  by_cases h3 : a.kind = 3
  · simp [h3]
  simp [h1, h2, h3]
end Go.Cx
