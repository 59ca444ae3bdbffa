/- Chapter 5 in plain words: which variables a rule binds and uses, what it reads and writes, whether it is valid. No condition but bounds on sizes. -/
import Derived.Test.YtocmmccbfnhfpaaPBoundVarsNLwB
namespace Go.Cx
open Go.RowKit Go.Proofs
set_option linter.unusedVariables false
set_option linter.unusedSimpArgs false
def bnd1 (c : Cond) : List Bytes := bif decide (c.kind = 1) then varsB c.pat.args else []
theorem bnd1_len {c : Cond} : (bnd1 c).length ≤ c.wt := by
  unfold bnd1
  have h2 := varsB_len c.pat.args
  have h3 := Fact.args_le (Cond.pat_le (Nat.le_refl c.wt))
  cases decide (c.kind = 1) <;> simp; omega
/-- the variables that the first n conditions bind -/
def bndV (r : Rule) (n : Int) : List Bytes := (r.conds.take n.toNat).flatMap bnd1
theorem take_step {α : Type} (x : α) (xs : List α) (n : Int) (i : Nat) : (x :: xs).take (n - (i : Int)).toNat = if (i : Int) < n then x :: xs.take (n - ((i + 1 : Nat) : Int)).toNat else [] := by
  by_cases h : (i : Int) < n
  · rw [if_pos h]
    obtain ⟨m, hm⟩ : ∃ m, (n - (i : Int)).toNat = m + 1 := ⟨(n - (i : Int)).toNat - 1, by omega⟩
    have : (n - ((i + 1 : Nat) : Int)).toNat = m := by omega
    rw [hm, this]; rfl
  · rw [if_neg h, show (n - (i : Int)).toNat = 0 from by omega]; rfl
theorem flatMap_len {α β : Type} {f : α → List β} {w : α → Nat} (l : List α) (h : ∀ x ∈ l, (f x).length ≤ w x + 2) : (l.flatMap f).length ≤ 3 * wtL w l := by
  induction l with
  | nil => simp [wtL]
  | cons x l ih =>
    rw [List.flatMap_cons, List.length_append, wtL_cons]
    have h1 := h x (by simp)
    have h2 := ih (fun y hy => h y (by simp [hy]))
    omega
theorem bndV_len {r : Rule} {n : Nat} (h : r.wt ≤ n) (m : Int) : (bndV r m).length ≤ 3 * n := by
  unfold bndV
  have h1 := flatMap_len (w := Cond.wt) (f := bnd1) (r.conds.take m.toNat) (fun c _ => by have := @bnd1_len c; omega)
  have h2 : wtL Cond.wt (r.conds.take m.toNat) ≤ wtL Cond.wt r.conds := by
    conv => rhs; rw [← List.take_append_drop m.toNat r.conds]
    rw [wtL_append]; omega
  have h3 := Rule.conds_le h
  omega
theorem sBoundL2 (a : Rule) (n : Int) (i : Nat) (y : List Bytes) (k : List Bytes → Option (List Bytes)) : ∀ (l : List Bytes) (j : Nat) (w : List Bytes), w.length + l.length ≤ 1099511627770 → d_spec_BoundVars_L2 a n i y k l j w = k (l.foldl putB w) := by
  intro l
  induction l with
  | nil => intro j w _; rfl
  | cons x l ih =>
    intro j w hw
    simp only [List.length_cons] at hw
    have := len_putB w x
    rw [d_spec_BoundVars_L2, sPut w x (by omega), Option.bind_some, ih _ _ (by omega)]; rfl
theorem sBoundL (a : Rule) (n : Int) (k : List Bytes → Option (List Bytes)) : ∀ (l : List Cond) (i : Nat) (acc : List Bytes), (∀ c ∈ l, c.wt ≤ 1048576) → acc.length + wtL Cond.wt l ≤ 2097152 →
    d_spec_BoundVars_L1 a n k l i (uniqS acc) = k (uniqS (acc ++ (l.take (n - (i : Int)).toNat).flatMap bnd1)) := by
  intro l
  induction l with
  | nil => intro i acc _ _; simp [d_spec_BoundVars_L1]
  | cons c l ih =>
    intro i acc hc hb
    rw [wtL_cons] at hb
    have hwt := hc c (by simp)
    have hv := varsB_len c.pat.args
    have ha := Fact.args_le (Cond.pat_le (Nat.le_refl c.wt))
    have hu := len_uniqS (varsB c.pat.args)
    have hu2 := len_uniqS acc
    rw [d_spec_BoundVars_L1, take_step]
    by_cases hi : (i : Int) < n
    · have e1 : decide (((i : Int) : Int) < n) = true := by simp [hi]
      rw [e1, cond_true, if_pos hi]
      by_cases hk : c.kind = 1
      · have e2 : ((c.kind : Int) == 1) = true := by simp [hk]
        rw [e2, cond_true, sVarsOf _ (Cond.pat_le hwt), Option.bind_some, lenOk (by omega), cond_true, sBoundL2 _ _ _ _ _ _ _ _ (by omega), uniqS_fold2, ih _ _ (fun x hx => hc x (by simp [hx])) (by simp; omega)]
        simp [bnd1, hk]
      · have e2 : ((c.kind : Int) == 1) = false := by simp [hk]
        rw [e2, cond_false, ih _ _ (fun x hx => hc x (by simp [hx])) (by omega)]
        simp [bnd1, hk]
    · have e1 : decide (((i : Int) : Int) < n) = false := by simp [hi]
      rw [e1, cond_false, if_neg hi]
      simp
theorem sBound (r : Rule) (n : Int) (h : r.wt ≤ 1048576) : d_spec_BoundVars r n = some (uniqS (bndV r n)) := by
  unfold d_spec_BoundVars
  have := sBoundL r n (fun q => some q) r.conds 0 [] (fun c hc => Rule.cond_le h hc) (by have := Rule.conds_le h; simp; omega)
  rw [show uniqS [] = [] from rfl] at this
  rw [this]
  simp [bndV]
theorem iBoundL (a : Rule) (n : Int) (k : List Bytes → Option (List Bytes)) : ∀ (l : List Cond) (i : Nat) (w : List Bytes), (∀ c ∈ l, c.wt ≤ 1048576) → w.length + wtL Cond.wt l ≤ 2097152 →
    d_impl_BoundVars_L1 a n k l i w = k (w ++ (l.take (n - (i : Int)).toNat).flatMap bnd1) := by
  intro l
  induction l with
  | nil => intro i w _ _; simp [d_impl_BoundVars_L1]
  | cons c l ih =>
    intro i w hc hb
    rw [wtL_cons] at hb
    have hwt := hc c (by simp)
    have hv := varsB_len c.pat.args
    have ha := Fact.args_le (Cond.pat_le (Nat.le_refl c.wt))
    rw [d_impl_BoundVars_L1, take_step]
    by_cases hi : (i : Int) < n
    · have e1 : decide (((i : Int) : Int) < n) = true := by simp [hi]
      rw [e1, cond_true, if_pos hi]
      by_cases hk : c.kind = 1
      · have e2 : ((c.kind : Int) == 1) = true := by simp [hk]
        rw [e2, cond_true, iVars _ (by omega) (fun x hx => Fact.arg_le (Cond.pat_le hwt) hx), Option.bind_some, roomA (by omega) (by decide), cond_true, ih _ _ (fun x hx => hc x (by simp [hx])) (by simp; omega)]
        simp [bnd1, hk]
      · have e2 : ((c.kind : Int) == 1) = false := by simp [hk]
        rw [e2, cond_false, ih _ _ (fun x hx => hc x (by simp [hx])) (by omega)]
        simp [bnd1, hk]
    · have e1 : decide (((i : Int) : Int) < n) = false := by simp [hi]
      rw [e1, cond_false, if_neg hi, ih _ _ (fun x hx => hc x (by simp [hx])) (by omega), show (n - ((i + 1 : Nat) : Int)).toNat = 0 from by omega]
      simp
theorem iBound (r : Rule) (n : Int) (h : r.wt ≤ 1048576) : d_impl_BoundVars r n = some (uniqS (bndV r n)) := by
  unfold d_impl_BoundVars
  have hl := bndV_len h n
  rw [iBoundL r n _ r.conds 0 [] (fun c hc => Rule.cond_le h hc) (by have := Rule.conds_le h; simp; omega)]
  have e : ([] : List Bytes) ++ (r.conds.take (n - ((0 : Nat) : Int)).toNat).flatMap bnd1 = bndV r n := by simp [bndV]
  rw [e, iSorted _ (by omega)]
  rfl
/-! when a rule is valid -/
end Go.Cx
