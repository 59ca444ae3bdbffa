/- Chapters 2 to 5 in plain words: facts, patterns, conditions, rules, as the program and the reference read them. No condition but bounds on sizes. -/
import Derived.Test.YtdckcgjimblpkaaGreatDoorPNodeLineNLwA
namespace Go.Cx
open Go.RowKit Go.Proofs
set_option linter.unusedVariables false
set_option linter.unusedSimpArgs false
theorem Fact.rel_le {p : Fact} {n : Nat} (h : p.wt ≤ n) : p.rel.length ≤ n := by unfold Fact.wt tw at h; omega
theorem Fact.arg_le {p : Fact} {n : Nat} (h : p.wt ≤ n) {x : Bytes} (hx : x ∈ p.args) : x.length ≤ n := by unfold Fact.wt at h; have := wtL_mem (w := tw) hx; have e : tw x = x.length := rfl; omega
theorem Cond.pat_le {c : Cond} {n : Nat} (h : c.wt ≤ n) : c.pat.wt ≤ n := by simp only [Cond.wt, Fact.wt] at h ⊢; omega
theorem Cond.left_le {c : Cond} {n : Nat} (h : c.wt ≤ n) : c.left.length ≤ n := by simp only [Cond.wt, tw] at h; omega
theorem Cond.right_le {c : Cond} {n : Nat} (h : c.wt ≤ n) : c.right.length ≤ n := by simp only [Cond.wt, tw] at h; omega
theorem Action.pat_le {c : Action} {n : Nat} (h : c.wt ≤ n) : c.pat.wt ≤ n := by simp only [Action.wt, Fact.wt] at h ⊢; omega
theorem Rule.conds_le {r : Rule} {n : Nat} (h : r.wt ≤ n) : wtL Cond.wt r.conds ≤ n := by simp only [Rule.wt] at h; omega
theorem Rule.cond_le {r : Rule} {n : Nat} (h : r.wt ≤ n) {c : Cond} (hc : c ∈ r.conds) : c.wt ≤ n := by have := Rule.conds_le h; have := wtL_mem (w := Cond.wt) hc; omega
def patB (p : Fact) : Bool := p.args.all termB && (nameB p.rel && decide ((p.args.length : Int) ≤ 3))
theorem sPat (f : Fact) (h : f.wt ≤ 1048576) : d_spec_IsPattern f = some (patB f) := by
  unfold d_spec_IsPattern
  rw [allL (f := d_spec_IsTerm) (L := d_spec_IsPattern_L1 f _) (fun _ => rfl) (fun _ _ _ => rfl) f.args 0 (fun x hx => sTerm x (Fact.arg_le h hx)), sName _ (Fact.rel_le h), Option.bind_some, List.length_map, patB]
  cases f.args.all termB <;> cases nameB f.rel <;> rfl
theorem iPat (f : Fact) (h : f.wt ≤ 1048576) : d_impl_IsPattern f = some (patB f) := by
  unfold d_impl_IsPattern
  rw [allL (f := d_impl_IsTerm) (L := d_impl_IsPattern_L1 f _) (fun _ => rfl) (fun _ _ _ => rfl) f.args 0 (fun x hx => iTerm x (Fact.arg_le h hx)), iName _ (Fact.rel_le h), Option.bind_some, List.length_map, patB]
  have c : decide ((f.args.length : Int) ≤ 3) = !decide ((f.args.length : Int) > 3) := by rw [Bool.eq_iff_iff]; simp
  rw [c]
  cases f.args.all termB <;> cases nameB f.rel <;> cases decide ((f.args.length : Int) > 3) <;> rfl
def zeroB (p : Fact) : Bool := p.rel == [] && decide ((p.args.length : Int) = 0)
def condB (c : Cond) : Bool := bif decide (c.kind = 1) || decide (c.kind = 2) then patB c.pat && (c.left == [] && c.right == []) else bif decide (c.kind = 3) || decide (c.kind = 4) || decide (c.kind = 5) then zeroB c.pat && (termB c.left && termB c.right) else false
theorem condB_kind {c : Cond} (h : condB c = true) : 1 ≤ c.kind ∧ c.kind ≤ 5 := by
  unfold condB at h
  by_cases h1 : c.kind = 1
  · omega
  by_cases h2 : c.kind = 2
  · omega
  by_cases h3 : c.kind = 3
  · omega
  by_cases h4 : c.kind = 4
  · omega
  by_cases h5 : c.kind = 5
  · omega
  simp [h1, h2, h3, h4, h5] at h
theorem sCond (c : Cond) (h : c.wt ≤ 1048576) : d_spec_IsCond c = some (condB c) := by
  unfold d_spec_IsCond condB zeroB
  simp only [sPat _ (Cond.pat_le h), sTerm _ (Cond.left_le h), sTerm _ (Cond.right_le h), Option.bind_some, List.length_map, beq_dec]
  by_cases h1 : c.kind = 1
  · simp only [h1]; cases patB c.pat <;> cases decide (c.left = []) <;> simp
  by_cases h2 : c.kind = 2
  · simp only [h2]; cases patB c.pat <;> cases decide (c.left = []) <;> simp
  by_cases h3 : c.kind = 3
  · simp only [h3]; cases decide (c.pat.rel = []) <;> cases decide ((c.pat.args.length : Int) = 0) <;> cases termB c.left <;> simp
  by_cases h4 : c.kind = 4
  · simp only [h4]; cases decide (c.pat.rel = []) <;> cases decide ((c.pat.args.length : Int) = 0) <;> cases termB c.left <;> simp
  by_cases h5 : c.kind = 5
  · simp only [h5]; cases decide (c.pat.rel = []) <;> cases decide ((c.pat.args.length : Int) = 0) <;> cases termB c.left <;> simp
  simp [h1, h2, h3, h4, h5]
theorem iZero (p : Fact) : d_impl_zeroPattern p = some (zeroB p) := by
  unfold d_impl_zeroPattern zeroB
  simp only [List.length_map, beq_dec]
  cases decide (p.rel = []) <;> rfl
theorem iCond (c : Cond) (h : c.wt ≤ 1048576) : d_impl_IsCond c = some (condB c) := by
  unfold d_impl_IsCond condB
  simp only [iPat _ (Cond.pat_le h), iTerm _ (Cond.left_le h), iTerm _ (Cond.right_le h), iZero, Option.bind_some, beq_dec]
  by_cases h1 : c.kind = 1
  · simp only [h1]; cases patB c.pat <;> cases decide (c.left = []) <;> simp
  by_cases h2 : c.kind = 2
  · simp only [h2]; cases patB c.pat <;> cases decide (c.left = []) <;> simp
  by_cases h3 : c.kind = 3
  · simp only [h3]; cases zeroB c.pat <;> cases termB c.left <;> cases termB c.right <;> simp
  by_cases h4 : c.kind = 4
  · simp only [h4]; cases zeroB c.pat <;> cases termB c.left <;> cases termB c.right <;> simp
  by_cases h5 : c.kind = 5
  · simp only [h5]; cases zeroB c.pat <;> cases termB c.left <;> cases termB c.right <;> simp
  simp [h1, h2, h3, h4, h5]
end Go.Cx
