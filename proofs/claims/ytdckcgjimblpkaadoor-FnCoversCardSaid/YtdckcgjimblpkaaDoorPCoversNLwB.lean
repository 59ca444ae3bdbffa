/- Chapters 2 to 5 in plain words: facts, patterns, conditions, rules, as the program and the reference read them. No condition but bounds on sizes. -/
import Derived.Test.YtdckcgjimblpkaaDoorPCoversNLwA
namespace Go.Cx
open Go.RowKit Go.Proofs
set_option linter.unusedVariables false
set_option linter.unusedSimpArgs false
theorem Fact.rel_le {p : Fact} {n : Nat} (h : p.wt ≤ n) : p.rel.length ≤ n := by unfold Fact.wt tw at h; omega
theorem Fact.args_le {p : Fact} {n : Nat} (h : p.wt ≤ n) : p.args.length ≤ n := by unfold Fact.wt at h; have := wtL_len tw p.args; omega
theorem Fact.arg_le {p : Fact} {n : Nat} (h : p.wt ≤ n) {x : Bytes} (hx : x ∈ p.args) : x.length ≤ n := by unfold Fact.wt at h; have := wtL_mem (w := tw) hx; have e : tw x = x.length := rfl; omega
theorem sCopyF (f : Fact) (h : f.args.length ≤ 1099511627776) : d_spec_l2Copy f = some f := by
  unfold d_spec_l2Copy; rw [sTexts _ h]; rfl
theorem sSameP (a b : Fact) : d_spec_SamePattern a b = some (decide (a = b)) := by
  obtain ⟨a0, a1⟩ := a; obtain ⟨b0, b1⟩ := b
  unfold d_spec_SamePattern
  simp only [sSameT, Option.bind_some, beq_dec]
  by_cases h0 : a0 = b0 <;> by_cases h1 : a1 = b1 <;> simp [h0, h1]
def patB (p : Fact) : Bool := p.args.all termB && (nameB p.rel && decide ((p.args.length : Int) ≤ 3))
def factB (f : Fact) : Bool := f.args.all atomB && (nameB f.rel && decide ((f.args.length : Int) ≤ 3))
theorem sFact (f : Fact) (h : f.wt ≤ 1048576) : d_spec_IsFact f = some (factB f) := by
  unfold d_spec_IsFact
  rw [allL (f := d_spec_IsAtom) (L := d_spec_IsFact_L1 f _) (fun _ => rfl) (fun _ _ _ => rfl) f.args 0 (fun x hx => sAtom x (Fact.arg_le h hx)), sName _ (Fact.rel_le h), Option.bind_some, List.length_map, factB]
  cases f.args.all atomB <;> cases nameB f.rel <;> rfl
theorem iFact (f : Fact) (h : f.wt ≤ 1048576) : d_impl_IsFact f = some (factB f) := by
  unfold d_impl_IsFact
  rw [allL (f := d_impl_IsAtom) (L := d_impl_IsFact_L1 f _) (fun _ => rfl) (fun _ _ _ => rfl) f.args 0 (fun x hx => iAtom x (Fact.arg_le h hx)), iName _ (Fact.rel_le h), Option.bind_some, List.length_map, factB]
  have c : decide ((f.args.length : Int) ≤ 3) = !decide ((f.args.length : Int) > 3) := by rw [Bool.eq_iff_iff]; simp
  rw [c]
  cases f.args.all atomB <;> cases nameB f.rel <;> cases decide ((f.args.length : Int) > 3) <;> rfl
theorem sPat (f : Fact) (h : f.wt ≤ 1048576) : d_spec_IsPattern f = some (patB f) := by
  unfold d_spec_IsPattern
  rw [allL (f := d_spec_IsTerm) (L := d_spec_IsPattern_L1 f _) (fun _ => rfl) (fun _ _ _ => rfl) f.args 0 (fun x hx => sTerm x (Fact.arg_le h hx)), sName _ (Fact.rel_le h), Option.bind_some, List.length_map, patB]
  cases f.args.all termB <;> cases nameB f.rel <;> rfl
theorem iPat (f : Fact) (h : f.wt ≤ 1048576) : d_impl_IsPattern f = some (patB f) := by
  unfold d_impl_IsPattern
  rw [allL (f := d_impl_IsTerm) (L := d_impl_IsPattern_L1 f _) (fun _ => rfl) (fun _ _ _ => rfl) f.args 0 (fun x hx => iTerm x (Fact.arg_le h hx)), iName _ (Fact.rel_le h), Option.bind_some, List.length_map, patB]
  have c : decide ((f.args.length : Int) ≤ 3) = !decide ((f.args.length : Int) > 3) := by rw [Bool.eq_iff_iff]; simp
  rw [c]
  cases f.args.all termB <;> cases nameB f.rel <;> cases decide ((f.args.length : Int) > 3) <;> rfl
end Go.Cx
