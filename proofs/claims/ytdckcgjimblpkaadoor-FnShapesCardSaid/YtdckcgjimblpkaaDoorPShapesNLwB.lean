/- Chapters 2 to 5 in plain words: facts, patterns, conditions, rules, as the program and the reference read them. No condition but bounds on sizes. -/
import Derived.Test.YtdckcgjimblpkaaDoorPShapesNLwA
namespace Go.Cx
open Go.RowKit Go.Proofs
set_option linter.unusedVariables false
set_option linter.unusedSimpArgs false
theorem Fact.rel_le {p : Fact} {n : Nat} (h : p.wt ≤ n) : p.rel.length ≤ n := by unfold Fact.wt tw at h; omega
theorem Fact.args_le {p : Fact} {n : Nat} (h : p.wt ≤ n) : p.args.length ≤ n := by unfold Fact.wt at h; have := wtL_len tw p.args; omega
theorem Fact.arg_le {p : Fact} {n : Nat} (h : p.wt ≤ n) {x : Bytes} (hx : x ∈ p.args) : x.length ≤ n := by unfold Fact.wt at h; have := wtL_mem (w := tw) hx; have e : tw x = x.length := rfl; omega
theorem iSameP (a b : Fact) : d_impl_SamePattern a b = some (decide (a = b)) := by
  obtain ⟨a0, a1⟩ := a; obtain ⟨b0, b1⟩ := b
  unfold d_impl_SamePattern
  simp only [iSameT, Option.bind_some, beq_dec]
  by_cases h0 : a0 = b0 <;> by_cases h1 : a1 = b1 <;> simp [h0, h1]
def patB (p : Fact) : Bool := p.args.all termB && (nameB p.rel && decide ((p.args.length : Int) ≤ 3))
theorem sPat (f : Fact) (h : f.wt ≤ 1048576) : d_spec_IsPattern f = some (patB f) := by
  unfold d_spec_IsPattern
  rw [allL (f := d_spec_IsTerm) (L := d_spec_IsPattern_L1 f _) (fun _ => rfl) (fun _ _ _ => rfl) f.args 0 (fun x hx => sTerm x (Fact.arg_le h hx)), sName _ (Fact.rel_le h), Option.bind_some, List.length_map, patB]
  cases f.args.all termB <;> cases nameB f.rel <;> rfl
theorem iPat (f : Fact) (h : f.wt ≤ 1048576) : d_impl_IsPattern f = some (patB f) := by
  unfold d_impl_IsPattern
  rw [allL (f := d_impl_IsTerm) (L := d_impl_IsPattern_L1 f _) (fun _ => rfl) (fun _ _ _ => rfl) f.args 0 (fun x hx => iTerm x (Fact.arg_le h hx)), iName _ (Fact.rel_le h), Option.bind_some, List.length_map, patB]
  have c : decide ((f.args.length : Int) ≤ 3) = !decide ((f.args.length : Int) > 3) := by rw [Bool.eq_iff_iff]; simp
  rw [c]
  cases f.args.all termB <;> cases nameB f.rel <;> cases decide ((f.args.length : Int) > 3) <;> rfl
end Go.Cx
