/- Chapters 2 to 5 in plain words: facts, patterns, conditions, rules, as the program and the reference read them. No condition but bounds on sizes. -/
import Derived.Test.YtocmmccbfnhfpaaPSameMemoriesNLwA
namespace Go.Cx
open Go.RowKit Go.Proofs
set_option linter.unusedVariables false
set_option linter.unusedSimpArgs false
theorem sSameF (a b : Fact) : d_spec_l2Same a b = some (decide (a = b)) := by
  obtain ⟨a0, a1⟩ := a; obtain ⟨b0, b1⟩ := b
  unfold d_spec_l2Same
  simp only [sSameT, Option.bind_some, beq_dec]
  by_cases h0 : a0 = b0 <;> by_cases h1 : a1 = b1 <;> simp [h0, h1]
theorem iSameF (a b : Fact) : d_impl_sameFact a b = some (decide (a = b)) := by
  obtain ⟨a0, a1⟩ := a; obtain ⟨b0, b1⟩ := b
  unfold d_impl_sameFact
  simp only [iSameT, Option.bind_some, beq_dec]
  by_cases h0 : a0 = b0 <;> by_cases h1 : a1 = b1 <;> simp [h0, h1]
theorem sSameP (a b : Fact) : d_spec_SamePattern a b = some (decide (a = b)) := by
  obtain ⟨a0, a1⟩ := a; obtain ⟨b0, b1⟩ := b
  unfold d_spec_SamePattern
  simp only [sSameT, Option.bind_some, beq_dec]
  by_cases h0 : a0 = b0 <;> by_cases h1 : a1 = b1 <;> simp [h0, h1]
theorem iSameP (a b : Fact) : d_impl_SamePattern a b = some (decide (a = b)) := by
  obtain ⟨a0, a1⟩ := a; obtain ⟨b0, b1⟩ := b
  unfold d_impl_SamePattern
  simp only [iSameT, Option.bind_some, beq_dec]
  by_cases h0 : a0 = b0 <;> by_cases h1 : a1 = b1 <;> simp [h0, h1]
theorem sSameFs (a b : List Fact) : d_spec_SameFacts a b = some (decide (a = b)) := by
  unfold d_spec_SameFacts
  exact eqL (c := Fact.c) (f := d_spec_l2Same) (fun k => d_spec_SameFacts_L1 a b k) (fun _ _ => rfl) (fun _ _ _ _ => rfl) sSameF
theorem iSameFs (a b : List Fact) : d_impl_SameFacts a b = some (decide (a = b)) := by
  unfold d_impl_SameFacts
  exact eqL (c := Fact.c) (f := d_impl_sameFact) (fun k => d_impl_SameFacts_L1 a b k) (fun _ _ => rfl) (fun _ _ _ _ => rfl) iSameF
theorem sSameC (a b : Cond) : d_spec_SameCond a b = some (decide (a = b)) := by
  obtain ⟨a0, a1, a2, a3⟩ := a; obtain ⟨b0, b1, b2, b3⟩ := b
  unfold d_spec_SameCond
  simp only [sSameP, Option.bind_some, beq_dec]
  by_cases h0 : a0 = b0 <;> by_cases h1 : a1 = b1 <;> by_cases h2 : a2 = b2 <;> by_cases h3 : a3 = b3 <;> simp [h0, h1, h2, h3]
theorem iSameC (a b : Cond) : d_impl_SameCond a b = some (decide (a = b)) := by
  obtain ⟨a0, a1, a2, a3⟩ := a; obtain ⟨b0, b1, b2, b3⟩ := b
  unfold d_impl_SameCond
  simp only [iSameP, Option.bind_some, beq_dec]
  by_cases h0 : a0 = b0 <;> by_cases h1 : a1 = b1 <;> by_cases h2 : a2 = b2 <;> by_cases h3 : a3 = b3 <;> simp [h0, h1, h2, h3]
end Go.Cx
