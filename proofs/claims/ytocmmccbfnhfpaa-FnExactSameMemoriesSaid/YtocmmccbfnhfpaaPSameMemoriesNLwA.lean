/- Chapter 1 in plain words: what the functions on texts and lists of texts compute, of the program and of the reference. No condition but bounds on lengths. -/
import Derived.Test.YtocmmccbfnhfpaaPSameMemoriesNPl
import Derived.Test.YtocmmccbfnhfpaaPSameMemoriesNFn3
import Derived.Sort.Walk0
namespace Go.Cx
open Go.RowKit Go.Proofs
set_option linter.unusedVariables false
set_option linter.unusedSimpArgs false
theorem atI_mid {α : Type} {a pre xs : List α} {x : α} (h : a = pre ++ x :: xs) : atI a (pre.length : Int) = some x := by
  unfold atI
  have : a[pre.length]? = some x := by rw [h]; simp
  simp [this]
/-! the order of texts -/
/-! ascending lists without repetition -/
/-! atoms, names, variables -/
theorem sSameT (a b : List Bytes) : d_spec_l1SameTexts a b = some (decide (a = b)) := by
  unfold d_spec_l1SameTexts
  exact eqL (c := tx) (f := fun x y => some (x == y)) (fun k => d_spec_l1SameTexts_L1 a b k) (fun _ _ => rfl) (fun _ _ _ _ => rfl) (fun x y => by rw [Option.some.injEq, Bool.eq_iff_iff]; simp)
theorem iSameT (a b : List Bytes) : d_impl_sameTexts a b = some (decide (a = b)) := by
  unfold d_impl_sameTexts
  exact eqL (c := tx) (f := fun x y => some (x == y)) (fun k => d_impl_sameTexts_L1 a b k) (fun _ _ => rfl) (fun _ _ _ _ => rfl) (fun x y => by rw [Option.some.injEq, Bool.eq_iff_iff]; simp)
theorem iSameI (a b : List Int) : d_impl_sameInts a b = some (decide (a = b)) := by
  unfold d_impl_sameInts
  exact eqL (c := ixx) (f := fun x y => some (x == y)) (fun k => d_impl_sameInts_L1 a b k) (fun _ _ => rfl) (fun _ _ _ _ => rfl) (fun x y => by rw [Option.some.injEq, Bool.eq_iff_iff]; simp)
end Go.Cx
