/- What functions of the program compute, and the walks that show it. No condition. -/
import Derived.Test.YtoeenpcilfhjbaaDoorNData
namespace Go.Cx
open Go.RowKit Go.Proofs
set_option linter.unusedVariables false
set_option linter.unusedSimpArgs false
set_option maxRecDepth 100000
variable {Γ : Ctx} {N : Nat → St → Prop}
def d_impl_copyInts (a0_ : List Int) : Option (List Int) := (bif room ((([] : List (List D))).length + ((a0_).map ixx).length) 8 then (some ((([] : List Int)) ++ (a0_))) else none)
theorem d_impl_copyInts_good {a0_ : List Int} {r : List Int} (h : d_impl_copyInts a0_ = some r) : Good Tryd.prog 31 [D.sl ((a0_).map ixx)] (D.fr 3 1 ((r).map ixx)) := by
  refine gd Tryd.func31 [[some (3, 1)]] 5 fun hr Γ hΓ => ?_
  rw [d_impl_copyInts] at h
  obtain ⟨h1, h⟩ := den_ok h
  cases h; exact (((pre0.w (room_ok h1)).w (show (∀ r ∈ ((a0_).map ixx), r.length = 1) ∧ (true = true → D.flatRows ((a0_).map ixx) = true) from ⟨by first | simp | (intro r hr; obtain ⟨x, _, rfl⟩ := List.mem_map.1 (List.mem_of_mem_take (List.mem_of_mem_drop hr)); rfl), by simp [D.flatRows, D.flat]⟩)).a [.pro 2, .fl true]).rts hΓ (D.fr 3 1 ((([] : List (List D))) ++ ((a0_).map ixx))) (by first | rfl | (simp only [mA] <;> rfl))
end Go.Cx
