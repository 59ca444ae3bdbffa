/- Comparing rules and networks, stamps and times, in plain words. No condition but bounds on sizes. -/
import Derived.Test.YtocmmccbfnhfpaaPTimesOfNLwC
namespace Go.Cx
open Go.RowKit Go.Proofs
set_option linter.unusedVariables false
set_option linter.unusedSimpArgs false
def timeB (f : Fact) : List Stamp → Int
  | [] => 0
  | x :: xs => bif decide (x.fact = f) then x.time else timeB f xs
theorem sTime (l : List Stamp) (f : Fact) : d_spec_TimeOf l f = some (timeB f l) := by
  unfold d_spec_TimeOf
  have : ∀ (r : List Stamp) (i : Nat), d_spec_TimeOf_L1 l f (some 0) r i = some (timeB f r) := by
    intro r
    induction r with
    | nil => intro i; rfl
    | cons x r ih => intro i; rw [d_spec_TimeOf_L1, sSameF, Option.bind_some, ih, timeB]; cases decide (x.fact = f) <;> rfl
  exact this l 0
theorem iTime (l : List Stamp) (f : Fact) : d_impl_TimeOf l f = some (timeB f l) := by
  unfold d_impl_TimeOf
  have : ∀ (r : List Stamp) (i : Nat), d_impl_TimeOf_L1 l f (some 0) r i = some (timeB f r) := by
    intro r
    induction r with
    | nil => intro i; rfl
    | cons x r ih => intro i; rw [d_impl_TimeOf_L1, iSameF, Option.bind_some, ih, timeB]; cases decide (x.fact = f) <;> rfl
  exact this l 0
theorem sTimes (l : List Stamp) (fs : List Fact) (h : fs.length ≤ 1048576) : d_spec_TimesOf l fs = some (fs.map fun f => timeB f l) := by
  unfold d_spec_TimesOf
  rw [mapL (c := ixx) (b := 8) (f := fun x => d_spec_TimeOf l x) (g := fun f => timeB f l) (L := d_spec_TimesOf_L1 l fs _) (by decide) (fun _ _ => rfl) (fun _ _ _ _ => rfl) fs 0 [] (fun x hx => sTime l x) (by simp; omega)]
  rfl
theorem iTimes (l : List Stamp) (fs : List Fact) (h : fs.length ≤ 1048576) : d_impl_TimesOf l fs = some (fs.map fun f => timeB f l) := by
  unfold d_impl_TimesOf
  rw [mapL (c := ixx) (b := 8) (f := fun x => d_impl_TimeOf l x) (g := fun f => timeB f l) (L := d_impl_TimesOf_L1 l fs _) (by decide) (fun _ _ => rfl) (fun _ _ _ _ => rfl) fs 0 [] (fun x hx => iTime l x) (by simp; omega)]
  rfl
end Go.Cx
