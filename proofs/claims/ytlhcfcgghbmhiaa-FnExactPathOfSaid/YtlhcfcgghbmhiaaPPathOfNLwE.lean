/- Numbers as texts, and plain names of variables, in plain words: of the program and of the reference. No condition but bounds on sizes. -/
import Derived.Test.YtlhcfcgghbmhiaaPPathOfNLwB
import Derived.Lib.ItoaNum
import Derived.Lib.ItoaLen
namespace Go.Cx
open Go.RowKit Go.Proofs
set_option linter.unusedVariables false
set_option linter.unusedSimpArgs false
/-! renaming -/
def rnB (to : List Pair) (s : Bytes) : Bytes := match to with
  | [] => s
  | p :: r => bif p.var == s then p.value else rnB r s
def renC (to : List Pair) (x : Cond) : Cond := ⟨x.kind, ⟨x.pat.rel, x.pat.args.map (rnB to)⟩, rnB to x.left, rnB to x.right⟩
theorem sRn (to : List Pair) (s : Bytes) : d_spec_l4Renamed s to = some (rnB to s) := by
  unfold d_spec_l4Renamed
  have : ∀ (r : List Pair) (i : Nat), d_spec_l4Renamed_L1 s to (some s) r i = some (rnB r s) := by
    intro r
    induction r with
    | nil => intro i; rfl
    | cons x r ih =>
      intro i
      rw [d_spec_l4Renamed_L1, ih, rnB]
      cases x.var == s <;> rfl
  exact this to 0
theorem sRen (x : Cond) (to : List Pair) (h : x.pat.args.length ≤ 1099511627770) : d_spec_RenameCond x to = some (renC to x) := by
  unfold d_spec_RenameCond
  rw [sRn, Option.bind_some, sRn, Option.bind_some]
  rw [mapL (c := tx) (b := 16) (f := fun a => d_spec_l4Renamed a to) (g := rnB to) (L := d_spec_RenameCond_L1 x to (rnB to x.left) (rnB to x.right) _) (k := _) (by decide) (fun _ _ => rfl) (fun _ _ _ _ => rfl) _ _ _ (fun a _ => sRn to a) (by simp; omega)]
  rfl
/-! plain names -/
end Go.Cx
