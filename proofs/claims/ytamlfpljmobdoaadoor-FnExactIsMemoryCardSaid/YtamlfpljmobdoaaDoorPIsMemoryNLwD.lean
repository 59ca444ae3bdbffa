/- Comparing rules and networks, stamps and times, in plain words. No condition but bounds on sizes. -/
import Derived.Test.YtamlfpljmobdoaaDoorPIsMemoryNLwC
namespace Go.Cx
open Go.RowKit Go.Proofs
set_option linter.unusedVariables false
set_option linter.unusedSimpArgs false
theorem Stamp.fact_le {x : Stamp} {n : Nat} (h : x.wt ≤ n) : x.fact.wt ≤ n := by simp only [Stamp.wt, Fact.wt] at h ⊢; omega
theorem wtL_facts (l : List Stamp) : wtL Fact.wt (l.map Stamp.fact) ≤ wtL Stamp.wt l := by
  induction l with
  | nil => simp [wtL]
  | cons x l ih => rw [List.map_cons, wtL_cons, wtL_cons]; have := Stamp.fact_le (Nat.le_refl x.wt); omega
theorem sFactsIn (l : List Stamp) (h : wtL Stamp.wt l ≤ 1048576) : d_spec_FactsIn l = some (l.map Stamp.fact) := by
  unfold d_spec_FactsIn
  have hl := wtL_len Stamp.wt l
  rw [mapL (c := Fact.c) (b := 40) (f := fun x => d_spec_l2Copy x.fact) (g := Stamp.fact) (L := d_spec_FactsIn_L1 l _) (by decide) (fun _ _ => rfl) (fun _ _ _ _ => rfl) l 0 [] (fun x hx => sCopyF _ (by have := wtL_mem (w := Stamp.wt) hx; have := Fact.args_le (Stamp.fact_le (Nat.le_refl x.wt)); omega)) (by simp; omega)]
  rfl
theorem iFactsIn (l : List Stamp) (h : wtL Stamp.wt l ≤ 1048576) : d_impl_FactsIn l = some (l.map Stamp.fact) := by
  unfold d_impl_FactsIn
  have hl := wtL_len Stamp.wt l
  rw [mapL (c := Fact.c) (b := 40) (f := fun x => d_impl_copyFact x.fact) (g := Stamp.fact) (L := d_impl_FactsIn_L1 l _) (by decide) (fun _ _ => rfl) (fun _ _ _ _ => rfl) l 0 [] (fun x hx => iCopyF _ (by have := wtL_mem (w := Stamp.wt) hx; have := Fact.args_le (Stamp.fact_le (Nat.le_refl x.wt)); omega)) (by simp; omega)]
  rfl
end Go.Cx
