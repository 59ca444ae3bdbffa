/- FnShapes: a drawn pattern's shape is its own shape; a pattern and its shape cover each other. No condition. -/
import Derived.Test.YtdckcgjimblpkaaDoorPShapesNLwK
import Derived.Test.YtdckcgjimblpkaaDoorPShapesNLwJ
import Derived.Test.YtdckcgjimblpkaaDoorPShapesNLawFnShapes
namespace Go.Cx
open Go.RowKit Go.Proofs
namespace LawShapes
theorem shape_wt {k : Nat} {p : Fact} (h : SmallF k p) (hk : k ≤ 5) : (shapeB p).wt ≤ 1048576 := by
  refine SmallF.wt (k := k) ⟨h.1, ?_, ?_⟩ (by omega)
  · rw [shape_args, List.length_map]; exact h.2.1
  · intro x hx
    rw [shape_args] at hx
    obtain ⟨t, ht, rfl⟩ := List.mem_map.1 hx
    exact rn_len (by have := h.2.1; omega) (h.2.2 t ht)
theorem law_ok (code : List Int) : d_laws_FnShapes code = some true := by
  unfold d_laws_FnShapes d_laws_big
  rw [Option.bind_some, List.length_map]
  by_cases hl : (code.length : Int) > 4096
  · rw [decide_eq_true hl, cond_true]
  rw [decide_eq_false hl, cond_false]
  obtain ⟨p, ep, hp⟩ := sDrawShapeOf code (by omega)
  have hw := hp.wt (by decide)
  have hs := shape_wt hp (by decide)
  have h5 : p.args.length ≤ 5 := by have := hp.2.1; omega
  rw [ep, Option.bind_some, iShape p hw, Option.bind_some, iShape _ hs, Option.bind_some, shape_shape p h5, iSameP, Option.bind_some, decide_eq_true rfl, Bool.not_true, cond_false, sPat p hw, Option.bind_some]
  cases hb : patB p with
  | false => rfl
  | true =>
    obtain ⟨c1, c2⟩ := cover_shape p hb h5 hw hs
    rw [Bool.not_true, cond_false, c1, Option.bind_some, cond_true, c2, Option.bind_some]
theorem law_good (code : List Int) : Good Tryd.prog 3 [.sl (code.map yx)] (.bool true) := d_laws_FnShapes_good (law_ok code)
end LawShapes
end Go.Cx
