/- What functions of the program compute, and the walks that show it. No condition. -/
import Derived.Test.YtdckcgjimblpkaaDoorPShapesNFn1
namespace Go.Cx
open Go.RowKit Go.Proofs
set_option linter.unusedVariables false
set_option linter.unusedSimpArgs false
set_option maxRecDepth 100000
variable {Γ : Ctx} {N : Nat → St → Prop}
def d_laws_big (a0_ : List Int) : Option Bool := (some (decide (((((a0_).map yx).length : Int) : Int) > (4096))))
theorem d_laws_big_good {a0_ : List Int} {r : Bool} (h : d_laws_big a0_ = some r) : Good Tryd.prog 5 [D.sl ((a0_).map yx)] (D.bool (r)) := by
  refine gd Tryd.func5 [[none]] 6 fun hr Γ hΓ => ?_
  rw [d_laws_big] at h
  cases h; exact pre0.ret hΓ
def d_laws_FnShapes (a0_ : List Int) : Option Bool := ((d_laws_big (a0_)).bind fun y1 => (bif y1 then (some (true)) else ((d_spec_DrawShapeOf (a0_)).bind fun y4 => ((d_impl_ShapeOf (y4)).bind fun y6 => ((d_impl_ShapeOf (y6)).bind fun y8 => ((d_impl_SamePattern (y8) (y6)).bind fun y10 => (bif !(y10) then (some (false)) else ((d_spec_IsPattern (y4)).bind fun y13 => (bif !(y13) then (some (true)) else ((d_impl_CoversPattern (y4) (y6)).bind fun y16 => (bif y16 then ((d_impl_CoversPattern (y6) (y4)).bind fun y19 => (some (y19))) else (some (false)))))))))))))
theorem d_laws_FnShapes_good {a0_ : List Int} {r : Bool} (h : d_laws_FnShapes a0_ = some r) : Good Tryd.prog 3 [D.sl ((a0_).map yx)] (D.bool (r)) := by
  refine gd Tryd.func3 [[none]] 29 fun hr Γ hΓ => ?_
  rw [d_laws_FnShapes] at h
  obtain ⟨y1, h2, h⟩ := den_bind h
  obtain ⟨h3, h⟩ | ⟨h3, h⟩ := den_if h
  · have h := den_some h; subst h; exact ((pre0.g (d_laws_big_good h2)).b h3).ret hΓ
  · obtain ⟨y4, h5, h⟩ := den_bind h
    obtain ⟨y6, h7, h⟩ := den_bind h
    obtain ⟨y8, h9, h⟩ := den_bind h
    obtain ⟨y10, h11, h⟩ := den_bind h
    have o1_ := (((((((pre0.g (d_laws_big_good h2)).b h3).g (d_spec_DrawShapeOf_good h5)).g (d_impl_ShapeOf_good h7)).a [.n 3]).g (d_impl_ShapeOf_good h9)).g (d_impl_SamePattern_good h11))
    obtain ⟨h12, h⟩ | ⟨h12, h⟩ := den_if h
    · have h := den_some h; subst h; exact (o1_.b h12).ret hΓ
    · obtain ⟨y13, h14, h⟩ := den_bind h
      have o2_ := ((o1_.b h12).g (d_spec_IsPattern_good h14))
      obtain ⟨h15, h⟩ | ⟨h15, h⟩ := den_if h
      · have h := den_some h; subst h; exact (((o2_.r 4 h15).a [bF, bF, bF]).r 2 h15).ret hΓ
      · obtain ⟨y16, h17, h⟩ := den_bind h
        have o3_ := (((o2_.r 3 h15).g (d_impl_CoversPattern_good h17)).b h15)
        obtain ⟨h18, h⟩ | ⟨h18, h⟩ := den_if h
        · obtain ⟨y19, h20, h⟩ := den_bind h
          have h := den_some h; subst h; exact (((((o3_.r 3 h18).g (d_impl_CoversPattern_good h20)).b h15).b h18).b h15).ret hΓ
        · have h := den_some h; subst h; exact ((((o3_.r 3 h18).b h15).b h18).b h15).ret hΓ
end Go.Cx
