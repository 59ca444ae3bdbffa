/- What functions of the program compute, and the walks that show it. No condition. -/
import Derived.Test.YteddjemiikgheaaGreatDoorPSharedNodesNFn2
import Derived.Test.YteddjemiikgheaaGreatDoorPSharedNodesNSz
import Derived.Test.YteddjemiikgheaaGreatDoorPSharedNodesNTo
import Derived.Test.YteddjemiikgheaaGreatDoorPSharedNodesNEq
import Derived.Test.YteddjemiikgheaaGreatDoorPSharedNodesNMk
import Derived.Test.YteddjemiikgheaaGreatDoorPSharedNodesNHd
namespace Go.Cx
open Go.RowKit Go.Proofs
set_option linter.unusedVariables false
set_option linter.unusedSimpArgs false
set_option maxRecDepth 100000
variable {Γ : Ctx} {N : Nat → St → Prop}
def d_laws_FnExactSharedNodes (a0_ : List Rule) : Option Bool := ((d_laws_szRuleS (a0_) (1048576)).bind fun y1 => (bif decide ((y1 : Int) < (0)) then (some (true)) else ((d_laws_toRuleS (a0_)).bind fun y4 => ((d_spec_SharedNodes (y4)).bind fun y6 => ((d_laws_toRuleS (a0_)).bind fun y8 => ((d_impl_SharedNodes (y8)).bind fun y10 => (bif (y10 : Int) != (y6) then (some (false)) else ((d_laws_toRuleS (a0_)).bind fun y13 => ((d_laws_eqRuleS (y8) (y13)).bind fun y15 => (bif !(y15) then (some (false)) else (some (true))))))))))))
theorem d_laws_FnExactSharedNodes_good {a0_ : List Rule} {r : Bool} (h : d_laws_FnExactSharedNodes a0_ = some r) : Good Tryz.prog 4 [D.sl ((a0_).map Rule.c)] (D.bool (r)) := by
  refine gd Tryz.func4 [[none]] 27 fun hr Γ hΓ => ?_
  rw [d_laws_FnExactSharedNodes] at h
  obtain ⟨y1, h2, h⟩ := den_bind h
  obtain ⟨h3, h⟩ | ⟨h3, h⟩ := den_if h
  · have h := den_some h; subst h; exact (((pre0.a [.dc (D.int .i64 (y1))]).w (d_laws_szRuleS_good h2)).b h3).ret hΓ
  · obtain ⟨y4, h5, h⟩ := den_bind h
    obtain ⟨y6, h7, h⟩ := den_bind h
    obtain ⟨y8, h9, h⟩ := den_bind h
    obtain ⟨y10, h11, h⟩ := den_bind h
    have o1_ := (((((((((((pre0.a [.dc (D.int .i64 (y1))]).w (d_laws_szRuleS_good h2)).b h3).a [.dc (D.fr 31 4 ((y4).map Rule.c))]).w (d_laws_toRuleS_good h5)).a [.dc (D.int .i64 (y6))]).w (d_spec_SharedNodes_good h7)).a [.dc (D.fr 31 4 ((y8).map Rule.c))]).w (d_laws_toRuleS_good h9)).a [.dc (D.int .i64 (y10))]).w (d_impl_SharedNodes_good h11))
    obtain ⟨h12, h⟩ | ⟨h12, h⟩ := den_if h
    · have h := den_some h; subst h; exact (o1_.b h12).ret hΓ
    · obtain ⟨y13, h14, h⟩ := den_bind h
      obtain ⟨y15, h16, h⟩ := den_bind h
      have o2_ := (((((o1_.b h12).a [.dc (D.fr 31 4 ((y13).map Rule.c))]).w (d_laws_toRuleS_good h14)).a [.dc (D.bool (y15))]).w (d_laws_eqRuleS_good h16))
      obtain ⟨h17, h⟩ | ⟨h17, h⟩ := den_if h
      · have h := den_some h; subst h; exact (o2_.b h17).ret hΓ
      · have h := den_some h; subst h; exact (o2_.b h17).ret hΓ
end Go.Cx
