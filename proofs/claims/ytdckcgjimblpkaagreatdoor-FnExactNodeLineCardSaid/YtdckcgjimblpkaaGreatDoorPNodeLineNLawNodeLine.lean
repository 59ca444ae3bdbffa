/- What functions of the program compute, and the walks that show it. No condition. -/
import Derived.Test.YtdckcgjimblpkaaGreatDoorPNodeLineNFn1
import Derived.Test.YtdckcgjimblpkaaGreatDoorPNodeLineNSz
import Derived.Test.YtdckcgjimblpkaaGreatDoorPNodeLineNTo
import Derived.Test.YtdckcgjimblpkaaGreatDoorPNodeLineNEq
import Derived.Test.YtdckcgjimblpkaaGreatDoorPNodeLineNMk
import Derived.Test.YtdckcgjimblpkaaGreatDoorPNodeLineNHd
namespace Go.Cx
open Go.RowKit Go.Proofs
set_option linter.unusedVariables false
set_option linter.unusedSimpArgs false
set_option maxRecDepth 100000
variable {Γ : Ctx} {N : Nat → St → Prop}
def d_laws_FnExactNodeLine (a0_ : Network) (a1_ : Int) : Option Bool := ((d_laws_szNetwork (a0_) (1048576)).bind fun y1 => (bif decide ((y1 : Int) < (0)) then (some (true)) else ((d_laws_toNetwork (a0_)).bind fun y4 => ((d_spec_NodeLine (y4) (a1_)).bind fun y6 => ((d_laws_toNetwork (a0_)).bind fun y8 => ((d_impl_NodeLine (y8) (a1_)).bind fun y10 => (bif !((y10 : Bytes) == (y6)) then (some (false)) else ((d_laws_toNetwork (a0_)).bind fun y13 => ((d_laws_eqNetwork (y8) (y13)).bind fun y15 => (bif !(y15) then (some (false)) else (some (true))))))))))))
theorem d_laws_FnExactNodeLine_good {a0_ : Network} {a1_ : Int} {r : Bool} (h : d_laws_FnExactNodeLine a0_ a1_ = some r) : Good Tryz.prog 3 [D.agg (Network.c a0_), D.int .i64 (a1_)] (D.bool (r)) := by
  refine gd Tryz.func3 [[none]] 31 fun hr Γ hΓ => ?_
  rw [d_laws_FnExactNodeLine] at h
  obtain ⟨y1, h2, h⟩ := den_bind h
  obtain ⟨h3, h⟩ | ⟨h3, h⟩ := den_if h
  · have h := den_some h; subst h; exact (((pre0.w (d_laws_szNetwork_good h2)).a [.dc (D.int .i64 (y1))]).b h3).ret hΓ
  · obtain ⟨y4, h5, h⟩ := den_bind h
    obtain ⟨y6, h7, h⟩ := den_bind h
    obtain ⟨y8, h9, h⟩ := den_bind h
    obtain ⟨y10, h11, h⟩ := den_bind h
    have o1_ := ((((((((pre0.w (d_laws_szNetwork_good h2)).a [.dc (D.int .i64 (y1))]).b h3).w (d_laws_toNetwork_good h5)).w (d_spec_NodeLine_good h7)).w (d_laws_toNetwork_good h9)).w (d_impl_NodeLine_good h11)).a [.dc (D.agg [D.fr 49 4 ((y4.rules).map Rule.c), D.fr 3 1 ((y4.ends).map ixx), D.fr 140 3 ((y4.alphas).map Alpha.c), D.fr 89 8 ((y4.nodes).map Node.c), D.fr 111 2 ((y4.facts).map Fact.c), D.int .i64 (y4.tries)]), .dc (D.str (y6)), .dc (D.agg [D.fr 49 4 ((y8.rules).map Rule.c), D.fr 3 1 ((y8.ends).map ixx), D.fr 140 3 ((y8.alphas).map Alpha.c), D.fr 89 8 ((y8.nodes).map Node.c), D.fr 111 2 ((y8.facts).map Fact.c), D.int .i64 (y8.tries)]), .dc (D.str (y10))])
    obtain ⟨h12, h⟩ | ⟨h12, h⟩ := den_if h
    · have h := den_some h; subst h; exact (o1_.b h12).ret hΓ
    · obtain ⟨y13, h14, h⟩ := den_bind h
      obtain ⟨y15, h16, h⟩ := den_bind h
      have o2_ := (((((o1_.b h12).a [.n 3]).g (d_laws_toNetwork_good h14)).w (d_laws_eqNetwork_good h16)).a [.dc (D.bool (y15))])
      obtain ⟨h17, h⟩ | ⟨h17, h⟩ := den_if h
      · have h := den_some h; subst h; exact (o2_.b h17).ret hΓ
      · have h := den_some h; subst h; exact (o2_.b h17).ret hΓ
end Go.Cx
