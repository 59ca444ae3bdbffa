/- What functions of the program compute, and the walks that show it. No condition. -/
import Derived.Test.YtdckcgjimblpkaaGreatDoorPFormatRuleNFn1
import Derived.Test.YtdckcgjimblpkaaGreatDoorPFormatRuleNSz
import Derived.Test.YtdckcgjimblpkaaGreatDoorPFormatRuleNTo
import Derived.Test.YtdckcgjimblpkaaGreatDoorPFormatRuleNEq
import Derived.Test.YtdckcgjimblpkaaGreatDoorPFormatRuleNMk
import Derived.Test.YtdckcgjimblpkaaGreatDoorPFormatRuleNHd
namespace Go.Cx
open Go.RowKit Go.Proofs
set_option linter.unusedVariables false
set_option linter.unusedSimpArgs false
set_option maxRecDepth 100000
variable {Γ : Ctx} {N : Nat → St → Prop}
def d_laws_FnExactFormatRule (a0_ : Rule) : Option Bool := ((d_laws_szRule (a0_) (1048576)).bind fun y1 => (bif decide ((y1 : Int) < (0)) then (some (true)) else ((d_laws_toRule (a0_)).bind fun y4 => ((d_spec_FormatRule (y4)).bind fun y6 => ((d_laws_toRule (a0_)).bind fun y8 => ((d_impl_FormatRule (y8)).bind fun y10 => (bif !((y10 : Bytes) == (y6)) then (some (false)) else ((d_laws_toRule (a0_)).bind fun y13 => ((d_laws_eqRule (y8) (y13)).bind fun y15 => (bif !(y15) then (some (false)) else (some (true))))))))))))
theorem d_laws_FnExactFormatRule_good {a0_ : Rule} {r : Bool} (h : d_laws_FnExactFormatRule a0_ = some r) : Good Tryz.prog 4 [D.agg (Rule.c a0_)] (D.bool (r)) := by
  refine gd Tryz.func4 [[none]] 27 fun hr Γ hΓ => ?_
  rw [d_laws_FnExactFormatRule] at h
  obtain ⟨y1, h2, h⟩ := den_bind h
  obtain ⟨h3, h⟩ | ⟨h3, h⟩ := den_if h
  · have h := den_some h; subst h; exact (((pre0.w (d_laws_szRule_good h2)).a [.dc (D.int .i64 (y1))]).b h3).ret hΓ
  · obtain ⟨y4, h5, h⟩ := den_bind h
    obtain ⟨y6, h7, h⟩ := den_bind h
    obtain ⟨y8, h9, h⟩ := den_bind h
    obtain ⟨y10, h11, h⟩ := den_bind h
    have o1_ := ((((((((pre0.w (d_laws_szRule_good h2)).a [.dc (D.int .i64 (y1))]).b h3).w (d_laws_toRule_good h5)).w (d_spec_FormatRule_good h7)).w (d_laws_toRule_good h9)).w (d_impl_FormatRule_good h11)).a [.dc (D.agg [D.str (y4.name), D.int .i64 (y4.prio), D.fr 86 5 ((y4.conds).map Cond.c), D.fr 102 3 ((y4.acts).map Action.c)]), .dc (D.str (y6)), .dc (D.agg [D.str (y8.name), D.int .i64 (y8.prio), D.fr 86 5 ((y8.conds).map Cond.c), D.fr 102 3 ((y8.acts).map Action.c)]), .dc (D.str (y10))])
    obtain ⟨h12, h⟩ | ⟨h12, h⟩ := den_if h
    · have h := den_some h; subst h; exact (o1_.b h12).ret hΓ
    · obtain ⟨y13, h14, h⟩ := den_bind h
      obtain ⟨y15, h16, h⟩ := den_bind h
      have o2_ := (((((o1_.b h12).a [.n 3]).g (d_laws_toRule_good h14)).w (d_laws_eqRule_good h16)).a [.dc (D.bool (y15))])
      obtain ⟨h17, h⟩ | ⟨h17, h⟩ := den_if h
      · have h := den_some h; subst h; exact (o2_.b h17).ret hΓ
      · have h := den_some h; subst h; exact (o2_.b h17).ret hΓ
end Go.Cx
