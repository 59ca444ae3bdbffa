/- What functions of the program compute, and the walks that show it. No condition. -/
import Derived.Test.YtdckcgjimblpkaaGreatDoorPPlainTriesNFn2
import Derived.Test.YtdckcgjimblpkaaGreatDoorPPlainTriesNSz
import Derived.Test.YtdckcgjimblpkaaGreatDoorPPlainTriesNTo
import Derived.Test.YtdckcgjimblpkaaGreatDoorPPlainTriesNEq
import Derived.Test.YtdckcgjimblpkaaGreatDoorPPlainTriesNMk
import Derived.Test.YtdckcgjimblpkaaGreatDoorPPlainTriesNHd
namespace Go.Cx
open Go.RowKit Go.Proofs
set_option linter.unusedVariables false
set_option linter.unusedSimpArgs false
set_option maxRecDepth 100000
variable {Γ : Ctx} {N : Nat → St → Prop}
def d_laws_FnExactPlainTries (a0_ : List Rule) (a1_ : List Fact) : Option Bool := ((d_laws_szRuleS (a0_) (1048576)).bind fun y1 => (bif decide ((y1 : Int) < (0)) then (some (true)) else ((d_laws_szFactS (a1_) (y1)).bind fun y4 => (bif decide ((y4 : Int) < (0)) then (some (true)) else ((d_laws_toRuleS (a0_)).bind fun y7 => ((d_laws_toFactS (a1_)).bind fun y9 => ((d_spec_PlainTries (y7) (y9)).bind fun y11 => ((d_laws_toRuleS (a0_)).bind fun y13 => ((d_laws_toFactS (a1_)).bind fun y15 => ((d_impl_PlainTries (y13) (y15)).bind fun y17 => (bif (y17 : Int) != (y11) then (some (false)) else ((d_laws_toRuleS (a0_)).bind fun y20 => ((d_laws_eqRuleS (y13) (y20)).bind fun y22 => (bif !(y22) then (some (false)) else ((d_laws_toFactS (a1_)).bind fun y25 => ((d_laws_eqFactS (y15) (y25)).bind fun y27 => (bif !(y27) then (some (false)) else (some (true)))))))))))))))))))
theorem d_laws_FnExactPlainTries_good {a0_ : List Rule} {a1_ : List Fact} {r : Bool} (h : d_laws_FnExactPlainTries a0_ a1_ = some r) : Good Tryz.prog 7 [D.sl ((a0_).map Rule.c), D.sl ((a1_).map Fact.c)] (D.bool (r)) := by
  refine gd Tryz.func7 45 fun hr Γ hΓ => ?_
  rw [d_laws_FnExactPlainTries] at h
  obtain ⟨y1, h2, h⟩ := den_bind h
  obtain ⟨h3, h⟩ | ⟨h3, h⟩ := den_if h
  · have h := den_some h; subst h; exact (((pre0.w (d_laws_szRuleS_good h2)).a [.dc (D.int .i64 (y1))]).b h3).ret [[none]] hΓ
  · obtain ⟨y4, h5, h⟩ := den_bind h
    have o1_ := (((((pre0.w (d_laws_szRuleS_good h2)).a [.dc (D.int .i64 (y1))]).b h3).w (d_laws_szFactS_good h5)).a [.dc (D.int .i64 (y4))])
    obtain ⟨h6, h⟩ | ⟨h6, h⟩ := den_if h
    · have h := den_some h; subst h; exact (o1_.b h6).ret [[none]] hΓ
    · obtain ⟨y7, h8, h⟩ := den_bind h
      obtain ⟨y9, h10, h⟩ := den_bind h
      obtain ⟨y11, h12, h⟩ := den_bind h
      obtain ⟨y13, h14, h⟩ := den_bind h
      obtain ⟨y15, h16, h⟩ := den_bind h
      obtain ⟨y17, h18, h⟩ := den_bind h
      have o2_ := ((((((((o1_.b h6).w (d_laws_toRuleS_good h8)).w (d_laws_toFactS_good h10)).w (d_spec_PlainTries_good h12)).w (d_laws_toRuleS_good h14)).w (d_laws_toFactS_good h16)).w (d_impl_PlainTries_good h18)).a [.dc (D.fr 49 4 ((y7).map Rule.c)), .dc (D.fr 111 2 ((y9).map Fact.c)), .dc (D.int .i64 (y11)), .dc (D.fr 49 4 ((y13).map Rule.c)), .dc (D.fr 111 2 ((y15).map Fact.c)), .dc (D.int .i64 (y17))])
      obtain ⟨h19, h⟩ | ⟨h19, h⟩ := den_if h
      · have h := den_some h; subst h; exact (o2_.b h19).ret [[none]] hΓ
      · obtain ⟨y20, h21, h⟩ := den_bind h
        obtain ⟨y22, h23, h⟩ := den_bind h
        have o3_ := ((((o2_.b h19).w (d_laws_toRuleS_good h21)).w (d_laws_eqRuleS_good h23)).a [.dc (D.fr 49 4 ((y20).map Rule.c)), .dc (D.bool (y22))])
        obtain ⟨h24, h⟩ | ⟨h24, h⟩ := den_if h
        · have h := den_some h; subst h; exact (o3_.b h24).ret [[none]] hΓ
        · obtain ⟨y25, h26, h⟩ := den_bind h
          obtain ⟨y27, h28, h⟩ := den_bind h
          have o4_ := ((((o3_.b h24).w (d_laws_toFactS_good h26)).w (d_laws_eqFactS_good h28)).a [.dc (D.fr 111 2 ((y25).map Fact.c)), .dc (D.bool (y27))])
          obtain ⟨h29, h⟩ | ⟨h29, h⟩ := den_if h
          · have h := den_some h; subst h; exact (o4_.b h29).ret [[none]] hΓ
          · have h := den_some h; subst h; exact (o4_.b h29).ret [[none]] hΓ
end Go.Cx
