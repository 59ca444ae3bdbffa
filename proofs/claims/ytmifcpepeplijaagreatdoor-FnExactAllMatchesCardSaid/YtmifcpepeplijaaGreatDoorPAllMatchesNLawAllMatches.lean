/- What functions of the program compute, and the walks that show it. No condition. -/
import Derived.Test.YtmifcpepeplijaaGreatDoorPAllMatchesNFn2
import Derived.Test.YtmifcpepeplijaaGreatDoorPAllMatchesNSz
import Derived.Test.YtmifcpepeplijaaGreatDoorPAllMatchesNTo
import Derived.Test.YtmifcpepeplijaaGreatDoorPAllMatchesNEq
import Derived.Test.YtmifcpepeplijaaGreatDoorPAllMatchesNMk
import Derived.Test.YtmifcpepeplijaaGreatDoorPAllMatchesNHd
namespace Go.Cx
open Go.RowKit Go.Proofs
set_option linter.unusedVariables false
set_option linter.unusedSimpArgs false
set_option maxRecDepth 100000
variable {Γ : Ctx} {N : Nat → St → Prop}
def d_laws_FnExactAllMatches (a0_ : List Rule) (a1_ : List Fact) : Option Bool := ((d_laws_szRuleS (a0_) (1048576)).bind fun y1 => (bif decide ((y1 : Int) < (0)) then (some (true)) else ((d_laws_szFactS (a1_) (y1)).bind fun y4 => (bif decide ((y4 : Int) < (0)) then (some (true)) else ((d_laws_toRuleS (a0_)).bind fun y7 => ((d_laws_toFactS (a1_)).bind fun y9 => ((d_spec_AllMatches (y7) (y9)).bind fun y11 => ((d_laws_toRuleS (a0_)).bind fun y13 => ((d_laws_toFactS (a1_)).bind fun y15 => ((d_impl_AllMatches (y13) (y15)).bind fun y17 => ((d_laws_eqMatchS (y17) (y11)).bind fun y19 => (bif !(y19) then (some (false)) else ((d_laws_toRuleS (a0_)).bind fun y22 => ((d_laws_eqRuleS (y13) (y22)).bind fun y24 => (bif !(y24) then (some (false)) else ((d_laws_toFactS (a1_)).bind fun y27 => ((d_laws_eqFactS (y15) (y27)).bind fun y29 => (bif !(y29) then (some (false)) else ((d_laws_markRuleS (y13) (1)).bind fun y32 => ((d_laws_markFactS (y15) (y32.2)).bind fun y34 => (bif decide ((y34.2 : Int) < (0)) then (some (false)) else ((d_laws_eqMatchS (y17) (y11)).bind fun y37 => (bif !(y37) then (some (false)) else ((d_laws_markMatchS (y17) (1)).bind fun y40 => ((d_laws_heldMatchS (y40.1) (1)).bind fun y42 => (bif decide ((y42 : Int) < (0)) then (some (false)) else (bif (y42 : Int) != (y40.2) then (some (false)) else ((d_laws_toRuleS (a0_)).bind fun y46 => ((d_laws_toFactS (a1_)).bind fun y48 => ((d_impl_AllMatches (y46) (y48)).bind fun y50 => ((d_laws_eqMatchS (y50) (y11)).bind fun y52 => (bif !(y52) then (some (false)) else ((d_laws_heldMatchS (y40.1) (1)).bind fun y55 => (bif decide ((y55 : Int) < (0)) then (some (false)) else (bif (y55 : Int) != (y40.2) then (some (false)) else (some (true)))))))))))))))))))))))))))))))))))))
theorem d_laws_FnExactAllMatches_good {a0_ : List Rule} {a1_ : List Fact} {r : Bool} (h : d_laws_FnExactAllMatches a0_ a1_ = some r) : Good Tryz.prog 7 [D.sl ((a0_).map Rule.c), D.sl ((a1_).map Fact.c)] (D.bool (r)) := by
  refine gd Tryz.func7 [[none]] 92 fun hr Γ hΓ => ?_
  rw [d_laws_FnExactAllMatches] at h
  obtain ⟨y1, h2, h⟩ := den_bind h
  obtain ⟨h3, h⟩ | ⟨h3, h⟩ := den_if h
  · have h := den_some h; subst h; exact (((pre0.a [.dc (D.int .i64 (y1))]).w (d_laws_szRuleS_good h2)).b h3).ret hΓ
  · obtain ⟨y4, h5, h⟩ := den_bind h
    have o1_ := (((((pre0.a [.dc (D.int .i64 (y1))]).w (d_laws_szRuleS_good h2)).b h3).a [.dc (D.int .i64 (y4))]).w (d_laws_szFactS_good h5))
    obtain ⟨h6, h⟩ | ⟨h6, h⟩ := den_if h
    · have h := den_some h; subst h; exact (o1_.b h6).ret hΓ
    · obtain ⟨y7, h8, h⟩ := den_bind h
      obtain ⟨y9, h10, h⟩ := den_bind h
      obtain ⟨y11, h12, h⟩ := den_bind h
      obtain ⟨y13, h14, h⟩ := den_bind h
      obtain ⟨y15, h16, h⟩ := den_bind h
      obtain ⟨y17, h18, h⟩ := den_bind h
      obtain ⟨y19, h20, h⟩ := den_bind h
      have o2_ := ((((((((((((o1_.b h6).g (Good.sh (d_laws_toRuleS_good h8))).g (Good.sh (d_laws_toFactS_good h10))).g (d_spec_AllMatches_good h12)).a [.dc (D.fr 27 4 ((y13).map Rule.c))]).w (d_laws_toRuleS_good h14)).a [.dc (D.fr 42 2 ((y15).map Fact.c))]).w (d_laws_toFactS_good h16)).a [.dc (D.fr 41 3 ((y17).map Match.c))]).w (d_impl_AllMatches_good h18)).a [.dc (D.bool (y19))]).w (d_laws_eqMatchS_good h20))
      obtain ⟨h21, h⟩ | ⟨h21, h⟩ := den_if h
      · have h := den_some h; subst h; exact (o2_.b h21).ret hΓ
      · obtain ⟨y22, h23, h⟩ := den_bind h
        obtain ⟨y24, h25, h⟩ := den_bind h
        have o3_ := (((((o2_.b h21).a [.dc (D.fr 27 4 ((y22).map Rule.c))]).w (d_laws_toRuleS_good h23)).a [.dc (D.bool (y24))]).w (d_laws_eqRuleS_good h25))
        obtain ⟨h26, h⟩ | ⟨h26, h⟩ := den_if h
        · have h := den_some h; subst h; exact (o3_.b h26).ret hΓ
        · obtain ⟨y27, h28, h⟩ := den_bind h
          obtain ⟨y29, h30, h⟩ := den_bind h
          have o4_ := (((((o3_.b h26).a [.dc (D.fr 42 2 ((y27).map Fact.c))]).w (d_laws_toFactS_good h28)).a [.dc (D.bool (y29))]).w (d_laws_eqFactS_good h30))
          obtain ⟨h31, h⟩ | ⟨h31, h⟩ := den_if h
          · have h := den_some h; subst h; exact (o4_.b h31).ret hΓ
          · obtain ⟨y32, h33, h⟩ := den_bind h
            obtain ⟨y34, h35, h⟩ := den_bind h
            have o5_ := ((((o4_.b h31).w (d_laws_markRuleS_good h33)).w (d_laws_markFactS_good h35)).a [.gv [0] [(4, (y32.1).map Rule.c)] (D.int .i64 (y32.2)), .gv [1] [(2, (y34.1).map Fact.c)] (D.int .i64 (y34.2))])
            obtain ⟨h36, h⟩ | ⟨h36, h⟩ := den_if h
            · have h := den_some h; subst h; exact ((o5_.r 5 h36).T 1).ret hΓ
            · obtain ⟨y37, h38, h⟩ := den_bind h
              have o6_ := ((((o5_.r 3 h36).a [.dc (D.bool (y37))]).w (d_laws_eqMatchS_good h38)).r 2 h36)
              obtain ⟨h39, h⟩ | ⟨h39, h⟩ := den_if h
              · have h := den_some h; subst h; exact (o6_.b h39).ret hΓ
              · obtain ⟨y40, h41, h⟩ := den_bind h
                obtain ⟨y42, h43, h⟩ := den_bind h
                have o7_ := ((((o6_.b h39).w (d_laws_markMatchS_good h41)).a [.gv [2] [(3, (y40.1).map Match.c)] (D.int .i64 (y40.2)), .dc (D.int .i64 (y42))]).w (d_laws_heldMatchS_good h43))
                obtain ⟨h44, h⟩ | ⟨h44, h⟩ := den_if h
                · have h := den_some h; subst h; exact (o7_.b h44).ret hΓ
                · obtain ⟨h45, h⟩ | ⟨h45, h⟩ := den_if h
                  · have h := den_some h; subst h; exact ((o7_.b h44).b h45).ret hΓ
                  · obtain ⟨y46, h47, h⟩ := den_bind h
                    obtain ⟨y48, h49, h⟩ := den_bind h
                    obtain ⟨y50, h51, h⟩ := den_bind h
                    obtain ⟨y52, h53, h⟩ := den_bind h
                    have o8_ := ((((((((((o7_.b h44).b h45).a [.dc (D.fr 27 4 ((y46).map Rule.c))]).w (d_laws_toRuleS_good h47)).a [.dc (D.fr 42 2 ((y48).map Fact.c))]).w (d_laws_toFactS_good h49)).a [.dc (D.fr 41 3 ((y50).map Match.c))]).w (d_impl_AllMatches_good h51)).a [.dc (D.bool (y52))]).w (d_laws_eqMatchS_good h53))
                    obtain ⟨h54, h⟩ | ⟨h54, h⟩ := den_if h
                    · have h := den_some h; subst h; exact (o8_.b h54).ret hΓ
                    · obtain ⟨y55, h56, h⟩ := den_bind h
                      have o9_ := (((o8_.b h54).a [.dc (D.int .i64 (y55))]).w (d_laws_heldMatchS_good h56))
                      obtain ⟨h57, h⟩ | ⟨h57, h⟩ := den_if h
                      · have h := den_some h; subst h; exact (o9_.b h57).ret hΓ
                      · obtain ⟨h58, h⟩ | ⟨h58, h⟩ := den_if h
                        · have h := den_some h; subst h; exact ((o9_.b h57).b h58).ret hΓ
                        · have h := den_some h; subst h; exact ((o9_.b h57).b h58).ret hΓ
end Go.Cx
