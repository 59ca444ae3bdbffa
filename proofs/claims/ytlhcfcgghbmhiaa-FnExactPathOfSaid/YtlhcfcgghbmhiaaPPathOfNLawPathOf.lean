/- What functions of the program compute, and the walks that show it. No condition. -/
import Derived.Test.YtlhcfcgghbmhiaaPPathOfNFn1
import Derived.Test.YtlhcfcgghbmhiaaPPathOfNSz
import Derived.Test.YtlhcfcgghbmhiaaPPathOfNTo
import Derived.Test.YtlhcfcgghbmhiaaPPathOfNEq
import Derived.Test.YtlhcfcgghbmhiaaPPathOfNMk
import Derived.Test.YtlhcfcgghbmhiaaPPathOfNHd
namespace Go.Cx
open Go.RowKit Go.Proofs
set_option linter.unusedVariables false
set_option linter.unusedSimpArgs false
set_option maxRecDepth 100000
variable {Γ : Ctx} {N : Nat → St → Prop}
def d_laws_FnExactPathOf (a0_ : Network) (a1_ : Int) : Option Bool := ((d_laws_szNetwork (a0_) (1048576)).bind fun y1 => (bif decide ((y1 : Int) < (0)) then (some (true)) else ((d_laws_toNetwork (a0_)).bind fun y4 => ((d_spec_PathOf (y4) (a1_)).bind fun y6 => ((d_laws_toNetwork (a0_)).bind fun y8 => ((d_impl_PathOf (y8) (a1_)).bind fun y10 => ((d_laws_eqCondS (y10) (y6)).bind fun y12 => (bif !(y12) then (some (false)) else ((d_laws_toNetwork (a0_)).bind fun y15 => ((d_laws_eqNetwork (y8) (y15)).bind fun y17 => (bif !(y17) then (some (false)) else ((d_laws_markNetwork (y8) (1)).bind fun y20 => (bif decide ((y20.2 : Int) < (0)) then (some (false)) else ((d_laws_eqCondS (y10) (y6)).bind fun y23 => (bif !(y23) then (some (false)) else ((d_laws_markCondS (y10) (1)).bind fun y26 => ((d_laws_heldCondS (y26.1) (1)).bind fun y28 => (bif decide ((y28 : Int) < (0)) then (some (false)) else (bif (y28 : Int) != (y26.2) then (some (false)) else ((d_laws_toNetwork (a0_)).bind fun y32 => ((d_impl_PathOf (y32) (a1_)).bind fun y34 => ((d_laws_eqCondS (y34) (y6)).bind fun y36 => (bif !(y36) then (some (false)) else ((d_laws_heldCondS (y26.1) (1)).bind fun y39 => (bif decide ((y39 : Int) < (0)) then (some (false)) else (bif (y39 : Int) != (y26.2) then (some (false)) else (some (true))))))))))))))))))))))))))))
theorem d_laws_FnExactPathOf_good {a0_ : Network} {a1_ : Int} {r : Bool} (h : d_laws_FnExactPathOf a0_ a1_ = some r) : Good Try.prog 5 [D.agg (Network.c a0_), D.int .i64 (a1_)] (D.bool (r)) := by
  refine gd Try.func5 [[none]] 74 fun hr Γ hΓ => ?_
  rw [d_laws_FnExactPathOf] at h
  obtain ⟨y1, h2, h⟩ := den_bind h
  obtain ⟨h3, h⟩ | ⟨h3, h⟩ := den_if h
  · have h := den_some h; subst h; exact (((pre0.a [.dc (D.int .i64 (y1))]).w (d_laws_szNetwork_good h2)).b h3).ret hΓ
  · obtain ⟨y4, h5, h⟩ := den_bind h
    obtain ⟨y6, h7, h⟩ := den_bind h
    obtain ⟨y8, h9, h⟩ := den_bind h
    obtain ⟨y10, h11, h⟩ := den_bind h
    obtain ⟨y12, h13, h⟩ := den_bind h
    have o1_ := (((((((((((((pre0.a [.dc (D.int .i64 (y1))]).w (d_laws_szNetwork_good h2)).b h3).a [.dc (D.agg [D.fr 120 4 ((y4.rules).map Rule.c), D.fr 3 1 ((y4.ends).map ixx), D.fr 123 3 ((y4.alphas).map Alpha.c), D.fr 74 8 ((y4.nodes).map Node.c), D.fr 126 2 ((y4.facts).map Fact.c), D.int .i64 (y4.tries)])]).w (d_laws_toNetwork_good h5)).a [.dc (D.fr 70 5 ((y6).map Cond.c))]).w (d_spec_PathOf_good h7)).a [.dc (D.agg [D.fr 120 4 ((y8.rules).map Rule.c), D.fr 3 1 ((y8.ends).map ixx), D.fr 123 3 ((y8.alphas).map Alpha.c), D.fr 74 8 ((y8.nodes).map Node.c), D.fr 126 2 ((y8.facts).map Fact.c), D.int .i64 (y8.tries)])]).w (d_laws_toNetwork_good h9)).a [.dc (D.fr 70 5 ((y10).map Cond.c))]).w (d_impl_PathOf_good h11)).a [.dc (D.bool (y12))]).w (d_laws_eqCondS_good h13))
    obtain ⟨h14, h⟩ | ⟨h14, h⟩ := den_if h
    · have h := den_some h; subst h; exact (o1_.b h14).ret hΓ
    · obtain ⟨y15, h16, h⟩ := den_bind h
      obtain ⟨y17, h18, h⟩ := den_bind h
      have o2_ := (((((o1_.b h14).a [.n 3]).g (d_laws_toNetwork_good h16)).a [.dc (D.bool (y17))]).w (d_laws_eqNetwork_good h18))
      obtain ⟨h19, h⟩ | ⟨h19, h⟩ := den_if h
      · have h := den_some h; subst h; exact (o2_.b h19).ret hΓ
      · obtain ⟨y20, h21, h⟩ := den_bind h
        have o3_ := (((o2_.b h19).w (d_laws_markNetwork_good h21)).a [.gv [7, 8, 9, 10, 11] [(4, (y20.1.rules).map Rule.c), (1, (y20.1.ends).map ixx), (3, (y20.1.alphas).map Alpha.c), (8, (y20.1.nodes).map Node.c), (2, (y20.1.facts).map Fact.c)] (D.int .i64 (y20.2))])
        obtain ⟨h22, h⟩ | ⟨h22, h⟩ := den_if h
        · have h := den_some h; subst h; exact ((o3_.r 5 h22).T 1).ret hΓ
        · obtain ⟨y23, h24, h⟩ := den_bind h
          have o4_ := ((((o3_.r 3 h22).a [.dc (D.bool (y23))]).w (d_laws_eqCondS_good h24)).r 2 h22)
          obtain ⟨h25, h⟩ | ⟨h25, h⟩ := den_if h
          · have h := den_some h; subst h; exact (o4_.b h25).ret hΓ
          · obtain ⟨y26, h27, h⟩ := den_bind h
            obtain ⟨y28, h29, h⟩ := den_bind h
            have o5_ := ((((o4_.b h25).w (d_laws_markCondS_good h27)).a [.gv [13] [(5, (y26.1).map Cond.c)] (D.int .i64 (y26.2)), .dc (D.int .i64 (y28))]).w (d_laws_heldCondS_good h29))
            obtain ⟨h30, h⟩ | ⟨h30, h⟩ := den_if h
            · have h := den_some h; subst h; exact (o5_.b h30).ret hΓ
            · obtain ⟨h31, h⟩ | ⟨h31, h⟩ := den_if h
              · have h := den_some h; subst h; exact ((o5_.b h30).b h31).ret hΓ
              · obtain ⟨y32, h33, h⟩ := den_bind h
                obtain ⟨y34, h35, h⟩ := den_bind h
                obtain ⟨y36, h37, h⟩ := den_bind h
                have o6_ := ((((((((o5_.b h30).b h31).a [.dc (D.agg [D.fr 120 4 ((y32.rules).map Rule.c), D.fr 3 1 ((y32.ends).map ixx), D.fr 123 3 ((y32.alphas).map Alpha.c), D.fr 74 8 ((y32.nodes).map Node.c), D.fr 126 2 ((y32.facts).map Fact.c), D.int .i64 (y32.tries)])]).w (d_laws_toNetwork_good h33)).a [.dc (D.fr 70 5 ((y34).map Cond.c))]).w (d_impl_PathOf_good h35)).a [.dc (D.bool (y36))]).w (d_laws_eqCondS_good h37))
                obtain ⟨h38, h⟩ | ⟨h38, h⟩ := den_if h
                · have h := den_some h; subst h; exact (o6_.b h38).ret hΓ
                · obtain ⟨y39, h40, h⟩ := den_bind h
                  have o7_ := (((o6_.b h38).a [.dc (D.int .i64 (y39))]).w (d_laws_heldCondS_good h40))
                  obtain ⟨h41, h⟩ | ⟨h41, h⟩ := den_if h
                  · have h := den_some h; subst h; exact (o7_.b h41).ret hΓ
                  · obtain ⟨h42, h⟩ | ⟨h42, h⟩ := den_if h
                    · have h := den_some h; subst h; exact ((o7_.b h41).b h42).ret hΓ
                    · have h := den_some h; subst h; exact ((o7_.b h41).b h42).ret hΓ
end Go.Cx
