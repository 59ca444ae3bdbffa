/- What functions of the program compute, and the walks that show it. No condition. -/
import Derived.Test.YtdckcgjimblpkaaGreatDoorPIsMatchNFn2
import Derived.Test.YtdckcgjimblpkaaGreatDoorPIsMatchNSz
import Derived.Test.YtdckcgjimblpkaaGreatDoorPIsMatchNTo
import Derived.Test.YtdckcgjimblpkaaGreatDoorPIsMatchNEq
import Derived.Test.YtdckcgjimblpkaaGreatDoorPIsMatchNMk
import Derived.Test.YtdckcgjimblpkaaGreatDoorPIsMatchNHd
namespace Go.Cx
open Go.RowKit Go.Proofs
set_option linter.unusedVariables false
set_option linter.unusedSimpArgs false
set_option maxRecDepth 100000
variable {Γ : Ctx} {N : Nat → St → Prop}
def d_laws_FnExactIsMatch (a0_ : Rule) (a1_ : List Fact) (a2_ : Match) : Option Bool := ((d_laws_szRule (a0_) (1048576)).bind fun y1 => (bif decide ((y1 : Int) < (0)) then (some (true)) else ((d_laws_szFactS (a1_) (y1)).bind fun y4 => (bif decide ((y4 : Int) < (0)) then (some (true)) else ((d_laws_szMatch (a2_) (y4)).bind fun y7 => (bif decide ((y7 : Int) < (0)) then (some (true)) else ((d_laws_toRule (a0_)).bind fun y10 => ((d_laws_toFactS (a1_)).bind fun y12 => ((d_laws_toMatch (a2_)).bind fun y14 => ((d_spec_IsMatch (y10) (y12) (y14)).bind fun y16 => ((d_laws_toRule (a0_)).bind fun y18 => ((d_laws_toFactS (a1_)).bind fun y20 => ((d_laws_toMatch (a2_)).bind fun y22 => ((d_impl_IsMatch (y18) (y20) (y22)).bind fun y24 => (bif (y24 : Bool) != (y16) then (some (false)) else ((d_laws_toRule (a0_)).bind fun y27 => ((d_laws_eqRule (y18) (y27)).bind fun y29 => (bif !(y29) then (some (false)) else ((d_laws_toFactS (a1_)).bind fun y32 => ((d_laws_eqFactS (y20) (y32)).bind fun y34 => (bif !(y34) then (some (false)) else ((d_laws_toMatch (a2_)).bind fun y37 => ((d_laws_eqMatch (y22) (y37)).bind fun y39 => (bif !(y39) then (some (false)) else (some (true))))))))))))))))))))))))))
theorem d_laws_FnExactIsMatch_good {a0_ : Rule} {a1_ : List Fact} {a2_ : Match} {r : Bool} (h : d_laws_FnExactIsMatch a0_ a1_ a2_ = some r) : Good Tryz.prog 8 [D.agg (Rule.c a0_), D.sl ((a1_).map Fact.c), D.agg (Match.c a2_)] (D.bool (r)) := by
  refine gd Tryz.func8 63 fun hr Γ hΓ => ?_
  rw [d_laws_FnExactIsMatch] at h
  obtain ⟨y1, h2, h⟩ := den_bind h
  obtain ⟨h3, h⟩ | ⟨h3, h⟩ := den_if h
  · have h := den_some h; subst h; exact (((pre0.w (d_laws_szRule_good h2)).a [.dc (D.int .i64 (y1))]).b h3).ret [[none]] hΓ
  · obtain ⟨y4, h5, h⟩ := den_bind h
    have o1_ := (((((pre0.w (d_laws_szRule_good h2)).a [.dc (D.int .i64 (y1))]).b h3).w (d_laws_szFactS_good h5)).a [.dc (D.int .i64 (y4))])
    obtain ⟨h6, h⟩ | ⟨h6, h⟩ := den_if h
    · have h := den_some h; subst h; exact (o1_.b h6).ret [[none]] hΓ
    · obtain ⟨y7, h8, h⟩ := den_bind h
      have o2_ := (((o1_.b h6).w (d_laws_szMatch_good h8)).a [.dc (D.int .i64 (y7))])
      obtain ⟨h9, h⟩ | ⟨h9, h⟩ := den_if h
      · have h := den_some h; subst h; exact (o2_.b h9).ret [[none]] hΓ
      · obtain ⟨y10, h11, h⟩ := den_bind h
        obtain ⟨y12, h13, h⟩ := den_bind h
        obtain ⟨y14, h15, h⟩ := den_bind h
        obtain ⟨y16, h17, h⟩ := den_bind h
        obtain ⟨y18, h19, h⟩ := den_bind h
        obtain ⟨y20, h21, h⟩ := den_bind h
        obtain ⟨y22, h23, h⟩ := den_bind h
        obtain ⟨y24, h25, h⟩ := den_bind h
        have o3_ := (((((((((((o2_.b h9).a [.n 5]).g (d_laws_toRule_good h11)).g (d_laws_toFactS_good h13)).w (d_laws_toMatch_good h15)).w (d_spec_IsMatch_good h17)).w (d_laws_toRule_good h19)).w (d_laws_toFactS_good h21)).w (d_laws_toMatch_good h23)).w (d_impl_IsMatch_good h25)).a [.dc (D.agg [D.str (y14.rule), D.fr 111 2 ((y14.facts).map Fact.c), D.fr 179 2 ((y14.bind).map Pair.c)]), .dc (D.bool (y16)), .dc (D.agg [D.str (y18.name), D.int .i64 (y18.prio), D.fr 86 5 ((y18.conds).map Cond.c), D.fr 102 3 ((y18.acts).map Action.c)]), .dc (D.fr 111 2 ((y20).map Fact.c)), .dc (D.agg [D.str (y22.rule), D.fr 111 2 ((y22.facts).map Fact.c), D.fr 179 2 ((y22.bind).map Pair.c)]), .dc (D.bool (y24))])
        obtain ⟨h26, h⟩ | ⟨h26, h⟩ := den_if h
        · have h := den_some h; subst h; exact (o3_.b h26).ret [[none]] hΓ
        · obtain ⟨y27, h28, h⟩ := den_bind h
          obtain ⟨y29, h30, h⟩ := den_bind h
          have o4_ := (((((o3_.b h26).a [.n 3]).g (d_laws_toRule_good h28)).w (d_laws_eqRule_good h30)).a [.dc (D.bool (y29))])
          obtain ⟨h31, h⟩ | ⟨h31, h⟩ := den_if h
          · have h := den_some h; subst h; exact (o4_.b h31).ret [[none]] hΓ
          · obtain ⟨y32, h33, h⟩ := den_bind h
            obtain ⟨y34, h35, h⟩ := den_bind h
            have o5_ := ((((o4_.b h31).w (d_laws_toFactS_good h33)).w (d_laws_eqFactS_good h35)).a [.dc (D.fr 111 2 ((y32).map Fact.c)), .dc (D.bool (y34))])
            obtain ⟨h36, h⟩ | ⟨h36, h⟩ := den_if h
            · have h := den_some h; subst h; exact (o5_.b h36).ret [[none]] hΓ
            · obtain ⟨y37, h38, h⟩ := den_bind h
              obtain ⟨y39, h40, h⟩ := den_bind h
              have o6_ := (((((o5_.b h36).a [.n 3]).g (d_laws_toMatch_good h38)).w (d_laws_eqMatch_good h40)).a [.dc (D.bool (y39))])
              obtain ⟨h41, h⟩ | ⟨h41, h⟩ := den_if h
              · have h := den_some h; subst h; exact (o6_.b h41).ret [[none]] hΓ
              · have h := den_some h; subst h; exact (o6_.b h41).ret [[none]] hΓ
end Go.Cx
