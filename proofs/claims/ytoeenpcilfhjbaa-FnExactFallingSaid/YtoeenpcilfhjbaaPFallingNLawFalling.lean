/- What functions of the program compute, and the walks that show it. No condition. -/
import Derived.Test.YtoeenpcilfhjbaaPFallingNFn1
import Derived.Test.YtoeenpcilfhjbaaPFallingNSz
import Derived.Test.YtoeenpcilfhjbaaPFallingNTo
import Derived.Test.YtoeenpcilfhjbaaPFallingNEq
import Derived.Test.YtoeenpcilfhjbaaPFallingNMk
import Derived.Test.YtoeenpcilfhjbaaPFallingNHd
namespace Go.Cx
open Go.RowKit Go.Proofs
set_option linter.unusedVariables false
set_option linter.unusedSimpArgs false
set_option maxRecDepth 100000
variable {Γ : Ctx} {N : Nat → St → Prop}
def d_laws_FnExactFalling (a0_ : List Int) : Option Bool := (bif decide (((((a0_).map ixx).length : Int) : Int) > (1048576)) then (some (true)) else ((d_laws_toIntS (a0_)).bind fun y2 => ((d_spec_Falling (y2)).bind fun y4 => ((d_laws_toIntS (a0_)).bind fun y6 => ((d_impl_Falling (y6)).bind fun y8 => ((d_laws_eqIntS (y8) (y4)).bind fun y10 => (bif !(y10) then (some (false)) else ((d_laws_toIntS (a0_)).bind fun y13 => ((d_laws_eqIntS (y6) (y13)).bind fun y15 => (bif !(y15) then (some (false)) else ((d_laws_markIntS (y6) (1)).bind fun y18 => (bif decide ((y18.2 : Int) < (0)) then (some (false)) else ((d_laws_eqIntS (y8) (y4)).bind fun y21 => (bif !(y21) then (some (false)) else ((d_laws_markIntS (y8) (1)).bind fun y24 => ((d_laws_heldIntS (y24.1) (1)).bind fun y26 => (bif decide ((y26 : Int) < (0)) then (some (false)) else (bif (y26 : Int) != (y24.2) then (some (false)) else ((d_laws_toIntS (a0_)).bind fun y30 => ((d_impl_Falling (y30)).bind fun y32 => ((d_laws_eqIntS (y32) (y4)).bind fun y34 => (bif !(y34) then (some (false)) else ((d_laws_heldIntS (y24.1) (1)).bind fun y37 => (bif decide ((y37 : Int) < (0)) then (some (false)) else (bif (y37 : Int) != (y24.2) then (some (false)) else (some (true)))))))))))))))))))))))))))
theorem d_laws_FnExactFalling_good {a0_ : List Int} {r : Bool} (h : d_laws_FnExactFalling a0_ = some r) : Good Try.prog 4 [D.sl ((a0_).map ixx)] (D.bool (r)) := by
  refine gd Try.func4 [[none]] 66 fun hr Γ hΓ => ?_
  rw [d_laws_FnExactFalling] at h
  obtain ⟨h1, h⟩ | ⟨h1, h⟩ := den_if h
  · have h := den_some h; subst h; exact (pre0.b h1).ret hΓ
  · obtain ⟨y2, h3, h⟩ := den_bind h
    obtain ⟨y4, h5, h⟩ := den_bind h
    obtain ⟨y6, h7, h⟩ := den_bind h
    obtain ⟨y8, h9, h⟩ := den_bind h
    obtain ⟨y10, h11, h⟩ := den_bind h
    have o1_ := (((((((((((pre0.b h1).a [.dc (D.fr 3 1 ((y2).map ixx))]).w (d_laws_toIntS_good h3)).a [.dc (D.fr 3 1 ((y4).map ixx))]).w (d_spec_Falling_good h5)).a [.dc (D.fr 3 1 ((y6).map ixx))]).w (d_laws_toIntS_good h7)).a [.dc (D.fr 3 1 ((y8).map ixx))]).w (d_impl_Falling_good h9)).a [.dc (D.bool (y10))]).w (d_laws_eqIntS_good h11))
    obtain ⟨h12, h⟩ | ⟨h12, h⟩ := den_if h
    · have h := den_some h; subst h; exact (o1_.b h12).ret hΓ
    · obtain ⟨y13, h14, h⟩ := den_bind h
      obtain ⟨y15, h16, h⟩ := den_bind h
      have o2_ := (((((o1_.b h12).a [.dc (D.fr 3 1 ((y13).map ixx))]).w (d_laws_toIntS_good h14)).a [.dc (D.bool (y15))]).w (d_laws_eqIntS_good h16))
      obtain ⟨h17, h⟩ | ⟨h17, h⟩ := den_if h
      · have h := den_some h; subst h; exact (o2_.b h17).ret hΓ
      · obtain ⟨y18, h19, h⟩ := den_bind h
        have o3_ := (((o2_.b h17).w (d_laws_markIntS_good h19)).a [.gv [2] [(1, (y18.1).map ixx)] (D.int .i64 (y18.2))])
        obtain ⟨h20, h⟩ | ⟨h20, h⟩ := den_if h
        · have h := den_some h; subst h; exact ((o3_.r 5 h20).T 1).ret hΓ
        · obtain ⟨y21, h22, h⟩ := den_bind h
          have o4_ := ((((o3_.r 3 h20).a [.dc (D.bool (y21))]).w (d_laws_eqIntS_good h22)).r 2 h20)
          obtain ⟨h23, h⟩ | ⟨h23, h⟩ := den_if h
          · have h := den_some h; subst h; exact (o4_.b h23).ret hΓ
          · obtain ⟨y24, h25, h⟩ := den_bind h
            obtain ⟨y26, h27, h⟩ := den_bind h
            have o5_ := ((((o4_.b h23).w (d_laws_markIntS_good h25)).a [.gv [3] [(1, (y24.1).map ixx)] (D.int .i64 (y24.2)), .dc (D.int .i64 (y26))]).w (d_laws_heldIntS_good h27))
            obtain ⟨h28, h⟩ | ⟨h28, h⟩ := den_if h
            · have h := den_some h; subst h; exact (o5_.b h28).ret hΓ
            · obtain ⟨h29, h⟩ | ⟨h29, h⟩ := den_if h
              · have h := den_some h; subst h; exact ((o5_.b h28).b h29).ret hΓ
              · obtain ⟨y30, h31, h⟩ := den_bind h
                obtain ⟨y32, h33, h⟩ := den_bind h
                obtain ⟨y34, h35, h⟩ := den_bind h
                have o6_ := ((((((((o5_.b h28).b h29).a [.dc (D.fr 3 1 ((y30).map ixx))]).w (d_laws_toIntS_good h31)).a [.dc (D.fr 3 1 ((y32).map ixx))]).w (d_impl_Falling_good h33)).a [.dc (D.bool (y34))]).w (d_laws_eqIntS_good h35))
                obtain ⟨h36, h⟩ | ⟨h36, h⟩ := den_if h
                · have h := den_some h; subst h; exact (o6_.b h36).ret hΓ
                · obtain ⟨y37, h38, h⟩ := den_bind h
                  have o7_ := (((o6_.b h36).a [.dc (D.int .i64 (y37))]).w (d_laws_heldIntS_good h38))
                  obtain ⟨h39, h⟩ | ⟨h39, h⟩ := den_if h
                  · have h := den_some h; subst h; exact (o7_.b h39).ret hΓ
                  · obtain ⟨h40, h⟩ | ⟨h40, h⟩ := den_if h
                    · have h := den_some h; subst h; exact ((o7_.b h39).b h40).ret hΓ
                    · have h := den_some h; subst h; exact ((o7_.b h39).b h40).ret hΓ
end Go.Cx
