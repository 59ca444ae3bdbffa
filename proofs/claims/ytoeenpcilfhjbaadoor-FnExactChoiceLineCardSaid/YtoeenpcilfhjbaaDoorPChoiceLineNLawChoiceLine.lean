/- What functions of the program compute, and the walks that show it. No condition. -/
import Derived.Test.YtoeenpcilfhjbaaDoorPChoiceLineNFn1
import Derived.Test.YtoeenpcilfhjbaaDoorPChoiceLineNSz
import Derived.Test.YtoeenpcilfhjbaaDoorPChoiceLineNTo
import Derived.Test.YtoeenpcilfhjbaaDoorPChoiceLineNEq
import Derived.Test.YtoeenpcilfhjbaaDoorPChoiceLineNMk
import Derived.Test.YtoeenpcilfhjbaaDoorPChoiceLineNHd
namespace Go.Cx
open Go.RowKit Go.Proofs
set_option linter.unusedVariables false
set_option linter.unusedSimpArgs false
set_option maxRecDepth 100000
variable {Γ : Ctx} {N : Nat → St → Prop}
def d_laws_FnExactChoiceLine (a0_ : Choice) : Option Bool := ((d_laws_szChoice (a0_) (1048576)).bind fun y1 => (bif decide ((y1 : Int) < (0)) then (some (true)) else ((d_laws_toChoice (a0_)).bind fun y4 => ((d_spec_ChoiceLine (y4)).bind fun y6 => ((d_laws_toChoice (a0_)).bind fun y8 => ((d_impl_ChoiceLine (y8)).bind fun y10 => (bif !((y10 : Bytes) == (y6)) then (some (false)) else ((d_laws_toChoice (a0_)).bind fun y13 => ((d_laws_eqChoice (y8) (y13)).bind fun y15 => (bif !(y15) then (some (false)) else (some (true))))))))))))
theorem d_laws_FnExactChoiceLine_good {a0_ : Choice} {r : Bool} (h : d_laws_FnExactChoiceLine a0_ = some r) : Good Tryd.prog 3 [D.agg (Choice.c a0_)] (D.bool (r)) := by
  refine gd Tryd.func3 [[none]] 27 fun hr Γ hΓ => ?_
  rw [d_laws_FnExactChoiceLine] at h
  obtain ⟨y1, h2, h⟩ := den_bind h
  obtain ⟨h3, h⟩ | ⟨h3, h⟩ := den_if h
  · have h := den_some h; subst h; exact (((pre0.a [.dc (D.int .i64 (y1))]).w (d_laws_szChoice_good h2)).b h3).ret hΓ
  · obtain ⟨y4, h5, h⟩ := den_bind h
    obtain ⟨y6, h7, h⟩ := den_bind h
    obtain ⟨y8, h9, h⟩ := den_bind h
    obtain ⟨y10, h11, h⟩ := den_bind h
    have o1_ := (((((((((((pre0.a [.dc (D.int .i64 (y1))]).w (d_laws_szChoice_good h2)).b h3).a [.dc (D.agg [D.str (y4.mtch.rule), D.fr 71 2 ((y4.mtch.facts).map Fact.c), D.fr 75 2 ((y4.mtch.bind).map Pair.c), D.int .i64 (y4.prio), D.fr 3 1 ((y4.times).map ixx), D.int .i64 (y4.spec), D.int .i64 (y4.order)])]).w (d_laws_toChoice_good h5)).a [.dc (D.str (y6))]).w (d_spec_ChoiceLine_good h7)).a [.dc (D.agg [D.str (y8.mtch.rule), D.fr 71 2 ((y8.mtch.facts).map Fact.c), D.fr 75 2 ((y8.mtch.bind).map Pair.c), D.int .i64 (y8.prio), D.fr 3 1 ((y8.times).map ixx), D.int .i64 (y8.spec), D.int .i64 (y8.order)])]).w (d_laws_toChoice_good h9)).a [.dc (D.str (y10))]).w (d_impl_ChoiceLine_good h11))
    obtain ⟨h12, h⟩ | ⟨h12, h⟩ := den_if h
    · have h := den_some h; subst h; exact (o1_.b h12).ret hΓ
    · obtain ⟨y13, h14, h⟩ := den_bind h
      obtain ⟨y15, h16, h⟩ := den_bind h
      have o2_ := (((((o1_.b h12).a [.n 3]).g (d_laws_toChoice_good h14)).a [.dc (D.bool (y15))]).w (d_laws_eqChoice_good h16))
      obtain ⟨h17, h⟩ | ⟨h17, h⟩ := den_if h
      · have h := den_some h; subst h; exact (o2_.b h17).ret hΓ
      · have h := den_some h; subst h; exact (o2_.b h17).ret hΓ
end Go.Cx
