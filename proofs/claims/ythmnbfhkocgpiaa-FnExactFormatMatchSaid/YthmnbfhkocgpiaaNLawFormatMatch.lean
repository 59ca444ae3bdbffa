/- What functions of the program compute, and the walks that show it. No condition. -/
import Derived.Test.YthmnbfhkocgpiaaNSz
import Derived.Test.YthmnbfhkocgpiaaNTo
import Derived.Test.YthmnbfhkocgpiaaNEq
import Derived.Test.YthmnbfhkocgpiaaNFnFormatMatch
namespace Go.Cx
open Go.RowKit Go.Proofs
set_option linter.unusedVariables false
set_option linter.unusedSimpArgs false
set_option maxRecDepth 100000
def d_laws_FnExactFormatMatch (a0_ : Match) : Option Bool := ((d_laws_szMatch (a0_) (1048576)).bind fun y1 => (bif decide ((y1 : Int) < (0)) then (some (true)) else ((d_laws_toMatch (a0_)).bind fun y4 => ((d_spec_FormatMatch (y4)).bind fun y6 => ((d_laws_toMatch (a0_)).bind fun y8 => ((d_impl_FormatMatch (y8)).bind fun y10 => (bif !((y10 : Bytes) == (y6)) then (some (false)) else ((d_laws_toMatch (a0_)).bind fun y13 => ((d_laws_eqMatch (y8) (y13)).bind fun y15 => (bif !(y15) then (some (false)) else (some (true))))))))))))
theorem d_laws_FnExactFormatMatch_good {a0_ : Match} {r : Bool} (h : d_laws_FnExactFormatMatch a0_ = some r) : Good Try.prog 3 [D.agg (Match.c a0_)] (D.bool (r)) := by
  refine Good.of (c := bodyOf Try.f3) Try.func3 rfl (by decide) (by simp [Try.f3]) ?_
  intro hr Γ hΓ
  have hΓ : Γ.nt = 27 := hΓ
  rw [d_laws_FnExactFormatMatch] at h
  refine (show AW Try.prog Γ (bodyOf Try.f3) (KQ Try.prog Γ (fun _ _ => False) (RetQ Try.prog Try.f3 (D.bool (r))) []) _ from ?_)
  obtain ⟨y1, h2, h⟩ := den_bind h
  rcases den_if h with ⟨h3, h⟩ | ⟨h3, h⟩
  · have h := den_some h
    subst h
    exact AW_go (n := 2000) [[none]] [.d (D.int .i64 (y1)), .b true] (.ret (D.bool (true))) hΓ mix (by kernel_rfl) (ow (d_laws_szMatch_good h2) (ow (h3) ow0)) rfl
  · obtain ⟨y4, h5, h⟩ := den_bind h
    obtain ⟨y6, h7, h⟩ := den_bind h
    obtain ⟨y8, h9, h⟩ := den_bind h
    obtain ⟨y10, h11, h⟩ := den_bind h
    rcases den_if h with ⟨h12, h⟩ | ⟨h12, h⟩
    · have h := den_some h
      subst h
      exact AW_go (n := 2000) [[none]] [.d (D.int .i64 (y1)), .b false, .d (D.agg [D.str (y4.rule), D.fr 51 2 ((y4.facts).map Fact.c), D.fr 56 2 ((y4.bind).map Pair.c)]), .d (D.str (y6)), .d (D.agg [D.str (y8.rule), D.fr 51 2 ((y8.facts).map Fact.c), D.fr 56 2 ((y8.bind).map Pair.c)]), .d (D.str (y10)), .b true] (.ret (D.bool (false))) hΓ mix (by kernel_rfl) (ow (d_laws_szMatch_good h2) (ow (h3) (ow (d_laws_toMatch_good h5) (ow (d_spec_FormatMatch_good h7) (ow (d_laws_toMatch_good h9) (ow (d_impl_FormatMatch_good h11) (ow (h12) ow0))))))) rfl
    · obtain ⟨y13, h14, h⟩ := den_bind h
      obtain ⟨y15, h16, h⟩ := den_bind h
      rcases den_if h with ⟨h17, h⟩ | ⟨h17, h⟩
      · have h := den_some h
        subst h
        exact AW_go (n := 2000) [[none]] [.d (D.int .i64 (y1)), .b false, .d (D.agg [D.str (y4.rule), D.fr 51 2 ((y4.facts).map Fact.c), D.fr 56 2 ((y4.bind).map Pair.c)]), .d (D.str (y6)), .d (D.agg [D.str (y8.rule), D.fr 51 2 ((y8.facts).map Fact.c), D.fr 56 2 ((y8.bind).map Pair.c)]), .d (D.str (y10)), .b false, .n 3, .d (D.agg [D.str (y13.rule), D.fr 51 2 ((y13.facts).map Fact.c), D.fr 56 2 ((y13.bind).map Pair.c)]), .d (D.bool (y15)), .b true] (.ret (D.bool (false))) hΓ mix (by kernel_rfl) (ow (d_laws_szMatch_good h2) (ow (h3) (ow (d_laws_toMatch_good h5) (ow (d_spec_FormatMatch_good h7) (ow (d_laws_toMatch_good h9) (ow (d_impl_FormatMatch_good h11) (ow (h12) (ow (d_laws_toMatch_good h14) (ow (d_laws_eqMatch_good h16) (ow (h17) ow0)))))))))) rfl
      · have h := den_some h
        subst h
        exact AW_go (n := 2000) [[none]] [.d (D.int .i64 (y1)), .b false, .d (D.agg [D.str (y4.rule), D.fr 51 2 ((y4.facts).map Fact.c), D.fr 56 2 ((y4.bind).map Pair.c)]), .d (D.str (y6)), .d (D.agg [D.str (y8.rule), D.fr 51 2 ((y8.facts).map Fact.c), D.fr 56 2 ((y8.bind).map Pair.c)]), .d (D.str (y10)), .b false, .n 3, .d (D.agg [D.str (y13.rule), D.fr 51 2 ((y13.facts).map Fact.c), D.fr 56 2 ((y13.bind).map Pair.c)]), .d (D.bool (y15)), .b false] (.ret (D.bool (true))) hΓ mix (by kernel_rfl) (ow (d_laws_szMatch_good h2) (ow (h3) (ow (d_laws_toMatch_good h5) (ow (d_spec_FormatMatch_good h7) (ow (d_laws_toMatch_good h9) (ow (d_impl_FormatMatch_good h11) (ow (h12) (ow (d_laws_toMatch_good h14) (ow (d_laws_eqMatch_good h16) (ow (h17) ow0)))))))))) rfl

end Go.Cx
