/- What functions of the program compute, and the walks that show it. No condition. -/
import Derived.Test.YtamlfpljmobdoaaDoorPCompareTokensNFn1
import Derived.Test.YtamlfpljmobdoaaDoorPCompareTokensNSz
import Derived.Test.YtamlfpljmobdoaaDoorPCompareTokensNTo
import Derived.Test.YtamlfpljmobdoaaDoorPCompareTokensNEq
import Derived.Test.YtamlfpljmobdoaaDoorPCompareTokensNMk
import Derived.Test.YtamlfpljmobdoaaDoorPCompareTokensNHd
namespace Go.Cx
open Go.RowKit Go.Proofs
set_option linter.unusedVariables false
set_option linter.unusedSimpArgs false
set_option maxRecDepth 100000
def d_laws_FnExactCompareTokens (a0_ : Token) (a1_ : Token) : Option Bool := ((d_laws_szToken (a0_) (1048576)).bind fun y1 => (bif decide ((y1 : Int) < (0)) then (some (true)) else ((d_laws_szToken (a1_) (y1)).bind fun y4 => (bif decide ((y4 : Int) < (0)) then (some (true)) else ((d_laws_toToken (a0_)).bind fun y7 => ((d_laws_toToken (a1_)).bind fun y9 => ((d_spec_CompareTokens (y7) (y9)).bind fun y11 => ((d_laws_toToken (a0_)).bind fun y13 => ((d_laws_toToken (a1_)).bind fun y15 => ((d_impl_CompareTokens (y13) (y15)).bind fun y17 => (bif (y17 : Int) != (y11) then (some (false)) else ((d_laws_toToken (a0_)).bind fun y20 => ((d_laws_eqToken (y13) (y20)).bind fun y22 => (bif !(y22) then (some (false)) else ((d_laws_toToken (a1_)).bind fun y25 => ((d_laws_eqToken (y15) (y25)).bind fun y27 => (bif !(y27) then (some (false)) else (some (true)))))))))))))))))))
theorem d_laws_FnExactCompareTokens_good {a0_ : Token} {a1_ : Token} {r : Bool} (h : d_laws_FnExactCompareTokens a0_ a1_ = some r) : Good Tryd.prog 3 [D.agg (Token.c a0_), D.agg (Token.c a1_)] (D.bool (r)) := by
  refine Good.of (c := bodyOf Tryd.f3) Tryd.func3 rfl (by decide) (by simp [Tryd.f3]) ?_
  intro hr Γ hΓ
  have hΓ : Γ.nt = 45 := hΓ
  rw [d_laws_FnExactCompareTokens] at h
  refine (show AW Tryd.prog Γ (bodyOf Tryd.f3) (KQ Tryd.prog Γ (fun _ _ => False) (RetQ Tryd.prog Tryd.f3 (D.bool (r))) []) _ from ?_)
  obtain ⟨y1, h2, h⟩ := den_bind h
  rcases den_if h with ⟨h3, h⟩ | ⟨h3, h⟩
  · have h := den_some h
    subst h
    exact AW_go (n := 2000) [[none]] [.dc (D.int .i64 (y1)), .b true] (.ret (D.bool (true))) hΓ mix (by kernel_rfl) (ow (d_laws_szToken_good h2) (ow (h3) ow0)) rfl
  · obtain ⟨y4, h5, h⟩ := den_bind h
    rcases den_if h with ⟨h6, h⟩ | ⟨h6, h⟩
    · have h := den_some h
      subst h
      exact AW_go (n := 2000) [[none]] [.dc (D.int .i64 (y1)), .b false, .dc (D.int .i64 (y4)), .b true] (.ret (D.bool (true))) hΓ mix (by kernel_rfl) (ow (d_laws_szToken_good h2) (ow (h3) (ow (d_laws_szToken_good h5) (ow (h6) ow0)))) rfl
    · obtain ⟨y7, h8, h⟩ := den_bind h
      obtain ⟨y9, h10, h⟩ := den_bind h
      obtain ⟨y11, h12, h⟩ := den_bind h
      obtain ⟨y13, h14, h⟩ := den_bind h
      obtain ⟨y15, h16, h⟩ := den_bind h
      obtain ⟨y17, h18, h⟩ := den_bind h
      rcases den_if h with ⟨h19, h⟩ | ⟨h19, h⟩
      · have h := den_some h
        subst h
        exact AW_go (n := 2000) [[none]] [.dc (D.int .i64 (y1)), .b false, .dc (D.int .i64 (y4)), .b false, .n 3, .d (D.agg [D.fr 61 2 ((y7.facts).map Fact.c), D.fr 94 2 ((y7.bind).map Pair.c)]), .dc (D.agg [D.fr 61 2 ((y9.facts).map Fact.c), D.fr 94 2 ((y9.bind).map Pair.c)]), .dc (D.int .i64 (y11)), .dc (D.agg [D.fr 61 2 ((y13.facts).map Fact.c), D.fr 94 2 ((y13.bind).map Pair.c)]), .dc (D.agg [D.fr 61 2 ((y15.facts).map Fact.c), D.fr 94 2 ((y15.bind).map Pair.c)]), .dc (D.int .i64 (y17)), .b true] (.ret (D.bool (false))) hΓ mix (by kernel_rfl) (ow (d_laws_szToken_good h2) (ow (h3) (ow (d_laws_szToken_good h5) (ow (h6) (ow (d_laws_toToken_good h8) (ow (d_laws_toToken_good h10) (ow (d_spec_CompareTokens_good h12) (ow (d_laws_toToken_good h14) (ow (d_laws_toToken_good h16) (ow (d_impl_CompareTokens_good h18) (ow (h19) ow0))))))))))) rfl
      · obtain ⟨y20, h21, h⟩ := den_bind h
        obtain ⟨y22, h23, h⟩ := den_bind h
        rcases den_if h with ⟨h24, h⟩ | ⟨h24, h⟩
        · have h := den_some h
          subst h
          exact AW_go (n := 2000) [[none]] [.dc (D.int .i64 (y1)), .b false, .dc (D.int .i64 (y4)), .b false, .n 3, .d (D.agg [D.fr 61 2 ((y7.facts).map Fact.c), D.fr 94 2 ((y7.bind).map Pair.c)]), .dc (D.agg [D.fr 61 2 ((y9.facts).map Fact.c), D.fr 94 2 ((y9.bind).map Pair.c)]), .dc (D.int .i64 (y11)), .dc (D.agg [D.fr 61 2 ((y13.facts).map Fact.c), D.fr 94 2 ((y13.bind).map Pair.c)]), .dc (D.agg [D.fr 61 2 ((y15.facts).map Fact.c), D.fr 94 2 ((y15.bind).map Pair.c)]), .dc (D.int .i64 (y17)), .b false, .n 3, .d (D.agg [D.fr 61 2 ((y20.facts).map Fact.c), D.fr 94 2 ((y20.bind).map Pair.c)]), .dc (D.bool (y22)), .b true] (.ret (D.bool (false))) hΓ mix (by kernel_rfl) (ow (d_laws_szToken_good h2) (ow (h3) (ow (d_laws_szToken_good h5) (ow (h6) (ow (d_laws_toToken_good h8) (ow (d_laws_toToken_good h10) (ow (d_spec_CompareTokens_good h12) (ow (d_laws_toToken_good h14) (ow (d_laws_toToken_good h16) (ow (d_impl_CompareTokens_good h18) (ow (h19) (ow (d_laws_toToken_good h21) (ow (d_laws_eqToken_good h23) (ow (h24) ow0)))))))))))))) rfl
        · obtain ⟨y25, h26, h⟩ := den_bind h
          obtain ⟨y27, h28, h⟩ := den_bind h
          rcases den_if h with ⟨h29, h⟩ | ⟨h29, h⟩
          · have h := den_some h
            subst h
            exact AW_go (n := 2000) [[none]] [.dc (D.int .i64 (y1)), .b false, .dc (D.int .i64 (y4)), .b false, .n 3, .d (D.agg [D.fr 61 2 ((y7.facts).map Fact.c), D.fr 94 2 ((y7.bind).map Pair.c)]), .dc (D.agg [D.fr 61 2 ((y9.facts).map Fact.c), D.fr 94 2 ((y9.bind).map Pair.c)]), .dc (D.int .i64 (y11)), .dc (D.agg [D.fr 61 2 ((y13.facts).map Fact.c), D.fr 94 2 ((y13.bind).map Pair.c)]), .dc (D.agg [D.fr 61 2 ((y15.facts).map Fact.c), D.fr 94 2 ((y15.bind).map Pair.c)]), .dc (D.int .i64 (y17)), .b false, .n 3, .d (D.agg [D.fr 61 2 ((y20.facts).map Fact.c), D.fr 94 2 ((y20.bind).map Pair.c)]), .dc (D.bool (y22)), .b false, .n 3, .d (D.agg [D.fr 61 2 ((y25.facts).map Fact.c), D.fr 94 2 ((y25.bind).map Pair.c)]), .dc (D.bool (y27)), .b true] (.ret (D.bool (false))) hΓ mix (by kernel_rfl) (ow (d_laws_szToken_good h2) (ow (h3) (ow (d_laws_szToken_good h5) (ow (h6) (ow (d_laws_toToken_good h8) (ow (d_laws_toToken_good h10) (ow (d_spec_CompareTokens_good h12) (ow (d_laws_toToken_good h14) (ow (d_laws_toToken_good h16) (ow (d_impl_CompareTokens_good h18) (ow (h19) (ow (d_laws_toToken_good h21) (ow (d_laws_eqToken_good h23) (ow (h24) (ow (d_laws_toToken_good h26) (ow (d_laws_eqToken_good h28) (ow (h29) ow0))))))))))))))))) rfl
          · have h := den_some h
            subst h
            exact AW_go (n := 2000) [[none]] [.dc (D.int .i64 (y1)), .b false, .dc (D.int .i64 (y4)), .b false, .n 3, .d (D.agg [D.fr 61 2 ((y7.facts).map Fact.c), D.fr 94 2 ((y7.bind).map Pair.c)]), .dc (D.agg [D.fr 61 2 ((y9.facts).map Fact.c), D.fr 94 2 ((y9.bind).map Pair.c)]), .dc (D.int .i64 (y11)), .dc (D.agg [D.fr 61 2 ((y13.facts).map Fact.c), D.fr 94 2 ((y13.bind).map Pair.c)]), .dc (D.agg [D.fr 61 2 ((y15.facts).map Fact.c), D.fr 94 2 ((y15.bind).map Pair.c)]), .dc (D.int .i64 (y17)), .b false, .n 3, .d (D.agg [D.fr 61 2 ((y20.facts).map Fact.c), D.fr 94 2 ((y20.bind).map Pair.c)]), .dc (D.bool (y22)), .b false, .n 3, .d (D.agg [D.fr 61 2 ((y25.facts).map Fact.c), D.fr 94 2 ((y25.bind).map Pair.c)]), .dc (D.bool (y27)), .b false] (.ret (D.bool (true))) hΓ mix (by kernel_rfl) (ow (d_laws_szToken_good h2) (ow (h3) (ow (d_laws_szToken_good h5) (ow (h6) (ow (d_laws_toToken_good h8) (ow (d_laws_toToken_good h10) (ow (d_spec_CompareTokens_good h12) (ow (d_laws_toToken_good h14) (ow (d_laws_toToken_good h16) (ow (d_impl_CompareTokens_good h18) (ow (h19) (ow (d_laws_toToken_good h21) (ow (d_laws_eqToken_good h23) (ow (h24) (ow (d_laws_toToken_good h26) (ow (d_laws_eqToken_good h28) (ow (h29) ow0))))))))))))))))) rfl
end Go.Cx
