/- What functions of the program compute, and the walks that show it. No condition. -/
import Derived.Test.YtocmmccbfnhfpaaPSameMemoriesNFn3
import Derived.Test.YtocmmccbfnhfpaaPSameMemoriesNSz
import Derived.Test.YtocmmccbfnhfpaaPSameMemoriesNTo
import Derived.Test.YtocmmccbfnhfpaaPSameMemoriesNEq
import Derived.Test.YtocmmccbfnhfpaaPSameMemoriesNMk
import Derived.Test.YtocmmccbfnhfpaaPSameMemoriesNHd
namespace Go.Cx
open Go.RowKit Go.Proofs
set_option linter.unusedVariables false
set_option linter.unusedSimpArgs false
set_option maxRecDepth 100000
def d_laws_FnExactSameMemories (a0_ : Network) (a1_ : Network) : Option Bool := ((d_laws_szNetwork (a0_) (1048576)).bind fun y1 => (bif decide ((y1 : Int) < (0)) then (some (true)) else ((d_laws_szNetwork (a1_) (y1)).bind fun y4 => (bif decide ((y4 : Int) < (0)) then (some (true)) else ((d_laws_toNetwork (a0_)).bind fun y7 => ((d_laws_toNetwork (a1_)).bind fun y9 => ((d_spec_SameMemories (y7) (y9)).bind fun y11 => ((d_laws_toNetwork (a0_)).bind fun y13 => ((d_laws_toNetwork (a1_)).bind fun y15 => ((d_impl_SameMemories (y13) (y15)).bind fun y17 => (bif (y17 : Bool) != (y11) then (some (false)) else ((d_laws_toNetwork (a0_)).bind fun y20 => ((d_laws_eqNetwork (y13) (y20)).bind fun y22 => (bif !(y22) then (some (false)) else ((d_laws_toNetwork (a1_)).bind fun y25 => ((d_laws_eqNetwork (y15) (y25)).bind fun y27 => (bif !(y27) then (some (false)) else (some (true)))))))))))))))))))
theorem d_laws_FnExactSameMemories_good {a0_ : Network} {a1_ : Network} {r : Bool} (h : d_laws_FnExactSameMemories a0_ a1_ = some r) : Good Try.prog 11 [D.agg (Network.c a0_), D.agg (Network.c a1_)] (D.bool (r)) := by
  refine Good.of (c := bodyOf Try.f11) Try.func11 rfl (by decide) (by simp [Try.f11]) ?_
  intro hr Γ hΓ
  have hΓ : Γ.nt = 45 := hΓ
  rw [d_laws_FnExactSameMemories] at h
  refine (show AW Try.prog Γ (bodyOf Try.f11) (KQ Try.prog Γ (fun _ _ => False) (RetQ Try.prog Try.f11 (D.bool (r))) []) _ from ?_)
  obtain ⟨y1, h2, h⟩ := den_bind h
  rcases den_if h with ⟨h3, h⟩ | ⟨h3, h⟩
  · have h := den_some h
    subst h
    exact AW_go (n := 2000) [[none]] [.dc (D.int .i64 (y1)), .b true] (.ret (D.bool (true))) hΓ mix (by kernel_rfl) (ow (d_laws_szNetwork_good h2) (ow (h3) ow0)) rfl
  · obtain ⟨y4, h5, h⟩ := den_bind h
    rcases den_if h with ⟨h6, h⟩ | ⟨h6, h⟩
    · have h := den_some h
      subst h
      exact AW_go (n := 2000) [[none]] [.dc (D.int .i64 (y1)), .b false, .dc (D.int .i64 (y4)), .b true] (.ret (D.bool (true))) hΓ mix (by kernel_rfl) (ow (d_laws_szNetwork_good h2) (ow (h3) (ow (d_laws_szNetwork_good h5) (ow (h6) ow0)))) rfl
    · obtain ⟨y7, h8, h⟩ := den_bind h
      obtain ⟨y9, h10, h⟩ := den_bind h
      obtain ⟨y11, h12, h⟩ := den_bind h
      obtain ⟨y13, h14, h⟩ := den_bind h
      obtain ⟨y15, h16, h⟩ := den_bind h
      obtain ⟨y17, h18, h⟩ := den_bind h
      rcases den_if h with ⟨h19, h⟩ | ⟨h19, h⟩
      · have h := den_some h
        subst h
        exact AW_go (n := 2000) [[none]] [.dc (D.int .i64 (y1)), .b false, .dc (D.int .i64 (y4)), .b false, .n 3, .d (D.agg [D.fr 53 4 ((y7.rules).map Rule.c), D.fr 3 1 ((y7.ends).map ixx), D.fr 140 3 ((y7.alphas).map Alpha.c), D.fr 130 8 ((y7.nodes).map Node.c), D.fr 92 2 ((y7.facts).map Fact.c), D.int .i64 (y7.tries)]), .dc (D.agg [D.fr 53 4 ((y9.rules).map Rule.c), D.fr 3 1 ((y9.ends).map ixx), D.fr 140 3 ((y9.alphas).map Alpha.c), D.fr 130 8 ((y9.nodes).map Node.c), D.fr 92 2 ((y9.facts).map Fact.c), D.int .i64 (y9.tries)]), .dc (D.bool (y11)), .dc (D.agg [D.fr 53 4 ((y13.rules).map Rule.c), D.fr 3 1 ((y13.ends).map ixx), D.fr 140 3 ((y13.alphas).map Alpha.c), D.fr 130 8 ((y13.nodes).map Node.c), D.fr 92 2 ((y13.facts).map Fact.c), D.int .i64 (y13.tries)]), .dc (D.agg [D.fr 53 4 ((y15.rules).map Rule.c), D.fr 3 1 ((y15.ends).map ixx), D.fr 140 3 ((y15.alphas).map Alpha.c), D.fr 130 8 ((y15.nodes).map Node.c), D.fr 92 2 ((y15.facts).map Fact.c), D.int .i64 (y15.tries)]), .dc (D.bool (y17)), .b true] (.ret (D.bool (false))) hΓ mix (by kernel_rfl) (ow (d_laws_szNetwork_good h2) (ow (h3) (ow (d_laws_szNetwork_good h5) (ow (h6) (ow (d_laws_toNetwork_good h8) (ow (d_laws_toNetwork_good h10) (ow (d_spec_SameMemories_good h12) (ow (d_laws_toNetwork_good h14) (ow (d_laws_toNetwork_good h16) (ow (d_impl_SameMemories_good h18) (ow (h19) ow0))))))))))) rfl
      · obtain ⟨y20, h21, h⟩ := den_bind h
        obtain ⟨y22, h23, h⟩ := den_bind h
        rcases den_if h with ⟨h24, h⟩ | ⟨h24, h⟩
        · have h := den_some h
          subst h
          exact AW_go (n := 2000) [[none]] [.dc (D.int .i64 (y1)), .b false, .dc (D.int .i64 (y4)), .b false, .n 3, .d (D.agg [D.fr 53 4 ((y7.rules).map Rule.c), D.fr 3 1 ((y7.ends).map ixx), D.fr 140 3 ((y7.alphas).map Alpha.c), D.fr 130 8 ((y7.nodes).map Node.c), D.fr 92 2 ((y7.facts).map Fact.c), D.int .i64 (y7.tries)]), .dc (D.agg [D.fr 53 4 ((y9.rules).map Rule.c), D.fr 3 1 ((y9.ends).map ixx), D.fr 140 3 ((y9.alphas).map Alpha.c), D.fr 130 8 ((y9.nodes).map Node.c), D.fr 92 2 ((y9.facts).map Fact.c), D.int .i64 (y9.tries)]), .dc (D.bool (y11)), .dc (D.agg [D.fr 53 4 ((y13.rules).map Rule.c), D.fr 3 1 ((y13.ends).map ixx), D.fr 140 3 ((y13.alphas).map Alpha.c), D.fr 130 8 ((y13.nodes).map Node.c), D.fr 92 2 ((y13.facts).map Fact.c), D.int .i64 (y13.tries)]), .dc (D.agg [D.fr 53 4 ((y15.rules).map Rule.c), D.fr 3 1 ((y15.ends).map ixx), D.fr 140 3 ((y15.alphas).map Alpha.c), D.fr 130 8 ((y15.nodes).map Node.c), D.fr 92 2 ((y15.facts).map Fact.c), D.int .i64 (y15.tries)]), .dc (D.bool (y17)), .b false, .n 3, .d (D.agg [D.fr 53 4 ((y20.rules).map Rule.c), D.fr 3 1 ((y20.ends).map ixx), D.fr 140 3 ((y20.alphas).map Alpha.c), D.fr 130 8 ((y20.nodes).map Node.c), D.fr 92 2 ((y20.facts).map Fact.c), D.int .i64 (y20.tries)]), .dc (D.bool (y22)), .b true] (.ret (D.bool (false))) hΓ mix (by kernel_rfl) (ow (d_laws_szNetwork_good h2) (ow (h3) (ow (d_laws_szNetwork_good h5) (ow (h6) (ow (d_laws_toNetwork_good h8) (ow (d_laws_toNetwork_good h10) (ow (d_spec_SameMemories_good h12) (ow (d_laws_toNetwork_good h14) (ow (d_laws_toNetwork_good h16) (ow (d_impl_SameMemories_good h18) (ow (h19) (ow (d_laws_toNetwork_good h21) (ow (d_laws_eqNetwork_good h23) (ow (h24) ow0)))))))))))))) rfl
        · obtain ⟨y25, h26, h⟩ := den_bind h
          obtain ⟨y27, h28, h⟩ := den_bind h
          rcases den_if h with ⟨h29, h⟩ | ⟨h29, h⟩
          · have h := den_some h
            subst h
            exact AW_go (n := 2000) [[none]] [.dc (D.int .i64 (y1)), .b false, .dc (D.int .i64 (y4)), .b false, .n 3, .d (D.agg [D.fr 53 4 ((y7.rules).map Rule.c), D.fr 3 1 ((y7.ends).map ixx), D.fr 140 3 ((y7.alphas).map Alpha.c), D.fr 130 8 ((y7.nodes).map Node.c), D.fr 92 2 ((y7.facts).map Fact.c), D.int .i64 (y7.tries)]), .dc (D.agg [D.fr 53 4 ((y9.rules).map Rule.c), D.fr 3 1 ((y9.ends).map ixx), D.fr 140 3 ((y9.alphas).map Alpha.c), D.fr 130 8 ((y9.nodes).map Node.c), D.fr 92 2 ((y9.facts).map Fact.c), D.int .i64 (y9.tries)]), .dc (D.bool (y11)), .dc (D.agg [D.fr 53 4 ((y13.rules).map Rule.c), D.fr 3 1 ((y13.ends).map ixx), D.fr 140 3 ((y13.alphas).map Alpha.c), D.fr 130 8 ((y13.nodes).map Node.c), D.fr 92 2 ((y13.facts).map Fact.c), D.int .i64 (y13.tries)]), .dc (D.agg [D.fr 53 4 ((y15.rules).map Rule.c), D.fr 3 1 ((y15.ends).map ixx), D.fr 140 3 ((y15.alphas).map Alpha.c), D.fr 130 8 ((y15.nodes).map Node.c), D.fr 92 2 ((y15.facts).map Fact.c), D.int .i64 (y15.tries)]), .dc (D.bool (y17)), .b false, .n 3, .d (D.agg [D.fr 53 4 ((y20.rules).map Rule.c), D.fr 3 1 ((y20.ends).map ixx), D.fr 140 3 ((y20.alphas).map Alpha.c), D.fr 130 8 ((y20.nodes).map Node.c), D.fr 92 2 ((y20.facts).map Fact.c), D.int .i64 (y20.tries)]), .dc (D.bool (y22)), .b false, .n 3, .d (D.agg [D.fr 53 4 ((y25.rules).map Rule.c), D.fr 3 1 ((y25.ends).map ixx), D.fr 140 3 ((y25.alphas).map Alpha.c), D.fr 130 8 ((y25.nodes).map Node.c), D.fr 92 2 ((y25.facts).map Fact.c), D.int .i64 (y25.tries)]), .dc (D.bool (y27)), .b true] (.ret (D.bool (false))) hΓ mix (by kernel_rfl) (ow (d_laws_szNetwork_good h2) (ow (h3) (ow (d_laws_szNetwork_good h5) (ow (h6) (ow (d_laws_toNetwork_good h8) (ow (d_laws_toNetwork_good h10) (ow (d_spec_SameMemories_good h12) (ow (d_laws_toNetwork_good h14) (ow (d_laws_toNetwork_good h16) (ow (d_impl_SameMemories_good h18) (ow (h19) (ow (d_laws_toNetwork_good h21) (ow (d_laws_eqNetwork_good h23) (ow (h24) (ow (d_laws_toNetwork_good h26) (ow (d_laws_eqNetwork_good h28) (ow (h29) ow0))))))))))))))))) rfl
          · have h := den_some h
            subst h
            exact AW_go (n := 2000) [[none]] [.dc (D.int .i64 (y1)), .b false, .dc (D.int .i64 (y4)), .b false, .n 3, .d (D.agg [D.fr 53 4 ((y7.rules).map Rule.c), D.fr 3 1 ((y7.ends).map ixx), D.fr 140 3 ((y7.alphas).map Alpha.c), D.fr 130 8 ((y7.nodes).map Node.c), D.fr 92 2 ((y7.facts).map Fact.c), D.int .i64 (y7.tries)]), .dc (D.agg [D.fr 53 4 ((y9.rules).map Rule.c), D.fr 3 1 ((y9.ends).map ixx), D.fr 140 3 ((y9.alphas).map Alpha.c), D.fr 130 8 ((y9.nodes).map Node.c), D.fr 92 2 ((y9.facts).map Fact.c), D.int .i64 (y9.tries)]), .dc (D.bool (y11)), .dc (D.agg [D.fr 53 4 ((y13.rules).map Rule.c), D.fr 3 1 ((y13.ends).map ixx), D.fr 140 3 ((y13.alphas).map Alpha.c), D.fr 130 8 ((y13.nodes).map Node.c), D.fr 92 2 ((y13.facts).map Fact.c), D.int .i64 (y13.tries)]), .dc (D.agg [D.fr 53 4 ((y15.rules).map Rule.c), D.fr 3 1 ((y15.ends).map ixx), D.fr 140 3 ((y15.alphas).map Alpha.c), D.fr 130 8 ((y15.nodes).map Node.c), D.fr 92 2 ((y15.facts).map Fact.c), D.int .i64 (y15.tries)]), .dc (D.bool (y17)), .b false, .n 3, .d (D.agg [D.fr 53 4 ((y20.rules).map Rule.c), D.fr 3 1 ((y20.ends).map ixx), D.fr 140 3 ((y20.alphas).map Alpha.c), D.fr 130 8 ((y20.nodes).map Node.c), D.fr 92 2 ((y20.facts).map Fact.c), D.int .i64 (y20.tries)]), .dc (D.bool (y22)), .b false, .n 3, .d (D.agg [D.fr 53 4 ((y25.rules).map Rule.c), D.fr 3 1 ((y25.ends).map ixx), D.fr 140 3 ((y25.alphas).map Alpha.c), D.fr 130 8 ((y25.nodes).map Node.c), D.fr 92 2 ((y25.facts).map Fact.c), D.int .i64 (y25.tries)]), .dc (D.bool (y27)), .b false] (.ret (D.bool (true))) hΓ mix (by kernel_rfl) (ow (d_laws_szNetwork_good h2) (ow (h3) (ow (d_laws_szNetwork_good h5) (ow (h6) (ow (d_laws_toNetwork_good h8) (ow (d_laws_toNetwork_good h10) (ow (d_spec_SameMemories_good h12) (ow (d_laws_toNetwork_good h14) (ow (d_laws_toNetwork_good h16) (ow (d_impl_SameMemories_good h18) (ow (h19) (ow (d_laws_toNetwork_good h21) (ow (d_laws_eqNetwork_good h23) (ow (h24) (ow (d_laws_toNetwork_good h26) (ow (d_laws_eqNetwork_good h28) (ow (h29) ow0))))))))))))))))) rfl
end Go.Cx
