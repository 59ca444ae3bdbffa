/- What functions of the program compute, and the walks that show it. No condition. -/
import Derived.Test.YtocmmccbfnhfpaaPFactsInNFn3
import Derived.Test.YtocmmccbfnhfpaaPFactsInNSz
import Derived.Test.YtocmmccbfnhfpaaPFactsInNTo
import Derived.Test.YtocmmccbfnhfpaaPFactsInNEq
import Derived.Test.YtocmmccbfnhfpaaPFactsInNMk
import Derived.Test.YtocmmccbfnhfpaaPFactsInNHd
namespace Go.Cx
open Go.RowKit Go.Proofs
set_option linter.unusedVariables false
set_option linter.unusedSimpArgs false
set_option maxRecDepth 100000
def d_laws_FnExactFactsIn (a0_ : List Stamp) : Option Bool := ((d_laws_szStampS (a0_) (1048576)).bind fun y1 => (bif decide ((y1 : Int) < (0)) then (some (true)) else ((d_laws_toStampS (a0_)).bind fun y4 => ((d_spec_FactsIn (y4)).bind fun y6 => ((d_laws_toStampS (a0_)).bind fun y8 => ((d_impl_FactsIn (y8)).bind fun y10 => ((d_laws_eqFactS (y10) (y6)).bind fun y12 => (bif !(y12) then (some (false)) else ((d_laws_toStampS (a0_)).bind fun y15 => ((d_laws_eqStampS (y8) (y15)).bind fun y17 => (bif !(y17) then (some (false)) else ((d_laws_markStampS (y8) (1)).bind fun y20 => (bif decide ((y20.2 : Int) < (0)) then (some (false)) else ((d_laws_eqFactS (y10) (y6)).bind fun y23 => (bif !(y23) then (some (false)) else ((d_laws_markFactS (y10) (1)).bind fun y26 => ((d_laws_heldFactS (y26.1) (1)).bind fun y28 => (bif decide ((y28 : Int) < (0)) then (some (false)) else (bif (y28 : Int) != (y26.2) then (some (false)) else ((d_laws_toStampS (a0_)).bind fun y32 => ((d_impl_FactsIn (y32)).bind fun y34 => ((d_laws_eqFactS (y34) (y6)).bind fun y36 => (bif !(y36) then (some (false)) else ((d_laws_heldFactS (y26.1) (1)).bind fun y39 => (bif decide ((y39 : Int) < (0)) then (some (false)) else (bif (y39 : Int) != (y26.2) then (some (false)) else (some (true))))))))))))))))))))))))))))
theorem d_laws_FnExactFactsIn_good {a0_ : List Stamp} {r : Bool} (h : d_laws_FnExactFactsIn a0_ = some r) : Good Try.prog 3 [D.sl ((a0_).map Stamp.c)] (D.bool (r)) := by
  refine Good.of (c := bodyOf Try.f3) Try.func3 rfl (by decide) (by simp [Try.f3]) ?_
  intro hr Γ hΓ
  have hΓ : Γ.nt = 69 := hΓ
  rw [d_laws_FnExactFactsIn] at h
  refine (show AW Try.prog Γ (bodyOf Try.f3) (KQ Try.prog Γ (fun _ _ => False) (RetQ Try.prog Try.f3 (D.bool (r))) []) _ from ?_)
  obtain ⟨y1, h2, h⟩ := den_bind h
  rcases den_if h with ⟨h3, h⟩ | ⟨h3, h⟩
  · have h := den_some h
    subst h
    exact AW_go (n := 2000) [[none]] [.dc (D.int .i64 (y1)), .b true] (.ret (D.bool (true))) hΓ mix (by kernel_rfl) (ow (d_laws_szStampS_good h2) (ow (h3) ow0)) rfl
  · obtain ⟨y4, h5, h⟩ := den_bind h
    obtain ⟨y6, h7, h⟩ := den_bind h
    obtain ⟨y8, h9, h⟩ := den_bind h
    obtain ⟨y10, h11, h⟩ := den_bind h
    obtain ⟨y12, h13, h⟩ := den_bind h
    rcases den_if h with ⟨h14, h⟩ | ⟨h14, h⟩
    · have h := den_some h
      subst h
      exact AW_go (n := 2000) [[none]] [.dc (D.int .i64 (y1)), .b false, .dc (D.fr 95 3 ((y4).map Stamp.c)), .dc (D.fr 92 2 ((y6).map Fact.c)), .dc (D.fr 95 3 ((y8).map Stamp.c)), .dc (D.fr 92 2 ((y10).map Fact.c)), .dc (D.bool (y12)), .b true] (.ret (D.bool (false))) hΓ mix (by kernel_rfl) (ow (d_laws_szStampS_good h2) (ow (h3) (ow (d_laws_toStampS_good h5) (ow (d_spec_FactsIn_good h7) (ow (d_laws_toStampS_good h9) (ow (d_impl_FactsIn_good h11) (ow (d_laws_eqFactS_good h13) (ow (h14) ow0)))))))) rfl
    · obtain ⟨y15, h16, h⟩ := den_bind h
      obtain ⟨y17, h18, h⟩ := den_bind h
      rcases den_if h with ⟨h19, h⟩ | ⟨h19, h⟩
      · have h := den_some h
        subst h
        exact AW_go (n := 2000) [[none]] [.dc (D.int .i64 (y1)), .b false, .dc (D.fr 95 3 ((y4).map Stamp.c)), .dc (D.fr 92 2 ((y6).map Fact.c)), .dc (D.fr 95 3 ((y8).map Stamp.c)), .dc (D.fr 92 2 ((y10).map Fact.c)), .dc (D.bool (y12)), .b false, .dc (D.fr 95 3 ((y15).map Stamp.c)), .dc (D.bool (y17)), .b true] (.ret (D.bool (false))) hΓ mix (by kernel_rfl) (ow (d_laws_szStampS_good h2) (ow (h3) (ow (d_laws_toStampS_good h5) (ow (d_spec_FactsIn_good h7) (ow (d_laws_toStampS_good h9) (ow (d_impl_FactsIn_good h11) (ow (d_laws_eqFactS_good h13) (ow (h14) (ow (d_laws_toStampS_good h16) (ow (d_laws_eqStampS_good h18) (ow (h19) ow0))))))))))) rfl
      · obtain ⟨y20, h21, h⟩ := den_bind h
        rcases den_if h with ⟨h22, h⟩ | ⟨h22, h⟩
        · have h := den_some h
          subst h
          exact AW_go (n := 2000) [[none]] [.dc (D.int .i64 (y1)), .b false, .dc (D.fr 95 3 ((y4).map Stamp.c)), .dc (D.fr 92 2 ((y6).map Fact.c)), .dc (D.fr 95 3 ((y8).map Stamp.c)), .dc (D.fr 92 2 ((y10).map Fact.c)), .dc (D.bool (y12)), .b false, .dc (D.fr 95 3 ((y15).map Stamp.c)), .dc (D.bool (y17)), .b false, .gv [2] [(3, (y20.1).map Stamp.c)] (D.int .i64 (y20.2)), .b true, .b true, .b true, .b true, .b true, .b true] (.ret (D.bool (false))) hΓ mix (by kernel_rfl) (ow (d_laws_szStampS_good h2) (ow (h3) (ow (d_laws_toStampS_good h5) (ow (d_spec_FactsIn_good h7) (ow (d_laws_toStampS_good h9) (ow (d_impl_FactsIn_good h11) (ow (d_laws_eqFactS_good h13) (ow (h14) (ow (d_laws_toStampS_good h16) (ow (d_laws_eqStampS_good h18) (ow (h19) (ow (d_laws_markStampS_good h21) (ow (h22) (ow (h22) (ow (h22) (ow (h22) (ow (h22) (ow (show (true) = true from rfl) ow0)))))))))))))))))) rfl
        · obtain ⟨y23, h24, h⟩ := den_bind h
          rcases den_if h with ⟨h25, h⟩ | ⟨h25, h⟩
          · have h := den_some h
            subst h
            exact AW_go (n := 2000) [[none]] [.dc (D.int .i64 (y1)), .b false, .dc (D.fr 95 3 ((y4).map Stamp.c)), .dc (D.fr 92 2 ((y6).map Fact.c)), .dc (D.fr 95 3 ((y8).map Stamp.c)), .dc (D.fr 92 2 ((y10).map Fact.c)), .dc (D.bool (y12)), .b false, .dc (D.fr 95 3 ((y15).map Stamp.c)), .dc (D.bool (y17)), .b false, .gv [2] [(3, (y20.1).map Stamp.c)] (D.int .i64 (y20.2)), .b false, .b false, .b false, .dc (D.bool (y23)), .b false, .b false, .b true] (.ret (D.bool (false))) hΓ mix (by kernel_rfl) (ow (d_laws_szStampS_good h2) (ow (h3) (ow (d_laws_toStampS_good h5) (ow (d_spec_FactsIn_good h7) (ow (d_laws_toStampS_good h9) (ow (d_impl_FactsIn_good h11) (ow (d_laws_eqFactS_good h13) (ow (h14) (ow (d_laws_toStampS_good h16) (ow (d_laws_eqStampS_good h18) (ow (h19) (ow (d_laws_markStampS_good h21) (ow (h22) (ow (h22) (ow (h22) (ow (d_laws_eqFactS_good h24) (ow (h22) (ow (h22) (ow (h25) ow0))))))))))))))))))) rfl
          · obtain ⟨y26, h27, h⟩ := den_bind h
            obtain ⟨y28, h29, h⟩ := den_bind h
            rcases den_if h with ⟨h30, h⟩ | ⟨h30, h⟩
            · have h := den_some h
              subst h
              exact AW_go (n := 2000) [[none]] [.dc (D.int .i64 (y1)), .b false, .dc (D.fr 95 3 ((y4).map Stamp.c)), .dc (D.fr 92 2 ((y6).map Fact.c)), .dc (D.fr 95 3 ((y8).map Stamp.c)), .dc (D.fr 92 2 ((y10).map Fact.c)), .dc (D.bool (y12)), .b false, .dc (D.fr 95 3 ((y15).map Stamp.c)), .dc (D.bool (y17)), .b false, .gv [2] [(3, (y20.1).map Stamp.c)] (D.int .i64 (y20.2)), .b false, .b false, .b false, .dc (D.bool (y23)), .b false, .b false, .b false, .gv [3] [(2, (y26.1).map Fact.c)] (D.int .i64 (y26.2)), .dc (D.int .i64 (y28)), .b true] (.ret (D.bool (false))) hΓ mix (by kernel_rfl) (ow (d_laws_szStampS_good h2) (ow (h3) (ow (d_laws_toStampS_good h5) (ow (d_spec_FactsIn_good h7) (ow (d_laws_toStampS_good h9) (ow (d_impl_FactsIn_good h11) (ow (d_laws_eqFactS_good h13) (ow (h14) (ow (d_laws_toStampS_good h16) (ow (d_laws_eqStampS_good h18) (ow (h19) (ow (d_laws_markStampS_good h21) (ow (h22) (ow (h22) (ow (h22) (ow (d_laws_eqFactS_good h24) (ow (h22) (ow (h22) (ow (h25) (ow (d_laws_markFactS_good h27) (ow (d_laws_heldFactS_good h29) (ow (h30) ow0)))))))))))))))))))))) rfl
            · rcases den_if h with ⟨h31, h⟩ | ⟨h31, h⟩
              · have h := den_some h
                subst h
                exact AW_go (n := 2000) [[none]] [.dc (D.int .i64 (y1)), .b false, .dc (D.fr 95 3 ((y4).map Stamp.c)), .dc (D.fr 92 2 ((y6).map Fact.c)), .dc (D.fr 95 3 ((y8).map Stamp.c)), .dc (D.fr 92 2 ((y10).map Fact.c)), .dc (D.bool (y12)), .b false, .dc (D.fr 95 3 ((y15).map Stamp.c)), .dc (D.bool (y17)), .b false, .gv [2] [(3, (y20.1).map Stamp.c)] (D.int .i64 (y20.2)), .b false, .b false, .b false, .dc (D.bool (y23)), .b false, .b false, .b false, .gv [3] [(2, (y26.1).map Fact.c)] (D.int .i64 (y26.2)), .dc (D.int .i64 (y28)), .b false, .b true] (.ret (D.bool (false))) hΓ mix (by kernel_rfl) (ow (d_laws_szStampS_good h2) (ow (h3) (ow (d_laws_toStampS_good h5) (ow (d_spec_FactsIn_good h7) (ow (d_laws_toStampS_good h9) (ow (d_impl_FactsIn_good h11) (ow (d_laws_eqFactS_good h13) (ow (h14) (ow (d_laws_toStampS_good h16) (ow (d_laws_eqStampS_good h18) (ow (h19) (ow (d_laws_markStampS_good h21) (ow (h22) (ow (h22) (ow (h22) (ow (d_laws_eqFactS_good h24) (ow (h22) (ow (h22) (ow (h25) (ow (d_laws_markFactS_good h27) (ow (d_laws_heldFactS_good h29) (ow (h30) (ow (h31) ow0))))))))))))))))))))))) rfl
              · obtain ⟨y32, h33, h⟩ := den_bind h
                obtain ⟨y34, h35, h⟩ := den_bind h
                obtain ⟨y36, h37, h⟩ := den_bind h
                rcases den_if h with ⟨h38, h⟩ | ⟨h38, h⟩
                · have h := den_some h
                  subst h
                  exact AW_go (n := 2000) [[none]] [.dc (D.int .i64 (y1)), .b false, .dc (D.fr 95 3 ((y4).map Stamp.c)), .dc (D.fr 92 2 ((y6).map Fact.c)), .dc (D.fr 95 3 ((y8).map Stamp.c)), .dc (D.fr 92 2 ((y10).map Fact.c)), .dc (D.bool (y12)), .b false, .dc (D.fr 95 3 ((y15).map Stamp.c)), .dc (D.bool (y17)), .b false, .gv [2] [(3, (y20.1).map Stamp.c)] (D.int .i64 (y20.2)), .b false, .b false, .b false, .dc (D.bool (y23)), .b false, .b false, .b false, .gv [3] [(2, (y26.1).map Fact.c)] (D.int .i64 (y26.2)), .dc (D.int .i64 (y28)), .b false, .b false, .dc (D.fr 95 3 ((y32).map Stamp.c)), .dc (D.fr 92 2 ((y34).map Fact.c)), .dc (D.bool (y36)), .b true] (.ret (D.bool (false))) hΓ mix (by kernel_rfl) (ow (d_laws_szStampS_good h2) (ow (h3) (ow (d_laws_toStampS_good h5) (ow (d_spec_FactsIn_good h7) (ow (d_laws_toStampS_good h9) (ow (d_impl_FactsIn_good h11) (ow (d_laws_eqFactS_good h13) (ow (h14) (ow (d_laws_toStampS_good h16) (ow (d_laws_eqStampS_good h18) (ow (h19) (ow (d_laws_markStampS_good h21) (ow (h22) (ow (h22) (ow (h22) (ow (d_laws_eqFactS_good h24) (ow (h22) (ow (h22) (ow (h25) (ow (d_laws_markFactS_good h27) (ow (d_laws_heldFactS_good h29) (ow (h30) (ow (h31) (ow (d_laws_toStampS_good h33) (ow (d_impl_FactsIn_good h35) (ow (d_laws_eqFactS_good h37) (ow (h38) ow0))))))))))))))))))))))))))) rfl
                · obtain ⟨y39, h40, h⟩ := den_bind h
                  rcases den_if h with ⟨h41, h⟩ | ⟨h41, h⟩
                  · have h := den_some h
                    subst h
                    exact AW_go (n := 2000) [[none]] [.dc (D.int .i64 (y1)), .b false, .dc (D.fr 95 3 ((y4).map Stamp.c)), .dc (D.fr 92 2 ((y6).map Fact.c)), .dc (D.fr 95 3 ((y8).map Stamp.c)), .dc (D.fr 92 2 ((y10).map Fact.c)), .dc (D.bool (y12)), .b false, .dc (D.fr 95 3 ((y15).map Stamp.c)), .dc (D.bool (y17)), .b false, .gv [2] [(3, (y20.1).map Stamp.c)] (D.int .i64 (y20.2)), .b false, .b false, .b false, .dc (D.bool (y23)), .b false, .b false, .b false, .gv [3] [(2, (y26.1).map Fact.c)] (D.int .i64 (y26.2)), .dc (D.int .i64 (y28)), .b false, .b false, .dc (D.fr 95 3 ((y32).map Stamp.c)), .dc (D.fr 92 2 ((y34).map Fact.c)), .dc (D.bool (y36)), .b false, .dc (D.int .i64 (y39)), .b true] (.ret (D.bool (false))) hΓ mix (by kernel_rfl) (ow (d_laws_szStampS_good h2) (ow (h3) (ow (d_laws_toStampS_good h5) (ow (d_spec_FactsIn_good h7) (ow (d_laws_toStampS_good h9) (ow (d_impl_FactsIn_good h11) (ow (d_laws_eqFactS_good h13) (ow (h14) (ow (d_laws_toStampS_good h16) (ow (d_laws_eqStampS_good h18) (ow (h19) (ow (d_laws_markStampS_good h21) (ow (h22) (ow (h22) (ow (h22) (ow (d_laws_eqFactS_good h24) (ow (h22) (ow (h22) (ow (h25) (ow (d_laws_markFactS_good h27) (ow (d_laws_heldFactS_good h29) (ow (h30) (ow (h31) (ow (d_laws_toStampS_good h33) (ow (d_impl_FactsIn_good h35) (ow (d_laws_eqFactS_good h37) (ow (h38) (ow (d_laws_heldFactS_good h40) (ow (h41) ow0))))))))))))))))))))))))))))) rfl
                  · rcases den_if h with ⟨h42, h⟩ | ⟨h42, h⟩
                    · have h := den_some h
                      subst h
                      exact AW_go (n := 2000) [[none]] [.dc (D.int .i64 (y1)), .b false, .dc (D.fr 95 3 ((y4).map Stamp.c)), .dc (D.fr 92 2 ((y6).map Fact.c)), .dc (D.fr 95 3 ((y8).map Stamp.c)), .dc (D.fr 92 2 ((y10).map Fact.c)), .dc (D.bool (y12)), .b false, .dc (D.fr 95 3 ((y15).map Stamp.c)), .dc (D.bool (y17)), .b false, .gv [2] [(3, (y20.1).map Stamp.c)] (D.int .i64 (y20.2)), .b false, .b false, .b false, .dc (D.bool (y23)), .b false, .b false, .b false, .gv [3] [(2, (y26.1).map Fact.c)] (D.int .i64 (y26.2)), .dc (D.int .i64 (y28)), .b false, .b false, .dc (D.fr 95 3 ((y32).map Stamp.c)), .dc (D.fr 92 2 ((y34).map Fact.c)), .dc (D.bool (y36)), .b false, .dc (D.int .i64 (y39)), .b false, .b true] (.ret (D.bool (false))) hΓ mix (by kernel_rfl) (ow (d_laws_szStampS_good h2) (ow (h3) (ow (d_laws_toStampS_good h5) (ow (d_spec_FactsIn_good h7) (ow (d_laws_toStampS_good h9) (ow (d_impl_FactsIn_good h11) (ow (d_laws_eqFactS_good h13) (ow (h14) (ow (d_laws_toStampS_good h16) (ow (d_laws_eqStampS_good h18) (ow (h19) (ow (d_laws_markStampS_good h21) (ow (h22) (ow (h22) (ow (h22) (ow (d_laws_eqFactS_good h24) (ow (h22) (ow (h22) (ow (h25) (ow (d_laws_markFactS_good h27) (ow (d_laws_heldFactS_good h29) (ow (h30) (ow (h31) (ow (d_laws_toStampS_good h33) (ow (d_impl_FactsIn_good h35) (ow (d_laws_eqFactS_good h37) (ow (h38) (ow (d_laws_heldFactS_good h40) (ow (h41) (ow (h42) ow0)))))))))))))))))))))))))))))) rfl
                    · have h := den_some h
                      subst h
                      exact AW_go (n := 2000) [[none]] [.dc (D.int .i64 (y1)), .b false, .dc (D.fr 95 3 ((y4).map Stamp.c)), .dc (D.fr 92 2 ((y6).map Fact.c)), .dc (D.fr 95 3 ((y8).map Stamp.c)), .dc (D.fr 92 2 ((y10).map Fact.c)), .dc (D.bool (y12)), .b false, .dc (D.fr 95 3 ((y15).map Stamp.c)), .dc (D.bool (y17)), .b false, .gv [2] [(3, (y20.1).map Stamp.c)] (D.int .i64 (y20.2)), .b false, .b false, .b false, .dc (D.bool (y23)), .b false, .b false, .b false, .gv [3] [(2, (y26.1).map Fact.c)] (D.int .i64 (y26.2)), .dc (D.int .i64 (y28)), .b false, .b false, .dc (D.fr 95 3 ((y32).map Stamp.c)), .dc (D.fr 92 2 ((y34).map Fact.c)), .dc (D.bool (y36)), .b false, .dc (D.int .i64 (y39)), .b false, .b false] (.ret (D.bool (true))) hΓ mix (by kernel_rfl) (ow (d_laws_szStampS_good h2) (ow (h3) (ow (d_laws_toStampS_good h5) (ow (d_spec_FactsIn_good h7) (ow (d_laws_toStampS_good h9) (ow (d_impl_FactsIn_good h11) (ow (d_laws_eqFactS_good h13) (ow (h14) (ow (d_laws_toStampS_good h16) (ow (d_laws_eqStampS_good h18) (ow (h19) (ow (d_laws_markStampS_good h21) (ow (h22) (ow (h22) (ow (h22) (ow (d_laws_eqFactS_good h24) (ow (h22) (ow (h22) (ow (h25) (ow (d_laws_markFactS_good h27) (ow (d_laws_heldFactS_good h29) (ow (h30) (ow (h31) (ow (d_laws_toStampS_good h33) (ow (d_impl_FactsIn_good h35) (ow (d_laws_eqFactS_good h37) (ow (h38) (ow (d_laws_heldFactS_good h40) (ow (h41) (ow (h42) ow0)))))))))))))))))))))))))))))) rfl
end Go.Cx
