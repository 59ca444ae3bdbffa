/- What functions of the program compute, and the walks that show it. No condition. -/
import Derived.Test.YtamlfpljmobdoaaDoorPIsMemoryNFn1
import Derived.Test.YtamlfpljmobdoaaDoorPIsMemoryNSz
import Derived.Test.YtamlfpljmobdoaaDoorPIsMemoryNTo
import Derived.Test.YtamlfpljmobdoaaDoorPIsMemoryNEq
import Derived.Test.YtamlfpljmobdoaaDoorPIsMemoryNMk
import Derived.Test.YtamlfpljmobdoaaDoorPIsMemoryNHd
namespace Go.Cx
open Go.RowKit Go.Proofs
set_option linter.unusedVariables false
set_option linter.unusedSimpArgs false
set_option maxRecDepth 100000
def d_laws_FnExactIsMemory (a0_ : List Stamp) : Option Bool := ((d_laws_szStampS (a0_) (1048576)).bind fun y1 => (bif decide ((y1 : Int) < (0)) then (some (true)) else ((d_laws_toStampS (a0_)).bind fun y4 => ((d_spec_IsMemory (y4)).bind fun y6 => ((d_laws_toStampS (a0_)).bind fun y8 => ((d_impl_IsMemory (y8)).bind fun y10 => (bif (y10 : Bool) != (y6) then (some (false)) else ((d_laws_toStampS (a0_)).bind fun y13 => ((d_laws_eqStampS (y8) (y13)).bind fun y15 => (bif !(y15) then (some (false)) else (some (true))))))))))))
theorem d_laws_FnExactIsMemory_good {a0_ : List Stamp} {r : Bool} (h : d_laws_FnExactIsMemory a0_ = some r) : Good Tryd.prog 4 [D.sl ((a0_).map Stamp.c)] (D.bool (r)) := by
  refine Good.of (c := bodyOf Tryd.f4) Tryd.func4 rfl (by decide) (by simp [Tryd.f4]) ?_
  intro hr Γ hΓ
  have hΓ : Γ.nt = 27 := hΓ
  rw [d_laws_FnExactIsMemory] at h
  refine (show AW Tryd.prog Γ (bodyOf Tryd.f4) (KQ Tryd.prog Γ (fun _ _ => False) (RetQ Tryd.prog Tryd.f4 (D.bool (r))) []) _ from ?_)
  obtain ⟨y1, h2, h⟩ := den_bind h
  rcases den_if h with ⟨h3, h⟩ | ⟨h3, h⟩
  · have h := den_some h
    subst h
    exact AW_go (n := 2000) [[none]] [.dc (D.int .i64 (y1)), .b true] (.ret (D.bool (true))) hΓ mix (by kernel_rfl) (ow (d_laws_szStampS_good h2) (ow (h3) ow0)) rfl
  · obtain ⟨y4, h5, h⟩ := den_bind h
    obtain ⟨y6, h7, h⟩ := den_bind h
    obtain ⟨y8, h9, h⟩ := den_bind h
    obtain ⟨y10, h11, h⟩ := den_bind h
    rcases den_if h with ⟨h12, h⟩ | ⟨h12, h⟩
    · have h := den_some h
      subst h
      exact AW_go (n := 2000) [[none]] [.dc (D.int .i64 (y1)), .b false, .dc (D.fr 73 3 ((y4).map Stamp.c)), .dc (D.bool (y6)), .dc (D.fr 73 3 ((y8).map Stamp.c)), .dc (D.bool (y10)), .b true] (.ret (D.bool (false))) hΓ mix (by kernel_rfl) (ow (d_laws_szStampS_good h2) (ow (h3) (ow (d_laws_toStampS_good h5) (ow (d_spec_IsMemory_good h7) (ow (d_laws_toStampS_good h9) (ow (d_impl_IsMemory_good h11) (ow (h12) ow0))))))) rfl
    · obtain ⟨y13, h14, h⟩ := den_bind h
      obtain ⟨y15, h16, h⟩ := den_bind h
      rcases den_if h with ⟨h17, h⟩ | ⟨h17, h⟩
      · have h := den_some h
        subst h
        exact AW_go (n := 2000) [[none]] [.dc (D.int .i64 (y1)), .b false, .dc (D.fr 73 3 ((y4).map Stamp.c)), .dc (D.bool (y6)), .dc (D.fr 73 3 ((y8).map Stamp.c)), .dc (D.bool (y10)), .b false, .dc (D.fr 73 3 ((y13).map Stamp.c)), .dc (D.bool (y15)), .b true] (.ret (D.bool (false))) hΓ mix (by kernel_rfl) (ow (d_laws_szStampS_good h2) (ow (h3) (ow (d_laws_toStampS_good h5) (ow (d_spec_IsMemory_good h7) (ow (d_laws_toStampS_good h9) (ow (d_impl_IsMemory_good h11) (ow (h12) (ow (d_laws_toStampS_good h14) (ow (d_laws_eqStampS_good h16) (ow (h17) ow0)))))))))) rfl
      · have h := den_some h
        subst h
        exact AW_go (n := 2000) [[none]] [.dc (D.int .i64 (y1)), .b false, .dc (D.fr 73 3 ((y4).map Stamp.c)), .dc (D.bool (y6)), .dc (D.fr 73 3 ((y8).map Stamp.c)), .dc (D.bool (y10)), .b false, .dc (D.fr 73 3 ((y13).map Stamp.c)), .dc (D.bool (y15)), .b false] (.ret (D.bool (true))) hΓ mix (by kernel_rfl) (ow (d_laws_szStampS_good h2) (ow (h3) (ow (d_laws_toStampS_good h5) (ow (d_spec_IsMemory_good h7) (ow (d_laws_toStampS_good h9) (ow (d_impl_IsMemory_good h11) (ow (h12) (ow (d_laws_toStampS_good h14) (ow (d_laws_eqStampS_good h16) (ow (h17) ow0)))))))))) rfl
end Go.Cx
