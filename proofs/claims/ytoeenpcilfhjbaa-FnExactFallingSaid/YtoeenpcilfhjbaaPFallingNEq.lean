/- What functions of the program compute, and the walks that show it. No condition. -/
import Derived.Test.YtoeenpcilfhjbaaNData
namespace Go.Cx
open Go.RowKit Go.Proofs
set_option linter.unusedVariables false
set_option linter.unusedSimpArgs false
set_option maxRecDepth 100000
variable {Γ : Ctx} {N : Nat → St → Prop}
def d_laws_eqIntS_L1 (a0_ : List Int) (a1_ : List Int) (k1 : Option Bool) : List Int → Nat → Option Bool
  | [], i1 => (k1 )
  | x1_ :: xs1, i1 => ((atI (a1_) ((i1 : Int))).bind fun x22 => (bif (x1_ : Int) != (x22) then (some (false)) else (d_laws_eqIntS_L1 a0_ a1_ k1 xs1 (i1 + 1) )))
def d_laws_eqIntS (a0_ : List Int) (a1_ : List Int) : Option Bool := (bif ((((a0_).map ixx).length : Int) : Int) != ((((a1_).map ixx).length : Int)) then (some (false)) else (d_laws_eqIntS_L1 a0_ a1_ (some (true)) (a0_) 0 ))
def d_laws_eqIntS_S1 (a0_ : List Int) (a1_ : List Int) (ix_ : Int) : St := ⟨[(0, D.sl ((a0_).map ixx)), (1, D.sl ((a1_).map ixx)), (5, D.int .i64 (ix_))], []⟩
theorem d_laws_eqIntS_L1w (hΓ : Γ.nt = 26) {a0_ : List Int} {a1_ : List Int} {r : Bool} {k1 : Option Bool} (hE1 : k1 = some r → Ax Γ N Try.f10 (.q [[none]] (D.bool (r))) [1, 1, 1] ⟨[], []⟩) (hm1 : (a0_).length ≤ maxLen) : ∀ (rest : List Int) (i1 : Nat) , (a0_).drop i1 = rest → d_laws_eqIntS_L1 a0_ a1_ k1 rest i1  = some r → Ar Γ N Try.f10 (.q [[none]] (D.bool (r))) [1, 1, 0, 1, 0] (rest.length + 1) (d_laws_eqIntS_S1 a0_ a1_ ((i1 : Int))) := by
  intro rest
  induction rest with
  | nil =>
    intro i1  hd1 h
    rw [d_laws_eqIntS_L1] at h
    refine AWr_succ fun N1 hN1 hS1 => ?_
    exact ((pre0.ge ixx hd1).a [.hl 0 [] []]).ex hΓ hN1 (hE1 h)
  | cons x1_ xs1 ih1 =>
    intro i1  hd1 h
    rw [d_laws_eqIntS_L1] at h
    refine AWr_succ fun N1 hN1 hS1 => ?_
    obtain ⟨x22, h23, h⟩ := den_bind h
    have o2_ := ((((pre0.lt ixx hd1).a [.n 8]).l (map_row ixx 1 (dc hd1) rfl)).l (at_row ixx 1 h23 rfl))
    obtain ⟨h24, h⟩ | ⟨h24, h⟩ := den_if h
    · have h := den_some h; subst h; exact (o2_.b h24).ret hΓ
    · exact ((o2_.b h24).a [.cn [0, 1, 5] []]).ct hΓ hS1 (iS hd1 hm1) (ih1 (i1 + 1)  (dn hd1) h)
theorem d_laws_eqIntS_good {a0_ : List Int} {a1_ : List Int} {r : Bool} (h : d_laws_eqIntS a0_ a1_ = some r) : Good Try.prog 10 [D.sl ((a0_).map ixx), D.sl ((a1_).map ixx)] (D.bool (r)) := by
  refine gd Try.func10 [[none]] 26 fun hr Γ hΓ => ?_
  rw [d_laws_eqIntS] at h
  obtain ⟨h1, h⟩ | ⟨h1, h⟩ := den_if h
  · have h := den_some h; subst h; exact (pre0.b h1).ret hΓ
  · refine ((pre0.b h1).a [.cn [0, 1, 5] []]).lp hΓ (d_laws_eqIntS_L1w hΓ (fun h => ?_) (by have := (Rdb.sl (hr _ (List.mem_of_getElem? (i := 0) rfl))).1; simpa using this) (a0_) 0  rfl h)
    have h := den_some h; subst h; exact pre0.ret hΓ
end Go.Cx
