/- What functions of the program compute, and the walks that show it. No condition. -/
import Derived.Test.YtoeenpcilfhjbaaPFallingNMk
namespace Go.Cx
open Go.RowKit Go.Proofs
set_option linter.unusedVariables false
set_option linter.unusedSimpArgs false
set_option maxRecDepth 100000
variable {Γ : Ctx} {N : Nat → St → Prop}
def d_laws_heldIntS_L1 (a0_ : List Int) (k1 : Int → Option Int) : List Int → Nat → Int → Option Int
  | [], i1, v1_1 => (k1 (v1_1))
  | x1_ :: xs1, i1, v1_1 => (bif (x1_ : Int) != (v1_1) then (some (-1)) else (d_laws_heldIntS_L1 a0_ k1 xs1 (i1 + 1) (IntKind.i64.wrap ((v1_1) + (1)))))
def d_laws_heldIntS (a0_ : List Int) (a1_ : Int) : Option Int := (d_laws_heldIntS_L1 a0_ (fun (z1_1 : Int) => (some (z1_1))) (a0_) 0 (a1_))
def d_laws_heldIntS_S1 (a0_ : List Int) (v1_1 : Int) (ix_ : Int) : St := ⟨[(0, D.sl ((a0_).map ixx)), (1, D.int .i64 (v1_1)), (5, D.int .i64 (ix_))], []⟩
theorem d_laws_heldIntS_L1w (hΓ : Γ.nt = 21) {a0_ : List Int} {r : Int} {k1 : Int → Option Int} (hE1 : ∀ (z1_1 : Int), k1 z1_1 = some r → Ax Γ N Try.f12 (.q [[none]] (D.int .i64 (r))) [1, 1] ⟨[(1, D.int .i64 (z1_1))], []⟩) (hm1 : (a0_).length ≤ maxLen) : ∀ (rest : List Int) (i1 : Nat) (v1_1 : Int), (a0_).drop i1 = rest → d_laws_heldIntS_L1 a0_ k1 rest i1 v1_1 = some r → Ar Γ N Try.f12 (.q [[none]] (D.int .i64 (r))) [1, 0, 1, 0] (rest.length + 1) (d_laws_heldIntS_S1 a0_ v1_1 ((i1 : Int))) := by
  intro rest
  induction rest with
  | nil =>
    intro i1 v1_1 hd1 h
    rw [d_laws_heldIntS_L1] at h
    refine AWr_succ fun N1 hN1 hS1 => ?_
    exact ((pre0.ge ixx hd1).a [.hl 0 [1] []]).ex hΓ hN1 (hE1 (v1_1) h)
  | cons x1_ xs1 ih1 =>
    intro i1 v1_1 hd1 h
    rw [d_laws_heldIntS_L1] at h
    refine AWr_succ fun N1 hN1 hS1 => ?_
    have o2_ := ((pre0.lt ixx hd1).l (map_row ixx 1 (dc hd1) rfl))
    obtain ⟨h13, h⟩ | ⟨h13, h⟩ := den_if h
    · cases h; exact (o2_.b h13).ret hΓ
    · exact ((o2_.b h13).a [.cn [0, 1, 5] []]).ct hΓ hS1 (iS hd1 hm1) (ih1 (i1 + 1) (IntKind.i64.wrap ((v1_1) + (1))) (dn hd1) h)
theorem d_laws_heldIntS_good {a0_ : List Int} {a1_ : Int} {r : Int} (h : d_laws_heldIntS a0_ a1_ = some r) : Good Try.prog 12 [D.sl ((a0_).map ixx), D.int .i64 (a1_)] (D.int .i64 (r)) := by
  refine gd Try.func12 [[none]] 21 fun hr Γ hΓ => ?_
  rw [d_laws_heldIntS] at h
  refine (pre0.a [.cn [0, 1, 5] []]).lp hΓ (d_laws_heldIntS_L1w hΓ (fun z1_1 h => ?_) (by have := (Rdb.sl (hr _ (List.mem_of_getElem? (i := 0) rfl))).1; simpa using this) (a0_) 0 (a1_) rfl h)
  have h := den_some h; subst h; exact pre0.ret hΓ
end Go.Cx
