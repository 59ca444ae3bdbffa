/- What functions of the program compute, and the walks that show it. No condition. -/
import Derived.Test.YtoeenpcilfhjbaaPFnFallingNFn1
namespace Go.Cx
open Go.RowKit Go.Proofs
set_option linter.unusedVariables false
set_option linter.unusedSimpArgs false
set_option maxRecDepth 100000
variable {Γ : Ctx} {N : Nat → St → Prop}
def d_laws_big (a0_ : List Int) : Option Bool := (some (decide (((((a0_).map yx).length : Int) : Int) > (4096))))
theorem d_laws_big_good {a0_ : List Int} {r : Bool} (h : d_laws_big a0_ = some r) : Good Try.prog 5 [D.sl ((a0_).map yx)] (D.bool (r)) := by
  refine gd Try.func5 [[none]] 6 fun hr Γ hΓ => ?_
  rw [d_laws_big] at h
  cases h; exact pre0.ret hΓ
def d_laws_FnFalling_L2 (y4 : List Int) (y6 : List Int) (i1 : Nat) (x1_ : Int) (k2 : Int → Int → Option Bool) : List Int → Nat → Int → Int → Option Bool
  | [], i2, v2_6, v2_7 => (k2 (v2_6) (v2_7))
  | x2_ :: xs2, i2, v2_6, v2_7 => (bif (x2_ : Int) == (x1_) then (bif decide (i2 < ((y6).map ixx).length) then (((y6)[i2]?).bind fun x444 => (bif (x444 : Int) == (x1_) then (d_laws_FnFalling_L2 y4 y6 i1 x1_ k2 xs2 (i2 + 1) (IntKind.i64.wrap ((v2_6) + (1))) (IntKind.i64.wrap ((v2_7) + (1)))) else (d_laws_FnFalling_L2 y4 y6 i1 x1_ k2 xs2 (i2 + 1) (IntKind.i64.wrap ((v2_6) + (1))) (v2_7)))) else none) else (bif decide (i2 < ((y6).map ixx).length) then (((y6)[i2]?).bind fun x448 => (bif (x448 : Int) == (x1_) then (d_laws_FnFalling_L2 y4 y6 i1 x1_ k2 xs2 (i2 + 1) (v2_6) (IntKind.i64.wrap ((v2_7) + (1)))) else (d_laws_FnFalling_L2 y4 y6 i1 x1_ k2 xs2 (i2 + 1) (v2_6) (v2_7)))) else none))
def d_laws_FnFalling_L1 (y4 : List Int) (y6 : List Int) (k1 : Option Bool) : List Int → Nat → Option Bool
  | [], i1 => (k1 )
  | x1_ :: xs1, i1 => (bif decide ((y4).length ≤ maxLen) then (d_laws_FnFalling_L2 y4 y6 i1 x1_ (fun (z2_6 : Int) (z2_7 : Int) => (bif (z2_6 : Int) != (z2_7) then (some (false)) else (bif decide (((i1 : Int) : Int) > (0)) then ((atI (y6) (IntKind.i64.wrap (((i1 : Int)) - (1)))).bind fun x453 => (bif decide ((x453 : Int) < (x1_)) then (some (false)) else (d_laws_FnFalling_L1 y4 y6 k1 xs1 (i1 + 1) ))) else (d_laws_FnFalling_L1 y4 y6 k1 xs1 (i1 + 1) )))) (y4) 0 (0) (0)) else none)
def d_laws_FnFalling (a0_ : List Int) : Option Bool := ((d_laws_big (a0_)).bind fun y1 => (bif y1 then (some (true)) else ((d_spec_DrawFalling (a0_)).bind fun y4 => ((d_impl_Falling (y4)).bind fun y6 => (bif ((((y6).map ixx).length : Int) : Int) != ((((y4).map ixx).length : Int)) then (some (false)) else (bif decide ((y6).length ≤ maxLen) then (d_laws_FnFalling_L1 y4 y6 (some (true)) (y6) 0 ) else none))))))
def d_laws_FnFalling_S1 (y4 : List Int) (y6 : List Int) (ix_ : Int) : St := ⟨[(3, D.acc 0), (4, D.acc 1), (5, D.int .i64 (ix_))], [Ob.row .uq 3 1 ((y4).map ixx), Ob.row .uq 3 1 ((y6).map ixx)]⟩
def d_laws_FnFalling_S2 (y4 : List Int) (y6 : List Int) (i1 : Nat) (v2_6 : Int) (v2_7 : Int) (ix_ : Int) : St := ⟨[(3, D.acc 0), (4, D.acc 1), (5, D.int .i64 ((i1 : Int))), (6, D.int .i64 (v2_6)), (7, D.int .i64 (v2_7)), (8, D.int .i64 (ix_))], [Ob.row .uq 3 1 ((y4).map ixx), Ob.row .uq 3 1 ((y6).map ixx)]⟩
theorem d_laws_FnFalling_L2w (hΓ : Γ.nt = 73) {y4 : List Int} {y6 : List Int} {i1 : Nat} {x1_ : Int} {r : Bool} {k2 : Int → Int → Option Bool} (hE2 : ∀ (z2_6 : Int) (z2_7 : Int), k2 z2_6 z2_7 = some r → Ax Γ N Try.f3 (.q [[none]] (D.bool (r))) [1, 1, 1, 1, 1, 0, 1, 0, 0, 1, 0, 0, 1, 1, 1] ⟨[(3, D.acc 0), (4, D.acc 1), (5, D.int .i64 ((i1 : Int))), (6, D.int .i64 (z2_6)), (7, D.int .i64 (z2_7))], [Ob.row .uq 3 1 ((y4).map ixx), Ob.row .uq 3 1 ((y6).map ixx)]⟩) (hx1 : (y6)[i1]? = some x1_) (hm2 : (y4).length ≤ maxLen) : ∀ (rest : List Int) (i2 : Nat) (v2_6 : Int) (v2_7 : Int), (y4).drop i2 = rest → d_laws_FnFalling_L2 y4 y6 i1 x1_ k2 rest i2 v2_6 v2_7 = some r → Ar Γ N Try.f3 (.q [[none]] (D.bool (r))) [1, 1, 1, 1, 1, 0, 1, 0, 0, 1, 0, 0, 1, 1, 0, 1, 0] (rest.length + 1) (d_laws_FnFalling_S2 y4 y6 i1 v2_6 v2_7 ((i2 : Int))) := by
  intro rest
  induction rest with
  | nil =>
    intro i2 v2_6 v2_7 hd2 h
    rw [d_laws_FnFalling_L2] at h
    refine AWr_succ fun N2 hN2 hS2 => ?_
    exact ((pre0.ge ixx hd2).a [.hl 5 [3, 4, 5, 6, 7] [0, 1]]).ex hΓ hN2 (hE2 (v2_6) (v2_7) h)
  | cons x2_ xs2 ih2 =>
    intro i2 v2_6 v2_7 hd2 h
    rw [d_laws_FnFalling_L2] at h
    refine AWr_succ fun N2 hN2 hS2 => ?_
    have o30_ := ((((((pre0.lt ixx hd2).a [.n 8]).i (own_ixl ixx 1 (dc hd2))).o 1 1 .uq (map_get ixx (dc hd2))).i (own_ixl ixx 1 hx1)).o 1 1 .uq (map_get ixx hx1))
    obtain ⟨h442, h⟩ | ⟨h442, h⟩ := den_if h
    · obtain ⟨h443, h⟩ := den_ok h
      obtain ⟨x444, h445, h⟩ := den_bind h
      have o31_ := ((((((o30_.b h442).a [.n 8]).i (own_ix 1 h443)).o 1 1 .uq (map_get ixx h445)).i (own_ixl ixx 1 hx1)).o 1 1 .uq (map_get ixx hx1))
      obtain ⟨h446, h⟩ | ⟨h446, h⟩ := den_if h
      · exact ((o31_.b h446).a [.cn [3, 4, 5, 6, 7, 8] [0, 1]]).ct hΓ hS2 (iS hd2 hm2) (ih2 (i2 + 1) (IntKind.i64.wrap ((v2_6) + (1))) (IntKind.i64.wrap ((v2_7) + (1))) (dn hd2) h)
      · exact ((o31_.b h446).a [.cn [3, 4, 5, 6, 7, 8] [0, 1]]).ct hΓ hS2 (iS hd2 hm2) (ih2 (i2 + 1) (IntKind.i64.wrap ((v2_6) + (1))) (v2_7) (dn hd2) h)
    · obtain ⟨h447, h⟩ := den_ok h
      obtain ⟨x448, h449, h⟩ := den_bind h
      have o32_ := ((((((o30_.b h442).a [.n 8]).i (own_ix 1 h447)).o 1 1 .uq (map_get ixx h449)).i (own_ixl ixx 1 hx1)).o 1 1 .uq (map_get ixx hx1))
      obtain ⟨h450, h⟩ | ⟨h450, h⟩ := den_if h
      · exact ((o32_.b h450).a [.cn [3, 4, 5, 6, 7, 8] [0, 1]]).ct hΓ hS2 (iS hd2 hm2) (ih2 (i2 + 1) (v2_6) (IntKind.i64.wrap ((v2_7) + (1))) (dn hd2) h)
      · exact ((o32_.b h450).a [.cn [3, 4, 5, 6, 7, 8] [0, 1]]).ct hΓ hS2 (iS hd2 hm2) (ih2 (i2 + 1) (v2_6) (v2_7) (dn hd2) h)
theorem d_laws_FnFalling_L1w (hΓ : Γ.nt = 73) {y4 : List Int} {y6 : List Int} {r : Bool} {k1 : Option Bool} (hE1 : k1 = some r → Ax Γ N Try.f3 (.q [[none]] (D.bool (r))) [1, 1, 1, 1, 1, 1] ⟨[], []⟩) (hm1 : (y6).length ≤ maxLen) : ∀ (rest : List Int) (i1 : Nat) , (y6).drop i1 = rest → d_laws_FnFalling_L1 y4 y6 k1 rest i1  = some r → Ar Γ N Try.f3 (.q [[none]] (D.bool (r))) [1, 1, 1, 1, 1, 0, 1, 0] (rest.length + 1) (d_laws_FnFalling_S1 y4 y6 ((i1 : Int))) := by
  intro rest
  induction rest with
  | nil =>
    intro i1  hd1 h
    rw [d_laws_FnFalling_L1] at h
    refine AWr_succ fun N1 hN1 hS1 => ?_
    exact ((pre0.ge ixx hd1).a [.hl 0 [] []]).ex hΓ hN1 (hE1 h)
  | cons x1_ xs1 ih1 =>
    intro i1  hd1 h
    rw [d_laws_FnFalling_L1] at h
    refine AWr_succ fun N1 hN1 hS1 => ?_
    obtain ⟨h456, h⟩ := den_ok h
    refine ((pre0.lt ixx hd1).a [.cn [3, 4, 5, 6, 7, 8] [0, 1]]).lp hΓ (d_laws_FnFalling_L2w hΓ (fun z2_6 z2_7 h => ?_) ((drop_cons hd1).1) (of_decide_eq_true h456) (y4) 0 (0) (0) rfl h)
    obtain ⟨h451, h⟩ | ⟨h451, h⟩ := den_if h
    · have h := den_some h; subst h; exact (((((pre0.a [.n 16]).r 3 h451).a [bF, bF, bF, bF, bF, bF, bF, bF, bF, bF]).r 2 h451).T 1).ret hΓ
    · have o33_ := ((pre0.a [.n 16]).r 3 h451)
      obtain ⟨h452, h⟩ | ⟨h452, h⟩ := den_if h
      · obtain ⟨x453, h454, h⟩ := den_bind h
        have o34_ := ((((((((((((o33_.r 4 h452).i (own_at ixx 1 h454)).b h452).o 1 1 .uq (map_get ixx (atI_get h454))).r 3 h452).i (own_ixl ixx 1 (dc hd1))).b h452).o 1 1 .uq (map_get ixx (dc hd1))).b h452).b h451).b h452).b h451)
        obtain ⟨h455, h⟩ | ⟨h455, h⟩ := den_if h
        · have h := den_some h; subst h; exact (o34_.b h455).ret hΓ
        · exact ((o34_.b h455).a [.cn [3, 4, 5] [0, 1]]).ct hΓ hS1 (iS hd1 hm1) (ih1 (i1 + 1)  (dn hd1) h)
      · exact ((((((o33_.r 10 h452).b h451).b h452).b h451).F 1).a [.cn [3, 4, 5] [0, 1]]).ct hΓ hS1 (iS hd1 hm1) (ih1 (i1 + 1)  (dn hd1) h)
theorem d_laws_FnFalling_good {a0_ : List Int} {r : Bool} (h : d_laws_FnFalling a0_ = some r) : Good Try.prog 3 [D.sl ((a0_).map yx)] (D.bool (r)) := by
  refine gd Try.func3 [[none]] 73 fun hr Γ hΓ => ?_
  rw [d_laws_FnFalling] at h
  obtain ⟨y1, h2, h⟩ := den_bind h
  obtain ⟨h3, h⟩ | ⟨h3, h⟩ := den_if h
  · have h := den_some h; subst h; exact ((pre0.g (d_laws_big_good h2)).b h3).ret hΓ
  · obtain ⟨y4, h5, h⟩ := den_bind h
    obtain ⟨y6, h7, h⟩ := den_bind h
    have o35_ := ((((pre0.g (d_laws_big_good h2)).b h3).g (d_spec_DrawFalling_good h5)).g (d_impl_Falling_good h7))
    obtain ⟨h8, h⟩ | ⟨h8, h⟩ := den_if h
    · have h := den_some h; subst h; exact (o35_.b h8).ret hΓ
    · obtain ⟨h457, h⟩ := den_ok h
      refine ((o35_.b h8).a [.cn [3, 4, 5] [0, 1]]).lp hΓ (d_laws_FnFalling_L1w hΓ (fun h => ?_) (of_decide_eq_true h457) (y6) 0  rfl h)
      have h := den_some h; subst h; exact pre0.ret hΓ
end Go.Cx
