/- What functions of the program compute, and the walks that show it. No condition. -/
import Derived.Test.YtpglgncmlcpgdaaGreatDoorPFnMonotoneMatchesNFn2
namespace Go.Cx
open Go.RowKit Go.Proofs
set_option linter.unusedVariables false
set_option linter.unusedSimpArgs false
set_option maxRecDepth 100000
variable {Γ : Ctx} {N : Nat → St → Prop}
def d_laws_big (a0_ : List Int) : Option Bool := (some (decide (((((a0_).map yx).length : Int) : Int) > (4096))))
theorem d_laws_big_good {a0_ : List Int} {r : Bool} (h : d_laws_big a0_ = some r) : Good Tryz.prog 6 [D.sl ((a0_).map yx)] (D.bool (r)) := by
  refine gd Tryz.func6 [[none]] 6 fun hr Γ hΓ => ?_
  rw [d_laws_big] at h
  cases h; exact pre0.ret hΓ
def d_laws_hasMatch_L1 (a0_ : List Match) (a1_ : Match) (k1 : Option Bool) : List Match → Nat → Option Bool
  | [], i1 => (k1 )
  | x1_ :: xs1, i1 => ((d_spec_SameMatch (x1_) (a1_)).bind fun y21 => (bif y21 then (some (true)) else (d_laws_hasMatch_L1 a0_ a1_ k1 xs1 (i1 + 1) )))
def d_laws_hasMatch (a0_ : List Match) (a1_ : Match) : Option Bool := (d_laws_hasMatch_L1 a0_ a1_ (some (false)) (a0_) 0 )
def d_laws_hasMatch_S1 (a0_ : List Match) (a1_ : Match) (ix_ : Int) : St := ⟨[(0, D.sl ((a0_).map Match.c)), (3, D.ptr 0 0), (5, D.int .i64 (ix_))], [Ob.box (Match.c a1_)]⟩
theorem d_laws_hasMatch_L1w (hΓ : Γ.nt = 18) {a0_ : List Match} {a1_ : Match} {r : Bool} {k1 : Option Bool} (hE1 : k1 = some r → Ax Γ N Tryz.f21 (.q [[none]] (D.bool (r))) [1, 1] ⟨[], []⟩) (hm1 : (a0_).length ≤ maxLen) : ∀ (rest : List Match) (i1 : Nat) , (a0_).drop i1 = rest → d_laws_hasMatch_L1 a0_ a1_ k1 rest i1  = some r → Ar Γ N Tryz.f21 (.q [[none]] (D.bool (r))) [1, 0, 1, 0] (rest.length + 1) (d_laws_hasMatch_S1 a0_ a1_ ((i1 : Int))) := by
  intro rest
  induction rest with
  | nil =>
    intro i1  hd1 h
    rw [d_laws_hasMatch_L1] at h
    refine AWr_succ fun N1 hN1 hS1 => ?_
    exact ((pre0.ge Match.c hd1).a [.hl 0 [] []]).ex hΓ hN1 (hE1 h)
  | cons x1_ xs1 ih1 =>
    intro i1  hd1 h
    rw [d_laws_hasMatch_L1] at h
    refine AWr_succ fun N1 hN1 hS1 => ?_
    obtain ⟨y21, h22, h⟩ := den_bind h
    have o2_ := ((((pre0.lt Match.c hd1).a [.n 5]).l (map_row Match.c 3 (dc hd1) rfl)).g (d_spec_SameMatch_good h22))
    obtain ⟨h23, h⟩ | ⟨h23, h⟩ := den_if h
    · have h := den_some h; subst h; exact (o2_.b h23).ret hΓ
    · exact ((o2_.b h23).a [.cn [0, 3, 5] [0]]).ct hΓ hS1 (iS hd1 hm1) (ih1 (i1 + 1)  (dn hd1) h)
theorem d_laws_hasMatch_good {a0_ : List Match} {a1_ : Match} {r : Bool} (h : d_laws_hasMatch a0_ a1_ = some r) : Good Tryz.prog 21 [D.sl ((a0_).map Match.c), D.agg (Match.c a1_)] (D.bool (r)) := by
  refine gd Tryz.func21 [[none]] 18 fun hr Γ hΓ => ?_
  rw [d_laws_hasMatch] at h
  refine (pre0.a [.cn [0, 3, 5] [0]]).lp hΓ (d_laws_hasMatch_L1w hΓ (fun h => ?_) (by have := (Rdb.sl (hr _ (List.mem_of_getElem? (i := 0) rfl))).1; simpa using this) (a0_) 0  rfl h)
  have h := den_some h; subst h; exact pre0.ret hΓ
def d_laws_FnMonotoneMatches_L1 (y6 : (List Fact) × Fact) (y19 : List Match) (y21 : List Match) (k1 : Option Bool) : List Match → Nat → Option Bool
  | [], i1 => (k1 )
  | x1_ :: xs1, i1 => ((d_laws_hasMatch (y21) (x1_)).bind fun y44 => (bif !(y44) then (some (false)) else (d_laws_FnMonotoneMatches_L1 y6 y19 y21 k1 xs1 (i1 + 1) )))
def d_laws_FnMonotoneMatches_L2 (y6 : (List Fact) × Fact) (y19 : List Match) (y21 : List Match) (k2 : Option Bool) : List Match → Nat → Option Bool
  | [], i2 => (k2 )
  | x2_ :: xs2, i2 => ((d_laws_hasMatch (y19) (x2_)).bind fun y81 => (bif !(y81) then ((d_impl_UsesFact (x2_) (y6.2)).bind fun y84 => (bif !(y84) then (some (false)) else (d_laws_FnMonotoneMatches_L2 y6 y19 y21 k2 xs2 (i2 + 1) ))) else (d_laws_FnMonotoneMatches_L2 y6 y19 y21 k2 xs2 (i2 + 1) )))
def d_laws_FnMonotoneMatches (a0_ : List Int) : Option Bool := ((d_laws_big (a0_)).bind fun y1 => (bif y1 then (some (true)) else ((d_spec_DrawMatchesOf (a0_)).bind fun y4 => ((d_spec_DrawAddFact (a0_)).bind fun y6 => ((d_spec_AddFact (y4.2) (y6.2)).bind fun y8 => ((d_impl_IsMonotone (y4.1)).bind fun y10 => ((d_spec_IsMonotone (y4.1)).bind fun y12 => (bif (y10 : Bool) != (y12) then (some (false)) else ((d_impl_IsMonotone (y4.1)).bind fun y15 => (bif !(y15) then (some (true)) else (bif !(y8.2) then (some (true)) else ((d_impl_MatchesOf (y4.1) (y4.2)).bind fun y19 => ((d_impl_MatchesOf (y4.1) (y8.1)).bind fun y21 => (bif decide ((y19).length ≤ maxLen) then (d_laws_FnMonotoneMatches_L1 y6 y19 y21 (bif decide ((y21).length ≤ maxLen) then (d_laws_FnMonotoneMatches_L2 y6 y19 y21 (some (true)) (y21) 0 ) else none) (y19) 0 ) else none))))))))))))))
def d_laws_FnMonotoneMatches_S1 (y6 : (List Fact) × Fact) (y19 : List Match) (y21 : List Match) (ix_ : Int) : St := ⟨[(6, D.ptr 0 0), (9, D.acc 1), (10, D.acc 2), (11, D.int .i64 (ix_))], [Ob.box [D.str (y6.2.rel), D.acc 3], Ob.row .uq 49 3 ((y19).map Match.c), Ob.row .uq 49 3 ((y21).map Match.c), Ob.row .uq 9 1 ((y6.2.args).map tx)]⟩
theorem d_laws_FnMonotoneMatches_L1w (hΓ : Γ.nt = 84) {y6 : (List Fact) × Fact} {y19 : List Match} {y21 : List Match} {r : Bool} {k1 : Option Bool} (hE1 : k1 = some r → Ax Γ N Tryz.f5 (.q [[none]] (D.bool (r))) [1, 1, 1, 1, 1, 1, 1, 1, 1, 1] ⟨[(6, D.ptr 0 0), (9, D.acc 1), (10, D.acc 2)], [Ob.box [D.str (y6.2.rel), D.acc 3], Ob.row .uq 49 3 ((y19).map Match.c), Ob.row .uq 49 3 ((y21).map Match.c), Ob.row .uq 9 1 ((y6.2.args).map tx)]⟩) (hm1 : (y19).length ≤ maxLen) : ∀ (rest : List Match) (i1 : Nat) , (y19).drop i1 = rest → d_laws_FnMonotoneMatches_L1 y6 y19 y21 k1 rest i1  = some r → Ar Γ N Tryz.f5 (.q [[none]] (D.bool (r))) [1, 1, 1, 1, 1, 1, 1, 1, 1, 0, 1, 0] (rest.length + 1) (d_laws_FnMonotoneMatches_S1 y6 y19 y21 ((i1 : Int))) := by
  intro rest
  induction rest with
  | nil =>
    intro i1  hd1 h
    rw [d_laws_FnMonotoneMatches_L1] at h
    refine AWr_succ fun N1 hN1 hS1 => ?_
    exact ((pre0.ge Match.c hd1).a [.hl 0 [6, 9, 10] [0, 1, 2, 3]]).ex hΓ hN1 (hE1 h)
  | cons x1_ xs1 ih1 =>
    intro i1  hd1 h
    rw [d_laws_FnMonotoneMatches_L1] at h
    refine AWr_succ fun N1 hN1 hS1 => ?_
    obtain ⟨y44, h45, h⟩ := den_bind h
    have o4_ := ((((pre0.lt Match.c hd1).i (own_ixl Match.c 3 (dc hd1))).o 3 3 .uq (map_get Match.c (dc hd1))).g (d_laws_hasMatch_good h45))
    obtain ⟨h46, h⟩ | ⟨h46, h⟩ := den_if h
    · have h := den_some h; subst h; exact (o4_.b h46).ret hΓ
    · exact ((o4_.b h46).a [.cn [6, 9, 10, 11] [0, 1, 2, 3]]).ct hΓ hS1 (iS hd1 hm1) (ih1 (i1 + 1)  (dn hd1) h)
def d_laws_FnMonotoneMatches_S2 (y6 : (List Fact) × Fact) (y19 : List Match) (y21 : List Match) (ix_ : Int) : St := ⟨[(6, D.ptr 0 0), (9, D.acc 1), (10, D.acc 2), (12, D.int .i64 (ix_))], [Ob.box [D.str (y6.2.rel), D.acc 3], Ob.row .uq 49 3 ((y19).map Match.c), Ob.row .uq 49 3 ((y21).map Match.c), Ob.row .uq 9 1 ((y6.2.args).map tx)]⟩
theorem d_laws_FnMonotoneMatches_L2w (hΓ : Γ.nt = 84) {y6 : (List Fact) × Fact} {y19 : List Match} {y21 : List Match} {r : Bool} {k2 : Option Bool} (hE2 : k2 = some r → Ax Γ N Tryz.f5 (.q [[none]] (D.bool (r))) [1, 1, 1, 1, 1, 1, 1, 1, 1, 1, 1] ⟨[], []⟩) (hm2 : (y21).length ≤ maxLen) : ∀ (rest : List Match) (i2 : Nat) , (y21).drop i2 = rest → d_laws_FnMonotoneMatches_L2 y6 y19 y21 k2 rest i2  = some r → Ar Γ N Tryz.f5 (.q [[none]] (D.bool (r))) [1, 1, 1, 1, 1, 1, 1, 1, 1, 1, 0, 1, 0] (rest.length + 1) (d_laws_FnMonotoneMatches_S2 y6 y19 y21 ((i2 : Int))) := by
  intro rest
  induction rest with
  | nil =>
    intro i2  hd2 h
    rw [d_laws_FnMonotoneMatches_L2] at h
    refine AWr_succ fun N2 hN2 hS2 => ?_
    exact ((pre0.ge Match.c hd2).a [.hl 0 [] []]).ex hΓ hN2 (hE2 h)
  | cons x2_ xs2 ih2 =>
    intro i2  hd2 h
    rw [d_laws_FnMonotoneMatches_L2] at h
    refine AWr_succ fun N2 hN2 hS2 => ?_
    obtain ⟨y81, h82, h⟩ := den_bind h
    have o5_ := (((((pre0.lt Match.c hd2).a [.n 13]).i (own_ixl Match.c 3 (dc hd2))).o 3 3 .uq (map_get Match.c (dc hd2))).g (d_laws_hasMatch_good h82))
    obtain ⟨h83, h⟩ | ⟨h83, h⟩ := den_if h
    · obtain ⟨y84, h85, h⟩ := den_bind h
      have o6_ := (((((((o5_.r 3 h83).i (own_ixl Match.c 3 (dc hd2))).b h83).o 3 3 .uq (map_get Match.c (dc hd2))).r 2 h83).g (d_impl_UsesFact_good h85)).r 2 h83)
      obtain ⟨h86, h⟩ | ⟨h86, h⟩ := den_if h
      · have h := den_some h; subst h; exact (o6_.b h86).ret hΓ
      · exact ((o6_.b h86).a [.cn [6, 9, 10, 12] [0, 1, 2, 3]]).ct hΓ hS2 (iS hd2 hm2) (ih2 (i2 + 1)  (dn hd2) h)
    · exact (((o5_.r 8 h83).F 1).a [.cn [6, 9, 10, 12] [0, 1, 2, 3]]).ct hΓ hS2 (iS hd2 hm2) (ih2 (i2 + 1)  (dn hd2) h)
theorem d_laws_FnMonotoneMatches_good {a0_ : List Int} {r : Bool} (h : d_laws_FnMonotoneMatches a0_ = some r) : Good Tryz.prog 5 [D.sl ((a0_).map yx)] (D.bool (r)) := by
  refine gd Tryz.func5 [[none]] 84 fun hr Γ hΓ => ?_
  rw [d_laws_FnMonotoneMatches] at h
  obtain ⟨y1, h2, h⟩ := den_bind h
  obtain ⟨h3, h⟩ | ⟨h3, h⟩ := den_if h
  · have h := den_some h; subst h; exact ((pre0.g (d_laws_big_good h2)).b h3).ret hΓ
  · obtain ⟨y4, h5, h⟩ := den_bind h
    obtain ⟨y6, h7, h⟩ := den_bind h
    obtain ⟨y8, h9, h⟩ := den_bind h
    obtain ⟨y10, h11, h⟩ := den_bind h
    obtain ⟨y12, h13, h⟩ := den_bind h
    have o7_ := ((((((((pre0.g (d_laws_big_good h2)).b h3).g (d_spec_DrawMatchesOf_good h5)).g (d_spec_DrawAddFact_good h7)).g (d_spec_AddFact_good h9)).a [.n 3]).g (d_impl_IsMonotone_good h11)).g (d_spec_IsMonotone_good h13))
    obtain ⟨h14, h⟩ | ⟨h14, h⟩ := den_if h
    · have h := den_some h; subst h; exact (o7_.b h14).ret hΓ
    · obtain ⟨y15, h16, h⟩ := den_bind h
      have o8_ := ((o7_.b h14).g (d_impl_IsMonotone_good h16))
      obtain ⟨h17, h⟩ | ⟨h17, h⟩ := den_if h
      · have h := den_some h; subst h; exact ((o8_.r 3 h17).T 1).ret hΓ
      · have o9_ := (o8_.r 3 h17)
        obtain ⟨h18, h⟩ | ⟨h18, h⟩ := den_if h
        · have h := den_some h; subst h; exact (o9_.b h18).ret hΓ
        · obtain ⟨y19, h20, h⟩ := den_bind h
          obtain ⟨y21, h22, h⟩ := den_bind h
          obtain ⟨h88, h⟩ := den_ok h
          refine ((((o9_.b h18).g (d_impl_MatchesOf_good h20)).g (d_impl_MatchesOf_good h22)).a [.cn [6, 9, 10, 11] [4, 6, 7, 3]]).lp hΓ (d_laws_FnMonotoneMatches_L1w hΓ (fun h => ?_) (of_decide_eq_true h88) (y19) 0  rfl h)
          obtain ⟨h87, h⟩ := den_ok h
          refine (pre0.a [.cn [6, 9, 10, 12] [0, 1, 2, 3]]).lp hΓ (d_laws_FnMonotoneMatches_L2w hΓ (fun h => ?_) (of_decide_eq_true h87) (y21) 0  rfl h)
          have h := den_some h; subst h; exact pre0.ret hΓ
end Go.Cx
