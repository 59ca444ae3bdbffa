/- What functions of the program compute, and the walks that show it. No condition. -/
import Derived.Test.YtpglgncmlcpgdaaGreatDoorPFnPlainNFn2
namespace Go.Cx
open Go.RowKit Go.Proofs
set_option linter.unusedVariables false
set_option linter.unusedSimpArgs false
set_option maxRecDepth 100000
variable {Γ : Ctx} {N : Nat → St → Prop}
def d_laws_big (a0_ : List Int) : Option Bool := (some (decide (((((a0_).map yx).length : Int) : Int) > (4096))))
theorem d_laws_big_good {a0_ : List Int} {r : Bool} (h : d_laws_big a0_ = some r) : Good Tryz.prog 6 [D.sl ((a0_).map yx)] (D.bool (r)) := by
  refine gd Tryz.func6 [[none]] 6 fun hr Γ hΓ => ?_
  rw [d_laws_big] at h
  cases h; exact pre0.ret hΓ
def d_laws_FnPlain_L1 (y11 : List Match) (y13 : List Match) (k1 : Option Bool) : List Match → Nat → Option Bool
  | [], i1 => (k1 )
  | x1_ :: xs1, i1 => (bif decide (i1 < ((y13).map Match.c).length) then (((y13)[i1]?).bind fun x60 => ((d_spec_SameFacts (x1_.facts) (x60.facts)).bind fun y62 => (bif !(y62) then (some (false)) else (bif decide (i1 < ((y13).map Match.c).length) then (bif ((((x1_.bind).map Pair.c).length : Int) : Int) != ((((x60.bind).map Pair.c).length : Int)) then (some (false)) else (d_laws_FnPlain_L1 y11 y13 k1 xs1 (i1 + 1) )) else none)))) else none)
def d_laws_FnPlain (a0_ : List Int) : Option Bool := ((d_laws_big (a0_)).bind fun y1 => (bif y1 then (some (true)) else ((d_spec_DrawMatchesOf (a0_)).bind fun y4 => ((d_spec_IsRule (y4.1)).bind fun y6 => (bif !(y6) then (some (true)) else ((d_impl_PlainConds (y4.1)).bind fun y9 => ((d_impl_MatchesOf (y4.1) (y4.2)).bind fun y11 => ((d_impl_MatchesOf ((⟨y4.1.name, 0, y9, [(⟨3, (⟨[], []⟩ : Fact)⟩ : Action)]⟩ : Rule)) (y4.2)).bind fun y13 => ((d_impl_IsRule ((⟨y4.1.name, 0, y9, [(⟨3, (⟨[], []⟩ : Fact)⟩ : Action)]⟩ : Rule))).bind fun y15 => (bif !(y15) then (some (false)) else (bif ((((y11).map Match.c).length : Int) : Int) != ((((y13).map Match.c).length : Int)) then (some (false)) else (bif decide ((y11).length ≤ maxLen) then (d_laws_FnPlain_L1 y11 y13 (some (true)) (y11) 0 ) else none))))))))))))
def d_laws_FnPlain_S1 (y11 : List Match) (y13 : List Match) (ix_ : Int) : St := ⟨[(6, D.acc 0), (7, D.acc 1), (8, D.int .i64 (ix_))], [Ob.row .uq 49 3 ((y11).map Match.c), Ob.row .uq 49 3 ((y13).map Match.c)]⟩
theorem d_laws_FnPlain_L1w (hΓ : Γ.nt = 75) {y11 : List Match} {y13 : List Match} {r : Bool} {k1 : Option Bool} (hE1 : k1 = some r → Ax Γ N Tryz.f4 (.q [[none]] (D.bool (r))) [1, 1, 1, 1, 1, 1, 1, 1, 1] ⟨[], []⟩) (hm1 : (y11).length ≤ maxLen) : ∀ (rest : List Match) (i1 : Nat) , (y11).drop i1 = rest → d_laws_FnPlain_L1 y11 y13 k1 rest i1  = some r → Ar Γ N Tryz.f4 (.q [[none]] (D.bool (r))) [1, 1, 1, 1, 1, 1, 1, 1, 0, 1, 0] (rest.length + 1) (d_laws_FnPlain_S1 y11 y13 ((i1 : Int))) := by
  intro rest
  induction rest with
  | nil =>
    intro i1  hd1 h
    rw [d_laws_FnPlain_L1] at h
    refine AWr_succ fun N1 hN1 hS1 => ?_
    exact ((pre0.ge Match.c hd1).a [.hl 0 [] []]).ex hΓ hN1 (hE1 h)
  | cons x1_ xs1 ih1 =>
    intro i1  hd1 h
    rw [d_laws_FnPlain_L1] at h
    refine AWr_succ fun N1 hN1 hS1 => ?_
    obtain ⟨h59, h⟩ := den_ok h
    obtain ⟨x60, h61, h⟩ := den_bind h
    obtain ⟨y62, h63, h⟩ := den_bind h
    have o3_ := (((((((pre0.lt Match.c hd1).a [.n 25]).i (own_ixl Match.c 3 (dc hd1))).o 3 2 .uq (map_get Match.c (dc hd1))).i (own_ix 3 h59)).o 3 2 .uq (map_get Match.c h61)).g (d_spec_SameFacts_good h63))
    obtain ⟨h64, h⟩ | ⟨h64, h⟩ := den_if h
    · have h := den_some h; subst h; exact ((o3_.r 14 h64).T 1).ret hΓ
    · obtain ⟨h65, h⟩ := den_ok h
      have o4_ := (((((((((o3_.r 3 h64).i (own_ixl Match.c 3 (dc hd1))).r 2 h64).o 3 3 .uq (map_get Match.c (dc hd1))).r 4 h64).i (own_ix 3 h65)).r 2 h64).o 3 3 .uq (map_get Match.c h61)).r 3 h64)
      obtain ⟨h66, h⟩ | ⟨h66, h⟩ := den_if h
      · have h := den_some h; subst h; exact (o4_.b h66).ret hΓ
      · exact ((o4_.b h66).a [.cn [6, 7, 8] [0, 1]]).ct hΓ hS1 (iS hd1 hm1) (ih1 (i1 + 1)  (dn hd1) h)
theorem d_laws_FnPlain_good {a0_ : List Int} {r : Bool} (h : d_laws_FnPlain a0_ = some r) : Good Tryz.prog 4 [D.sl ((a0_).map yx)] (D.bool (r)) := by
  refine gd Tryz.func4 [[none]] 75 fun hr Γ hΓ => ?_
  rw [d_laws_FnPlain] at h
  obtain ⟨y1, h2, h⟩ := den_bind h
  obtain ⟨h3, h⟩ | ⟨h3, h⟩ := den_if h
  · have h := den_some h; subst h; exact ((pre0.g (d_laws_big_good h2)).b h3).ret hΓ
  · obtain ⟨y4, h5, h⟩ := den_bind h
    obtain ⟨y6, h7, h⟩ := den_bind h
    have o5_ := ((((pre0.g (d_laws_big_good h2)).b h3).g (d_spec_DrawMatchesOf_good h5)).g (d_spec_IsRule_good h7))
    obtain ⟨h8, h⟩ | ⟨h8, h⟩ := den_if h
    · have h := den_some h; subst h; exact (o5_.b h8).ret hΓ
    · obtain ⟨y9, h10, h⟩ := den_bind h
      obtain ⟨y11, h12, h⟩ := den_bind h
      obtain ⟨y13, h14, h⟩ := den_bind h
      obtain ⟨y15, h16, h⟩ := den_bind h
      have o6_ := ((((((((o5_.b h8).a [.n 8]).g (d_impl_PlainConds_good h10)).g (d_impl_MatchesOf_good h12)).a [.d (D.fr 49 3 ((y13).map Match.c))]).w (show Good Tryz.prog 12 [D.agg [D.str (y4.1.name), D.int .i64 (0), D.sl ((y9).map Cond.c), D.sl ([[D.int .i64 (3), D.str ([]), D.sl ([])]])], D.sl ((y4.2).map Fact.c)] (D.fr 49 3 ((y13).map Match.c)) from by first | (simpa only [List.map_append, List.map_cons, List.map_nil, List.map_drop, List.map_take] using d_impl_MatchesOf_good h14) | exact d_impl_MatchesOf_good h14)).a [.d (D.bool (y15))]).w (show Good Tryz.prog 15 [D.agg [D.str (y4.1.name), D.int .i64 (0), D.sl ((y9).map Cond.c), D.sl ([[D.int .i64 (3), D.str ([]), D.sl ([])]])]] (D.bool (y15)) from by first | (simpa only [List.map_append, List.map_cons, List.map_nil, List.map_drop, List.map_take] using d_impl_IsRule_good h16) | exact d_impl_IsRule_good h16))
      obtain ⟨h17, h⟩ | ⟨h17, h⟩ := den_if h
      · have h := den_some h; subst h; exact ((o6_.r 6 h17).T 1).ret hΓ
      · have o7_ := (o6_.r 6 h17)
        obtain ⟨h18, h⟩ | ⟨h18, h⟩ := den_if h
        · have h := den_some h; subst h; exact (o7_.b h18).ret hΓ
        · obtain ⟨h67, h⟩ := den_ok h
          refine ((o7_.b h18).a [.cn [6, 7, 8] [5, 6]]).lp hΓ (d_laws_FnPlain_L1w hΓ (fun h => ?_) (of_decide_eq_true h67) (y11) 0  rfl h)
          have h := den_some h; subst h; exact pre0.ret hΓ
end Go.Cx
