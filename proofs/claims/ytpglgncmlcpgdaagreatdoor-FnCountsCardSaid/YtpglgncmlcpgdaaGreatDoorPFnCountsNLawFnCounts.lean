/- What functions of the program compute, and the walks that show it. No condition. -/
import Derived.Test.YtpglgncmlcpgdaaGreatDoorPFnCountsNFn2
namespace Go.Cx
open Go.RowKit Go.Proofs
set_option linter.unusedVariables false
set_option linter.unusedSimpArgs false
set_option maxRecDepth 100000
variable {Γ : Ctx} {N : Nat → St → Prop}
def d_laws_big (a0_ : List Int) : Option Bool := (some (decide (((((a0_).map yx).length : Int) : Int) > (4096))))
theorem d_laws_big_good {a0_ : List Int} {r : Bool} (h : d_laws_big a0_ = some r) : Good Tryz.prog 6 [D.sl ((a0_).map yx)] (D.bool (r)) := by
  refine gd Tryz.func6 [[none]] 6 fun hr Γ hΓ => ?_
  rw [d_laws_big] at h
  cases h; exact pre0.ret hΓ
def d_laws_FnCounts_L1 (y4 : Rule × (List Fact)) (y6 : List Int) (y8 : Int) (k1 : Option Bool) : List Cond → Nat → Option Bool
  | [], i1 => (k1 )
  | x1_ :: xs1, i1 => (bif decide (i1 < ((y6).map ixx).length) then (((y6)[i1]?).bind fun x134 => (bif (x134 : Int) == (0) then ((atI (y6) (IntKind.i64.wrap (((i1 : Int)) + (1)))).bind fun x137 => (bif decide ((x137 : Int) > (0)) then (some (false)) else (bif (x1_.kind : Int) != (1) then (bif decide (i1 < ((y6).map ixx).length) then (bif decide ((x137 : Int) > (x134)) then (some (false)) else (bif decide (((i1 : Int) : Int) ≥ (y8)) then (d_laws_FnCounts_L1 y4 y6 y8 k1 xs1 (i1 + 1) ) else (d_laws_FnCounts_L1 y4 y6 y8 k1 xs1 (i1 + 1) ))) else none) else (bif decide (((i1 : Int) : Int) ≥ (y8)) then (d_laws_FnCounts_L1 y4 y6 y8 k1 xs1 (i1 + 1) ) else (d_laws_FnCounts_L1 y4 y6 y8 k1 xs1 (i1 + 1) ))))) else (bif (x1_.kind : Int) != (1) then ((atI (y6) (IntKind.i64.wrap (((i1 : Int)) + (1)))).bind fun x146 => (bif decide (i1 < ((y6).map ixx).length) then (bif decide ((x146 : Int) > (x134)) then (some (false)) else (bif decide (((i1 : Int) : Int) ≥ (y8)) then (bif decide ((x146 : Int) > (0)) then (some (false)) else (d_laws_FnCounts_L1 y4 y6 y8 k1 xs1 (i1 + 1) )) else (d_laws_FnCounts_L1 y4 y6 y8 k1 xs1 (i1 + 1) ))) else none)) else (bif decide (((i1 : Int) : Int) ≥ (y8)) then ((atI (y6) (IntKind.i64.wrap (((i1 : Int)) + (1)))).bind fun x153 => (bif decide ((x153 : Int) > (0)) then (some (false)) else (d_laws_FnCounts_L1 y4 y6 y8 k1 xs1 (i1 + 1) ))) else (d_laws_FnCounts_L1 y4 y6 y8 k1 xs1 (i1 + 1) ))))) else none)
def d_laws_FnCounts (a0_ : List Int) : Option Bool := ((d_laws_big (a0_)).bind fun y1 => (bif y1 then (some (true)) else ((d_spec_DrawTokenCounts (a0_)).bind fun y4 => ((d_impl_TokenCounts (y4.1) (y4.2)).bind fun y6 => ((d_impl_DeepestCond (y4.1) (y4.2)).bind fun y8 => ((d_spec_IsRule (y4.1)).bind fun y10 => (bif !(y10) then (bif ((((y6).map ixx).length : Int) : Int) == (0) then (some ((y8 : Int) == (0))) else (some (false))) else ((d_spec_AreFacts (y4.2)).bind fun y14 => (bif !(y14) then (bif ((((y6).map ixx).length : Int) : Int) == (0) then (some ((y8 : Int) == (0))) else (some (false))) else (bif ((((y6).map ixx).length : Int) : Int) != (IntKind.i64.wrap (((((y4.1.conds).map Cond.c).length : Int)) + (1))) then (some (false)) else ((atI (y6) (0)).bind fun x19 => (bif (x19 : Int) != (1) then (some (false)) else ((atI (y6) ((((y4.1.conds).map Cond.c).length : Int))).bind fun x22 => ((d_impl_MatchesOf (y4.1) (y4.2)).bind fun y24 => (bif (x22 : Int) != ((((y24).map Match.c).length : Int)) then (some (false)) else (bif decide ((y8 : Int) < (0)) then (some (false)) else (bif decide ((y8 : Int) > ((((y4.1.conds).map Cond.c).length : Int))) then (some (false)) else ((atI (y6) (y8)).bind fun x29 => (bif (x29 : Int) == (0) then (some (false)) else (bif decide ((y4.1.conds).length ≤ maxLen) then (d_laws_FnCounts_L1 y4 y6 y8 (some (true)) (y4.1.conds) 0 ) else none))))))))))))))))))))
def d_laws_FnCounts_S1 (y4 : Rule × (List Fact)) (y6 : List Int) (y8 : Int) (ix_ : Int) : St := ⟨[(3, D.ptr 0 0), (5, D.acc 1), (6, D.int .i64 (y8)), (7, D.int .i64 (ix_))], [Ob.box [D.str (y4.1.name), D.int .i64 (y4.1.prio), D.sl ((y4.1.conds).map Cond.c), D.sl ((y4.1.acts).map Action.c)], Ob.row .uq 3 1 ((y6).map ixx)]⟩
theorem d_laws_FnCounts_L1w (hΓ : Γ.nt = 134) {y4 : Rule × (List Fact)} {y6 : List Int} {y8 : Int} {r : Bool} {k1 : Option Bool} (hE1 : k1 = some r → Ax Γ N Tryz.f3 (.q [[none]] (D.bool (r))) [1, 1, 1, 1, 1, 1, 1, 1] ⟨[], []⟩) (hm1 : (y4.1.conds).length ≤ maxLen) : ∀ (rest : List Cond) (i1 : Nat) , (y4.1.conds).drop i1 = rest → d_laws_FnCounts_L1 y4 y6 y8 k1 rest i1  = some r → Ar Γ N Tryz.f3 (.q [[none]] (D.bool (r))) [1, 1, 1, 1, 1, 1, 1, 0, 1, 0] (rest.length + 1) (d_laws_FnCounts_S1 y4 y6 y8 ((i1 : Int))) := by
  intro rest
  induction rest with
  | nil =>
    intro i1  hd1 h
    rw [d_laws_FnCounts_L1] at h
    refine AWr_succ fun N1 hN1 hS1 => ?_
    exact ((pre0.ge Cond.c hd1).a [.hl 0 [] []]).ex hΓ hN1 (hE1 h)
  | cons x1_ xs1 ih1 =>
    intro i1  hd1 h
    rw [d_laws_FnCounts_L1] at h
    refine AWr_succ fun N1 hN1 hS1 => ?_
    obtain ⟨h133, h⟩ := den_ok h
    obtain ⟨x134, h135, h⟩ := den_bind h
    have o13_ := ((((pre0.lt Cond.c hd1).a [.n 42]).i (own_ix 1 h133)).o 1 1 .uq (map_get ixx h135))
    obtain ⟨h136, h⟩ | ⟨h136, h⟩ := den_if h
    · obtain ⟨x137, h138, h⟩ := den_bind h
      have o14_ := (((((o13_.r 4 h136).i (own_at ixx 1 h138)).b h136).o 1 1 .uq (map_get ixx (atI_get h138))).r 2 h136)
      obtain ⟨h139, h⟩ | ⟨h139, h⟩ := den_if h
      · have h := den_some h; subst h; exact ((((((o14_.r 8 h139).a [bF, bF, bF, bF, bF, bF, bF, bF, bF, bF]).r 2 h139).T 4).a [bF, bF, bF, bF, bF, bF]).T 3).ret hΓ
      · have o15_ := (((o14_.r 4 h139).l (map_row Cond.c 5 (dc hd1) rfl)).r 4 h139)
        obtain ⟨h140, h⟩ | ⟨h140, h⟩ := den_if h
        · obtain ⟨h141, h⟩ := den_ok h
          have o16_ := ((((((((((((o15_.r 4 h140).i (own_at ixx 1 h138)).b h140).o 1 1 .uq (map_get ixx (atI_get h138))).r 3 h140).i (own_ix 1 h141)).b h140).o 1 1 .uq (map_get ixx h135)).b h140).b h139).b h140).b h139)
          obtain ⟨h142, h⟩ | ⟨h142, h⟩ := den_if h
          · have h := den_some h; subst h; exact ((((o16_.r 4 h142).a [bF, bF, bF, bF, bF, bF]).r 2 h142).T 1).ret hΓ
          · have o17_ := (o16_.r 4 h142)
            obtain ⟨h143, h⟩ | ⟨h143, h⟩ := den_if h
            · exact ((((((((((o17_.r 4 h143).i (own_at ixx 1 h138)).b h143).o 1 1 .uq (map_get ixx (atI_get h138))).b h143).b h142).b h143).b h142).b h139).a [.cn [3, 5, 6, 7] [0, 1]]).ct hΓ hS1 (iS hd1 hm1) (ih1 (i1 + 1)  (dn hd1) h)
            · exact ((((((o17_.r 6 h143).b h142).b h143).b h142).F 1).a [.cn [3, 5, 6, 7] [0, 1]]).ct hΓ hS1 (iS hd1 hm1) (ih1 (i1 + 1)  (dn hd1) h)
        · have o18_ := (((((o15_.r 10 h140).b h139).b h140).b h139).F 4)
          obtain ⟨h144, h⟩ | ⟨h144, h⟩ := den_if h
          · exact ((((((((((o18_.r 4 h144).i (own_at ixx 1 h138)).b h144).o 1 1 .uq (map_get ixx (atI_get h138))).b h144).F 1).b h144).F 1).b h139).a [.cn [3, 5, 6, 7] [0, 1]]).ct hΓ hS1 (iS hd1 hm1) (ih1 (i1 + 1)  (dn hd1) h)
          · exact (((((o18_.r 6 h144).F 1).b h144).F 2).a [.cn [3, 5, 6, 7] [0, 1]]).ct hΓ hS1 (iS hd1 hm1) (ih1 (i1 + 1)  (dn hd1) h)
    · have o19_ := ((((o13_.r 7 h136).F 4).l (map_row Cond.c 5 (dc hd1) rfl)).F 4)
      obtain ⟨h145, h⟩ | ⟨h145, h⟩ := den_if h
      · obtain ⟨x146, h147, h⟩ := den_bind h
        obtain ⟨h148, h⟩ := den_ok h
        have o20_ := ((((((((((((o19_.r 4 h145).i (own_at ixx 1 h147)).b h145).o 1 1 .uq (map_get ixx (atI_get h147))).r 3 h145).i (own_ix 1 h148)).b h145).o 1 1 .uq (map_get ixx h135)).b h145).F 1).b h145).F 1)
        obtain ⟨h149, h⟩ | ⟨h149, h⟩ := den_if h
        · have h := den_some h; subst h; exact ((((o20_.r 4 h149).a [bF, bF, bF, bF, bF, bF]).r 2 h149).T 1).ret hΓ
        · have o21_ := (o20_.r 4 h149)
          obtain ⟨h150, h⟩ | ⟨h150, h⟩ := den_if h
          · have o22_ := ((((((((o21_.r 4 h150).i (own_at ixx 1 h147)).b h150).o 1 1 .uq (map_get ixx (atI_get h147))).b h150).b h149).b h150).b h149)
            obtain ⟨h151, h⟩ | ⟨h151, h⟩ := den_if h
            · have h := den_some h; subst h; exact (o22_.b h151).ret hΓ
            · exact ((o22_.b h151).a [.cn [3, 5, 6, 7] [0, 1]]).ct hΓ hS1 (iS hd1 hm1) (ih1 (i1 + 1)  (dn hd1) h)
          · exact ((((((o21_.r 6 h150).b h149).b h150).b h149).F 1).a [.cn [3, 5, 6, 7] [0, 1]]).ct hΓ hS1 (iS hd1 hm1) (ih1 (i1 + 1)  (dn hd1) h)
      · have o23_ := ((((o19_.r 10 h145).F 1).b h145).F 5)
        obtain ⟨h152, h⟩ | ⟨h152, h⟩ := den_if h
        · obtain ⟨x153, h154, h⟩ := den_bind h
          have o24_ := ((((((((o23_.r 4 h152).i (own_at ixx 1 h154)).b h152).o 1 1 .uq (map_get ixx (atI_get h154))).b h152).F 1).b h152).F 1)
          obtain ⟨h155, h⟩ | ⟨h155, h⟩ := den_if h
          · have h := den_some h; subst h; exact (o24_.b h155).ret hΓ
          · exact ((o24_.b h155).a [.cn [3, 5, 6, 7] [0, 1]]).ct hΓ hS1 (iS hd1 hm1) (ih1 (i1 + 1)  (dn hd1) h)
        · exact (((((o23_.r 6 h152).F 1).b h152).F 2).a [.cn [3, 5, 6, 7] [0, 1]]).ct hΓ hS1 (iS hd1 hm1) (ih1 (i1 + 1)  (dn hd1) h)
theorem d_laws_FnCounts_good {a0_ : List Int} {r : Bool} (h : d_laws_FnCounts a0_ = some r) : Good Tryz.prog 3 [D.sl ((a0_).map yx)] (D.bool (r)) := by
  refine gd Tryz.func3 [[none]] 134 fun hr Γ hΓ => ?_
  rw [d_laws_FnCounts] at h
  obtain ⟨y1, h2, h⟩ := den_bind h
  obtain ⟨h3, h⟩ | ⟨h3, h⟩ := den_if h
  · have h := den_some h; subst h; exact ((pre0.g (d_laws_big_good h2)).b h3).ret hΓ
  · obtain ⟨y4, h5, h⟩ := den_bind h
    obtain ⟨y6, h7, h⟩ := den_bind h
    obtain ⟨y8, h9, h⟩ := den_bind h
    obtain ⟨y10, h11, h⟩ := den_bind h
    have o25_ := ((((((pre0.g (d_laws_big_good h2)).b h3).g (d_spec_DrawTokenCounts_good h5)).g (d_impl_TokenCounts_good h7)).g (d_impl_DeepestCond_good h9)).g (d_spec_IsRule_good h11))
    obtain ⟨h12, h⟩ | ⟨h12, h⟩ := den_if h
    · have o26_ := ((o25_.r 4 h12).T 1)
      obtain ⟨h13, h⟩ | ⟨h13, h⟩ := den_if h
      · cases h; exact (o26_.r 3 h13).ret hΓ
      · have h := den_some h; subst h; exact (o26_.r 3 h13).ret hΓ
    · obtain ⟨y14, h15, h⟩ := den_bind h
      have o27_ := (((o25_.r 2 h12).g (d_spec_AreFacts_good h15)).r 2 h12)
      obtain ⟨h16, h⟩ | ⟨h16, h⟩ := den_if h
      · obtain ⟨h17, h⟩ | ⟨h17, h⟩ := den_if h
        · cases h; exact ((o27_.b h16).r 3 h17).ret hΓ
        · have h := den_some h; subst h; exact ((o27_.b h16).r 3 h17).ret hΓ
      · have o28_ := ((o27_.b h16).a [.n 40])
        obtain ⟨h18, h⟩ | ⟨h18, h⟩ := den_if h
        · have h := den_some h; subst h; exact ((o28_.r 5 h18).T 28).ret hΓ
        · obtain ⟨x19, h20, h⟩ := den_bind h
          have o29_ := (((((o28_.r 2 h18).i (own_at ixx 1 h20)).b h18).o 1 1 .uq (map_get ixx (atI_get h20))).r 2 h18)
          obtain ⟨h21, h⟩ | ⟨h21, h⟩ := den_if h
          · have h := den_some h; subst h; exact ((o29_.r 12 h21).T 16).ret hΓ
          · obtain ⟨x22, h23, h⟩ := den_bind h
            obtain ⟨y24, h25, h⟩ := den_bind h
            have o30_ := (((((((o29_.r 5 h21).i (own_at ixx 1 h23)).b h21).o 1 1 .uq (map_get ixx (atI_get h23))).r 3 h21).gs (d_impl_MatchesOf_good h25)).r 3 h21)
            obtain ⟨h26, h⟩ | ⟨h26, h⟩ := den_if h
            · have h := den_some h; subst h; exact ((o30_.r 3 h26).T 13).ret hΓ
            · have o31_ := (o30_.r 3 h26)
              obtain ⟨h27, h⟩ | ⟨h27, h⟩ := den_if h
              · have h := den_some h; subst h; exact ((o31_.r 6 h27).T 7).ret hΓ
              · have o32_ := (o31_.r 6 h27)
                obtain ⟨h28, h⟩ | ⟨h28, h⟩ := den_if h
                · have h := den_some h; subst h; exact ((o32_.r 6 h28).T 1).ret hΓ
                · obtain ⟨x29, h30, h⟩ := den_bind h
                  have o33_ := (((((o32_.r 3 h28).i (own_at ixx 1 h30)).b h28).o 1 1 .uq (map_get ixx (atI_get h30))).r 2 h28)
                  obtain ⟨h31, h⟩ | ⟨h31, h⟩ := den_if h
                  · have h := den_some h; subst h; exact (o33_.b h31).ret hΓ
                  · obtain ⟨h156, h⟩ := den_ok h
                    refine ((o33_.b h31).a [.cn [3, 5, 6, 7] [1, 2]]).lp hΓ (d_laws_FnCounts_L1w hΓ (fun h => ?_) (of_decide_eq_true h156) (y4.1.conds) 0  rfl h)
                    have h := den_some h; subst h; exact pre0.ret hΓ
end Go.Cx
