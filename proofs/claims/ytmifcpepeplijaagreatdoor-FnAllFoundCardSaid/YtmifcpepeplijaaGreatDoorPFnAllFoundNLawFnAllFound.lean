/- What functions of the program compute, and the walks that show it. No condition. -/
import Derived.Test.YtmifcpepeplijaaGreatDoorPFnAllFoundNFn2
import Derived.Test.YtmifcpepeplijaaGreatDoorPFnAllFoundNSz
import Derived.Test.YtmifcpepeplijaaGreatDoorPFnAllFoundNTo
import Derived.Test.YtmifcpepeplijaaGreatDoorPFnAllFoundNEq
import Derived.Test.YtmifcpepeplijaaGreatDoorPFnAllFoundNMk
import Derived.Test.YtmifcpepeplijaaGreatDoorPFnAllFoundNHd
namespace Go.Cx
open Go.RowKit Go.Proofs
set_option linter.unusedVariables false
set_option linter.unusedSimpArgs false
set_option maxRecDepth 100000
variable {Γ : Ctx} {N : Nat → St → Prop}
def d_laws_big (a0_ : List Int) : Option Bool := (some (decide (((((a0_).map yx).length : Int) : Int) > (4096))))
theorem d_laws_big_good {a0_ : List Int} {r : Bool} (h : d_laws_big a0_ = some r) : Good Tryz.prog 8 [D.sl ((a0_).map yx)] (D.bool (r)) := by
  refine gd Tryz.func8 [[none]] 6 fun hr Γ hΓ => ?_
  rw [d_laws_big] at h
  cases h; exact pre0.ret hΓ
def d_laws_at (a0_ : List Int) (a1_ : Int) : Option Int := (bif decide ((a1_ : Int) ≥ ((((a0_).map yx).length : Int))) then (some (0)) else ((atI (a0_) (a1_)).bind fun x2 => (some (IntKind.i64.wrap (x2)))))
theorem d_laws_at_good {a0_ : List Int} {a1_ : Int} {r : Int} (h : d_laws_at a0_ a1_ = some r) : Good Tryz.prog 15 [D.sl ((a0_).map yx), D.int .i64 (a1_)] (D.int .i64 (r)) := by
  refine gd Tryz.func15 [[none]] 14 fun hr Γ hΓ => ?_
  rw [d_laws_at] at h
  obtain ⟨h1, h⟩ | ⟨h1, h⟩ := den_if h
  · have h := den_some h; subst h; exact (pre0.b h1).ret hΓ
  · obtain ⟨x2, h3, h⟩ := den_bind h
    cases h; exact ((pre0.b h1).l (at_row yx 1 h3 rfl)).ret hΓ
def d_laws_FnAllFound_L1 (a0_ : List Int) (y4 : Rule × (List Fact)) (k1 : Bool → List Fact → List Pair → Option Bool) : List Cond → Nat → Bool → List Fact → List Pair → Option Bool
  | [], i1, v1_6, w1_3, w1_4 => (k1 (v1_6) (w1_3) (w1_4))
  | x1_ :: xs1, i1, v1_6, w1_3, w1_4 => (bif (x1_.kind : Int) == (1) then ((d_laws_at (a0_) ((i1 : Int))).bind fun y81 => (bif decide (0 ≤ (y81 : Int)) && decide (0 < ((((y4.2).map Fact.c).length : Int) : Int)) then ((atI (y4.2) ((y81 : Int) % ((((y4.2).map Fact.c).length : Int)))).bind fun x84 => (bif room (((w1_3).map Fact.c).length + ([[D.str (x84.rel), D.sl ((x84.args).map tx)]]).length) 40 then ((d_spec_MatchFact (x1_.pat) (x84) (w1_4)).bind fun y87 => (bif v1_6 then (d_laws_FnAllFound_L1 a0_ y4 k1 xs1 (i1 + 1) (y87.2) ((w1_3) ++ ([x84])) (y87.1)) else (d_laws_FnAllFound_L1 a0_ y4 k1 xs1 (i1 + 1) (false) ((w1_3) ++ ([x84])) (y87.1)))) else none)) else none)) else (d_laws_FnAllFound_L1 a0_ y4 k1 xs1 (i1 + 1) (v1_6) (w1_3) (w1_4)))
def d_laws_FnAllFound_L2 (y4 : Rule × (List Fact)) (q1_3 : List Fact) (q1_4 : List Pair) (k2 : Bool → Option Bool) : List Cond → Nat → Bool → Option Bool
  | [], i2, v2_6 => (k2 (v2_6))
  | x2_ :: xs2, i2, v2_6 => (bif v2_6 then ((d_spec_HoldsCond (x2_) (q1_4) (y4.2)).bind fun y111 => (d_laws_FnAllFound_L2 y4 q1_3 q1_4 k2 xs2 (i2 + 1) (y111))) else (d_laws_FnAllFound_L2 y4 q1_3 q1_4 k2 xs2 (i2 + 1) (false)))
def d_laws_FnAllFound (a0_ : List Int) : Option Bool := ((d_laws_big (a0_)).bind fun y1 => (bif y1 then (some (true)) else ((d_spec_DrawMatchesOf (a0_)).bind fun y4 => ((d_spec_IsRule (y4.1)).bind fun y6 => (bif !(y6) then ((d_impl_MatchesOf (y4.1) (y4.2)).bind fun y9 => (some (((((y9).map Match.c).length : Int) : Int) == (0)))) else ((d_spec_AreFacts (y4.2)).bind fun y11 => (bif !(y11) then ((d_impl_MatchesOf (y4.1) (y4.2)).bind fun y14 => (some (((((y14).map Match.c).length : Int) : Int) == (0)))) else (bif ((((y4.2).map Fact.c).length : Int) : Int) == (0) then ((d_impl_MatchesOf (y4.1) (y4.2)).bind fun y17 => (some (((((y17).map Match.c).length : Int) : Int) == (0)))) else (bif decide ((y4.1.conds).length ≤ maxLen) then (d_laws_FnAllFound_L1 a0_ y4 (fun (z1_6 : Bool) (q1_3 : List Fact) (q1_4 : List Pair) => (bif decide ((y4.1.conds).length ≤ maxLen) then (d_laws_FnAllFound_L2 y4 q1_3 q1_4 (fun (z2_6 : Bool) => ((d_impl_IsMatch (y4.1) (y4.2) ((⟨y4.1.name, q1_3, q1_4⟩ : Match))).bind fun y113 => (some ((y113 : Bool) == (z2_6))))) (y4.1.conds) 0 (z1_6)) else none)) (y4.1.conds) 0 (true) (([] : List Fact)) (([] : List Pair))) else none)))))))))
def d_laws_FnAllFound_S1 (a0_ : List Int) (y4 : Rule × (List Fact)) (v1_6 : Bool) (W1 : List (List D)) (W2 : List (List D)) (ix_ : Int) : St := ⟨[(0, D.sl ((a0_).map yx)), (3, D.ptr 0 0), (4, D.acc 1), (5, D.ptr 2 0), (6, D.bool (v1_6)), (7, D.int .i64 (ix_))], [Ob.box [D.str (y4.1.name), D.int .i64 (y4.1.prio), D.sl ((y4.1.conds).map Cond.c), D.sl ((y4.1.acts).map Action.c)], Ob.row .uq 42 2 ((y4.2).map Fact.c), Ob.box [D.str (y4.1.name), D.acc 3, D.acc 4], Ob.row .sh 42 2 (W1), Ob.row .uq 137 2 (W2)]⟩
theorem d_laws_FnAllFound_L1w (hΓ : Γ.nt = 113) {a0_ : List Int} {y4 : Rule × (List Fact)} {r : Bool} {k1 : Bool → List Fact → List Pair → Option Bool} (hE1 : ∀ (z1_6 : Bool) (q1_3 : List Fact) (q1_4 : List Pair), k1 z1_6 q1_3 q1_4 = some r → Ax Γ N Tryz.f4 (.q [[none]] (D.bool (r))) [1, 1, 1, 1, 1, 1, 1] ⟨[(3, D.ptr 0 0), (4, D.acc 1), (5, D.ptr 2 0), (6, D.bool (z1_6))], [Ob.box [D.str (y4.1.name), D.int .i64 (y4.1.prio), D.sl ((y4.1.conds).map Cond.c), D.sl ((y4.1.acts).map Action.c)], Ob.row .uq 42 2 ((y4.2).map Fact.c), Ob.box [D.str (y4.1.name), D.acc 3, D.acc 4], Ob.row .sh 42 2 ((q1_3).map Fact.c), Ob.row .uq 137 2 ((q1_4).map Pair.c)]⟩) (hm1 : (y4.1.conds).length ≤ maxLen) : ∀ (rest : List Cond) (i1 : Nat) (v1_6 : Bool) (w1_3 : List Fact) (w1_4 : List Pair), (y4.1.conds).drop i1 = rest → d_laws_FnAllFound_L1 a0_ y4 k1 rest i1 v1_6 w1_3 w1_4 = some r → Ar Γ N Tryz.f4 (.q [[none]] (D.bool (r))) [1, 1, 1, 1, 1, 1, 0, 1, 0] (rest.length + 1) (d_laws_FnAllFound_S1 a0_ y4 v1_6 ((w1_3).map Fact.c) ((w1_4).map Pair.c) ((i1 : Int))) := by
  intro rest
  induction rest with
  | nil =>
    intro i1 v1_6 w1_3 w1_4 hd1 h
    rw [d_laws_FnAllFound_L1] at h
    refine AWr_succ fun N1 hN1 hS1 => ?_
    exact ((pre0.ge Cond.c hd1).a [.hl 0 [3, 4, 5, 6] [0, 1, 2, 3, 4]]).ex hΓ hN1 (hE1 (v1_6) (w1_3) (w1_4) h)
  | cons x1_ xs1 ih1 =>
    intro i1 v1_6 w1_3 w1_4 hd1 h
    rw [d_laws_FnAllFound_L1] at h
    refine AWr_succ fun N1 hN1 hS1 => ?_
    have o4_ := ((pre0.lt Cond.c hd1).l (map_row Cond.c 5 (dc hd1) rfl))
    obtain ⟨h80, h⟩ | ⟨h80, h⟩ := den_if h
    · obtain ⟨y81, h82, h⟩ := den_bind h
      obtain ⟨h83, h⟩ := den_ok h
      obtain ⟨x84, h85, h⟩ := den_bind h
      obtain ⟨h86, h⟩ := den_ok h
      obtain ⟨y87, h88, h⟩ := den_bind h
      have o5_ := (((((((((o4_.b h80).g (d_laws_at_good h82)).w (quo_ok .i64 h83)).i (own_at Fact.c 2 h85)).o 2 2 .uq (map_get Fact.c (atI_get h85))).w (room_ok h86)).a [.n 14]).l (map_row Cond.c 5 (dc hd1) rfl)).g (d_spec_MatchFact_good h88))
      obtain ⟨h89, h⟩ | ⟨h89, h⟩ := den_if h
      · exact ((o5_.r 2 h89).a [.cn [0, 3, 4, 5, 6, 7] [0, 1, 2, 7, 8]]).cs hΓ hS1 (d_laws_FnAllFound_S1 a0_ y4 (y87.2) (((w1_3).map Fact.c) ++ ([[D.str (x84.rel), D.sl ((x84.args).map tx)]])) ((y87.1).map Pair.c) (IntKind.i64.wrap (((i1 : Int)) + (1)))) (by first | (simp only [iS hd1 hm1, mA] <;> rfl) | (simp only [iS hd1 hm1, mA, Fact.c, Pair.c, Cond.c, Action.c, Rule.c, Token.c, Match.c, Alpha.c, Node.c, Network.c, Stamp.c] <;> rfl)) (ih1 (i1 + 1) (y87.2) ((w1_3) ++ ([x84])) (y87.1) (dn hd1) h)
      · exact ((o5_.r 2 h89).a [.cn [0, 3, 4, 5, 6, 7] [0, 1, 2, 7, 8]]).cs hΓ hS1 (d_laws_FnAllFound_S1 a0_ y4 false (((w1_3).map Fact.c) ++ ([[D.str (x84.rel), D.sl ((x84.args).map tx)]])) ((y87.1).map Pair.c) (IntKind.i64.wrap (((i1 : Int)) + (1)))) (by first | (simp only [iS hd1 hm1, mA] <;> rfl) | (simp only [iS hd1 hm1, mA, Fact.c, Pair.c, Cond.c, Action.c, Rule.c, Token.c, Match.c, Alpha.c, Node.c, Network.c, Stamp.c] <;> rfl)) (ih1 (i1 + 1) (false) ((w1_3) ++ ([x84])) (y87.1) (dn hd1) h)
    · exact ((o4_.b h80).a [.cn [0, 3, 4, 5, 6, 7] [0, 1, 2, 3, 4]]).ct hΓ hS1 (iS hd1 hm1) (ih1 (i1 + 1) (v1_6) (w1_3) (w1_4) (dn hd1) h)
def d_laws_FnAllFound_S2 (y4 : Rule × (List Fact)) (q1_3 : List Fact) (q1_4 : List Pair) (v2_6 : Bool) (ix_ : Int) : St := ⟨[(3, D.ptr 0 0), (4, D.acc 1), (5, D.ptr 2 0), (6, D.bool (v2_6)), (11, D.int .i64 (ix_))], [Ob.box [D.str (y4.1.name), D.int .i64 (y4.1.prio), D.sl ((y4.1.conds).map Cond.c), D.sl ((y4.1.acts).map Action.c)], Ob.row .uq 42 2 ((y4.2).map Fact.c), Ob.box [D.str (y4.1.name), D.acc 3, D.acc 4], Ob.row .sh 42 2 ((q1_3).map Fact.c), Ob.row .uq 137 2 ((q1_4).map Pair.c)]⟩
theorem d_laws_FnAllFound_L2w (hΓ : Γ.nt = 113) {y4 : Rule × (List Fact)} {q1_3 : List Fact} {q1_4 : List Pair} {r : Bool} {k2 : Bool → Option Bool} (hE2 : ∀ (z2_6 : Bool), k2 z2_6 = some r → Ax Γ N Tryz.f4 (.q [[none]] (D.bool (r))) [1, 1, 1, 1, 1, 1, 1, 1] ⟨[(3, D.ptr 0 0), (4, D.acc 1), (5, D.ptr 2 0), (6, D.bool (z2_6))], [Ob.box [D.str (y4.1.name), D.int .i64 (y4.1.prio), D.sl ((y4.1.conds).map Cond.c), D.sl ((y4.1.acts).map Action.c)], Ob.row .uq 42 2 ((y4.2).map Fact.c), Ob.box [D.str (y4.1.name), D.acc 3, D.acc 4], Ob.row .sh 42 2 ((q1_3).map Fact.c), Ob.row .uq 137 2 ((q1_4).map Pair.c)]⟩) (hm2 : (y4.1.conds).length ≤ maxLen) : ∀ (rest : List Cond) (i2 : Nat) (v2_6 : Bool), (y4.1.conds).drop i2 = rest → d_laws_FnAllFound_L2 y4 q1_3 q1_4 k2 rest i2 v2_6 = some r → Ar Γ N Tryz.f4 (.q [[none]] (D.bool (r))) [1, 1, 1, 1, 1, 1, 1, 0, 1, 0] (rest.length + 1) (d_laws_FnAllFound_S2 y4 q1_3 q1_4 v2_6 ((i2 : Int))) := by
  intro rest
  induction rest with
  | nil =>
    intro i2 v2_6 hd2 h
    rw [d_laws_FnAllFound_L2] at h
    refine AWr_succ fun N2 hN2 hS2 => ?_
    exact ((pre0.ge Cond.c hd2).a [.hl 0 [3, 4, 5, 6] [0, 1, 2, 3, 4]]).ex hΓ hN2 (hE2 (v2_6) h)
  | cons x2_ xs2 ih2 =>
    intro i2 v2_6 hd2 h
    rw [d_laws_FnAllFound_L2] at h
    refine AWr_succ fun N2 hN2 hS2 => ?_
    have o6_ := ((pre0.lt Cond.c hd2).a [.n 10])
    obtain ⟨h110, h⟩ | ⟨h110, h⟩ := den_if h
    · obtain ⟨y111, h112, h⟩ := den_bind h
      exact ((((((o6_.r 4 h110).l (map_row Cond.c 5 (dc hd2) rfl)).r 5 h110).g (d_spec_HoldsCond_good h112)).b h110).a [.cn [3, 4, 5, 6, 11] [0, 1, 2, 3, 4]]).ct hΓ hS2 (iS hd2 hm2) (ih2 (i2 + 1) (y111) (dn hd2) h)
    · exact ((o6_.r 10 h110).a [.cn [3, 4, 5, 6, 11] [0, 1, 2, 3, 4]]).ct hΓ hS2 (iS hd2 hm2) (ih2 (i2 + 1) (false) (dn hd2) h)
theorem d_laws_FnAllFound_good {a0_ : List Int} {r : Bool} (h : d_laws_FnAllFound a0_ = some r) : Good Tryz.prog 4 [D.sl ((a0_).map yx)] (D.bool (r)) := by
  refine gd Tryz.func4 [[none]] 113 fun hr Γ hΓ => ?_
  rw [d_laws_FnAllFound] at h
  obtain ⟨y1, h2, h⟩ := den_bind h
  obtain ⟨h3, h⟩ | ⟨h3, h⟩ := den_if h
  · have h := den_some h; subst h; exact ((pre0.g (d_laws_big_good h2)).b h3).ret hΓ
  · obtain ⟨y4, h5, h⟩ := den_bind h
    obtain ⟨y6, h7, h⟩ := den_bind h
    have o7_ := ((((pre0.g (d_laws_big_good h2)).b h3).g (d_spec_DrawMatchesOf_good h5)).g (d_spec_IsRule_good h7))
    obtain ⟨h8, h⟩ | ⟨h8, h⟩ := den_if h
    · obtain ⟨y9, h10, h⟩ := den_bind h
      cases h; exact (((o7_.r 4 h8).T 5).g (d_impl_MatchesOf_good h10)).ret hΓ
    · obtain ⟨y11, h12, h⟩ := den_bind h
      have o8_ := (((o7_.r 2 h8).g (d_spec_AreFacts_good h12)).r 2 h8)
      obtain ⟨h13, h⟩ | ⟨h13, h⟩ := den_if h
      · obtain ⟨y14, h15, h⟩ := den_bind h
        cases h; exact (((o8_.r 4 h13).T 1).g (d_impl_MatchesOf_good h15)).ret hΓ
      · have o9_ := (o8_.r 4 h13)
        obtain ⟨h16, h⟩ | ⟨h16, h⟩ := den_if h
        · obtain ⟨y17, h18, h⟩ := den_bind h
          cases h; exact ((o9_.b h16).g (d_impl_MatchesOf_good h18)).ret hΓ
        · obtain ⟨h116, h⟩ := den_ok h
          refine ((o9_.b h16).a [.pb 2 1 42 2, .pb 2 2 137 2, .sk 3, .cn [0, 3, 4, 5, 6, 7] [1, 0, 2, 3, 4]]).lp hΓ (d_laws_FnAllFound_L1w hΓ (fun z1_6 q1_3 q1_4 h => ?_) (of_decide_eq_true h116) (y4.1.conds) 0 (true) (([] : List Fact)) (([] : List Pair)) rfl h)
          obtain ⟨h115, h⟩ := den_ok h
          refine (pre0.a [.cn [3, 4, 5, 6, 11] [0, 1, 2, 3, 4]]).lp hΓ (d_laws_FnAllFound_L2w hΓ (fun z2_6 h => ?_) (of_decide_eq_true h115) (y4.1.conds) 0 (z1_6) rfl h)
          obtain ⟨y113, h114, h⟩ := den_bind h
          cases h; exact ((pre0.a [.d (D.bool (y113))]).w (show Good Tryz.prog 18 [D.agg (Rule.c (y4.1)), D.sl ((y4.2).map Fact.c), D.agg [D.str (y4.1.name), D.sl ((q1_3).map Fact.c), D.sl ((q1_4).map Pair.c)]] (D.bool (y113)) from by first | (simpa only [List.map_append, List.map_cons, List.map_nil, List.map_drop, List.map_take] using d_impl_IsMatch_good h114) | exact d_impl_IsMatch_good h114 | (have t := d_impl_IsMatch_good h114; simp only [List.map_append, List.map_drop, List.map_take, Match.c] at t; exact t))).ret hΓ
end Go.Cx
