/- What functions of the program compute, and the walks that show it. No condition. -/
import Derived.Test.YteddjemiikgheaaGreatDoorPSharedNodesNFn1
namespace Go.Cx
open Go.RowKit Go.Proofs
set_option linter.unusedVariables false
set_option linter.unusedSimpArgs false
set_option maxRecDepth 100000
variable {Γ : Ctx} {N : Nat → St → Prop}
def d_impl_condFits_L1 (a0_ : Rule) (a1_ : Int) (x1 : Cond) (y3 : List Bytes) (y5 : List Bytes) (k1 : Option Bool) : List Bytes → Nat → Option Bool
  | [], i1 => (k1 )
  | x1_ :: xs1, i1 => (bif (x1.kind : Int) == (1) then (d_impl_condFits_L1 a0_ a1_ x1 y3 y5 k1 xs1 (i1 + 1) ) else ((d_impl_hasText (y3) (x1_)).bind fun y49 => (bif y49 then (d_impl_condFits_L1 a0_ a1_ x1 y3 y5 k1 xs1 (i1 + 1) ) else (bif (x1.kind : Int) != (2) then (some (false)) else ((d_impl_occursElsewhere (a0_) (a1_) (x1_)).bind fun y53 => (bif y53 then (some (false)) else (d_impl_condFits_L1 a0_ a1_ x1 y3 y5 k1 xs1 (i1 + 1) )))))))
def d_impl_condFits (a0_ : Rule) (a1_ : Int) : Option Bool := ((atI (a0_.conds) (a1_)).bind fun x1 => ((d_impl_BoundVars (a0_) (a1_)).bind fun y3 => ((d_impl_CondVars (x1)).bind fun y5 => (bif decide ((y5).length ≤ maxLen) then (d_impl_condFits_L1 a0_ a1_ x1 y3 y5 (some (true)) (y5) 0 ) else none))))
def d_impl_condFits_S1 (a0_ : Rule) (a1_ : Int) (x1 : Cond) (y3 : List Bytes) (y5 : List Bytes) (ix_ : Int) : St := ⟨[(1, D.int .i64 (a1_)), (2, D.ptr 0 0), (5, D.ptr 1 0), (6, D.acc 2), (18, D.acc 3), (19, D.int .i64 ((((y5).map tx).length : Int))), (20, D.int .i64 (ix_))], [Ob.box (Rule.c a0_), Ob.box [D.int .i64 (x1.kind), D.str (x1.pat.rel), D.sl ((x1.pat.args).map tx), D.str (x1.left), D.str (x1.right)], Ob.row .uq 9 1 ((y3).map tx), Ob.row .uq 9 1 ((y5).map tx)]⟩
theorem d_impl_condFits_L1w (hΓ : Γ.nt = 42) {a0_ : Rule} {a1_ : Int} {x1 : Cond} {y3 : List Bytes} {y5 : List Bytes} {r : Bool} {k1 : Option Bool} (hE1 : k1 = some r → Ax Γ N Tryz.f107 (.q [[none]] (D.bool (r))) [1, 1, 1, 1] ⟨[], []⟩) (hm1 : (y5).length ≤ maxLen) : ∀ (rest : List Bytes) (i1 : Nat) , (y5).drop i1 = rest → d_impl_condFits_L1 a0_ a1_ x1 y3 y5 k1 rest i1  = some r → Ar Γ N Tryz.f107 (.q [[none]] (D.bool (r))) [1, 1, 1, 0, 1, 0] (rest.length + 1) (d_impl_condFits_S1 a0_ a1_ x1 y3 y5 ((i1 : Int))) := by
  intro rest
  induction rest with
  | nil =>
    intro i1  hd1 h
    rw [d_impl_condFits_L1] at h
    refine AWr_succ fun N1 hN1 hS1 => ?_
    exact ((pre0.ge tx hd1).a [.hl 0 [] []]).ex hΓ hN1 (hE1 h)
  | cons x1_ xs1 ih1 =>
    intro i1  hd1 h
    rw [d_impl_condFits_L1] at h
    refine AWr_succ fun N1 hN1 hS1 => ?_
    have o4_ := (((pre0.lt tx hd1).i (own_ixl tx 1 (dc hd1))).o 1 1 .uq (map_get tx (dc hd1)))
    obtain ⟨h48, h⟩ | ⟨h48, h⟩ := den_if h
    · exact (((o4_.r 4 h48).T 1).a [.cn [1, 2, 5, 6, 18, 19, 20] [0, 1, 2, 3]]).ct hΓ hS1 (iS hd1 hm1) (ih1 (i1 + 1)  (dn hd1) h)
    · obtain ⟨y49, h50, h⟩ := den_bind h
      have o5_ := (((o4_.r 3 h48).g (d_impl_hasText_good h50)).b h48)
      obtain ⟨h51, h⟩ | ⟨h51, h⟩ := den_if h
      · exact ((o5_.b h51).a [.cn [1, 2, 5, 6, 18, 19, 20] [0, 1, 2, 3]]).ct hΓ hS1 (iS hd1 hm1) (ih1 (i1 + 1)  (dn hd1) h)
      · obtain ⟨h52, h⟩ | ⟨h52, h⟩ := den_if h
        · have h := den_some h; subst h; exact (((o5_.b h51).r 5 h52).T 1).ret hΓ
        · obtain ⟨y53, h54, h⟩ := den_bind h
          have o6_ := ((((o5_.b h51).r 4 h52).g (d_impl_occursElsewhere_good h54)).b h52)
          obtain ⟨h55, h⟩ | ⟨h55, h⟩ := den_if h
          · have h := den_some h; subst h; exact (o6_.b h55).ret hΓ
          · exact ((o6_.b h55).a [.cn [1, 2, 5, 6, 18, 19, 20] [0, 1, 2, 3]]).ct hΓ hS1 (iS hd1 hm1) (ih1 (i1 + 1)  (dn hd1) h)
theorem d_impl_condFits_good {a0_ : Rule} {a1_ : Int} {r : Bool} (h : d_impl_condFits a0_ a1_ = some r) : Good Tryz.prog 107 [D.agg (Rule.c a0_), D.int .i64 (a1_)] (D.bool (r)) := by
  refine gd Tryz.func107 [[none]] 42 fun hr Γ hΓ => ?_
  rw [d_impl_condFits] at h
  obtain ⟨x1, h2, h⟩ := den_bind h
  obtain ⟨y3, h4, h⟩ := den_bind h
  obtain ⟨y5, h6, h⟩ := den_bind h
  obtain ⟨h56, h⟩ := den_ok h
  refine ((((pre0.l (at_row Cond.c 5 h2 rfl)).g (d_impl_BoundVars_good h4)).g (d_impl_CondVars_good h6)).a [.cn [1, 2, 5, 6, 18, 19, 20] [0, 1, 2, 3]]).lp hΓ (d_impl_condFits_L1w hΓ (fun h => ?_) (of_decide_eq_true h56) (y5) 0  rfl h)
  have h := den_some h; subst h; exact pre0.ret hΓ
def d_impl_IsAction (a0_ : Action) : Option Bool := (bif (a0_.kind : Int) == (1) then ((d_impl_IsPattern (a0_.pat)).bind fun y2 => (some (y2))) else (bif (a0_.kind : Int) == (2) then ((d_impl_IsPattern (a0_.pat)).bind fun y5 => (some (y5))) else (bif (a0_.kind : Int) == (3) then ((d_impl_zeroPattern (a0_.pat)).bind fun y8 => (some (y8))) else (some (false)))))
theorem d_impl_IsAction_good {a0_ : Action} {r : Bool} (h : d_impl_IsAction a0_ = some r) : Good Tryz.prog 109 [D.agg (Action.c a0_)] (D.bool (r)) := by
  refine gd Tryz.func109 [[none]] 16 fun hr Γ hΓ => ?_
  rw [d_impl_IsAction] at h
  obtain ⟨h1, h⟩ | ⟨h1, h⟩ := den_if h
  · obtain ⟨y2, h3, h⟩ := den_bind h
    have h := den_some h; subst h; exact ((pre0.r 2 h1).g (d_impl_IsPattern_good h3)).ret hΓ
  · obtain ⟨h4, h⟩ | ⟨h4, h⟩ := den_if h
    · obtain ⟨y5, h6, h⟩ := den_bind h
      have h := den_some h; subst h; exact (((pre0.b h1).b h4).g (d_impl_IsPattern_good h6)).ret hΓ
    · have o1_ := ((pre0.b h1).b h4)
      obtain ⟨h7, h⟩ | ⟨h7, h⟩ := den_if h
      · obtain ⟨y8, h9, h⟩ := den_bind h
        have h := den_some h; subst h; exact ((o1_.b h7).g (d_impl_zeroPattern_good h9)).ret hΓ
      · have h := den_some h; subst h; exact (o1_.b h7).ret hΓ
def d_impl_condVarsOf_L1 (a0_ : List Cond) (k1 : List Bytes → Option (List Bytes)) : List Cond → Nat → List Bytes → Option (List Bytes)
  | [], i1, w1_0 => (k1 (w1_0))
  | x1_ :: xs1, i1, w1_0 => ((d_impl_CondVars (x1_)).bind fun y27 => (bif room (((w1_0).map tx).length + ((y27).map tx).length) 16 then (d_impl_condVarsOf_L1 a0_ k1 xs1 (i1 + 1) ((w1_0) ++ (y27))) else none))
def d_impl_condVarsOf (a0_ : List Cond) : Option (List Bytes) := (d_impl_condVarsOf_L1 a0_ (fun (q1_0 : List Bytes) => (some (q1_0))) (a0_) 0 (([] : List Bytes)))
def d_impl_condVarsOf_S1 (a0_ : List Cond) (W0 : List (List D)) (ix_ : Int) : St := ⟨[(3, D.acc 0), (6, D.sl ((a0_).map Cond.c)), (7, D.int .i64 ((((a0_).map Cond.c).length : Int))), (8, D.int .i64 (ix_))], [Ob.row .uq 9 1 (W0)]⟩
theorem d_impl_condVarsOf_L1w (hΓ : Γ.nt = 18) {a0_ : List Cond} {r : List Bytes} {k1 : List Bytes → Option (List Bytes)} (hE1 : ∀ (q1_0 : List Bytes), k1 q1_0 = some r → Ax Γ N Tryz.f113 (.q [[some (9, 1)]] (D.fr 9 1 ((r).map tx))) [1, 1, 1] ⟨[(3, D.acc 0)], [Ob.row .uq 9 1 ((q1_0).map tx)]⟩) (hm1 : (a0_).length ≤ maxLen) : ∀ (rest : List Cond) (i1 : Nat) (w1_0 : List Bytes), (a0_).drop i1 = rest → d_impl_condVarsOf_L1 a0_ k1 rest i1 w1_0 = some r → Ar Γ N Tryz.f113 (.q [[some (9, 1)]] (D.fr 9 1 ((r).map tx))) [1, 1, 0, 1, 0] (rest.length + 1) (d_impl_condVarsOf_S1 a0_ ((w1_0).map tx) ((i1 : Int))) := by
  intro rest
  induction rest with
  | nil =>
    intro i1 w1_0 hd1 h
    rw [d_impl_condVarsOf_L1] at h
    refine AWr_succ fun N1 hN1 hS1 => ?_
    exact ((pre0.ge Cond.c hd1).a [.hl 0 [3] [0]]).ex hΓ hN1 (hE1 (w1_0) h)
  | cons x1_ xs1 ih1 =>
    intro i1 w1_0 hd1 h
    rw [d_impl_condVarsOf_L1] at h
    refine AWr_succ fun N1 hN1 hS1 => ?_
    obtain ⟨y27, h28, h⟩ := den_bind h
    obtain ⟨h29, h⟩ := den_ok h
    exact (((((pre0.lt Cond.c hd1).l (map_row Cond.c 5 (dc hd1) rfl)).g (d_impl_CondVars_good h28)).w (room_ok h29)).a [.cn [3, 6, 7, 8] [3]]).cs hΓ hS1 (d_impl_condVarsOf_S1 a0_ (((w1_0).map tx) ++ ((y27).map tx)) (IntKind.i64.wrap (((i1 : Int)) + (1)))) (by first | (simp only [iS hd1 hm1, mA] <;> rfl) | (simp only [iS hd1 hm1, mA, Fact.c, Pair.c, Cond.c, Action.c, Rule.c, Token.c, Match.c, Alpha.c, Node.c, Network.c, Stamp.c] <;> rfl)) (ih1 (i1 + 1) ((w1_0) ++ (y27)) (dn hd1) h)
theorem d_impl_condVarsOf_good {a0_ : List Cond} {r : List Bytes} (h : d_impl_condVarsOf a0_ = some r) : Good Tryz.prog 113 [D.sl ((a0_).map Cond.c)] (D.fr 9 1 ((r).map tx)) := by
  refine gd Tryz.func113 [[some (9, 1)]] 18 fun hr Γ hΓ => ?_
  rw [d_impl_condVarsOf] at h
  refine (pre0.a [.pro 3, .cn [3, 6, 7, 8] [0]]).lp hΓ (d_impl_condVarsOf_L1w hΓ (fun q1_0 h => ?_) (by have := (Rdb.sl (hr _ (List.mem_of_getElem? (i := 0) rfl))).1; simpa using this) (a0_) 0 (([] : List Bytes)) rfl h)
  have h := den_some h; subst h; exact pre0.ret hΓ
def d_impl_IsRule_L1 (a0_ : Rule) (k1 : Option Bool) : List Cond → Nat → Option Bool
  | [], i1 => (k1 )
  | x1_ :: xs1, i1 => ((d_impl_IsCond (x1_)).bind fun y62 => (bif !(y62) then (some (false)) else (bif ((i1 : Int) : Int) == (0) then (bif (x1_.kind : Int) != (1) then (some (false)) else ((d_impl_condFits (a0_) ((i1 : Int))).bind fun y67 => (bif !(y67) then (some (false)) else (d_impl_IsRule_L1 a0_ k1 xs1 (i1 + 1) )))) else ((d_impl_condFits (a0_) ((i1 : Int))).bind fun y70 => (bif !(y70) then (some (false)) else (d_impl_IsRule_L1 a0_ k1 xs1 (i1 + 1) ))))))
def d_impl_IsRule_L3 (a0_ : Rule) (y73 : List Bytes) (i2 : Nat) (y206 : List Bytes) (k3 : Option Bool) : List Bytes → Nat → Option Bool
  | [], i3 => (k3 )
  | x3_ :: xs3, i3 => ((d_impl_hasText (y73) (x3_)).bind fun y229 => (bif !(y229) then (some (false)) else (d_impl_IsRule_L3 a0_ y73 i2 y206 k3 xs3 (i3 + 1) )))
def d_impl_IsRule_L2 (a0_ : Rule) (y73 : List Bytes) (k2 : Option Bool) : List Action → Nat → Option Bool
  | [], i2 => (k2 )
  | x2_ :: xs2, i2 => ((d_impl_IsAction (x2_)).bind fun y203 => (bif !(y203) then (some (false)) else ((d_impl_varsAmong (x2_.pat.args)).bind fun y206 => (bif decide ((y206).length ≤ maxLen) then (d_impl_IsRule_L3 a0_ y73 i2 y206 (d_impl_IsRule_L2 a0_ y73 k2 xs2 (i2 + 1) ) (y206) 0 ) else none))))
def d_impl_IsRule (a0_ : Rule) : Option Bool := ((d_impl_IsName (a0_.name)).bind fun y1 => (bif !(y1) then (some (false)) else (bif decide ((a0_.prio : Int) < (0)) then (some (false)) else (bif decide ((a0_.prio : Int) > (9)) then (some (false)) else (bif decide (((((a0_.conds).map Cond.c).length : Int) : Int) < (1)) then (some (false)) else (bif decide (((((a0_.conds).map Cond.c).length : Int) : Int) > (4)) then (some (false)) else (bif decide (((((a0_.acts).map Action.c).length : Int) : Int) < (1)) then (some (false)) else (bif decide (((((a0_.acts).map Action.c).length : Int) : Int) > (2)) then (some (false)) else (d_impl_IsRule_L1 a0_ ((d_impl_BoundVars (a0_) ((((a0_.conds).map Cond.c).length : Int))).bind fun y73 => (d_impl_IsRule_L2 a0_ y73 ((d_impl_condVarsOf (a0_.conds)).bind fun y233 => ((d_impl_SortedTexts (y233)).bind fun y235 => (some (decide (((((y235).map tx).length : Int) : Int) ≤ (6)))))) (a0_.acts) 0 )) (a0_.conds) 0 )))))))))
def d_impl_IsRule_S1 (a0_ : Rule) (ix_ : Int) : St := ⟨[(1, D.ptr 0 0), (49, D.sl ((a0_.conds).map Cond.c)), (50, D.int .i64 ((((a0_.conds).map Cond.c).length : Int))), (51, D.int .i64 (ix_))], [Ob.box (Rule.c a0_)]⟩
theorem d_impl_IsRule_L1w (hΓ : Γ.nt = 111) {a0_ : Rule} {r : Bool} {k1 : Option Bool} (hE1 : k1 = some r → Ax Γ N Tryz.f60 (.q [[none]] (D.bool (r))) [1, 1, 1] ⟨[(1, D.ptr 0 0)], [Ob.box (Rule.c a0_)]⟩) (hm1 : (a0_.conds).length ≤ maxLen) : ∀ (rest : List Cond) (i1 : Nat) , (a0_.conds).drop i1 = rest → d_impl_IsRule_L1 a0_ k1 rest i1  = some r → Ar Γ N Tryz.f60 (.q [[none]] (D.bool (r))) [1, 1, 0, 1, 0] (rest.length + 1) (d_impl_IsRule_S1 a0_ ((i1 : Int))) := by
  intro rest
  induction rest with
  | nil =>
    intro i1  hd1 h
    rw [d_impl_IsRule_L1] at h
    refine AWr_succ fun N1 hN1 hS1 => ?_
    exact ((pre0.ge Cond.c hd1).a [.hl 0 [1] [0]]).ex hΓ hN1 (hE1 h)
  | cons x1_ xs1 ih1 =>
    intro i1  hd1 h
    rw [d_impl_IsRule_L1] at h
    refine AWr_succ fun N1 hN1 hS1 => ?_
    obtain ⟨y62, h63, h⟩ := den_bind h
    have o12_ := (((pre0.lt Cond.c hd1).l (map_row Cond.c 5 (dc hd1) rfl)).g (d_impl_IsCond_good h63))
    obtain ⟨h64, h⟩ | ⟨h64, h⟩ := den_if h
    · have h := den_some h; subst h; exact ((((o12_.r 3 h64).a [bF, bF, bF]).r 2 h64).T 6).ret hΓ
    · have o13_ := (o12_.r 3 h64)
      obtain ⟨h65, h⟩ | ⟨h65, h⟩ := den_if h
      · have o14_ := ((((o13_.r 3 h65).b h64).b h65).b h64)
        obtain ⟨h66, h⟩ | ⟨h66, h⟩ := den_if h
        · have h := den_some h; subst h; exact ((o14_.r 5 h66).T 1).ret hΓ
        · obtain ⟨y67, h68, h⟩ := den_bind h
          have o15_ := (((o14_.r 3 h66).g (d_impl_condFits_good h68)).r 2 h66)
          obtain ⟨h69, h⟩ | ⟨h69, h⟩ := den_if h
          · have h := den_some h; subst h; exact (o15_.b h69).ret hΓ
          · exact ((o15_.b h69).a [.cn [1, 49, 50, 51] [0]]).ct hΓ hS1 (iS hd1 hm1) (ih1 (i1 + 1)  (dn hd1) h)
      · obtain ⟨y70, h71, h⟩ := den_bind h
        have o16_ := (((((((o13_.r 3 h65).b h64).b h65).b h64).F 3).g (d_impl_condFits_good h71)).F 2)
        obtain ⟨h72, h⟩ | ⟨h72, h⟩ := den_if h
        · have h := den_some h; subst h; exact (o16_.b h72).ret hΓ
        · exact ((o16_.b h72).a [.cn [1, 49, 50, 51] [0]]).ct hΓ hS1 (iS hd1 hm1) (ih1 (i1 + 1)  (dn hd1) h)
def d_impl_IsRule_S2 (a0_ : Rule) (y73 : List Bytes) (ix_ : Int) : St := ⟨[(1, D.ptr 0 0), (5, D.acc 1), (81, D.sl ((a0_.acts).map Action.c)), (82, D.int .i64 ((((a0_.acts).map Action.c).length : Int))), (83, D.int .i64 (ix_))], [Ob.box (Rule.c a0_), Ob.row .uq 9 1 ((y73).map tx)]⟩
def d_impl_IsRule_S3 (a0_ : Rule) (y73 : List Bytes) (i2 : Nat) (y206 : List Bytes) (ix_ : Int) : St := ⟨[(1, D.ptr 0 0), (5, D.acc 1), (81, D.sl ((a0_.acts).map Action.c)), (82, D.int .i64 ((((a0_.acts).map Action.c).length : Int))), (83, D.int .i64 ((i2 : Int))), (93, D.acc 2), (94, D.int .i64 ((((y206).map tx).length : Int))), (95, D.int .i64 (ix_))], [Ob.box (Rule.c a0_), Ob.row .uq 9 1 ((y73).map tx), Ob.row .uq 9 1 ((y206).map tx)]⟩
theorem d_impl_IsRule_L3w (hΓ : Γ.nt = 111) {a0_ : Rule} {y73 : List Bytes} {i2 : Nat} {y206 : List Bytes} {r : Bool} {k3 : Option Bool} (hE3 : k3 = some r → Ax Γ N Tryz.f60 (.q [[none]] (D.bool (r))) [1, 1, 1, 1, 0, 1, 0, 0, 1, 1, 1] ⟨[(1, D.ptr 0 0), (5, D.acc 1), (81, D.sl ((a0_.acts).map Action.c)), (82, D.int .i64 ((((a0_.acts).map Action.c).length : Int))), (83, D.int .i64 ((i2 : Int)))], [Ob.box (Rule.c a0_), Ob.row .uq 9 1 ((y73).map tx)]⟩) (hm3 : (y206).length ≤ maxLen) : ∀ (rest : List Bytes) (i3 : Nat) , (y206).drop i3 = rest → d_impl_IsRule_L3 a0_ y73 i2 y206 k3 rest i3  = some r → Ar Γ N Tryz.f60 (.q [[none]] (D.bool (r))) [1, 1, 1, 1, 0, 1, 0, 0, 1, 1, 0, 0, 1, 1, 1, 0] (rest.length + 1) (d_impl_IsRule_S3 a0_ y73 i2 y206 ((i3 : Int))) := by
  intro rest
  induction rest with
  | nil =>
    intro i3  hd3 h
    rw [d_impl_IsRule_L3] at h
    refine AWr_succ fun N3 hN3 hS3 => ?_
    exact ((pre0.ge tx hd3).a [.hl 3 [1, 5, 81, 82, 83] [0, 1]]).ex hΓ hN3 (hE3 h)
  | cons x3_ xs3 ih3 =>
    intro i3  hd3 h
    rw [d_impl_IsRule_L3] at h
    refine AWr_succ fun N3 hN3 hS3 => ?_
    obtain ⟨y229, h230, h⟩ := den_bind h
    have o21_ := ((((pre0.lt tx hd3).i (own_ixl tx 1 (dc hd3))).o 1 1 .uq (map_get tx (dc hd3))).g (d_impl_hasText_good h230))
    obtain ⟨h231, h⟩ | ⟨h231, h⟩ := den_if h
    · have h := den_some h; subst h; exact (o21_.b h231).ret hΓ
    · exact ((o21_.b h231).a [.cn [1, 5, 81, 82, 83, 93, 94, 95] [0, 1, 2]]).ct hΓ hS3 (iS hd3 hm3) (ih3 (i3 + 1)  (dn hd3) h)
theorem d_impl_IsRule_L2w (hΓ : Γ.nt = 111) {a0_ : Rule} {y73 : List Bytes} {r : Bool} {k2 : Option Bool} (hE2 : k2 = some r → Ax Γ N Tryz.f60 (.q [[none]] (D.bool (r))) [1, 1, 1, 1, 1] ⟨[(1, D.ptr 0 0)], [Ob.box (Rule.c a0_)]⟩) (hm2 : (a0_.acts).length ≤ maxLen) : ∀ (rest : List Action) (i2 : Nat) , (a0_.acts).drop i2 = rest → d_impl_IsRule_L2 a0_ y73 k2 rest i2  = some r → Ar Γ N Tryz.f60 (.q [[none]] (D.bool (r))) [1, 1, 1, 1, 0, 1, 0] (rest.length + 1) (d_impl_IsRule_S2 a0_ y73 ((i2 : Int))) := by
  intro rest
  induction rest with
  | nil =>
    intro i2  hd2 h
    rw [d_impl_IsRule_L2] at h
    refine AWr_succ fun N2 hN2 hS2 => ?_
    exact ((pre0.ge Action.c hd2).a [.hl 0 [1] [0]]).ex hΓ hN2 (hE2 h)
  | cons x2_ xs2 ih2 =>
    intro i2  hd2 h
    rw [d_impl_IsRule_L2] at h
    refine AWr_succ fun N2 hN2 hS2 => ?_
    obtain ⟨y203, h204, h⟩ := den_bind h
    have o22_ := (((pre0.lt Action.c hd2).l (map_row Action.c 3 (dc hd2) rfl)).g (d_impl_IsAction_good h204))
    obtain ⟨h205, h⟩ | ⟨h205, h⟩ := den_if h
    · have h := den_some h; subst h; exact (o22_.b h205).ret hΓ
    · obtain ⟨y206, h207, h⟩ := den_bind h
      obtain ⟨h232, h⟩ := den_ok h
      refine (((o22_.b h205).g (d_impl_varsAmong_good h207)).a [.cn [1, 5, 81, 82, 83, 93, 94, 95] [0, 1, 3]]).lp hΓ (d_impl_IsRule_L3w hΓ (fun h => ?_) (of_decide_eq_true h232) (y206) 0  rfl h)
      exact (pre0.a [.cn [1, 5, 81, 82, 83] [0, 1]]).ct hΓ hS2 (iS hd2 hm2) (ih2 (i2 + 1)  (dn hd2) h)
theorem d_impl_IsRule_good {a0_ : Rule} {r : Bool} (h : d_impl_IsRule a0_ = some r) : Good Tryz.prog 60 [D.agg (Rule.c a0_)] (D.bool (r)) := by
  refine gd Tryz.func60 [[none]] 111 fun hr Γ hΓ => ?_
  rw [d_impl_IsRule] at h
  obtain ⟨y1, h2, h⟩ := den_bind h
  obtain ⟨h3, h⟩ | ⟨h3, h⟩ := den_if h
  · have h := den_some h; subst h; exact (((pre0.g (d_impl_IsName_good h2)).r 4 h3).T 25).ret hΓ
  · have o23_ := ((pre0.g (d_impl_IsName_good h2)).r 4 h3)
    obtain ⟨h4, h⟩ | ⟨h4, h⟩ := den_if h
    · have h := den_some h; subst h; exact ((o23_.r 4 h4).T 21).ret hΓ
    · have o24_ := (o23_.r 4 h4)
      obtain ⟨h5, h⟩ | ⟨h5, h⟩ := den_if h
      · have h := den_some h; subst h; exact ((o24_.r 5 h5).T 16).ret hΓ
      · have o25_ := (o24_.r 5 h5)
        obtain ⟨h6, h⟩ | ⟨h6, h⟩ := den_if h
        · have h := den_some h; subst h; exact ((o25_.r 5 h6).T 11).ret hΓ
        · have o26_ := (o25_.r 5 h6)
          obtain ⟨h7, h⟩ | ⟨h7, h⟩ := den_if h
          · have h := den_some h; subst h; exact ((o26_.r 5 h7).T 6).ret hΓ
          · have o27_ := (o26_.r 5 h7)
            obtain ⟨h8, h⟩ | ⟨h8, h⟩ := den_if h
            · have h := den_some h; subst h; exact ((o27_.r 5 h8).T 1).ret hΓ
            · have o28_ := (o27_.r 5 h8)
              obtain ⟨h9, h⟩ | ⟨h9, h⟩ := den_if h
              · have h := den_some h; subst h; exact (o28_.b h9).ret hΓ
              · refine ((o28_.b h9).a [.cn [1, 49, 50, 51] [0]]).lp hΓ (d_impl_IsRule_L1w hΓ (fun h => ?_) (by have := (Rdb.sl (Rdb.agg (hr _ (List.mem_of_getElem? (i := 0) rfl)) (.sl ((a0_.conds).map Cond.c)) (by simp))).1; simpa using this) (a0_.conds) 0  rfl h)
                obtain ⟨y73, h74, h⟩ := den_bind h
                refine ((pre0.g (d_impl_BoundVars_good h74)).a [.cn [1, 5, 81, 82, 83] [0, 1]]).lp hΓ (d_impl_IsRule_L2w hΓ (fun h => ?_) (by have := (Rdb.sl (Rdb.agg (hr _ (List.mem_of_getElem? (i := 0) rfl)) (.sl ((a0_.acts).map Action.c)) (by simp))).1; simpa using this) (a0_.acts) 0  rfl h)
                obtain ⟨y233, h234, h⟩ := den_bind h
                obtain ⟨y235, h236, h⟩ := den_bind h
                cases h; exact ((pre0.g (d_impl_condVarsOf_good h234)).g (d_impl_SortedTexts_good h236)).ret hΓ
def d_impl_FindRule_L1 (a0_ : List Rule) (a1_ : Bytes) (k1 : Option Int) : List Rule → Nat → Option Int
  | [], i1 => (k1 )
  | x1_ :: xs1, i1 => (bif (x1_.name : Bytes) == (a1_) then (some ((i1 : Int))) else (d_impl_FindRule_L1 a0_ a1_ k1 xs1 (i1 + 1) ))
def d_impl_FindRule (a0_ : List Rule) (a1_ : Bytes) : Option Int := (d_impl_FindRule_L1 a0_ a1_ (some (-1)) (a0_) 0 )
def d_impl_FindRule_S1 (a0_ : List Rule) (a1_ : Bytes) (ix_ : Int) : St := ⟨[(1, D.str (a1_)), (7, D.sl ((a0_).map Rule.c)), (8, D.int .i64 ((((a0_).map Rule.c).length : Int))), (9, D.int .i64 (ix_))], []⟩
theorem d_impl_FindRule_L1w (hΓ : Γ.nt = 20) {a0_ : List Rule} {a1_ : Bytes} {r : Int} {k1 : Option Int} (hE1 : k1 = some r → Ax Γ N Tryz.f61 (.q [[none]] (D.int .i64 (r))) [1, 1] ⟨[], []⟩) (hm1 : (a0_).length ≤ maxLen) : ∀ (rest : List Rule) (i1 : Nat) , (a0_).drop i1 = rest → d_impl_FindRule_L1 a0_ a1_ k1 rest i1  = some r → Ar Γ N Tryz.f61 (.q [[none]] (D.int .i64 (r))) [1, 0, 1, 0] (rest.length + 1) (d_impl_FindRule_S1 a0_ a1_ ((i1 : Int))) := by
  intro rest
  induction rest with
  | nil =>
    intro i1  hd1 h
    rw [d_impl_FindRule_L1] at h
    refine AWr_succ fun N1 hN1 hS1 => ?_
    exact ((pre0.ge Rule.c hd1).a [.hl 0 [] []]).ex hΓ hN1 (hE1 h)
  | cons x1_ xs1 ih1 =>
    intro i1  hd1 h
    rw [d_impl_FindRule_L1] at h
    refine AWr_succ fun N1 hN1 hS1 => ?_
    have o2_ := ((pre0.lt Rule.c hd1).l (map_row Rule.c 4 (dc hd1) rfl))
    obtain ⟨h13, h⟩ | ⟨h13, h⟩ := den_if h
    · cases h; exact (o2_.b h13).ret hΓ
    · exact ((o2_.b h13).a [.cn [1, 7, 8, 9] []]).ct hΓ hS1 (iS hd1 hm1) (ih1 (i1 + 1)  (dn hd1) h)
theorem d_impl_FindRule_good {a0_ : List Rule} {a1_ : Bytes} {r : Int} (h : d_impl_FindRule a0_ a1_ = some r) : Good Tryz.prog 61 [D.sl ((a0_).map Rule.c), D.str (a1_)] (D.int .i64 (r)) := by
  refine gd Tryz.func61 [[none]] 20 fun hr Γ hΓ => ?_
  rw [d_impl_FindRule] at h
  refine (pre0.a [.cn [1, 7, 8, 9] []]).lp hΓ (d_impl_FindRule_L1w hΓ (fun h => ?_) (by have := (Rdb.sl (hr _ (List.mem_of_getElem? (i := 0) rfl))).1; simpa using this) (a0_) 0  rfl h)
  cases h; exact pre0.ret hΓ
def d_impl_AreRules_L1 (a0_ : List Rule) (k1 : Option Bool) : List Rule → Nat → Option Bool
  | [], i1 => (k1 )
  | x1_ :: xs1, i1 => ((d_impl_IsRule (x1_)).bind fun y34 => (bif !(y34) then (some (false)) else ((d_impl_FindRule (a0_) (x1_.name)).bind fun y37 => (bif (y37 : Int) != ((i1 : Int)) then (some (false)) else (d_impl_AreRules_L1 a0_ k1 xs1 (i1 + 1) )))))
def d_impl_AreRules (a0_ : List Rule) : Option Bool := (bif decide (((((a0_).map Rule.c).length : Int) : Int) > (6)) then (some (false)) else (d_impl_AreRules_L1 a0_ (some (true)) (a0_) 0 ))
def d_impl_AreRules_S1 (a0_ : List Rule) (ix_ : Int) : St := ⟨[(0, D.sl ((a0_).map Rule.c)), (8, D.sl ((a0_).map Rule.c)), (9, D.int .i64 ((((a0_).map Rule.c).length : Int))), (10, D.int .i64 (ix_))], []⟩
theorem d_impl_AreRules_L1w (hΓ : Γ.nt = 27) {a0_ : List Rule} {r : Bool} {k1 : Option Bool} (hE1 : k1 = some r → Ax Γ N Tryz.f25 (.q [[none]] (D.bool (r))) [1, 1, 1] ⟨[], []⟩) (hm1 : (a0_).length ≤ maxLen) : ∀ (rest : List Rule) (i1 : Nat) , (a0_).drop i1 = rest → d_impl_AreRules_L1 a0_ k1 rest i1  = some r → Ar Γ N Tryz.f25 (.q [[none]] (D.bool (r))) [1, 1, 0, 1, 0] (rest.length + 1) (d_impl_AreRules_S1 a0_ ((i1 : Int))) := by
  intro rest
  induction rest with
  | nil =>
    intro i1  hd1 h
    rw [d_impl_AreRules_L1] at h
    refine AWr_succ fun N1 hN1 hS1 => ?_
    exact ((pre0.ge Rule.c hd1).a [.hl 0 [] []]).ex hΓ hN1 (hE1 h)
  | cons x1_ xs1 ih1 =>
    intro i1  hd1 h
    rw [d_impl_AreRules_L1] at h
    refine AWr_succ fun N1 hN1 hS1 => ?_
    obtain ⟨y34, h35, h⟩ := den_bind h
    have o3_ := (((pre0.lt Rule.c hd1).l (map_row Rule.c 4 (dc hd1) rfl)).g (d_impl_IsRule_good h35))
    obtain ⟨h36, h⟩ | ⟨h36, h⟩ := den_if h
    · have h := den_some h; subst h; exact ((o3_.r 7 h36).T 1).ret hΓ
    · obtain ⟨y37, h38, h⟩ := den_bind h
      have o4_ := (((o3_.r 4 h36).g (d_impl_FindRule_good h38)).r 3 h36)
      obtain ⟨h39, h⟩ | ⟨h39, h⟩ := den_if h
      · have h := den_some h; subst h; exact (o4_.b h39).ret hΓ
      · exact ((o4_.b h39).a [.cn [0, 8, 9, 10] []]).ct hΓ hS1 (iS hd1 hm1) (ih1 (i1 + 1)  (dn hd1) h)
theorem d_impl_AreRules_good {a0_ : List Rule} {r : Bool} (h : d_impl_AreRules a0_ = some r) : Good Tryz.prog 25 [D.sl ((a0_).map Rule.c)] (D.bool (r)) := by
  refine gd Tryz.func25 [[none]] 27 fun hr Γ hΓ => ?_
  rw [d_impl_AreRules] at h
  obtain ⟨h1, h⟩ | ⟨h1, h⟩ := den_if h
  · have h := den_some h; subst h; exact (pre0.b h1).ret hΓ
  · refine ((pre0.b h1).a [.cn [0, 8, 9, 10] []]).lp hΓ (d_impl_AreRules_L1w hΓ (fun h => ?_) (by have := (Rdb.sl (hr _ (List.mem_of_getElem? (i := 0) rfl))).1; simpa using this) (a0_) 0  rfl h)
    have h := den_some h; subst h; exact pre0.ret hΓ
def d_impl_copyPattern (a0_ : Fact) : Option Fact := ((d_impl_copyTexts (a0_.args)).bind fun y1 => (some ((⟨a0_.rel, y1⟩ : Fact))))
theorem d_impl_copyPattern_good {a0_ : Fact} {r : Fact} (h : d_impl_copyPattern a0_ = some r) : Good Tryz.prog 159 [D.agg (Fact.c a0_)] (D.agg [D.str (r.rel), D.fr 9 1 ((r.args).map tx)]) := by
  refine gd Tryz.func159 [[none, some (9, 1)]] 9 fun hr Γ hΓ => ?_
  rw [d_impl_copyPattern] at h
  obtain ⟨y1, h2, h⟩ := den_bind h
  cases h; exact ((pre0.a [.n 5]).g (d_impl_copyTexts_good h2)).ret hΓ
def d_impl_copyCond (a0_ : Cond) : Option Cond := ((d_impl_copyPattern (a0_.pat)).bind fun y1 => (some ((⟨a0_.kind, y1, a0_.left, a0_.right⟩ : Cond))))
theorem d_impl_copyCond_good {a0_ : Cond} {r : Cond} (h : d_impl_copyCond a0_ = some r) : Good Tryz.prog 120 [D.agg (Cond.c a0_)] (D.agg [D.int .i64 (r.kind), D.str (r.pat.rel), D.fr 9 1 ((r.pat.args).map tx), D.str (r.left), D.str (r.right)]) := by
  refine gd Tryz.func120 [[none, none, some (9, 1), none, none]] 8 fun hr Γ hΓ => ?_
  rw [d_impl_copyCond] at h
  obtain ⟨y1, h2, h⟩ := den_bind h
  cases h; exact (pre0.g (d_impl_copyPattern_good h2)).ret hΓ
def d_impl_copyConds_L1 (a0_ : List Cond) (k1 : List Cond → Option (List Cond)) : List Cond → Nat → List Cond → Option (List Cond)
  | [], i1, w1_0 => (k1 (w1_0))
  | x1_ :: xs1, i1, w1_0 => ((d_impl_copyCond (x1_)).bind fun y27 => (bif room (((w1_0).map Cond.c).length + ([[D.int .i64 (y27.kind), D.str (y27.pat.rel), D.sl ((y27.pat.args).map tx), D.str (y27.left), D.str (y27.right)]]).length) 80 then (d_impl_copyConds_L1 a0_ k1 xs1 (i1 + 1) ((w1_0) ++ ([y27]))) else none))
def d_impl_copyConds (a0_ : List Cond) : Option (List Cond) := (d_impl_copyConds_L1 a0_ (fun (q1_0 : List Cond) => (some (q1_0))) (a0_) 0 (([] : List Cond)))
def d_impl_copyConds_S1 (a0_ : List Cond) (W0 : List (List D)) (ix_ : Int) : St := ⟨[(3, D.acc 0), (6, D.sl ((a0_).map Cond.c)), (7, D.int .i64 ((((a0_).map Cond.c).length : Int))), (8, D.int .i64 (ix_))], [Ob.row .uq 73 5 (W0)]⟩
theorem d_impl_copyConds_L1w (hΓ : Γ.nt = 19) {a0_ : List Cond} {r : List Cond} {k1 : List Cond → Option (List Cond)} (hE1 : ∀ (q1_0 : List Cond), k1 q1_0 = some r → Ax Γ N Tryz.f158 (.q [[some (73, 5)]] (D.fr 73 5 ((r).map Cond.c))) [1, 1, 1] ⟨[(3, D.acc 0)], [Ob.row .uq 73 5 ((q1_0).map Cond.c)]⟩) (hm1 : (a0_).length ≤ maxLen) : ∀ (rest : List Cond) (i1 : Nat) (w1_0 : List Cond), (a0_).drop i1 = rest → d_impl_copyConds_L1 a0_ k1 rest i1 w1_0 = some r → Ar Γ N Tryz.f158 (.q [[some (73, 5)]] (D.fr 73 5 ((r).map Cond.c))) [1, 1, 0, 1, 0] (rest.length + 1) (d_impl_copyConds_S1 a0_ ((w1_0).map Cond.c) ((i1 : Int))) := by
  intro rest
  induction rest with
  | nil =>
    intro i1 w1_0 hd1 h
    rw [d_impl_copyConds_L1] at h
    refine AWr_succ fun N1 hN1 hS1 => ?_
    exact ((pre0.ge Cond.c hd1).a [.hl 0 [3] [0]]).ex hΓ hN1 (hE1 (w1_0) h)
  | cons x1_ xs1 ih1 =>
    intro i1 w1_0 hd1 h
    rw [d_impl_copyConds_L1] at h
    refine AWr_succ fun N1 hN1 hS1 => ?_
    obtain ⟨y27, h28, h⟩ := den_bind h
    obtain ⟨h29, h⟩ := den_ok h
    exact (((((pre0.lt Cond.c hd1).l (map_row Cond.c 5 (dc hd1) rfl)).g (d_impl_copyCond_good h28)).w (room_ok h29)).a [.cn [3, 6, 7, 8] [4]]).cs hΓ hS1 (d_impl_copyConds_S1 a0_ (((w1_0).map Cond.c) ++ ([[D.int .i64 (y27.kind), D.str (y27.pat.rel), D.sl ((y27.pat.args).map tx), D.str (y27.left), D.str (y27.right)]])) (IntKind.i64.wrap (((i1 : Int)) + (1)))) (by first | (simp only [iS hd1 hm1, mA] <;> rfl) | (simp only [iS hd1 hm1, mA, Fact.c, Pair.c, Cond.c, Action.c, Rule.c, Token.c, Match.c, Alpha.c, Node.c, Network.c, Stamp.c] <;> rfl)) (ih1 (i1 + 1) ((w1_0) ++ ([y27])) (dn hd1) h)
theorem d_impl_copyConds_good {a0_ : List Cond} {r : List Cond} (h : d_impl_copyConds a0_ = some r) : Good Tryz.prog 158 [D.sl ((a0_).map Cond.c)] (D.fr 73 5 ((r).map Cond.c)) := by
  refine gd Tryz.func158 [[some (73, 5)]] 19 fun hr Γ hΓ => ?_
  rw [d_impl_copyConds] at h
  refine (pre0.a [.pro 3, .cn [3, 6, 7, 8] [0]]).lp hΓ (d_impl_copyConds_L1w hΓ (fun q1_0 h => ?_) (by have := (Rdb.sl (hr _ (List.mem_of_getElem? (i := 0) rfl))).1; simpa using this) (a0_) 0 (([] : List Cond)) rfl h)
  have h := den_some h; subst h; exact pre0.ret hΓ
def d_impl_copyRule_L1 (a0_ : Rule) (y1 : List Cond) (k1 : List Action → Option Rule) : List Action → Nat → List Action → Option Rule
  | [], i1, w1_3 => (k1 (w1_3))
  | x1_ :: xs1, i1, w1_3 => ((d_impl_copyPattern (x1_.pat)).bind fun y41 => (bif room (((w1_3).map Action.c).length + ([[D.int .i64 (x1_.kind), D.str (y41.rel), D.sl ((y41.args).map tx)]]).length) 48 then (d_impl_copyRule_L1 a0_ y1 k1 xs1 (i1 + 1) ((w1_3) ++ ([(⟨x1_.kind, y41⟩ : Action)]))) else none))
def d_impl_copyRule (a0_ : Rule) : Option Rule := ((d_impl_copyConds (a0_.conds)).bind fun y1 => (d_impl_copyRule_L1 a0_ y1 (fun (q1_3 : List Action) => (some ((⟨a0_.name, a0_.prio, y1, q1_3⟩ : Rule)))) (a0_.acts) 0 (([] : List Action))))
def d_impl_copyRule_S1 (a0_ : Rule) (y1 : List Cond) (W0 : List (List D)) (ix_ : Int) : St := ⟨[(2, D.ptr 0 0), (3, D.ptr 1 0), (15, D.sl ((a0_.acts).map Action.c)), (16, D.int .i64 ((((a0_.acts).map Action.c).length : Int))), (17, D.int .i64 (ix_))], [Ob.box [D.str ([]), D.int .i64 (0), D.nil, D.nil], Ob.box [D.str (a0_.name), D.int .i64 (a0_.prio), D.acc 2, D.acc 3], Ob.row .uq 73 5 ((y1).map Cond.c), Ob.row .uq 100 3 (W0)]⟩
theorem d_impl_copyRule_L1w (hΓ : Γ.nt = 34) {a0_ : Rule} {y1 : List Cond} {r : Rule} {k1 : List Action → Option Rule} (hE1 : ∀ (q1_3 : List Action), k1 q1_3 = some r → Ax Γ N Tryz.f114 (.q [[none, none, some (73, 5), some (100, 3)]] (D.agg [D.str (r.name), D.int .i64 (r.prio), D.fr 73 5 ((r.conds).map Cond.c), D.fr 100 3 ((r.acts).map Action.c)])) [1, 1, 1] ⟨[(2, D.ptr 0 0), (3, D.ptr 1 0)], [Ob.box [D.str ([]), D.int .i64 (0), D.nil, D.nil], Ob.box [D.str (a0_.name), D.int .i64 (a0_.prio), D.acc 2, D.acc 3], Ob.row .uq 73 5 ((y1).map Cond.c), Ob.row .uq 100 3 ((q1_3).map Action.c)]⟩) (hm1 : (a0_.acts).length ≤ maxLen) : ∀ (rest : List Action) (i1 : Nat) (w1_3 : List Action), (a0_.acts).drop i1 = rest → d_impl_copyRule_L1 a0_ y1 k1 rest i1 w1_3 = some r → Ar Γ N Tryz.f114 (.q [[none, none, some (73, 5), some (100, 3)]] (D.agg [D.str (r.name), D.int .i64 (r.prio), D.fr 73 5 ((r.conds).map Cond.c), D.fr 100 3 ((r.acts).map Action.c)])) [1, 1, 0, 1, 0] (rest.length + 1) (d_impl_copyRule_S1 a0_ y1 ((w1_3).map Action.c) ((i1 : Int))) := by
  intro rest
  induction rest with
  | nil =>
    intro i1 w1_3 hd1 h
    rw [d_impl_copyRule_L1] at h
    refine AWr_succ fun N1 hN1 hS1 => ?_
    exact ((pre0.ge Action.c hd1).a [.hl 0 [2, 3] [0, 1, 2, 3]]).ex hΓ hN1 (hE1 (w1_3) h)
  | cons x1_ xs1 ih1 =>
    intro i1 w1_3 hd1 h
    rw [d_impl_copyRule_L1] at h
    refine AWr_succ fun N1 hN1 hS1 => ?_
    obtain ⟨y41, h42, h⟩ := den_bind h
    obtain ⟨h43, h⟩ := den_ok h
    exact ((((((pre0.lt Action.c hd1).l (map_row Action.c 3 (dc hd1) rfl)).a [.n2 [0, 1, 2, 3, 4, 5, 6, 7, 8, 9, 10, 11] [0, 1, 2, 3, 4, 5, 6, 7, 8, 9, 10, 11] 8 9 [0, 1] [5]]).g (d_impl_copyPattern_good h42)).w (room_ok h43)).a [.cn [2, 3, 15, 16, 17] [0, 1, 2, 7]]).cs hΓ hS1 (d_impl_copyRule_S1 a0_ y1 (((w1_3).map Action.c) ++ ([[D.int .i64 (x1_.kind), D.str (y41.rel), D.sl ((y41.args).map tx)]])) (IntKind.i64.wrap (((i1 : Int)) + (1)))) (by first | (simp only [iS hd1 hm1, mA] <;> rfl) | (simp only [iS hd1 hm1, mA, Fact.c, Pair.c, Cond.c, Action.c, Rule.c, Token.c, Match.c, Alpha.c, Node.c, Network.c, Stamp.c] <;> rfl)) (ih1 (i1 + 1) ((w1_3) ++ ([(⟨x1_.kind, y41⟩ : Action)])) (dn hd1) h)
theorem d_impl_copyRule_good {a0_ : Rule} {r : Rule} (h : d_impl_copyRule a0_ = some r) : Good Tryz.prog 114 [D.agg (Rule.c a0_)] (D.agg [D.str (r.name), D.int .i64 (r.prio), D.fr 73 5 ((r.conds).map Cond.c), D.fr 100 3 ((r.acts).map Action.c)]) := by
  refine gd Tryz.func114 [[none, none, some (73, 5), some (100, 3)]] 34 fun hr Γ hΓ => ?_
  rw [d_impl_copyRule] at h
  obtain ⟨y1, h2, h⟩ := den_bind h
  refine (((pre0.a [.n 9]).g (d_impl_copyConds_good h2)).a [.pb 3 3 100 3, .cn [2, 3, 15, 16, 17] [1, 3, 2, 4]]).lp hΓ (d_impl_copyRule_L1w hΓ (fun q1_3 h => ?_) (by have := (Rdb.sl (Rdb.agg (hr _ (List.mem_of_getElem? (i := 0) rfl)) (.sl ((a0_.acts).map Action.c)) (by simp))).1; simpa using this) (a0_.acts) 0 (([] : List Action)) rfl h)
  cases h; exact pre0.ret hΓ
def d_impl_copyRules_L1 (a0_ : List Rule) (k1 : List Rule → Option (List Rule)) : List Rule → Nat → List Rule → Option (List Rule)
  | [], i1, w1_0 => (k1 (w1_0))
  | x1_ :: xs1, i1, w1_0 => ((d_impl_copyRule (x1_)).bind fun y27 => (bif room (((w1_0).map Rule.c).length + ([[D.str (y27.name), D.int .i64 (y27.prio), D.sl ((y27.conds).map Cond.c), D.sl ((y27.acts).map Action.c)]]).length) 72 then (d_impl_copyRules_L1 a0_ k1 xs1 (i1 + 1) ((w1_0) ++ ([y27]))) else none))
def d_impl_copyRules (a0_ : List Rule) : Option (List Rule) := (d_impl_copyRules_L1 a0_ (fun (q1_0 : List Rule) => (some (q1_0))) (a0_) 0 (([] : List Rule)))
def d_impl_copyRules_S1 (a0_ : List Rule) (W0 : List (List D)) (ix_ : Int) : St := ⟨[(3, D.acc 0), (6, D.sl ((a0_).map Rule.c)), (7, D.int .i64 ((((a0_).map Rule.c).length : Int))), (8, D.int .i64 (ix_))], [Ob.row .uq 31 4 (W0)]⟩
theorem d_impl_copyRules_L1w (hΓ : Γ.nt = 19) {a0_ : List Rule} {r : List Rule} {k1 : List Rule → Option (List Rule)} (hE1 : ∀ (q1_0 : List Rule), k1 q1_0 = some r → Ax Γ N Tryz.f62 (.q [[some (31, 4)]] (D.fr 31 4 ((r).map Rule.c))) [1, 1, 1] ⟨[(3, D.acc 0)], [Ob.row .uq 31 4 ((q1_0).map Rule.c)]⟩) (hm1 : (a0_).length ≤ maxLen) : ∀ (rest : List Rule) (i1 : Nat) (w1_0 : List Rule), (a0_).drop i1 = rest → d_impl_copyRules_L1 a0_ k1 rest i1 w1_0 = some r → Ar Γ N Tryz.f62 (.q [[some (31, 4)]] (D.fr 31 4 ((r).map Rule.c))) [1, 1, 0, 1, 0] (rest.length + 1) (d_impl_copyRules_S1 a0_ ((w1_0).map Rule.c) ((i1 : Int))) := by
  intro rest
  induction rest with
  | nil =>
    intro i1 w1_0 hd1 h
    rw [d_impl_copyRules_L1] at h
    refine AWr_succ fun N1 hN1 hS1 => ?_
    exact ((pre0.ge Rule.c hd1).a [.hl 0 [3] [0]]).ex hΓ hN1 (hE1 (w1_0) h)
  | cons x1_ xs1 ih1 =>
    intro i1 w1_0 hd1 h
    rw [d_impl_copyRules_L1] at h
    refine AWr_succ fun N1 hN1 hS1 => ?_
    obtain ⟨y27, h28, h⟩ := den_bind h
    obtain ⟨h29, h⟩ := den_ok h
    exact (((((pre0.lt Rule.c hd1).l (map_row Rule.c 4 (dc hd1) rfl)).g (d_impl_copyRule_good h28)).w (room_ok h29)).a [.cn [3, 6, 7, 8] [5]]).cs hΓ hS1 (d_impl_copyRules_S1 a0_ (((w1_0).map Rule.c) ++ ([[D.str (y27.name), D.int .i64 (y27.prio), D.sl ((y27.conds).map Cond.c), D.sl ((y27.acts).map Action.c)]])) (IntKind.i64.wrap (((i1 : Int)) + (1)))) (by first | (simp only [iS hd1 hm1, mA] <;> rfl) | (simp only [iS hd1 hm1, mA, Fact.c, Pair.c, Cond.c, Action.c, Rule.c, Token.c, Match.c, Alpha.c, Node.c, Network.c, Stamp.c] <;> rfl)) (ih1 (i1 + 1) ((w1_0) ++ ([y27])) (dn hd1) h)
theorem d_impl_copyRules_good {a0_ : List Rule} {r : List Rule} (h : d_impl_copyRules a0_ = some r) : Good Tryz.prog 62 [D.sl ((a0_).map Rule.c)] (D.fr 31 4 ((r).map Rule.c)) := by
  refine gd Tryz.func62 [[some (31, 4)]] 19 fun hr Γ hΓ => ?_
  rw [d_impl_copyRules] at h
  refine (pre0.a [.pro 3, .cn [3, 6, 7, 8] [0]]).lp hΓ (d_impl_copyRules_L1w hΓ (fun q1_0 h => ?_) (by have := (Rdb.sl (hr _ (List.mem_of_getElem? (i := 0) rfl))).1; simpa using this) (a0_) 0 (([] : List Rule)) rfl h)
  have h := den_some h; subst h; exact pre0.ret hΓ
def d_impl_FormatInt (a0_ : Int) : Option Bytes := ((d_strconv_Itoa (a0_)).bind fun y1 => (some (y1)))
theorem d_impl_FormatInt_good {a0_ : Int} {r : Bytes} (h : d_impl_FormatInt a0_ = some r) : Good Tryz.prog 179 [D.int .i64 (a0_)] (D.str (r)) := by
  refine gd Tryz.func179 [[none]] 5 fun hr Γ hΓ => ?_
  rw [d_impl_FormatInt] at h
  obtain ⟨y1, h2, h⟩ := den_bind h
  have h := den_some h; subst h; exact (pre0.g (d_strconv_Itoa_good h2)).ret hΓ
def d_impl_plainPairs_L1 (a0_ : List Bytes) (k1 : List Pair → Option (List Pair)) : List Bytes → Nat → List Pair → List (Bytes × Bool) → Option (List Pair)
  | [], i1, w1_0, m1_1 => (k1 (w1_0))
  | x1_ :: xs1, i1, w1_0, m1_1 => ((d_impl_IsVar (x1_)).bind fun y52 => (bif y52 then (bif !(mGet false (x1_) (m1_1)) then ((d_impl_FormatInt (IntKind.i64.wrap (((((w1_0).map Pair.c).length : Int)) + (1)))).bind fun y56 => (bif decide (([63] : Bytes).length + (y56 : Bytes).length ≤ maxLen) then (bif room (((w1_0).map Pair.c).length + ([[D.str (x1_), D.str (([63]) ++ (y56))]]).length) 32 then (d_impl_plainPairs_L1 a0_ k1 xs1 (i1 + 1) ((w1_0) ++ ([(⟨x1_, ([63]) ++ (y56)⟩ : Pair)])) (mPut (x1_) (true) (m1_1))) else none) else none)) else (d_impl_plainPairs_L1 a0_ k1 xs1 (i1 + 1) (w1_0) (m1_1))) else (d_impl_plainPairs_L1 a0_ k1 xs1 (i1 + 1) (w1_0) (m1_1))))
def d_impl_plainPairs (a0_ : List Bytes) : Option (List Pair) := (d_impl_plainPairs_L1 a0_ (fun (q1_0 : List Pair) => (some (q1_0))) (a0_) 0 (([] : List Pair)) (([] : List (Bytes × Bool))))
def d_impl_plainPairs_S1 (a0_ : List Bytes) (W0 : List (List D)) (W1 : List (D × D)) (ix_ : Int) : St := ⟨[(3, D.acc 0), (4, D.acc 1), (8, D.sl ((a0_).map tx)), (9, D.int .i64 ((((a0_).map tx).length : Int))), (10, D.int .i64 (ix_))], [Ob.row .uq 176 2 (W0), Ob.mp (W1)]⟩
theorem d_impl_plainPairs_L1w (hΓ : Γ.nt = 36) {a0_ : List Bytes} {r : List Pair} {k1 : List Pair → Option (List Pair)} (hE1 : ∀ (q1_0 : List Pair), k1 q1_0 = some r → Ax Γ N Tryz.f161 (.q [[some (176, 2)]] (D.fr 176 2 ((r).map Pair.c))) [1, 1, 1, 1] ⟨[(3, D.acc 0)], [Ob.row .uq 176 2 ((q1_0).map Pair.c)]⟩) (hm1 : (a0_).length ≤ maxLen) : ∀ (rest : List Bytes) (i1 : Nat) (w1_0 : List Pair) (m1_1 : List (Bytes × Bool)), (a0_).drop i1 = rest → d_impl_plainPairs_L1 a0_ k1 rest i1 w1_0 m1_1 = some r → Ar Γ N Tryz.f161 (.q [[some (176, 2)]] (D.fr 176 2 ((r).map Pair.c))) [1, 1, 1, 0, 1, 0] (rest.length + 1) (d_impl_plainPairs_S1 a0_ ((w1_0).map Pair.c) ((m1_1).map (kS eB)) ((i1 : Int))) := by
  intro rest
  induction rest with
  | nil =>
    intro i1 w1_0 m1_1 hd1 h
    rw [d_impl_plainPairs_L1] at h
    refine AWr_succ fun N1 hN1 hS1 => ?_
    exact ((pre0.ge tx hd1).a [.hl 0 [3] [0]]).ex hΓ hN1 (hE1 (w1_0) h)
  | cons x1_ xs1 ih1 =>
    intro i1 w1_0 m1_1 hd1 h
    rw [d_impl_plainPairs_L1] at h
    refine AWr_succ fun N1 hN1 hS1 => ?_
    obtain ⟨y52, h53, h⟩ := den_bind h
    have o3_ := (((pre0.lt tx hd1).l (map_row tx 1 (dc hd1) rfl)).g (d_impl_IsVar_good h53))
    obtain ⟨h54, h⟩ | ⟨h54, h⟩ := den_if h
    · have o4_ := ((((o3_.r 3 h54).w (show plk Tryz.prog 189 ((m1_1).map (kS eB)) (D.str (x1_)) false = some (D.bool (mGet false (x1_) (m1_1))) from lk_kS (e := eB) (z := false) (by kernel_rfl))).a [.d (D.bool (mGet false (x1_) (m1_1)))]).r 2 h54)
      obtain ⟨h55, h⟩ | ⟨h55, h⟩ := den_if h
      · obtain ⟨y56, h57, h⟩ := den_bind h
        obtain ⟨h58, h⟩ := den_ok h
        obtain ⟨h59, h⟩ := den_ok h
        exact (((((((o4_.b h55).w (show kvPut (D.str (x1_)) (D.bool (true)) ((m1_1).map (kS eB)) = some ((mPut (x1_) (true) (m1_1)).map (kS eB)) from put_kS (e := eB) (m := m1_1))).a [.kv ((mPut (x1_) (true) (m1_1)).map (kS eB))]).g (d_impl_FormatInt_good h57)).w (of_decide_eq_true h58)).w (room_ok h59)).a [.cn [3, 4, 8, 9, 10] [3, 1]]).cs hΓ hS1 (d_impl_plainPairs_S1 a0_ (((w1_0).map Pair.c) ++ ([[D.str (x1_), D.str (([63]) ++ (y56))]])) ((mPut (x1_) (true) (m1_1)).map (kS eB)) (IntKind.i64.wrap (((i1 : Int)) + (1)))) (by first | (simp only [iS hd1 hm1, mA] <;> rfl) | (simp only [iS hd1 hm1, mA, Fact.c, Pair.c, Cond.c, Action.c, Rule.c, Token.c, Match.c, Alpha.c, Node.c, Network.c, Stamp.c] <;> rfl)) (ih1 (i1 + 1) ((w1_0) ++ ([(⟨x1_, ([63]) ++ (y56)⟩ : Pair)])) (mPut (x1_) (true) (m1_1)) (dn hd1) h)
      · exact ((o4_.b h55).a [.cn [3, 4, 8, 9, 10] [0, 1]]).ct hΓ hS1 (iS hd1 hm1) (ih1 (i1 + 1) (w1_0) (m1_1) (dn hd1) h)
    · exact (((o3_.r 5 h54).F 1).a [.cn [3, 4, 8, 9, 10] [0, 1]]).ct hΓ hS1 (iS hd1 hm1) (ih1 (i1 + 1) (w1_0) (m1_1) (dn hd1) h)
theorem d_impl_plainPairs_good {a0_ : List Bytes} {r : List Pair} (h : d_impl_plainPairs a0_ = some r) : Good Tryz.prog 161 [D.sl ((a0_).map tx)] (D.fr 176 2 ((r).map Pair.c)) := by
  refine gd Tryz.func161 [[some (176, 2)]] 36 fun hr Γ hΓ => ?_
  rw [d_impl_plainPairs] at h
  refine (pre0.a [.pro 3, .cn [3, 4, 8, 9, 10] [0, 1]]).lp hΓ (d_impl_plainPairs_L1w hΓ (fun q1_0 h => ?_) (by have := (Rdb.sl (hr _ (List.mem_of_getElem? (i := 0) rfl))).1; simpa using this) (a0_) 0 (([] : List Pair)) (([] : List (Bytes × Bool))) rfl h)
  have h := den_some h; subst h; exact pre0.ret hΓ
def d_impl_PlainNames_L1 (a0_ : Rule) (k1 : List Bytes → Option (List Pair)) : List Cond → Nat → List Bytes → Option (List Pair)
  | [], i1, w1_0 => (k1 (w1_0))
  | x1_ :: xs1, i1, w1_0 => ((d_impl_termsOf (x1_)).bind fun y27 => (bif room (((w1_0).map tx).length + ((y27).map tx).length) 16 then (d_impl_PlainNames_L1 a0_ k1 xs1 (i1 + 1) ((w1_0) ++ (y27))) else none))
def d_impl_PlainNames (a0_ : Rule) : Option (List Pair) := (d_impl_PlainNames_L1 a0_ (fun (q1_0 : List Bytes) => ((d_impl_plainPairs (q1_0)).bind fun y30 => (some (y30)))) (a0_.conds) 0 (([] : List Bytes)))
def d_impl_PlainNames_S1 (a0_ : Rule) (W0 : List (List D)) (ix_ : Int) : St := ⟨[(3, D.acc 0), (7, D.sl ((a0_.conds).map Cond.c)), (8, D.int .i64 ((((a0_.conds).map Cond.c).length : Int))), (9, D.int .i64 (ix_))], [Ob.row .uq 9 1 (W0)]⟩
theorem d_impl_PlainNames_L1w (hΓ : Γ.nt = 20) {a0_ : Rule} {r : List Pair} {k1 : List Bytes → Option (List Pair)} (hE1 : ∀ (q1_0 : List Bytes), k1 q1_0 = some r → Ax Γ N Tryz.f115 (.q [[some (176, 2)]] (D.fr 176 2 ((r).map Pair.c))) [1, 1, 1] ⟨[(3, D.acc 0)], [Ob.row .uq 9 1 ((q1_0).map tx)]⟩) (hm1 : (a0_.conds).length ≤ maxLen) : ∀ (rest : List Cond) (i1 : Nat) (w1_0 : List Bytes), (a0_.conds).drop i1 = rest → d_impl_PlainNames_L1 a0_ k1 rest i1 w1_0 = some r → Ar Γ N Tryz.f115 (.q [[some (176, 2)]] (D.fr 176 2 ((r).map Pair.c))) [1, 1, 0, 1, 0] (rest.length + 1) (d_impl_PlainNames_S1 a0_ ((w1_0).map tx) ((i1 : Int))) := by
  intro rest
  induction rest with
  | nil =>
    intro i1 w1_0 hd1 h
    rw [d_impl_PlainNames_L1] at h
    refine AWr_succ fun N1 hN1 hS1 => ?_
    exact ((pre0.ge Cond.c hd1).a [.hl 0 [3] [0]]).ex hΓ hN1 (hE1 (w1_0) h)
  | cons x1_ xs1 ih1 =>
    intro i1 w1_0 hd1 h
    rw [d_impl_PlainNames_L1] at h
    refine AWr_succ fun N1 hN1 hS1 => ?_
    obtain ⟨y27, h28, h⟩ := den_bind h
    obtain ⟨h29, h⟩ := den_ok h
    exact (((((pre0.lt Cond.c hd1).l (map_row Cond.c 5 (dc hd1) rfl)).g (d_impl_termsOf_good h28)).w (room_ok h29)).a [.cn [3, 7, 8, 9] [3]]).cs hΓ hS1 (d_impl_PlainNames_S1 a0_ (((w1_0).map tx) ++ ((y27).map tx)) (IntKind.i64.wrap (((i1 : Int)) + (1)))) (by first | (simp only [iS hd1 hm1, mA] <;> rfl) | (simp only [iS hd1 hm1, mA, Fact.c, Pair.c, Cond.c, Action.c, Rule.c, Token.c, Match.c, Alpha.c, Node.c, Network.c, Stamp.c] <;> rfl)) (ih1 (i1 + 1) ((w1_0) ++ (y27)) (dn hd1) h)
theorem d_impl_PlainNames_good {a0_ : Rule} {r : List Pair} (h : d_impl_PlainNames a0_ = some r) : Good Tryz.prog 115 [D.agg (Rule.c a0_)] (D.fr 176 2 ((r).map Pair.c)) := by
  refine gd Tryz.func115 [[some (176, 2)]] 20 fun hr Γ hΓ => ?_
  rw [d_impl_PlainNames] at h
  refine (pre0.a [.pro 3, .cn [3, 7, 8, 9] [1]]).lp hΓ (d_impl_PlainNames_L1w hΓ (fun q1_0 h => ?_) (by have := (Rdb.sl (Rdb.agg (hr _ (List.mem_of_getElem? (i := 0) rfl)) (.sl ((a0_.conds).map Cond.c)) (by simp))).1; simpa using this) (a0_.conds) 0 (([] : List Bytes)) rfl h)
  obtain ⟨y30, h31, h⟩ := den_bind h
  have h := den_some h; subst h; exact (pre0.g (d_impl_plainPairs_good h31)).ret hΓ
def d_impl_renamedText_L1 (a0_ : Bytes) (a1_ : List Pair) (k1 : Option Bytes) : List Pair → Nat → Option Bytes
  | [], i1 => (k1 )
  | x1_ :: xs1, i1 => (bif (x1_.var : Bytes) == (a0_) then (some (x1_.value)) else (d_impl_renamedText_L1 a0_ a1_ k1 xs1 (i1 + 1) ))
def d_impl_renamedText (a0_ : Bytes) (a1_ : List Pair) : Option Bytes := (d_impl_renamedText_L1 a0_ a1_ (some (a0_)) (a1_) 0 )
def d_impl_renamedText_S1 (a0_ : Bytes) (a1_ : List Pair) (ix_ : Int) : St := ⟨[(0, D.str (a0_)), (7, D.sl ((a1_).map Pair.c)), (8, D.int .i64 ((((a1_).map Pair.c).length : Int))), (9, D.int .i64 (ix_))], []⟩
theorem d_impl_renamedText_L1w (hΓ : Γ.nt = 21) {a0_ : Bytes} {a1_ : List Pair} {r : Bytes} {k1 : Option Bytes} (hE1 : k1 = some r → Ax Γ N Tryz.f162 (.q [[none]] (D.str (r))) [1, 1] ⟨[(0, D.str (a0_))], []⟩) (hm1 : (a1_).length ≤ maxLen) : ∀ (rest : List Pair) (i1 : Nat) , (a1_).drop i1 = rest → d_impl_renamedText_L1 a0_ a1_ k1 rest i1  = some r → Ar Γ N Tryz.f162 (.q [[none]] (D.str (r))) [1, 0, 1, 0] (rest.length + 1) (d_impl_renamedText_S1 a0_ a1_ ((i1 : Int))) := by
  intro rest
  induction rest with
  | nil =>
    intro i1  hd1 h
    rw [d_impl_renamedText_L1] at h
    refine AWr_succ fun N1 hN1 hS1 => ?_
    exact ((pre0.ge Pair.c hd1).a [.hl 0 [0] []]).ex hΓ hN1 (hE1 h)
  | cons x1_ xs1 ih1 =>
    intro i1  hd1 h
    rw [d_impl_renamedText_L1] at h
    refine AWr_succ fun N1 hN1 hS1 => ?_
    have o2_ := ((pre0.lt Pair.c hd1).l (map_row Pair.c 2 (dc hd1) rfl))
    obtain ⟨h13, h⟩ | ⟨h13, h⟩ := den_if h
    · cases h; exact (o2_.b h13).ret hΓ
    · exact ((o2_.b h13).a [.cn [0, 7, 8, 9] []]).ct hΓ hS1 (iS hd1 hm1) (ih1 (i1 + 1)  (dn hd1) h)
theorem d_impl_renamedText_good {a0_ : Bytes} {a1_ : List Pair} {r : Bytes} (h : d_impl_renamedText a0_ a1_ = some r) : Good Tryz.prog 162 [D.str (a0_), D.sl ((a1_).map Pair.c)] (D.str (r)) := by
  refine gd Tryz.func162 [[none]] 21 fun hr Γ hΓ => ?_
  rw [d_impl_renamedText] at h
  refine (pre0.a [.cn [0, 7, 8, 9] []]).lp hΓ (d_impl_renamedText_L1w hΓ (fun h => ?_) (by have := (Rdb.sl (hr _ (List.mem_of_getElem? (i := 1) rfl))).1; simpa using this) (a1_) 0  rfl h)
  have h := den_some h; subst h; exact pre0.ret hΓ
def d_impl_RenameCond_L1 (a0_ : Cond) (a1_ : List Pair) (y1 : Bytes) (y3 : Bytes) (k1 : List Bytes → Option Cond) : List Bytes → Nat → List Bytes → Option Cond
  | [], i1, w1_2 => (k1 (w1_2))
  | x1_ :: xs1, i1, w1_2 => ((d_impl_renamedText (x1_) (a1_)).bind fun y31 => (bif room (((w1_2).map tx).length + ([[D.str (y31)]]).length) 16 then (d_impl_RenameCond_L1 a0_ a1_ y1 y3 k1 xs1 (i1 + 1) ((w1_2) ++ ([y31]))) else none))
def d_impl_RenameCond (a0_ : Cond) (a1_ : List Pair) : Option Cond := ((d_impl_renamedText (a0_.left) (a1_)).bind fun y1 => ((d_impl_renamedText (a0_.right) (a1_)).bind fun y3 => (d_impl_RenameCond_L1 a0_ a1_ y1 y3 (fun (q1_2 : List Bytes) => (some ((⟨a0_.kind, (⟨a0_.pat.rel, q1_2⟩ : Fact), y1, y3⟩ : Cond)))) (a0_.pat.args) 0 (([] : List Bytes)))))
def d_impl_RenameCond_S1 (a0_ : Cond) (a1_ : List Pair) (y1 : Bytes) (y3 : Bytes) (W0 : List (List D)) (ix_ : Int) : St := ⟨[(1, D.sl ((a1_).map Pair.c)), (4, D.ptr 0 0), (5, D.ptr 1 0), (26, D.sl ((a0_.pat.args).map tx)), (27, D.int .i64 ((((a0_.pat.args).map tx).length : Int))), (28, D.int .i64 (ix_))], [Ob.box [D.int .i64 (0), D.str ([]), D.nil, D.str ([]), D.str ([])], Ob.box [D.int .i64 (a0_.kind), D.str (a0_.pat.rel), D.acc 2, D.str (y1), D.str (y3)], Ob.row .uq 9 1 (W0)]⟩
theorem d_impl_RenameCond_L1w (hΓ : Γ.nt = 44) {a0_ : Cond} {a1_ : List Pair} {y1 : Bytes} {y3 : Bytes} {r : Cond} {k1 : List Bytes → Option Cond} (hE1 : ∀ (q1_2 : List Bytes), k1 q1_2 = some r → Ax Γ N Tryz.f116 (.q [[none, none, some (9, 1), none, none]] (D.agg [D.int .i64 (r.kind), D.str (r.pat.rel), D.fr 9 1 ((r.pat.args).map tx), D.str (r.left), D.str (r.right)])) [1, 1, 1, 1] ⟨[(4, D.ptr 0 0), (5, D.ptr 1 0)], [Ob.box [D.int .i64 (0), D.str ([]), D.nil, D.str ([]), D.str ([])], Ob.box [D.int .i64 (a0_.kind), D.str (a0_.pat.rel), D.acc 2, D.str (y1), D.str (y3)], Ob.row .uq 9 1 ((q1_2).map tx)]⟩) (hm1 : (a0_.pat.args).length ≤ maxLen) : ∀ (rest : List Bytes) (i1 : Nat) (w1_2 : List Bytes), (a0_.pat.args).drop i1 = rest → d_impl_RenameCond_L1 a0_ a1_ y1 y3 k1 rest i1 w1_2 = some r → Ar Γ N Tryz.f116 (.q [[none, none, some (9, 1), none, none]] (D.agg [D.int .i64 (r.kind), D.str (r.pat.rel), D.fr 9 1 ((r.pat.args).map tx), D.str (r.left), D.str (r.right)])) [1, 1, 1, 0, 1, 0] (rest.length + 1) (d_impl_RenameCond_S1 a0_ a1_ y1 y3 ((w1_2).map tx) ((i1 : Int))) := by
  intro rest
  induction rest with
  | nil =>
    intro i1 w1_2 hd1 h
    rw [d_impl_RenameCond_L1] at h
    refine AWr_succ fun N1 hN1 hS1 => ?_
    exact ((pre0.ge tx hd1).a [.hl 0 [4, 5] [0, 1, 2]]).ex hΓ hN1 (hE1 (w1_2) h)
  | cons x1_ xs1 ih1 =>
    intro i1 w1_2 hd1 h
    rw [d_impl_RenameCond_L1] at h
    refine AWr_succ fun N1 hN1 hS1 => ?_
    obtain ⟨y31, h32, h⟩ := den_bind h
    obtain ⟨h33, h⟩ := den_ok h
    exact ((((((pre0.lt tx hd1).l (map_row tx 1 (dc hd1) rfl)).a [.n 7]).g (d_impl_renamedText_good h32)).w (room_ok h33)).a [.cn [1, 4, 5, 26, 27, 28] [0, 1, 4]]).cs hΓ hS1 (d_impl_RenameCond_S1 a0_ a1_ y1 y3 (((w1_2).map tx) ++ ([[D.str (y31)]])) (IntKind.i64.wrap (((i1 : Int)) + (1)))) (by first | (simp only [iS hd1 hm1, mA] <;> rfl) | (simp only [iS hd1 hm1, mA, Fact.c, Pair.c, Cond.c, Action.c, Rule.c, Token.c, Match.c, Alpha.c, Node.c, Network.c, Stamp.c] <;> rfl)) (ih1 (i1 + 1) ((w1_2) ++ ([y31])) (dn hd1) h)
theorem d_impl_RenameCond_good {a0_ : Cond} {a1_ : List Pair} {r : Cond} (h : d_impl_RenameCond a0_ a1_ = some r) : Good Tryz.prog 116 [D.agg (Cond.c a0_), D.sl ((a1_).map Pair.c)] (D.agg [D.int .i64 (r.kind), D.str (r.pat.rel), D.fr 9 1 ((r.pat.args).map tx), D.str (r.left), D.str (r.right)]) := by
  refine gd Tryz.func116 [[none, none, some (9, 1), none, none]] 44 fun hr Γ hΓ => ?_
  rw [d_impl_RenameCond] at h
  obtain ⟨y1, h2, h⟩ := den_bind h
  obtain ⟨y3, h4, h⟩ := den_bind h
  refine ((((pre0.a [.n 12]).g (d_impl_renamedText_good h2)).g (d_impl_renamedText_good h4)).a [.pb 2 2 9 1, .cn [1, 4, 5, 26, 27, 28] [1, 2, 3]]).lp hΓ (d_impl_RenameCond_L1w hΓ (fun q1_2 h => ?_) (by have := (Rdb.sl (Rdb.agg (hr _ (List.mem_of_getElem? (i := 0) rfl)) (.sl ((a0_.pat.args).map tx)) (by simp))).1; simpa using this) (a0_.pat.args) 0 (([] : List Bytes)) rfl h)
  cases h; exact pre0.ret hΓ
def d_impl_PlainConds_L1 (a0_ : Rule) (y1 : List Pair) (k1 : List Cond → Option (List Cond)) : List Cond → Nat → List Cond → Option (List Cond)
  | [], i1, w1_1 => (k1 (w1_1))
  | x1_ :: xs1, i1, w1_1 => ((d_impl_RenameCond (x1_) (y1)).bind fun y29 => (bif room (((w1_1).map Cond.c).length + ([[D.int .i64 (y29.kind), D.str (y29.pat.rel), D.sl ((y29.pat.args).map tx), D.str (y29.left), D.str (y29.right)]]).length) 80 then (d_impl_PlainConds_L1 a0_ y1 k1 xs1 (i1 + 1) ((w1_1) ++ ([y29]))) else none))
def d_impl_PlainConds (a0_ : Rule) : Option (List Cond) := ((d_impl_PlainNames (a0_)).bind fun y1 => (d_impl_PlainConds_L1 a0_ y1 (fun (q1_0 : List Cond) => (some (q1_0))) (a0_.conds) 0 (([] : List Cond))))
def d_impl_PlainConds_S1 (a0_ : Rule) (y1 : List Pair) (W0 : List (List D)) (ix_ : Int) : St := ⟨[(3, D.acc 0), (4, D.acc 1), (10, D.sl ((a0_.conds).map Cond.c)), (11, D.int .i64 ((((a0_.conds).map Cond.c).length : Int))), (12, D.int .i64 (ix_))], [Ob.row .uq 176 2 ((y1).map Pair.c), Ob.row .uq 73 5 (W0)]⟩
theorem d_impl_PlainConds_L1w (hΓ : Γ.nt = 24) {a0_ : Rule} {y1 : List Pair} {r : List Cond} {k1 : List Cond → Option (List Cond)} (hE1 : ∀ (q1_0 : List Cond), k1 q1_0 = some r → Ax Γ N Tryz.f63 (.q [[some (73, 5)]] (D.fr 73 5 ((r).map Cond.c))) [1, 1, 1, 1] ⟨[(4, D.acc 0)], [Ob.row .uq 73 5 ((q1_0).map Cond.c)]⟩) (hm1 : (a0_.conds).length ≤ maxLen) : ∀ (rest : List Cond) (i1 : Nat) (w1_1 : List Cond), (a0_.conds).drop i1 = rest → d_impl_PlainConds_L1 a0_ y1 k1 rest i1 w1_1 = some r → Ar Γ N Tryz.f63 (.q [[some (73, 5)]] (D.fr 73 5 ((r).map Cond.c))) [1, 1, 1, 0, 1, 0] (rest.length + 1) (d_impl_PlainConds_S1 a0_ y1 ((w1_1).map Cond.c) ((i1 : Int))) := by
  intro rest
  induction rest with
  | nil =>
    intro i1 w1_1 hd1 h
    rw [d_impl_PlainConds_L1] at h
    refine AWr_succ fun N1 hN1 hS1 => ?_
    exact ((pre0.ge Cond.c hd1).a [.hl 0 [4] [1]]).ex hΓ hN1 (hE1 (w1_1) h)
  | cons x1_ xs1 ih1 =>
    intro i1 w1_1 hd1 h
    rw [d_impl_PlainConds_L1] at h
    refine AWr_succ fun N1 hN1 hS1 => ?_
    obtain ⟨y29, h30, h⟩ := den_bind h
    obtain ⟨h31, h⟩ := den_ok h
    exact (((((pre0.lt Cond.c hd1).l (map_row Cond.c 5 (dc hd1) rfl)).g (d_impl_RenameCond_good h30)).w (room_ok h31)).a [.cn [3, 4, 10, 11, 12] [0, 5]]).cs hΓ hS1 (d_impl_PlainConds_S1 a0_ y1 (((w1_1).map Cond.c) ++ ([[D.int .i64 (y29.kind), D.str (y29.pat.rel), D.sl ((y29.pat.args).map tx), D.str (y29.left), D.str (y29.right)]])) (IntKind.i64.wrap (((i1 : Int)) + (1)))) (by first | (simp only [iS hd1 hm1, mA] <;> rfl) | (simp only [iS hd1 hm1, mA, Fact.c, Pair.c, Cond.c, Action.c, Rule.c, Token.c, Match.c, Alpha.c, Node.c, Network.c, Stamp.c] <;> rfl)) (ih1 (i1 + 1) ((w1_1) ++ ([y29])) (dn hd1) h)
theorem d_impl_PlainConds_good {a0_ : Rule} {r : List Cond} (h : d_impl_PlainConds a0_ = some r) : Good Tryz.prog 63 [D.agg (Rule.c a0_)] (D.fr 73 5 ((r).map Cond.c)) := by
  refine gd Tryz.func63 [[some (73, 5)]] 24 fun hr Γ hΓ => ?_
  rw [d_impl_PlainConds] at h
  obtain ⟨y1, h2, h⟩ := den_bind h
  refine ((pre0.g (d_impl_PlainNames_good h2)).a [.pro 4, .cn [3, 4, 10, 11, 12] [1, 2]]).lp hΓ (d_impl_PlainConds_L1w hΓ (fun q1_0 h => ?_) (by have := (Rdb.sl (Rdb.agg (hr _ (List.mem_of_getElem? (i := 0) rfl)) (.sl ((a0_.conds).map Cond.c)) (by simp))).1; simpa using this) (a0_.conds) 0 (([] : List Cond)) rfl h)
  have h := den_some h; subst h; exact pre0.ret hΓ
def d_impl_sameTexts_L1 (a0_ : List Bytes) (a1_ : List Bytes) (k1 : Option Bool) : List Bytes → Nat → Option Bool
  | [], i1 => (k1 )
  | x1_ :: xs1, i1 => ((atI (a1_) ((i1 : Int))).bind fun x22 => (bif !((x1_ : Bytes) == (x22)) then (some (false)) else (d_impl_sameTexts_L1 a0_ a1_ k1 xs1 (i1 + 1) )))
def d_impl_sameTexts (a0_ : List Bytes) (a1_ : List Bytes) : Option Bool := (bif ((((a0_).map tx).length : Int) : Int) != ((((a1_).map tx).length : Int)) then (some (false)) else (d_impl_sameTexts_L1 a0_ a1_ (some (true)) (a0_) 0 ))
def d_impl_sameTexts_S1 (a0_ : List Bytes) (a1_ : List Bytes) (ix_ : Int) : St := ⟨[(0, D.sl ((a0_).map tx)), (1, D.sl ((a1_).map tx)), (12, D.int .i64 ((((a0_).map tx).length : Int))), (13, D.int .i64 (ix_))], []⟩
theorem d_impl_sameTexts_L1w (hΓ : Γ.nt = 26) {a0_ : List Bytes} {a1_ : List Bytes} {r : Bool} {k1 : Option Bool} (hE1 : k1 = some r → Ax Γ N Tryz.f180 (.q [[none]] (D.bool (r))) [1, 1, 1] ⟨[], []⟩) (hm1 : (a0_).length ≤ maxLen) : ∀ (rest : List Bytes) (i1 : Nat) , (a0_).drop i1 = rest → d_impl_sameTexts_L1 a0_ a1_ k1 rest i1  = some r → Ar Γ N Tryz.f180 (.q [[none]] (D.bool (r))) [1, 1, 0, 1, 0] (rest.length + 1) (d_impl_sameTexts_S1 a0_ a1_ ((i1 : Int))) := by
  intro rest
  induction rest with
  | nil =>
    intro i1  hd1 h
    rw [d_impl_sameTexts_L1] at h
    refine AWr_succ fun N1 hN1 hS1 => ?_
    exact ((pre0.ge tx hd1).a [.hl 0 [] []]).ex hΓ hN1 (hE1 h)
  | cons x1_ xs1 ih1 =>
    intro i1  hd1 h
    rw [d_impl_sameTexts_L1] at h
    refine AWr_succ fun N1 hN1 hS1 => ?_
    obtain ⟨x22, h23, h⟩ := den_bind h
    have o2_ := ((((pre0.lt tx hd1).a [.n 8]).l (map_row tx 1 (dc hd1) rfl)).l (at_row tx 1 h23 rfl))
    obtain ⟨h24, h⟩ | ⟨h24, h⟩ := den_if h
    · have h := den_some h; subst h; exact (o2_.b h24).ret hΓ
    · exact ((o2_.b h24).a [.cn [0, 1, 12, 13] []]).ct hΓ hS1 (iS hd1 hm1) (ih1 (i1 + 1)  (dn hd1) h)
theorem d_impl_sameTexts_good {a0_ : List Bytes} {a1_ : List Bytes} {r : Bool} (h : d_impl_sameTexts a0_ a1_ = some r) : Good Tryz.prog 180 [D.sl ((a0_).map tx), D.sl ((a1_).map tx)] (D.bool (r)) := by
  refine gd Tryz.func180 [[none]] 26 fun hr Γ hΓ => ?_
  rw [d_impl_sameTexts] at h
  obtain ⟨h1, h⟩ | ⟨h1, h⟩ := den_if h
  · have h := den_some h; subst h; exact (pre0.b h1).ret hΓ
  · refine ((pre0.b h1).a [.cn [0, 1, 12, 13] []]).lp hΓ (d_impl_sameTexts_L1w hΓ (fun h => ?_) (by have := (Rdb.sl (hr _ (List.mem_of_getElem? (i := 0) rfl))).1; simpa using this) (a0_) 0  rfl h)
    have h := den_some h; subst h; exact pre0.ret hΓ
def d_impl_SamePattern (a0_ : Fact) (a1_ : Fact) : Option Bool := (bif (a0_.rel : Bytes) == (a1_.rel) then ((d_impl_sameTexts (a0_.args) (a1_.args)).bind fun y2 => (some (y2))) else (some (false)))
theorem d_impl_SamePattern_good {a0_ : Fact} {a1_ : Fact} {r : Bool} (h : d_impl_SamePattern a0_ a1_ = some r) : Good Tryz.prog 163 [D.agg (Fact.c a0_), D.agg (Fact.c a1_)] (D.bool (r)) := by
  refine gd Tryz.func163 [[none]] 17 fun hr Γ hΓ => ?_
  rw [d_impl_SamePattern] at h
  obtain ⟨h1, h⟩ | ⟨h1, h⟩ := den_if h
  · obtain ⟨y2, h3, h⟩ := den_bind h
    have h := den_some h; subst h; exact (((pre0.r 5 h1).g (d_impl_sameTexts_good h3)).b h1).ret hΓ
  · have h := den_some h; subst h; exact (pre0.r 6 h1).ret hΓ
def d_impl_SameCond (a0_ : Cond) (a1_ : Cond) : Option Bool := (bif (a0_.kind : Int) == (a1_.kind) then (bif (a0_.left : Bytes) == (a1_.left) then (bif (a0_.right : Bytes) == (a1_.right) then ((d_impl_SamePattern (a0_.pat) (a1_.pat)).bind fun y4 => (some (y4))) else (some (false))) else (some (false))) else (some (false)))
theorem d_impl_SameCond_good {a0_ : Cond} {a1_ : Cond} {r : Bool} (h : d_impl_SameCond a0_ a1_ = some r) : Good Tryz.prog 117 [D.agg (Cond.c a0_), D.agg (Cond.c a1_)] (D.bool (r)) := by
  refine gd Tryz.func117 [[none]] 31 fun hr Γ hΓ => ?_
  rw [d_impl_SameCond] at h
  obtain ⟨h1, h⟩ | ⟨h1, h⟩ := den_if h
  · have o1_ := (pre0.r 6 h1)
    obtain ⟨h2, h⟩ | ⟨h2, h⟩ := den_if h
    · have o2_ := (o1_.r 6 h2)
      obtain ⟨h3, h⟩ | ⟨h3, h⟩ := den_if h
      · obtain ⟨y4, h5, h⟩ := den_bind h
        have h := den_some h; subst h; exact (((o2_.r 5 h3).g (d_impl_SamePattern_good h5)).b h3).ret hΓ
      · have h := den_some h; subst h; exact (o2_.r 6 h3).ret hΓ
    · have h := den_some h; subst h; exact ((o1_.r 6 h2).F 6).ret hΓ
  · have h := den_some h; subst h; exact ((pre0.r 6 h1).F 12).ret hΓ
def d_impl_ShapeOf (a0_ : Fact) : Option Fact := ((d_impl_plainPairs (a0_.args)).bind fun y1 => ((d_impl_RenameCond ((⟨0, a0_, [], []⟩ : Cond)) (y1)).bind fun y3 => (some (y3.pat))))
theorem d_impl_ShapeOf_good {a0_ : Fact} {r : Fact} (h : d_impl_ShapeOf a0_ = some r) : Good Tryz.prog 119 [D.agg (Fact.c a0_)] (D.agg [D.str (r.rel), D.fr 9 1 ((r.args).map tx)]) := by
  refine gd Tryz.func119 [[none, some (9, 1)]] 10 fun hr Γ hΓ => ?_
  rw [d_impl_ShapeOf] at h
  obtain ⟨y1, h2, h⟩ := den_bind h
  obtain ⟨y3, h4, h⟩ := den_bind h
  cases h; exact ((((pre0.a [.n 5]).g (d_impl_plainPairs_good h2)).a [.d (D.agg [D.int .i64 (y3.kind), D.str (y3.pat.rel), D.fr 9 1 ((y3.pat.args).map tx), D.str (y3.left), D.str (y3.right)])]).w (show Good Tryz.prog 116 [D.agg [D.int .i64 (0), D.str (a0_.rel), D.sl ((a0_.args).map tx), D.str ([]), D.str ([])], D.sl ((y1).map Pair.c)] (D.agg [D.int .i64 (y3.kind), D.str (y3.pat.rel), D.fr 9 1 ((y3.pat.args).map tx), D.str (y3.left), D.str (y3.right)]) from by first | (simpa only [List.map_append, List.map_cons, List.map_nil, List.map_drop, List.map_take] using d_impl_RenameCond_good h4) | exact d_impl_RenameCond_good h4 | (have t := d_impl_RenameCond_good h4; simp only [List.map_append, List.map_drop, List.map_take, Cond.c] at t; exact t))).ret hΓ
def Network_f (x : Network) : List D := [D.fr 31 4 ((x.rules).map Rule.c), D.fr 3 1 ((x.ends).map ixx), D.fr 126 3 ((x.alphas).map Alpha.c), D.fr 75 8 ((x.nodes).map Node.c), D.fr 129 2 ((x.facts).map Fact.c), D.int .i64 (x.tries)]
def d___impl_Network__alpha_L1 (a0_ : Network) (a1_ : Fact) (k1 : Option (Network × Int)) : List Alpha → Nat → Option (Network × Int)
  | [], i1 => (k1 )
  | x1_ :: xs1, i1 => ((d_impl_SamePattern (x1_.shape) (a1_)).bind fun y22 => (bif y22 then (some ((a0_, (i1 : Int)))) else (d___impl_Network__alpha_L1 a0_ a1_ k1 xs1 (i1 + 1) )))
def d___impl_Network__alpha (a0_ : Network) (a1_ : Fact) : Option (Network × Int) := (bif decide ((a0_.alphas).length ≤ maxLen) then (d___impl_Network__alpha_L1 a0_ a1_ (bif room (((a0_.alphas).map Alpha.c).length + ([[D.str (a1_.rel), D.sl ((a1_.args).map tx), D.sl ([])]]).length) 64 then (some (((⟨a0_.rules, a0_.ends, (a0_.alphas) ++ ([(⟨a1_, []⟩ : Alpha)]), a0_.nodes, a0_.facts, a0_.tries⟩ : Network), IntKind.i64.wrap ((((((a0_.alphas).map Alpha.c) ++ ([[D.str (a1_.rel), D.sl ((a1_.args).map tx), D.sl ([])]])).length : Int)) - (1))))) else none) (a0_.alphas) 0 ) else none)
def d___impl_Network__alpha_S1 (v0_ : Value) (a0_ : Network) (a1_ : Fact) (ix_ : Int) : St := ⟨[(0, D.ptr 0 0), (3, D.ptr 1 0), (10, D.acc 2), (11, D.int .i64 ((((a0_.alphas).map Alpha.c).length : Int))), (12, D.int .i64 (ix_))], [Ob.pbx [D.acc 3, D.acc 4, D.acc 2, D.acc 5, D.acc 6, D.int .i64 (a0_.tries)] v0_, Ob.box [D.str (a1_.rel), D.acc 7], Ob.row .uq 126 3 ((a0_.alphas).map Alpha.c), Ob.row .uq 31 4 ((a0_.rules).map Rule.c), Ob.row .uq 3 1 ((a0_.ends).map ixx), Ob.row .uq 75 8 ((a0_.nodes).map Node.c), Ob.row .uq 129 2 ((a0_.facts).map Fact.c), Ob.row .uq 9 1 ((a1_.args).map tx)]⟩
theorem d___impl_Network__alpha_L1w (hΓ : Γ.nt = 40) {v0_ : Value} {a0_ : Network} {a1_ : Fact} {r : Network × Int} {k1 : Option (Network × Int)} (hE1 : k1 = some r → Ax Γ N Tryz.f118 (.p [[some (31, 4), some (3, 1), some (126, 3), some (75, 8), some (129, 2), none], [none]] v0_ (Network_f r.1) (D.int .i64 (r.2))) [1, 1] ⟨[(0, D.ptr 0 0), (3, D.ptr 1 0)], [Ob.pbx [D.acc 2, D.acc 3, D.acc 4, D.acc 5, D.acc 6, D.int .i64 (a0_.tries)] v0_, Ob.box [D.str (a1_.rel), D.acc 7], Ob.row .uq 31 4 ((a0_.rules).map Rule.c), Ob.row .uq 3 1 ((a0_.ends).map ixx), Ob.row .uq 126 3 ((a0_.alphas).map Alpha.c), Ob.row .uq 75 8 ((a0_.nodes).map Node.c), Ob.row .uq 129 2 ((a0_.facts).map Fact.c), Ob.row .uq 9 1 ((a1_.args).map tx)]⟩) (hm1 : (a0_.alphas).length ≤ maxLen) : ∀ (rest : List Alpha) (i1 : Nat) , (a0_.alphas).drop i1 = rest → d___impl_Network__alpha_L1 a0_ a1_ k1 rest i1  = some r → Ar Γ N Tryz.f118 (.p [[some (31, 4), some (3, 1), some (126, 3), some (75, 8), some (129, 2), none], [none]] v0_ (Network_f r.1) (D.int .i64 (r.2))) [1, 0, 1, 0] (rest.length + 1) (d___impl_Network__alpha_S1 v0_ a0_ a1_ ((i1 : Int))) := by
  intro rest
  induction rest with
  | nil =>
    intro i1  hd1 h
    rw [d___impl_Network__alpha_L1] at h
    refine AWr_succ fun N1 hN1 hS1 => ?_
    exact ((pre0.ge Alpha.c hd1).a [.hl 0 [0, 3] [0, 1, 3, 4, 2, 5, 6, 7]]).ex hΓ hN1 (hE1 h)
  | cons x1_ xs1 ih1 =>
    intro i1  hd1 h
    rw [d___impl_Network__alpha_L1] at h
    refine AWr_succ fun N1 hN1 hS1 => ?_
    obtain ⟨y22, h23, h⟩ := den_bind h
    have o2_ := ((((pre0.lt Alpha.c hd1).i (own_ixl Alpha.c 3 (dc hd1))).o 3 3 .uq (map_get Alpha.c (dc hd1))).g (d_impl_SamePattern_good h23))
    obtain ⟨h24, h⟩ | ⟨h24, h⟩ := den_if h
    · cases h; exact (o2_.b h24).ret hΓ
    · exact ((o2_.b h24).a [.cn [0, 3, 10, 11, 12] [0, 1, 2, 3, 4, 5, 6, 7]]).ct hΓ hS1 (iS hd1 hm1) (ih1 (i1 + 1)  (dn hd1) h)
theorem d___impl_Network__alpha_good {a0_ : Network} {a1_ : Fact} {r : Network × Int} (h : d___impl_Network__alpha a0_ a1_ = some r) : GoodP Tryz.prog 118 (Network_f a0_) (Network_f r.1) [D.agg [D.str (a1_.rel), D.fr 9 1 ((a1_.args).map tx)]] (D.int .i64 (r.2)) := by
  refine gdP Tryz.func118 [[some (31, 4), some (3, 1), some (126, 3), some (75, 8), some (129, 2), none], [none]] 40 [D.acc 1, D.acc 2, D.acc 3, D.acc 4, D.acc 5, D.int .i64 (a0_.tries)] [D.agg [D.str (a1_.rel), D.acc 6]] [Ob.row .uq 31 4 ((a0_.rules).map Rule.c), Ob.row .uq 3 1 ((a0_.ends).map ixx), Ob.row .uq 126 3 ((a0_.alphas).map Alpha.c), Ob.row .uq 75 8 ((a0_.nodes).map Node.c), Ob.row .uq 129 2 ((a0_.facts).map Fact.c), Ob.row .uq 9 1 ((a1_.args).map tx)] fun hr v0_ Γ hΓ => ?_
  rw [d___impl_Network__alpha] at h
  obtain ⟨h27, h⟩ := den_ok h
  refine (pre0.a [.cn [0, 3, 10, 11, 12] [0, 7, 3, 1, 2, 4, 5, 6]]).lp hΓ (d___impl_Network__alpha_L1w hΓ (fun h => ?_) (of_decide_eq_true h27) (a0_.alphas) 0  rfl h)
  obtain ⟨h26, h⟩ := den_ok h
  cases h; exact ((pre0.w (room_ok h26)).a [.n2 [0, 1, 2, 3, 4, 5, 6, 7, 8, 9, 10, 11] [0, 1, 2, 3, 4, 5, 6, 7, 8, 9, 10, 11] 7 9 [0, 1, 2, 3, 4] [4, 7, 8]]).rts hΓ (D.tup [D.int .i64 (IntKind.i64.wrap ((((((a0_.alphas).map Alpha.c) ++ ([[D.str (a1_.rel), D.sl ((a1_.args).map tx), D.sl ([])]])).length : Int)) - (1))), D.agg [D.fr 31 4 ((a0_.rules).map Rule.c), D.fr 3 1 ((a0_.ends).map ixx), D.fr 126 3 (((a0_.alphas).map Alpha.c) ++ ([[D.str (a1_.rel), D.sl ((a1_.args).map tx), D.sl ([])]])), D.fr 75 8 ((a0_.nodes).map Node.c), D.fr 129 2 ((a0_.facts).map Fact.c), D.int .i64 (a0_.tries)], D.val v0_]) (by first | rfl | (simp only [mA] <;> rfl) | (simp only [Network_f, mA] <;> rfl))
def d___impl_Network__child_L1 (a0_ : Network) (a1_ : Int) (a2_ : Cond) (k1 : Option (Network × Int)) : List Node → Nat → Option (Network × Int)
  | [], i1 => (k1 )
  | x1_ :: xs1, i1 => (bif decide (((i1 : Int) : Int) > (0)) then (bif (x1_.parent : Int) == (a1_) then ((d_impl_SameCond (x1_.cond) (a2_)).bind fun y32 => (bif y32 then (some ((a0_, (i1 : Int)))) else (d___impl_Network__child_L1 a0_ a1_ a2_ k1 xs1 (i1 + 1) ))) else (d___impl_Network__child_L1 a0_ a1_ a2_ k1 xs1 (i1 + 1) )) else (d___impl_Network__child_L1 a0_ a1_ a2_ k1 xs1 (i1 + 1) ))
def d___impl_Network__child (a0_ : Network) (a1_ : Int) (a2_ : Cond) : Option (Network × Int) := (bif decide ((a0_.nodes).length ≤ maxLen) then (d___impl_Network__child_L1 a0_ a1_ a2_ (bif (a2_.kind : Int) == (1) then ((d_impl_ShapeOf (a2_.pat)).bind fun y36 => ((d___impl_Network__alpha (a0_) (y36)).bind fun y38 => ((d_impl_copyCond (a2_)).bind fun y43 => (bif room (((y38.1.nodes).map Node.c).length + ([[D.int .i64 (a1_), D.int .i64 (y43.kind), D.str (y43.pat.rel), D.sl ((y43.pat.args).map tx), D.str (y43.left), D.str (y43.right), D.int .i64 (y38.2), D.sl ([])]]).length) 120 then (some (((⟨y38.1.rules, y38.1.ends, y38.1.alphas, (y38.1.nodes) ++ ([(⟨a1_, y43, y38.2, []⟩ : Node)]), y38.1.facts, y38.1.tries⟩ : Network), IntKind.i64.wrap ((((((y38.1.nodes).map Node.c) ++ ([[D.int .i64 (a1_), D.int .i64 (y43.kind), D.str (y43.pat.rel), D.sl ((y43.pat.args).map tx), D.str (y43.left), D.str (y43.right), D.int .i64 (y38.2), D.sl ([])]])).length : Int)) - (1))))) else none)))) else (bif (a2_.kind : Int) == (2) then ((d_impl_ShapeOf (a2_.pat)).bind fun y47 => ((d___impl_Network__alpha (a0_) (y47)).bind fun y49 => ((d_impl_copyCond (a2_)).bind fun y54 => (bif room (((y49.1.nodes).map Node.c).length + ([[D.int .i64 (a1_), D.int .i64 (y54.kind), D.str (y54.pat.rel), D.sl ((y54.pat.args).map tx), D.str (y54.left), D.str (y54.right), D.int .i64 (y49.2), D.sl ([])]]).length) 120 then (some (((⟨y49.1.rules, y49.1.ends, y49.1.alphas, (y49.1.nodes) ++ ([(⟨a1_, y54, y49.2, []⟩ : Node)]), y49.1.facts, y49.1.tries⟩ : Network), IntKind.i64.wrap ((((((y49.1.nodes).map Node.c) ++ ([[D.int .i64 (a1_), D.int .i64 (y54.kind), D.str (y54.pat.rel), D.sl ((y54.pat.args).map tx), D.str (y54.left), D.str (y54.right), D.int .i64 (y49.2), D.sl ([])]])).length : Int)) - (1))))) else none)))) else ((d_impl_copyCond (a2_)).bind fun y60 => (bif room (((a0_.nodes).map Node.c).length + ([[D.int .i64 (a1_), D.int .i64 (y60.kind), D.str (y60.pat.rel), D.sl ((y60.pat.args).map tx), D.str (y60.left), D.str (y60.right), D.int .i64 (-1), D.sl ([])]]).length) 120 then (some (((⟨a0_.rules, a0_.ends, a0_.alphas, (a0_.nodes) ++ ([(⟨a1_, y60, -1, []⟩ : Node)]), a0_.facts, a0_.tries⟩ : Network), IntKind.i64.wrap ((((((a0_.nodes).map Node.c) ++ ([[D.int .i64 (a1_), D.int .i64 (y60.kind), D.str (y60.pat.rel), D.sl ((y60.pat.args).map tx), D.str (y60.left), D.str (y60.right), D.int .i64 (-1), D.sl ([])]])).length : Int)) - (1))))) else none)))) (a0_.nodes) 0 ) else none)
def d___impl_Network__child_S1 (v0_ : Value) (a0_ : Network) (a1_ : Int) (a2_ : Cond) (ix_ : Int) : St := ⟨[(0, D.ptr 0 0), (1, D.int .i64 (a1_)), (5, D.ptr 1 0), (13, D.acc 2), (14, D.int .i64 ((((a0_.nodes).map Node.c).length : Int))), (15, D.int .i64 (ix_))], [Ob.pbx [D.acc 3, D.acc 4, D.acc 5, D.acc 2, D.acc 6, D.int .i64 (a0_.tries)] v0_, Ob.box (Cond.c a2_), Ob.row .uq 75 8 ((a0_.nodes).map Node.c), Ob.row .uq 31 4 ((a0_.rules).map Rule.c), Ob.row .uq 3 1 ((a0_.ends).map ixx), Ob.row .uq 126 3 ((a0_.alphas).map Alpha.c), Ob.row .uq 129 2 ((a0_.facts).map Fact.c)]⟩
theorem d___impl_Network__child_L1w (hΓ : Γ.nt = 69) {v0_ : Value} {a0_ : Network} {a1_ : Int} {a2_ : Cond} {r : Network × Int} {k1 : Option (Network × Int)} (hE1 : k1 = some r → Ax Γ N Tryz.f64 (.p [[some (31, 4), some (3, 1), some (126, 3), some (75, 8), some (129, 2), none], [none]] v0_ (Network_f r.1) (D.int .i64 (r.2))) [1, 1] ⟨[(0, D.ptr 0 0), (1, D.int .i64 (a1_)), (5, D.ptr 1 0)], [Ob.pbx [D.acc 2, D.acc 3, D.acc 4, D.acc 5, D.acc 6, D.int .i64 (a0_.tries)] v0_, Ob.box (Cond.c a2_), Ob.row .uq 31 4 ((a0_.rules).map Rule.c), Ob.row .uq 3 1 ((a0_.ends).map ixx), Ob.row .uq 126 3 ((a0_.alphas).map Alpha.c), Ob.row .uq 75 8 ((a0_.nodes).map Node.c), Ob.row .uq 129 2 ((a0_.facts).map Fact.c)]⟩) (hm1 : (a0_.nodes).length ≤ maxLen) : ∀ (rest : List Node) (i1 : Nat) , (a0_.nodes).drop i1 = rest → d___impl_Network__child_L1 a0_ a1_ a2_ k1 rest i1  = some r → Ar Γ N Tryz.f64 (.p [[some (31, 4), some (3, 1), some (126, 3), some (75, 8), some (129, 2), none], [none]] v0_ (Network_f r.1) (D.int .i64 (r.2))) [1, 0, 1, 0] (rest.length + 1) (d___impl_Network__child_S1 v0_ a0_ a1_ a2_ ((i1 : Int))) := by
  intro rest
  induction rest with
  | nil =>
    intro i1  hd1 h
    rw [d___impl_Network__child_L1] at h
    refine AWr_succ fun N1 hN1 hS1 => ?_
    exact ((pre0.ge Node.c hd1).a [.hl 0 [0, 1, 5] [0, 1, 3, 4, 5, 2, 6]]).ex hΓ hN1 (hE1 h)
  | cons x1_ xs1 ih1 =>
    intro i1  hd1 h
    rw [d___impl_Network__child_L1] at h
    refine AWr_succ fun N1 hN1 hS1 => ?_
    have o4_ := (((pre0.lt Node.c hd1).i (own_ixl Node.c 8 (dc hd1))).o 8 8 .uq (map_get Node.c (dc hd1)))
    obtain ⟨h30, h⟩ | ⟨h30, h⟩ := den_if h
    · have o5_ := (o4_.r 5 h30)
      obtain ⟨h31, h⟩ | ⟨h31, h⟩ := den_if h
      · obtain ⟨y32, h33, h⟩ := den_bind h
        have o6_ := (((o5_.r 4 h31).g (d_impl_SameCond_good h33)).b h31)
        obtain ⟨h34, h⟩ | ⟨h34, h⟩ := den_if h
        · cases h; exact (o6_.b h34).ret hΓ
        · exact ((o6_.b h34).a [.cn [0, 1, 5, 13, 14, 15] [0, 1, 2, 3, 4, 5, 6]]).ct hΓ hS1 (iS hd1 hm1) (ih1 (i1 + 1)  (dn hd1) h)
      · exact (((o5_.r 5 h31).F 1).a [.cn [0, 1, 5, 13, 14, 15] [0, 1, 2, 3, 4, 5, 6]]).ct hΓ hS1 (iS hd1 hm1) (ih1 (i1 + 1)  (dn hd1) h)
    · exact (((o4_.r 5 h30).F 6).a [.cn [0, 1, 5, 13, 14, 15] [0, 1, 2, 3, 4, 5, 6]]).ct hΓ hS1 (iS hd1 hm1) (ih1 (i1 + 1)  (dn hd1) h)
theorem d___impl_Network__child_good {a0_ : Network} {a1_ : Int} {a2_ : Cond} {r : Network × Int} (h : d___impl_Network__child a0_ a1_ a2_ = some r) : GoodP Tryz.prog 64 (Network_f a0_) (Network_f r.1) [D.int .i64 (a1_), D.agg (Cond.c a2_)] (D.int .i64 (r.2)) := by
  refine gdP Tryz.func64 [[some (31, 4), some (3, 1), some (126, 3), some (75, 8), some (129, 2), none], [none]] 69 [D.acc 1, D.acc 2, D.acc 3, D.acc 4, D.acc 5, D.int .i64 (a0_.tries)] [D.int .i64 (a1_), D.agg [D.int .i64 (a2_.kind), D.str (a2_.pat.rel), D.sl ((a2_.pat.args).map tx), D.str (a2_.left), D.str (a2_.right)]] [Ob.row .uq 31 4 ((a0_.rules).map Rule.c), Ob.row .uq 3 1 ((a0_.ends).map ixx), Ob.row .uq 126 3 ((a0_.alphas).map Alpha.c), Ob.row .uq 75 8 ((a0_.nodes).map Node.c), Ob.row .uq 129 2 ((a0_.facts).map Fact.c)] fun hr v0_ Γ hΓ => ?_
  rw [d___impl_Network__child] at h
  obtain ⟨h63, h⟩ := den_ok h
  refine (pre0.a [.cn [0, 1, 5, 13, 14, 15] [0, 6, 4, 1, 2, 3, 5]]).lp hΓ (d___impl_Network__child_L1w hΓ (fun h => ?_) (of_decide_eq_true h63) (a0_.nodes) 0  rfl h)
  obtain ⟨h35, h⟩ | ⟨h35, h⟩ := den_if h
  · obtain ⟨y36, h37, h⟩ := den_bind h
    obtain ⟨y38, h39, h⟩ := den_bind h
    obtain ⟨y43, h44, h⟩ := den_bind h
    obtain ⟨h45, h⟩ := den_ok h
    cases h; exact (((((((pre0.r 4 h35).T 1).g (d_impl_ShapeOf_good h37)).hp [[some (31, 4), some (3, 1), some (126, 3), some (75, 8), some (129, 2), none], [none, some (9, 1)]] (d___impl_Network__alpha_good h39)).a [.n2 [0, 1, 2, 3, 4, 5, 6, 7, 8, 9, 10, 11, 12, 13, 14] [0, 1, 2, 3, 4, 5, 6, 7, 8, 9, 10, 11, 12, 13, 14] 10 12 [0, 1, 2, 3, 4] [11, 13, 14]]).g (d_impl_copyCond_good h44)).w (room_ok h45)).rts hΓ (D.tup [D.int .i64 (IntKind.i64.wrap ((((((y38.1.nodes).map Node.c) ++ ([[D.int .i64 (a1_), D.int .i64 (y43.kind), D.str (y43.pat.rel), D.sl ((y43.pat.args).map tx), D.str (y43.left), D.str (y43.right), D.int .i64 (y38.2), D.sl ([])]])).length : Int)) - (1))), D.agg [D.fr 31 4 ((y38.1.rules).map Rule.c), D.fr 3 1 ((y38.1.ends).map ixx), D.fr 126 3 ((y38.1.alphas).map Alpha.c), D.fr 75 8 (((y38.1.nodes).map Node.c) ++ ([[D.int .i64 (a1_), D.int .i64 (y43.kind), D.str (y43.pat.rel), D.sl ((y43.pat.args).map tx), D.str (y43.left), D.str (y43.right), D.int .i64 (y38.2), D.sl ([])]])), D.fr 129 2 ((y38.1.facts).map Fact.c), D.int .i64 (y38.1.tries)], D.val v0_]) (by first | rfl | (simp only [mA] <;> rfl) | (simp only [Network_f, mA] <;> rfl))
  · have o7_ := (pre0.r 4 h35)
    obtain ⟨h46, h⟩ | ⟨h46, h⟩ := den_if h
    · obtain ⟨y47, h48, h⟩ := den_bind h
      obtain ⟨y49, h50, h⟩ := den_bind h
      obtain ⟨y54, h55, h⟩ := den_bind h
      obtain ⟨h56, h⟩ := den_ok h
      cases h; exact ((((((o7_.b h46).g (d_impl_ShapeOf_good h48)).hp [[some (31, 4), some (3, 1), some (126, 3), some (75, 8), some (129, 2), none], [none, some (9, 1)]] (d___impl_Network__alpha_good h50)).a [.n2 [0, 1, 2, 3, 4, 5, 6, 7, 8, 9, 10, 11, 12, 13, 14] [0, 1, 2, 3, 4, 5, 6, 7, 8, 9, 10, 11, 12, 13, 14] 10 12 [0, 1, 2, 3, 4] [11, 13, 14]]).g (d_impl_copyCond_good h55)).w (room_ok h56)).rts hΓ (D.tup [D.int .i64 (IntKind.i64.wrap ((((((y49.1.nodes).map Node.c) ++ ([[D.int .i64 (a1_), D.int .i64 (y54.kind), D.str (y54.pat.rel), D.sl ((y54.pat.args).map tx), D.str (y54.left), D.str (y54.right), D.int .i64 (y49.2), D.sl ([])]])).length : Int)) - (1))), D.agg [D.fr 31 4 ((y49.1.rules).map Rule.c), D.fr 3 1 ((y49.1.ends).map ixx), D.fr 126 3 ((y49.1.alphas).map Alpha.c), D.fr 75 8 (((y49.1.nodes).map Node.c) ++ ([[D.int .i64 (a1_), D.int .i64 (y54.kind), D.str (y54.pat.rel), D.sl ((y54.pat.args).map tx), D.str (y54.left), D.str (y54.right), D.int .i64 (y49.2), D.sl ([])]])), D.fr 129 2 ((y49.1.facts).map Fact.c), D.int .i64 (y49.1.tries)], D.val v0_]) (by first | rfl | (simp only [mA] <;> rfl) | (simp only [Network_f, mA] <;> rfl))
    · obtain ⟨y60, h61, h⟩ := den_bind h
      obtain ⟨h62, h⟩ := den_ok h
      cases h; exact ((((o7_.b h46).a [.n2 [0, 1, 2, 3, 4, 5, 6, 7, 8, 9, 10, 11, 12, 13, 14] [0, 1, 2, 3, 4, 5, 6, 7, 8, 9, 10, 11, 12, 13, 14] 10 12 [0, 1, 2, 3, 4] [5, 7, 8]]).g (d_impl_copyCond_good h61)).w (room_ok h62)).rts hΓ (D.tup [D.int .i64 (IntKind.i64.wrap ((((((a0_.nodes).map Node.c) ++ ([[D.int .i64 (a1_), D.int .i64 (y60.kind), D.str (y60.pat.rel), D.sl ((y60.pat.args).map tx), D.str (y60.left), D.str (y60.right), D.int .i64 (-1), D.sl ([])]])).length : Int)) - (1))), D.agg [D.fr 31 4 ((a0_.rules).map Rule.c), D.fr 3 1 ((a0_.ends).map ixx), D.fr 126 3 ((a0_.alphas).map Alpha.c), D.fr 75 8 (((a0_.nodes).map Node.c) ++ ([[D.int .i64 (a1_), D.int .i64 (y60.kind), D.str (y60.pat.rel), D.sl ((y60.pat.args).map tx), D.str (y60.left), D.str (y60.right), D.int .i64 (-1), D.sl ([])]])), D.fr 129 2 ((a0_.facts).map Fact.c), D.int .i64 (a0_.tries)], D.val v0_]) (by first | rfl | (simp only [mA] <;> rfl) | (simp only [Network_f, mA] <;> rfl))
def d_impl_structure_L2 (a0_ : List Rule) (i1 : Nat) (y179 : List Cond) (k2 : Int → Int → List Rule → List Int → List Alpha → List Node → List Fact → Option Network) : List Cond → Nat → Int → Int → List Rule → List Int → List Alpha → List Node → List Fact → Option Network
  | [], i2, v2_6, u2_1_5, w2_3, w2_4, w2_5, w2_6, w2_7 => (k2 (v2_6) (u2_1_5) (w2_3) (w2_4) (w2_5) (w2_6) (w2_7))
  | x2_ :: xs2, i2, v2_6, u2_1_5, w2_3, w2_4, w2_5, w2_6, w2_7 => ((d___impl_Network__child ((⟨w2_3, w2_4, w2_5, w2_6, w2_7, u2_1_5⟩ : Network)) (v2_6) (x2_)).bind fun y208 => (d_impl_structure_L2 a0_ i1 y179 k2 xs2 (i2 + 1) (y208.2) (y208.1.tries) (y208.1.rules) (y208.1.ends) (y208.1.alphas) (y208.1.nodes) (y208.1.facts)))
def d_impl_structure_L1 (a0_ : List Rule) (k1 : Int → List Rule → List Int → List Alpha → List Node → List Fact → Option Network) : List Rule → Nat → Int → List Rule → List Int → List Alpha → List Node → List Fact → Option Network
  | [], i1, u1_1_5, w1_2, w1_3, w1_4, w1_5, w1_6 => (k1 (u1_1_5) (w1_2) (w1_3) (w1_4) (w1_5) (w1_6))
  | x1_ :: xs1, i1, u1_1_5, w1_2, w1_3, w1_4, w1_5, w1_6 => ((d_impl_PlainConds (x1_)).bind fun y179 => (bif decide ((y179).length ≤ maxLen) then (d_impl_structure_L2 a0_ i1 y179 (fun (z2_6 : Int) (r2_1_5 : Int) (q2_2 : List Rule) (q2_3 : List Int) (q2_4 : List Alpha) (q2_5 : List Node) (q2_6 : List Fact) => (bif room (((q2_3).map ixx).length + ([[D.int .i64 (z2_6)]]).length) 8 then (d_impl_structure_L1 a0_ k1 xs1 (i1 + 1) (r2_1_5) (q2_2) ((q2_3) ++ ([z2_6])) (q2_4) (q2_5) (q2_6)) else none)) (y179) 0 (0) (u1_1_5) (w1_2) (w1_3) (w1_4) (w1_5) (w1_6)) else none))
def d_impl_structure (a0_ : List Rule) : Option Network := ((d_impl_copyRules (a0_)).bind fun y1 => (d_impl_structure_L1 a0_ (fun (r1_1_5 : Int) (q1_2 : List Rule) (q1_3 : List Int) (q1_4 : List Alpha) (q1_5 : List Node) (q1_6 : List Fact) => (some ((⟨q1_2, q1_3, q1_4, q1_5, q1_6, r1_1_5⟩ : Network)))) (a0_) 0 (0) (y1) (([] : List Int)) (([] : List Alpha)) ([(⟨-1, (⟨0, (⟨[], []⟩ : Fact), [], []⟩ : Cond), -1, []⟩ : Node)]) (([] : List Fact))))
def d_impl_structure_S1 (a0_ : List Rule) (u1_1_5 : Int) (W1 : List (List D)) (W2 : List (List D)) (W3 : List (List D)) (W4 : List (List D)) (W5 : List (List D)) (ix_ : Int) : St := ⟨[(2, D.ptr 0 0), (3, D.ptr 1 0), (14, D.sl ((a0_).map Rule.c)), (15, D.int .i64 ((((a0_).map Rule.c).length : Int))), (16, D.int .i64 (ix_))], [Ob.box [D.nil, D.nil, D.nil, D.nil, D.nil, D.int .i64 (0)], Ob.box [D.acc 2, D.acc 3, D.acc 4, D.acc 5, D.acc 6, D.int .i64 (u1_1_5)], Ob.row .uq 31 4 (W1), Ob.row .uq 3 1 (W2), Ob.row .uq 126 3 (W3), Ob.row .uq 75 8 (W4), Ob.row .uq 129 2 (W5)]⟩
def d_impl_structure_S2 (a0_ : List Rule) (i1 : Nat) (y179 : List Cond) (v2_6 : Int) (u2_1_5 : Int) (W2 : List (List D)) (W3 : List (List D)) (W4 : List (List D)) (W5 : List (List D)) (W6 : List (List D)) (ix_ : Int) : St := ⟨[(2, D.ptr 0 0), (3, D.ptr 1 0), (6, D.int .i64 (v2_6)), (14, D.sl ((a0_).map Rule.c)), (15, D.int .i64 ((((a0_).map Rule.c).length : Int))), (16, D.int .i64 ((i1 : Int))), (21, D.acc 2), (22, D.int .i64 ((((y179).map Cond.c).length : Int))), (23, D.int .i64 (ix_))], [Ob.box [D.nil, D.nil, D.nil, D.nil, D.nil, D.int .i64 (0)], Ob.box [D.acc 3, D.acc 4, D.acc 5, D.acc 6, D.acc 7, D.int .i64 (u2_1_5)], Ob.row .uq 73 5 ((y179).map Cond.c), Ob.row .uq 31 4 (W2), Ob.row .uq 3 1 (W3), Ob.row .uq 126 3 (W4), Ob.row .uq 75 8 (W5), Ob.row .uq 129 2 (W6)]⟩
theorem d_impl_structure_L2w (hΓ : Γ.nt = 39) {a0_ : List Rule} {i1 : Nat} {y179 : List Cond} {r : Network} {k2 : Int → Int → List Rule → List Int → List Alpha → List Node → List Fact → Option Network} (hE2 : ∀ (z2_6 : Int) (r2_1_5 : Int) (q2_2 : List Rule) (q2_3 : List Int) (q2_4 : List Alpha) (q2_5 : List Node) (q2_6 : List Fact), k2 z2_6 r2_1_5 q2_2 q2_3 q2_4 q2_5 q2_6 = some r → Ax Γ N Tryz.f26 (.q [[some (31, 4), some (3, 1), some (126, 3), some (75, 8), some (129, 2), none]] (D.agg [D.fr 31 4 ((r.rules).map Rule.c), D.fr 3 1 ((r.ends).map ixx), D.fr 126 3 ((r.alphas).map Alpha.c), D.fr 75 8 ((r.nodes).map Node.c), D.fr 129 2 ((r.facts).map Fact.c), D.int .i64 (r.tries)])) [1, 1, 0, 1, 0, 0, 1, 1, 0, 0, 1, 1, 1] ⟨[(2, D.ptr 0 0), (3, D.ptr 1 0), (6, D.int .i64 (z2_6)), (14, D.sl ((a0_).map Rule.c)), (15, D.int .i64 ((((a0_).map Rule.c).length : Int))), (16, D.int .i64 ((i1 : Int)))], [Ob.box [D.nil, D.nil, D.nil, D.nil, D.nil, D.int .i64 (0)], Ob.box [D.acc 2, D.acc 3, D.acc 4, D.acc 5, D.acc 6, D.int .i64 (r2_1_5)], Ob.row .uq 31 4 ((q2_2).map Rule.c), Ob.row .uq 3 1 ((q2_3).map ixx), Ob.row .uq 126 3 ((q2_4).map Alpha.c), Ob.row .uq 75 8 ((q2_5).map Node.c), Ob.row .uq 129 2 ((q2_6).map Fact.c)]⟩) (hm2 : (y179).length ≤ maxLen) : ∀ (rest : List Cond) (i2 : Nat) (v2_6 : Int) (u2_1_5 : Int) (w2_3 : List Rule) (w2_4 : List Int) (w2_5 : List Alpha) (w2_6 : List Node) (w2_7 : List Fact), (y179).drop i2 = rest → d_impl_structure_L2 a0_ i1 y179 k2 rest i2 v2_6 u2_1_5 w2_3 w2_4 w2_5 w2_6 w2_7 = some r → Ar Γ N Tryz.f26 (.q [[some (31, 4), some (3, 1), some (126, 3), some (75, 8), some (129, 2), none]] (D.agg [D.fr 31 4 ((r.rules).map Rule.c), D.fr 3 1 ((r.ends).map ixx), D.fr 126 3 ((r.alphas).map Alpha.c), D.fr 75 8 ((r.nodes).map Node.c), D.fr 129 2 ((r.facts).map Fact.c), D.int .i64 (r.tries)])) [1, 1, 0, 1, 0, 0, 1, 1, 0, 0, 1, 1, 0, 1, 0] (rest.length + 1) (d_impl_structure_S2 a0_ i1 y179 v2_6 u2_1_5 ((w2_3).map Rule.c) ((w2_4).map ixx) ((w2_5).map Alpha.c) ((w2_6).map Node.c) ((w2_7).map Fact.c) ((i2 : Int))) := by
  intro rest
  induction rest with
  | nil =>
    intro i2 v2_6 u2_1_5 w2_3 w2_4 w2_5 w2_6 w2_7 hd2 h
    rw [d_impl_structure_L2] at h
    refine AWr_succ fun N2 hN2 hS2 => ?_
    exact ((pre0.ge Cond.c hd2).a [.hl 5 [2, 3, 6, 14, 15, 16] [0, 1, 3, 4, 5, 6, 7]]).ex hΓ hN2 (hE2 (v2_6) (u2_1_5) (w2_3) (w2_4) (w2_5) (w2_6) (w2_7) h)
  | cons x2_ xs2 ih2 =>
    intro i2 v2_6 u2_1_5 w2_3 w2_4 w2_5 w2_6 w2_7 hd2 h
    rw [d_impl_structure_L2] at h
    refine AWr_succ fun N2 hN2 hS2 => ?_
    obtain ⟨y208, h209, h⟩ := den_bind h
    exact ((((((pre0.lt Cond.c hd2).i (own_ixl Cond.c 5 (dc hd2))).o 5 5 .uq (map_get Cond.c (dc hd2))).a [.gp [[some (31, 4), some (3, 1), some (126, 3), some (75, 8), some (129, 2), none], [none], [none, none, none, none, none]] (Network_f y208.1) (D.int .i64 (y208.2))]).w (show GoodP Tryz.prog 64 (Network_f ((⟨w2_3, w2_4, w2_5, w2_6, w2_7, u2_1_5⟩ : Network))) (Network_f y208.1) [D.int .i64 (v2_6), D.agg (Cond.c (x2_))] (D.int .i64 (y208.2)) from by simpa only [List.map_append, List.map_cons, List.map_nil, List.map_drop, List.map_take] using d___impl_Network__child_good h209)).a [.cn [2, 3, 6, 14, 15, 16, 21, 22, 23] [0, 1, 2, 9, 10, 11, 12, 13]]).ct hΓ hS2 (iS hd2 hm2) (ih2 (i2 + 1) (y208.2) (y208.1.tries) (y208.1.rules) (y208.1.ends) (y208.1.alphas) (y208.1.nodes) (y208.1.facts) (dn hd2) h)
theorem d_impl_structure_L1w (hΓ : Γ.nt = 39) {a0_ : List Rule} {r : Network} {k1 : Int → List Rule → List Int → List Alpha → List Node → List Fact → Option Network} (hE1 : ∀ (r1_1_5 : Int) (q1_2 : List Rule) (q1_3 : List Int) (q1_4 : List Alpha) (q1_5 : List Node) (q1_6 : List Fact), k1 r1_1_5 q1_2 q1_3 q1_4 q1_5 q1_6 = some r → Ax Γ N Tryz.f26 (.q [[some (31, 4), some (3, 1), some (126, 3), some (75, 8), some (129, 2), none]] (D.agg [D.fr 31 4 ((r.rules).map Rule.c), D.fr 3 1 ((r.ends).map ixx), D.fr 126 3 ((r.alphas).map Alpha.c), D.fr 75 8 ((r.nodes).map Node.c), D.fr 129 2 ((r.facts).map Fact.c), D.int .i64 (r.tries)])) [1, 1, 1] ⟨[(2, D.ptr 0 0), (3, D.ptr 1 0)], [Ob.box [D.nil, D.nil, D.nil, D.nil, D.nil, D.int .i64 (0)], Ob.box [D.acc 2, D.acc 3, D.acc 4, D.acc 5, D.acc 6, D.int .i64 (r1_1_5)], Ob.row .uq 31 4 ((q1_2).map Rule.c), Ob.row .uq 3 1 ((q1_3).map ixx), Ob.row .uq 126 3 ((q1_4).map Alpha.c), Ob.row .uq 75 8 ((q1_5).map Node.c), Ob.row .uq 129 2 ((q1_6).map Fact.c)]⟩) (hm1 : (a0_).length ≤ maxLen) : ∀ (rest : List Rule) (i1 : Nat) (u1_1_5 : Int) (w1_2 : List Rule) (w1_3 : List Int) (w1_4 : List Alpha) (w1_5 : List Node) (w1_6 : List Fact), (a0_).drop i1 = rest → d_impl_structure_L1 a0_ k1 rest i1 u1_1_5 w1_2 w1_3 w1_4 w1_5 w1_6 = some r → Ar Γ N Tryz.f26 (.q [[some (31, 4), some (3, 1), some (126, 3), some (75, 8), some (129, 2), none]] (D.agg [D.fr 31 4 ((r.rules).map Rule.c), D.fr 3 1 ((r.ends).map ixx), D.fr 126 3 ((r.alphas).map Alpha.c), D.fr 75 8 ((r.nodes).map Node.c), D.fr 129 2 ((r.facts).map Fact.c), D.int .i64 (r.tries)])) [1, 1, 0, 1, 0] (rest.length + 1) (d_impl_structure_S1 a0_ u1_1_5 ((w1_2).map Rule.c) ((w1_3).map ixx) ((w1_4).map Alpha.c) ((w1_5).map Node.c) ((w1_6).map Fact.c) ((i1 : Int))) := by
  intro rest
  induction rest with
  | nil =>
    intro i1 u1_1_5 w1_2 w1_3 w1_4 w1_5 w1_6 hd1 h
    rw [d_impl_structure_L1] at h
    refine AWr_succ fun N1 hN1 hS1 => ?_
    exact ((pre0.ge Rule.c hd1).a [.hl 0 [2, 3] [0, 1, 2, 3, 4, 5, 6]]).ex hΓ hN1 (hE1 (u1_1_5) (w1_2) (w1_3) (w1_4) (w1_5) (w1_6) h)
  | cons x1_ xs1 ih1 =>
    intro i1 u1_1_5 w1_2 w1_3 w1_4 w1_5 w1_6 hd1 h
    rw [d_impl_structure_L1] at h
    refine AWr_succ fun N1 hN1 hS1 => ?_
    obtain ⟨y179, h180, h⟩ := den_bind h
    obtain ⟨h211, h⟩ := den_ok h
    refine ((((pre0.lt Rule.c hd1).l (map_row Rule.c 4 (dc hd1) rfl)).g (d_impl_PlainConds_good h180)).a [.cn [2, 3, 6, 14, 15, 16, 21, 22, 23] [0, 1, 8, 2, 3, 4, 5, 6]]).lp hΓ (d_impl_structure_L2w hΓ (fun z2_6 r2_1_5 q2_2 q2_3 q2_4 q2_5 q2_6 h => ?_) (of_decide_eq_true h211) (y179) 0 (0) (u1_1_5) (w1_2) (w1_3) (w1_4) (w1_5) (w1_6) rfl h)
    obtain ⟨h210, h⟩ := den_ok h
    exact ((pre0.w (room_ok h210)).a [.cn [2, 3, 14, 15, 16] [0, 1, 2, 8, 4, 5, 6]]).cs hΓ hS1 (d_impl_structure_S1 a0_ r2_1_5 ((q2_2).map Rule.c) (((q2_3).map ixx) ++ ([[D.int .i64 (z2_6)]])) ((q2_4).map Alpha.c) ((q2_5).map Node.c) ((q2_6).map Fact.c) (IntKind.i64.wrap (((i1 : Int)) + (1)))) (by first | (simp only [iS hd1 hm1, mA] <;> rfl) | (simp only [iS hd1 hm1, mA, Fact.c, Pair.c, Cond.c, Action.c, Rule.c, Token.c, Match.c, Alpha.c, Node.c, Network.c, Stamp.c] <;> rfl)) (ih1 (i1 + 1) (r2_1_5) (q2_2) ((q2_3) ++ ([z2_6])) (q2_4) (q2_5) (q2_6) (dn hd1) h)
theorem d_impl_structure_good {a0_ : List Rule} {r : Network} (h : d_impl_structure a0_ = some r) : Good Tryz.prog 26 [D.sl ((a0_).map Rule.c)] (D.agg [D.fr 31 4 ((r.rules).map Rule.c), D.fr 3 1 ((r.ends).map ixx), D.fr 126 3 ((r.alphas).map Alpha.c), D.fr 75 8 ((r.nodes).map Node.c), D.fr 129 2 ((r.facts).map Fact.c), D.int .i64 (r.tries)]) := by
  refine gd Tryz.func26 [[some (31, 4), some (3, 1), some (126, 3), some (75, 8), some (129, 2), none]] 39 fun hr Γ hΓ => ?_
  rw [d_impl_structure] at h
  obtain ⟨y1, h2, h⟩ := den_bind h
  refine ((pre0.g (d_impl_copyRules_good h2)).a [.pb 3 1 3 1, .pb 3 2 126 3, .pb 3 4 129 2, .cn [2, 3, 14, 15, 16] [0, 3, 1, 4, 5, 2, 6]]).lps hΓ (d_impl_structure_S1 a0_ 0 ((y1).map Rule.c) (([] : List (List D))) (([] : List (List D))) ([[D.int .i64 (-1), D.int .i64 (0), D.str ([]), D.sl ([]), D.str ([]), D.str ([]), D.int .i64 (-1), D.sl ([])]]) (([] : List (List D))) 0) (by first | (simp only [mA] <;> rfl) | (simp only [mA, Fact.c, Pair.c, Cond.c, Action.c, Rule.c, Token.c, Match.c, Alpha.c, Node.c, Network.c, Stamp.c] <;> rfl)) (d_impl_structure_L1w hΓ (fun r1_1_5 q1_2 q1_3 q1_4 q1_5 q1_6 h => ?_) (by have := (Rdb.sl (hr _ (List.mem_of_getElem? (i := 0) rfl))).1; simpa using this) (a0_) 0 (0) (y1) (([] : List Int)) (([] : List Alpha)) ([(⟨-1, (⟨0, (⟨[], []⟩ : Fact), [], []⟩ : Cond), -1, []⟩ : Node)]) (([] : List Fact)) rfl h)
  cases h; exact pre0.ret hΓ
def d_impl_SharedNodes_L1 (a0_ : List Rule) (k1 : Int → Option Int) : List Rule → Nat → Int → Option Int
  | [], i1, v1_3 => (k1 (v1_3))
  | x1_ :: xs1, i1, v1_3 => (d_impl_SharedNodes_L1 a0_ k1 xs1 (i1 + 1) (IntKind.i64.wrap ((v1_3) + ((((x1_.conds).map Cond.c).length : Int)))))
def d_impl_SharedNodes (a0_ : List Rule) : Option Int := ((d_impl_AreRules (a0_)).bind fun y1 => (bif !(y1) then (some (-1)) else (d_impl_SharedNodes_L1 a0_ (fun (z1_3 : Int) => ((d_impl_structure (a0_)).bind fun y15 => (some (IntKind.i64.wrap ((z1_3) - (IntKind.i64.wrap (((((y15.nodes).map Node.c).length : Int)) - (1)))))))) (a0_) 0 (0))))
def d_impl_SharedNodes_S1 (a0_ : List Rule) (v1_3 : Int) (ix_ : Int) : St := ⟨[(0, D.sl ((a0_).map Rule.c)), (3, D.int .i64 (v1_3)), (9, D.sl ((a0_).map Rule.c)), (10, D.int .i64 ((((a0_).map Rule.c).length : Int))), (11, D.int .i64 (ix_))], []⟩
theorem d_impl_SharedNodes_L1w (hΓ : Γ.nt = 28) {a0_ : List Rule} {r : Int} {k1 : Int → Option Int} (hE1 : ∀ (z1_3 : Int), k1 z1_3 = some r → Ax Γ N Tryz.f8 (.q [[none]] (D.int .i64 (r))) [1, 1, 1, 1] ⟨[(0, D.sl ((a0_).map Rule.c)), (3, D.int .i64 (z1_3))], []⟩) (hm1 : (a0_).length ≤ maxLen) : ∀ (rest : List Rule) (i1 : Nat) (v1_3 : Int), (a0_).drop i1 = rest → d_impl_SharedNodes_L1 a0_ k1 rest i1 v1_3 = some r → Ar Γ N Tryz.f8 (.q [[none]] (D.int .i64 (r))) [1, 1, 1, 0, 1, 0] (rest.length + 1) (d_impl_SharedNodes_S1 a0_ v1_3 ((i1 : Int))) := by
  intro rest
  induction rest with
  | nil =>
    intro i1 v1_3 hd1 h
    rw [d_impl_SharedNodes_L1] at h
    refine AWr_succ fun N1 hN1 hS1 => ?_
    exact ((pre0.ge Rule.c hd1).a [.hl 0 [0, 3] []]).ex hΓ hN1 (hE1 (v1_3) h)
  | cons x1_ xs1 ih1 =>
    intro i1 v1_3 hd1 h
    rw [d_impl_SharedNodes_L1] at h
    refine AWr_succ fun N1 hN1 hS1 => ?_
    exact (((pre0.lt Rule.c hd1).l (map_row Rule.c 4 (dc hd1) rfl)).a [.cn [0, 3, 9, 10, 11] []]).ct hΓ hS1 (iS hd1 hm1) (ih1 (i1 + 1) (IntKind.i64.wrap ((v1_3) + ((((x1_.conds).map Cond.c).length : Int)))) (dn hd1) h)
theorem d_impl_SharedNodes_good {a0_ : List Rule} {r : Int} (h : d_impl_SharedNodes a0_ = some r) : Good Tryz.prog 8 [D.sl ((a0_).map Rule.c)] (D.int .i64 (r)) := by
  refine gd Tryz.func8 [[none]] 28 fun hr Γ hΓ => ?_
  rw [d_impl_SharedNodes] at h
  obtain ⟨y1, h2, h⟩ := den_bind h
  obtain ⟨h3, h⟩ | ⟨h3, h⟩ := den_if h
  · cases h; exact ((pre0.g (d_impl_AreRules_good h2)).b h3).ret hΓ
  · refine (((pre0.g (d_impl_AreRules_good h2)).b h3).a [.cn [0, 3, 9, 10, 11] []]).lp hΓ (d_impl_SharedNodes_L1w hΓ (fun z1_3 h => ?_) (by have := (Rdb.sl (hr _ (List.mem_of_getElem? (i := 0) rfl))).1; simpa using this) (a0_) 0 (0) rfl h)
    obtain ⟨y15, h16, h⟩ := den_bind h
    cases h; exact (pre0.g (d_impl_structure_good h16)).ret hΓ
def d_spec_FindRule_L1 (a0_ : List Rule) (a1_ : Bytes) (k1 : Option Int) : List Rule → Nat → Option Int
  | [], i1 => (k1 )
  | x1_ :: xs1, i1 => (bif (x1_.name : Bytes) == (a1_) then (some ((i1 : Int))) else (d_spec_FindRule_L1 a0_ a1_ k1 xs1 (i1 + 1) ))
def d_spec_FindRule (a0_ : List Rule) (a1_ : Bytes) : Option Int := (d_spec_FindRule_L1 a0_ a1_ (some (-1)) (a0_) 0 )
def d_spec_FindRule_S1 (a0_ : List Rule) (a1_ : Bytes) (ix_ : Int) : St := ⟨[(0, D.sl ((a0_).map Rule.c)), (1, D.str (a1_)), (5, D.int .i64 (ix_))], []⟩
theorem d_spec_FindRule_L1w (hΓ : Γ.nt = 20) {a0_ : List Rule} {a1_ : Bytes} {r : Int} {k1 : Option Int} (hE1 : k1 = some r → Ax Γ N Tryz.f28 (.q [[none]] (D.int .i64 (r))) [1, 1] ⟨[], []⟩) (hm1 : (a0_).length ≤ maxLen) : ∀ (rest : List Rule) (i1 : Nat) , (a0_).drop i1 = rest → d_spec_FindRule_L1 a0_ a1_ k1 rest i1  = some r → Ar Γ N Tryz.f28 (.q [[none]] (D.int .i64 (r))) [1, 0, 1, 0] (rest.length + 1) (d_spec_FindRule_S1 a0_ a1_ ((i1 : Int))) := by
  intro rest
  induction rest with
  | nil =>
    intro i1  hd1 h
    rw [d_spec_FindRule_L1] at h
    refine AWr_succ fun N1 hN1 hS1 => ?_
    exact ((pre0.ge Rule.c hd1).a [.hl 0 [] []]).ex hΓ hN1 (hE1 h)
  | cons x1_ xs1 ih1 =>
    intro i1  hd1 h
    rw [d_spec_FindRule_L1] at h
    refine AWr_succ fun N1 hN1 hS1 => ?_
    have o2_ := ((pre0.lt Rule.c hd1).l (map_row Rule.c 4 (dc hd1) rfl))
    obtain ⟨h13, h⟩ | ⟨h13, h⟩ := den_if h
    · cases h; exact (o2_.b h13).ret hΓ
    · exact ((o2_.b h13).a [.cn [0, 1, 5] []]).ct hΓ hS1 (iS hd1 hm1) (ih1 (i1 + 1)  (dn hd1) h)
theorem d_spec_FindRule_good {a0_ : List Rule} {a1_ : Bytes} {r : Int} (h : d_spec_FindRule a0_ a1_ = some r) : Good Tryz.prog 28 [D.sl ((a0_).map Rule.c), D.str (a1_)] (D.int .i64 (r)) := by
  refine gd Tryz.func28 [[none]] 20 fun hr Γ hΓ => ?_
  rw [d_spec_FindRule] at h
  refine (pre0.a [.cn [0, 1, 5] []]).lp hΓ (d_spec_FindRule_L1w hΓ (fun h => ?_) (by have := (Rdb.sl (hr _ (List.mem_of_getElem? (i := 0) rfl))).1; simpa using this) (a0_) 0  rfl h)
  cases h; exact pre0.ret hΓ
def d_spec_AreRules_L1 (a0_ : List Rule) (k1 : Option Bool) : List Rule → Nat → Option Bool
  | [], i1 => (k1 )
  | x1_ :: xs1, i1 => ((d_spec_IsRule (x1_)).bind fun y33 => (bif !(y33) then (some (false)) else ((d_spec_FindRule (a0_) (x1_.name)).bind fun y36 => (bif (y36 : Int) != ((i1 : Int)) then (some (false)) else (d_spec_AreRules_L1 a0_ k1 xs1 (i1 + 1) )))))
def d_spec_AreRules (a0_ : List Rule) : Option Bool := (d_spec_AreRules_L1 a0_ (some (decide (((((a0_).map Rule.c).length : Int) : Int) ≤ (6)))) (a0_) 0 )
def d_spec_AreRules_S1 (a0_ : List Rule) (ix_ : Int) : St := ⟨[(0, D.sl ((a0_).map Rule.c)), (3, D.int .i64 (ix_))], []⟩
theorem d_spec_AreRules_L1w (hΓ : Γ.nt = 30) {a0_ : List Rule} {r : Bool} {k1 : Option Bool} (hE1 : k1 = some r → Ax Γ N Tryz.f9 (.q [[none]] (D.bool (r))) [1, 1] ⟨[(0, D.sl ((a0_).map Rule.c))], []⟩) (hm1 : (a0_).length ≤ maxLen) : ∀ (rest : List Rule) (i1 : Nat) , (a0_).drop i1 = rest → d_spec_AreRules_L1 a0_ k1 rest i1  = some r → Ar Γ N Tryz.f9 (.q [[none]] (D.bool (r))) [1, 0, 1, 0] (rest.length + 1) (d_spec_AreRules_S1 a0_ ((i1 : Int))) := by
  intro rest
  induction rest with
  | nil =>
    intro i1  hd1 h
    rw [d_spec_AreRules_L1] at h
    refine AWr_succ fun N1 hN1 hS1 => ?_
    exact ((pre0.ge Rule.c hd1).a [.hl 0 [0] []]).ex hΓ hN1 (hE1 h)
  | cons x1_ xs1 ih1 =>
    intro i1  hd1 h
    rw [d_spec_AreRules_L1] at h
    refine AWr_succ fun N1 hN1 hS1 => ?_
    obtain ⟨y33, h34, h⟩ := den_bind h
    have o3_ := (((pre0.lt Rule.c hd1).l (map_row Rule.c 4 (dc hd1) rfl)).g (d_spec_IsRule_good h34))
    obtain ⟨h35, h⟩ | ⟨h35, h⟩ := den_if h
    · have h := den_some h; subst h; exact ((o3_.r 10 h35).T 1).ret hΓ
    · obtain ⟨y36, h37, h⟩ := den_bind h
      have o4_ := (((((o3_.r 4 h35).l (map_row Rule.c 4 (dc hd1) rfl)).r 3 h35).g (d_spec_FindRule_good h37)).r 3 h35)
      obtain ⟨h38, h⟩ | ⟨h38, h⟩ := den_if h
      · have h := den_some h; subst h; exact (o4_.b h38).ret hΓ
      · exact ((o4_.b h38).a [.cn [0, 3] []]).ct hΓ hS1 (iS hd1 hm1) (ih1 (i1 + 1)  (dn hd1) h)
theorem d_spec_AreRules_good {a0_ : List Rule} {r : Bool} (h : d_spec_AreRules a0_ = some r) : Good Tryz.prog 9 [D.sl ((a0_).map Rule.c)] (D.bool (r)) := by
  refine gd Tryz.func9 [[none]] 30 fun hr Γ hΓ => ?_
  rw [d_spec_AreRules] at h
  refine (pre0.a [.cn [0, 3] []]).lp hΓ (d_spec_AreRules_L1w hΓ (fun h => ?_) (by have := (Rdb.sl (hr _ (List.mem_of_getElem? (i := 0) rfl))).1; simpa using this) (a0_) 0  rfl h)
  cases h; exact pre0.ret hΓ
def d_spec_l5Copies_L1 (a0_ : List Rule) (k1 : List Rule → Option (List Rule)) : List Rule → Nat → List Rule → Option (List Rule)
  | [], i1, w1_0 => (k1 (w1_0))
  | x1_ :: xs1, i1, w1_0 => ((d_spec_l5Copy (x1_)).bind fun y27 => (bif room (((w1_0).map Rule.c).length + ([[D.str (y27.name), D.int .i64 (y27.prio), D.sl ((y27.conds).map Cond.c), D.sl ((y27.acts).map Action.c)]]).length) 72 then (d_spec_l5Copies_L1 a0_ k1 xs1 (i1 + 1) ((w1_0) ++ ([y27]))) else none))
def d_spec_l5Copies (a0_ : List Rule) : Option (List Rule) := (d_spec_l5Copies_L1 a0_ (fun (q1_0 : List Rule) => (some (q1_0))) (a0_) 0 (([] : List Rule)))
def d_spec_l5Copies_S1 (a0_ : List Rule) (W0 : List (List D)) (ix_ : Int) : St := ⟨[(0, D.sl ((a0_).map Rule.c)), (3, D.acc 0), (4, D.int .i64 (ix_))], [Ob.row .uq 31 4 (W0)]⟩
theorem d_spec_l5Copies_L1w (hΓ : Γ.nt = 21) {a0_ : List Rule} {r : List Rule} {k1 : List Rule → Option (List Rule)} (hE1 : ∀ (q1_0 : List Rule), k1 q1_0 = some r → Ax Γ N Tryz.f32 (.q [[some (31, 4)]] (D.fr 31 4 ((r).map Rule.c))) [1, 1, 1] ⟨[(3, D.acc 0)], [Ob.row .uq 31 4 ((q1_0).map Rule.c)]⟩) (hm1 : (a0_).length ≤ maxLen) : ∀ (rest : List Rule) (i1 : Nat) (w1_0 : List Rule), (a0_).drop i1 = rest → d_spec_l5Copies_L1 a0_ k1 rest i1 w1_0 = some r → Ar Γ N Tryz.f32 (.q [[some (31, 4)]] (D.fr 31 4 ((r).map Rule.c))) [1, 1, 0, 1, 0] (rest.length + 1) (d_spec_l5Copies_S1 a0_ ((w1_0).map Rule.c) ((i1 : Int))) := by
  intro rest
  induction rest with
  | nil =>
    intro i1 w1_0 hd1 h
    rw [d_spec_l5Copies_L1] at h
    refine AWr_succ fun N1 hN1 hS1 => ?_
    exact ((pre0.ge Rule.c hd1).a [.hl 0 [3] [0]]).ex hΓ hN1 (hE1 (w1_0) h)
  | cons x1_ xs1 ih1 =>
    intro i1 w1_0 hd1 h
    rw [d_spec_l5Copies_L1] at h
    refine AWr_succ fun N1 hN1 hS1 => ?_
    obtain ⟨y27, h28, h⟩ := den_bind h
    obtain ⟨h29, h⟩ := den_ok h
    exact (((((pre0.lt Rule.c hd1).l (map_row Rule.c 4 (dc hd1) rfl)).g (d_spec_l5Copy_good h28)).w (room_ok h29)).a [.cn [0, 3, 4] [4]]).cs hΓ hS1 (d_spec_l5Copies_S1 a0_ (((w1_0).map Rule.c) ++ ([[D.str (y27.name), D.int .i64 (y27.prio), D.sl ((y27.conds).map Cond.c), D.sl ((y27.acts).map Action.c)]])) (IntKind.i64.wrap (((i1 : Int)) + (1)))) (by first | (simp only [iS hd1 hm1, mA] <;> rfl) | (simp only [iS hd1 hm1, mA, Fact.c, Pair.c, Cond.c, Action.c, Rule.c, Token.c, Match.c, Alpha.c, Node.c, Network.c, Stamp.c] <;> rfl)) (ih1 (i1 + 1) ((w1_0) ++ ([y27])) (dn hd1) h)
theorem d_spec_l5Copies_good {a0_ : List Rule} {r : List Rule} (h : d_spec_l5Copies a0_ = some r) : Good Tryz.prog 32 [D.sl ((a0_).map Rule.c)] (D.fr 31 4 ((r).map Rule.c)) := by
  refine gd Tryz.func32 [[some (31, 4)]] 21 fun hr Γ hΓ => ?_
  rw [d_spec_l5Copies] at h
  refine (pre0.a [.cn [0, 3, 4] [0]]).lp hΓ (d_spec_l5Copies_L1w hΓ (fun q1_0 h => ?_) (by have := (Rdb.sl (hr _ (List.mem_of_getElem? (i := 0) rfl))).1; simpa using this) (a0_) 0 (([] : List Rule)) rfl h)
  have h := den_some h; subst h; exact pre0.ret hΓ
def d_spec_l7Name_L1 (a0_ : List Pair) (a1_ : Bytes) (k1 : Option (List Pair)) : List Pair → Nat → Option (List Pair)
  | [], i1 => (k1 )
  | x1_ :: xs1, i1 => (bif (x1_.var : Bytes) == (a1_) then (some (a0_)) else (d_spec_l7Name_L1 a0_ a1_ k1 xs1 (i1 + 1) ))
def d_spec_l7Name (a0_ : List Pair) (a1_ : Bytes) : Option (List Pair) := ((d_spec_IsVar (a1_)).bind fun y1 => (bif !(y1) then (some (a0_)) else (d_spec_l7Name_L1 a0_ a1_ ((d_spec_FormatInt (IntKind.i64.wrap (((((a0_).map Pair.c).length : Int)) + (1)))).bind fun y18 => (bif decide (([63] : Bytes).length + (y18 : Bytes).length ≤ maxLen) then (bif room (((a0_).map Pair.c).length + ([[D.str (a1_), D.str (([63]) ++ (y18))]]).length) 32 then (some ((a0_) ++ ([(⟨a1_, ([63]) ++ (y18)⟩ : Pair)]))) else none) else none)) (a0_) 0 )))
def d_spec_l7Name_S1 (a0_ : List Pair) (a1_ : Bytes) (ix_ : Int) : St := ⟨[(0, D.acc 0), (1, D.str (a1_)), (5, D.int .i64 (ix_))], [Ob.row .uq 176 2 ((a0_).map Pair.c)]⟩
theorem d_spec_l7Name_L1w (hΓ : Γ.nt = 34) {a0_ : List Pair} {a1_ : Bytes} {r : List Pair} {k1 : Option (List Pair)} (hE1 : k1 = some r → Ax Γ N Tryz.f132 (.q [[some (176, 2)]] (D.fr 176 2 ((r).map Pair.c))) [1, 1, 1] ⟨[(0, D.acc 0), (1, D.str (a1_))], [Ob.row .uq 176 2 ((a0_).map Pair.c)]⟩) (hm1 : (a0_).length ≤ maxLen) : ∀ (rest : List Pair) (i1 : Nat) , (a0_).drop i1 = rest → d_spec_l7Name_L1 a0_ a1_ k1 rest i1  = some r → Ar Γ N Tryz.f132 (.q [[some (176, 2)]] (D.fr 176 2 ((r).map Pair.c))) [1, 1, 0, 1, 0] (rest.length + 1) (d_spec_l7Name_S1 a0_ a1_ ((i1 : Int))) := by
  intro rest
  induction rest with
  | nil =>
    intro i1  hd1 h
    rw [d_spec_l7Name_L1] at h
    refine AWr_succ fun N1 hN1 hS1 => ?_
    exact ((pre0.ge Pair.c hd1).a [.hl 0 [0, 1] [0]]).ex hΓ hN1 (hE1 h)
  | cons x1_ xs1 ih1 =>
    intro i1  hd1 h
    rw [d_spec_l7Name_L1] at h
    refine AWr_succ fun N1 hN1 hS1 => ?_
    have o1_ := (((pre0.lt Pair.c hd1).i (own_ixl Pair.c 2 (dc hd1))).o 2 1 .uq (map_get Pair.c (dc hd1)))
    obtain ⟨h17, h⟩ | ⟨h17, h⟩ := den_if h
    · have h := den_some h; subst h; exact (o1_.b h17).ret hΓ
    · exact ((o1_.b h17).a [.cn [0, 1, 5] [0]]).ct hΓ hS1 (iS hd1 hm1) (ih1 (i1 + 1)  (dn hd1) h)
theorem d_spec_l7Name_good {a0_ : List Pair} {a1_ : Bytes} {r : List Pair} (h : d_spec_l7Name a0_ a1_ = some r) : GoodO Tryz.prog 132 [D.acc 0, D.str (a1_)] 176 2 ((a0_).map Pair.c) ((r).map Pair.c) := by
  refine GoodO.of (c := bodyOf Tryz.f132) Tryz.func132 rfl (by decide) (by simp [Tryz.f132]) (flat_rows (c := Pair.c) (fun _ => rfl) r) ?_
  intro hmax Γ hΓ
  have hΓ : Γ.nt = 34 := hΓ
  rw [d_spec_l7Name] at h
  refine (show AW Tryz.prog Γ (bodyOf Tryz.f132) (KQ Tryz.prog Γ (fun _ _ => False) ((Kd.q [[some (176, 2)]] (D.fr 176 2 ((r).map Pair.c))).qq Tryz.prog Tryz.f132) []) _ from ?_)
  obtain ⟨y1, h2, h⟩ := den_bind h
  obtain ⟨h3, h⟩ | ⟨h3, h⟩ := den_if h
  · have h := den_some h; subst h; exact ((pre0.g (d_spec_IsVar_good h2)).b h3).ret hΓ
  · refine (((pre0.g (d_spec_IsVar_good h2)).b h3).a [.cn [0, 1, 5] [0]]).lp hΓ (d_spec_l7Name_L1w hΓ (fun h => ?_) (by simpa using hmax) (a0_) 0  rfl h)
    obtain ⟨y18, h19, h⟩ := den_bind h
    obtain ⟨h20, h⟩ := den_ok h
    obtain ⟨h21, h⟩ := den_ok h
    cases h; exact (((pre0.g (d_spec_FormatInt_good h19)).w (of_decide_eq_true h20)).w (room_ok h21)).rts hΓ (D.fr 176 2 (((a0_).map Pair.c) ++ ([[D.str (a1_), D.str (([63]) ++ (y18))]]))) (by first | rfl | (simp only [mA] <;> rfl) | (simp only [Network_f, mA] <;> rfl))
def d_spec_PlainNames_L2 (a0_ : Rule) (i1 : Nat) (x1_ : Cond) (k2 : List Pair → Option (List Pair)) : List Bytes → Nat → List Pair → Option (List Pair)
  | [], i2, w2_1 => (k2 (w2_1))
  | x2_ :: xs2, i2, w2_1 => ((d_spec_l7Name (w2_1) (x2_)).bind fun y206 => (d_spec_PlainNames_L2 a0_ i1 x1_ k2 xs2 (i2 + 1) (y206)))
def d_spec_PlainNames_L1 (a0_ : Rule) (k1 : List Pair → Option (List Pair)) : List Cond → Nat → List Pair → Option (List Pair)
  | [], i1, w1_1 => (k1 (w1_1))
  | x1_ :: xs1, i1, w1_1 => (bif decide ((x1_.pat.args).length ≤ maxLen) then (d_spec_PlainNames_L2 a0_ i1 x1_ (fun (q2_1 : List Pair) => ((d_spec_l7Name (q2_1) (x1_.left)).bind fun y208 => ((d_spec_l7Name (y208) (x1_.right)).bind fun y210 => (d_spec_PlainNames_L1 a0_ k1 xs1 (i1 + 1) (y210))))) (x1_.pat.args) 0 (w1_1)) else none)
def d_spec_PlainNames (a0_ : Rule) : Option (List Pair) := (d_spec_PlainNames_L1 a0_ (fun (q1_0 : List Pair) => (some (q1_0))) (a0_.conds) 0 (([] : List Pair)))
def d_spec_PlainNames_S1 (a0_ : Rule) (W0 : List (List D)) (ix_ : Int) : St := ⟨[(1, D.ptr 0 0), (3, D.acc 1), (4, D.int .i64 (ix_))], [Ob.box (Rule.c a0_), Ob.row .uq 176 2 (W0)]⟩
def d_spec_PlainNames_S2 (a0_ : Rule) (i1 : Nat) (W0 : List (List D)) (ix_ : Int) : St := ⟨[(1, D.ptr 0 0), (3, D.acc 1), (4, D.int .i64 ((i1 : Int))), (5, D.int .i64 (ix_))], [Ob.box (Rule.c a0_), Ob.row .uq 176 2 (W0)]⟩
theorem d_spec_PlainNames_L2w (hΓ : Γ.nt = 55) {a0_ : Rule} {i1 : Nat} {x1_ : Cond} {r : List Pair} {k2 : List Pair → Option (List Pair)} (hE2 : ∀ (q2_1 : List Pair), k2 q2_1 = some r → Ax Γ N Tryz.f82 (.q [[some (176, 2)]] (D.fr 176 2 ((r).map Pair.c))) [1, 1, 0, 1, 0, 0, 1, 0, 0, 1] ⟨[(1, D.ptr 0 0), (3, D.acc 1), (4, D.int .i64 ((i1 : Int)))], [Ob.box (Rule.c a0_), Ob.row .uq 176 2 ((q2_1).map Pair.c)]⟩) (hx1 : (a0_.conds)[i1]? = some x1_) (hm2 : (x1_.pat.args).length ≤ maxLen) : ∀ (rest : List Bytes) (i2 : Nat) (w2_1 : List Pair), (x1_.pat.args).drop i2 = rest → d_spec_PlainNames_L2 a0_ i1 x1_ k2 rest i2 w2_1 = some r → Ar Γ N Tryz.f82 (.q [[some (176, 2)]] (D.fr 176 2 ((r).map Pair.c))) [1, 1, 0, 1, 0, 0, 1, 0, 0, 0, 1, 0] (rest.length + 1) (d_spec_PlainNames_S2 a0_ i1 ((w2_1).map Pair.c) ((i2 : Int))) := by
  intro rest
  induction rest with
  | nil =>
    intro i2 w2_1 hd2 h
    rw [d_spec_PlainNames_L2] at h
    refine AWr_succ fun N2 hN2 hS2 => ?_
    exact (((pre0.l (map_row Cond.c 5 hx1 rfl)).ge tx hd2).a [.hl 5 [1, 3, 4] [0, 1]]).ex hΓ hN2 (hE2 (w2_1) h)
  | cons x2_ xs2 ih2 =>
    intro i2 w2_1 hd2 h
    rw [d_spec_PlainNames_L2] at h
    refine AWr_succ fun N2 hN2 hS2 => ?_
    obtain ⟨y206, h207, h⟩ := den_bind h
    exact (((((((pre0.l (map_row Cond.c 5 hx1 rfl)).lt tx hd2).l (map_row Cond.c 5 hx1 rfl)).l (map_row tx 1 (dc hd2) rfl)).w (show ((w2_1).map Pair.c).flatten.all D.flat = true from by simpa only [List.map_append, List.map_cons, List.map_nil] using flat_rows (c := Pair.c) (fun _ => rfl) (w2_1))).w (show GoodO Tryz.prog 132 [D.acc 0, D.str (x2_)] 176 2 ((w2_1).map Pair.c) ((y206).map Pair.c) from by simpa only [List.map_append, List.map_cons, List.map_nil] using d_spec_l7Name_good h207)).a [.ov 1 ((y206).map Pair.c), .cn [1, 3, 4, 5] [0, 2]]).ct hΓ hS2 (iS hd2 hm2) (ih2 (i2 + 1) (y206) (dn hd2) h)
theorem d_spec_PlainNames_L1w (hΓ : Γ.nt = 55) {a0_ : Rule} {r : List Pair} {k1 : List Pair → Option (List Pair)} (hE1 : ∀ (q1_0 : List Pair), k1 q1_0 = some r → Ax Γ N Tryz.f82 (.q [[some (176, 2)]] (D.fr 176 2 ((r).map Pair.c))) [1, 1, 1] ⟨[(3, D.acc 0)], [Ob.row .uq 176 2 ((q1_0).map Pair.c)]⟩) (hm1 : (a0_.conds).length ≤ maxLen) : ∀ (rest : List Cond) (i1 : Nat) (w1_1 : List Pair), (a0_.conds).drop i1 = rest → d_spec_PlainNames_L1 a0_ k1 rest i1 w1_1 = some r → Ar Γ N Tryz.f82 (.q [[some (176, 2)]] (D.fr 176 2 ((r).map Pair.c))) [1, 1, 0, 1, 0] (rest.length + 1) (d_spec_PlainNames_S1 a0_ ((w1_1).map Pair.c) ((i1 : Int))) := by
  intro rest
  induction rest with
  | nil =>
    intro i1 w1_1 hd1 h
    rw [d_spec_PlainNames_L1] at h
    refine AWr_succ fun N1 hN1 hS1 => ?_
    exact ((pre0.ge Cond.c hd1).a [.hl 0 [3] [1]]).ex hΓ hN1 (hE1 (w1_1) h)
  | cons x1_ xs1 ih1 =>
    intro i1 w1_1 hd1 h
    rw [d_spec_PlainNames_L1] at h
    refine AWr_succ fun N1 hN1 hS1 => ?_
    obtain ⟨h212, h⟩ := den_ok h
    refine ((pre0.lt Cond.c hd1).a [.cn [1, 3, 4, 5] [0, 1]]).lp hΓ (d_spec_PlainNames_L2w hΓ (fun q2_1 h => ?_) ((drop_cons hd1).1) (of_decide_eq_true h212) (x1_.pat.args) 0 (w1_1) rfl h)
    obtain ⟨y208, h209, h⟩ := den_bind h
    obtain ⟨y210, h211, h⟩ := den_bind h
    exact ((((((((pre0.l (map_row Cond.c 5 (dc hd1) rfl)).w (show ((q2_1).map Pair.c).flatten.all D.flat = true from by simpa only [List.map_append, List.map_cons, List.map_nil] using flat_rows (c := Pair.c) (fun _ => rfl) (q2_1))).w (show GoodO Tryz.prog 132 [D.acc 0, D.str (x1_.left)] 176 2 ((q2_1).map Pair.c) ((y208).map Pair.c) from by simpa only [List.map_append, List.map_cons, List.map_nil] using d_spec_l7Name_good h209)).a [.ov 1 ((y208).map Pair.c)]).l (map_row Cond.c 5 (dc hd1) rfl)).w (show ((y208).map Pair.c).flatten.all D.flat = true from by simpa only [List.map_append, List.map_cons, List.map_nil] using flat_rows (c := Pair.c) (fun _ => rfl) (y208))).w (show GoodO Tryz.prog 132 [D.acc 0, D.str (x1_.right)] 176 2 ((y208).map Pair.c) ((y210).map Pair.c) from by simpa only [List.map_append, List.map_cons, List.map_nil] using d_spec_l7Name_good h211)).a [.ov 2 ((y210).map Pair.c), .cn [1, 3, 4] [0, 3]]).ct hΓ hS1 (iS hd1 hm1) (ih1 (i1 + 1) (y210) (dn hd1) h)
theorem d_spec_PlainNames_good {a0_ : Rule} {r : List Pair} (h : d_spec_PlainNames a0_ = some r) : Good Tryz.prog 82 [D.agg (Rule.c a0_)] (D.fr 176 2 ((r).map Pair.c)) := by
  refine gd Tryz.func82 [[some (176, 2)]] 55 fun hr Γ hΓ => ?_
  rw [d_spec_PlainNames] at h
  refine (pre0.a [.cn [1, 3, 4] [0, 1]]).lp hΓ (d_spec_PlainNames_L1w hΓ (fun q1_0 h => ?_) (by have := (Rdb.sl (Rdb.agg (hr _ (List.mem_of_getElem? (i := 0) rfl)) (.sl ((a0_.conds).map Cond.c)) (by simp))).1; simpa using this) (a0_.conds) 0 (([] : List Pair)) rfl h)
  have h := den_some h; subst h; exact pre0.ret hΓ
def d_spec_PlainConds_L1 (a0_ : Rule) (y1 : List Pair) (k1 : List Cond → Option (List Cond)) : List Cond → Nat → List Cond → Option (List Cond)
  | [], i1, w1_1 => (k1 (w1_1))
  | x1_ :: xs1, i1, w1_1 => ((d_spec_RenameCond (x1_) (y1)).bind fun y29 => (bif room (((w1_1).map Cond.c).length + ([[D.int .i64 (y29.kind), D.str (y29.pat.rel), D.sl ((y29.pat.args).map tx), D.str (y29.left), D.str (y29.right)]]).length) 80 then (d_spec_PlainConds_L1 a0_ y1 k1 xs1 (i1 + 1) ((w1_1) ++ ([y29]))) else none))
def d_spec_PlainConds (a0_ : Rule) : Option (List Cond) := ((d_spec_PlainNames (a0_)).bind fun y1 => (d_spec_PlainConds_L1 a0_ y1 (fun (q1_0 : List Cond) => (some (q1_0))) (a0_.conds) 0 (([] : List Cond))))
def d_spec_PlainConds_S1 (a0_ : Rule) (y1 : List Pair) (W0 : List (List D)) (ix_ : Int) : St := ⟨[(1, D.ptr 0 0), (3, D.acc 1), (4, D.acc 2), (5, D.int .i64 (ix_))], [Ob.box (Rule.c a0_), Ob.row .uq 73 5 (W0), Ob.row .uq 176 2 ((y1).map Pair.c)]⟩
theorem d_spec_PlainConds_L1w (hΓ : Γ.nt = 27) {a0_ : Rule} {y1 : List Pair} {r : List Cond} {k1 : List Cond → Option (List Cond)} (hE1 : ∀ (q1_0 : List Cond), k1 q1_0 = some r → Ax Γ N Tryz.f33 (.q [[some (73, 5)]] (D.fr 73 5 ((r).map Cond.c))) [1, 1, 1, 1] ⟨[(3, D.acc 0)], [Ob.row .uq 73 5 ((q1_0).map Cond.c)]⟩) (hm1 : (a0_.conds).length ≤ maxLen) : ∀ (rest : List Cond) (i1 : Nat) (w1_1 : List Cond), (a0_.conds).drop i1 = rest → d_spec_PlainConds_L1 a0_ y1 k1 rest i1 w1_1 = some r → Ar Γ N Tryz.f33 (.q [[some (73, 5)]] (D.fr 73 5 ((r).map Cond.c))) [1, 1, 1, 0, 1, 0] (rest.length + 1) (d_spec_PlainConds_S1 a0_ y1 ((w1_1).map Cond.c) ((i1 : Int))) := by
  intro rest
  induction rest with
  | nil =>
    intro i1 w1_1 hd1 h
    rw [d_spec_PlainConds_L1] at h
    refine AWr_succ fun N1 hN1 hS1 => ?_
    exact ((pre0.ge Cond.c hd1).a [.hl 0 [3] [1]]).ex hΓ hN1 (hE1 (w1_1) h)
  | cons x1_ xs1 ih1 =>
    intro i1 w1_1 hd1 h
    rw [d_spec_PlainConds_L1] at h
    refine AWr_succ fun N1 hN1 hS1 => ?_
    obtain ⟨y29, h30, h⟩ := den_bind h
    obtain ⟨h31, h⟩ := den_ok h
    exact (((((pre0.lt Cond.c hd1).l (map_row Cond.c 5 (dc hd1) rfl)).g (d_spec_RenameCond_good h30)).w (room_ok h31)).a [.cn [1, 3, 4, 5] [0, 5, 2]]).cs hΓ hS1 (d_spec_PlainConds_S1 a0_ y1 (((w1_1).map Cond.c) ++ ([[D.int .i64 (y29.kind), D.str (y29.pat.rel), D.sl ((y29.pat.args).map tx), D.str (y29.left), D.str (y29.right)]])) (IntKind.i64.wrap (((i1 : Int)) + (1)))) (by first | (simp only [iS hd1 hm1, mA] <;> rfl) | (simp only [iS hd1 hm1, mA, Fact.c, Pair.c, Cond.c, Action.c, Rule.c, Token.c, Match.c, Alpha.c, Node.c, Network.c, Stamp.c] <;> rfl)) (ih1 (i1 + 1) ((w1_1) ++ ([y29])) (dn hd1) h)
theorem d_spec_PlainConds_good {a0_ : Rule} {r : List Cond} (h : d_spec_PlainConds a0_ = some r) : Good Tryz.prog 33 [D.agg (Rule.c a0_)] (D.fr 73 5 ((r).map Cond.c)) := by
  refine gd Tryz.func33 [[some (73, 5)]] 27 fun hr Γ hΓ => ?_
  rw [d_spec_PlainConds] at h
  obtain ⟨y1, h2, h⟩ := den_bind h
  refine ((pre0.g (d_spec_PlainNames_good h2)).a [.cn [1, 3, 4, 5] [0, 1, 2]]).lp hΓ (d_spec_PlainConds_L1w hΓ (fun q1_0 h => ?_) (by have := (Rdb.sl (Rdb.agg (hr _ (List.mem_of_getElem? (i := 0) rfl)) (.sl ((a0_.conds).map Cond.c)) (by simp))).1; simpa using this) (a0_.conds) 0 (([] : List Cond)) rfl h)
  have h := den_some h; subst h; exact pre0.ret hΓ
def d_spec_l1SameTexts_L1 (a0_ : List Bytes) (a1_ : List Bytes) (k1 : Option Bool) : List Bytes → Nat → Option Bool
  | [], i1 => (k1 )
  | x1_ :: xs1, i1 => ((atI (a1_) ((i1 : Int))).bind fun x22 => (bif !((x1_ : Bytes) == (x22)) then (some (false)) else (d_spec_l1SameTexts_L1 a0_ a1_ k1 xs1 (i1 + 1) )))
def d_spec_l1SameTexts (a0_ : List Bytes) (a1_ : List Bytes) : Option Bool := (bif ((((a0_).map tx).length : Int) : Int) != ((((a1_).map tx).length : Int)) then (some (false)) else (d_spec_l1SameTexts_L1 a0_ a1_ (some (true)) (a0_) 0 ))
def d_spec_l1SameTexts_S1 (a0_ : List Bytes) (a1_ : List Bytes) (ix_ : Int) : St := ⟨[(0, D.sl ((a0_).map tx)), (1, D.sl ((a1_).map tx)), (5, D.int .i64 (ix_))], []⟩
theorem d_spec_l1SameTexts_L1w (hΓ : Γ.nt = 26) {a0_ : List Bytes} {a1_ : List Bytes} {r : Bool} {k1 : Option Bool} (hE1 : k1 = some r → Ax Γ N Tryz.f166 (.q [[none]] (D.bool (r))) [1, 1, 1] ⟨[], []⟩) (hm1 : (a0_).length ≤ maxLen) : ∀ (rest : List Bytes) (i1 : Nat) , (a0_).drop i1 = rest → d_spec_l1SameTexts_L1 a0_ a1_ k1 rest i1  = some r → Ar Γ N Tryz.f166 (.q [[none]] (D.bool (r))) [1, 1, 0, 1, 0] (rest.length + 1) (d_spec_l1SameTexts_S1 a0_ a1_ ((i1 : Int))) := by
  intro rest
  induction rest with
  | nil =>
    intro i1  hd1 h
    rw [d_spec_l1SameTexts_L1] at h
    refine AWr_succ fun N1 hN1 hS1 => ?_
    exact ((pre0.ge tx hd1).a [.hl 0 [] []]).ex hΓ hN1 (hE1 h)
  | cons x1_ xs1 ih1 =>
    intro i1  hd1 h
    rw [d_spec_l1SameTexts_L1] at h
    refine AWr_succ fun N1 hN1 hS1 => ?_
    obtain ⟨x22, h23, h⟩ := den_bind h
    have o2_ := ((((pre0.lt tx hd1).a [.n 8]).l (map_row tx 1 (dc hd1) rfl)).l (at_row tx 1 h23 rfl))
    obtain ⟨h24, h⟩ | ⟨h24, h⟩ := den_if h
    · have h := den_some h; subst h; exact (o2_.b h24).ret hΓ
    · exact ((o2_.b h24).a [.cn [0, 1, 5] []]).ct hΓ hS1 (iS hd1 hm1) (ih1 (i1 + 1)  (dn hd1) h)
theorem d_spec_l1SameTexts_good {a0_ : List Bytes} {a1_ : List Bytes} {r : Bool} (h : d_spec_l1SameTexts a0_ a1_ = some r) : Good Tryz.prog 166 [D.sl ((a0_).map tx), D.sl ((a1_).map tx)] (D.bool (r)) := by
  refine gd Tryz.func166 [[none]] 26 fun hr Γ hΓ => ?_
  rw [d_spec_l1SameTexts] at h
  obtain ⟨h1, h⟩ | ⟨h1, h⟩ := den_if h
  · have h := den_some h; subst h; exact (pre0.b h1).ret hΓ
  · refine ((pre0.b h1).a [.cn [0, 1, 5] []]).lp hΓ (d_spec_l1SameTexts_L1w hΓ (fun h => ?_) (by have := (Rdb.sl (hr _ (List.mem_of_getElem? (i := 0) rfl))).1; simpa using this) (a0_) 0  rfl h)
    have h := den_some h; subst h; exact pre0.ret hΓ
def d_spec_SamePattern (a0_ : Fact) (a1_ : Fact) : Option Bool := (bif (a0_.rel : Bytes) == (a1_.rel) then ((d_spec_l1SameTexts (a0_.args) (a1_.args)).bind fun y2 => (some (y2))) else (some (false)))
theorem d_spec_SamePattern_good {a0_ : Fact} {a1_ : Fact} {r : Bool} (h : d_spec_SamePattern a0_ a1_ = some r) : Good Tryz.prog 134 [D.agg (Fact.c a0_), D.agg (Fact.c a1_)] (D.bool (r)) := by
  refine gd Tryz.func134 [[none]] 17 fun hr Γ hΓ => ?_
  rw [d_spec_SamePattern] at h
  obtain ⟨h1, h⟩ | ⟨h1, h⟩ := den_if h
  · obtain ⟨y2, h3, h⟩ := den_bind h
    have h := den_some h; subst h; exact (((pre0.r 5 h1).g (d_spec_l1SameTexts_good h3)).b h1).ret hΓ
  · have h := den_some h; subst h; exact (pre0.r 6 h1).ret hΓ
def d_spec_SameCond (a0_ : Cond) (a1_ : Cond) : Option Bool := (bif (a0_.kind : Int) == (a1_.kind) then ((d_spec_SamePattern (a0_.pat) (a1_.pat)).bind fun y2 => (bif y2 then (bif (a0_.left : Bytes) == (a1_.left) then (some ((a0_.right : Bytes) == (a1_.right))) else (some (false))) else (some (false)))) else (some (false)))
theorem d_spec_SameCond_good {a0_ : Cond} {a1_ : Cond} {r : Bool} (h : d_spec_SameCond a0_ a1_ = some r) : Good Tryz.prog 84 [D.agg (Cond.c a0_), D.agg (Cond.c a1_)] (D.bool (r)) := by
  refine gd Tryz.func84 [[none]] 31 fun hr Γ hΓ => ?_
  rw [d_spec_SameCond] at h
  obtain ⟨h1, h⟩ | ⟨h1, h⟩ := den_if h
  · obtain ⟨y2, h3, h⟩ := den_bind h
    have o1_ := (((pre0.r 5 h1).g (d_spec_SamePattern_good h3)).b h1)
    obtain ⟨h4, h⟩ | ⟨h4, h⟩ := den_if h
    · have o2_ := (o1_.r 6 h4)
      obtain ⟨h5, h⟩ | ⟨h5, h⟩ := den_if h
      · cases h; exact (o2_.r 6 h5).ret hΓ
      · have h := den_some h; subst h; exact (o2_.r 6 h5).ret hΓ
    · have h := den_some h; subst h; exact ((o1_.r 6 h4).F 6).ret hΓ
  · have h := den_some h; subst h; exact ((pre0.r 6 h1).F 12).ret hΓ
def d_spec_ShapeOf_L1 (a0_ : Fact) (k1 : List Pair → Option Fact) : List Bytes → Nat → List Pair → Option Fact
  | [], i1, w1_2 => (k1 (w1_2))
  | x1_ :: xs1, i1, w1_2 => ((d_spec_l7Name (w1_2) (x1_)).bind fun y22 => (d_spec_ShapeOf_L1 a0_ k1 xs1 (i1 + 1) (y22)))
def d_spec_ShapeOf (a0_ : Fact) : Option Fact := (d_spec_ShapeOf_L1 a0_ (fun (q1_2 : List Pair) => ((d_spec_RenameCond ((⟨0, a0_, [], []⟩ : Cond)) (q1_2)).bind fun y24 => (some (y24.pat)))) (a0_.args) 0 (([] : List Pair)))
def d_spec_ShapeOf_S1 (a0_ : Fact) (W0 : List (List D)) (ix_ : Int) : St := ⟨[(1, D.ptr 0 0), (2, D.ptr 1 0), (3, D.acc 2), (4, D.int .i64 (ix_))], [Ob.box (Fact.c a0_), Ob.box [D.str ([]), D.nil], Ob.row .uq 176 2 (W0)]⟩
theorem d_spec_ShapeOf_L1w (hΓ : Γ.nt = 25) {a0_ : Fact} {r : Fact} {k1 : List Pair → Option Fact} (hE1 : ∀ (q1_2 : List Pair), k1 q1_2 = some r → Ax Γ N Tryz.f86 (.q [[none, some (9, 1)]] (D.agg [D.str (r.rel), D.fr 9 1 ((r.args).map tx)])) [1, 1, 1] ⟨[(1, D.ptr 0 0), (2, D.ptr 1 0), (3, D.acc 2)], [Ob.box (Fact.c a0_), Ob.box [D.str ([]), D.nil], Ob.row .uq 176 2 ((q1_2).map Pair.c)]⟩) (hm1 : (a0_.args).length ≤ maxLen) : ∀ (rest : List Bytes) (i1 : Nat) (w1_2 : List Pair), (a0_.args).drop i1 = rest → d_spec_ShapeOf_L1 a0_ k1 rest i1 w1_2 = some r → Ar Γ N Tryz.f86 (.q [[none, some (9, 1)]] (D.agg [D.str (r.rel), D.fr 9 1 ((r.args).map tx)])) [1, 1, 0, 1, 0] (rest.length + 1) (d_spec_ShapeOf_S1 a0_ ((w1_2).map Pair.c) ((i1 : Int))) := by
  intro rest
  induction rest with
  | nil =>
    intro i1 w1_2 hd1 h
    rw [d_spec_ShapeOf_L1] at h
    refine AWr_succ fun N1 hN1 hS1 => ?_
    exact ((pre0.ge tx hd1).a [.hl 0 [1, 2, 3] [0, 1, 2]]).ex hΓ hN1 (hE1 (w1_2) h)
  | cons x1_ xs1 ih1 =>
    intro i1 w1_2 hd1 h
    rw [d_spec_ShapeOf_L1] at h
    refine AWr_succ fun N1 hN1 hS1 => ?_
    obtain ⟨y22, h23, h⟩ := den_bind h
    exact (((((pre0.lt tx hd1).l (map_row tx 1 (dc hd1) rfl)).w (show ((w1_2).map Pair.c).flatten.all D.flat = true from by simpa only [List.map_append, List.map_cons, List.map_nil] using flat_rows (c := Pair.c) (fun _ => rfl) (w1_2))).w (show GoodO Tryz.prog 132 [D.acc 0, D.str (x1_)] 176 2 ((w1_2).map Pair.c) ((y22).map Pair.c) from by simpa only [List.map_append, List.map_cons, List.map_nil] using d_spec_l7Name_good h23)).a [.ov 2 ((y22).map Pair.c), .cn [1, 2, 3, 4] [0, 1, 3]]).ct hΓ hS1 (iS hd1 hm1) (ih1 (i1 + 1) (y22) (dn hd1) h)
theorem d_spec_ShapeOf_good {a0_ : Fact} {r : Fact} (h : d_spec_ShapeOf a0_ = some r) : Good Tryz.prog 86 [D.agg (Fact.c a0_)] (D.agg [D.str (r.rel), D.fr 9 1 ((r.args).map tx)]) := by
  refine gd Tryz.func86 [[none, some (9, 1)]] 25 fun hr Γ hΓ => ?_
  rw [d_spec_ShapeOf] at h
  refine (pre0.a [.cn [1, 2, 3, 4] [0, 1, 2]]).lp hΓ (d_spec_ShapeOf_L1w hΓ (fun q1_2 h => ?_) (by have := (Rdb.sl (Rdb.agg (hr _ (List.mem_of_getElem? (i := 0) rfl)) (.sl ((a0_.args).map tx)) (by simp))).1; simpa using this) (a0_.args) 0 (([] : List Pair)) rfl h)
  obtain ⟨y24, h25, h⟩ := den_bind h
  cases h; exact ((pre0.a [.d (D.agg [D.int .i64 (y24.kind), D.str (y24.pat.rel), D.fr 9 1 ((y24.pat.args).map tx), D.str (y24.left), D.str (y24.right)])]).w (show Good Tryz.prog 83 [D.agg [D.int .i64 (0), D.str (a0_.rel), D.sl ((a0_.args).map tx), D.str ([]), D.str ([])], D.sl ((q1_2).map Pair.c)] (D.agg [D.int .i64 (y24.kind), D.str (y24.pat.rel), D.fr 9 1 ((y24.pat.args).map tx), D.str (y24.left), D.str (y24.right)]) from by first | (simpa only [List.map_append, List.map_cons, List.map_nil, List.map_drop, List.map_take] using d_spec_RenameCond_good h25) | exact d_spec_RenameCond_good h25 | (have t := d_spec_RenameCond_good h25; simp only [List.map_append, List.map_drop, List.map_take, Cond.c] at t; exact t))).ret hΓ
def d_spec_l7Alpha_L1 (a0_ : Network) (a1_ : Fact) (k1 : Option (Network × Int)) : List Alpha → Nat → Option (Network × Int)
  | [], i1 => (k1 )
  | x1_ :: xs1, i1 => ((d_spec_SamePattern (x1_.shape) (a1_)).bind fun y22 => (bif y22 then (some ((a0_, (i1 : Int)))) else (d_spec_l7Alpha_L1 a0_ a1_ k1 xs1 (i1 + 1) )))
def d_spec_l7Alpha (a0_ : Network) (a1_ : Fact) : Option (Network × Int) := (bif decide ((a0_.alphas).length ≤ maxLen) then (d_spec_l7Alpha_L1 a0_ a1_ (bif room (((a0_.alphas).map Alpha.c).length + ([[D.str (a1_.rel), D.sl ((a1_.args).map tx), D.sl ([])]]).length) 64 then (some (((⟨a0_.rules, a0_.ends, (a0_.alphas) ++ ([(⟨a1_, []⟩ : Alpha)]), a0_.nodes, a0_.facts, a0_.tries⟩ : Network), IntKind.i64.wrap ((((((a0_.alphas).map Alpha.c) ++ ([[D.str (a1_.rel), D.sl ((a1_.args).map tx), D.sl ([])]])).length : Int)) - (1))))) else none) (a0_.alphas) 0 ) else none)
def d_spec_l7Alpha_S1 (v0_ : Value) (a0_ : Network) (a1_ : Fact) (ix_ : Int) : St := ⟨[(0, D.ptr 0 0), (3, D.ptr 1 0), (5, D.int .i64 (ix_))], [Ob.pbx [D.acc 2, D.acc 3, D.acc 4, D.acc 5, D.acc 6, D.int .i64 (a0_.tries)] v0_, Ob.box [D.str (a1_.rel), D.acc 7], Ob.row .uq 31 4 ((a0_.rules).map Rule.c), Ob.row .uq 3 1 ((a0_.ends).map ixx), Ob.row .uq 126 3 ((a0_.alphas).map Alpha.c), Ob.row .uq 75 8 ((a0_.nodes).map Node.c), Ob.row .uq 129 2 ((a0_.facts).map Fact.c), Ob.row .uq 9 1 ((a1_.args).map tx)]⟩
theorem d_spec_l7Alpha_L1w (hΓ : Γ.nt = 43) {v0_ : Value} {a0_ : Network} {a1_ : Fact} {r : Network × Int} {k1 : Option (Network × Int)} (hE1 : k1 = some r → Ax Γ N Tryz.f85 (.p [[some (31, 4), some (3, 1), some (126, 3), some (75, 8), some (129, 2), none], [none]] v0_ (Network_f r.1) (D.int .i64 (r.2))) [1, 1] ⟨[(0, D.ptr 0 0), (3, D.ptr 1 0)], [Ob.pbx [D.acc 2, D.acc 3, D.acc 4, D.acc 5, D.acc 6, D.int .i64 (a0_.tries)] v0_, Ob.box [D.str (a1_.rel), D.acc 7], Ob.row .uq 31 4 ((a0_.rules).map Rule.c), Ob.row .uq 3 1 ((a0_.ends).map ixx), Ob.row .uq 126 3 ((a0_.alphas).map Alpha.c), Ob.row .uq 75 8 ((a0_.nodes).map Node.c), Ob.row .uq 129 2 ((a0_.facts).map Fact.c), Ob.row .uq 9 1 ((a1_.args).map tx)]⟩) (hm1 : (a0_.alphas).length ≤ maxLen) : ∀ (rest : List Alpha) (i1 : Nat) , (a0_.alphas).drop i1 = rest → d_spec_l7Alpha_L1 a0_ a1_ k1 rest i1  = some r → Ar Γ N Tryz.f85 (.p [[some (31, 4), some (3, 1), some (126, 3), some (75, 8), some (129, 2), none], [none]] v0_ (Network_f r.1) (D.int .i64 (r.2))) [1, 0, 1, 0] (rest.length + 1) (d_spec_l7Alpha_S1 v0_ a0_ a1_ ((i1 : Int))) := by
  intro rest
  induction rest with
  | nil =>
    intro i1  hd1 h
    rw [d_spec_l7Alpha_L1] at h
    refine AWr_succ fun N1 hN1 hS1 => ?_
    exact ((pre0.ge Alpha.c hd1).a [.hl 0 [0, 3] [0, 1, 2, 3, 4, 5, 6, 7]]).ex hΓ hN1 (hE1 h)
  | cons x1_ xs1 ih1 =>
    intro i1  hd1 h
    rw [d_spec_l7Alpha_L1] at h
    refine AWr_succ fun N1 hN1 hS1 => ?_
    obtain ⟨y22, h23, h⟩ := den_bind h
    have o2_ := (((((pre0.lt Alpha.c hd1).a [.n 9]).i (own_ixl Alpha.c 3 (dc hd1))).o 3 2 .uq (map_get Alpha.c (dc hd1))).g (d_spec_SamePattern_good h23))
    obtain ⟨h24, h⟩ | ⟨h24, h⟩ := den_if h
    · cases h; exact (o2_.b h24).ret hΓ
    · exact ((o2_.b h24).a [.cn [0, 3, 5] [0, 1, 2, 3, 4, 5, 6, 7]]).ct hΓ hS1 (iS hd1 hm1) (ih1 (i1 + 1)  (dn hd1) h)
theorem d_spec_l7Alpha_good {a0_ : Network} {a1_ : Fact} {r : Network × Int} (h : d_spec_l7Alpha a0_ a1_ = some r) : GoodP Tryz.prog 85 (Network_f a0_) (Network_f r.1) [D.agg [D.str (a1_.rel), D.fr 9 1 ((a1_.args).map tx)]] (D.int .i64 (r.2)) := by
  refine gdP Tryz.func85 [[some (31, 4), some (3, 1), some (126, 3), some (75, 8), some (129, 2), none], [none]] 43 [D.acc 1, D.acc 2, D.acc 3, D.acc 4, D.acc 5, D.int .i64 (a0_.tries)] [D.agg [D.str (a1_.rel), D.acc 6]] [Ob.row .uq 31 4 ((a0_.rules).map Rule.c), Ob.row .uq 3 1 ((a0_.ends).map ixx), Ob.row .uq 126 3 ((a0_.alphas).map Alpha.c), Ob.row .uq 75 8 ((a0_.nodes).map Node.c), Ob.row .uq 129 2 ((a0_.facts).map Fact.c), Ob.row .uq 9 1 ((a1_.args).map tx)] fun hr v0_ Γ hΓ => ?_
  rw [d_spec_l7Alpha] at h
  obtain ⟨h27, h⟩ := den_ok h
  refine (pre0.a [.cn [0, 3, 5] [0, 7, 1, 2, 3, 4, 5, 6]]).lp hΓ (d_spec_l7Alpha_L1w hΓ (fun h => ?_) (of_decide_eq_true h27) (a0_.alphas) 0  rfl h)
  obtain ⟨h26, h⟩ := den_ok h
  cases h; exact ((pre0.w (room_ok h26)).a [.n2 [0, 1, 2, 3, 4, 5, 6, 7, 8, 9, 10, 11] [0, 1, 2, 3, 4, 5, 6, 7, 8, 9, 10, 11] 7 9 [0, 1, 2, 3, 4] [4, 7, 8]]).rts hΓ (D.tup [D.int .i64 (IntKind.i64.wrap ((((((a0_.alphas).map Alpha.c) ++ ([[D.str (a1_.rel), D.sl ((a1_.args).map tx), D.sl ([])]])).length : Int)) - (1))), D.agg [D.fr 31 4 ((a0_.rules).map Rule.c), D.fr 3 1 ((a0_.ends).map ixx), D.fr 126 3 (((a0_.alphas).map Alpha.c) ++ ([[D.str (a1_.rel), D.sl ((a1_.args).map tx), D.sl ([])]])), D.fr 75 8 ((a0_.nodes).map Node.c), D.fr 129 2 ((a0_.facts).map Fact.c), D.int .i64 (a0_.tries)], D.val v0_]) (by first | rfl | (simp only [mA] <;> rfl) | (simp only [Network_f, mA] <;> rfl))
def d_spec_l7Child_L1 (a0_ : Network) (a1_ : Int) (a2_ : Cond) (k1 : Option (Network × Int)) : Nat → Int → Option (Network × Int)
  | 0, _ => none
  | n1 + 1, v1_7 => (bif decide ((v1_7 : Int) < ((((a0_.nodes).map Node.c).length : Int))) then ((atI (a0_.nodes) (v1_7)).bind fun x16 => (bif (x16.parent : Int) == (a1_) then ((d_spec_SameCond (x16.cond) (a2_)).bind fun y19 => (bif y19 then (some ((a0_, v1_7))) else (d_spec_l7Child_L1 a0_ a1_ a2_ k1 n1 (IntKind.i64.wrap ((v1_7) + (1)))))) else (d_spec_l7Child_L1 a0_ a1_ a2_ k1 n1 (IntKind.i64.wrap ((v1_7) + (1)))))) else (k1 ))
def d_spec_l7Child (a0_ : Network) (a1_ : Int) (a2_ : Cond) : Option (Network × Int) := (d_spec_l7Child_L1 a0_ a1_ a2_ ((d_spec_l4Copy (a2_)).bind fun y22 => (bif (a2_.kind : Int) == (1) then ((d_spec_ShapeOf (a2_.pat)).bind fun y25 => ((d_spec_l7Alpha (a0_) (y25)).bind fun y27 => (bif room (((y27.1.nodes).map Node.c).length + ([[D.int .i64 (a1_), D.int .i64 (y22.kind), D.str (y22.pat.rel), D.sl ((y22.pat.args).map tx), D.str (y22.left), D.str (y22.right), D.int .i64 (y27.2), D.sl ([])]]).length) 120 then (some (((⟨y27.1.rules, y27.1.ends, y27.1.alphas, (y27.1.nodes) ++ ([(⟨a1_, y22, y27.2, []⟩ : Node)]), y27.1.facts, y27.1.tries⟩ : Network), IntKind.i64.wrap ((((((y27.1.nodes).map Node.c) ++ ([[D.int .i64 (a1_), D.int .i64 (y22.kind), D.str (y22.pat.rel), D.sl ((y22.pat.args).map tx), D.str (y22.left), D.str (y22.right), D.int .i64 (y27.2), D.sl ([])]])).length : Int)) - (1))))) else none))) else (bif (a2_.kind : Int) == (2) then ((d_spec_ShapeOf (a2_.pat)).bind fun y32 => ((d_spec_l7Alpha (a0_) (y32)).bind fun y34 => (bif room (((y34.1.nodes).map Node.c).length + ([[D.int .i64 (a1_), D.int .i64 (y22.kind), D.str (y22.pat.rel), D.sl ((y22.pat.args).map tx), D.str (y22.left), D.str (y22.right), D.int .i64 (y34.2), D.sl ([])]]).length) 120 then (some (((⟨y34.1.rules, y34.1.ends, y34.1.alphas, (y34.1.nodes) ++ ([(⟨a1_, y22, y34.2, []⟩ : Node)]), y34.1.facts, y34.1.tries⟩ : Network), IntKind.i64.wrap ((((((y34.1.nodes).map Node.c) ++ ([[D.int .i64 (a1_), D.int .i64 (y22.kind), D.str (y22.pat.rel), D.sl ((y22.pat.args).map tx), D.str (y22.left), D.str (y22.right), D.int .i64 (y34.2), D.sl ([])]])).length : Int)) - (1))))) else none))) else (bif room (((a0_.nodes).map Node.c).length + ([[D.int .i64 (a1_), D.int .i64 (y22.kind), D.str (y22.pat.rel), D.sl ((y22.pat.args).map tx), D.str (y22.left), D.str (y22.right), D.int .i64 (-1), D.sl ([])]]).length) 120 then (some (((⟨a0_.rules, a0_.ends, a0_.alphas, (a0_.nodes) ++ ([(⟨a1_, y22, -1, []⟩ : Node)]), a0_.facts, a0_.tries⟩ : Network), IntKind.i64.wrap ((((((a0_.nodes).map Node.c) ++ ([[D.int .i64 (a1_), D.int .i64 (y22.kind), D.str (y22.pat.rel), D.sl ((y22.pat.args).map tx), D.str (y22.left), D.str (y22.right), D.int .i64 (-1), D.sl ([])]])).length : Int)) - (1))))) else none)))) fuel (1))
def d_spec_l7Child_S1 (v0_ : Value) (a0_ : Network) (a1_ : Int) (a2_ : Cond) (v1_7 : Int) : St := ⟨[(0, D.ptr 0 0), (1, D.int .i64 (a1_)), (5, D.ptr 1 0), (7, D.int .i64 (v1_7))], [Ob.pbx [D.acc 2, D.acc 3, D.acc 4, D.acc 5, D.acc 6, D.int .i64 (a0_.tries)] v0_, Ob.box (Cond.c a2_), Ob.row .uq 31 4 ((a0_.rules).map Rule.c), Ob.row .uq 3 1 ((a0_.ends).map ixx), Ob.row .uq 126 3 ((a0_.alphas).map Alpha.c), Ob.row .uq 75 8 ((a0_.nodes).map Node.c), Ob.row .uq 129 2 ((a0_.facts).map Fact.c)]⟩
theorem d_spec_l7Child_L1w (hΓ : Γ.nt = 75) {v0_ : Value} {a0_ : Network} {a1_ : Int} {a2_ : Cond} {r : Network × Int} {k1 : Option (Network × Int)} (hE1 : k1 = some r → Ax Γ N Tryz.f34 (.p [[some (31, 4), some (3, 1), some (126, 3), some (75, 8), some (129, 2), none], [none]] v0_ (Network_f r.1) (D.int .i64 (r.2))) [1, 1] ⟨[(0, D.ptr 0 0), (1, D.int .i64 (a1_)), (5, D.ptr 1 0)], [Ob.pbx [D.acc 2, D.acc 3, D.acc 4, D.acc 5, D.acc 6, D.int .i64 (a0_.tries)] v0_, Ob.box (Cond.c a2_), Ob.row .uq 31 4 ((a0_.rules).map Rule.c), Ob.row .uq 3 1 ((a0_.ends).map ixx), Ob.row .uq 126 3 ((a0_.alphas).map Alpha.c), Ob.row .uq 75 8 ((a0_.nodes).map Node.c), Ob.row .uq 129 2 ((a0_.facts).map Fact.c)]⟩) : ∀ (n1 : Nat) (v1_7 : Int), d_spec_l7Child_L1 a0_ a1_ a2_ k1 n1 v1_7 = some r → Ar Γ N Tryz.f34 (.p [[some (31, 4), some (3, 1), some (126, 3), some (75, 8), some (129, 2), none], [none]] v0_ (Network_f r.1) (D.int .i64 (r.2))) [1, 0, 1, 0] n1 (d_spec_l7Child_S1 v0_ a0_ a1_ a2_ v1_7) := by
  intro n
  induction n with
  | zero => intro v1_7 h; simp [d_spec_l7Child_L1] at h
  | succ n1 ih1 =>
    intro v1_7 h
    rw [d_spec_l7Child_L1] at h
    refine AWr_succ fun N1 hN1 hS1 => ?_
    obtain ⟨h15, h⟩ | ⟨h15, h⟩ := den_if h
    · obtain ⟨x16, h17, h⟩ := den_bind h
      have o3_ := ((((pre0.b h15).a [.n 20]).i (own_at Node.c 8 h17)).o 8 1 .uq (map_get Node.c (atI_get h17)))
      obtain ⟨h18, h⟩ | ⟨h18, h⟩ := den_if h
      · obtain ⟨y19, h20, h⟩ := den_bind h
        have o4_ := (((((((o3_.r 6 h18).i (own_at Node.c 8 h17)).r 2 h18).o 8 6 .uq (map_get Node.c (atI_get h17))).r 2 h18).g (d_spec_SameCond_good h20)).b h18)
        obtain ⟨h21, h⟩ | ⟨h21, h⟩ := den_if h
        · cases h; exact (o4_.b h21).ret hΓ
        · exact ((o4_.b h21).a [.cn [0, 1, 5, 7] [0, 1, 2, 3, 4, 5, 6]]).cf hΓ hS1 (ih1 (IntKind.i64.wrap ((v1_7) + (1))) h)
      · exact (((o3_.r 11 h18).F 1).a [.cn [0, 1, 5, 7] [0, 1, 2, 3, 4, 5, 6]]).cf hΓ hS1 (ih1 (IntKind.i64.wrap ((v1_7) + (1))) h)
    · exact ((pre0.b h15).a [.hl 0 [0, 1, 5] [0, 1, 2, 3, 4, 5, 6]]).ex hΓ hN1 (hE1 h)
theorem d_spec_l7Child_good {a0_ : Network} {a1_ : Int} {a2_ : Cond} {r : Network × Int} (h : d_spec_l7Child a0_ a1_ a2_ = some r) : GoodP Tryz.prog 34 (Network_f a0_) (Network_f r.1) [D.int .i64 (a1_), D.agg (Cond.c a2_)] (D.int .i64 (r.2)) := by
  refine gdP Tryz.func34 [[some (31, 4), some (3, 1), some (126, 3), some (75, 8), some (129, 2), none], [none]] 75 [D.acc 1, D.acc 2, D.acc 3, D.acc 4, D.acc 5, D.int .i64 (a0_.tries)] [D.int .i64 (a1_), D.agg [D.int .i64 (a2_.kind), D.str (a2_.pat.rel), D.sl ((a2_.pat.args).map tx), D.str (a2_.left), D.str (a2_.right)]] [Ob.row .uq 31 4 ((a0_.rules).map Rule.c), Ob.row .uq 3 1 ((a0_.ends).map ixx), Ob.row .uq 126 3 ((a0_.alphas).map Alpha.c), Ob.row .uq 75 8 ((a0_.nodes).map Node.c), Ob.row .uq 129 2 ((a0_.facts).map Fact.c)] fun hr v0_ Γ hΓ => ?_
  rw [d_spec_l7Child] at h
  refine (pre0.a [.cn [0, 1, 5, 7] [0, 6, 1, 2, 3, 4, 5]]).lp hΓ (d_spec_l7Child_L1w hΓ (fun h => ?_) fuel (1) h)
  obtain ⟨y22, h23, h⟩ := den_bind h
  obtain ⟨h24, h⟩ | ⟨h24, h⟩ := den_if h
  · obtain ⟨y25, h26, h⟩ := den_bind h
    obtain ⟨y27, h28, h⟩ := den_bind h
    obtain ⟨h30, h⟩ := den_ok h
    cases h; exact (((((((pre0.g (d_spec_l4Copy_good h23)).r 4 h24).T 1).g (d_spec_ShapeOf_good h26)).hp [[some (31, 4), some (3, 1), some (126, 3), some (75, 8), some (129, 2), none], [none, some (9, 1)]] (d_spec_l7Alpha_good h28)).w (room_ok h30)).a [.n2 [0, 1, 2, 3, 4, 5, 6, 7, 8, 9, 10] [0, 1, 2, 3, 4, 5, 6, 7, 8, 9, 10] 6 8 [0, 1, 2, 3, 4] [7, 13, 15]]).rts hΓ (D.tup [D.int .i64 (IntKind.i64.wrap ((((((y27.1.nodes).map Node.c) ++ ([[D.int .i64 (a1_), D.int .i64 (y22.kind), D.str (y22.pat.rel), D.sl ((y22.pat.args).map tx), D.str (y22.left), D.str (y22.right), D.int .i64 (y27.2), D.sl ([])]])).length : Int)) - (1))), D.agg [D.fr 31 4 ((y27.1.rules).map Rule.c), D.fr 3 1 ((y27.1.ends).map ixx), D.fr 126 3 ((y27.1.alphas).map Alpha.c), D.fr 75 8 (((y27.1.nodes).map Node.c) ++ ([[D.int .i64 (a1_), D.int .i64 (y22.kind), D.str (y22.pat.rel), D.sl ((y22.pat.args).map tx), D.str (y22.left), D.str (y22.right), D.int .i64 (y27.2), D.sl ([])]])), D.fr 129 2 ((y27.1.facts).map Fact.c), D.int .i64 (y27.1.tries)], D.val v0_]) (by first | rfl | (simp only [mA] <;> rfl) | (simp only [Network_f, mA] <;> rfl))
  · have o5_ := ((pre0.g (d_spec_l4Copy_good h23)).r 4 h24)
    obtain ⟨h31, h⟩ | ⟨h31, h⟩ := den_if h
    · obtain ⟨y32, h33, h⟩ := den_bind h
      obtain ⟨y34, h35, h⟩ := den_bind h
      obtain ⟨h37, h⟩ := den_ok h
      cases h; exact (((((o5_.b h31).g (d_spec_ShapeOf_good h33)).hp [[some (31, 4), some (3, 1), some (126, 3), some (75, 8), some (129, 2), none], [none, some (9, 1)]] (d_spec_l7Alpha_good h35)).w (room_ok h37)).a [.n2 [0, 1, 2, 3, 4, 5, 6, 7, 8, 9, 10] [0, 1, 2, 3, 4, 5, 6, 7, 8, 9, 10] 6 8 [0, 1, 2, 3, 4] [7, 13, 15]]).rts hΓ (D.tup [D.int .i64 (IntKind.i64.wrap ((((((y34.1.nodes).map Node.c) ++ ([[D.int .i64 (a1_), D.int .i64 (y22.kind), D.str (y22.pat.rel), D.sl ((y22.pat.args).map tx), D.str (y22.left), D.str (y22.right), D.int .i64 (y34.2), D.sl ([])]])).length : Int)) - (1))), D.agg [D.fr 31 4 ((y34.1.rules).map Rule.c), D.fr 3 1 ((y34.1.ends).map ixx), D.fr 126 3 ((y34.1.alphas).map Alpha.c), D.fr 75 8 (((y34.1.nodes).map Node.c) ++ ([[D.int .i64 (a1_), D.int .i64 (y22.kind), D.str (y22.pat.rel), D.sl ((y22.pat.args).map tx), D.str (y22.left), D.str (y22.right), D.int .i64 (y34.2), D.sl ([])]])), D.fr 129 2 ((y34.1.facts).map Fact.c), D.int .i64 (y34.1.tries)], D.val v0_]) (by first | rfl | (simp only [mA] <;> rfl) | (simp only [Network_f, mA] <;> rfl))
    · obtain ⟨h39, h⟩ := den_ok h
      cases h; exact (((o5_.b h31).w (room_ok h39)).a [.n2 [0, 1, 2, 3, 4, 5, 6, 7, 8, 9, 10] [0, 1, 2, 3, 4, 5, 6, 7, 8, 9, 10] 6 8 [0, 1, 2, 3, 4] [5, 7, 9]]).rts hΓ (D.tup [D.int .i64 (IntKind.i64.wrap ((((((a0_.nodes).map Node.c) ++ ([[D.int .i64 (a1_), D.int .i64 (y22.kind), D.str (y22.pat.rel), D.sl ((y22.pat.args).map tx), D.str (y22.left), D.str (y22.right), D.int .i64 (-1), D.sl ([])]])).length : Int)) - (1))), D.agg [D.fr 31 4 ((a0_.rules).map Rule.c), D.fr 3 1 ((a0_.ends).map ixx), D.fr 126 3 ((a0_.alphas).map Alpha.c), D.fr 75 8 (((a0_.nodes).map Node.c) ++ ([[D.int .i64 (a1_), D.int .i64 (y22.kind), D.str (y22.pat.rel), D.sl ((y22.pat.args).map tx), D.str (y22.left), D.str (y22.right), D.int .i64 (-1), D.sl ([])]])), D.fr 129 2 ((a0_.facts).map Fact.c), D.int .i64 (a0_.tries)], D.val v0_]) (by first | rfl | (simp only [mA] <;> rfl) | (simp only [Network_f, mA] <;> rfl))
def d_spec_EmptyNetwork_L2 (a0_ : List Rule) (i1 : Nat) (y182 : List Cond) (k2 : Int → Int → List Rule → List Int → List Alpha → List Node → List Fact → Option (Network × Bool)) : List Cond → Nat → Int → Int → List Rule → List Int → List Alpha → List Node → List Fact → Option (Network × Bool)
  | [], i2, v2_6, u2_1_5, w2_3, w2_4, w2_5, w2_6, w2_7 => (k2 (v2_6) (u2_1_5) (w2_3) (w2_4) (w2_5) (w2_6) (w2_7))
  | x2_ :: xs2, i2, v2_6, u2_1_5, w2_3, w2_4, w2_5, w2_6, w2_7 => ((d_spec_l7Child ((⟨w2_3, w2_4, w2_5, w2_6, w2_7, u2_1_5⟩ : Network)) (v2_6) (x2_)).bind fun y211 => (d_spec_EmptyNetwork_L2 a0_ i1 y182 k2 xs2 (i2 + 1) (y211.2) (y211.1.tries) (y211.1.rules) (y211.1.ends) (y211.1.alphas) (y211.1.nodes) (y211.1.facts)))
def d_spec_EmptyNetwork_L1 (a0_ : List Rule) (k1 : Int → List Rule → List Int → List Alpha → List Node → List Fact → Option (Network × Bool)) : List Rule → Nat → Int → List Rule → List Int → List Alpha → List Node → List Fact → Option (Network × Bool)
  | [], i1, u1_1_5, w1_2, w1_3, w1_4, w1_5, w1_6 => (k1 (u1_1_5) (w1_2) (w1_3) (w1_4) (w1_5) (w1_6))
  | x1_ :: xs1, i1, u1_1_5, w1_2, w1_3, w1_4, w1_5, w1_6 => ((d_spec_PlainConds (x1_)).bind fun y182 => (bif decide ((y182).length ≤ maxLen) then (d_spec_EmptyNetwork_L2 a0_ i1 y182 (fun (z2_6 : Int) (r2_1_5 : Int) (q2_2 : List Rule) (q2_3 : List Int) (q2_4 : List Alpha) (q2_5 : List Node) (q2_6 : List Fact) => (bif room (((q2_3).map ixx).length + ([[D.int .i64 (z2_6)]]).length) 8 then (d_spec_EmptyNetwork_L1 a0_ k1 xs1 (i1 + 1) (r2_1_5) (q2_2) ((q2_3) ++ ([z2_6])) (q2_4) (q2_5) (q2_6)) else none)) (y182) 0 (0) (u1_1_5) (w1_2) (w1_3) (w1_4) (w1_5) (w1_6)) else none))
def d_spec_EmptyNetwork (a0_ : List Rule) : Option (Network × Bool) := ((d_spec_AreRules (a0_)).bind fun y1 => (bif !(y1) then (some (((⟨[], [], [], [], [], 0⟩ : Network), false))) else ((d_spec_l5Copies (a0_)).bind fun y4 => (d_spec_EmptyNetwork_L1 a0_ (fun (r1_1_5 : Int) (q1_2 : List Rule) (q1_3 : List Int) (q1_4 : List Alpha) (q1_5 : List Node) (q1_6 : List Fact) => (some (((⟨q1_2, q1_3, q1_4, q1_5, q1_6, r1_1_5⟩ : Network), true)))) (a0_) 0 (0) (y4) (([] : List Int)) (([] : List Alpha)) ([(⟨-1, (⟨0, (⟨[], []⟩ : Fact), [], []⟩ : Cond), -1, [(⟨[], []⟩ : Token)]⟩ : Node)]) (([] : List Fact))))))
def d_spec_EmptyNetwork_S1 (a0_ : List Rule) (u1_1_5 : Int) (W1 : List (List D)) (W2 : List (List D)) (W3 : List (List D)) (W4 : List (List D)) (W5 : List (List D)) (ix_ : Int) : St := ⟨[(0, D.sl ((a0_).map Rule.c)), (2, D.ptr 0 0), (4, D.ptr 1 0), (5, D.int .i64 (ix_))], [Ob.box [D.nil, D.nil, D.nil, D.nil, D.nil, D.int .i64 (0)], Ob.box [D.acc 2, D.acc 3, D.acc 4, D.acc 5, D.acc 6, D.int .i64 (u1_1_5)], Ob.row .uq 31 4 (W1), Ob.row .uq 3 1 (W2), Ob.row .uq 126 3 (W3), Ob.row .uq 75 8 (W4), Ob.row .uq 129 2 (W5)]⟩
def d_spec_EmptyNetwork_S2 (a0_ : List Rule) (i1 : Nat) (y182 : List Cond) (v2_6 : Int) (u2_1_5 : Int) (W2 : List (List D)) (W3 : List (List D)) (W4 : List (List D)) (W5 : List (List D)) (W6 : List (List D)) (ix_ : Int) : St := ⟨[(0, D.sl ((a0_).map Rule.c)), (2, D.ptr 0 0), (4, D.ptr 1 0), (5, D.int .i64 ((i1 : Int))), (6, D.int .i64 (v2_6)), (7, D.acc 2), (8, D.int .i64 (ix_))], [Ob.box [D.nil, D.nil, D.nil, D.nil, D.nil, D.int .i64 (0)], Ob.box [D.acc 3, D.acc 4, D.acc 5, D.acc 6, D.acc 7, D.int .i64 (u2_1_5)], Ob.row .uq 73 5 ((y182).map Cond.c), Ob.row .uq 31 4 (W2), Ob.row .uq 3 1 (W3), Ob.row .uq 126 3 (W4), Ob.row .uq 75 8 (W5), Ob.row .uq 129 2 (W6)]⟩
theorem d_spec_EmptyNetwork_L2w (hΓ : Γ.nt = 50) {a0_ : List Rule} {i1 : Nat} {y182 : List Cond} {r : Network × Bool} {k2 : Int → Int → List Rule → List Int → List Alpha → List Node → List Fact → Option (Network × Bool)} (hE2 : ∀ (z2_6 : Int) (r2_1_5 : Int) (q2_2 : List Rule) (q2_3 : List Int) (q2_4 : List Alpha) (q2_5 : List Node) (q2_6 : List Fact), k2 z2_6 r2_1_5 q2_2 q2_3 q2_4 q2_5 q2_6 = some r → Ax Γ N Tryz.f15 (.q [[some (31, 4), some (3, 1), some (126, 3), some (75, 8), some (129, 2), none], [none]] (D.tup [D.agg [D.fr 31 4 ((r.1.rules).map Rule.c), D.fr 3 1 ((r.1.ends).map ixx), D.fr 126 3 ((r.1.alphas).map Alpha.c), D.fr 75 8 ((r.1.nodes).map Node.c), D.fr 129 2 ((r.1.facts).map Fact.c), D.int .i64 (r.1.tries)], D.bool (r.2)])) [1, 1, 1, 0, 1, 0, 0, 1, 0, 0, 1, 1, 1] ⟨[(0, D.sl ((a0_).map Rule.c)), (2, D.ptr 0 0), (4, D.ptr 1 0), (5, D.int .i64 ((i1 : Int))), (6, D.int .i64 (z2_6))], [Ob.box [D.nil, D.nil, D.nil, D.nil, D.nil, D.int .i64 (0)], Ob.box [D.acc 2, D.acc 3, D.acc 4, D.acc 5, D.acc 6, D.int .i64 (r2_1_5)], Ob.row .uq 31 4 ((q2_2).map Rule.c), Ob.row .uq 3 1 ((q2_3).map ixx), Ob.row .uq 126 3 ((q2_4).map Alpha.c), Ob.row .uq 75 8 ((q2_5).map Node.c), Ob.row .uq 129 2 ((q2_6).map Fact.c)]⟩) (hm2 : (y182).length ≤ maxLen) : ∀ (rest : List Cond) (i2 : Nat) (v2_6 : Int) (u2_1_5 : Int) (w2_3 : List Rule) (w2_4 : List Int) (w2_5 : List Alpha) (w2_6 : List Node) (w2_7 : List Fact), (y182).drop i2 = rest → d_spec_EmptyNetwork_L2 a0_ i1 y182 k2 rest i2 v2_6 u2_1_5 w2_3 w2_4 w2_5 w2_6 w2_7 = some r → Ar Γ N Tryz.f15 (.q [[some (31, 4), some (3, 1), some (126, 3), some (75, 8), some (129, 2), none], [none]] (D.tup [D.agg [D.fr 31 4 ((r.1.rules).map Rule.c), D.fr 3 1 ((r.1.ends).map ixx), D.fr 126 3 ((r.1.alphas).map Alpha.c), D.fr 75 8 ((r.1.nodes).map Node.c), D.fr 129 2 ((r.1.facts).map Fact.c), D.int .i64 (r.1.tries)], D.bool (r.2)])) [1, 1, 1, 0, 1, 0, 0, 1, 0, 0, 1, 1, 0, 1, 0] (rest.length + 1) (d_spec_EmptyNetwork_S2 a0_ i1 y182 v2_6 u2_1_5 ((w2_3).map Rule.c) ((w2_4).map ixx) ((w2_5).map Alpha.c) ((w2_6).map Node.c) ((w2_7).map Fact.c) ((i2 : Int))) := by
  intro rest
  induction rest with
  | nil =>
    intro i2 v2_6 u2_1_5 w2_3 w2_4 w2_5 w2_6 w2_7 hd2 h
    rw [d_spec_EmptyNetwork_L2] at h
    refine AWr_succ fun N2 hN2 hS2 => ?_
    exact ((pre0.ge Cond.c hd2).a [.hl 5 [0, 2, 4, 5, 6] [0, 1, 3, 4, 5, 6, 7]]).ex hΓ hN2 (hE2 (v2_6) (u2_1_5) (w2_3) (w2_4) (w2_5) (w2_6) (w2_7) h)
  | cons x2_ xs2 ih2 =>
    intro i2 v2_6 u2_1_5 w2_3 w2_4 w2_5 w2_6 w2_7 hd2 h
    rw [d_spec_EmptyNetwork_L2] at h
    refine AWr_succ fun N2 hN2 hS2 => ?_
    obtain ⟨y211, h212, h⟩ := den_bind h
    exact ((((((pre0.lt Cond.c hd2).i (own_ixl Cond.c 5 (dc hd2))).o 5 5 .uq (map_get Cond.c (dc hd2))).a [.gp [[some (31, 4), some (3, 1), some (126, 3), some (75, 8), some (129, 2), none], [none], [none, none, none, none, none]] (Network_f y211.1) (D.int .i64 (y211.2))]).w (show GoodP Tryz.prog 34 (Network_f ((⟨w2_3, w2_4, w2_5, w2_6, w2_7, u2_1_5⟩ : Network))) (Network_f y211.1) [D.int .i64 (v2_6), D.agg (Cond.c (x2_))] (D.int .i64 (y211.2)) from by simpa only [List.map_append, List.map_cons, List.map_nil, List.map_drop, List.map_take] using d_spec_l7Child_good h212)).a [.cn [0, 2, 4, 5, 6, 7, 8] [0, 1, 2, 8, 9, 10, 11, 12]]).ct hΓ hS2 (iS hd2 hm2) (ih2 (i2 + 1) (y211.2) (y211.1.tries) (y211.1.rules) (y211.1.ends) (y211.1.alphas) (y211.1.nodes) (y211.1.facts) (dn hd2) h)
theorem d_spec_EmptyNetwork_L1w (hΓ : Γ.nt = 50) {a0_ : List Rule} {r : Network × Bool} {k1 : Int → List Rule → List Int → List Alpha → List Node → List Fact → Option (Network × Bool)} (hE1 : ∀ (r1_1_5 : Int) (q1_2 : List Rule) (q1_3 : List Int) (q1_4 : List Alpha) (q1_5 : List Node) (q1_6 : List Fact), k1 r1_1_5 q1_2 q1_3 q1_4 q1_5 q1_6 = some r → Ax Γ N Tryz.f15 (.q [[some (31, 4), some (3, 1), some (126, 3), some (75, 8), some (129, 2), none], [none]] (D.tup [D.agg [D.fr 31 4 ((r.1.rules).map Rule.c), D.fr 3 1 ((r.1.ends).map ixx), D.fr 126 3 ((r.1.alphas).map Alpha.c), D.fr 75 8 ((r.1.nodes).map Node.c), D.fr 129 2 ((r.1.facts).map Fact.c), D.int .i64 (r.1.tries)], D.bool (r.2)])) [1, 1, 1, 1] ⟨[(2, D.ptr 0 0), (4, D.ptr 1 0)], [Ob.box [D.nil, D.nil, D.nil, D.nil, D.nil, D.int .i64 (0)], Ob.box [D.acc 2, D.acc 3, D.acc 4, D.acc 5, D.acc 6, D.int .i64 (r1_1_5)], Ob.row .uq 31 4 ((q1_2).map Rule.c), Ob.row .uq 3 1 ((q1_3).map ixx), Ob.row .uq 126 3 ((q1_4).map Alpha.c), Ob.row .uq 75 8 ((q1_5).map Node.c), Ob.row .uq 129 2 ((q1_6).map Fact.c)]⟩) (hm1 : (a0_).length ≤ maxLen) : ∀ (rest : List Rule) (i1 : Nat) (u1_1_5 : Int) (w1_2 : List Rule) (w1_3 : List Int) (w1_4 : List Alpha) (w1_5 : List Node) (w1_6 : List Fact), (a0_).drop i1 = rest → d_spec_EmptyNetwork_L1 a0_ k1 rest i1 u1_1_5 w1_2 w1_3 w1_4 w1_5 w1_6 = some r → Ar Γ N Tryz.f15 (.q [[some (31, 4), some (3, 1), some (126, 3), some (75, 8), some (129, 2), none], [none]] (D.tup [D.agg [D.fr 31 4 ((r.1.rules).map Rule.c), D.fr 3 1 ((r.1.ends).map ixx), D.fr 126 3 ((r.1.alphas).map Alpha.c), D.fr 75 8 ((r.1.nodes).map Node.c), D.fr 129 2 ((r.1.facts).map Fact.c), D.int .i64 (r.1.tries)], D.bool (r.2)])) [1, 1, 1, 0, 1, 0] (rest.length + 1) (d_spec_EmptyNetwork_S1 a0_ u1_1_5 ((w1_2).map Rule.c) ((w1_3).map ixx) ((w1_4).map Alpha.c) ((w1_5).map Node.c) ((w1_6).map Fact.c) ((i1 : Int))) := by
  intro rest
  induction rest with
  | nil =>
    intro i1 u1_1_5 w1_2 w1_3 w1_4 w1_5 w1_6 hd1 h
    rw [d_spec_EmptyNetwork_L1] at h
    refine AWr_succ fun N1 hN1 hS1 => ?_
    exact ((pre0.ge Rule.c hd1).a [.hl 0 [2, 4] [0, 1, 2, 3, 4, 5, 6]]).ex hΓ hN1 (hE1 (u1_1_5) (w1_2) (w1_3) (w1_4) (w1_5) (w1_6) h)
  | cons x1_ xs1 ih1 =>
    intro i1 u1_1_5 w1_2 w1_3 w1_4 w1_5 w1_6 hd1 h
    rw [d_spec_EmptyNetwork_L1] at h
    refine AWr_succ fun N1 hN1 hS1 => ?_
    obtain ⟨y182, h183, h⟩ := den_bind h
    obtain ⟨h214, h⟩ := den_ok h
    refine ((((pre0.lt Rule.c hd1).l (map_row Rule.c 4 (dc hd1) rfl)).g (d_spec_PlainConds_good h183)).a [.cn [0, 2, 4, 5, 6, 7, 8] [0, 1, 7, 2, 3, 4, 5, 6]]).lp hΓ (d_spec_EmptyNetwork_L2w hΓ (fun z2_6 r2_1_5 q2_2 q2_3 q2_4 q2_5 q2_6 h => ?_) (of_decide_eq_true h214) (y182) 0 (0) (u1_1_5) (w1_2) (w1_3) (w1_4) (w1_5) (w1_6) rfl h)
    obtain ⟨h213, h⟩ := den_ok h
    exact ((pre0.w (room_ok h213)).a [.cn [0, 2, 4, 5] [0, 1, 2, 8, 4, 5, 6]]).cs hΓ hS1 (d_spec_EmptyNetwork_S1 a0_ r2_1_5 ((q2_2).map Rule.c) (((q2_3).map ixx) ++ ([[D.int .i64 (z2_6)]])) ((q2_4).map Alpha.c) ((q2_5).map Node.c) ((q2_6).map Fact.c) (IntKind.i64.wrap (((i1 : Int)) + (1)))) (by first | (simp only [iS hd1 hm1, mA] <;> rfl) | (simp only [iS hd1 hm1, mA, Fact.c, Pair.c, Cond.c, Action.c, Rule.c, Token.c, Match.c, Alpha.c, Node.c, Network.c, Stamp.c] <;> rfl)) (ih1 (i1 + 1) (r2_1_5) (q2_2) ((q2_3) ++ ([z2_6])) (q2_4) (q2_5) (q2_6) (dn hd1) h)
theorem d_spec_EmptyNetwork_good {a0_ : List Rule} {r : Network × Bool} (h : d_spec_EmptyNetwork a0_ = some r) : Good Tryz.prog 15 [D.sl ((a0_).map Rule.c)] (D.tup [D.agg [D.fr 31 4 ((r.1.rules).map Rule.c), D.fr 3 1 ((r.1.ends).map ixx), D.fr 126 3 ((r.1.alphas).map Alpha.c), D.fr 75 8 ((r.1.nodes).map Node.c), D.fr 129 2 ((r.1.facts).map Fact.c), D.int .i64 (r.1.tries)], D.bool (r.2)]) := by
  refine gd Tryz.func15 [[some (31, 4), some (3, 1), some (126, 3), some (75, 8), some (129, 2), none], [none]] 50 fun hr Γ hΓ => ?_
  rw [d_spec_EmptyNetwork] at h
  obtain ⟨y1, h2, h⟩ := den_bind h
  obtain ⟨h3, h⟩ | ⟨h3, h⟩ := den_if h
  · cases h; exact ((pre0.g (d_spec_AreRules_good h2)).b h3).ret hΓ
  · obtain ⟨y4, h5, h⟩ := den_bind h
    refine ((((pre0.g (d_spec_AreRules_good h2)).b h3).g (d_spec_l5Copies_good h5)).a [.pb 4 1 3 1, .pb 4 2 126 3, .pb 4 4 129 2, .cn [0, 2, 4, 5] [0, 4, 1, 5, 6, 3, 7]]).lps hΓ (d_spec_EmptyNetwork_S1 a0_ 0 ((y4).map Rule.c) (([] : List (List D))) (([] : List (List D))) ([[D.int .i64 (-1), D.int .i64 (0), D.str ([]), D.sl ([]), D.str ([]), D.str ([]), D.int .i64 (-1), D.sl ([[D.sl ([]), D.sl ([])]])]]) (([] : List (List D))) 0) (by first | (simp only [mA] <;> rfl) | (simp only [mA, Fact.c, Pair.c, Cond.c, Action.c, Rule.c, Token.c, Match.c, Alpha.c, Node.c, Network.c, Stamp.c] <;> rfl)) (d_spec_EmptyNetwork_L1w hΓ (fun r1_1_5 q1_2 q1_3 q1_4 q1_5 q1_6 h => ?_) (by have := (Rdb.sl (hr _ (List.mem_of_getElem? (i := 0) rfl))).1; simpa using this) (a0_) 0 (0) (y4) (([] : List Int)) (([] : List Alpha)) ([(⟨-1, (⟨0, (⟨[], []⟩ : Fact), [], []⟩ : Cond), -1, [(⟨[], []⟩ : Token)]⟩ : Node)]) (([] : List Fact)) rfl h)
    cases h; exact pre0.ret hΓ
def d_spec_SharedNodes_L1 (a0_ : List Rule) (y1 : Network × Bool) (k1 : Int → Option Int) : List Rule → Nat → Int → Option Int
  | [], i1, v1_5 => (k1 (v1_5))
  | x1_ :: xs1, i1, v1_5 => (d_spec_SharedNodes_L1 a0_ y1 k1 xs1 (i1 + 1) (IntKind.i64.wrap ((v1_5) + ((((x1_.conds).map Cond.c).length : Int)))))
def d_spec_SharedNodes (a0_ : List Rule) : Option Int := ((d_spec_EmptyNetwork (a0_)).bind fun y1 => (bif !(y1.2) then (some (-1)) else (d_spec_SharedNodes_L1 a0_ y1 (fun (z1_5 : Int) => (some (IntKind.i64.wrap ((z1_5) - (IntKind.i64.wrap (((((y1.1.nodes).map Node.c).length : Int)) - (1))))))) (a0_) 0 (0))))
def d_spec_SharedNodes_S1 (a0_ : List Rule) (y1 : Network × Bool) (v1_5 : Int) (ix_ : Int) : St := ⟨[(0, D.sl ((a0_).map Rule.c)), (3, D.ptr 0 0), (5, D.int .i64 (v1_5)), (6, D.int .i64 (ix_))], [Ob.box [D.acc 1, D.acc 2, D.acc 3, D.acc 4, D.acc 5, D.int .i64 (y1.1.tries)], Ob.row .uq 31 4 ((y1.1.rules).map Rule.c), Ob.row .uq 3 1 ((y1.1.ends).map ixx), Ob.row .uq 126 3 ((y1.1.alphas).map Alpha.c), Ob.row .uq 75 8 ((y1.1.nodes).map Node.c), Ob.row .uq 129 2 ((y1.1.facts).map Fact.c)]⟩
theorem d_spec_SharedNodes_L1w (hΓ : Γ.nt = 34) {a0_ : List Rule} {y1 : Network × Bool} {r : Int} {k1 : Int → Option Int} (hE1 : ∀ (z1_5 : Int), k1 z1_5 = some r → Ax Γ N Tryz.f12 (.q [[none]] (D.int .i64 (r))) [1, 1, 1, 1, 1] ⟨[(3, D.ptr 0 0), (5, D.int .i64 (z1_5))], [Ob.box [D.acc 1, D.acc 2, D.acc 3, D.acc 4, D.acc 5, D.int .i64 (y1.1.tries)], Ob.row .uq 31 4 ((y1.1.rules).map Rule.c), Ob.row .uq 3 1 ((y1.1.ends).map ixx), Ob.row .uq 126 3 ((y1.1.alphas).map Alpha.c), Ob.row .uq 75 8 ((y1.1.nodes).map Node.c), Ob.row .uq 129 2 ((y1.1.facts).map Fact.c)]⟩) (hm1 : (a0_).length ≤ maxLen) : ∀ (rest : List Rule) (i1 : Nat) (v1_5 : Int), (a0_).drop i1 = rest → d_spec_SharedNodes_L1 a0_ y1 k1 rest i1 v1_5 = some r → Ar Γ N Tryz.f12 (.q [[none]] (D.int .i64 (r))) [1, 1, 1, 1, 0, 1, 0] (rest.length + 1) (d_spec_SharedNodes_S1 a0_ y1 v1_5 ((i1 : Int))) := by
  intro rest
  induction rest with
  | nil =>
    intro i1 v1_5 hd1 h
    rw [d_spec_SharedNodes_L1] at h
    refine AWr_succ fun N1 hN1 hS1 => ?_
    exact ((pre0.ge Rule.c hd1).a [.hl 0 [3, 5] [0, 1, 2, 3, 4, 5]]).ex hΓ hN1 (hE1 (v1_5) h)
  | cons x1_ xs1 ih1 =>
    intro i1 v1_5 hd1 h
    rw [d_spec_SharedNodes_L1] at h
    refine AWr_succ fun N1 hN1 hS1 => ?_
    exact (((pre0.lt Rule.c hd1).l (map_row Rule.c 4 (dc hd1) rfl)).a [.cn [0, 3, 5, 6] [0, 1, 2, 3, 4, 5]]).ct hΓ hS1 (iS hd1 hm1) (ih1 (i1 + 1) (IntKind.i64.wrap ((v1_5) + ((((x1_.conds).map Cond.c).length : Int)))) (dn hd1) h)
theorem d_spec_SharedNodes_good {a0_ : List Rule} {r : Int} (h : d_spec_SharedNodes a0_ = some r) : Good Tryz.prog 12 [D.sl ((a0_).map Rule.c)] (D.int .i64 (r)) := by
  refine gd Tryz.func12 [[none]] 34 fun hr Γ hΓ => ?_
  rw [d_spec_SharedNodes] at h
  obtain ⟨y1, h2, h⟩ := den_bind h
  obtain ⟨h3, h⟩ | ⟨h3, h⟩ := den_if h
  · cases h; exact ((pre0.g (d_spec_EmptyNetwork_good h2)).b h3).ret hΓ
  · refine (((pre0.g (d_spec_EmptyNetwork_good h2)).b h3).a [.cn [0, 3, 5, 6] [5, 0, 1, 2, 3, 4]]).lp hΓ (d_spec_SharedNodes_L1w hΓ (fun z1_5 h => ?_) (by have := (Rdb.sl (hr _ (List.mem_of_getElem? (i := 0) rfl))).1; simpa using this) (a0_) 0 (0) rfl h)
    cases h; exact pre0.ret hΓ
end Go.Cx
