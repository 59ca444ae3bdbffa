/- What functions of the program compute, and the walks that show it. No condition. -/
import Derived.Test.YtmifcpepeplijaaGreatDoorPFnAllFoundNFn1
namespace Go.Cx
open Go.RowKit Go.Proofs
set_option linter.unusedVariables false
set_option linter.unusedSimpArgs false
set_option maxRecDepth 100000
variable {Γ : Ctx} {N : Nat → St → Prop}
def d_impl_occursElsewhere_L1 (a0_ : Rule) (a1_ : Int) (a2_ : Bytes) (k1 : Option Bool) : List Cond → Nat → Option Bool
  | [], i1 => (k1 )
  | x1_ :: xs1, i1 => (bif ((i1 : Int) : Int) != (a1_) then ((d_impl_CondVars (x1_)).bind fun y34 => ((d_impl_hasText (y34) (a2_)).bind fun y36 => (bif y36 then (some (true)) else (d_impl_occursElsewhere_L1 a0_ a1_ a2_ k1 xs1 (i1 + 1) )))) else (d_impl_occursElsewhere_L1 a0_ a1_ a2_ k1 xs1 (i1 + 1) ))
def d_impl_occursElsewhere_L2 (a0_ : Rule) (a2_ : Bytes) (k2 : Option Bool) : List Action → Nat → Option Bool
  | [], i2 => (k2 )
  | x2_ :: xs2, i2 => ((d_impl_hasText (x2_.pat.args) (a2_)).bind fun y59 => (bif y59 then (some (true)) else (d_impl_occursElsewhere_L2 a0_ a2_ k2 xs2 (i2 + 1) )))
def d_impl_occursElsewhere (a0_ : Rule) (a1_ : Int) (a2_ : Bytes) : Option Bool := (d_impl_occursElsewhere_L1 a0_ a1_ a2_ (d_impl_occursElsewhere_L2 a0_ a2_ (some (false)) (a0_.acts) 0 ) (a0_.conds) 0 )
def d_impl_occursElsewhere_S1 (a0_ : Rule) (a1_ : Int) (a2_ : Bytes) (ix_ : Int) : St := ⟨[(1, D.int .i64 (a1_)), (2, D.str (a2_)), (3, D.ptr 0 0), (12, D.sl ((a0_.conds).map Cond.c)), (13, D.int .i64 ((((a0_.conds).map Cond.c).length : Int))), (14, D.int .i64 (ix_))], [Ob.box (Rule.c a0_)]⟩
theorem d_impl_occursElsewhere_L1w (hΓ : Γ.nt = 42) {a0_ : Rule} {a1_ : Int} {a2_ : Bytes} {r : Bool} {k1 : Option Bool} (hE1 : k1 = some r → Ax Γ N Tryz.f115 (.q [[none]] (D.bool (r))) [1, 1] ⟨[(2, D.str (a2_)), (3, D.ptr 0 0)], [Ob.box (Rule.c a0_)]⟩) (hm1 : (a0_.conds).length ≤ maxLen) : ∀ (rest : List Cond) (i1 : Nat) , (a0_.conds).drop i1 = rest → d_impl_occursElsewhere_L1 a0_ a1_ a2_ k1 rest i1  = some r → Ar Γ N Tryz.f115 (.q [[none]] (D.bool (r))) [1, 0, 1, 0] (rest.length + 1) (d_impl_occursElsewhere_S1 a0_ a1_ a2_ ((i1 : Int))) := by
  intro rest
  induction rest with
  | nil =>
    intro i1  hd1 h
    rw [d_impl_occursElsewhere_L1] at h
    refine AWr_succ fun N1 hN1 hS1 => ?_
    exact ((pre0.ge Cond.c hd1).a [.hl 0 [2, 3] [0]]).ex hΓ hN1 (hE1 h)
  | cons x1_ xs1 ih1 =>
    intro i1  hd1 h
    rw [d_impl_occursElsewhere_L1] at h
    refine AWr_succ fun N1 hN1 hS1 => ?_
    have o4_ := ((pre0.lt Cond.c hd1).l (map_row Cond.c 5 (dc hd1) rfl))
    obtain ⟨h33, h⟩ | ⟨h33, h⟩ := den_if h
    · obtain ⟨y34, h35, h⟩ := den_bind h
      obtain ⟨y36, h37, h⟩ := den_bind h
      have o5_ := (((((o4_.r 2 h33).g (d_impl_CondVars_good h35)).r 2 h33).g (d_impl_hasText_good h37)).b h33)
      obtain ⟨h38, h⟩ | ⟨h38, h⟩ := den_if h
      · have h := den_some h; subst h; exact (o5_.b h38).ret hΓ
      · exact ((o5_.b h38).a [.cn [1, 2, 3, 12, 13, 14] [0]]).ct hΓ hS1 (iS hd1 hm1) (ih1 (i1 + 1)  (dn hd1) h)
    · exact (((o4_.r 5 h33).F 1).a [.cn [1, 2, 3, 12, 13, 14] [0]]).ct hΓ hS1 (iS hd1 hm1) (ih1 (i1 + 1)  (dn hd1) h)
def d_impl_occursElsewhere_S2 (a0_ : Rule) (a2_ : Bytes) (ix_ : Int) : St := ⟨[(2, D.str (a2_)), (30, D.sl ((a0_.acts).map Action.c)), (31, D.int .i64 ((((a0_.acts).map Action.c).length : Int))), (32, D.int .i64 (ix_))], []⟩
theorem d_impl_occursElsewhere_L2w (hΓ : Γ.nt = 42) {a0_ : Rule} {a2_ : Bytes} {r : Bool} {k2 : Option Bool} (hE2 : k2 = some r → Ax Γ N Tryz.f115 (.q [[none]] (D.bool (r))) [1, 1, 1] ⟨[], []⟩) (hm2 : (a0_.acts).length ≤ maxLen) : ∀ (rest : List Action) (i2 : Nat) , (a0_.acts).drop i2 = rest → d_impl_occursElsewhere_L2 a0_ a2_ k2 rest i2  = some r → Ar Γ N Tryz.f115 (.q [[none]] (D.bool (r))) [1, 1, 0, 1, 0] (rest.length + 1) (d_impl_occursElsewhere_S2 a0_ a2_ ((i2 : Int))) := by
  intro rest
  induction rest with
  | nil =>
    intro i2  hd2 h
    rw [d_impl_occursElsewhere_L2] at h
    refine AWr_succ fun N2 hN2 hS2 => ?_
    exact ((pre0.ge Action.c hd2).a [.hl 0 [] []]).ex hΓ hN2 (hE2 h)
  | cons x2_ xs2 ih2 =>
    intro i2  hd2 h
    rw [d_impl_occursElsewhere_L2] at h
    refine AWr_succ fun N2 hN2 hS2 => ?_
    obtain ⟨y59, h60, h⟩ := den_bind h
    have o6_ := (((pre0.lt Action.c hd2).l (map_row Action.c 3 (dc hd2) rfl)).g (d_impl_hasText_good h60))
    obtain ⟨h61, h⟩ | ⟨h61, h⟩ := den_if h
    · have h := den_some h; subst h; exact (o6_.b h61).ret hΓ
    · exact ((o6_.b h61).a [.cn [2, 30, 31, 32] []]).ct hΓ hS2 (iS hd2 hm2) (ih2 (i2 + 1)  (dn hd2) h)
theorem d_impl_occursElsewhere_good {a0_ : Rule} {a1_ : Int} {a2_ : Bytes} {r : Bool} (h : d_impl_occursElsewhere a0_ a1_ a2_ = some r) : Good Tryz.prog 115 [D.agg (Rule.c a0_), D.int .i64 (a1_), D.str (a2_)] (D.bool (r)) := by
  refine gd Tryz.func115 [[none]] 42 fun hr Γ hΓ => ?_
  rw [d_impl_occursElsewhere] at h
  refine (pre0.a [.cn [1, 2, 3, 12, 13, 14] [0]]).lp hΓ (d_impl_occursElsewhere_L1w hΓ (fun h => ?_) (by have := (Rdb.sl (Rdb.agg (hr _ (List.mem_of_getElem? (i := 0) rfl)) (.sl ((a0_.conds).map Cond.c)) (by simp))).1; simpa using this) (a0_.conds) 0  rfl h)
  refine (pre0.a [.cn [2, 30, 31, 32] []]).lp hΓ (d_impl_occursElsewhere_L2w hΓ (fun h => ?_) (by have := (Rdb.sl (Rdb.agg (hr _ (List.mem_of_getElem? (i := 0) rfl)) (.sl ((a0_.acts).map Action.c)) (by simp))).1; simpa using this) (a0_.acts) 0  rfl h)
  have h := den_some h; subst h; exact pre0.ret hΓ
def d_impl_condFits_L1 (a0_ : Rule) (a1_ : Int) (x1 : Cond) (y3 : List Bytes) (y5 : List Bytes) (k1 : Option Bool) : List Bytes → Nat → Option Bool
  | [], i1 => (k1 )
  | x1_ :: xs1, i1 => (bif (x1.kind : Int) == (1) then (d_impl_condFits_L1 a0_ a1_ x1 y3 y5 k1 xs1 (i1 + 1) ) else ((d_impl_hasText (y3) (x1_)).bind fun y49 => (bif y49 then (d_impl_condFits_L1 a0_ a1_ x1 y3 y5 k1 xs1 (i1 + 1) ) else (bif (x1.kind : Int) != (2) then (some (false)) else ((d_impl_occursElsewhere (a0_) (a1_) (x1_)).bind fun y53 => (bif y53 then (some (false)) else (d_impl_condFits_L1 a0_ a1_ x1 y3 y5 k1 xs1 (i1 + 1) )))))))
def d_impl_condFits (a0_ : Rule) (a1_ : Int) : Option Bool := ((atI (a0_.conds) (a1_)).bind fun x1 => ((d_impl_BoundVars (a0_) (a1_)).bind fun y3 => ((d_impl_CondVars (x1)).bind fun y5 => (bif decide ((y5).length ≤ maxLen) then (d_impl_condFits_L1 a0_ a1_ x1 y3 y5 (some (true)) (y5) 0 ) else none))))
def d_impl_condFits_S1 (a0_ : Rule) (a1_ : Int) (x1 : Cond) (y3 : List Bytes) (y5 : List Bytes) (ix_ : Int) : St := ⟨[(1, D.int .i64 (a1_)), (2, D.ptr 0 0), (5, D.ptr 1 0), (6, D.acc 2), (18, D.acc 3), (19, D.int .i64 ((((y5).map tx).length : Int))), (20, D.int .i64 (ix_))], [Ob.box (Rule.c a0_), Ob.box [D.int .i64 (x1.kind), D.str (x1.pat.rel), D.sl ((x1.pat.args).map tx), D.str (x1.left), D.str (x1.right)], Ob.row .uq 9 1 ((y3).map tx), Ob.row .uq 9 1 ((y5).map tx)]⟩
theorem d_impl_condFits_L1w (hΓ : Γ.nt = 42) {a0_ : Rule} {a1_ : Int} {x1 : Cond} {y3 : List Bytes} {y5 : List Bytes} {r : Bool} {k1 : Option Bool} (hE1 : k1 = some r → Ax Γ N Tryz.f59 (.q [[none]] (D.bool (r))) [1, 1, 1, 1] ⟨[], []⟩) (hm1 : (y5).length ≤ maxLen) : ∀ (rest : List Bytes) (i1 : Nat) , (y5).drop i1 = rest → d_impl_condFits_L1 a0_ a1_ x1 y3 y5 k1 rest i1  = some r → Ar Γ N Tryz.f59 (.q [[none]] (D.bool (r))) [1, 1, 1, 0, 1, 0] (rest.length + 1) (d_impl_condFits_S1 a0_ a1_ x1 y3 y5 ((i1 : Int))) := by
  intro rest
  induction rest with
  | nil =>
    intro i1  hd1 h
    rw [d_impl_condFits_L1] at h
    refine AWr_succ fun N1 hN1 hS1 => ?_
    exact ((pre0.ge tx hd1).a [.hl 0 [] []]).ex hΓ hN1 (hE1 h)
  | cons x1_ xs1 ih1 =>
    intro i1  hd1 h
    rw [d_impl_condFits_L1] at h
    refine AWr_succ fun N1 hN1 hS1 => ?_
    have o4_ := (((pre0.lt tx hd1).i (own_ixl tx 1 (dc hd1))).o 1 1 .uq (map_get tx (dc hd1)))
    obtain ⟨h48, h⟩ | ⟨h48, h⟩ := den_if h
    · exact (((o4_.r 4 h48).T 1).a [.cn [1, 2, 5, 6, 18, 19, 20] [0, 1, 2, 3]]).ct hΓ hS1 (iS hd1 hm1) (ih1 (i1 + 1)  (dn hd1) h)
    · obtain ⟨y49, h50, h⟩ := den_bind h
      have o5_ := (((o4_.r 3 h48).g (d_impl_hasText_good h50)).b h48)
      obtain ⟨h51, h⟩ | ⟨h51, h⟩ := den_if h
      · exact ((o5_.b h51).a [.cn [1, 2, 5, 6, 18, 19, 20] [0, 1, 2, 3]]).ct hΓ hS1 (iS hd1 hm1) (ih1 (i1 + 1)  (dn hd1) h)
      · obtain ⟨h52, h⟩ | ⟨h52, h⟩ := den_if h
        · have h := den_some h; subst h; exact (((o5_.b h51).r 5 h52).T 1).ret hΓ
        · obtain ⟨y53, h54, h⟩ := den_bind h
          have o6_ := ((((o5_.b h51).r 4 h52).g (d_impl_occursElsewhere_good h54)).b h52)
          obtain ⟨h55, h⟩ | ⟨h55, h⟩ := den_if h
          · have h := den_some h; subst h; exact (o6_.b h55).ret hΓ
          · exact ((o6_.b h55).a [.cn [1, 2, 5, 6, 18, 19, 20] [0, 1, 2, 3]]).ct hΓ hS1 (iS hd1 hm1) (ih1 (i1 + 1)  (dn hd1) h)
theorem d_impl_condFits_good {a0_ : Rule} {a1_ : Int} {r : Bool} (h : d_impl_condFits a0_ a1_ = some r) : Good Tryz.prog 59 [D.agg (Rule.c a0_), D.int .i64 (a1_)] (D.bool (r)) := by
  refine gd Tryz.func59 [[none]] 42 fun hr Γ hΓ => ?_
  rw [d_impl_condFits] at h
  obtain ⟨x1, h2, h⟩ := den_bind h
  obtain ⟨y3, h4, h⟩ := den_bind h
  obtain ⟨y5, h6, h⟩ := den_bind h
  obtain ⟨h56, h⟩ := den_ok h
  refine ((((pre0.l (at_row Cond.c 5 h2 rfl)).g (d_impl_BoundVars_good h4)).g (d_impl_CondVars_good h6)).a [.cn [1, 2, 5, 6, 18, 19, 20] [0, 1, 2, 3]]).lp hΓ (d_impl_condFits_L1w hΓ (fun h => ?_) (of_decide_eq_true h56) (y5) 0  rfl h)
  have h := den_some h; subst h; exact pre0.ret hΓ
def d_impl_IsAction (a0_ : Action) : Option Bool := (bif (a0_.kind : Int) == (1) then ((d_impl_IsPattern (a0_.pat)).bind fun y2 => (some (y2))) else (bif (a0_.kind : Int) == (2) then ((d_impl_IsPattern (a0_.pat)).bind fun y5 => (some (y5))) else (bif (a0_.kind : Int) == (3) then ((d_impl_zeroPattern (a0_.pat)).bind fun y8 => (some (y8))) else (some (false)))))
theorem d_impl_IsAction_good {a0_ : Action} {r : Bool} (h : d_impl_IsAction a0_ = some r) : Good Tryz.prog 61 [D.agg (Action.c a0_)] (D.bool (r)) := by
  refine gd Tryz.func61 [[none]] 16 fun hr Γ hΓ => ?_
  rw [d_impl_IsAction] at h
  obtain ⟨h1, h⟩ | ⟨h1, h⟩ := den_if h
  · obtain ⟨y2, h3, h⟩ := den_bind h
    have h := den_some h; subst h; exact ((pre0.r 2 h1).g (d_impl_IsPattern_good h3)).ret hΓ
  · obtain ⟨h4, h⟩ | ⟨h4, h⟩ := den_if h
    · obtain ⟨y5, h6, h⟩ := den_bind h
      have h := den_some h; subst h; exact (((pre0.b h1).b h4).g (d_impl_IsPattern_good h6)).ret hΓ
    · have o1_ := ((pre0.b h1).b h4)
      obtain ⟨h7, h⟩ | ⟨h7, h⟩ := den_if h
      · obtain ⟨y8, h9, h⟩ := den_bind h
        have h := den_some h; subst h; exact ((o1_.b h7).g (d_impl_zeroPattern_good h9)).ret hΓ
      · have h := den_some h; subst h; exact (o1_.b h7).ret hΓ
def d_impl_condVarsOf_L1 (a0_ : List Cond) (k1 : List Bytes → Option (List Bytes)) : List Cond → Nat → List Bytes → Option (List Bytes)
  | [], i1, w1_0 => (k1 (w1_0))
  | x1_ :: xs1, i1, w1_0 => ((d_impl_CondVars (x1_)).bind fun y27 => (bif room (((w1_0).map tx).length + ((y27).map tx).length) 16 then (d_impl_condVarsOf_L1 a0_ k1 xs1 (i1 + 1) ((w1_0) ++ (y27))) else none))
def d_impl_condVarsOf (a0_ : List Cond) : Option (List Bytes) := (d_impl_condVarsOf_L1 a0_ (fun (q1_0 : List Bytes) => (some (q1_0))) (a0_) 0 (([] : List Bytes)))
def d_impl_condVarsOf_S1 (a0_ : List Cond) (W0 : List (List D)) (ix_ : Int) : St := ⟨[(3, D.acc 0), (6, D.sl ((a0_).map Cond.c)), (7, D.int .i64 ((((a0_).map Cond.c).length : Int))), (8, D.int .i64 (ix_))], [Ob.row .uq 9 1 (W0)]⟩
theorem d_impl_condVarsOf_L1w (hΓ : Γ.nt = 18) {a0_ : List Cond} {r : List Bytes} {k1 : List Bytes → Option (List Bytes)} (hE1 : ∀ (q1_0 : List Bytes), k1 q1_0 = some r → Ax Γ N Tryz.f65 (.q [[some (9, 1)]] (D.fr 9 1 ((r).map tx))) [1, 1, 1] ⟨[(3, D.acc 0)], [Ob.row .uq 9 1 ((q1_0).map tx)]⟩) (hm1 : (a0_).length ≤ maxLen) : ∀ (rest : List Cond) (i1 : Nat) (w1_0 : List Bytes), (a0_).drop i1 = rest → d_impl_condVarsOf_L1 a0_ k1 rest i1 w1_0 = some r → Ar Γ N Tryz.f65 (.q [[some (9, 1)]] (D.fr 9 1 ((r).map tx))) [1, 1, 0, 1, 0] (rest.length + 1) (d_impl_condVarsOf_S1 a0_ ((w1_0).map tx) ((i1 : Int))) := by
  intro rest
  induction rest with
  | nil =>
    intro i1 w1_0 hd1 h
    rw [d_impl_condVarsOf_L1] at h
    refine AWr_succ fun N1 hN1 hS1 => ?_
    exact ((pre0.ge Cond.c hd1).a [.hl 0 [3] [0]]).ex hΓ hN1 (hE1 (w1_0) h)
  | cons x1_ xs1 ih1 =>
    intro i1 w1_0 hd1 h
    rw [d_impl_condVarsOf_L1] at h
    refine AWr_succ fun N1 hN1 hS1 => ?_
    obtain ⟨y27, h28, h⟩ := den_bind h
    obtain ⟨h29, h⟩ := den_ok h
    exact (((((pre0.lt Cond.c hd1).l (map_row Cond.c 5 (dc hd1) rfl)).g (d_impl_CondVars_good h28)).w (room_ok h29)).a [.cn [3, 6, 7, 8] [3]]).cs hΓ hS1 (d_impl_condVarsOf_S1 a0_ (((w1_0).map tx) ++ ((y27).map tx)) (IntKind.i64.wrap (((i1 : Int)) + (1)))) (by first | (simp only [iS hd1 hm1, mA] <;> rfl) | (simp only [iS hd1 hm1, mA, Fact.c, Pair.c, Cond.c, Action.c, Rule.c, Token.c, Match.c, Alpha.c, Node.c, Network.c, Stamp.c] <;> rfl)) (ih1 (i1 + 1) ((w1_0) ++ (y27)) (dn hd1) h)
theorem d_impl_condVarsOf_good {a0_ : List Cond} {r : List Bytes} (h : d_impl_condVarsOf a0_ = some r) : Good Tryz.prog 65 [D.sl ((a0_).map Cond.c)] (D.fr 9 1 ((r).map tx)) := by
  refine gd Tryz.func65 [[some (9, 1)]] 18 fun hr Γ hΓ => ?_
  rw [d_impl_condVarsOf] at h
  refine (pre0.a [.pro 3, .cn [3, 6, 7, 8] [0]]).lp hΓ (d_impl_condVarsOf_L1w hΓ (fun q1_0 h => ?_) (by have := (Rdb.sl (hr _ (List.mem_of_getElem? (i := 0) rfl))).1; simpa using this) (a0_) 0 (([] : List Bytes)) rfl h)
  have h := den_some h; subst h; exact pre0.ret hΓ
def d_impl_IsRule_L1 (a0_ : Rule) (k1 : Option Bool) : List Cond → Nat → Option Bool
  | [], i1 => (k1 )
  | x1_ :: xs1, i1 => ((d_impl_IsCond (x1_)).bind fun y62 => (bif !(y62) then (some (false)) else (bif ((i1 : Int) : Int) == (0) then (bif (x1_.kind : Int) != (1) then (some (false)) else ((d_impl_condFits (a0_) ((i1 : Int))).bind fun y67 => (bif !(y67) then (some (false)) else (d_impl_IsRule_L1 a0_ k1 xs1 (i1 + 1) )))) else ((d_impl_condFits (a0_) ((i1 : Int))).bind fun y70 => (bif !(y70) then (some (false)) else (d_impl_IsRule_L1 a0_ k1 xs1 (i1 + 1) ))))))
def d_impl_IsRule_L3 (a0_ : Rule) (y73 : List Bytes) (i2 : Nat) (y206 : List Bytes) (k3 : Option Bool) : List Bytes → Nat → Option Bool
  | [], i3 => (k3 )
  | x3_ :: xs3, i3 => ((d_impl_hasText (y73) (x3_)).bind fun y229 => (bif !(y229) then (some (false)) else (d_impl_IsRule_L3 a0_ y73 i2 y206 k3 xs3 (i3 + 1) )))
def d_impl_IsRule_L2 (a0_ : Rule) (y73 : List Bytes) (k2 : Option Bool) : List Action → Nat → Option Bool
  | [], i2 => (k2 )
  | x2_ :: xs2, i2 => ((d_impl_IsAction (x2_)).bind fun y203 => (bif !(y203) then (some (false)) else ((d_impl_varsAmong (x2_.pat.args)).bind fun y206 => (bif decide ((y206).length ≤ maxLen) then (d_impl_IsRule_L3 a0_ y73 i2 y206 (d_impl_IsRule_L2 a0_ y73 k2 xs2 (i2 + 1) ) (y206) 0 ) else none))))
def d_impl_IsRule (a0_ : Rule) : Option Bool := ((d_impl_IsName (a0_.name)).bind fun y1 => (bif !(y1) then (some (false)) else (bif decide ((a0_.prio : Int) < (0)) then (some (false)) else (bif decide ((a0_.prio : Int) > (9)) then (some (false)) else (bif decide (((((a0_.conds).map Cond.c).length : Int) : Int) < (1)) then (some (false)) else (bif decide (((((a0_.conds).map Cond.c).length : Int) : Int) > (4)) then (some (false)) else (bif decide (((((a0_.acts).map Action.c).length : Int) : Int) < (1)) then (some (false)) else (bif decide (((((a0_.acts).map Action.c).length : Int) : Int) > (2)) then (some (false)) else (d_impl_IsRule_L1 a0_ ((d_impl_BoundVars (a0_) ((((a0_.conds).map Cond.c).length : Int))).bind fun y73 => (d_impl_IsRule_L2 a0_ y73 ((d_impl_condVarsOf (a0_.conds)).bind fun y233 => ((d_impl_SortedTexts (y233)).bind fun y235 => (some (decide (((((y235).map tx).length : Int) : Int) ≤ (6)))))) (a0_.acts) 0 )) (a0_.conds) 0 )))))))))
def d_impl_IsRule_S1 (a0_ : Rule) (ix_ : Int) : St := ⟨[(1, D.ptr 0 0), (49, D.sl ((a0_.conds).map Cond.c)), (50, D.int .i64 ((((a0_.conds).map Cond.c).length : Int))), (51, D.int .i64 (ix_))], [Ob.box (Rule.c a0_)]⟩
theorem d_impl_IsRule_L1w (hΓ : Γ.nt = 111) {a0_ : Rule} {r : Bool} {k1 : Option Bool} (hE1 : k1 = some r → Ax Γ N Tryz.f12 (.q [[none]] (D.bool (r))) [1, 1, 1] ⟨[(1, D.ptr 0 0)], [Ob.box (Rule.c a0_)]⟩) (hm1 : (a0_.conds).length ≤ maxLen) : ∀ (rest : List Cond) (i1 : Nat) , (a0_.conds).drop i1 = rest → d_impl_IsRule_L1 a0_ k1 rest i1  = some r → Ar Γ N Tryz.f12 (.q [[none]] (D.bool (r))) [1, 1, 0, 1, 0] (rest.length + 1) (d_impl_IsRule_S1 a0_ ((i1 : Int))) := by
  intro rest
  induction rest with
  | nil =>
    intro i1  hd1 h
    rw [d_impl_IsRule_L1] at h
    refine AWr_succ fun N1 hN1 hS1 => ?_
    exact ((pre0.ge Cond.c hd1).a [.hl 0 [1] [0]]).ex hΓ hN1 (hE1 h)
  | cons x1_ xs1 ih1 =>
    intro i1  hd1 h
    rw [d_impl_IsRule_L1] at h
    refine AWr_succ fun N1 hN1 hS1 => ?_
    obtain ⟨y62, h63, h⟩ := den_bind h
    have o12_ := (((pre0.lt Cond.c hd1).l (map_row Cond.c 5 (dc hd1) rfl)).g (d_impl_IsCond_good h63))
    obtain ⟨h64, h⟩ | ⟨h64, h⟩ := den_if h
    · have h := den_some h; subst h; exact ((((o12_.r 3 h64).a [bF, bF, bF]).r 2 h64).T 6).ret hΓ
    · have o13_ := (o12_.r 3 h64)
      obtain ⟨h65, h⟩ | ⟨h65, h⟩ := den_if h
      · have o14_ := ((((o13_.r 3 h65).b h64).b h65).b h64)
        obtain ⟨h66, h⟩ | ⟨h66, h⟩ := den_if h
        · have h := den_some h; subst h; exact ((o14_.r 5 h66).T 1).ret hΓ
        · obtain ⟨y67, h68, h⟩ := den_bind h
          have o15_ := (((o14_.r 3 h66).g (d_impl_condFits_good h68)).r 2 h66)
          obtain ⟨h69, h⟩ | ⟨h69, h⟩ := den_if h
          · have h := den_some h; subst h; exact (o15_.b h69).ret hΓ
          · exact ((o15_.b h69).a [.cn [1, 49, 50, 51] [0]]).ct hΓ hS1 (iS hd1 hm1) (ih1 (i1 + 1)  (dn hd1) h)
      · obtain ⟨y70, h71, h⟩ := den_bind h
        have o16_ := (((((((o13_.r 3 h65).b h64).b h65).b h64).F 3).g (d_impl_condFits_good h71)).F 2)
        obtain ⟨h72, h⟩ | ⟨h72, h⟩ := den_if h
        · have h := den_some h; subst h; exact (o16_.b h72).ret hΓ
        · exact ((o16_.b h72).a [.cn [1, 49, 50, 51] [0]]).ct hΓ hS1 (iS hd1 hm1) (ih1 (i1 + 1)  (dn hd1) h)
def d_impl_IsRule_S2 (a0_ : Rule) (y73 : List Bytes) (ix_ : Int) : St := ⟨[(1, D.ptr 0 0), (5, D.acc 1), (81, D.sl ((a0_.acts).map Action.c)), (82, D.int .i64 ((((a0_.acts).map Action.c).length : Int))), (83, D.int .i64 (ix_))], [Ob.box (Rule.c a0_), Ob.row .uq 9 1 ((y73).map tx)]⟩
def d_impl_IsRule_S3 (a0_ : Rule) (y73 : List Bytes) (i2 : Nat) (y206 : List Bytes) (ix_ : Int) : St := ⟨[(1, D.ptr 0 0), (5, D.acc 1), (81, D.sl ((a0_.acts).map Action.c)), (82, D.int .i64 ((((a0_.acts).map Action.c).length : Int))), (83, D.int .i64 ((i2 : Int))), (93, D.acc 2), (94, D.int .i64 ((((y206).map tx).length : Int))), (95, D.int .i64 (ix_))], [Ob.box (Rule.c a0_), Ob.row .uq 9 1 ((y73).map tx), Ob.row .uq 9 1 ((y206).map tx)]⟩
theorem d_impl_IsRule_L3w (hΓ : Γ.nt = 111) {a0_ : Rule} {y73 : List Bytes} {i2 : Nat} {y206 : List Bytes} {r : Bool} {k3 : Option Bool} (hE3 : k3 = some r → Ax Γ N Tryz.f12 (.q [[none]] (D.bool (r))) [1, 1, 1, 1, 0, 1, 0, 0, 1, 1, 1] ⟨[(1, D.ptr 0 0), (5, D.acc 1), (81, D.sl ((a0_.acts).map Action.c)), (82, D.int .i64 ((((a0_.acts).map Action.c).length : Int))), (83, D.int .i64 ((i2 : Int)))], [Ob.box (Rule.c a0_), Ob.row .uq 9 1 ((y73).map tx)]⟩) (hm3 : (y206).length ≤ maxLen) : ∀ (rest : List Bytes) (i3 : Nat) , (y206).drop i3 = rest → d_impl_IsRule_L3 a0_ y73 i2 y206 k3 rest i3  = some r → Ar Γ N Tryz.f12 (.q [[none]] (D.bool (r))) [1, 1, 1, 1, 0, 1, 0, 0, 1, 1, 0, 0, 1, 1, 1, 0] (rest.length + 1) (d_impl_IsRule_S3 a0_ y73 i2 y206 ((i3 : Int))) := by
  intro rest
  induction rest with
  | nil =>
    intro i3  hd3 h
    rw [d_impl_IsRule_L3] at h
    refine AWr_succ fun N3 hN3 hS3 => ?_
    exact ((pre0.ge tx hd3).a [.hl 3 [1, 5, 81, 82, 83] [0, 1]]).ex hΓ hN3 (hE3 h)
  | cons x3_ xs3 ih3 =>
    intro i3  hd3 h
    rw [d_impl_IsRule_L3] at h
    refine AWr_succ fun N3 hN3 hS3 => ?_
    obtain ⟨y229, h230, h⟩ := den_bind h
    have o21_ := ((((pre0.lt tx hd3).i (own_ixl tx 1 (dc hd3))).o 1 1 .uq (map_get tx (dc hd3))).g (d_impl_hasText_good h230))
    obtain ⟨h231, h⟩ | ⟨h231, h⟩ := den_if h
    · have h := den_some h; subst h; exact (o21_.b h231).ret hΓ
    · exact ((o21_.b h231).a [.cn [1, 5, 81, 82, 83, 93, 94, 95] [0, 1, 2]]).ct hΓ hS3 (iS hd3 hm3) (ih3 (i3 + 1)  (dn hd3) h)
theorem d_impl_IsRule_L2w (hΓ : Γ.nt = 111) {a0_ : Rule} {y73 : List Bytes} {r : Bool} {k2 : Option Bool} (hE2 : k2 = some r → Ax Γ N Tryz.f12 (.q [[none]] (D.bool (r))) [1, 1, 1, 1, 1] ⟨[(1, D.ptr 0 0)], [Ob.box (Rule.c a0_)]⟩) (hm2 : (a0_.acts).length ≤ maxLen) : ∀ (rest : List Action) (i2 : Nat) , (a0_.acts).drop i2 = rest → d_impl_IsRule_L2 a0_ y73 k2 rest i2  = some r → Ar Γ N Tryz.f12 (.q [[none]] (D.bool (r))) [1, 1, 1, 1, 0, 1, 0] (rest.length + 1) (d_impl_IsRule_S2 a0_ y73 ((i2 : Int))) := by
  intro rest
  induction rest with
  | nil =>
    intro i2  hd2 h
    rw [d_impl_IsRule_L2] at h
    refine AWr_succ fun N2 hN2 hS2 => ?_
    exact ((pre0.ge Action.c hd2).a [.hl 0 [1] [0]]).ex hΓ hN2 (hE2 h)
  | cons x2_ xs2 ih2 =>
    intro i2  hd2 h
    rw [d_impl_IsRule_L2] at h
    refine AWr_succ fun N2 hN2 hS2 => ?_
    obtain ⟨y203, h204, h⟩ := den_bind h
    have o22_ := (((pre0.lt Action.c hd2).l (map_row Action.c 3 (dc hd2) rfl)).g (d_impl_IsAction_good h204))
    obtain ⟨h205, h⟩ | ⟨h205, h⟩ := den_if h
    · have h := den_some h; subst h; exact (o22_.b h205).ret hΓ
    · obtain ⟨y206, h207, h⟩ := den_bind h
      obtain ⟨h232, h⟩ := den_ok h
      refine (((o22_.b h205).g (d_impl_varsAmong_good h207)).a [.cn [1, 5, 81, 82, 83, 93, 94, 95] [0, 1, 3]]).lp hΓ (d_impl_IsRule_L3w hΓ (fun h => ?_) (of_decide_eq_true h232) (y206) 0  rfl h)
      exact (pre0.a [.cn [1, 5, 81, 82, 83] [0, 1]]).ct hΓ hS2 (iS hd2 hm2) (ih2 (i2 + 1)  (dn hd2) h)
theorem d_impl_IsRule_good {a0_ : Rule} {r : Bool} (h : d_impl_IsRule a0_ = some r) : Good Tryz.prog 12 [D.agg (Rule.c a0_)] (D.bool (r)) := by
  refine gd Tryz.func12 [[none]] 111 fun hr Γ hΓ => ?_
  rw [d_impl_IsRule] at h
  obtain ⟨y1, h2, h⟩ := den_bind h
  obtain ⟨h3, h⟩ | ⟨h3, h⟩ := den_if h
  · have h := den_some h; subst h; exact (((pre0.g (d_impl_IsName_good h2)).r 4 h3).T 25).ret hΓ
  · have o23_ := ((pre0.g (d_impl_IsName_good h2)).r 4 h3)
    obtain ⟨h4, h⟩ | ⟨h4, h⟩ := den_if h
    · have h := den_some h; subst h; exact ((o23_.r 4 h4).T 21).ret hΓ
    · have o24_ := (o23_.r 4 h4)
      obtain ⟨h5, h⟩ | ⟨h5, h⟩ := den_if h
      · have h := den_some h; subst h; exact ((o24_.r 5 h5).T 16).ret hΓ
      · have o25_ := (o24_.r 5 h5)
        obtain ⟨h6, h⟩ | ⟨h6, h⟩ := den_if h
        · have h := den_some h; subst h; exact ((o25_.r 5 h6).T 11).ret hΓ
        · have o26_ := (o25_.r 5 h6)
          obtain ⟨h7, h⟩ | ⟨h7, h⟩ := den_if h
          · have h := den_some h; subst h; exact ((o26_.r 5 h7).T 6).ret hΓ
          · have o27_ := (o26_.r 5 h7)
            obtain ⟨h8, h⟩ | ⟨h8, h⟩ := den_if h
            · have h := den_some h; subst h; exact ((o27_.r 5 h8).T 1).ret hΓ
            · have o28_ := (o27_.r 5 h8)
              obtain ⟨h9, h⟩ | ⟨h9, h⟩ := den_if h
              · have h := den_some h; subst h; exact (o28_.b h9).ret hΓ
              · refine ((o28_.b h9).a [.cn [1, 49, 50, 51] [0]]).lp hΓ (d_impl_IsRule_L1w hΓ (fun h => ?_) (by have := (Rdb.sl (Rdb.agg (hr _ (List.mem_of_getElem? (i := 0) rfl)) (.sl ((a0_.conds).map Cond.c)) (by simp))).1; simpa using this) (a0_.conds) 0  rfl h)
                obtain ⟨y73, h74, h⟩ := den_bind h
                refine ((pre0.g (d_impl_BoundVars_good h74)).a [.cn [1, 5, 81, 82, 83] [0, 1]]).lp hΓ (d_impl_IsRule_L2w hΓ (fun h => ?_) (by have := (Rdb.sl (Rdb.agg (hr _ (List.mem_of_getElem? (i := 0) rfl)) (.sl ((a0_.acts).map Action.c)) (by simp))).1; simpa using this) (a0_.acts) 0  rfl h)
                obtain ⟨y233, h234, h⟩ := den_bind h
                obtain ⟨y235, h236, h⟩ := den_bind h
                cases h; exact ((pre0.g (d_impl_condVarsOf_good h234)).g (d_impl_SortedTexts_good h236)).ret hΓ
def d_impl_IsFact_L1 (a0_ : Fact) (k1 : Option Bool) : List Bytes → Nat → Option Bool
  | [], i1 => (k1 )
  | x1_ :: xs1, i1 => ((d_impl_IsAtom (x1_)).bind fun y25 => (bif !(y25) then (some (false)) else (d_impl_IsFact_L1 a0_ k1 xs1 (i1 + 1) )))
def d_impl_IsFact (a0_ : Fact) : Option Bool := ((d_impl_IsName (a0_.rel)).bind fun y1 => (bif !(y1) then (some (false)) else (bif decide (((((a0_.args).map tx).length : Int) : Int) > (3)) then (some (false)) else (d_impl_IsFact_L1 a0_ (some (true)) (a0_.args) 0 ))))
def d_impl_IsFact_S1 (a0_ : Fact) (ix_ : Int) : St := ⟨[(16, D.sl ((a0_.args).map tx)), (17, D.int .i64 ((((a0_.args).map tx).length : Int))), (18, D.int .i64 (ix_))], []⟩
theorem d_impl_IsFact_L1w (hΓ : Γ.nt = 26) {a0_ : Fact} {r : Bool} {k1 : Option Bool} (hE1 : k1 = some r → Ax Γ N Tryz.f108 (.q [[none]] (D.bool (r))) [1, 1, 1] ⟨[], []⟩) (hm1 : (a0_.args).length ≤ maxLen) : ∀ (rest : List Bytes) (i1 : Nat) , (a0_.args).drop i1 = rest → d_impl_IsFact_L1 a0_ k1 rest i1  = some r → Ar Γ N Tryz.f108 (.q [[none]] (D.bool (r))) [1, 1, 0, 1, 0] (rest.length + 1) (d_impl_IsFact_S1 a0_ ((i1 : Int))) := by
  intro rest
  induction rest with
  | nil =>
    intro i1  hd1 h
    rw [d_impl_IsFact_L1] at h
    refine AWr_succ fun N1 hN1 hS1 => ?_
    exact ((pre0.ge tx hd1).a [.hl 0 [] []]).ex hΓ hN1 (hE1 h)
  | cons x1_ xs1 ih1 =>
    intro i1  hd1 h
    rw [d_impl_IsFact_L1] at h
    refine AWr_succ fun N1 hN1 hS1 => ?_
    obtain ⟨y25, h26, h⟩ := den_bind h
    have o2_ := (((pre0.lt tx hd1).l (map_row tx 1 (dc hd1) rfl)).g (d_impl_IsAtom_good h26))
    obtain ⟨h27, h⟩ | ⟨h27, h⟩ := den_if h
    · have h := den_some h; subst h; exact (o2_.b h27).ret hΓ
    · exact ((o2_.b h27).a [.cn [16, 17, 18] []]).ct hΓ hS1 (iS hd1 hm1) (ih1 (i1 + 1)  (dn hd1) h)
theorem d_impl_IsFact_good {a0_ : Fact} {r : Bool} (h : d_impl_IsFact a0_ = some r) : Good Tryz.prog 108 [D.agg (Fact.c a0_)] (D.bool (r)) := by
  refine gd Tryz.func108 [[none]] 26 fun hr Γ hΓ => ?_
  rw [d_impl_IsFact] at h
  obtain ⟨y1, h2, h⟩ := den_bind h
  obtain ⟨h3, h⟩ | ⟨h3, h⟩ := den_if h
  · have h := den_some h; subst h; exact (((pre0.g (d_impl_IsName_good h2)).r 5 h3).T 1).ret hΓ
  · have o3_ := ((pre0.g (d_impl_IsName_good h2)).r 5 h3)
    obtain ⟨h4, h⟩ | ⟨h4, h⟩ := den_if h
    · have h := den_some h; subst h; exact (o3_.b h4).ret hΓ
    · refine ((o3_.b h4).a [.cn [16, 17, 18] []]).lp hΓ (d_impl_IsFact_L1w hΓ (fun h => ?_) (by have := (Rdb.sl (Rdb.agg (hr _ (List.mem_of_getElem? (i := 0) rfl)) (.sl ((a0_.args).map tx)) (by simp))).1; simpa using this) (a0_.args) 0  rfl h)
      have h := den_some h; subst h; exact pre0.ret hΓ
def d_impl_FormatInt (a0_ : Int) : Option Bytes := ((d_strconv_Itoa (a0_)).bind fun y1 => (some (y1)))
theorem d_impl_FormatInt_good {a0_ : Int} {r : Bytes} (h : d_impl_FormatInt a0_ = some r) : Good Tryz.prog 199 [D.int .i64 (a0_)] (D.str (r)) := by
  refine gd Tryz.func199 [[none]] 5 fun hr Γ hΓ => ?_
  rw [d_impl_FormatInt] at h
  obtain ⟨y1, h2, h⟩ := den_bind h
  have h := den_some h; subst h; exact (pre0.g (d_strconv_Itoa_good h2)).ret hΓ
def d_impl_ParseInt (a0_ : Bytes) : Option (Int × Bool) := (bif decide ((((a0_).length : Int) : Int) < (1)) then (some ((0, false))) else (bif decide ((((a0_).length : Int) : Int) > (4)) then (some ((0, false))) else ((d_strconv_Atoi (a0_)).bind fun y3 => (bif y3.2 then (some ((0, false))) else (bif decide ((y3.1 : Int) < (0)) then (some ((0, false))) else (bif decide ((y3.1 : Int) > (9999)) then (some ((0, false))) else ((d_impl_FormatInt (y3.1)).bind fun y8 => (bif !((y8 : Bytes) == (a0_)) then (some ((0, false))) else (some ((y3.1, true)))))))))))
theorem d_impl_ParseInt_good {a0_ : Bytes} {r : Int × Bool} (h : d_impl_ParseInt a0_ = some r) : Good Tryz.prog 186 [D.str (a0_)] (D.tup [D.int .i64 (r.1), D.bool (r.2)]) := by
  refine gd Tryz.func186 [[none], [none]] 36 fun hr Γ hΓ => ?_
  rw [d_impl_ParseInt] at h
  obtain ⟨h1, h⟩ | ⟨h1, h⟩ := den_if h
  · cases h; exact ((pre0.r 4 h1).T 1).ret hΓ
  · have o1_ := (pre0.r 4 h1)
    obtain ⟨h2, h⟩ | ⟨h2, h⟩ := den_if h
    · cases h; exact (o1_.b h2).ret hΓ
    · obtain ⟨y3, h4, h⟩ := den_bind h
      have o2_ := ((o1_.b h2).g (d_strconv_Atoi_good h4))
      obtain ⟨h5, h⟩ | ⟨h5, h⟩ := den_if h
      · cases h; exact ((o2_.r 3 h5).T 9).ret hΓ
      · have o3_ := (o2_.r 3 h5)
        obtain ⟨h6, h⟩ | ⟨h6, h⟩ := den_if h
        · cases h; exact ((o3_.r 3 h6).T 6).ret hΓ
        · have o4_ := (o3_.r 3 h6)
          obtain ⟨h7, h⟩ | ⟨h7, h⟩ := den_if h
          · cases h; exact ((o4_.r 5 h7).T 1).ret hΓ
          · obtain ⟨y8, h9, h⟩ := den_bind h
            have o5_ := (((o4_.r 2 h7).g (d_impl_FormatInt_good h9)).r 3 h7)
            obtain ⟨h10, h⟩ | ⟨h10, h⟩ := den_if h
            · cases h; exact (o5_.b h10).ret hΓ
            · cases h; exact (o5_.b h10).ret hΓ
def d_impl_compareInts (a0_ : Int) (a1_ : Int) : Option Int := (bif decide ((a0_ : Int) < (a1_)) then (some (-1)) else (bif decide ((a0_ : Int) > (a1_)) then (some (1)) else (some (0))))
theorem d_impl_compareInts_good {a0_ : Int} {a1_ : Int} {r : Int} (h : d_impl_compareInts a0_ a1_ = some r) : Good Tryz.prog 159 [D.int .i64 (a0_), D.int .i64 (a1_)] (D.int .i64 (r)) := by
  refine gd Tryz.func159 [[none]] 13 fun hr Γ hΓ => ?_
  rw [d_impl_compareInts] at h
  obtain ⟨h1, h⟩ | ⟨h1, h⟩ := den_if h
  · cases h; exact (pre0.b h1).ret hΓ
  · obtain ⟨h2, h⟩ | ⟨h2, h⟩ := den_if h
    · have h := den_some h; subst h; exact ((pre0.b h1).b h2).ret hΓ
    · have h := den_some h; subst h; exact ((pre0.b h1).b h2).ret hΓ
def d_impl_CompareAtoms (a0_ : Bytes) (a1_ : Bytes) : Option Int := ((d_impl_ParseInt (a0_)).bind fun y1 => ((d_impl_ParseInt (a1_)).bind fun y3 => (bif y1.2 then (bif y3.2 then ((d_impl_compareInts (y1.1) (y3.1)).bind fun y7 => (some (y7))) else (some (-1))) else (bif y3.2 then (some (1)) else ((d_strings_Compare (a0_) (a1_)).bind fun y10 => (some (y10)))))))
theorem d_impl_CompareAtoms_good {a0_ : Bytes} {a1_ : Bytes} {r : Int} (h : d_impl_CompareAtoms a0_ a1_ = some r) : Good Tryz.prog 158 [D.str (a0_), D.str (a1_)] (D.int .i64 (r)) := by
  refine gd Tryz.func158 [[none]] 34 fun hr Γ hΓ => ?_
  rw [d_impl_CompareAtoms] at h
  obtain ⟨y1, h2, h⟩ := den_bind h
  obtain ⟨y3, h4, h⟩ := den_bind h
  have o1_ := ((pre0.g (d_impl_ParseInt_good h2)).g (d_impl_ParseInt_good h4))
  obtain ⟨h5, h⟩ | ⟨h5, h⟩ := den_if h
  · have o2_ := (o1_.r 2 h5)
    obtain ⟨h6, h⟩ | ⟨h6, h⟩ := den_if h
    · obtain ⟨y7, h8, h⟩ := den_bind h
      have h := den_some h; subst h; exact ((o2_.b h6).g (d_impl_compareInts_good h8)).ret hΓ
    · cases h; exact ((o2_.b h6).b h5).ret hΓ
  · have o3_ := (((o1_.r 2 h5).F 1).b h5)
    obtain ⟨h9, h⟩ | ⟨h9, h⟩ := den_if h
    · have h := den_some h; subst h; exact (o3_.b h9).ret hΓ
    · obtain ⟨y10, h11, h⟩ := den_bind h
      have h := den_some h; subst h; exact ((o3_.b h9).g (d_strings_Compare_good h11)).ret hΓ
def d_impl_CompareFacts_L1 (a0_ : Fact) (a1_ : Fact) (k1 : Option Int) : List Bytes → Nat → Option Int
  | [], i1 => (k1 )
  | x1_ :: xs1, i1 => (bif decide (((i1 : Int) : Int) < ((((a1_.args).map tx).length : Int))) then ((atI (a1_.args) ((i1 : Int))).bind fun x37 => ((d_impl_CompareAtoms (x1_) (x37)).bind fun y39 => (bif (y39 : Int) != (0) then (some (y39)) else (d_impl_CompareFacts_L1 a0_ a1_ k1 xs1 (i1 + 1) )))) else (k1 ))
def d_impl_CompareFacts (a0_ : Fact) (a1_ : Fact) : Option Int := ((d_strings_Compare (a0_.rel) (a1_.rel)).bind fun y1 => (bif (y1 : Int) != (0) then (some (y1)) else (d_impl_CompareFacts_L1 a0_ a1_ ((d_impl_compareInts ((((a0_.args).map tx).length : Int)) ((((a1_.args).map tx).length : Int))).bind fun y42 => (some (y42))) (a0_.args) 0 )))
def d_impl_CompareFacts_S1 (a0_ : Fact) (a1_ : Fact) (ix_ : Int) : St := ⟨[(2, D.ptr 0 0), (3, D.ptr 1 0), (6, D.int .i64 (ix_))], [Ob.box (Fact.c a0_), Ob.box (Fact.c a1_)]⟩
theorem d_impl_CompareFacts_L1w (hΓ : Γ.nt = 51) {a0_ : Fact} {a1_ : Fact} {r : Int} {k1 : Option Int} (hE1 : k1 = some r → Ax Γ N Tryz.f109 (.q [[none]] (D.int .i64 (r))) [1, 1, 1] ⟨[(2, D.ptr 0 0), (3, D.ptr 1 0)], [Ob.box (Fact.c a0_), Ob.box (Fact.c a1_)]⟩) (hm1 : (a0_.args).length ≤ maxLen) : ∀ (rest : List Bytes) (i1 : Nat) , (a0_.args).drop i1 = rest → d_impl_CompareFacts_L1 a0_ a1_ k1 rest i1  = some r → Ar Γ N Tryz.f109 (.q [[none]] (D.int .i64 (r))) [1, 1, 0, 1, 0] (rest.length + 1) (d_impl_CompareFacts_S1 a0_ a1_ ((i1 : Int))) := by
  intro rest
  induction rest with
  | nil =>
    intro i1  hd1 h
    rw [d_impl_CompareFacts_L1] at h
    refine AWr_succ fun N1 hN1 hS1 => ?_
    exact ((((((((pre0.ge tx hd1).ge tx hd1).ge tx hd1).ge tx hd1).ge tx hd1).ge tx hd1).F 1).a [.hl 0 [2, 3] [0, 1]]).ex hΓ hN1 (hE1 h)
  | cons x1_ xs1 ih1 =>
    intro i1  hd1 h
    rw [d_impl_CompareFacts_L1] at h
    refine AWr_succ fun N1 hN1 hS1 => ?_
    have o3_ := ((((((pre0.lt tx hd1).lt tx hd1).lt tx hd1).lt tx hd1).lt tx hd1).lt tx hd1)
    obtain ⟨h36, h⟩ | ⟨h36, h⟩ := den_if h
    · obtain ⟨x37, h38, h⟩ := den_bind h
      obtain ⟨y39, h40, h⟩ := den_bind h
      have o4_ := (((((o3_.b h36).a [.n 10]).l (map_row tx 1 (dc hd1) rfl)).l (at_row tx 1 h38 rfl)).g (d_impl_CompareAtoms_good h40))
      obtain ⟨h41, h⟩ | ⟨h41, h⟩ := den_if h
      · have h := den_some h; subst h; exact (o4_.b h41).ret hΓ
      · exact ((o4_.b h41).a [.cn [2, 3, 6] [0, 1]]).ct hΓ hS1 (iS hd1 hm1) (ih1 (i1 + 1)  (dn hd1) h)
    · exact ((o3_.b h36).a [.hl 0 [2, 3] [0, 1]]).ex hΓ hN1 (hE1 h)
theorem d_impl_CompareFacts_good {a0_ : Fact} {a1_ : Fact} {r : Int} (h : d_impl_CompareFacts a0_ a1_ = some r) : Good Tryz.prog 109 [D.agg (Fact.c a0_), D.agg (Fact.c a1_)] (D.int .i64 (r)) := by
  refine gd Tryz.func109 [[none]] 51 fun hr Γ hΓ => ?_
  rw [d_impl_CompareFacts] at h
  obtain ⟨y1, h2, h⟩ := den_bind h
  obtain ⟨h3, h⟩ | ⟨h3, h⟩ := den_if h
  · have h := den_some h; subst h; exact ((pre0.g (d_strings_Compare_good h2)).b h3).ret hΓ
  · refine (((pre0.g (d_strings_Compare_good h2)).b h3).a [.cn [2, 3, 6] [0, 1]]).lp hΓ (d_impl_CompareFacts_L1w hΓ (fun h => ?_) (by have := (Rdb.sl (Rdb.agg (hr _ (List.mem_of_getElem? (i := 0) rfl)) (.sl ((a0_.args).map tx)) (by simp))).1; simpa using this) (a0_.args) 0  rfl h)
    obtain ⟨y42, h43, h⟩ := den_bind h
    have h := den_some h; subst h; exact (pre0.g (d_impl_compareInts_good h43)).ret hΓ
def d_impl_AreFacts_L1 (a0_ : List Fact) (k1 : Option Bool) : List Fact → Nat → Option Bool
  | [], i1 => (k1 )
  | x1_ :: xs1, i1 => ((d_impl_IsFact (x1_)).bind fun y46 => (bif !(y46) then (some (false)) else (bif decide (((i1 : Int) : Int) > (0)) then ((atI (a0_) (IntKind.i64.wrap (((i1 : Int)) - (1)))).bind fun x50 => ((d_impl_CompareFacts (x50) (x1_)).bind fun y52 => (bif decide ((y52 : Int) ≥ (0)) then (some (false)) else (d_impl_AreFacts_L1 a0_ k1 xs1 (i1 + 1) )))) else (d_impl_AreFacts_L1 a0_ k1 xs1 (i1 + 1) ))))
def d_impl_AreFacts (a0_ : List Fact) : Option Bool := (bif decide (((((a0_).map Fact.c).length : Int) : Int) > (24)) then (some (false)) else (d_impl_AreFacts_L1 a0_ (some (true)) (a0_) 0 ))
def d_impl_AreFacts_S1 (a0_ : List Fact) (ix_ : Int) : St := ⟨[(0, D.sl ((a0_).map Fact.c)), (8, D.sl ((a0_).map Fact.c)), (9, D.int .i64 ((((a0_).map Fact.c).length : Int))), (10, D.int .i64 (ix_))], []⟩
theorem d_impl_AreFacts_L1w (hΓ : Γ.nt = 33) {a0_ : List Fact} {r : Bool} {k1 : Option Bool} (hE1 : k1 = some r → Ax Γ N Tryz.f55 (.q [[none]] (D.bool (r))) [1, 1, 1] ⟨[], []⟩) (hm1 : (a0_).length ≤ maxLen) : ∀ (rest : List Fact) (i1 : Nat) , (a0_).drop i1 = rest → d_impl_AreFacts_L1 a0_ k1 rest i1  = some r → Ar Γ N Tryz.f55 (.q [[none]] (D.bool (r))) [1, 1, 0, 1, 0] (rest.length + 1) (d_impl_AreFacts_S1 a0_ ((i1 : Int))) := by
  intro rest
  induction rest with
  | nil =>
    intro i1  hd1 h
    rw [d_impl_AreFacts_L1] at h
    refine AWr_succ fun N1 hN1 hS1 => ?_
    exact ((pre0.ge Fact.c hd1).a [.hl 0 [] []]).ex hΓ hN1 (hE1 h)
  | cons x1_ xs1 ih1 =>
    intro i1  hd1 h
    rw [d_impl_AreFacts_L1] at h
    refine AWr_succ fun N1 hN1 hS1 => ?_
    obtain ⟨y46, h47, h⟩ := den_bind h
    have o4_ := ((((pre0.lt Fact.c hd1).l (map_row Fact.c 2 (dc hd1) rfl)).a [.n 13]).g (d_impl_IsFact_good h47))
    obtain ⟨h48, h⟩ | ⟨h48, h⟩ := den_if h
    · have h := den_some h; subst h; exact ((((o4_.r 3 h48).a [bF, bF, bF, bF, bF, bF, bF, bF]).r 2 h48).T 1).ret hΓ
    · have o5_ := (o4_.r 3 h48)
      obtain ⟨h49, h⟩ | ⟨h49, h⟩ := den_if h
      · obtain ⟨x50, h51, h⟩ := den_bind h
        obtain ⟨y52, h53, h⟩ := den_bind h
        have o6_ := ((((((((o5_.r 4 h49).l (at_row Fact.c 2 h51 rfl)).r 3 h49).g (d_impl_CompareFacts_good h53)).b h49).b h48).b h49).b h48)
        obtain ⟨h54, h⟩ | ⟨h54, h⟩ := den_if h
        · have h := den_some h; subst h; exact (o6_.b h54).ret hΓ
        · exact ((o6_.b h54).a [.cn [0, 8, 9, 10] []]).ct hΓ hS1 (iS hd1 hm1) (ih1 (i1 + 1)  (dn hd1) h)
      · exact ((((((o5_.r 8 h49).b h48).b h49).b h48).F 1).a [.cn [0, 8, 9, 10] []]).ct hΓ hS1 (iS hd1 hm1) (ih1 (i1 + 1)  (dn hd1) h)
theorem d_impl_AreFacts_good {a0_ : List Fact} {r : Bool} (h : d_impl_AreFacts a0_ = some r) : Good Tryz.prog 55 [D.sl ((a0_).map Fact.c)] (D.bool (r)) := by
  refine gd Tryz.func55 [[none]] 33 fun hr Γ hΓ => ?_
  rw [d_impl_AreFacts] at h
  obtain ⟨h1, h⟩ | ⟨h1, h⟩ := den_if h
  · have h := den_some h; subst h; exact (pre0.b h1).ret hΓ
  · refine ((pre0.b h1).a [.cn [0, 8, 9, 10] []]).lp hΓ (d_impl_AreFacts_L1w hΓ (fun h => ?_) (by have := (Rdb.sl (hr _ (List.mem_of_getElem? (i := 0) rfl))).1; simpa using this) (a0_) 0  rfl h)
    have h := den_some h; subst h; exact pre0.ret hΓ
def d_impl_IsBinding_L1 (a0_ : List Pair) (k1 : Option Bool) : List Pair → Nat → Option Bool
  | [], i1 => (k1 )
  | x1_ :: xs1, i1 => ((d_impl_IsVar (x1_.var)).bind fun y50 => (bif !(y50) then (some (false)) else ((d_impl_IsAtom (x1_.value)).bind fun y53 => (bif !(y53) then (some (false)) else (bif decide (((i1 : Int) : Int) > (0)) then ((atI (a0_) (IntKind.i64.wrap (((i1 : Int)) - (1)))).bind fun x57 => (bif !(Op.bytesLess (x57.var) (x1_.var)) then (some (false)) else (d_impl_IsBinding_L1 a0_ k1 xs1 (i1 + 1) ))) else (d_impl_IsBinding_L1 a0_ k1 xs1 (i1 + 1) ))))))
def d_impl_IsBinding (a0_ : List Pair) : Option Bool := (bif decide (((((a0_).map Pair.c).length : Int) : Int) > (6)) then (some (false)) else (d_impl_IsBinding_L1 a0_ (some (true)) (a0_) 0 ))
def d_impl_IsBinding_S1 (a0_ : List Pair) (ix_ : Int) : St := ⟨[(0, D.sl ((a0_).map Pair.c)), (8, D.sl ((a0_).map Pair.c)), (9, D.int .i64 ((((a0_).map Pair.c).length : Int))), (10, D.int .i64 (ix_))], []⟩
theorem d_impl_IsBinding_L1w (hΓ : Γ.nt = 41) {a0_ : List Pair} {r : Bool} {k1 : Option Bool} (hE1 : k1 = some r → Ax Γ N Tryz.f171 (.q [[none]] (D.bool (r))) [1, 1, 1] ⟨[], []⟩) (hm1 : (a0_).length ≤ maxLen) : ∀ (rest : List Pair) (i1 : Nat) , (a0_).drop i1 = rest → d_impl_IsBinding_L1 a0_ k1 rest i1  = some r → Ar Γ N Tryz.f171 (.q [[none]] (D.bool (r))) [1, 1, 0, 1, 0] (rest.length + 1) (d_impl_IsBinding_S1 a0_ ((i1 : Int))) := by
  intro rest
  induction rest with
  | nil =>
    intro i1  hd1 h
    rw [d_impl_IsBinding_L1] at h
    refine AWr_succ fun N1 hN1 hS1 => ?_
    exact ((pre0.ge Pair.c hd1).a [.hl 0 [] []]).ex hΓ hN1 (hE1 h)
  | cons x1_ xs1 ih1 =>
    intro i1  hd1 h
    rw [d_impl_IsBinding_L1] at h
    refine AWr_succ fun N1 hN1 hS1 => ?_
    obtain ⟨y50, h51, h⟩ := den_bind h
    have o5_ := ((((pre0.lt Pair.c hd1).l (map_row Pair.c 2 (dc hd1) rfl)).a [.n 22]).g (d_impl_IsVar_good h51))
    obtain ⟨h52, h⟩ | ⟨h52, h⟩ := den_if h
    · have h := den_some h; subst h; exact ((((o5_.r 5 h52).T 3).a [bF, bF, bF, bF, bF, bF, bF, bF, bF]).T 3).ret hΓ
    · obtain ⟨y53, h54, h⟩ := den_bind h
      have o6_ := (((o5_.r 3 h52).g (d_impl_IsAtom_good h54)).r 2 h52)
      obtain ⟨h55, h⟩ | ⟨h55, h⟩ := den_if h
      · have h := den_some h; subst h; exact ((((o6_.r 3 h55).a [bF, bF, bF, bF, bF, bF, bF, bF, bF]).r 2 h55).T 1).ret hΓ
      · have o7_ := (o6_.r 3 h55)
        obtain ⟨h56, h⟩ | ⟨h56, h⟩ := den_if h
        · obtain ⟨x57, h58, h⟩ := den_bind h
          have o8_ := ((((((o7_.r 4 h56).l (at_row Pair.c 2 h58 rfl)).r 5 h56).b h55).b h56).b h55)
          obtain ⟨h59, h⟩ | ⟨h59, h⟩ := den_if h
          · have h := den_some h; subst h; exact (o8_.b h59).ret hΓ
          · exact ((o8_.b h59).a [.cn [0, 8, 9, 10] []]).ct hΓ hS1 (iS hd1 hm1) (ih1 (i1 + 1)  (dn hd1) h)
        · exact ((((((o7_.r 9 h56).b h55).b h56).b h55).F 1).a [.cn [0, 8, 9, 10] []]).ct hΓ hS1 (iS hd1 hm1) (ih1 (i1 + 1)  (dn hd1) h)
theorem d_impl_IsBinding_good {a0_ : List Pair} {r : Bool} (h : d_impl_IsBinding a0_ = some r) : Good Tryz.prog 171 [D.sl ((a0_).map Pair.c)] (D.bool (r)) := by
  refine gd Tryz.func171 [[none]] 41 fun hr Γ hΓ => ?_
  rw [d_impl_IsBinding] at h
  obtain ⟨h1, h⟩ | ⟨h1, h⟩ := den_if h
  · have h := den_some h; subst h; exact (pre0.b h1).ret hΓ
  · refine ((pre0.b h1).a [.cn [0, 8, 9, 10] []]).lp hΓ (d_impl_IsBinding_L1w hΓ (fun h => ?_) (by have := (Rdb.sl (hr _ (List.mem_of_getElem? (i := 0) rfl))).1; simpa using this) (a0_) 0  rfl h)
    have h := den_some h; subst h; exact pre0.ret hΓ
def d_impl_copyPairs (a0_ : List Pair) : Option (List Pair) := (bif room ((([] : List (List D))).length + ((a0_).map Pair.c).length) 32 then (some ((([] : List Pair)) ++ (a0_))) else none)
theorem d_impl_copyPairs_good {a0_ : List Pair} {r : List Pair} (h : d_impl_copyPairs a0_ = some r) : Good Tryz.prog 174 [D.sl ((a0_).map Pair.c)] (D.fr 137 2 ((r).map Pair.c)) := by
  refine gd Tryz.func174 [[some (137, 2)]] 5 fun hr Γ hΓ => ?_
  rw [d_impl_copyPairs] at h
  obtain ⟨h1, h⟩ := den_ok h
  cases h; exact (((pre0.w (room_ok h1)).w (show (∀ r ∈ ((a0_).map Pair.c), r.length = 2) ∧ (true = true → D.flatRows ((a0_).map Pair.c) = true) from ⟨by first | simp | (intro r hr; obtain ⟨x, _, rfl⟩ := List.mem_map.1 (List.mem_of_mem_take (List.mem_of_mem_drop hr)); rfl), by simp [D.flatRows, D.flat]⟩)).a [.pro 2, .fl true]).rts hΓ (D.fr 137 2 ((([] : List (List D))) ++ ((a0_).map Pair.c))) (by first | rfl | (simp only [mA] <;> rfl))
def d_impl_ValueOf_L1 (a0_ : List Pair) (a1_ : Bytes) (k1 : Option (Bytes × Bool)) : List Pair → Nat → Option (Bytes × Bool)
  | [], i1 => (k1 )
  | x1_ :: xs1, i1 => (bif (x1_.var : Bytes) == (a1_) then (some ((x1_.value, true))) else (d_impl_ValueOf_L1 a0_ a1_ k1 xs1 (i1 + 1) ))
def d_impl_ValueOf (a0_ : List Pair) (a1_ : Bytes) : Option (Bytes × Bool) := ((d_impl_IsAtom (a1_)).bind fun y1 => (bif y1 then (some ((a1_, true))) else ((d_impl_IsVar (a1_)).bind fun y4 => (bif !(y4) then (some (([], false))) else (d_impl_ValueOf_L1 a0_ a1_ (some (([], false))) (a0_) 0 )))))
def d_impl_ValueOf_S1 (a0_ : List Pair) (a1_ : Bytes) (ix_ : Int) : St := ⟨[(1, D.str (a1_)), (14, D.sl ((a0_).map Pair.c)), (15, D.int .i64 ((((a0_).map Pair.c).length : Int))), (16, D.int .i64 (ix_))], []⟩
theorem d_impl_ValueOf_L1w (hΓ : Γ.nt = 27) {a0_ : List Pair} {a1_ : Bytes} {r : Bytes × Bool} {k1 : Option (Bytes × Bool)} (hE1 : k1 = some r → Ax Γ N Tryz.f192 (.q [[none], [none]] (D.tup [D.str (r.1), D.bool (r.2)])) [1, 1, 1, 1] ⟨[], []⟩) (hm1 : (a0_).length ≤ maxLen) : ∀ (rest : List Pair) (i1 : Nat) , (a0_).drop i1 = rest → d_impl_ValueOf_L1 a0_ a1_ k1 rest i1  = some r → Ar Γ N Tryz.f192 (.q [[none], [none]] (D.tup [D.str (r.1), D.bool (r.2)])) [1, 1, 1, 0, 1, 0] (rest.length + 1) (d_impl_ValueOf_S1 a0_ a1_ ((i1 : Int))) := by
  intro rest
  induction rest with
  | nil =>
    intro i1  hd1 h
    rw [d_impl_ValueOf_L1] at h
    refine AWr_succ fun N1 hN1 hS1 => ?_
    exact ((pre0.ge Pair.c hd1).a [.hl 0 [] []]).ex hΓ hN1 (hE1 h)
  | cons x1_ xs1 ih1 =>
    intro i1  hd1 h
    rw [d_impl_ValueOf_L1] at h
    refine AWr_succ fun N1 hN1 hS1 => ?_
    have o2_ := ((pre0.lt Pair.c hd1).l (map_row Pair.c 2 (dc hd1) rfl))
    obtain ⟨h19, h⟩ | ⟨h19, h⟩ := den_if h
    · cases h; exact (o2_.b h19).ret hΓ
    · exact ((o2_.b h19).a [.cn [1, 14, 15, 16] []]).ct hΓ hS1 (iS hd1 hm1) (ih1 (i1 + 1)  (dn hd1) h)
theorem d_impl_ValueOf_good {a0_ : List Pair} {a1_ : Bytes} {r : Bytes × Bool} (h : d_impl_ValueOf a0_ a1_ = some r) : Good Tryz.prog 192 [D.sl ((a0_).map Pair.c), D.str (a1_)] (D.tup [D.str (r.1), D.bool (r.2)]) := by
  refine gd Tryz.func192 [[none], [none]] 27 fun hr Γ hΓ => ?_
  rw [d_impl_ValueOf] at h
  obtain ⟨y1, h2, h⟩ := den_bind h
  obtain ⟨h3, h⟩ | ⟨h3, h⟩ := den_if h
  · cases h; exact ((pre0.g (d_impl_IsAtom_good h2)).b h3).ret hΓ
  · obtain ⟨y4, h5, h⟩ := den_bind h
    have o3_ := (((pre0.g (d_impl_IsAtom_good h2)).b h3).g (d_impl_IsVar_good h5))
    obtain ⟨h6, h⟩ | ⟨h6, h⟩ := den_if h
    · cases h; exact (o3_.b h6).ret hΓ
    · refine ((o3_.b h6).a [.cn [1, 14, 15, 16] []]).lp hΓ (d_impl_ValueOf_L1w hΓ (fun h => ?_) (by have := (Rdb.sl (hr _ (List.mem_of_getElem? (i := 0) rfl))).1; simpa using this) (a0_) 0  rfl h)
      cases h; exact pre0.ret hΓ
def d_impl_Extend_L1 (a0_ : List Pair) (a1_ : Bytes) (a2_ : Bytes) (k1 : Bool → List Pair → Option ((List Pair) × Bool)) : List Pair → Nat → Bool → List Pair → Option ((List Pair) × Bool)
  | [], i1, v1_11, w1_0 => (k1 (v1_11) (w1_0))
  | x1_ :: xs1, i1, v1_11, w1_0 => (bif !(v1_11) then (bif !(Op.bytesLess (x1_.var) (a1_) || (x1_.var : Bytes) == (a1_)) then (bif room (((w1_0).map Pair.c).length + ([[D.str (a1_), D.str (a2_)]]).length) 32 then (bif room ((((w1_0).map Pair.c) ++ ([[D.str (a1_), D.str (a2_)]])).length + ([[D.str (x1_.var), D.str (x1_.value)]]).length) 32 then (d_impl_Extend_L1 a0_ a1_ a2_ k1 xs1 (i1 + 1) (true) (((w1_0) ++ ([(⟨a1_, a2_⟩ : Pair)])) ++ ([x1_]))) else none) else none) else (bif room (((w1_0).map Pair.c).length + ([[D.str (x1_.var), D.str (x1_.value)]]).length) 32 then (d_impl_Extend_L1 a0_ a1_ a2_ k1 xs1 (i1 + 1) (v1_11) ((w1_0) ++ ([x1_]))) else none)) else (bif room (((w1_0).map Pair.c).length + ([[D.str (x1_.var), D.str (x1_.value)]]).length) 32 then (d_impl_Extend_L1 a0_ a1_ a2_ k1 xs1 (i1 + 1) (v1_11) ((w1_0) ++ ([x1_]))) else none))
def d_impl_Extend (a0_ : List Pair) (a1_ : Bytes) (a2_ : Bytes) : Option ((List Pair) × Bool) := ((d_impl_IsBinding (a0_)).bind fun y1 => (bif !(y1) then (some (([], false))) else ((d_impl_IsVar (a1_)).bind fun y4 => (bif !(y4) then (some (([], false))) else ((d_impl_IsAtom (a2_)).bind fun y7 => (bif !(y7) then (some (([], false))) else ((d_impl_ValueOf (a0_) (a1_)).bind fun y10 => (bif y10.2 then (bif !((y10.1 : Bytes) == (a2_)) then (some (([], false))) else ((d_impl_copyPairs (a0_)).bind fun y14 => (some ((y14, true))))) else (bif decide (((((a0_).map Pair.c).length : Int) : Int) ≥ (6)) then (some (([], false))) else (d_impl_Extend_L1 a0_ a1_ a2_ (fun (z1_11 : Bool) (q1_0 : List Pair) => (bif !(z1_11) then (bif room (((q1_0).map Pair.c).length + ([[D.str (a1_), D.str (a2_)]]).length) 32 then (some (((q1_0) ++ ([(⟨a1_, a2_⟩ : Pair)]), true))) else none) else (some ((q1_0, true))))) (a0_) 0 (false) (([] : List Pair))))))))))))
def d_impl_Extend_S1 (a0_ : List Pair) (a1_ : Bytes) (a2_ : Bytes) (v1_11 : Bool) (W1 : List (List D)) (ix_ : Int) : St := ⟨[(1, D.str (a1_)), (2, D.str (a2_)), (10, D.acc 0), (11, D.bool (v1_11)), (42, D.sl ((a0_).map Pair.c)), (43, D.int .i64 ((((a0_).map Pair.c).length : Int))), (44, D.int .i64 (ix_))], [Ob.row .uq 137 2 (W1)]⟩
theorem d_impl_Extend_L1w (hΓ : Γ.nt = 76) {a0_ : List Pair} {a1_ : Bytes} {a2_ : Bytes} {r : (List Pair) × Bool} {k1 : Bool → List Pair → Option ((List Pair) × Bool)} (hE1 : ∀ (z1_11 : Bool) (q1_0 : List Pair), k1 z1_11 q1_0 = some r → Ax Γ N Tryz.f175 (.q [[some (137, 2)], [none]] (D.tup [D.fr 137 2 ((r.1).map Pair.c), D.bool (r.2)])) [1, 1, 1, 1, 1, 1, 1] ⟨[(1, D.str (a1_)), (2, D.str (a2_)), (10, D.acc 0), (11, D.bool (z1_11))], [Ob.row .uq 137 2 ((q1_0).map Pair.c)]⟩) (hm1 : (a0_).length ≤ maxLen) : ∀ (rest : List Pair) (i1 : Nat) (v1_11 : Bool) (w1_0 : List Pair), (a0_).drop i1 = rest → d_impl_Extend_L1 a0_ a1_ a2_ k1 rest i1 v1_11 w1_0 = some r → Ar Γ N Tryz.f175 (.q [[some (137, 2)], [none]] (D.tup [D.fr 137 2 ((r.1).map Pair.c), D.bool (r.2)])) [1, 1, 1, 1, 1, 1, 0, 1, 0] (rest.length + 1) (d_impl_Extend_S1 a0_ a1_ a2_ v1_11 ((w1_0).map Pair.c) ((i1 : Int))) := by
  intro rest
  induction rest with
  | nil =>
    intro i1 v1_11 w1_0 hd1 h
    rw [d_impl_Extend_L1] at h
    refine AWr_succ fun N1 hN1 hS1 => ?_
    exact ((pre0.ge Pair.c hd1).a [.hl 0 [1, 2, 10, 11] [0]]).ex hΓ hN1 (hE1 (v1_11) (w1_0) h)
  | cons x1_ xs1 ih1 =>
    intro i1 v1_11 w1_0 hd1 h
    rw [d_impl_Extend_L1] at h
    refine AWr_succ fun N1 hN1 hS1 => ?_
    have o3_ := ((pre0.lt Pair.c hd1).l (map_row Pair.c 2 (dc hd1) rfl))
    obtain ⟨h58, h⟩ | ⟨h58, h⟩ := den_if h
    · have o4_ := (o3_.r 5 h58)
      obtain ⟨h59, h⟩ | ⟨h59, h⟩ := den_if h
      · obtain ⟨h60, h⟩ := den_ok h
        obtain ⟨h61, h⟩ := den_ok h
        exact ((((o4_.b h59).w (room_ok h60)).w (room_ok h61)).a [.cn [1, 2, 10, 11, 42, 43, 44] [5]]).cs hΓ hS1 (d_impl_Extend_S1 a0_ a1_ a2_ true ((((w1_0).map Pair.c) ++ ([[D.str (a1_), D.str (a2_)]])) ++ ([[D.str (x1_.var), D.str (x1_.value)]])) (IntKind.i64.wrap (((i1 : Int)) + (1)))) (by first | (simp only [iS hd1 hm1, mA] <;> rfl) | (simp only [iS hd1 hm1, mA, Fact.c, Pair.c, Cond.c, Action.c, Rule.c, Token.c, Match.c, Alpha.c, Node.c, Network.c, Stamp.c] <;> rfl)) (ih1 (i1 + 1) (true) (((w1_0) ++ ([(⟨a1_, a2_⟩ : Pair)])) ++ ([x1_])) (dn hd1) h)
      · obtain ⟨h62, h⟩ := den_ok h
        exact (((o4_.b h59).w (room_ok h62)).a [.cn [1, 2, 10, 11, 42, 43, 44] [3]]).cs hΓ hS1 (d_impl_Extend_S1 a0_ a1_ a2_ v1_11 (((w1_0).map Pair.c) ++ ([[D.str (x1_.var), D.str (x1_.value)]])) (IntKind.i64.wrap (((i1 : Int)) + (1)))) (by first | (simp only [iS hd1 hm1, mA] <;> rfl) | (simp only [iS hd1 hm1, mA, Fact.c, Pair.c, Cond.c, Action.c, Rule.c, Token.c, Match.c, Alpha.c, Node.c, Network.c, Stamp.c] <;> rfl)) (ih1 (i1 + 1) (v1_11) ((w1_0) ++ ([x1_])) (dn hd1) h)
    · obtain ⟨h63, h⟩ := den_ok h
      exact ((((o3_.r 5 h58).F 1).w (room_ok h63)).a [.cn [1, 2, 10, 11, 42, 43, 44] [3]]).cs hΓ hS1 (d_impl_Extend_S1 a0_ a1_ a2_ v1_11 (((w1_0).map Pair.c) ++ ([[D.str (x1_.var), D.str (x1_.value)]])) (IntKind.i64.wrap (((i1 : Int)) + (1)))) (by first | (simp only [iS hd1 hm1, mA] <;> rfl) | (simp only [iS hd1 hm1, mA, Fact.c, Pair.c, Cond.c, Action.c, Rule.c, Token.c, Match.c, Alpha.c, Node.c, Network.c, Stamp.c] <;> rfl)) (ih1 (i1 + 1) (v1_11) ((w1_0) ++ ([x1_])) (dn hd1) h)
theorem d_impl_Extend_good {a0_ : List Pair} {a1_ : Bytes} {a2_ : Bytes} {r : (List Pair) × Bool} (h : d_impl_Extend a0_ a1_ a2_ = some r) : Good Tryz.prog 175 [D.sl ((a0_).map Pair.c), D.str (a1_), D.str (a2_)] (D.tup [D.fr 137 2 ((r.1).map Pair.c), D.bool (r.2)]) := by
  refine gd Tryz.func175 [[some (137, 2)], [none]] 76 fun hr Γ hΓ => ?_
  rw [d_impl_Extend] at h
  obtain ⟨y1, h2, h⟩ := den_bind h
  obtain ⟨h3, h⟩ | ⟨h3, h⟩ := den_if h
  · cases h; exact (((pre0.g (d_impl_IsBinding_good h2)).r 4 h3).T 5).ret hΓ
  · obtain ⟨y4, h5, h⟩ := den_bind h
    have o5_ := ((((pre0.g (d_impl_IsBinding_good h2)).r 2 h3).g (d_impl_IsVar_good h5)).r 2 h3)
    obtain ⟨h6, h⟩ | ⟨h6, h⟩ := den_if h
    · cases h; exact ((o5_.r 4 h6).T 1).ret hΓ
    · obtain ⟨y7, h8, h⟩ := den_bind h
      have o6_ := (((o5_.r 2 h6).g (d_impl_IsAtom_good h8)).r 2 h6)
      obtain ⟨h9, h⟩ | ⟨h9, h⟩ := den_if h
      · cases h; exact (o6_.b h9).ret hΓ
      · obtain ⟨y10, h11, h⟩ := den_bind h
        have o7_ := ((o6_.b h9).g (d_impl_ValueOf_good h11))
        obtain ⟨h12, h⟩ | ⟨h12, h⟩ := den_if h
        · obtain ⟨h13, h⟩ | ⟨h13, h⟩ := den_if h
          · cases h; exact ((o7_.b h12).b h13).ret hΓ
          · obtain ⟨y14, h15, h⟩ := den_bind h
            cases h; exact (((o7_.b h12).b h13).g (d_impl_copyPairs_good h15)).ret hΓ
        · obtain ⟨h16, h⟩ | ⟨h16, h⟩ := den_if h
          · cases h; exact ((o7_.b h12).b h16).ret hΓ
          · refine (((o7_.b h12).b h16).a [.pro 10, .cn [1, 2, 10, 11, 42, 43, 44] [0]]).lp hΓ (d_impl_Extend_L1w hΓ (fun z1_11 q1_0 h => ?_) (by have := (Rdb.sl (hr _ (List.mem_of_getElem? (i := 0) rfl))).1; simpa using this) (a0_) 0 (false) (([] : List Pair)) rfl h)
            obtain ⟨h64, h⟩ | ⟨h64, h⟩ := den_if h
            · obtain ⟨h65, h⟩ := den_ok h
              cases h; exact ((pre0.b h64).w (room_ok h65)).rts hΓ (D.tup [D.fr 137 2 (((q1_0).map Pair.c) ++ ([[D.str (a1_), D.str (a2_)]])), D.bool (true)]) (by first | rfl | (simp only [mA] <;> rfl))
            · cases h; exact (pre0.b h64).ret hΓ
def d_impl_MatchFact_L1 (a0_ : Fact) (a1_ : Fact) (k1 : List Pair → Option ((List Pair) × Bool)) : List Bytes → Nat → List Pair → Option ((List Pair) × Bool)
  | [], i1, w1_1 => (k1 (w1_1))
  | x1_ :: xs1, i1, w1_1 => ((d_impl_IsAtom (x1_)).bind fun y80 => (bif y80 then ((atI (a1_.args) ((i1 : Int))).bind fun x83 => (bif !((x1_ : Bytes) == (x83)) then (some (([], false))) else (d_impl_MatchFact_L1 a0_ a1_ k1 xs1 (i1 + 1) (w1_1)))) else ((atI (a1_.args) ((i1 : Int))).bind fun x86 => ((d_impl_Extend (w1_1) (x1_) (x86)).bind fun y88 => (bif !(y88.2) then (some (([], false))) else (d_impl_MatchFact_L1 a0_ a1_ k1 xs1 (i1 + 1) (y88.1)))))))
def d_impl_MatchFact (a0_ : Fact) (a1_ : Fact) (a2_ : List Pair) : Option ((List Pair) × Bool) := ((d_impl_IsPattern (a0_)).bind fun y1 => (bif !(y1) then (some (([], false))) else ((d_impl_IsFact (a1_)).bind fun y4 => (bif !(y4) then (some (([], false))) else ((d_impl_IsBinding (a2_)).bind fun y7 => (bif !(y7) then (some (([], false))) else (bif !((a0_.rel : Bytes) == (a1_.rel)) then (some (([], false))) else (bif ((((a0_.args).map tx).length : Int) : Int) != ((((a1_.args).map tx).length : Int)) then (some (([], false))) else ((d_impl_copyPairs (a2_)).bind fun y12 => (d_impl_MatchFact_L1 a0_ a1_ (fun (q1_0 : List Pair) => (some ((q1_0, true)))) (a0_.args) 0 (y12)))))))))))
def d_impl_MatchFact_S1 (a0_ : Fact) (a1_ : Fact) (W0 : List (List D)) (ix_ : Int) : St := ⟨[(4, D.ptr 0 0), (8, D.acc 1), (45, D.sl ((a0_.args).map tx)), (46, D.int .i64 ((((a0_.args).map tx).length : Int))), (47, D.int .i64 (ix_))], [Ob.box (Fact.c a1_), Ob.row .uq 137 2 (W0)]⟩
theorem d_impl_MatchFact_L1w (hΓ : Γ.nt = 77) {a0_ : Fact} {a1_ : Fact} {r : (List Pair) × Bool} {k1 : List Pair → Option ((List Pair) × Bool)} (hE1 : ∀ (q1_0 : List Pair), k1 q1_0 = some r → Ax Γ N Tryz.f135 (.q [[some (137, 2)], [none]] (D.tup [D.fr 137 2 ((r.1).map Pair.c), D.bool (r.2)])) [1, 1, 1, 1] ⟨[(8, D.acc 0)], [Ob.row .uq 137 2 ((q1_0).map Pair.c)]⟩) (hm1 : (a0_.args).length ≤ maxLen) : ∀ (rest : List Bytes) (i1 : Nat) (w1_1 : List Pair), (a0_.args).drop i1 = rest → d_impl_MatchFact_L1 a0_ a1_ k1 rest i1 w1_1 = some r → Ar Γ N Tryz.f135 (.q [[some (137, 2)], [none]] (D.tup [D.fr 137 2 ((r.1).map Pair.c), D.bool (r.2)])) [1, 1, 1, 0, 1, 0] (rest.length + 1) (d_impl_MatchFact_S1 a0_ a1_ ((w1_1).map Pair.c) ((i1 : Int))) := by
  intro rest
  induction rest with
  | nil =>
    intro i1 w1_1 hd1 h
    rw [d_impl_MatchFact_L1] at h
    refine AWr_succ fun N1 hN1 hS1 => ?_
    exact ((pre0.ge tx hd1).a [.hl 0 [8] [1]]).ex hΓ hN1 (hE1 (w1_1) h)
  | cons x1_ xs1 ih1 =>
    intro i1 w1_1 hd1 h
    rw [d_impl_MatchFact_L1] at h
    refine AWr_succ fun N1 hN1 hS1 => ?_
    obtain ⟨y80, h81, h⟩ := den_bind h
    have o4_ := (((pre0.lt tx hd1).l (map_row tx 1 (dc hd1) rfl)).g (d_impl_IsAtom_good h81))
    obtain ⟨h82, h⟩ | ⟨h82, h⟩ := den_if h
    · obtain ⟨x83, h84, h⟩ := den_bind h
      have o5_ := ((o4_.b h82).l (at_row tx 1 h84 rfl))
      obtain ⟨h85, h⟩ | ⟨h85, h⟩ := den_if h
      · cases h; exact (o5_.b h85).ret hΓ
      · exact ((o5_.b h85).a [.cn [4, 8, 45, 46, 47] [0, 1]]).ct hΓ hS1 (iS hd1 hm1) (ih1 (i1 + 1) (w1_1) (dn hd1) h)
    · obtain ⟨x86, h87, h⟩ := den_bind h
      obtain ⟨y88, h89, h⟩ := den_bind h
      have o6_ := (((o4_.b h82).l (at_row tx 1 h87 rfl)).g (d_impl_Extend_good h89))
      obtain ⟨h90, h⟩ | ⟨h90, h⟩ := den_if h
      · cases h; exact (o6_.b h90).ret hΓ
      · exact ((o6_.b h90).a [.cn [4, 8, 45, 46, 47] [0, 2]]).ct hΓ hS1 (iS hd1 hm1) (ih1 (i1 + 1) (y88.1) (dn hd1) h)
theorem d_impl_MatchFact_good {a0_ : Fact} {a1_ : Fact} {a2_ : List Pair} {r : (List Pair) × Bool} (h : d_impl_MatchFact a0_ a1_ a2_ = some r) : Good Tryz.prog 135 [D.agg (Fact.c a0_), D.agg (Fact.c a1_), D.sl ((a2_).map Pair.c)] (D.tup [D.fr 137 2 ((r.1).map Pair.c), D.bool (r.2)]) := by
  refine gd Tryz.func135 [[some (137, 2)], [none]] 77 fun hr Γ hΓ => ?_
  rw [d_impl_MatchFact] at h
  obtain ⟨y1, h2, h⟩ := den_bind h
  obtain ⟨h3, h⟩ | ⟨h3, h⟩ := den_if h
  · cases h; exact (((pre0.g (d_impl_IsPattern_good h2)).r 4 h3).T 19).ret hΓ
  · obtain ⟨y4, h5, h⟩ := den_bind h
    have o7_ := ((((pre0.g (d_impl_IsPattern_good h2)).r 2 h3).g (d_impl_IsFact_good h5)).r 2 h3)
    obtain ⟨h6, h⟩ | ⟨h6, h⟩ := den_if h
    · cases h; exact ((o7_.r 4 h6).T 15).ret hΓ
    · obtain ⟨y7, h8, h⟩ := den_bind h
      have o8_ := (((o7_.r 2 h6).g (d_impl_IsBinding_good h8)).r 2 h6)
      obtain ⟨h9, h⟩ | ⟨h9, h⟩ := den_if h
      · cases h; exact ((o8_.r 6 h9).T 9).ret hΓ
      · have o9_ := (o8_.r 6 h9)
        obtain ⟨h10, h⟩ | ⟨h10, h⟩ := den_if h
        · cases h; exact ((o9_.r 8 h10).T 1).ret hΓ
        · have o10_ := (o9_.r 8 h10)
          obtain ⟨h11, h⟩ | ⟨h11, h⟩ := den_if h
          · cases h; exact (o10_.b h11).ret hΓ
          · obtain ⟨y12, h13, h⟩ := den_bind h
            refine (((o10_.b h11).g (d_impl_copyPairs_good h13)).a [.cn [4, 8, 45, 46, 47] [1, 2]]).lp hΓ (d_impl_MatchFact_L1w hΓ (fun q1_0 h => ?_) (by have := (Rdb.sl (Rdb.agg (hr _ (List.mem_of_getElem? (i := 0) rfl)) (.sl ((a0_.args).map tx)) (by simp))).1; simpa using this) (a0_.args) 0 (y12) rfl h)
            cases h; exact pre0.ret hΓ
def d_impl_copyFact (a0_ : Fact) : Option Fact := ((d_impl_copyTexts (a0_.args)).bind fun y1 => (some ((⟨a0_.rel, y1⟩ : Fact))))
theorem d_impl_copyFact_good {a0_ : Fact} {r : Fact} (h : d_impl_copyFact a0_ = some r) : Good Tryz.prog 137 [D.agg (Fact.c a0_)] (D.agg [D.str (r.rel), D.fr 9 1 ((r.args).map tx)]) := by
  refine gd Tryz.func137 [[none, some (9, 1)]] 9 fun hr Γ hΓ => ?_
  rw [d_impl_copyFact] at h
  obtain ⟨y1, h2, h⟩ := den_bind h
  cases h; exact ((pre0.a [.n 5]).g (d_impl_copyTexts_good h2)).ret hΓ
def d_impl_MatchingFacts_L1 (a0_ : Fact) (a1_ : List Pair) (a2_ : List Fact) (k1 : List Fact → Option (List Fact)) : List Fact → Nat → List Fact → Option (List Fact)
  | [], i1, w1_1 => (k1 (w1_1))
  | x1_ :: xs1, i1, w1_1 => ((d_impl_MatchFact (a0_) (x1_) (a1_)).bind fun y42 => (bif y42.2 then ((d_impl_copyFact (x1_)).bind fun y45 => (bif room (((w1_1).map Fact.c).length + ([[D.str (y45.rel), D.sl ((y45.args).map tx)]]).length) 40 then (d_impl_MatchingFacts_L1 a0_ a1_ a2_ k1 xs1 (i1 + 1) ((w1_1) ++ ([y45]))) else none)) else (d_impl_MatchingFacts_L1 a0_ a1_ a2_ k1 xs1 (i1 + 1) (w1_1))))
def d_impl_MatchingFacts (a0_ : Fact) (a1_ : List Pair) (a2_ : List Fact) : Option (List Fact) := (d_impl_MatchingFacts_L1 a0_ a1_ a2_ (fun (q1_0 : List Fact) => (some (q1_0))) (a2_) 0 (([] : List Fact)))
def d_impl_MatchingFacts_S1 (a0_ : Fact) (a1_ : List Pair) (a2_ : List Fact) (W0 : List (List D)) (ix_ : Int) : St := ⟨[(1, D.sl ((a1_).map Pair.c)), (3, D.ptr 0 0), (7, D.acc 1), (12, D.sl ((a2_).map Fact.c)), (13, D.int .i64 ((((a2_).map Fact.c).length : Int))), (14, D.int .i64 (ix_))], [Ob.box (Fact.c a0_), Ob.row .uq 42 2 (W0)]⟩
theorem d_impl_MatchingFacts_L1w (hΓ : Γ.nt = 33) {a0_ : Fact} {a1_ : List Pair} {a2_ : List Fact} {r : List Fact} {k1 : List Fact → Option (List Fact)} (hE1 : ∀ (q1_0 : List Fact), k1 q1_0 = some r → Ax Γ N Tryz.f172 (.q [[some (42, 2)]] (D.fr 42 2 ((r).map Fact.c))) [1, 1, 1] ⟨[(7, D.acc 0)], [Ob.row .uq 42 2 ((q1_0).map Fact.c)]⟩) (hm1 : (a2_).length ≤ maxLen) : ∀ (rest : List Fact) (i1 : Nat) (w1_1 : List Fact), (a2_).drop i1 = rest → d_impl_MatchingFacts_L1 a0_ a1_ a2_ k1 rest i1 w1_1 = some r → Ar Γ N Tryz.f172 (.q [[some (42, 2)]] (D.fr 42 2 ((r).map Fact.c))) [1, 1, 0, 1, 0] (rest.length + 1) (d_impl_MatchingFacts_S1 a0_ a1_ a2_ ((w1_1).map Fact.c) ((i1 : Int))) := by
  intro rest
  induction rest with
  | nil =>
    intro i1 w1_1 hd1 h
    rw [d_impl_MatchingFacts_L1] at h
    refine AWr_succ fun N1 hN1 hS1 => ?_
    exact ((pre0.ge Fact.c hd1).a [.hl 0 [7] [1]]).ex hΓ hN1 (hE1 (w1_1) h)
  | cons x1_ xs1 ih1 =>
    intro i1 w1_1 hd1 h
    rw [d_impl_MatchingFacts_L1] at h
    refine AWr_succ fun N1 hN1 hS1 => ?_
    obtain ⟨y42, h43, h⟩ := den_bind h
    have o2_ := (((pre0.lt Fact.c hd1).l (map_row Fact.c 2 (dc hd1) rfl)).g (d_impl_MatchFact_good h43))
    obtain ⟨h44, h⟩ | ⟨h44, h⟩ := den_if h
    · obtain ⟨y45, h46, h⟩ := den_bind h
      obtain ⟨h47, h⟩ := den_ok h
      exact ((((o2_.b h44).g (d_impl_copyFact_good h46)).w (room_ok h47)).a [.cn [1, 3, 7, 12, 13, 14] [0, 6]]).cs hΓ hS1 (d_impl_MatchingFacts_S1 a0_ a1_ a2_ (((w1_1).map Fact.c) ++ ([[D.str (y45.rel), D.sl ((y45.args).map tx)]])) (IntKind.i64.wrap (((i1 : Int)) + (1)))) (by first | (simp only [iS hd1 hm1, mA] <;> rfl) | (simp only [iS hd1 hm1, mA, Fact.c, Pair.c, Cond.c, Action.c, Rule.c, Token.c, Match.c, Alpha.c, Node.c, Network.c, Stamp.c] <;> rfl)) (ih1 (i1 + 1) ((w1_1) ++ ([y45])) (dn hd1) h)
    · exact ((o2_.b h44).a [.cn [1, 3, 7, 12, 13, 14] [0, 1]]).ct hΓ hS1 (iS hd1 hm1) (ih1 (i1 + 1) (w1_1) (dn hd1) h)
theorem d_impl_MatchingFacts_good {a0_ : Fact} {a1_ : List Pair} {a2_ : List Fact} {r : List Fact} (h : d_impl_MatchingFacts a0_ a1_ a2_ = some r) : Good Tryz.prog 172 [D.agg (Fact.c a0_), D.sl ((a1_).map Pair.c), D.sl ((a2_).map Fact.c)] (D.fr 42 2 ((r).map Fact.c)) := by
  refine gd Tryz.func172 [[some (42, 2)]] 33 fun hr Γ hΓ => ?_
  rw [d_impl_MatchingFacts] at h
  refine (pre0.a [.pro 7, .cn [1, 3, 7, 12, 13, 14] [0, 1]]).lp hΓ (d_impl_MatchingFacts_L1w hΓ (fun q1_0 h => ?_) (by have := (Rdb.sl (hr _ (List.mem_of_getElem? (i := 2) rfl))).1; simpa using this) (a2_) 0 (([] : List Fact)) rfl h)
  have h := den_some h; subst h; exact pre0.ret hΓ
def d_impl_IsTest (a0_ : Cond) : Option Bool := ((d_impl_IsCond (a0_)).bind fun y1 => (bif y1 then (some (decide ((a0_.kind : Int) ≥ (3)))) else (some (false))))
theorem d_impl_IsTest_good {a0_ : Cond} {r : Bool} (h : d_impl_IsTest a0_ = some r) : Good Tryz.prog 191 [D.agg (Cond.c a0_)] (D.bool (r)) := by
  refine gd Tryz.func191 [[none]] 10 fun hr Γ hΓ => ?_
  rw [d_impl_IsTest] at h
  obtain ⟨y1, h2, h⟩ := den_bind h
  obtain ⟨h3, h⟩ | ⟨h3, h⟩ := den_if h
  · cases h; exact ((pre0.g (d_impl_IsCond_good h2)).r 4 h3).ret hΓ
  · have h := den_some h; subst h; exact ((pre0.g (d_impl_IsCond_good h2)).r 4 h3).ret hΓ
def d_impl_HoldsTest (a0_ : Cond) (a1_ : List Pair) : Option Bool := ((d_impl_IsTest (a0_)).bind fun y1 => (bif !(y1) then (some (false)) else ((d_impl_IsBinding (a1_)).bind fun y4 => (bif !(y4) then (some (false)) else ((d_impl_ValueOf (a1_) (a0_.left)).bind fun y7 => ((d_impl_ValueOf (a1_) (a0_.right)).bind fun y9 => (bif !(y7.2) then (some (false)) else (bif !(y9.2) then (some (false)) else (bif (a0_.kind : Int) == (3) then (some ((y7.1 : Bytes) == (y9.1))) else (bif (a0_.kind : Int) == (4) then (some (!((y7.1 : Bytes) == (y9.1)))) else ((d_impl_ParseInt (y7.1)).bind fun y15 => ((d_impl_ParseInt (y9.1)).bind fun y17 => (bif y15.2 then (bif y17.2 then (some (decide ((y15.1 : Int) < (y17.1)))) else (some (false))) else (some (false)))))))))))))))
theorem d_impl_HoldsTest_good {a0_ : Cond} {a1_ : List Pair} {r : Bool} (h : d_impl_HoldsTest a0_ a1_ = some r) : Good Tryz.prog 173 [D.agg (Cond.c a0_), D.sl ((a1_).map Pair.c)] (D.bool (r)) := by
  refine gd Tryz.func173 [[none]] 70 fun hr Γ hΓ => ?_
  rw [d_impl_HoldsTest] at h
  obtain ⟨y1, h2, h⟩ := den_bind h
  obtain ⟨h3, h⟩ | ⟨h3, h⟩ := den_if h
  · have h := den_some h; subst h; exact (((pre0.g (d_impl_IsTest_good h2)).r 4 h3).T 1).ret hΓ
  · obtain ⟨y4, h5, h⟩ := den_bind h
    have o1_ := ((((pre0.g (d_impl_IsTest_good h2)).r 2 h3).g (d_impl_IsBinding_good h5)).r 2 h3)
    obtain ⟨h6, h⟩ | ⟨h6, h⟩ := den_if h
    · have h := den_some h; subst h; exact (o1_.b h6).ret hΓ
    · obtain ⟨y7, h8, h⟩ := den_bind h
      obtain ⟨y9, h10, h⟩ := den_bind h
      have o2_ := (((o1_.b h6).g (d_impl_ValueOf_good h8)).g (d_impl_ValueOf_good h10))
      obtain ⟨h11, h⟩ | ⟨h11, h⟩ := den_if h
      · have h := den_some h; subst h; exact ((o2_.r 3 h11).T 1).ret hΓ
      · have o3_ := (o2_.r 3 h11)
        obtain ⟨h12, h⟩ | ⟨h12, h⟩ := den_if h
        · have h := den_some h; subst h; exact (o3_.b h12).ret hΓ
        · obtain ⟨h13, h⟩ | ⟨h13, h⟩ := den_if h
          · cases h; exact ((o3_.b h12).b h13).ret hΓ
          · have o4_ := ((o3_.b h12).b h13)
            obtain ⟨h14, h⟩ | ⟨h14, h⟩ := den_if h
            · cases h; exact (o4_.b h14).ret hΓ
            · obtain ⟨y15, h16, h⟩ := den_bind h
              obtain ⟨y17, h18, h⟩ := den_bind h
              have o5_ := (((o4_.b h14).g (d_impl_ParseInt_good h16)).g (d_impl_ParseInt_good h18))
              obtain ⟨h19, h⟩ | ⟨h19, h⟩ := den_if h
              · have o6_ := (o5_.r 2 h19)
                obtain ⟨h20, h⟩ | ⟨h20, h⟩ := den_if h
                · cases h; exact (o6_.r 4 h20).ret hΓ
                · have h := den_some h; subst h; exact (o6_.r 4 h20).ret hΓ
              · have h := den_some h; subst h; exact ((o5_.r 2 h19).F 4).ret hΓ
def d_impl_HoldsCond (a0_ : Cond) (a1_ : List Pair) (a2_ : List Fact) : Option Bool := ((d_impl_IsCond (a0_)).bind fun y1 => (bif !(y1) then (some (false)) else ((d_impl_IsBinding (a1_)).bind fun y4 => (bif !(y4) then (some (false)) else (bif (a0_.kind : Int) == (1) then ((d_impl_MatchingFacts (a0_.pat) (a1_) (a2_)).bind fun y8 => (some (decide (((((y8).map Fact.c).length : Int) : Int) > (0))))) else (bif (a0_.kind : Int) == (2) then ((d_impl_MatchingFacts (a0_.pat) (a1_) (a2_)).bind fun y11 => (some (((((y11).map Fact.c).length : Int) : Int) == (0)))) else ((d_impl_HoldsTest (a0_) (a1_)).bind fun y13 => (some (y13)))))))))
theorem d_impl_HoldsCond_good {a0_ : Cond} {a1_ : List Pair} {a2_ : List Fact} {r : Bool} (h : d_impl_HoldsCond a0_ a1_ a2_ = some r) : Good Tryz.prog 134 [D.agg (Cond.c a0_), D.sl ((a1_).map Pair.c), D.sl ((a2_).map Fact.c)] (D.bool (r)) := by
  refine gd Tryz.func134 [[none]] 38 fun hr Γ hΓ => ?_
  rw [d_impl_HoldsCond] at h
  obtain ⟨y1, h2, h⟩ := den_bind h
  obtain ⟨h3, h⟩ | ⟨h3, h⟩ := den_if h
  · have h := den_some h; subst h; exact (((pre0.g (d_impl_IsCond_good h2)).r 4 h3).T 1).ret hΓ
  · obtain ⟨y4, h5, h⟩ := den_bind h
    have o1_ := ((((pre0.g (d_impl_IsCond_good h2)).r 2 h3).g (d_impl_IsBinding_good h5)).r 2 h3)
    obtain ⟨h6, h⟩ | ⟨h6, h⟩ := den_if h
    · have h := den_some h; subst h; exact (o1_.b h6).ret hΓ
    · obtain ⟨h7, h⟩ | ⟨h7, h⟩ := den_if h
      · obtain ⟨y8, h9, h⟩ := den_bind h
        cases h; exact (((o1_.b h6).b h7).g (d_impl_MatchingFacts_good h9)).ret hΓ
      · have o2_ := ((o1_.b h6).b h7)
        obtain ⟨h10, h⟩ | ⟨h10, h⟩ := den_if h
        · obtain ⟨y11, h12, h⟩ := den_bind h
          cases h; exact ((o2_.b h10).g (d_impl_MatchingFacts_good h12)).ret hΓ
        · obtain ⟨y13, h14, h⟩ := den_bind h
          have h := den_some h; subst h; exact ((o2_.b h10).g (d_impl_HoldsTest_good h14)).ret hΓ
def d_impl_copyFacts_L1 (a0_ : List Fact) (k1 : List Fact → Option (List Fact)) : List Fact → Nat → List Fact → Option (List Fact)
  | [], i1, w1_0 => (k1 (w1_0))
  | x1_ :: xs1, i1, w1_0 => ((d_impl_copyFact (x1_)).bind fun y27 => (bif room (((w1_0).map Fact.c).length + ([[D.str (y27.rel), D.sl ((y27.args).map tx)]]).length) 40 then (d_impl_copyFacts_L1 a0_ k1 xs1 (i1 + 1) ((w1_0) ++ ([y27]))) else none))
def d_impl_copyFacts (a0_ : List Fact) : Option (List Fact) := (d_impl_copyFacts_L1 a0_ (fun (q1_0 : List Fact) => (some (q1_0))) (a0_) 0 (([] : List Fact)))
def d_impl_copyFacts_S1 (a0_ : List Fact) (W0 : List (List D)) (ix_ : Int) : St := ⟨[(3, D.acc 0), (6, D.sl ((a0_).map Fact.c)), (7, D.int .i64 ((((a0_).map Fact.c).length : Int))), (8, D.int .i64 (ix_))], [Ob.row .uq 42 2 (W0)]⟩
theorem d_impl_copyFacts_L1w (hΓ : Γ.nt = 19) {a0_ : List Fact} {r : List Fact} {k1 : List Fact → Option (List Fact)} (hE1 : ∀ (q1_0 : List Fact), k1 q1_0 = some r → Ax Γ N Tryz.f136 (.q [[some (42, 2)]] (D.fr 42 2 ((r).map Fact.c))) [1, 1, 1] ⟨[(3, D.acc 0)], [Ob.row .uq 42 2 ((q1_0).map Fact.c)]⟩) (hm1 : (a0_).length ≤ maxLen) : ∀ (rest : List Fact) (i1 : Nat) (w1_0 : List Fact), (a0_).drop i1 = rest → d_impl_copyFacts_L1 a0_ k1 rest i1 w1_0 = some r → Ar Γ N Tryz.f136 (.q [[some (42, 2)]] (D.fr 42 2 ((r).map Fact.c))) [1, 1, 0, 1, 0] (rest.length + 1) (d_impl_copyFacts_S1 a0_ ((w1_0).map Fact.c) ((i1 : Int))) := by
  intro rest
  induction rest with
  | nil =>
    intro i1 w1_0 hd1 h
    rw [d_impl_copyFacts_L1] at h
    refine AWr_succ fun N1 hN1 hS1 => ?_
    exact ((pre0.ge Fact.c hd1).a [.hl 0 [3] [0]]).ex hΓ hN1 (hE1 (w1_0) h)
  | cons x1_ xs1 ih1 =>
    intro i1 w1_0 hd1 h
    rw [d_impl_copyFacts_L1] at h
    refine AWr_succ fun N1 hN1 hS1 => ?_
    obtain ⟨y27, h28, h⟩ := den_bind h
    obtain ⟨h29, h⟩ := den_ok h
    exact (((((pre0.lt Fact.c hd1).l (map_row Fact.c 2 (dc hd1) rfl)).g (d_impl_copyFact_good h28)).w (room_ok h29)).a [.cn [3, 6, 7, 8] [4]]).cs hΓ hS1 (d_impl_copyFacts_S1 a0_ (((w1_0).map Fact.c) ++ ([[D.str (y27.rel), D.sl ((y27.args).map tx)]])) (IntKind.i64.wrap (((i1 : Int)) + (1)))) (by first | (simp only [iS hd1 hm1, mA] <;> rfl) | (simp only [iS hd1 hm1, mA, Fact.c, Pair.c, Cond.c, Action.c, Rule.c, Token.c, Match.c, Alpha.c, Node.c, Network.c, Stamp.c] <;> rfl)) (ih1 (i1 + 1) ((w1_0) ++ ([y27])) (dn hd1) h)
theorem d_impl_copyFacts_good {a0_ : List Fact} {r : List Fact} (h : d_impl_copyFacts a0_ = some r) : Good Tryz.prog 136 [D.sl ((a0_).map Fact.c)] (D.fr 42 2 ((r).map Fact.c)) := by
  refine gd Tryz.func136 [[some (42, 2)]] 19 fun hr Γ hΓ => ?_
  rw [d_impl_copyFacts] at h
  refine (pre0.a [.pro 3, .cn [3, 6, 7, 8] [0]]).lp hΓ (d_impl_copyFacts_L1w hΓ (fun q1_0 h => ?_) (by have := (Rdb.sl (hr _ (List.mem_of_getElem? (i := 0) rfl))).1; simpa using this) (a0_) 0 (([] : List Fact)) rfl h)
  have h := den_some h; subst h; exact pre0.ret hΓ
def d_impl_tokensOf_L3 (a0_ : List Cond) (a1_ : List Fact) (i2 : Nat) (w1_0 : List Token) (x2_ : Token) (i1 : Nat) (x1_ : Cond) (k3 : List Token → Option (List Token)) : List Fact → Nat → List Token → Option (List Token)
  | [], i3, w3_1 => (k3 (w3_1))
  | x3_ :: xs3, i3, w3_1 => ((d_impl_MatchFact (x1_.pat) (x3_) (x2_.bind)).bind fun y3512 => (bif y3512.2 then ((d_impl_copyFacts (x2_.facts)).bind fun y3520 => ((d_impl_copyFact (x3_)).bind fun y3522 => (bif room (((y3520).map Fact.c).length + ([[D.str (y3522.rel), D.sl ((y3522.args).map tx)]]).length) 40 then (bif room (((w3_1).map Token.c).length + ([[D.sl (((y3520).map Fact.c) ++ ([[D.str (y3522.rel), D.sl ((y3522.args).map tx)]])), D.sl ((y3512.1).map Pair.c)]]).length) 48 then (d_impl_tokensOf_L3 a0_ a1_ i2 w1_0 x2_ i1 x1_ k3 xs3 (i3 + 1) ((w3_1) ++ ([(⟨(y3520) ++ ([y3522]), y3512.1⟩ : Token)]))) else none) else none))) else (d_impl_tokensOf_L3 a0_ a1_ i2 w1_0 x2_ i1 x1_ k3 xs3 (i3 + 1) (w3_1))))
def d_impl_tokensOf_L2 (a0_ : List Cond) (a1_ : List Fact) (w1_0 : List Token) (i1 : Nat) (x1_ : Cond) (k2 : List Token → Option (List Token)) : List Token → Nat → List Token → Option (List Token)
  | [], i2, w2_1 => (k2 (w2_1))
  | x2_ :: xs2, i2, w2_1 => (bif (x1_.kind : Int) != (1) then ((d_impl_HoldsCond (x1_) (x2_.bind) (a1_)).bind fun y3427 => (bif y3427 then (bif room (((w2_1).map Token.c).length + ([[D.sl ((x2_.facts).map Fact.c), D.sl ((x2_.bind).map Pair.c)]]).length) 48 then (d_impl_tokensOf_L2 a0_ a1_ w1_0 i1 x1_ k2 xs2 (i2 + 1) ((w2_1) ++ ([x2_]))) else none) else (d_impl_tokensOf_L2 a0_ a1_ w1_0 i1 x1_ k2 xs2 (i2 + 1) (w2_1)))) else (bif decide ((a1_).length ≤ maxLen) then (d_impl_tokensOf_L3 a0_ a1_ i2 w1_0 x2_ i1 x1_ (fun (q3_1 : List Token) => (d_impl_tokensOf_L2 a0_ a1_ w1_0 i1 x1_ k2 xs2 (i2 + 1) (q3_1))) (a1_) 0 (w2_1)) else none))
def d_impl_tokensOf_L1 (a0_ : List Cond) (a1_ : List Fact) (k1 : List Token → Option (List Token)) : List Cond → Nat → List Token → Option (List Token)
  | [], i1, w1_0 => (k1 (w1_0))
  | x1_ :: xs1, i1, w1_0 => (bif decide ((w1_0).length ≤ maxLen) then (d_impl_tokensOf_L2 a0_ a1_ w1_0 i1 x1_ (fun (q2_0 : List Token) => (d_impl_tokensOf_L1 a0_ a1_ k1 xs1 (i1 + 1) (q2_0))) (w1_0) 0 (([] : List Token))) else none)
def d_impl_tokensOf (a0_ : List Cond) (a1_ : List Fact) : Option (List Token) := (d_impl_tokensOf_L1 a0_ a1_ (fun (q1_0 : List Token) => (some (q1_0))) (a0_) 0 ([(⟨[], []⟩ : Token)]))
def d_impl_tokensOf_S1 (a0_ : List Cond) (a1_ : List Fact) (W0 : List (List D)) (ix_ : Int) : St := ⟨[(1, D.sl ((a1_).map Fact.c)), (5, D.acc 0), (17, D.sl ((a0_).map Cond.c)), (18, D.int .i64 ((((a0_).map Cond.c).length : Int))), (19, D.int .i64 (ix_))], [Ob.row .uq 116 2 (W0)]⟩
def d_impl_tokensOf_S2 (a0_ : List Cond) (a1_ : List Fact) (w1_0 : List Token) (i1 : Nat) (x1_ : Cond) (W0 : List (List D)) (kn2_ : Nat) (ix_ : Int) : St := ⟨[(1, D.sl ((a1_).map Fact.c)), (7, D.ptr 0 0), (8, D.acc 1), (17, D.sl ((a0_).map Cond.c)), (18, D.int .i64 ((((a0_).map Cond.c).length : Int))), (19, D.int .i64 ((i1 : Int))), (23, D.acc 2), (24, D.int .i64 ((((w1_0).map Token.c).length : Int))), (25, D.int .i64 (ix_))], [Ob.box [D.int .i64 (x1_.kind), D.str (x1_.pat.rel), D.sl ((x1_.pat.args).map tx), D.str (x1_.left), D.str (x1_.right)], Ob.row .uq 116 2 (W0), Ob.row (.mv (kn2_)) 116 2 ((w1_0).map Token.c)]⟩
def d_impl_tokensOf_S3 (a0_ : List Cond) (a1_ : List Fact) (i2 : Nat) (w1_0 : List Token) (x2_ : Token) (i1 : Nat) (x1_ : Cond) (W0 : List (List D)) (ix_ : Int) : St := ⟨[(1, D.sl ((a1_).map Fact.c)), (7, D.ptr 0 0), (8, D.acc 1), (10, D.ptr 2 0), (17, D.sl ((a0_).map Cond.c)), (18, D.int .i64 ((((a0_).map Cond.c).length : Int))), (19, D.int .i64 ((i1 : Int))), (23, D.acc 3), (24, D.int .i64 ((((w1_0).map Token.c).length : Int))), (25, D.int .i64 ((i2 : Int))), (41, D.sl ((a1_).map Fact.c)), (42, D.int .i64 ((((a1_).map Fact.c).length : Int))), (43, D.int .i64 (ix_))], [Ob.box [D.int .i64 (x1_.kind), D.str (x1_.pat.rel), D.sl ((x1_.pat.args).map tx), D.str (x1_.left), D.str (x1_.right)], Ob.row .uq 116 2 (W0), Ob.box [D.acc 4, D.acc 5], Ob.row (.mv (i2 + 1)) 116 2 ((w1_0).map Token.c), Ob.tk ((x2_.facts).map Fact.c), Ob.tk ((x2_.bind).map Pair.c)]⟩
theorem d_impl_tokensOf_L3w (hΓ : Γ.nt = 74) {a0_ : List Cond} {a1_ : List Fact} {i2 : Nat} {w1_0 : List Token} {x2_ : Token} {i1 : Nat} {x1_ : Cond} {r : List Token} {k3 : List Token → Option (List Token)} (hE3 : ∀ (q3_1 : List Token), k3 q3_1 = some r → Ax Γ N Tryz.f84 (.q [[some (116, 2)]] (D.fr 116 2 ((r).map Token.c))) [1, 1, 0, 1, 0, 0, 1, 1, 0, 0, 1, 1, 0, 1, 0, 0, 1, 1, 1] ⟨[(1, D.sl ((a1_).map Fact.c)), (7, D.ptr 0 0), (8, D.acc 1), (17, D.sl ((a0_).map Cond.c)), (18, D.int .i64 ((((a0_).map Cond.c).length : Int))), (19, D.int .i64 ((i1 : Int))), (23, D.acc 2), (24, D.int .i64 ((((w1_0).map Token.c).length : Int))), (25, D.int .i64 ((i2 : Int)))], [Ob.box [D.int .i64 (x1_.kind), D.str (x1_.pat.rel), D.sl ((x1_.pat.args).map tx), D.str (x1_.left), D.str (x1_.right)], Ob.row .uq 116 2 ((q3_1).map Token.c), Ob.row (.mv (i2 + 1)) 116 2 ((w1_0).map Token.c)]⟩) (hm3 : (a1_).length ≤ maxLen) : ∀ (rest : List Fact) (i3 : Nat) (w3_1 : List Token), (a1_).drop i3 = rest → d_impl_tokensOf_L3 a0_ a1_ i2 w1_0 x2_ i1 x1_ k3 rest i3 w3_1 = some r → Ar Γ N Tryz.f84 (.q [[some (116, 2)]] (D.fr 116 2 ((r).map Token.c))) [1, 1, 0, 1, 0, 0, 1, 1, 0, 0, 1, 1, 0, 1, 0, 0, 1, 1, 0, 0, 1, 1, 1, 0] (rest.length + 1) (d_impl_tokensOf_S3 a0_ a1_ i2 w1_0 x2_ i1 x1_ ((w3_1).map Token.c) ((i3 : Int))) := by
  intro rest
  induction rest with
  | nil =>
    intro i3 w3_1 hd3 h
    rw [d_impl_tokensOf_L3] at h
    refine AWr_succ fun N3 hN3 hS3 => ?_
    exact ((pre0.ge Fact.c hd3).a [.hl 8 [1, 7, 8, 17, 18, 19, 23, 24, 25] [0, 1, 3]]).ex hΓ hN3 (hE3 (w3_1) h)
  | cons x3_ xs3 ih3 =>
    intro i3 w3_1 hd3 h
    rw [d_impl_tokensOf_L3] at h
    refine AWr_succ fun N3 hN3 hS3 => ?_
    obtain ⟨y3512, h3513, h⟩ := den_bind h
    have o90_ := (((pre0.lt Fact.c hd3).l (map_row Fact.c 2 (dc hd3) rfl)).g (d_impl_MatchFact_good h3513))
    obtain ⟨h3514, h⟩ | ⟨h3514, h⟩ := den_if h
    · obtain ⟨y3520, h3521, h⟩ := den_bind h
      obtain ⟨y3522, h3523, h⟩ := den_bind h
      obtain ⟨h3524, h⟩ := den_ok h
      obtain ⟨h3525, h⟩ := den_ok h
      exact (((((((o90_.b h3514).a [.n2 [0, 1, 2, 3, 4, 5, 8, 6, 7, 9, 10, 11, 12] [0, 1, 2, 3, 4, 5, 7, 8, 6, 9, 10, 11, 12] 7 11 [0, 6] [7, 8, 9, 10, 11]]).g (d_impl_copyFacts_good h3521)).g (d_impl_copyFact_good h3523)).w (room_ok h3524)).w (room_ok h3525)).a [.cn [1, 7, 8, 10, 17, 18, 19, 23, 24, 25, 41, 42, 43] [0, 13, 2, 3, 4, 5]]).cs hΓ hS3 (d_impl_tokensOf_S3 a0_ a1_ i2 w1_0 x2_ i1 x1_ (((w3_1).map Token.c) ++ ([[D.sl (((y3520).map Fact.c) ++ ([[D.str (y3522.rel), D.sl ((y3522.args).map tx)]])), D.sl ((y3512.1).map Pair.c)]])) (IntKind.i64.wrap (((i3 : Int)) + (1)))) (by first | (simp only [iS hd3 hm3, mA] <;> rfl) | (simp only [iS hd3 hm3, mA, Fact.c, Pair.c, Cond.c, Action.c, Rule.c, Token.c, Match.c, Alpha.c, Node.c, Network.c, Stamp.c] <;> rfl)) (ih3 (i3 + 1) ((w3_1) ++ ([(⟨(y3520) ++ ([y3522]), y3512.1⟩ : Token)])) (dn hd3) h)
    · exact ((o90_.b h3514).a [.cn [1, 7, 8, 10, 17, 18, 19, 23, 24, 25, 41, 42, 43] [0, 1, 2, 3, 4, 5]]).ct hΓ hS3 (iS hd3 hm3) (ih3 (i3 + 1) (w3_1) (dn hd3) h)
theorem d_impl_tokensOf_L2w (hΓ : Γ.nt = 74) {a0_ : List Cond} {a1_ : List Fact} {w1_0 : List Token} {i1 : Nat} {x1_ : Cond} {r : List Token} {k2 : List Token → Option (List Token)} (hE2 : ∀ (q2_0 : List Token), k2 q2_0 = some r → Ax Γ N Tryz.f84 (.q [[some (116, 2)]] (D.fr 116 2 ((r).map Token.c))) [1, 1, 0, 1, 0, 0, 1, 1, 0, 0, 1, 1, 1] ⟨[(1, D.sl ((a1_).map Fact.c)), (8, D.acc 0), (17, D.sl ((a0_).map Cond.c)), (18, D.int .i64 ((((a0_).map Cond.c).length : Int))), (19, D.int .i64 ((i1 : Int)))], [Ob.row .uq 116 2 ((q2_0).map Token.c)]⟩) (hm2 : (w1_0).length ≤ maxLen) : ∀ (rest : List Token) (i2 : Nat) (w2_1 : List Token), (w1_0).drop i2 = rest → d_impl_tokensOf_L2 a0_ a1_ w1_0 i1 x1_ k2 rest i2 w2_1 = some r → Ar Γ N Tryz.f84 (.q [[some (116, 2)]] (D.fr 116 2 ((r).map Token.c))) [1, 1, 0, 1, 0, 0, 1, 1, 0, 0, 1, 1, 0, 1, 0] (rest.length + 1) (d_impl_tokensOf_S2 a0_ a1_ w1_0 i1 x1_ ((w2_1).map Token.c) i2 ((i2 : Int))) := by
  intro rest
  induction rest with
  | nil =>
    intro i2 w2_1 hd2 h
    rw [d_impl_tokensOf_L2] at h
    refine AWr_succ fun N2 hN2 hS2 => ?_
    exact ((pre0.ge Token.c hd2).a [.hl 5 [1, 8, 17, 18, 19] [1]]).ex hΓ hN2 (hE2 (w2_1) h)
  | cons x2_ xs2 ih2 =>
    intro i2 w2_1 hd2 h
    rw [d_impl_tokensOf_L2] at h
    refine AWr_succ fun N2 hN2 hS2 => ?_
    have o91_ := ((((pre0.lt Token.c hd2).i (own_ixl Token.c 2 (dc hd2))).w (show i2 = i2 ∧ ((w1_0).map Token.c)[i2]? = some [D.sl ((x2_.facts).map Fact.c), D.sl ((x2_.bind).map Pair.c)] ∧ takeOk [D.sl ((x2_.facts).map Fact.c), D.sl ((x2_.bind).map Pair.c)] = true from ⟨rfl, map_get Token.c (dc hd2), rfl⟩)).a [.tk [D.sl ((x2_.facts).map Fact.c), D.sl ((x2_.bind).map Pair.c)]])
    obtain ⟨h3426, h⟩ | ⟨h3426, h⟩ := den_if h
    · obtain ⟨y3427, h3428, h⟩ := den_bind h
      have o92_ := ((o91_.b h3426).g (d_impl_HoldsCond_good h3428))
      obtain ⟨h3429, h⟩ | ⟨h3429, h⟩ := den_if h
      · obtain ⟨h3430, h⟩ := den_ok h
        exact (((o92_.b h3429).w (room_ok h3430)).a [.cn [1, 7, 8, 17, 18, 19, 23, 24, 25] [0, 7, 2]]).cs hΓ hS2 (d_impl_tokensOf_S2 a0_ a1_ w1_0 i1 x1_ (((w2_1).map Token.c) ++ ([[D.sl ((x2_.facts).map Fact.c), D.sl ((x2_.bind).map Pair.c)]])) (i2 + 1) (IntKind.i64.wrap (((i2 : Int)) + (1)))) (by first | (simp only [iS hd2 hm2, mA] <;> rfl) | (simp only [iS hd2 hm2, mA, Fact.c, Pair.c, Cond.c, Action.c, Rule.c, Token.c, Match.c, Alpha.c, Node.c, Network.c, Stamp.c] <;> rfl)) (ih2 (i2 + 1) ((w2_1) ++ ([x2_])) (dn hd2) h)
      · exact ((o92_.b h3429).a [.cn [1, 7, 8, 17, 18, 19, 23, 24, 25] [0, 1, 2]]).ct hΓ hS2 (iS hd2 hm2) (ih2 (i2 + 1) (w2_1) (dn hd2) h)
    · obtain ⟨h3526, h⟩ := den_ok h
      refine ((o91_.b h3426).a [.cn [1, 7, 8, 10, 17, 18, 19, 23, 24, 25, 41, 42, 43] [0, 1, 5, 2, 3, 4]]).lp hΓ (d_impl_tokensOf_L3w hΓ (fun q3_1 h => ?_) (of_decide_eq_true h3526) (a1_) 0 (w2_1) rfl h)
      exact (pre0.a [.cn [1, 7, 8, 17, 18, 19, 23, 24, 25] [0, 1, 2]]).ct hΓ hS2 (iS hd2 hm2) (ih2 (i2 + 1) (q3_1) (dn hd2) h)
theorem d_impl_tokensOf_L1w (hΓ : Γ.nt = 74) {a0_ : List Cond} {a1_ : List Fact} {r : List Token} {k1 : List Token → Option (List Token)} (hE1 : ∀ (q1_0 : List Token), k1 q1_0 = some r → Ax Γ N Tryz.f84 (.q [[some (116, 2)]] (D.fr 116 2 ((r).map Token.c))) [1, 1, 1] ⟨[(5, D.acc 0)], [Ob.row .uq 116 2 ((q1_0).map Token.c)]⟩) (hm1 : (a0_).length ≤ maxLen) : ∀ (rest : List Cond) (i1 : Nat) (w1_0 : List Token), (a0_).drop i1 = rest → d_impl_tokensOf_L1 a0_ a1_ k1 rest i1 w1_0 = some r → Ar Γ N Tryz.f84 (.q [[some (116, 2)]] (D.fr 116 2 ((r).map Token.c))) [1, 1, 0, 1, 0] (rest.length + 1) (d_impl_tokensOf_S1 a0_ a1_ ((w1_0).map Token.c) ((i1 : Int))) := by
  intro rest
  induction rest with
  | nil =>
    intro i1 w1_0 hd1 h
    rw [d_impl_tokensOf_L1] at h
    refine AWr_succ fun N1 hN1 hS1 => ?_
    exact ((pre0.ge Cond.c hd1).a [.hl 0 [5] [0]]).ex hΓ hN1 (hE1 (w1_0) h)
  | cons x1_ xs1 ih1 =>
    intro i1 w1_0 hd1 h
    rw [d_impl_tokensOf_L1] at h
    refine AWr_succ fun N1 hN1 hS1 => ?_
    obtain ⟨h3527, h⟩ := den_ok h
    refine (((pre0.lt Cond.c hd1).l (map_row Cond.c 5 (dc hd1) rfl)).a [.pro 8, .mz 0, .cn [1, 7, 8, 17, 18, 19, 23, 24, 25] [1, 2, 0]]).lp hΓ (d_impl_tokensOf_L2w hΓ (fun q2_0 h => ?_) (of_decide_eq_true h3527) (w1_0) 0 (([] : List Token)) rfl h)
    exact (pre0.a [.cn [1, 5, 17, 18, 19] [0]]).ct hΓ hS1 (iS hd1 hm1) (ih1 (i1 + 1) (q2_0) (dn hd1) h)
theorem d_impl_tokensOf_good {a0_ : List Cond} {a1_ : List Fact} {r : List Token} (h : d_impl_tokensOf a0_ a1_ = some r) : Good Tryz.prog 84 [D.sl ((a0_).map Cond.c), D.sl ((a1_).map Fact.c)] (D.fr 116 2 ((r).map Token.c)) := by
  refine gd Tryz.func84 [[some (116, 2)]] 74 fun hr Γ hΓ => ?_
  rw [d_impl_tokensOf] at h
  refine (pre0.a [.cn [1, 5, 17, 18, 19] [0]]).lps hΓ (d_impl_tokensOf_S1 a0_ a1_ ([[D.sl ([]), D.sl ([])]]) 0) (by first | (simp only [mA] <;> rfl) | (simp only [mA, Fact.c, Pair.c, Cond.c, Action.c, Rule.c, Token.c, Match.c, Alpha.c, Node.c, Network.c, Stamp.c] <;> rfl)) (d_impl_tokensOf_L1w hΓ (fun q1_0 h => ?_) (by have := (Rdb.sl (hr _ (List.mem_of_getElem? (i := 0) rfl))).1; simpa using this) (a0_) 0 ([(⟨[], []⟩ : Token)]) rfl h)
  have h := den_some h; subst h; exact pre0.ret hΓ
def d_impl_matchesOf_L1 (a0_ : Rule) (y1 : List Token) (k1 : List Match → Option (List Match)) : List Token → Nat → List Match → Option (List Match)
  | [], i1, w1_1 => (k1 (w1_1))
  | x1_ :: xs1, i1, w1_1 => (bif room (((w1_1).map Match.c).length + ([[D.str (a0_.name), D.sl ((x1_.facts).map Fact.c), D.sl ((x1_.bind).map Pair.c)]]).length) 64 then (d_impl_matchesOf_L1 a0_ y1 k1 xs1 (i1 + 1) ((w1_1) ++ ([(⟨a0_.name, x1_.facts, x1_.bind⟩ : Match)]))) else none)
def d_impl_matchesOf (a0_ : Rule) (a1_ : List Fact) : Option (List Match) := ((d_impl_tokensOf (a0_.conds) (a1_)).bind fun y1 => (bif decide ((y1).length ≤ maxLen) then (d_impl_matchesOf_L1 a0_ y1 (fun (q1_0 : List Match) => (some (q1_0))) (y1) 0 (([] : List Match))) else none))
def d_impl_matchesOf_S1 (a0_ : Rule) (y1 : List Token) (W0 : List (List D)) (kn2_ : Nat) (ix_ : Int) : St := ⟨[(2, D.ptr 0 0), (5, D.acc 1), (11, D.acc 2), (12, D.int .i64 ((((y1).map Token.c).length : Int))), (13, D.int .i64 (ix_))], [Ob.box (Rule.c a0_), Ob.row .uq 41 3 (W0), Ob.row (.mv (kn2_)) 116 2 ((y1).map Token.c)]⟩
theorem d_impl_matchesOf_L1w (hΓ : Γ.nt = 29) {a0_ : Rule} {y1 : List Token} {r : List Match} {k1 : List Match → Option (List Match)} (hE1 : ∀ (q1_0 : List Match), k1 q1_0 = some r → Ax Γ N Tryz.f56 (.q [[some (41, 3)]] (D.fr 41 3 ((r).map Match.c))) [1, 1, 1] ⟨[(5, D.acc 0)], [Ob.row .uq 41 3 ((q1_0).map Match.c)]⟩) (hm1 : (y1).length ≤ maxLen) : ∀ (rest : List Token) (i1 : Nat) (w1_1 : List Match), (y1).drop i1 = rest → d_impl_matchesOf_L1 a0_ y1 k1 rest i1 w1_1 = some r → Ar Γ N Tryz.f56 (.q [[some (41, 3)]] (D.fr 41 3 ((r).map Match.c))) [1, 1, 0, 1, 0] (rest.length + 1) (d_impl_matchesOf_S1 a0_ y1 ((w1_1).map Match.c) i1 ((i1 : Int))) := by
  intro rest
  induction rest with
  | nil =>
    intro i1 w1_1 hd1 h
    rw [d_impl_matchesOf_L1] at h
    refine AWr_succ fun N1 hN1 hS1 => ?_
    exact ((pre0.ge Token.c hd1).a [.hl 0 [5] [1]]).ex hΓ hN1 (hE1 (w1_1) h)
  | cons x1_ xs1 ih1 =>
    intro i1 w1_1 hd1 h
    rw [d_impl_matchesOf_L1] at h
    refine AWr_succ fun N1 hN1 hS1 => ?_
    obtain ⟨h20, h⟩ := den_ok h
    exact (((((pre0.lt Token.c hd1).i (own_ixl Token.c 2 (dc hd1))).w (show i1 = i1 ∧ ((y1).map Token.c)[i1]? = some [D.sl ((x1_.facts).map Fact.c), D.sl ((x1_.bind).map Pair.c)] ∧ takeOk [D.sl ((x1_.facts).map Fact.c), D.sl ((x1_.bind).map Pair.c)] = true from ⟨rfl, map_get Token.c (dc hd1), rfl⟩)).w (room_ok h20)).a [.tk [D.sl ((x1_.facts).map Fact.c), D.sl ((x1_.bind).map Pair.c)], .cn [2, 5, 11, 12, 13] [0, 7, 2]]).cs hΓ hS1 (d_impl_matchesOf_S1 a0_ y1 (((w1_1).map Match.c) ++ ([[D.str (a0_.name), D.sl ((x1_.facts).map Fact.c), D.sl ((x1_.bind).map Pair.c)]])) (i1 + 1) (IntKind.i64.wrap (((i1 : Int)) + (1)))) (by first | (simp only [iS hd1 hm1, mA] <;> rfl) | (simp only [iS hd1 hm1, mA, Fact.c, Pair.c, Cond.c, Action.c, Rule.c, Token.c, Match.c, Alpha.c, Node.c, Network.c, Stamp.c] <;> rfl)) (ih1 (i1 + 1) ((w1_1) ++ ([(⟨a0_.name, x1_.facts, x1_.bind⟩ : Match)])) (dn hd1) h)
theorem d_impl_matchesOf_good {a0_ : Rule} {a1_ : List Fact} {r : List Match} (h : d_impl_matchesOf a0_ a1_ = some r) : Good Tryz.prog 56 [D.agg (Rule.c a0_), D.sl ((a1_).map Fact.c)] (D.fr 41 3 ((r).map Match.c)) := by
  refine gd Tryz.func56 [[some (41, 3)]] 29 fun hr Γ hΓ => ?_
  rw [d_impl_matchesOf] at h
  obtain ⟨y1, h2, h⟩ := den_bind h
  obtain ⟨h21, h⟩ := den_ok h
  refine (((pre0.a [.pro 5]).g (d_impl_tokensOf_good h2)).a [.mz 2, .cn [2, 5, 11, 12, 13] [0, 1, 2]]).lp hΓ (d_impl_matchesOf_L1w hΓ (fun q1_0 h => ?_) (of_decide_eq_true h21) (y1) 0 (([] : List Match)) rfl h)
  have h := den_some h; subst h; exact pre0.ret hΓ
def d_impl_MatchesOf (a0_ : Rule) (a1_ : List Fact) : Option (List Match) := ((d_impl_IsRule (a0_)).bind fun y1 => (bif !(y1) then (some ([])) else ((d_impl_AreFacts (a1_)).bind fun y4 => (bif !(y4) then (some ([])) else ((d_impl_matchesOf (a0_) (a1_)).bind fun y7 => (some (y7)))))))
theorem d_impl_MatchesOf_good {a0_ : Rule} {a1_ : List Fact} {r : List Match} (h : d_impl_MatchesOf a0_ a1_ = some r) : Good Tryz.prog 11 [D.agg (Rule.c a0_), D.sl ((a1_).map Fact.c)] (D.fr 41 3 ((r).map Match.c)) := by
  refine gd Tryz.func11 [[some (41, 3)]] 16 fun hr Γ hΓ => ?_
  rw [d_impl_MatchesOf] at h
  obtain ⟨y1, h2, h⟩ := den_bind h
  obtain ⟨h3, h⟩ | ⟨h3, h⟩ := den_if h
  · cases h; exact (((pre0.g (d_impl_IsRule_good h2)).r 4 h3).T 1).ret hΓ
  · obtain ⟨y4, h5, h⟩ := den_bind h
    have o1_ := ((((pre0.g (d_impl_IsRule_good h2)).r 2 h3).g (d_impl_AreFacts_good h5)).r 2 h3)
    obtain ⟨h6, h⟩ | ⟨h6, h⟩ := den_if h
    · cases h; exact (o1_.b h6).ret hΓ
    · obtain ⟨y7, h8, h⟩ := den_bind h
      have h := den_some h; subst h; exact ((o1_.b h6).g (d_impl_matchesOf_good h8)).ret hΓ
def d_spec_IsFact_L1 (a0_ : Fact) (k1 : Option Bool) : List Bytes → Nat → Option Bool
  | [], i1 => (k1 )
  | x1_ :: xs1, i1 => ((d_spec_IsAtom (x1_)).bind fun y21 => (bif !(y21) then (some (false)) else (d_spec_IsFact_L1 a0_ k1 xs1 (i1 + 1) )))
def d_spec_IsFact (a0_ : Fact) : Option Bool := (d_spec_IsFact_L1 a0_ ((d_spec_IsName (a0_.rel)).bind fun y24 => (bif y24 then (some (decide (((((a0_.args).map tx).length : Int) : Int) ≤ (3)))) else (some (false)))) (a0_.args) 0 )
def d_spec_IsFact_S1 (a0_ : Fact) (ix_ : Int) : St := ⟨[(1, D.ptr 0 0), (3, D.int .i64 (ix_))], [Ob.box (Fact.c a0_)]⟩
theorem d_spec_IsFact_L1w (hΓ : Γ.nt = 27) {a0_ : Fact} {r : Bool} {k1 : Option Bool} (hE1 : k1 = some r → Ax Γ N Tryz.f67 (.q [[none]] (D.bool (r))) [1, 1] ⟨[(1, D.ptr 0 0)], [Ob.box (Fact.c a0_)]⟩) (hm1 : (a0_.args).length ≤ maxLen) : ∀ (rest : List Bytes) (i1 : Nat) , (a0_.args).drop i1 = rest → d_spec_IsFact_L1 a0_ k1 rest i1  = some r → Ar Γ N Tryz.f67 (.q [[none]] (D.bool (r))) [1, 0, 1, 0] (rest.length + 1) (d_spec_IsFact_S1 a0_ ((i1 : Int))) := by
  intro rest
  induction rest with
  | nil =>
    intro i1  hd1 h
    rw [d_spec_IsFact_L1] at h
    refine AWr_succ fun N1 hN1 hS1 => ?_
    exact ((pre0.ge tx hd1).a [.hl 0 [1] [0]]).ex hΓ hN1 (hE1 h)
  | cons x1_ xs1 ih1 =>
    intro i1  hd1 h
    rw [d_spec_IsFact_L1] at h
    refine AWr_succ fun N1 hN1 hS1 => ?_
    obtain ⟨y21, h22, h⟩ := den_bind h
    have o2_ := (((pre0.lt tx hd1).l (map_row tx 1 (dc hd1) rfl)).g (d_spec_IsAtom_good h22))
    obtain ⟨h23, h⟩ | ⟨h23, h⟩ := den_if h
    · have h := den_some h; subst h; exact (o2_.b h23).ret hΓ
    · exact ((o2_.b h23).a [.cn [1, 3] [0]]).ct hΓ hS1 (iS hd1 hm1) (ih1 (i1 + 1)  (dn hd1) h)
theorem d_spec_IsFact_good {a0_ : Fact} {r : Bool} (h : d_spec_IsFact a0_ = some r) : Good Tryz.prog 67 [D.agg (Fact.c a0_)] (D.bool (r)) := by
  refine gd Tryz.func67 [[none]] 27 fun hr Γ hΓ => ?_
  rw [d_spec_IsFact] at h
  refine (pre0.a [.cn [1, 3] [0]]).lp hΓ (d_spec_IsFact_L1w hΓ (fun h => ?_) (by have := (Rdb.sl (Rdb.agg (hr _ (List.mem_of_getElem? (i := 0) rfl)) (.sl ((a0_.args).map tx)) (by simp))).1; simpa using this) (a0_.args) 0  rfl h)
  obtain ⟨y24, h25, h⟩ := den_bind h
  obtain ⟨h26, h⟩ | ⟨h26, h⟩ := den_if h
  · cases h; exact ((pre0.g (d_spec_IsName_good h25)).r 5 h26).ret hΓ
  · have h := den_some h; subst h; exact ((pre0.g (d_spec_IsName_good h25)).r 5 h26).ret hΓ
def d_spec_AreFacts_L1 (a0_ : List Fact) (k1 : Option Bool) : List Fact → Nat → Option Bool
  | [], i1 => (k1 )
  | x1_ :: xs1, i1 => ((d_spec_IsFact (x1_)).bind fun y45 => (bif !(y45) then (some (false)) else (bif decide (((i1 : Int) : Int) > (0)) then ((atI (a0_) (IntKind.i64.wrap (((i1 : Int)) - (1)))).bind fun x49 => ((d_spec_CompareFacts (x49) (x1_)).bind fun y51 => (bif decide ((y51 : Int) ≥ (0)) then (some (false)) else (d_spec_AreFacts_L1 a0_ k1 xs1 (i1 + 1) )))) else (d_spec_AreFacts_L1 a0_ k1 xs1 (i1 + 1) ))))
def d_spec_AreFacts (a0_ : List Fact) : Option Bool := (d_spec_AreFacts_L1 a0_ (some (decide (((((a0_).map Fact.c).length : Int) : Int) ≤ (24)))) (a0_) 0 )
def d_spec_AreFacts_S1 (a0_ : List Fact) (ix_ : Int) : St := ⟨[(0, D.sl ((a0_).map Fact.c)), (3, D.int .i64 (ix_))], []⟩
theorem d_spec_AreFacts_L1w (hΓ : Γ.nt = 36) {a0_ : List Fact} {r : Bool} {k1 : Option Bool} (hE1 : k1 = some r → Ax Γ N Tryz.f14 (.q [[none]] (D.bool (r))) [1, 1] ⟨[(0, D.sl ((a0_).map Fact.c))], []⟩) (hm1 : (a0_).length ≤ maxLen) : ∀ (rest : List Fact) (i1 : Nat) , (a0_).drop i1 = rest → d_spec_AreFacts_L1 a0_ k1 rest i1  = some r → Ar Γ N Tryz.f14 (.q [[none]] (D.bool (r))) [1, 0, 1, 0] (rest.length + 1) (d_spec_AreFacts_S1 a0_ ((i1 : Int))) := by
  intro rest
  induction rest with
  | nil =>
    intro i1  hd1 h
    rw [d_spec_AreFacts_L1] at h
    refine AWr_succ fun N1 hN1 hS1 => ?_
    exact ((pre0.ge Fact.c hd1).a [.hl 0 [0] []]).ex hΓ hN1 (hE1 h)
  | cons x1_ xs1 ih1 =>
    intro i1  hd1 h
    rw [d_spec_AreFacts_L1] at h
    refine AWr_succ fun N1 hN1 hS1 => ?_
    obtain ⟨y45, h46, h⟩ := den_bind h
    have o4_ := ((((pre0.lt Fact.c hd1).a [.n 19]).l (map_row Fact.c 2 (dc hd1) rfl)).g (d_spec_IsFact_good h46))
    obtain ⟨h47, h⟩ | ⟨h47, h⟩ := den_if h
    · have h := den_some h; subst h; exact ((((o4_.r 3 h47).a [bF, bF, bF, bF, bF, bF, bF, bF, bF, bF, bF]).r 2 h47).T 1).ret hΓ
    · have o5_ := (o4_.r 3 h47)
      obtain ⟨h48, h⟩ | ⟨h48, h⟩ := den_if h
      · obtain ⟨x49, h50, h⟩ := den_bind h
        obtain ⟨y51, h52, h⟩ := den_bind h
        have o6_ := ((((((((((o5_.r 4 h48).l (at_row Fact.c 2 h50 rfl)).r 4 h48).l (map_row Fact.c 2 (dc hd1) rfl)).r 2 h48).g (d_spec_CompareFacts_good h52)).b h48).b h47).b h48).b h47)
        obtain ⟨h53, h⟩ | ⟨h53, h⟩ := den_if h
        · have h := den_some h; subst h; exact (o6_.b h53).ret hΓ
        · exact ((o6_.b h53).a [.cn [0, 3] []]).ct hΓ hS1 (iS hd1 hm1) (ih1 (i1 + 1)  (dn hd1) h)
      · exact ((((((o5_.r 11 h48).b h47).b h48).b h47).F 1).a [.cn [0, 3] []]).ct hΓ hS1 (iS hd1 hm1) (ih1 (i1 + 1)  (dn hd1) h)
theorem d_spec_AreFacts_good {a0_ : List Fact} {r : Bool} (h : d_spec_AreFacts a0_ = some r) : Good Tryz.prog 14 [D.sl ((a0_).map Fact.c)] (D.bool (r)) := by
  refine gd Tryz.func14 [[none]] 36 fun hr Γ hΓ => ?_
  rw [d_spec_AreFacts] at h
  refine (pre0.a [.cn [0, 3] []]).lp hΓ (d_spec_AreFacts_L1w hΓ (fun h => ?_) (by have := (Rdb.sl (hr _ (List.mem_of_getElem? (i := 0) rfl))).1; simpa using this) (a0_) 0  rfl h)
  cases h; exact pre0.ret hΓ
def d_spec_IsBinding_L1 (a0_ : List Pair) (k1 : Option Bool) : List Pair → Nat → Option Bool
  | [], i1 => (k1 )
  | x1_ :: xs1, i1 => ((d_spec_IsVar (x1_.var)).bind fun y49 => (bif !(y49) then (some (false)) else ((d_spec_IsAtom (x1_.value)).bind fun y52 => (bif !(y52) then (some (false)) else (bif decide (((i1 : Int) : Int) > (0)) then ((atI (a0_) (IntKind.i64.wrap (((i1 : Int)) - (1)))).bind fun x56 => (bif !(Op.bytesLess (x56.var) (x1_.var)) then (some (false)) else (d_spec_IsBinding_L1 a0_ k1 xs1 (i1 + 1) ))) else (d_spec_IsBinding_L1 a0_ k1 xs1 (i1 + 1) ))))))
def d_spec_IsBinding (a0_ : List Pair) : Option Bool := (d_spec_IsBinding_L1 a0_ (some (decide (((((a0_).map Pair.c).length : Int) : Int) ≤ (6)))) (a0_) 0 )
def d_spec_IsBinding_S1 (a0_ : List Pair) (ix_ : Int) : St := ⟨[(0, D.sl ((a0_).map Pair.c)), (3, D.int .i64 (ix_))], []⟩
theorem d_spec_IsBinding_L1w (hΓ : Γ.nt = 47) {a0_ : List Pair} {r : Bool} {k1 : Option Bool} (hE1 : k1 = some r → Ax Γ N Tryz.f70 (.q [[none]] (D.bool (r))) [1, 1] ⟨[(0, D.sl ((a0_).map Pair.c))], []⟩) (hm1 : (a0_).length ≤ maxLen) : ∀ (rest : List Pair) (i1 : Nat) , (a0_).drop i1 = rest → d_spec_IsBinding_L1 a0_ k1 rest i1  = some r → Ar Γ N Tryz.f70 (.q [[none]] (D.bool (r))) [1, 0, 1, 0] (rest.length + 1) (d_spec_IsBinding_S1 a0_ ((i1 : Int))) := by
  intro rest
  induction rest with
  | nil =>
    intro i1  hd1 h
    rw [d_spec_IsBinding_L1] at h
    refine AWr_succ fun N1 hN1 hS1 => ?_
    exact ((pre0.ge Pair.c hd1).a [.hl 0 [0] []]).ex hΓ hN1 (hE1 h)
  | cons x1_ xs1 ih1 =>
    intro i1  hd1 h
    rw [d_spec_IsBinding_L1] at h
    refine AWr_succ fun N1 hN1 hS1 => ?_
    obtain ⟨y49, h50, h⟩ := den_bind h
    have o5_ := ((((pre0.lt Pair.c hd1).a [.n 31]).l (map_row Pair.c 2 (dc hd1) rfl)).g (d_spec_IsVar_good h50))
    obtain ⟨h51, h⟩ | ⟨h51, h⟩ := den_if h
    · have h := den_some h; subst h; exact ((((o5_.r 8 h51).T 3).a [bF, bF, bF, bF, bF, bF, bF, bF, bF, bF, bF, bF]).T 3).ret hΓ
    · obtain ⟨y52, h53, h⟩ := den_bind h
      have o6_ := (((((o5_.r 3 h51).l (map_row Pair.c 2 (dc hd1) rfl)).r 3 h51).g (d_spec_IsAtom_good h53)).r 2 h51)
      obtain ⟨h54, h⟩ | ⟨h54, h⟩ := den_if h
      · have h := den_some h; subst h; exact ((((o6_.r 3 h54).a [bF, bF, bF, bF, bF, bF, bF, bF, bF, bF, bF, bF]).r 2 h54).T 1).ret hΓ
      · have o7_ := (o6_.r 3 h54)
        obtain ⟨h55, h⟩ | ⟨h55, h⟩ := den_if h
        · obtain ⟨x56, h57, h⟩ := den_bind h
          have o8_ := ((((((((o7_.r 4 h55).l (at_row Pair.c 2 h57 rfl)).r 5 h55).l (map_row Pair.c 2 (dc hd1) rfl)).r 3 h55).b h54).b h55).b h54)
          obtain ⟨h58, h⟩ | ⟨h58, h⟩ := den_if h
          · have h := den_some h; subst h; exact (o8_.b h58).ret hΓ
          · exact ((o8_.b h58).a [.cn [0, 3] []]).ct hΓ hS1 (iS hd1 hm1) (ih1 (i1 + 1)  (dn hd1) h)
        · exact ((((((o7_.r 12 h55).b h54).b h55).b h54).F 1).a [.cn [0, 3] []]).ct hΓ hS1 (iS hd1 hm1) (ih1 (i1 + 1)  (dn hd1) h)
theorem d_spec_IsBinding_good {a0_ : List Pair} {r : Bool} (h : d_spec_IsBinding a0_ = some r) : Good Tryz.prog 70 [D.sl ((a0_).map Pair.c)] (D.bool (r)) := by
  refine gd Tryz.func70 [[none]] 47 fun hr Γ hΓ => ?_
  rw [d_spec_IsBinding] at h
  refine (pre0.a [.cn [0, 3] []]).lp hΓ (d_spec_IsBinding_L1w hΓ (fun h => ?_) (by have := (Rdb.sl (hr _ (List.mem_of_getElem? (i := 0) rfl))).1; simpa using this) (a0_) 0  rfl h)
  cases h; exact pre0.ret hΓ
def d_spec_l3Copy (a0_ : List Pair) : Option (List Pair) := (bif room ((([] : List (List D))).length + ((a0_).map Pair.c).length) 32 then (some ((([] : List Pair)) ++ (a0_))) else none)
theorem d_spec_l3Copy_good {a0_ : List Pair} {r : List Pair} (h : d_spec_l3Copy a0_ = some r) : Good Tryz.prog 71 [D.sl ((a0_).map Pair.c)] (D.fr 137 2 ((r).map Pair.c)) := by
  refine gd Tryz.func71 [[some (137, 2)]] 6 fun hr Γ hΓ => ?_
  rw [d_spec_l3Copy] at h
  obtain ⟨h1, h⟩ := den_ok h
  cases h; exact (((pre0.w (room_ok h1)).w (show (∀ r ∈ ((a0_).map Pair.c), r.length = 2) ∧ (true = true → D.flatRows ((a0_).map Pair.c) = true) from ⟨by first | simp | (intro r hr; obtain ⟨x, _, rfl⟩ := List.mem_map.1 (List.mem_of_mem_take (List.mem_of_mem_drop hr)); rfl), by simp [D.flatRows, D.flat]⟩)).a [.pro 2, .fl true]).rts hΓ (D.fr 137 2 ((([] : List (List D))) ++ ((a0_).map Pair.c))) (by first | rfl | (simp only [mA] <;> rfl))
def d_spec_ValueOf_L1 (a0_ : List Pair) (a1_ : Bytes) (k1 : Option (Bytes × Bool)) : List Pair → Nat → Option (Bytes × Bool)
  | [], i1 => (k1 )
  | x1_ :: xs1, i1 => (bif (x1_.var : Bytes) == (a1_) then ((d_spec_IsVar (a1_)).bind fun y29 => (bif y29 then (some ((x1_.value, true))) else (d_spec_ValueOf_L1 a0_ a1_ k1 xs1 (i1 + 1) ))) else (d_spec_ValueOf_L1 a0_ a1_ k1 xs1 (i1 + 1) ))
def d_spec_ValueOf (a0_ : List Pair) (a1_ : Bytes) : Option (Bytes × Bool) := ((d_spec_IsAtom (a1_)).bind fun y1 => (bif y1 then (some ((a1_, true))) else (d_spec_ValueOf_L1 a0_ a1_ (some (([], false))) (a0_) 0 )))
def d_spec_ValueOf_S1 (a0_ : List Pair) (a1_ : Bytes) (ix_ : Int) : St := ⟨[(0, D.sl ((a0_).map Pair.c)), (1, D.str (a1_)), (6, D.int .i64 (ix_))], []⟩
theorem d_spec_ValueOf_L1w (hΓ : Γ.nt = 32) {a0_ : List Pair} {a1_ : Bytes} {r : Bytes × Bool} {k1 : Option (Bytes × Bool)} (hE1 : k1 = some r → Ax Γ N Tryz.f122 (.q [[none], [none]] (D.tup [D.str (r.1), D.bool (r.2)])) [1, 1, 1] ⟨[], []⟩) (hm1 : (a0_).length ≤ maxLen) : ∀ (rest : List Pair) (i1 : Nat) , (a0_).drop i1 = rest → d_spec_ValueOf_L1 a0_ a1_ k1 rest i1  = some r → Ar Γ N Tryz.f122 (.q [[none], [none]] (D.tup [D.str (r.1), D.bool (r.2)])) [1, 1, 0, 1, 0] (rest.length + 1) (d_spec_ValueOf_S1 a0_ a1_ ((i1 : Int))) := by
  intro rest
  induction rest with
  | nil =>
    intro i1  hd1 h
    rw [d_spec_ValueOf_L1] at h
    refine AWr_succ fun N1 hN1 hS1 => ?_
    exact ((pre0.ge Pair.c hd1).a [.hl 0 [] []]).ex hΓ hN1 (hE1 h)
  | cons x1_ xs1 ih1 =>
    intro i1  hd1 h
    rw [d_spec_ValueOf_L1] at h
    refine AWr_succ fun N1 hN1 hS1 => ?_
    have o3_ := ((pre0.lt Pair.c hd1).l (map_row Pair.c 2 (dc hd1) rfl))
    obtain ⟨h28, h⟩ | ⟨h28, h⟩ := den_if h
    · obtain ⟨y29, h30, h⟩ := den_bind h
      have o4_ := (((o3_.r 2 h28).g (d_spec_IsVar_good h30)).b h28)
      obtain ⟨h31, h⟩ | ⟨h31, h⟩ := den_if h
      · cases h; exact ((o4_.b h31).l (map_row Pair.c 2 (dc hd1) rfl)).ret hΓ
      · exact ((o4_.b h31).a [.cn [0, 1, 6] []]).ct hΓ hS1 (iS hd1 hm1) (ih1 (i1 + 1)  (dn hd1) h)
    · exact (((o3_.r 3 h28).F 1).a [.cn [0, 1, 6] []]).ct hΓ hS1 (iS hd1 hm1) (ih1 (i1 + 1)  (dn hd1) h)
theorem d_spec_ValueOf_good {a0_ : List Pair} {a1_ : Bytes} {r : Bytes × Bool} (h : d_spec_ValueOf a0_ a1_ = some r) : Good Tryz.prog 122 [D.sl ((a0_).map Pair.c), D.str (a1_)] (D.tup [D.str (r.1), D.bool (r.2)]) := by
  refine gd Tryz.func122 [[none], [none]] 32 fun hr Γ hΓ => ?_
  rw [d_spec_ValueOf] at h
  obtain ⟨y1, h2, h⟩ := den_bind h
  obtain ⟨h3, h⟩ | ⟨h3, h⟩ := den_if h
  · cases h; exact ((pre0.g (d_spec_IsAtom_good h2)).b h3).ret hΓ
  · refine (((pre0.g (d_spec_IsAtom_good h2)).b h3).a [.cn [0, 1, 6] []]).lp hΓ (d_spec_ValueOf_L1w hΓ (fun h => ?_) (by have := (Rdb.sl (hr _ (List.mem_of_getElem? (i := 0) rfl))).1; simpa using this) (a0_) 0  rfl h)
    cases h; exact pre0.ret hΓ
def d_spec_l3Set_L1 (a0_ : List Pair) (a1_ : Bytes) (a2_ : Bytes) (k1 : Bool → List Pair → Option (List Pair)) : List Pair → Nat → Bool → List Pair → Option (List Pair)
  | [], i1, v1_8, w1_0 => (k1 (v1_8) (w1_0))
  | x1_ :: xs1, i1, v1_8, w1_0 => (bif !(v1_8) then (bif !(Op.bytesLess (x1_.var) (a1_) || (x1_.var : Bytes) == (a1_)) then (bif room (((w1_0).map Pair.c).length + ([[D.str (a1_), D.str (a2_)]]).length) 32 then (bif room ((((w1_0).map Pair.c) ++ ([[D.str (a1_), D.str (a2_)]])).length + ([[D.str (x1_.var), D.str (x1_.value)]]).length) 32 then (d_spec_l3Set_L1 a0_ a1_ a2_ k1 xs1 (i1 + 1) (true) (((w1_0) ++ ([(⟨a1_, a2_⟩ : Pair)])) ++ ([x1_]))) else none) else none) else (bif room (((w1_0).map Pair.c).length + ([[D.str (x1_.var), D.str (x1_.value)]]).length) 32 then (d_spec_l3Set_L1 a0_ a1_ a2_ k1 xs1 (i1 + 1) (v1_8) ((w1_0) ++ ([x1_]))) else none)) else (bif room (((w1_0).map Pair.c).length + ([[D.str (x1_.var), D.str (x1_.value)]]).length) 32 then (d_spec_l3Set_L1 a0_ a1_ a2_ k1 xs1 (i1 + 1) (v1_8) ((w1_0) ++ ([x1_]))) else none))
def d_spec_l3Set (a0_ : List Pair) (a1_ : Bytes) (a2_ : Bytes) : Option (List Pair) := (d_spec_l3Set_L1 a0_ a1_ a2_ (fun (z1_8 : Bool) (q1_0 : List Pair) => (bif !(z1_8) then (bif room (((q1_0).map Pair.c).length + ([[D.str (a1_), D.str (a2_)]]).length) 32 then (some ((q1_0) ++ ([(⟨a1_, a2_⟩ : Pair)]))) else none) else (some (q1_0)))) (a0_) 0 (false) (([] : List Pair)))
def d_spec_l3Set_S1 (a0_ : List Pair) (a1_ : Bytes) (a2_ : Bytes) (v1_8 : Bool) (W1 : List (List D)) (ix_ : Int) : St := ⟨[(0, D.sl ((a0_).map Pair.c)), (1, D.str (a1_)), (2, D.str (a2_)), (7, D.acc 0), (8, D.bool (v1_8)), (9, D.int .i64 (ix_))], [Ob.row .uq 137 2 (W1)]⟩
theorem d_spec_l3Set_L1w (hΓ : Γ.nt = 50) {a0_ : List Pair} {a1_ : Bytes} {a2_ : Bytes} {r : List Pair} {k1 : Bool → List Pair → Option (List Pair)} (hE1 : ∀ (z1_8 : Bool) (q1_0 : List Pair), k1 z1_8 q1_0 = some r → Ax Γ N Tryz.f123 (.q [[some (137, 2)]] (D.fr 137 2 ((r).map Pair.c))) [1, 1, 1, 1] ⟨[(1, D.str (a1_)), (2, D.str (a2_)), (7, D.acc 0), (8, D.bool (z1_8))], [Ob.row .uq 137 2 ((q1_0).map Pair.c)]⟩) (hm1 : (a0_).length ≤ maxLen) : ∀ (rest : List Pair) (i1 : Nat) (v1_8 : Bool) (w1_0 : List Pair), (a0_).drop i1 = rest → d_spec_l3Set_L1 a0_ a1_ a2_ k1 rest i1 v1_8 w1_0 = some r → Ar Γ N Tryz.f123 (.q [[some (137, 2)]] (D.fr 137 2 ((r).map Pair.c))) [1, 1, 1, 0, 1, 0] (rest.length + 1) (d_spec_l3Set_S1 a0_ a1_ a2_ v1_8 ((w1_0).map Pair.c) ((i1 : Int))) := by
  intro rest
  induction rest with
  | nil =>
    intro i1 v1_8 w1_0 hd1 h
    rw [d_spec_l3Set_L1] at h
    refine AWr_succ fun N1 hN1 hS1 => ?_
    exact ((pre0.ge Pair.c hd1).a [.hl 0 [1, 2, 7, 8] [0]]).ex hΓ hN1 (hE1 (v1_8) (w1_0) h)
  | cons x1_ xs1 ih1 =>
    intro i1 v1_8 w1_0 hd1 h
    rw [d_spec_l3Set_L1] at h
    refine AWr_succ fun N1 hN1 hS1 => ?_
    obtain ⟨h48, h⟩ | ⟨h48, h⟩ := den_if h
    · have o2_ := ((((pre0.lt Pair.c hd1).r 3 h48).l (map_row Pair.c 2 (dc hd1) rfl)).r 5 h48)
      obtain ⟨h49, h⟩ | ⟨h49, h⟩ := den_if h
      · obtain ⟨h50, h⟩ := den_ok h
        obtain ⟨h51, h⟩ := den_ok h
        exact (((((o2_.b h49).w (room_ok h50)).l (map_row Pair.c 2 (dc hd1) rfl)).w (room_ok h51)).a [.cn [0, 1, 2, 7, 8, 9] [4]]).cs hΓ hS1 (d_spec_l3Set_S1 a0_ a1_ a2_ true ((((w1_0).map Pair.c) ++ ([[D.str (a1_), D.str (a2_)]])) ++ ([[D.str (x1_.var), D.str (x1_.value)]])) (IntKind.i64.wrap (((i1 : Int)) + (1)))) (by first | (simp only [iS hd1 hm1, mA] <;> rfl) | (simp only [iS hd1 hm1, mA, Fact.c, Pair.c, Cond.c, Action.c, Rule.c, Token.c, Match.c, Alpha.c, Node.c, Network.c, Stamp.c] <;> rfl)) (ih1 (i1 + 1) (true) (((w1_0) ++ ([(⟨a1_, a2_⟩ : Pair)])) ++ ([x1_])) (dn hd1) h)
      · obtain ⟨h52, h⟩ := den_ok h
        exact ((((o2_.b h49).l (map_row Pair.c 2 (dc hd1) rfl)).w (room_ok h52)).a [.cn [0, 1, 2, 7, 8, 9] [2]]).cs hΓ hS1 (d_spec_l3Set_S1 a0_ a1_ a2_ v1_8 (((w1_0).map Pair.c) ++ ([[D.str (x1_.var), D.str (x1_.value)]])) (IntKind.i64.wrap (((i1 : Int)) + (1)))) (by first | (simp only [iS hd1 hm1, mA] <;> rfl) | (simp only [iS hd1 hm1, mA, Fact.c, Pair.c, Cond.c, Action.c, Rule.c, Token.c, Match.c, Alpha.c, Node.c, Network.c, Stamp.c] <;> rfl)) (ih1 (i1 + 1) (v1_8) ((w1_0) ++ ([x1_])) (dn hd1) h)
    · obtain ⟨h53, h⟩ := den_ok h
      exact ((((((pre0.lt Pair.c hd1).r 8 h48).F 1).l (map_row Pair.c 2 (dc hd1) rfl)).w (room_ok h53)).a [.cn [0, 1, 2, 7, 8, 9] [2]]).cs hΓ hS1 (d_spec_l3Set_S1 a0_ a1_ a2_ v1_8 (((w1_0).map Pair.c) ++ ([[D.str (x1_.var), D.str (x1_.value)]])) (IntKind.i64.wrap (((i1 : Int)) + (1)))) (by first | (simp only [iS hd1 hm1, mA] <;> rfl) | (simp only [iS hd1 hm1, mA, Fact.c, Pair.c, Cond.c, Action.c, Rule.c, Token.c, Match.c, Alpha.c, Node.c, Network.c, Stamp.c] <;> rfl)) (ih1 (i1 + 1) (v1_8) ((w1_0) ++ ([x1_])) (dn hd1) h)
theorem d_spec_l3Set_good {a0_ : List Pair} {a1_ : Bytes} {a2_ : Bytes} {r : List Pair} (h : d_spec_l3Set a0_ a1_ a2_ = some r) : Good Tryz.prog 123 [D.sl ((a0_).map Pair.c), D.str (a1_), D.str (a2_)] (D.fr 137 2 ((r).map Pair.c)) := by
  refine gd Tryz.func123 [[some (137, 2)]] 50 fun hr Γ hΓ => ?_
  rw [d_spec_l3Set] at h
  refine (pre0.a [.cn [0, 1, 2, 7, 8, 9] [0]]).lp hΓ (d_spec_l3Set_L1w hΓ (fun z1_8 q1_0 h => ?_) (by have := (Rdb.sl (hr _ (List.mem_of_getElem? (i := 0) rfl))).1; simpa using this) (a0_) 0 (false) (([] : List Pair)) rfl h)
  obtain ⟨h54, h⟩ | ⟨h54, h⟩ := den_if h
  · obtain ⟨h55, h⟩ := den_ok h
    cases h; exact ((pre0.b h54).w (room_ok h55)).rts hΓ (D.fr 137 2 (((q1_0).map Pair.c) ++ ([[D.str (a1_), D.str (a2_)]]))) (by first | rfl | (simp only [mA] <;> rfl))
  · have h := den_some h; subst h; exact (pre0.b h54).ret hΓ
def d_spec_Extend (a0_ : List Pair) (a1_ : Bytes) (a2_ : Bytes) : Option ((List Pair) × Bool) := ((d_spec_IsBinding (a0_)).bind fun y1 => (bif !(y1) then (some ((([] : List Pair), false))) else ((d_spec_IsVar (a1_)).bind fun y4 => (bif !(y4) then (some ((([] : List Pair), false))) else ((d_spec_IsAtom (a2_)).bind fun y7 => (bif !(y7) then (some ((([] : List Pair), false))) else ((d_spec_ValueOf (a0_) (a1_)).bind fun y10 => (bif y10.2 then (bif (y10.1 : Bytes) == (a2_) then ((d_spec_l3Copy (a0_)).bind fun y14 => (some ((y14, true)))) else (some ((([] : List Pair), false)))) else (bif ((((a0_).map Pair.c).length : Int) : Int) == (6) then (some ((([] : List Pair), false))) else ((d_spec_l3Set (a0_) (a1_) (a2_)).bind fun y17 => (some ((y17, true)))))))))))))
theorem d_spec_Extend_good {a0_ : List Pair} {a1_ : Bytes} {a2_ : Bytes} {r : (List Pair) × Bool} (h : d_spec_Extend a0_ a1_ a2_ = some r) : Good Tryz.prog 73 [D.sl ((a0_).map Pair.c), D.str (a1_), D.str (a2_)] (D.tup [D.fr 137 2 ((r.1).map Pair.c), D.bool (r.2)]) := by
  refine gd Tryz.func73 [[some (137, 2)], [none]] 49 fun hr Γ hΓ => ?_
  rw [d_spec_Extend] at h
  obtain ⟨y1, h2, h⟩ := den_bind h
  obtain ⟨h3, h⟩ | ⟨h3, h⟩ := den_if h
  · cases h; exact (((pre0.g (d_spec_IsBinding_good h2)).r 4 h3).T 5).ret hΓ
  · obtain ⟨y4, h5, h⟩ := den_bind h
    have o1_ := ((((pre0.g (d_spec_IsBinding_good h2)).r 2 h3).g (d_spec_IsVar_good h5)).r 2 h3)
    obtain ⟨h6, h⟩ | ⟨h6, h⟩ := den_if h
    · cases h; exact ((o1_.r 4 h6).T 1).ret hΓ
    · obtain ⟨y7, h8, h⟩ := den_bind h
      have o2_ := (((o1_.r 2 h6).g (d_spec_IsAtom_good h8)).r 2 h6)
      obtain ⟨h9, h⟩ | ⟨h9, h⟩ := den_if h
      · cases h; exact (o2_.b h9).ret hΓ
      · obtain ⟨y10, h11, h⟩ := den_bind h
        have o3_ := ((o2_.b h9).g (d_spec_ValueOf_good h11))
        obtain ⟨h12, h⟩ | ⟨h12, h⟩ := den_if h
        · have o4_ := (o3_.r 4 h12)
          obtain ⟨h13, h⟩ | ⟨h13, h⟩ := den_if h
          · obtain ⟨y14, h15, h⟩ := den_bind h
            cases h; exact ((o4_.b h13).g (d_spec_l3Copy_good h15)).ret hΓ
          · cases h; exact (((o4_.b h13).r 4 h12).T 1).ret hΓ
        · have o5_ := (((o3_.r 4 h12).F 1).r 4 h12)
          obtain ⟨h16, h⟩ | ⟨h16, h⟩ := den_if h
          · cases h; exact (o5_.b h16).ret hΓ
          · obtain ⟨y17, h18, h⟩ := den_bind h
            cases h; exact ((o5_.b h16).g (d_spec_l3Set_good h18)).ret hΓ
def d_spec_MatchFact_L1 (a0_ : Fact) (a1_ : Fact) (k1 : List Pair → Option ((List Pair) × Bool)) : List Bytes → Nat → List Pair → Option ((List Pair) × Bool)
  | [], i1, w1_2 => (k1 (w1_2))
  | x1_ :: xs1, i1, w1_2 => ((d_spec_IsAtom (x1_)).bind fun y80 => (bif y80 then ((atI (a1_.args) ((i1 : Int))).bind fun x83 => (bif !((x1_ : Bytes) == (x83)) then (some ((([] : List Pair), false))) else (d_spec_MatchFact_L1 a0_ a1_ k1 xs1 (i1 + 1) (w1_2)))) else ((atI (a1_.args) ((i1 : Int))).bind fun x86 => ((d_spec_Extend (w1_2) (x1_) (x86)).bind fun y88 => (bif !(y88.2) then (some ((([] : List Pair), false))) else (d_spec_MatchFact_L1 a0_ a1_ k1 xs1 (i1 + 1) (y88.1)))))))
def d_spec_MatchFact (a0_ : Fact) (a1_ : Fact) (a2_ : List Pair) : Option ((List Pair) × Bool) := ((d_spec_IsPattern (a0_)).bind fun y1 => (bif !(y1) then (some ((([] : List Pair), false))) else ((d_spec_IsFact (a1_)).bind fun y4 => (bif !(y4) then (some ((([] : List Pair), false))) else ((d_spec_IsBinding (a2_)).bind fun y7 => (bif !(y7) then (some ((([] : List Pair), false))) else (bif !((a0_.rel : Bytes) == (a1_.rel)) then (some ((([] : List Pair), false))) else (bif ((((a0_.args).map tx).length : Int) : Int) != ((((a1_.args).map tx).length : Int)) then (some ((([] : List Pair), false))) else ((d_spec_l3Copy (a2_)).bind fun y12 => (d_spec_MatchFact_L1 a0_ a1_ (fun (q1_0 : List Pair) => (some ((q1_0, true)))) (a0_.args) 0 (y12)))))))))))
def d_spec_MatchFact_S1 (a0_ : Fact) (a1_ : Fact) (W0 : List (List D)) (ix_ : Int) : St := ⟨[(3, D.ptr 0 0), (4, D.ptr 1 0), (8, D.acc 2), (9, D.int .i64 (ix_))], [Ob.box (Fact.c a0_), Ob.box (Fact.c a1_), Ob.row .uq 137 2 (W0)]⟩
theorem d_spec_MatchFact_L1w (hΓ : Γ.nt = 89) {a0_ : Fact} {a1_ : Fact} {r : (List Pair) × Bool} {k1 : List Pair → Option ((List Pair) × Bool)} (hE1 : ∀ (q1_0 : List Pair), k1 q1_0 = some r → Ax Γ N Tryz.f16 (.q [[some (137, 2)], [none]] (D.tup [D.fr 137 2 ((r.1).map Pair.c), D.bool (r.2)])) [1, 1, 1, 1] ⟨[(8, D.acc 0)], [Ob.row .uq 137 2 ((q1_0).map Pair.c)]⟩) (hm1 : (a0_.args).length ≤ maxLen) : ∀ (rest : List Bytes) (i1 : Nat) (w1_2 : List Pair), (a0_.args).drop i1 = rest → d_spec_MatchFact_L1 a0_ a1_ k1 rest i1 w1_2 = some r → Ar Γ N Tryz.f16 (.q [[some (137, 2)], [none]] (D.tup [D.fr 137 2 ((r.1).map Pair.c), D.bool (r.2)])) [1, 1, 1, 0, 1, 0] (rest.length + 1) (d_spec_MatchFact_S1 a0_ a1_ ((w1_2).map Pair.c) ((i1 : Int))) := by
  intro rest
  induction rest with
  | nil =>
    intro i1 w1_2 hd1 h
    rw [d_spec_MatchFact_L1] at h
    refine AWr_succ fun N1 hN1 hS1 => ?_
    exact ((pre0.ge tx hd1).a [.hl 0 [8] [2]]).ex hΓ hN1 (hE1 (w1_2) h)
  | cons x1_ xs1 ih1 =>
    intro i1 w1_2 hd1 h
    rw [d_spec_MatchFact_L1] at h
    refine AWr_succ fun N1 hN1 hS1 => ?_
    obtain ⟨y80, h81, h⟩ := den_bind h
    have o4_ := (((pre0.lt tx hd1).l (map_row tx 1 (dc hd1) rfl)).g (d_spec_IsAtom_good h81))
    obtain ⟨h82, h⟩ | ⟨h82, h⟩ := den_if h
    · obtain ⟨x83, h84, h⟩ := den_bind h
      have o5_ := ((((o4_.b h82).a [.n 10]).l (map_row tx 1 (dc hd1) rfl)).l (at_row tx 1 h84 rfl))
      obtain ⟨h85, h⟩ | ⟨h85, h⟩ := den_if h
      · cases h; exact (o5_.b h85).ret hΓ
      · exact ((o5_.b h85).a [.cn [3, 4, 8, 9] [0, 1, 2]]).ct hΓ hS1 (iS hd1 hm1) (ih1 (i1 + 1) (w1_2) (dn hd1) h)
    · obtain ⟨x86, h87, h⟩ := den_bind h
      obtain ⟨y88, h89, h⟩ := den_bind h
      have o6_ := (((((o4_.b h82).a [.n 16]).l (map_row tx 1 (dc hd1) rfl)).l (at_row tx 1 h87 rfl)).g (d_spec_Extend_good h89))
      obtain ⟨h90, h⟩ | ⟨h90, h⟩ := den_if h
      · cases h; exact (o6_.b h90).ret hΓ
      · exact ((o6_.b h90).a [.cn [3, 4, 8, 9] [0, 1, 3]]).ct hΓ hS1 (iS hd1 hm1) (ih1 (i1 + 1) (y88.1) (dn hd1) h)
theorem d_spec_MatchFact_good {a0_ : Fact} {a1_ : Fact} {a2_ : List Pair} {r : (List Pair) × Bool} (h : d_spec_MatchFact a0_ a1_ a2_ = some r) : Good Tryz.prog 16 [D.agg (Fact.c a0_), D.agg (Fact.c a1_), D.sl ((a2_).map Pair.c)] (D.tup [D.fr 137 2 ((r.1).map Pair.c), D.bool (r.2)]) := by
  refine gd Tryz.func16 [[some (137, 2)], [none]] 89 fun hr Γ hΓ => ?_
  rw [d_spec_MatchFact] at h
  obtain ⟨y1, h2, h⟩ := den_bind h
  obtain ⟨h3, h⟩ | ⟨h3, h⟩ := den_if h
  · cases h; exact (((pre0.g (d_spec_IsPattern_good h2)).r 4 h3).T 19).ret hΓ
  · obtain ⟨y4, h5, h⟩ := den_bind h
    have o7_ := ((((pre0.g (d_spec_IsPattern_good h2)).r 2 h3).g (d_spec_IsFact_good h5)).r 2 h3)
    obtain ⟨h6, h⟩ | ⟨h6, h⟩ := den_if h
    · cases h; exact ((o7_.r 4 h6).T 15).ret hΓ
    · obtain ⟨y7, h8, h⟩ := den_bind h
      have o8_ := (((o7_.r 2 h6).g (d_spec_IsBinding_good h8)).r 2 h6)
      obtain ⟨h9, h⟩ | ⟨h9, h⟩ := den_if h
      · cases h; exact ((o8_.r 6 h9).T 9).ret hΓ
      · have o9_ := (o8_.r 6 h9)
        obtain ⟨h10, h⟩ | ⟨h10, h⟩ := den_if h
        · cases h; exact ((o9_.r 8 h10).T 1).ret hΓ
        · have o10_ := (o9_.r 8 h10)
          obtain ⟨h11, h⟩ | ⟨h11, h⟩ := den_if h
          · cases h; exact (o10_.b h11).ret hΓ
          · obtain ⟨y12, h13, h⟩ := den_bind h
            refine (((o10_.b h11).g (d_spec_l3Copy_good h13)).a [.cn [3, 4, 8, 9] [0, 1, 2]]).lp hΓ (d_spec_MatchFact_L1w hΓ (fun q1_0 h => ?_) (by have := (Rdb.sl (Rdb.agg (hr _ (List.mem_of_getElem? (i := 0) rfl)) (.sl ((a0_.args).map tx)) (by simp))).1; simpa using this) (a0_.args) 0 (y12) rfl h)
            cases h; exact pre0.ret hΓ
def d_spec_MatchingFacts_L1 (a0_ : Fact) (a1_ : List Pair) (a2_ : List Fact) (k1 : List Fact → Option (List Fact)) : List Fact → Nat → List Fact → Option (List Fact)
  | [], i1, w1_1 => (k1 (w1_1))
  | x1_ :: xs1, i1, w1_1 => ((d_spec_MatchFact (a0_) (x1_) (a1_)).bind fun y42 => (bif y42.2 then ((d_spec_l2Copy (x1_)).bind fun y45 => (bif room (((w1_1).map Fact.c).length + ([[D.str (y45.rel), D.sl ((y45.args).map tx)]]).length) 40 then (d_spec_MatchingFacts_L1 a0_ a1_ a2_ k1 xs1 (i1 + 1) ((w1_1) ++ ([y45]))) else none)) else (d_spec_MatchingFacts_L1 a0_ a1_ a2_ k1 xs1 (i1 + 1) (w1_1))))
def d_spec_MatchingFacts (a0_ : Fact) (a1_ : List Pair) (a2_ : List Fact) : Option (List Fact) := (d_spec_MatchingFacts_L1 a0_ a1_ a2_ (fun (q1_0 : List Fact) => (some (q1_0))) (a2_) 0 (([] : List Fact)))
def d_spec_MatchingFacts_S1 (a0_ : Fact) (a1_ : List Pair) (a2_ : List Fact) (W0 : List (List D)) (ix_ : Int) : St := ⟨[(1, D.sl ((a1_).map Pair.c)), (2, D.sl ((a2_).map Fact.c)), (3, D.ptr 0 0), (7, D.acc 1), (8, D.int .i64 (ix_))], [Ob.box (Fact.c a0_), Ob.row .uq 42 2 (W0)]⟩
theorem d_spec_MatchingFacts_L1w (hΓ : Γ.nt = 38) {a0_ : Fact} {a1_ : List Pair} {a2_ : List Fact} {r : List Fact} {k1 : List Fact → Option (List Fact)} (hE1 : ∀ (q1_0 : List Fact), k1 q1_0 = some r → Ax Γ N Tryz.f74 (.q [[some (42, 2)]] (D.fr 42 2 ((r).map Fact.c))) [1, 1, 1] ⟨[(7, D.acc 0)], [Ob.row .uq 42 2 ((q1_0).map Fact.c)]⟩) (hm1 : (a2_).length ≤ maxLen) : ∀ (rest : List Fact) (i1 : Nat) (w1_1 : List Fact), (a2_).drop i1 = rest → d_spec_MatchingFacts_L1 a0_ a1_ a2_ k1 rest i1 w1_1 = some r → Ar Γ N Tryz.f74 (.q [[some (42, 2)]] (D.fr 42 2 ((r).map Fact.c))) [1, 1, 0, 1, 0] (rest.length + 1) (d_spec_MatchingFacts_S1 a0_ a1_ a2_ ((w1_1).map Fact.c) ((i1 : Int))) := by
  intro rest
  induction rest with
  | nil =>
    intro i1 w1_1 hd1 h
    rw [d_spec_MatchingFacts_L1] at h
    refine AWr_succ fun N1 hN1 hS1 => ?_
    exact ((pre0.ge Fact.c hd1).a [.hl 0 [7] [1]]).ex hΓ hN1 (hE1 (w1_1) h)
  | cons x1_ xs1 ih1 =>
    intro i1 w1_1 hd1 h
    rw [d_spec_MatchingFacts_L1] at h
    refine AWr_succ fun N1 hN1 hS1 => ?_
    obtain ⟨y42, h43, h⟩ := den_bind h
    have o2_ := ((((pre0.lt Fact.c hd1).a [.n 11]).l (map_row Fact.c 2 (dc hd1) rfl)).g (d_spec_MatchFact_good h43))
    obtain ⟨h44, h⟩ | ⟨h44, h⟩ := den_if h
    · obtain ⟨y45, h46, h⟩ := den_bind h
      obtain ⟨h47, h⟩ := den_ok h
      exact (((((o2_.b h44).l (map_row Fact.c 2 (dc hd1) rfl)).g (d_spec_l2Copy_good h46)).w (room_ok h47)).a [.cn [1, 2, 3, 7, 8] [0, 5]]).cs hΓ hS1 (d_spec_MatchingFacts_S1 a0_ a1_ a2_ (((w1_1).map Fact.c) ++ ([[D.str (y45.rel), D.sl ((y45.args).map tx)]])) (IntKind.i64.wrap (((i1 : Int)) + (1)))) (by first | (simp only [iS hd1 hm1, mA] <;> rfl) | (simp only [iS hd1 hm1, mA, Fact.c, Pair.c, Cond.c, Action.c, Rule.c, Token.c, Match.c, Alpha.c, Node.c, Network.c, Stamp.c] <;> rfl)) (ih1 (i1 + 1) ((w1_1) ++ ([y45])) (dn hd1) h)
    · exact ((o2_.b h44).a [.cn [1, 2, 3, 7, 8] [0, 1]]).ct hΓ hS1 (iS hd1 hm1) (ih1 (i1 + 1) (w1_1) (dn hd1) h)
theorem d_spec_MatchingFacts_good {a0_ : Fact} {a1_ : List Pair} {a2_ : List Fact} {r : List Fact} (h : d_spec_MatchingFacts a0_ a1_ a2_ = some r) : Good Tryz.prog 74 [D.agg (Fact.c a0_), D.sl ((a1_).map Pair.c), D.sl ((a2_).map Fact.c)] (D.fr 42 2 ((r).map Fact.c)) := by
  refine gd Tryz.func74 [[some (42, 2)]] 38 fun hr Γ hΓ => ?_
  rw [d_spec_MatchingFacts] at h
  refine (pre0.a [.cn [1, 2, 3, 7, 8] [0, 1]]).lp hΓ (d_spec_MatchingFacts_L1w hΓ (fun q1_0 h => ?_) (by have := (Rdb.sl (hr _ (List.mem_of_getElem? (i := 2) rfl))).1; simpa using this) (a2_) 0 (([] : List Fact)) rfl h)
  have h := den_some h; subst h; exact pre0.ret hΓ
def d_spec_IsNumber (a0_ : Bytes) : Option Bool := ((d_spec_ParseInt (a0_)).bind fun y1 => (some (y1.2)))
theorem d_spec_IsNumber_good {a0_ : Bytes} {r : Bool} (h : d_spec_IsNumber a0_ = some r) : Good Tryz.prog 125 [D.str (a0_)] (D.bool (r)) := by
  refine gd Tryz.func125 [[none]] 11 fun hr Γ hΓ => ?_
  rw [d_spec_IsNumber] at h
  obtain ⟨y1, h2, h⟩ := den_bind h
  cases h; exact (pre0.g (d_spec_ParseInt_good h2)).ret hΓ
def d_spec_HoldsTest (a0_ : Cond) (a1_ : List Pair) : Option Bool := ((d_spec_IsTest (a0_)).bind fun y1 => (bif !(y1) then (some (false)) else ((d_spec_IsBinding (a1_)).bind fun y4 => (bif !(y4) then (some (false)) else ((d_spec_ValueOf (a1_) (a0_.left)).bind fun y7 => ((d_spec_ValueOf (a1_) (a0_.right)).bind fun y9 => (bif !(y7.2) then (some (false)) else (bif !(y9.2) then (some (false)) else (bif (a0_.kind : Int) == (3) then (some ((y7.1 : Bytes) == (y9.1))) else (bif (a0_.kind : Int) == (4) then (some (!((y7.1 : Bytes) == (y9.1)))) else ((d_spec_IsNumber (y7.1)).bind fun y15 => (bif y15 then ((d_spec_IsNumber (y9.1)).bind fun y18 => (bif y18 then ((d_spec_CompareAtoms (y7.1) (y9.1)).bind fun y21 => (some (decide ((y21 : Int) < (0))))) else (some (false)))) else (some (false))))))))))))))
theorem d_spec_HoldsTest_good {a0_ : Cond} {a1_ : List Pair} {r : Bool} (h : d_spec_HoldsTest a0_ a1_ = some r) : Good Tryz.prog 75 [D.agg (Cond.c a0_), D.sl ((a1_).map Pair.c)] (D.bool (r)) := by
  refine gd Tryz.func75 [[none]] 61 fun hr Γ hΓ => ?_
  rw [d_spec_HoldsTest] at h
  obtain ⟨y1, h2, h⟩ := den_bind h
  obtain ⟨h3, h⟩ | ⟨h3, h⟩ := den_if h
  · have h := den_some h; subst h; exact (((pre0.g (d_spec_IsTest_good h2)).r 4 h3).T 1).ret hΓ
  · obtain ⟨y4, h5, h⟩ := den_bind h
    have o1_ := ((((pre0.g (d_spec_IsTest_good h2)).r 2 h3).g (d_spec_IsBinding_good h5)).r 2 h3)
    obtain ⟨h6, h⟩ | ⟨h6, h⟩ := den_if h
    · have h := den_some h; subst h; exact (o1_.b h6).ret hΓ
    · obtain ⟨y7, h8, h⟩ := den_bind h
      obtain ⟨y9, h10, h⟩ := den_bind h
      have o2_ := (((o1_.b h6).g (d_spec_ValueOf_good h8)).g (d_spec_ValueOf_good h10))
      obtain ⟨h11, h⟩ | ⟨h11, h⟩ := den_if h
      · have h := den_some h; subst h; exact ((o2_.r 3 h11).T 1).ret hΓ
      · have o3_ := (o2_.r 3 h11)
        obtain ⟨h12, h⟩ | ⟨h12, h⟩ := den_if h
        · have h := den_some h; subst h; exact (o3_.b h12).ret hΓ
        · obtain ⟨h13, h⟩ | ⟨h13, h⟩ := den_if h
          · cases h; exact ((o3_.b h12).b h13).ret hΓ
          · have o4_ := ((o3_.b h12).b h13)
            obtain ⟨h14, h⟩ | ⟨h14, h⟩ := den_if h
            · cases h; exact (o4_.b h14).ret hΓ
            · obtain ⟨y15, h16, h⟩ := den_bind h
              have o5_ := ((o4_.b h14).g (d_spec_IsNumber_good h16))
              obtain ⟨h17, h⟩ | ⟨h17, h⟩ := den_if h
              · obtain ⟨y18, h19, h⟩ := den_bind h
                have o6_ := (((o5_.r 2 h17).g (d_spec_IsNumber_good h19)).b h17)
                obtain ⟨h20, h⟩ | ⟨h20, h⟩ := den_if h
                · obtain ⟨y21, h22, h⟩ := den_bind h
                  cases h; exact (((o6_.r 3 h20).g (d_spec_CompareAtoms_good h22)).r 2 h20).ret hΓ
                · have h := den_some h; subst h; exact (o6_.r 5 h20).ret hΓ
              · have h := den_some h; subst h; exact ((o5_.r 3 h17).F 5).ret hΓ
def d_spec_HoldsCond (a0_ : Cond) (a1_ : List Pair) (a2_ : List Fact) : Option Bool := ((d_spec_IsCond (a0_)).bind fun y1 => (bif !(y1) then (some (false)) else ((d_spec_IsBinding (a1_)).bind fun y4 => (bif !(y4) then (some (false)) else (bif (a0_.kind : Int) == (1) then ((d_spec_MatchingFacts (a0_.pat) (a1_) (a2_)).bind fun y8 => (some (decide (((((y8).map Fact.c).length : Int) : Int) > (0))))) else (bif (a0_.kind : Int) == (2) then ((d_spec_MatchingFacts (a0_.pat) (a1_) (a2_)).bind fun y11 => (some (((((y11).map Fact.c).length : Int) : Int) == (0)))) else ((d_spec_HoldsTest (a0_) (a1_)).bind fun y13 => (some (y13)))))))))
theorem d_spec_HoldsCond_good {a0_ : Cond} {a1_ : List Pair} {a2_ : List Fact} {r : Bool} (h : d_spec_HoldsCond a0_ a1_ a2_ = some r) : Good Tryz.prog 17 [D.agg (Cond.c a0_), D.sl ((a1_).map Pair.c), D.sl ((a2_).map Fact.c)] (D.bool (r)) := by
  refine gd Tryz.func17 [[none]] 38 fun hr Γ hΓ => ?_
  rw [d_spec_HoldsCond] at h
  obtain ⟨y1, h2, h⟩ := den_bind h
  obtain ⟨h3, h⟩ | ⟨h3, h⟩ := den_if h
  · have h := den_some h; subst h; exact (((pre0.g (d_spec_IsCond_good h2)).r 4 h3).T 1).ret hΓ
  · obtain ⟨y4, h5, h⟩ := den_bind h
    have o1_ := ((((pre0.g (d_spec_IsCond_good h2)).r 2 h3).g (d_spec_IsBinding_good h5)).r 2 h3)
    obtain ⟨h6, h⟩ | ⟨h6, h⟩ := den_if h
    · have h := den_some h; subst h; exact (o1_.b h6).ret hΓ
    · obtain ⟨h7, h⟩ | ⟨h7, h⟩ := den_if h
      · obtain ⟨y8, h9, h⟩ := den_bind h
        cases h; exact (((o1_.b h6).b h7).g (d_spec_MatchingFacts_good h9)).ret hΓ
      · have o2_ := ((o1_.b h6).b h7)
        obtain ⟨h10, h⟩ | ⟨h10, h⟩ := den_if h
        · obtain ⟨y11, h12, h⟩ := den_bind h
          cases h; exact ((o2_.b h10).g (d_spec_MatchingFacts_good h12)).ret hΓ
        · obtain ⟨y13, h14, h⟩ := den_bind h
          have h := den_some h; subst h; exact ((o2_.b h10).g (d_spec_HoldsTest_good h14)).ret hΓ
def d_impl_sameTexts_L1 (a0_ : List Bytes) (a1_ : List Bytes) (k1 : Option Bool) : List Bytes → Nat → Option Bool
  | [], i1 => (k1 )
  | x1_ :: xs1, i1 => ((atI (a1_) ((i1 : Int))).bind fun x22 => (bif !((x1_ : Bytes) == (x22)) then (some (false)) else (d_impl_sameTexts_L1 a0_ a1_ k1 xs1 (i1 + 1) )))
def d_impl_sameTexts (a0_ : List Bytes) (a1_ : List Bytes) : Option Bool := (bif ((((a0_).map tx).length : Int) : Int) != ((((a1_).map tx).length : Int)) then (some (false)) else (d_impl_sameTexts_L1 a0_ a1_ (some (true)) (a0_) 0 ))
def d_impl_sameTexts_S1 (a0_ : List Bytes) (a1_ : List Bytes) (ix_ : Int) : St := ⟨[(0, D.sl ((a0_).map tx)), (1, D.sl ((a1_).map tx)), (12, D.int .i64 ((((a0_).map tx).length : Int))), (13, D.int .i64 (ix_))], []⟩
theorem d_impl_sameTexts_L1w (hΓ : Γ.nt = 26) {a0_ : List Bytes} {a1_ : List Bytes} {r : Bool} {k1 : Option Bool} (hE1 : k1 = some r → Ax Γ N Tryz.f211 (.q [[none]] (D.bool (r))) [1, 1, 1] ⟨[], []⟩) (hm1 : (a0_).length ≤ maxLen) : ∀ (rest : List Bytes) (i1 : Nat) , (a0_).drop i1 = rest → d_impl_sameTexts_L1 a0_ a1_ k1 rest i1  = some r → Ar Γ N Tryz.f211 (.q [[none]] (D.bool (r))) [1, 1, 0, 1, 0] (rest.length + 1) (d_impl_sameTexts_S1 a0_ a1_ ((i1 : Int))) := by
  intro rest
  induction rest with
  | nil =>
    intro i1  hd1 h
    rw [d_impl_sameTexts_L1] at h
    refine AWr_succ fun N1 hN1 hS1 => ?_
    exact ((pre0.ge tx hd1).a [.hl 0 [] []]).ex hΓ hN1 (hE1 h)
  | cons x1_ xs1 ih1 =>
    intro i1  hd1 h
    rw [d_impl_sameTexts_L1] at h
    refine AWr_succ fun N1 hN1 hS1 => ?_
    obtain ⟨x22, h23, h⟩ := den_bind h
    have o2_ := ((((pre0.lt tx hd1).a [.n 8]).l (map_row tx 1 (dc hd1) rfl)).l (at_row tx 1 h23 rfl))
    obtain ⟨h24, h⟩ | ⟨h24, h⟩ := den_if h
    · have h := den_some h; subst h; exact (o2_.b h24).ret hΓ
    · exact ((o2_.b h24).a [.cn [0, 1, 12, 13] []]).ct hΓ hS1 (iS hd1 hm1) (ih1 (i1 + 1)  (dn hd1) h)
theorem d_impl_sameTexts_good {a0_ : List Bytes} {a1_ : List Bytes} {r : Bool} (h : d_impl_sameTexts a0_ a1_ = some r) : Good Tryz.prog 211 [D.sl ((a0_).map tx), D.sl ((a1_).map tx)] (D.bool (r)) := by
  refine gd Tryz.func211 [[none]] 26 fun hr Γ hΓ => ?_
  rw [d_impl_sameTexts] at h
  obtain ⟨h1, h⟩ | ⟨h1, h⟩ := den_if h
  · have h := den_some h; subst h; exact (pre0.b h1).ret hΓ
  · refine ((pre0.b h1).a [.cn [0, 1, 12, 13] []]).lp hΓ (d_impl_sameTexts_L1w hΓ (fun h => ?_) (by have := (Rdb.sl (hr _ (List.mem_of_getElem? (i := 0) rfl))).1; simpa using this) (a0_) 0  rfl h)
    have h := den_some h; subst h; exact pre0.ret hΓ
def d_impl_sameFact (a0_ : Fact) (a1_ : Fact) : Option Bool := (bif (a0_.rel : Bytes) == (a1_.rel) then ((d_impl_sameTexts (a0_.args) (a1_.args)).bind fun y2 => (some (y2))) else (some (false)))
theorem d_impl_sameFact_good {a0_ : Fact} {a1_ : Fact} {r : Bool} (h : d_impl_sameFact a0_ a1_ = some r) : Good Tryz.prog 190 [D.agg (Fact.c a0_), D.agg (Fact.c a1_)] (D.bool (r)) := by
  refine gd Tryz.func190 [[none]] 17 fun hr Γ hΓ => ?_
  rw [d_impl_sameFact] at h
  obtain ⟨h1, h⟩ | ⟨h1, h⟩ := den_if h
  · obtain ⟨y2, h3, h⟩ := den_bind h
    have h := den_some h; subst h; exact (((pre0.r 5 h1).g (d_impl_sameTexts_good h3)).b h1).ret hΓ
  · have h := den_some h; subst h; exact (pre0.r 6 h1).ret hΓ
def d_impl_SameFacts_L1 (a0_ : List Fact) (a1_ : List Fact) (k1 : Option Bool) : List Fact → Nat → Option Bool
  | [], i1 => (k1 )
  | x1_ :: xs1, i1 => ((atI (a1_) ((i1 : Int))).bind fun x30 => ((d_impl_sameFact (x1_) (x30)).bind fun y32 => (bif !(y32) then (some (false)) else (d_impl_SameFacts_L1 a0_ a1_ k1 xs1 (i1 + 1) ))))
def d_impl_SameFacts (a0_ : List Fact) (a1_ : List Fact) : Option Bool := (bif ((((a0_).map Fact.c).length : Int) : Int) != ((((a1_).map Fact.c).length : Int)) then (some (false)) else (d_impl_SameFacts_L1 a0_ a1_ (some (true)) (a0_) 0 ))
def d_impl_SameFacts_S1 (a0_ : List Fact) (a1_ : List Fact) (ix_ : Int) : St := ⟨[(0, D.sl ((a0_).map Fact.c)), (1, D.sl ((a1_).map Fact.c)), (12, D.int .i64 ((((a0_).map Fact.c).length : Int))), (13, D.int .i64 (ix_))], []⟩
theorem d_impl_SameFacts_L1w (hΓ : Γ.nt = 27) {a0_ : List Fact} {a1_ : List Fact} {r : Bool} {k1 : Option Bool} (hE1 : k1 = some r → Ax Γ N Tryz.f165 (.q [[none]] (D.bool (r))) [1, 1, 1] ⟨[], []⟩) (hm1 : (a0_).length ≤ maxLen) : ∀ (rest : List Fact) (i1 : Nat) , (a0_).drop i1 = rest → d_impl_SameFacts_L1 a0_ a1_ k1 rest i1  = some r → Ar Γ N Tryz.f165 (.q [[none]] (D.bool (r))) [1, 1, 0, 1, 0] (rest.length + 1) (d_impl_SameFacts_S1 a0_ a1_ ((i1 : Int))) := by
  intro rest
  induction rest with
  | nil =>
    intro i1  hd1 h
    rw [d_impl_SameFacts_L1] at h
    refine AWr_succ fun N1 hN1 hS1 => ?_
    exact ((pre0.ge Fact.c hd1).a [.hl 0 [] []]).ex hΓ hN1 (hE1 h)
  | cons x1_ xs1 ih1 =>
    intro i1  hd1 h
    rw [d_impl_SameFacts_L1] at h
    refine AWr_succ fun N1 hN1 hS1 => ?_
    obtain ⟨x30, h31, h⟩ := den_bind h
    obtain ⟨y32, h33, h⟩ := den_bind h
    have o2_ := (((((pre0.lt Fact.c hd1).a [.n 8]).l (map_row Fact.c 2 (dc hd1) rfl)).l (at_row Fact.c 2 h31 rfl)).g (d_impl_sameFact_good h33))
    obtain ⟨h34, h⟩ | ⟨h34, h⟩ := den_if h
    · have h := den_some h; subst h; exact (o2_.b h34).ret hΓ
    · exact ((o2_.b h34).a [.cn [0, 1, 12, 13] []]).ct hΓ hS1 (iS hd1 hm1) (ih1 (i1 + 1)  (dn hd1) h)
theorem d_impl_SameFacts_good {a0_ : List Fact} {a1_ : List Fact} {r : Bool} (h : d_impl_SameFacts a0_ a1_ = some r) : Good Tryz.prog 165 [D.sl ((a0_).map Fact.c), D.sl ((a1_).map Fact.c)] (D.bool (r)) := by
  refine gd Tryz.func165 [[none]] 27 fun hr Γ hΓ => ?_
  rw [d_impl_SameFacts] at h
  obtain ⟨h1, h⟩ | ⟨h1, h⟩ := den_if h
  · have h := den_some h; subst h; exact (pre0.b h1).ret hΓ
  · refine ((pre0.b h1).a [.cn [0, 1, 12, 13] []]).lp hΓ (d_impl_SameFacts_L1w hΓ (fun h => ?_) (by have := (Rdb.sl (hr _ (List.mem_of_getElem? (i := 0) rfl))).1; simpa using this) (a0_) 0  rfl h)
    have h := den_some h; subst h; exact pre0.ret hΓ
def d_impl_samePairs_L1 (a0_ : List Pair) (a1_ : List Pair) (k1 : Option Bool) : List Pair → Nat → Option Bool
  | [], i1 => (k1 )
  | x1_ :: xs1, i1 => ((atI (a1_) ((i1 : Int))).bind fun x22 => (bif !((x1_.var : Bytes) == (x22.var) && (x1_.value : Bytes) == (x22.value)) then (some (false)) else (d_impl_samePairs_L1 a0_ a1_ k1 xs1 (i1 + 1) )))
def d_impl_samePairs (a0_ : List Pair) (a1_ : List Pair) : Option Bool := (bif ((((a0_).map Pair.c).length : Int) : Int) != ((((a1_).map Pair.c).length : Int)) then (some (false)) else (d_impl_samePairs_L1 a0_ a1_ (some (true)) (a0_) 0 ))
def d_impl_samePairs_S1 (a0_ : List Pair) (a1_ : List Pair) (ix_ : Int) : St := ⟨[(0, D.sl ((a0_).map Pair.c)), (1, D.sl ((a1_).map Pair.c)), (12, D.int .i64 ((((a0_).map Pair.c).length : Int))), (13, D.int .i64 (ix_))], []⟩
theorem d_impl_samePairs_L1w (hΓ : Γ.nt = 26) {a0_ : List Pair} {a1_ : List Pair} {r : Bool} {k1 : Option Bool} (hE1 : k1 = some r → Ax Γ N Tryz.f166 (.q [[none]] (D.bool (r))) [1, 1, 1] ⟨[], []⟩) (hm1 : (a0_).length ≤ maxLen) : ∀ (rest : List Pair) (i1 : Nat) , (a0_).drop i1 = rest → d_impl_samePairs_L1 a0_ a1_ k1 rest i1  = some r → Ar Γ N Tryz.f166 (.q [[none]] (D.bool (r))) [1, 1, 0, 1, 0] (rest.length + 1) (d_impl_samePairs_S1 a0_ a1_ ((i1 : Int))) := by
  intro rest
  induction rest with
  | nil =>
    intro i1  hd1 h
    rw [d_impl_samePairs_L1] at h
    refine AWr_succ fun N1 hN1 hS1 => ?_
    exact ((pre0.ge Pair.c hd1).a [.hl 0 [] []]).ex hΓ hN1 (hE1 h)
  | cons x1_ xs1 ih1 =>
    intro i1  hd1 h
    rw [d_impl_samePairs_L1] at h
    refine AWr_succ fun N1 hN1 hS1 => ?_
    obtain ⟨x22, h23, h⟩ := den_bind h
    have o2_ := ((((pre0.lt Pair.c hd1).a [.n 8]).l (map_row Pair.c 2 (dc hd1) rfl)).l (at_row Pair.c 2 h23 rfl))
    obtain ⟨h24, h⟩ | ⟨h24, h⟩ := den_if h
    · have h := den_some h; subst h; exact (o2_.b h24).ret hΓ
    · exact ((o2_.b h24).a [.cn [0, 1, 12, 13] []]).ct hΓ hS1 (iS hd1 hm1) (ih1 (i1 + 1)  (dn hd1) h)
theorem d_impl_samePairs_good {a0_ : List Pair} {a1_ : List Pair} {r : Bool} (h : d_impl_samePairs a0_ a1_ = some r) : Good Tryz.prog 166 [D.sl ((a0_).map Pair.c), D.sl ((a1_).map Pair.c)] (D.bool (r)) := by
  refine gd Tryz.func166 [[none]] 26 fun hr Γ hΓ => ?_
  rw [d_impl_samePairs] at h
  obtain ⟨h1, h⟩ | ⟨h1, h⟩ := den_if h
  · have h := den_some h; subst h; exact (pre0.b h1).ret hΓ
  · refine ((pre0.b h1).a [.cn [0, 1, 12, 13] []]).lp hΓ (d_impl_samePairs_L1w hΓ (fun h => ?_) (by have := (Rdb.sl (hr _ (List.mem_of_getElem? (i := 0) rfl))).1; simpa using this) (a0_) 0  rfl h)
    have h := den_some h; subst h; exact pre0.ret hΓ
def d_impl_SameMatch (a0_ : Match) (a1_ : Match) : Option Bool := (bif (a0_.rule : Bytes) == (a1_.rule) then ((d_impl_SameFacts (a0_.facts) (a1_.facts)).bind fun y2 => (bif y2 then ((d_impl_samePairs (a0_.bind) (a1_.bind)).bind fun y5 => (some (y5))) else (some (false)))) else (some (false)))
theorem d_impl_SameMatch_good {a0_ : Match} {a1_ : Match} {r : Bool} (h : d_impl_SameMatch a0_ a1_ = some r) : Good Tryz.prog 126 [D.agg (Match.c a0_), D.agg (Match.c a1_)] (D.bool (r)) := by
  refine gd Tryz.func126 [[none]] 24 fun hr Γ hΓ => ?_
  rw [d_impl_SameMatch] at h
  obtain ⟨h1, h⟩ | ⟨h1, h⟩ := den_if h
  · obtain ⟨y2, h3, h⟩ := den_bind h
    have o1_ := (((pre0.r 5 h1).g (d_impl_SameFacts_good h3)).b h1)
    obtain ⟨h4, h⟩ | ⟨h4, h⟩ := den_if h
    · obtain ⟨y5, h6, h⟩ := den_bind h
      have h := den_some h; subst h; exact (((o1_.r 5 h4).g (d_impl_samePairs_good h6)).b h4).ret hΓ
    · have h := den_some h; subst h; exact (o1_.r 6 h4).ret hΓ
  · have h := den_some h; subst h; exact ((pre0.r 6 h1).F 6).ret hΓ
def d_impl_hasMatch_L1 (a0_ : List Match) (a1_ : Match) (k1 : Option Bool) : List Match → Nat → Option Bool
  | [], i1 => (k1 )
  | x1_ :: xs1, i1 => ((d_impl_SameMatch (x1_) (a1_)).bind fun y21 => (bif y21 then (some (true)) else (d_impl_hasMatch_L1 a0_ a1_ k1 xs1 (i1 + 1) )))
def d_impl_hasMatch (a0_ : List Match) (a1_ : Match) : Option Bool := (d_impl_hasMatch_L1 a0_ a1_ (some (false)) (a0_) 0 )
def d_impl_hasMatch_S1 (a0_ : List Match) (a1_ : Match) (ix_ : Int) : St := ⟨[(3, D.ptr 0 0), (7, D.sl ((a0_).map Match.c)), (8, D.int .i64 ((((a0_).map Match.c).length : Int))), (9, D.int .i64 (ix_))], [Ob.box (Match.c a1_)]⟩
theorem d_impl_hasMatch_L1w (hΓ : Γ.nt = 17) {a0_ : List Match} {a1_ : Match} {r : Bool} {k1 : Option Bool} (hE1 : k1 = some r → Ax Γ N Tryz.f76 (.q [[none]] (D.bool (r))) [1, 1] ⟨[], []⟩) (hm1 : (a0_).length ≤ maxLen) : ∀ (rest : List Match) (i1 : Nat) , (a0_).drop i1 = rest → d_impl_hasMatch_L1 a0_ a1_ k1 rest i1  = some r → Ar Γ N Tryz.f76 (.q [[none]] (D.bool (r))) [1, 0, 1, 0] (rest.length + 1) (d_impl_hasMatch_S1 a0_ a1_ ((i1 : Int))) := by
  intro rest
  induction rest with
  | nil =>
    intro i1  hd1 h
    rw [d_impl_hasMatch_L1] at h
    refine AWr_succ fun N1 hN1 hS1 => ?_
    exact ((pre0.ge Match.c hd1).a [.hl 0 [] []]).ex hΓ hN1 (hE1 h)
  | cons x1_ xs1 ih1 =>
    intro i1  hd1 h
    rw [d_impl_hasMatch_L1] at h
    refine AWr_succ fun N1 hN1 hS1 => ?_
    obtain ⟨y21, h22, h⟩ := den_bind h
    have o2_ := (((pre0.lt Match.c hd1).l (map_row Match.c 3 (dc hd1) rfl)).g (d_impl_SameMatch_good h22))
    obtain ⟨h23, h⟩ | ⟨h23, h⟩ := den_if h
    · have h := den_some h; subst h; exact (o2_.b h23).ret hΓ
    · exact ((o2_.b h23).a [.cn [3, 7, 8, 9] [0]]).ct hΓ hS1 (iS hd1 hm1) (ih1 (i1 + 1)  (dn hd1) h)
theorem d_impl_hasMatch_good {a0_ : List Match} {a1_ : Match} {r : Bool} (h : d_impl_hasMatch a0_ a1_ = some r) : Good Tryz.prog 76 [D.sl ((a0_).map Match.c), D.agg (Match.c a1_)] (D.bool (r)) := by
  refine gd Tryz.func76 [[none]] 17 fun hr Γ hΓ => ?_
  rw [d_impl_hasMatch] at h
  refine (pre0.a [.cn [3, 7, 8, 9] [0]]).lp hΓ (d_impl_hasMatch_L1w hΓ (fun h => ?_) (by have := (Rdb.sl (hr _ (List.mem_of_getElem? (i := 0) rfl))).1; simpa using this) (a0_) 0  rfl h)
  have h := den_some h; subst h; exact pre0.ret hΓ
def d_impl_IsMatch (a0_ : Rule) (a1_ : List Fact) (a2_ : Match) : Option Bool := ((d_impl_MatchesOf (a0_) (a1_)).bind fun y1 => ((d_impl_hasMatch (y1) (a2_)).bind fun y3 => (some (y3))))
theorem d_impl_IsMatch_good {a0_ : Rule} {a1_ : List Fact} {a2_ : Match} {r : Bool} (h : d_impl_IsMatch a0_ a1_ a2_ = some r) : Good Tryz.prog 18 [D.agg (Rule.c a0_), D.sl ((a1_).map Fact.c), D.agg (Match.c a2_)] (D.bool (r)) := by
  refine gd Tryz.func18 [[none]] 12 fun hr Γ hΓ => ?_
  rw [d_impl_IsMatch] at h
  obtain ⟨y1, h2, h⟩ := den_bind h
  obtain ⟨y3, h4, h⟩ := den_bind h
  have h := den_some h; subst h; exact (((pre0.a [.n 4]).g (d_impl_MatchesOf_good h2)).g (d_impl_hasMatch_good h4)).ret hΓ
end Go.Cx
