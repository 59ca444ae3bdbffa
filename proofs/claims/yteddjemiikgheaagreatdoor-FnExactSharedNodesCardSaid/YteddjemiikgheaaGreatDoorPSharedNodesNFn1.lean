/- What functions of the program compute, and the walks that show it. No condition. -/
import Derived.Test.YteddjemiikgheaaGreatDoorNLay
namespace Go.Cx
open Go.RowKit Go.Proofs
set_option linter.unusedVariables false
set_option linter.unusedSimpArgs false
set_option maxRecDepth 100000
variable {Γ : Ctx} {N : Nat → St → Prop}
def d_spec_l1In (a0_ : Int) (a1_ : Int) (a2_ : Int) : Option Bool := (bif decide ((a0_ : Int) ≥ (a1_)) then (some (decide ((a0_ : Int) ≤ (a2_)))) else (some (false)))
theorem d_spec_l1In_good {a0_ : Int} {a1_ : Int} {a2_ : Int} {r : Bool} (h : d_spec_l1In a0_ a1_ a2_ = some r) : Good Tryz.prog 66 [D.int .i64 (a0_), D.int .i64 (a1_), D.int .i64 (a2_)] (D.bool (r)) := by
  refine gd Tryz.func66 [[none]] 15 fun hr Γ hΓ => ?_
  rw [d_spec_l1In] at h
  obtain ⟨h1, h⟩ | ⟨h1, h⟩ := den_if h
  · cases h; exact (pre0.r 4 h1).ret hΓ
  · have h := den_some h; subst h; exact (pre0.r 4 h1).ret hΓ
def d_spec_IsAtom_L1 (a0_ : Bytes) (k1 : Option Bool) : Nat → Int → Option Bool
  | 0, _ => none
  | n1 + 1, v1_3 => (bif decide ((v1_3 : Int) < (((a0_).length : Int))) then ((atI (a0_) (v1_3)).bind fun b29 => ((d_spec_l1In (IntKind.i64.wrap (b29.toNat)) (97) (122)).bind fun y31 => (bif !(y31) then ((d_spec_l1In (IntKind.i64.wrap (b29.toNat)) (48) (57)).bind fun y34 => (bif !(y34) then (some (false)) else (d_spec_IsAtom_L1 a0_ k1 n1 (IntKind.i64.wrap ((v1_3) + (1)))))) else (d_spec_IsAtom_L1 a0_ k1 n1 (IntKind.i64.wrap ((v1_3) + (1))))))) else (k1 ))
def d_spec_IsAtom (a0_ : Bytes) : Option Bool := (d_spec_IsAtom_L1 a0_ ((d_spec_l1In (((a0_).length : Int)) (1) (8)).bind fun y37 => (some (y37))) fuel (0))
def d_spec_IsAtom_S1 (a0_ : Bytes) (v1_3 : Int) : St := ⟨[(0, D.str (a0_)), (3, D.int .i64 (v1_3))], []⟩
theorem d_spec_IsAtom_L1w (hΓ : Γ.nt = 27) {a0_ : Bytes} {r : Bool} {k1 : Option Bool} (hE1 : k1 = some r → Ax Γ N Tryz.f121 (.q [[none]] (D.bool (r))) [1, 1] ⟨[(0, D.str (a0_))], []⟩) : ∀ (n1 : Nat) (v1_3 : Int), d_spec_IsAtom_L1 a0_ k1 n1 v1_3 = some r → Ar Γ N Tryz.f121 (.q [[none]] (D.bool (r))) [1, 0, 1, 0] n1 (d_spec_IsAtom_S1 a0_ v1_3) := by
  intro n
  induction n with
  | zero => intro v1_3 h; simp [d_spec_IsAtom_L1] at h
  | succ n1 ih1 =>
    intro v1_3 h
    rw [d_spec_IsAtom_L1] at h
    refine AWr_succ fun N1 hN1 hS1 => ?_
    obtain ⟨h28, h⟩ | ⟨h28, h⟩ := den_if h
    · obtain ⟨b29, h30, h⟩ := den_bind h
      obtain ⟨y31, h32, h⟩ := den_bind h
      have o3_ := (((pre0.b h28).c h30).g (d_spec_l1In_good h32))
      obtain ⟨h33, h⟩ | ⟨h33, h⟩ := den_if h
      · obtain ⟨y34, h35, h⟩ := den_bind h
        have o4_ := (((((o3_.r 3 h33).c h30).r 2 h33).g (d_spec_l1In_good h35)).r 2 h33)
        obtain ⟨h36, h⟩ | ⟨h36, h⟩ := den_if h
        · have h := den_some h; subst h; exact (o4_.b h36).ret hΓ
        · exact ((o4_.b h36).a [.cn [0, 3] []]).cf hΓ hS1 (ih1 (IntKind.i64.wrap ((v1_3) + (1))) h)
      · exact (((o3_.r 7 h33).F 1).a [.cn [0, 3] []]).cf hΓ hS1 (ih1 (IntKind.i64.wrap ((v1_3) + (1))) h)
    · exact ((pre0.b h28).a [.hl 0 [0] []]).ex hΓ hN1 (hE1 h)
theorem d_spec_IsAtom_good {a0_ : Bytes} {r : Bool} (h : d_spec_IsAtom a0_ = some r) : Good Tryz.prog 121 [D.str (a0_)] (D.bool (r)) := by
  refine gd Tryz.func121 [[none]] 27 fun hr Γ hΓ => ?_
  rw [d_spec_IsAtom] at h
  refine (pre0.a [.cn [0, 3] []]).lp hΓ (d_spec_IsAtom_L1w hΓ (fun h => ?_) fuel (0) h)
  obtain ⟨y37, h38, h⟩ := den_bind h
  have h := den_some h; subst h; exact (pre0.g (d_spec_l1In_good h38)).ret hΓ
def d_spec_IsVar (a0_ : Bytes) : Option Bool := (bif decide ((((a0_).length : Int) : Int) > (1)) then ((atI (a0_) (0)).bind fun b2 => (bif (b2.toNat : Int) == (63) then ((pcut (a0_).length (some (D.int .i64 (1))) (none)).bind fun p => (fun l5 u6 => ((d_spec_IsAtom (((a0_).take u6).drop l5)).bind fun y8 => (some (y8)))) p.1 p.2) else (some (false)))) else (some (false)))
theorem d_spec_IsVar_good {a0_ : Bytes} {r : Bool} (h : d_spec_IsVar a0_ = some r) : Good Tryz.prog 125 [D.str (a0_)] (D.bool (r)) := by
  refine gd Tryz.func125 [[none]] 16 fun hr Γ hΓ => ?_
  rw [d_spec_IsVar] at h
  obtain ⟨h1, h⟩ | ⟨h1, h⟩ := den_if h
  · obtain ⟨b2, h3, h⟩ := den_bind h
    have o1_ := (((pre0.r 2 h1).c h3).r 2 h1)
    obtain ⟨h4, h⟩ | ⟨h4, h⟩ := den_if h
    · obtain ⟨⟨l5, u6⟩, h7, h⟩ := den_bind h
      obtain ⟨y8, h9, h⟩ := den_bind h
      have h := den_some h; subst h; exact ((((((o1_.r 2 h4).w h7).a [.cut l5 u6]).b h4).g (d_spec_IsAtom_good h9)).b h4).ret hΓ
    · have h := den_some h; subst h; exact (o1_.r 4 h4).ret hΓ
  · have h := den_some h; subst h; exact ((pre0.r 4 h1).F 4).ret hΓ
def d_spec_l1Put_L1 (a0_ : List Bytes) (a1_ : Bytes) (k1 : Bool → List Bytes → Option (List Bytes)) : List Bytes → Nat → Bool → List Bytes → Option (List Bytes)
  | [], i1, v1_6, w1_0 => (k1 (v1_6) (w1_0))
  | x1_ :: xs1, i1, v1_6, w1_0 => (bif !(v1_6) then (bif !(Op.bytesLess (x1_) (a1_)) then (bif !((x1_ : Bytes) == (a1_)) then (bif room (((w1_0).map tx).length + ([[D.str (a1_)]]).length) 16 then (bif room ((((w1_0).map tx) ++ ([[D.str (a1_)]])).length + ([[D.str (x1_)]]).length) 16 then (d_spec_l1Put_L1 a0_ a1_ k1 xs1 (i1 + 1) (true) (((w1_0) ++ ([a1_])) ++ ([x1_]))) else none) else none) else (bif room (((w1_0).map tx).length + ([[D.str (x1_)]]).length) 16 then (d_spec_l1Put_L1 a0_ a1_ k1 xs1 (i1 + 1) (true) ((w1_0) ++ ([x1_]))) else none)) else (bif room (((w1_0).map tx).length + ([[D.str (x1_)]]).length) 16 then (d_spec_l1Put_L1 a0_ a1_ k1 xs1 (i1 + 1) (v1_6) ((w1_0) ++ ([x1_]))) else none)) else (bif room (((w1_0).map tx).length + ([[D.str (x1_)]]).length) 16 then (d_spec_l1Put_L1 a0_ a1_ k1 xs1 (i1 + 1) (v1_6) ((w1_0) ++ ([x1_]))) else none))
def d_spec_l1Put (a0_ : List Bytes) (a1_ : Bytes) : Option (List Bytes) := (d_spec_l1Put_L1 a0_ a1_ (fun (z1_6 : Bool) (q1_0 : List Bytes) => (bif !(z1_6) then (bif room (((q1_0).map tx).length + ([[D.str (a1_)]]).length) 16 then (some ((q1_0) ++ ([a1_]))) else none) else (some (q1_0)))) (a0_) 0 (false) (([] : List Bytes)))
def d_spec_l1Put_S1 (a0_ : List Bytes) (a1_ : Bytes) (v1_6 : Bool) (W1 : List (List D)) (ix_ : Int) : St := ⟨[(0, D.sl ((a0_).map tx)), (1, D.str (a1_)), (5, D.acc 0), (6, D.bool (v1_6)), (7, D.int .i64 (ix_))], [Ob.row .uq 9 1 (W1)]⟩
theorem d_spec_l1Put_L1w (hΓ : Γ.nt = 49) {a0_ : List Bytes} {a1_ : Bytes} {r : List Bytes} {k1 : Bool → List Bytes → Option (List Bytes)} (hE1 : ∀ (z1_6 : Bool) (q1_0 : List Bytes), k1 z1_6 q1_0 = some r → Ax Γ N Tryz.f122 (.q [[some (9, 1)]] (D.fr 9 1 ((r).map tx))) [1, 1, 1, 1] ⟨[(1, D.str (a1_)), (5, D.acc 0), (6, D.bool (z1_6))], [Ob.row .uq 9 1 ((q1_0).map tx)]⟩) (hm1 : (a0_).length ≤ maxLen) : ∀ (rest : List Bytes) (i1 : Nat) (v1_6 : Bool) (w1_0 : List Bytes), (a0_).drop i1 = rest → d_spec_l1Put_L1 a0_ a1_ k1 rest i1 v1_6 w1_0 = some r → Ar Γ N Tryz.f122 (.q [[some (9, 1)]] (D.fr 9 1 ((r).map tx))) [1, 1, 1, 0, 1, 0] (rest.length + 1) (d_spec_l1Put_S1 a0_ a1_ v1_6 ((w1_0).map tx) ((i1 : Int))) := by
  intro rest
  induction rest with
  | nil =>
    intro i1 v1_6 w1_0 hd1 h
    rw [d_spec_l1Put_L1] at h
    refine AWr_succ fun N1 hN1 hS1 => ?_
    exact ((pre0.ge tx hd1).a [.hl 0 [1, 5, 6] [0]]).ex hΓ hN1 (hE1 (v1_6) (w1_0) h)
  | cons x1_ xs1 ih1 =>
    intro i1 v1_6 w1_0 hd1 h
    rw [d_spec_l1Put_L1] at h
    refine AWr_succ fun N1 hN1 hS1 => ?_
    obtain ⟨h58, h⟩ | ⟨h58, h⟩ := den_if h
    · have o3_ := ((((pre0.lt tx hd1).r 3 h58).l (map_row tx 1 (dc hd1) rfl)).r 4 h58)
      obtain ⟨h59, h⟩ | ⟨h59, h⟩ := den_if h
      · have o4_ := ((o3_.b h59).l (map_row tx 1 (dc hd1) rfl))
        obtain ⟨h60, h⟩ | ⟨h60, h⟩ := den_if h
        · obtain ⟨h61, h⟩ := den_ok h
          obtain ⟨h62, h⟩ := den_ok h
          exact (((((o4_.b h60).w (room_ok h61)).l (map_row tx 1 (dc hd1) rfl)).w (room_ok h62)).a [.cn [0, 1, 5, 6, 7] [4]]).cs hΓ hS1 (d_spec_l1Put_S1 a0_ a1_ true ((((w1_0).map tx) ++ ([[D.str (a1_)]])) ++ ([[D.str (x1_)]])) (IntKind.i64.wrap (((i1 : Int)) + (1)))) (by first | (simp only [iS hd1 hm1, mA] <;> rfl) | (simp only [iS hd1 hm1, mA, Fact.c, Pair.c, Cond.c, Action.c, Rule.c, Token.c, Match.c, Alpha.c, Node.c, Network.c, Stamp.c] <;> rfl)) (ih1 (i1 + 1) (true) (((w1_0) ++ ([a1_])) ++ ([x1_])) (dn hd1) h)
        · obtain ⟨h63, h⟩ := den_ok h
          exact ((((o4_.b h60).l (map_row tx 1 (dc hd1) rfl)).w (room_ok h63)).a [.cn [0, 1, 5, 6, 7] [2]]).cs hΓ hS1 (d_spec_l1Put_S1 a0_ a1_ true (((w1_0).map tx) ++ ([[D.str (x1_)]])) (IntKind.i64.wrap (((i1 : Int)) + (1)))) (by first | (simp only [iS hd1 hm1, mA] <;> rfl) | (simp only [iS hd1 hm1, mA, Fact.c, Pair.c, Cond.c, Action.c, Rule.c, Token.c, Match.c, Alpha.c, Node.c, Network.c, Stamp.c] <;> rfl)) (ih1 (i1 + 1) (true) ((w1_0) ++ ([x1_])) (dn hd1) h)
      · obtain ⟨h64, h⟩ := den_ok h
        exact ((((o3_.b h59).l (map_row tx 1 (dc hd1) rfl)).w (room_ok h64)).a [.cn [0, 1, 5, 6, 7] [2]]).cs hΓ hS1 (d_spec_l1Put_S1 a0_ a1_ v1_6 (((w1_0).map tx) ++ ([[D.str (x1_)]])) (IntKind.i64.wrap (((i1 : Int)) + (1)))) (by first | (simp only [iS hd1 hm1, mA] <;> rfl) | (simp only [iS hd1 hm1, mA, Fact.c, Pair.c, Cond.c, Action.c, Rule.c, Token.c, Match.c, Alpha.c, Node.c, Network.c, Stamp.c] <;> rfl)) (ih1 (i1 + 1) (v1_6) ((w1_0) ++ ([x1_])) (dn hd1) h)
    · obtain ⟨h65, h⟩ := den_ok h
      exact ((((((pre0.lt tx hd1).r 7 h58).F 1).l (map_row tx 1 (dc hd1) rfl)).w (room_ok h65)).a [.cn [0, 1, 5, 6, 7] [2]]).cs hΓ hS1 (d_spec_l1Put_S1 a0_ a1_ v1_6 (((w1_0).map tx) ++ ([[D.str (x1_)]])) (IntKind.i64.wrap (((i1 : Int)) + (1)))) (by first | (simp only [iS hd1 hm1, mA] <;> rfl) | (simp only [iS hd1 hm1, mA, Fact.c, Pair.c, Cond.c, Action.c, Rule.c, Token.c, Match.c, Alpha.c, Node.c, Network.c, Stamp.c] <;> rfl)) (ih1 (i1 + 1) (v1_6) ((w1_0) ++ ([x1_])) (dn hd1) h)
theorem d_spec_l1Put_good {a0_ : List Bytes} {a1_ : Bytes} {r : List Bytes} (h : d_spec_l1Put a0_ a1_ = some r) : Good Tryz.prog 122 [D.sl ((a0_).map tx), D.str (a1_)] (D.fr 9 1 ((r).map tx)) := by
  refine gd Tryz.func122 [[some (9, 1)]] 49 fun hr Γ hΓ => ?_
  rw [d_spec_l1Put] at h
  refine (pre0.a [.cn [0, 1, 5, 6, 7] [0]]).lp hΓ (d_spec_l1Put_L1w hΓ (fun z1_6 q1_0 h => ?_) (by have := (Rdb.sl (hr _ (List.mem_of_getElem? (i := 0) rfl))).1; simpa using this) (a0_) 0 (false) (([] : List Bytes)) rfl h)
  obtain ⟨h66, h⟩ | ⟨h66, h⟩ := den_if h
  · obtain ⟨h67, h⟩ := den_ok h
    cases h; exact ((pre0.b h66).w (room_ok h67)).rts hΓ (D.fr 9 1 (((q1_0).map tx) ++ ([[D.str (a1_)]]))) (by first | rfl | (simp only [mA] <;> rfl))
  · have h := den_some h; subst h; exact (pre0.b h66).ret hΓ
def d_spec_VarsOf_L1 (a0_ : Fact) (k1 : List Bytes → Option (List Bytes)) : List Bytes → Nat → List Bytes → Option (List Bytes)
  | [], i1, w1_1 => (k1 (w1_1))
  | x1_ :: xs1, i1, w1_1 => ((d_spec_IsVar (x1_)).bind fun y37 => (bif y37 then ((d_spec_l1Put (w1_1) (x1_)).bind fun y40 => (d_spec_VarsOf_L1 a0_ k1 xs1 (i1 + 1) (y40))) else (d_spec_VarsOf_L1 a0_ k1 xs1 (i1 + 1) (w1_1))))
def d_spec_VarsOf (a0_ : Fact) : Option (List Bytes) := (d_spec_VarsOf_L1 a0_ (fun (q1_0 : List Bytes) => (some (q1_0))) (a0_.args) 0 (([] : List Bytes)))
def d_spec_VarsOf_S1 (a0_ : Fact) (W0 : List (List D)) (ix_ : Int) : St := ⟨[(1, D.ptr 0 0), (3, D.acc 1), (4, D.int .i64 (ix_))], [Ob.box (Fact.c a0_), Ob.row .uq 9 1 (W0)]⟩
theorem d_spec_VarsOf_L1w (hΓ : Γ.nt = 27) {a0_ : Fact} {r : List Bytes} {k1 : List Bytes → Option (List Bytes)} (hE1 : ∀ (q1_0 : List Bytes), k1 q1_0 = some r → Ax Γ N Tryz.f74 (.q [[some (9, 1)]] (D.fr 9 1 ((r).map tx))) [1, 1, 1] ⟨[(3, D.acc 0)], [Ob.row .uq 9 1 ((q1_0).map tx)]⟩) (hm1 : (a0_.args).length ≤ maxLen) : ∀ (rest : List Bytes) (i1 : Nat) (w1_1 : List Bytes), (a0_.args).drop i1 = rest → d_spec_VarsOf_L1 a0_ k1 rest i1 w1_1 = some r → Ar Γ N Tryz.f74 (.q [[some (9, 1)]] (D.fr 9 1 ((r).map tx))) [1, 1, 0, 1, 0] (rest.length + 1) (d_spec_VarsOf_S1 a0_ ((w1_1).map tx) ((i1 : Int))) := by
  intro rest
  induction rest with
  | nil =>
    intro i1 w1_1 hd1 h
    rw [d_spec_VarsOf_L1] at h
    refine AWr_succ fun N1 hN1 hS1 => ?_
    exact ((pre0.ge tx hd1).a [.hl 0 [3] [1]]).ex hΓ hN1 (hE1 (w1_1) h)
  | cons x1_ xs1 ih1 =>
    intro i1 w1_1 hd1 h
    rw [d_spec_VarsOf_L1] at h
    refine AWr_succ fun N1 hN1 hS1 => ?_
    obtain ⟨y37, h38, h⟩ := den_bind h
    have o2_ := (((pre0.lt tx hd1).l (map_row tx 1 (dc hd1) rfl)).g (d_spec_IsVar_good h38))
    obtain ⟨h39, h⟩ | ⟨h39, h⟩ := den_if h
    · obtain ⟨y40, h41, h⟩ := den_bind h
      exact ((((o2_.b h39).l (map_row tx 1 (dc hd1) rfl)).g (d_spec_l1Put_good h41)).a [.cn [1, 3, 4] [0, 2]]).ct hΓ hS1 (iS hd1 hm1) (ih1 (i1 + 1) (y40) (dn hd1) h)
    · exact ((o2_.b h39).a [.cn [1, 3, 4] [0, 1]]).ct hΓ hS1 (iS hd1 hm1) (ih1 (i1 + 1) (w1_1) (dn hd1) h)
theorem d_spec_VarsOf_good {a0_ : Fact} {r : List Bytes} (h : d_spec_VarsOf a0_ = some r) : Good Tryz.prog 74 [D.agg (Fact.c a0_)] (D.fr 9 1 ((r).map tx)) := by
  refine gd Tryz.func74 [[some (9, 1)]] 27 fun hr Γ hΓ => ?_
  rw [d_spec_VarsOf] at h
  refine (pre0.a [.cn [1, 3, 4] [0, 1]]).lp hΓ (d_spec_VarsOf_L1w hΓ (fun q1_0 h => ?_) (by have := (Rdb.sl (Rdb.agg (hr _ (List.mem_of_getElem? (i := 0) rfl)) (.sl ((a0_.args).map tx)) (by simp))).1; simpa using this) (a0_.args) 0 (([] : List Bytes)) rfl h)
  have h := den_some h; subst h; exact pre0.ret hΓ
def d_spec_BoundVars_L2 (a0_ : Rule) (a1_ : Int) (i1 : Nat) (y159 : List Bytes) (k2 : List Bytes → Option (List Bytes)) : List Bytes → Nat → List Bytes → Option (List Bytes)
  | [], i2, w2_1 => (k2 (w2_1))
  | x2_ :: xs2, i2, w2_1 => ((d_spec_l1Put (w2_1) (x2_)).bind fun y183 => (d_spec_BoundVars_L2 a0_ a1_ i1 y159 k2 xs2 (i2 + 1) (y183)))
def d_spec_BoundVars_L1 (a0_ : Rule) (a1_ : Int) (k1 : List Bytes → Option (List Bytes)) : List Cond → Nat → List Bytes → Option (List Bytes)
  | [], i1, w1_1 => (k1 (w1_1))
  | x1_ :: xs1, i1, w1_1 => (bif decide (((i1 : Int) : Int) < (a1_)) then (bif (x1_.kind : Int) == (1) then ((d_spec_VarsOf (x1_.pat)).bind fun y159 => (bif decide ((y159).length ≤ maxLen) then (d_spec_BoundVars_L2 a0_ a1_ i1 y159 (fun (q2_1 : List Bytes) => (d_spec_BoundVars_L1 a0_ a1_ k1 xs1 (i1 + 1) (q2_1))) (y159) 0 (w1_1)) else none)) else (d_spec_BoundVars_L1 a0_ a1_ k1 xs1 (i1 + 1) (w1_1))) else (k1 (w1_1)))
def d_spec_BoundVars (a0_ : Rule) (a1_ : Int) : Option (List Bytes) := (d_spec_BoundVars_L1 a0_ a1_ (fun (q1_0 : List Bytes) => (some (q1_0))) (a0_.conds) 0 (([] : List Bytes)))
def d_spec_BoundVars_S1 (a0_ : Rule) (a1_ : Int) (W0 : List (List D)) (ix_ : Int) : St := ⟨[(1, D.int .i64 (a1_)), (2, D.ptr 0 0), (5, D.acc 1), (6, D.int .i64 (ix_))], [Ob.box (Rule.c a0_), Ob.row .uq 9 1 (W0)]⟩
def d_spec_BoundVars_S2 (a0_ : Rule) (a1_ : Int) (i1 : Nat) (y159 : List Bytes) (W0 : List (List D)) (ix_ : Int) : St := ⟨[(1, D.int .i64 (a1_)), (2, D.ptr 0 0), (5, D.acc 1), (6, D.int .i64 ((i1 : Int))), (7, D.acc 2), (8, D.int .i64 (ix_))], [Ob.box (Rule.c a0_), Ob.row .uq 9 1 (W0), Ob.row .uq 9 1 ((y159).map tx)]⟩
theorem d_spec_BoundVars_L2w (hΓ : Γ.nt = 49) {a0_ : Rule} {a1_ : Int} {i1 : Nat} {y159 : List Bytes} {r : List Bytes} {k2 : List Bytes → Option (List Bytes)} (hE2 : ∀ (q2_1 : List Bytes), k2 q2_1 = some r → Ax Γ N Tryz.f67 (.q [[some (9, 1)]] (D.fr 9 1 ((r).map tx))) [1, 1, 0, 1, 0, 0, 1, 1] ⟨[(1, D.int .i64 (a1_)), (2, D.ptr 0 0), (5, D.acc 1), (6, D.int .i64 ((i1 : Int)))], [Ob.box (Rule.c a0_), Ob.row .uq 9 1 ((q2_1).map tx)]⟩) (hm2 : (y159).length ≤ maxLen) : ∀ (rest : List Bytes) (i2 : Nat) (w2_1 : List Bytes), (y159).drop i2 = rest → d_spec_BoundVars_L2 a0_ a1_ i1 y159 k2 rest i2 w2_1 = some r → Ar Γ N Tryz.f67 (.q [[some (9, 1)]] (D.fr 9 1 ((r).map tx))) [1, 1, 0, 1, 0, 0, 1, 0, 0, 1, 0, 1, 1, 0] (rest.length + 1) (d_spec_BoundVars_S2 a0_ a1_ i1 y159 ((w2_1).map tx) ((i2 : Int))) := by
  intro rest
  induction rest with
  | nil =>
    intro i2 w2_1 hd2 h
    rw [d_spec_BoundVars_L2] at h
    refine AWr_succ fun N2 hN2 hS2 => ?_
    exact ((pre0.ge tx hd2).a [.hl 3 [1, 2, 5, 6] [0, 1]]).ex hΓ hN2 (hE2 (w2_1) h)
  | cons x2_ xs2 ih2 =>
    intro i2 w2_1 hd2 h
    rw [d_spec_BoundVars_L2] at h
    refine AWr_succ fun N2 hN2 hS2 => ?_
    obtain ⟨y183, h184, h⟩ := den_bind h
    exact (((((pre0.lt tx hd2).i (own_ixl tx 1 (dc hd2))).o 1 1 .uq (map_get tx (dc hd2))).g (d_spec_l1Put_good h184)).a [.cn [1, 2, 5, 6, 7, 8] [0, 3, 2]]).ct hΓ hS2 (iS hd2 hm2) (ih2 (i2 + 1) (y183) (dn hd2) h)
theorem d_spec_BoundVars_L1w (hΓ : Γ.nt = 49) {a0_ : Rule} {a1_ : Int} {r : List Bytes} {k1 : List Bytes → Option (List Bytes)} (hE1 : ∀ (q1_0 : List Bytes), k1 q1_0 = some r → Ax Γ N Tryz.f67 (.q [[some (9, 1)]] (D.fr 9 1 ((r).map tx))) [1, 1, 1] ⟨[(5, D.acc 0)], [Ob.row .uq 9 1 ((q1_0).map tx)]⟩) (hm1 : (a0_.conds).length ≤ maxLen) : ∀ (rest : List Cond) (i1 : Nat) (w1_1 : List Bytes), (a0_.conds).drop i1 = rest → d_spec_BoundVars_L1 a0_ a1_ k1 rest i1 w1_1 = some r → Ar Γ N Tryz.f67 (.q [[some (9, 1)]] (D.fr 9 1 ((r).map tx))) [1, 1, 0, 1, 0] (rest.length + 1) (d_spec_BoundVars_S1 a0_ a1_ ((w1_1).map tx) ((i1 : Int))) := by
  intro rest
  induction rest with
  | nil =>
    intro i1 w1_1 hd1 h
    rw [d_spec_BoundVars_L1] at h
    refine AWr_succ fun N1 hN1 hS1 => ?_
    exact ((((((pre0.ge Cond.c hd1).ge Cond.c hd1).ge Cond.c hd1).ge Cond.c hd1).F 1).a [.hl 0 [5] [1]]).ex hΓ hN1 (hE1 (w1_1) h)
  | cons x1_ xs1 ih1 =>
    intro i1 w1_1 hd1 h
    rw [d_spec_BoundVars_L1] at h
    refine AWr_succ fun N1 hN1 hS1 => ?_
    have o3_ := ((((pre0.lt Cond.c hd1).lt Cond.c hd1).lt Cond.c hd1).lt Cond.c hd1)
    obtain ⟨h157, h⟩ | ⟨h157, h⟩ := den_if h
    · have o4_ := ((o3_.b h157).l (map_row Cond.c 5 (dc hd1) rfl))
      obtain ⟨h158, h⟩ | ⟨h158, h⟩ := den_if h
      · obtain ⟨y159, h160, h⟩ := den_bind h
        obtain ⟨h185, h⟩ := den_ok h
        refine ((((o4_.b h158).l (map_row Cond.c 5 (dc hd1) rfl)).g (d_spec_VarsOf_good h160)).a [.cn [1, 2, 5, 6, 7, 8] [0, 1, 2]]).lp hΓ (d_spec_BoundVars_L2w hΓ (fun q2_1 h => ?_) (of_decide_eq_true h185) (y159) 0 (w1_1) rfl h)
        exact (pre0.a [.cn [1, 2, 5, 6] [0, 1]]).ct hΓ hS1 (iS hd1 hm1) (ih1 (i1 + 1) (q2_1) (dn hd1) h)
      · exact ((o4_.b h158).a [.cn [1, 2, 5, 6] [0, 1]]).ct hΓ hS1 (iS hd1 hm1) (ih1 (i1 + 1) (w1_1) (dn hd1) h)
    · exact ((o3_.b h157).a [.hl 0 [5] [1]]).ex hΓ hN1 (hE1 (w1_1) h)
theorem d_spec_BoundVars_good {a0_ : Rule} {a1_ : Int} {r : List Bytes} (h : d_spec_BoundVars a0_ a1_ = some r) : Good Tryz.prog 67 [D.agg (Rule.c a0_), D.int .i64 (a1_)] (D.fr 9 1 ((r).map tx)) := by
  refine gd Tryz.func67 [[some (9, 1)]] 49 fun hr Γ hΓ => ?_
  rw [d_spec_BoundVars] at h
  refine (pre0.a [.cn [1, 2, 5, 6] [0, 1]]).lp hΓ (d_spec_BoundVars_L1w hΓ (fun q1_0 h => ?_) (by have := (Rdb.sl (Rdb.agg (hr _ (List.mem_of_getElem? (i := 0) rfl)) (.sl ((a0_.conds).map Cond.c)) (by simp))).1; simpa using this) (a0_.conds) 0 (([] : List Bytes)) rfl h)
  have h := den_some h; subst h; exact pre0.ret hΓ
def d_spec_l1HasText_L1 (a0_ : List Bytes) (a1_ : Bytes) (k1 : Option Bool) : List Bytes → Nat → Option Bool
  | [], i1 => (k1 )
  | x1_ :: xs1, i1 => (bif (x1_ : Bytes) == (a1_) then (some (true)) else (d_spec_l1HasText_L1 a0_ a1_ k1 xs1 (i1 + 1) ))
def d_spec_l1HasText (a0_ : List Bytes) (a1_ : Bytes) : Option Bool := (d_spec_l1HasText_L1 a0_ a1_ (some (false)) (a0_) 0 )
def d_spec_l1HasText_S1 (a0_ : List Bytes) (a1_ : Bytes) (ix_ : Int) : St := ⟨[(0, D.sl ((a0_).map tx)), (1, D.str (a1_)), (5, D.int .i64 (ix_))], []⟩
theorem d_spec_l1HasText_L1w (hΓ : Γ.nt = 18) {a0_ : List Bytes} {a1_ : Bytes} {r : Bool} {k1 : Option Bool} (hE1 : k1 = some r → Ax Γ N Tryz.f70 (.q [[none]] (D.bool (r))) [1, 1] ⟨[], []⟩) (hm1 : (a0_).length ≤ maxLen) : ∀ (rest : List Bytes) (i1 : Nat) , (a0_).drop i1 = rest → d_spec_l1HasText_L1 a0_ a1_ k1 rest i1  = some r → Ar Γ N Tryz.f70 (.q [[none]] (D.bool (r))) [1, 0, 1, 0] (rest.length + 1) (d_spec_l1HasText_S1 a0_ a1_ ((i1 : Int))) := by
  intro rest
  induction rest with
  | nil =>
    intro i1  hd1 h
    rw [d_spec_l1HasText_L1] at h
    refine AWr_succ fun N1 hN1 hS1 => ?_
    exact ((pre0.ge tx hd1).a [.hl 0 [] []]).ex hΓ hN1 (hE1 h)
  | cons x1_ xs1 ih1 =>
    intro i1  hd1 h
    rw [d_spec_l1HasText_L1] at h
    refine AWr_succ fun N1 hN1 hS1 => ?_
    have o2_ := ((pre0.lt tx hd1).l (map_row tx 1 (dc hd1) rfl))
    obtain ⟨h13, h⟩ | ⟨h13, h⟩ := den_if h
    · have h := den_some h; subst h; exact (o2_.b h13).ret hΓ
    · exact ((o2_.b h13).a [.cn [0, 1, 5] []]).ct hΓ hS1 (iS hd1 hm1) (ih1 (i1 + 1)  (dn hd1) h)
theorem d_spec_l1HasText_good {a0_ : List Bytes} {a1_ : Bytes} {r : Bool} (h : d_spec_l1HasText a0_ a1_ = some r) : Good Tryz.prog 70 [D.sl ((a0_).map tx), D.str (a1_)] (D.bool (r)) := by
  refine gd Tryz.func70 [[none]] 18 fun hr Γ hΓ => ?_
  rw [d_spec_l1HasText] at h
  refine (pre0.a [.cn [0, 1, 5] []]).lp hΓ (d_spec_l1HasText_L1w hΓ (fun h => ?_) (by have := (Rdb.sl (hr _ (List.mem_of_getElem? (i := 0) rfl))).1; simpa using this) (a0_) 0  rfl h)
  have h := den_some h; subst h; exact pre0.ret hΓ
def d_spec_IsName (a0_ : Bytes) : Option Bool := ((d_spec_IsAtom (a0_)).bind fun y1 => (bif y1 then ((atI (a0_) (0)).bind fun b4 => ((d_spec_l1In (IntKind.i64.wrap (b4.toNat)) (97) (122)).bind fun y6 => (some (y6)))) else (some (false))))
theorem d_spec_IsName_good {a0_ : Bytes} {r : Bool} (h : d_spec_IsName a0_ = some r) : Good Tryz.prog 65 [D.str (a0_)] (D.bool (r)) := by
  refine gd Tryz.func65 [[none]] 11 fun hr Γ hΓ => ?_
  rw [d_spec_IsName] at h
  obtain ⟨y1, h2, h⟩ := den_bind h
  obtain ⟨h3, h⟩ | ⟨h3, h⟩ := den_if h
  · obtain ⟨b4, h5, h⟩ := den_bind h
    obtain ⟨y6, h7, h⟩ := den_bind h
    have h := den_some h; subst h; exact ((((((pre0.g (d_spec_IsAtom_good h2)).r 2 h3).c h5).r 2 h3).g (d_spec_l1In_good h7)).b h3).ret hΓ
  · have h := den_some h; subst h; exact ((pre0.g (d_spec_IsAtom_good h2)).r 5 h3).ret hΓ
def d_spec_IsTerm (a0_ : Bytes) : Option Bool := ((d_spec_IsAtom (a0_)).bind fun y1 => (bif y1 then (some (true)) else ((d_spec_IsVar (a0_)).bind fun y4 => (some (y4)))))
theorem d_spec_IsTerm_good {a0_ : Bytes} {r : Bool} (h : d_spec_IsTerm a0_ = some r) : Good Tryz.prog 124 [D.str (a0_)] (D.bool (r)) := by
  refine gd Tryz.func124 [[none]] 9 fun hr Γ hΓ => ?_
  rw [d_spec_IsTerm] at h
  obtain ⟨y1, h2, h⟩ := den_bind h
  obtain ⟨h3, h⟩ | ⟨h3, h⟩ := den_if h
  · have h := den_some h; subst h; exact ((pre0.g (d_spec_IsAtom_good h2)).r 3 h3).ret hΓ
  · obtain ⟨y4, h5, h⟩ := den_bind h
    have h := den_some h; subst h; exact ((((pre0.g (d_spec_IsAtom_good h2)).r 2 h3).g (d_spec_IsVar_good h5)).b h3).ret hΓ
def d_spec_IsPattern_L1 (a0_ : Fact) (k1 : Option Bool) : List Bytes → Nat → Option Bool
  | [], i1 => (k1 )
  | x1_ :: xs1, i1 => ((d_spec_IsTerm (x1_)).bind fun y21 => (bif !(y21) then (some (false)) else (d_spec_IsPattern_L1 a0_ k1 xs1 (i1 + 1) )))
def d_spec_IsPattern (a0_ : Fact) : Option Bool := (d_spec_IsPattern_L1 a0_ ((d_spec_IsName (a0_.rel)).bind fun y24 => (bif y24 then (some (decide (((((a0_.args).map tx).length : Int) : Int) ≤ (3)))) else (some (false)))) (a0_.args) 0 )
def d_spec_IsPattern_S1 (a0_ : Fact) (ix_ : Int) : St := ⟨[(1, D.ptr 0 0), (3, D.int .i64 (ix_))], [Ob.box (Fact.c a0_)]⟩
theorem d_spec_IsPattern_L1w (hΓ : Γ.nt = 27) {a0_ : Fact} {r : Bool} {k1 : Option Bool} (hE1 : k1 = some r → Ax Γ N Tryz.f123 (.q [[none]] (D.bool (r))) [1, 1] ⟨[(1, D.ptr 0 0)], [Ob.box (Fact.c a0_)]⟩) (hm1 : (a0_.args).length ≤ maxLen) : ∀ (rest : List Bytes) (i1 : Nat) , (a0_.args).drop i1 = rest → d_spec_IsPattern_L1 a0_ k1 rest i1  = some r → Ar Γ N Tryz.f123 (.q [[none]] (D.bool (r))) [1, 0, 1, 0] (rest.length + 1) (d_spec_IsPattern_S1 a0_ ((i1 : Int))) := by
  intro rest
  induction rest with
  | nil =>
    intro i1  hd1 h
    rw [d_spec_IsPattern_L1] at h
    refine AWr_succ fun N1 hN1 hS1 => ?_
    exact ((pre0.ge tx hd1).a [.hl 0 [1] [0]]).ex hΓ hN1 (hE1 h)
  | cons x1_ xs1 ih1 =>
    intro i1  hd1 h
    rw [d_spec_IsPattern_L1] at h
    refine AWr_succ fun N1 hN1 hS1 => ?_
    obtain ⟨y21, h22, h⟩ := den_bind h
    have o2_ := (((pre0.lt tx hd1).l (map_row tx 1 (dc hd1) rfl)).g (d_spec_IsTerm_good h22))
    obtain ⟨h23, h⟩ | ⟨h23, h⟩ := den_if h
    · have h := den_some h; subst h; exact (o2_.b h23).ret hΓ
    · exact ((o2_.b h23).a [.cn [1, 3] [0]]).ct hΓ hS1 (iS hd1 hm1) (ih1 (i1 + 1)  (dn hd1) h)
theorem d_spec_IsPattern_good {a0_ : Fact} {r : Bool} (h : d_spec_IsPattern a0_ = some r) : Good Tryz.prog 123 [D.agg (Fact.c a0_)] (D.bool (r)) := by
  refine gd Tryz.func123 [[none]] 27 fun hr Γ hΓ => ?_
  rw [d_spec_IsPattern] at h
  refine (pre0.a [.cn [1, 3] [0]]).lp hΓ (d_spec_IsPattern_L1w hΓ (fun h => ?_) (by have := (Rdb.sl (Rdb.agg (hr _ (List.mem_of_getElem? (i := 0) rfl)) (.sl ((a0_.args).map tx)) (by simp))).1; simpa using this) (a0_.args) 0  rfl h)
  obtain ⟨y24, h25, h⟩ := den_bind h
  obtain ⟨h26, h⟩ | ⟨h26, h⟩ := den_if h
  · cases h; exact ((pre0.g (d_spec_IsName_good h25)).r 5 h26).ret hΓ
  · have h := den_some h; subst h; exact ((pre0.g (d_spec_IsName_good h25)).r 5 h26).ret hΓ
def d_spec_IsCond (a0_ : Cond) : Option Bool := (bif (a0_.kind : Int) == (1) then ((d_spec_IsPattern (a0_.pat)).bind fun y2 => (bif y2 then (bif (a0_.left : Bytes) == ([]) then (some ((a0_.right : Bytes) == ([]))) else (some (false))) else (some (false)))) else (bif (a0_.kind : Int) == (2) then ((d_spec_IsPattern (a0_.pat)).bind fun y7 => (bif y7 then (bif (a0_.left : Bytes) == ([]) then (some ((a0_.right : Bytes) == ([]))) else (some (false))) else (some (false)))) else (bif (a0_.kind : Int) == (3) then (bif (a0_.pat.rel : Bytes) == ([]) then (bif ((((a0_.pat.args).map tx).length : Int) : Int) == (0) then ((d_spec_IsTerm (a0_.left)).bind fun y14 => (bif y14 then ((d_spec_IsTerm (a0_.right)).bind fun y17 => (some (y17))) else (some (false)))) else (some (false))) else (some (false))) else (bif (a0_.kind : Int) == (4) then (bif (a0_.pat.rel : Bytes) == ([]) then (bif ((((a0_.pat.args).map tx).length : Int) : Int) == (0) then ((d_spec_IsTerm (a0_.left)).bind fun y22 => (bif y22 then ((d_spec_IsTerm (a0_.right)).bind fun y25 => (some (y25))) else (some (false)))) else (some (false))) else (some (false))) else (bif (a0_.kind : Int) == (5) then (bif (a0_.pat.rel : Bytes) == ([]) then (bif ((((a0_.pat.args).map tx).length : Int) : Int) == (0) then ((d_spec_IsTerm (a0_.left)).bind fun y30 => (bif y30 then ((d_spec_IsTerm (a0_.right)).bind fun y33 => (some (y33))) else (some (false)))) else (some (false))) else (some (false))) else (some (false)))))))
theorem d_spec_IsCond_good {a0_ : Cond} {r : Bool} (h : d_spec_IsCond a0_ = some r) : Good Tryz.prog 68 [D.agg (Cond.c a0_)] (D.bool (r)) := by
  refine gd Tryz.func68 [[none]] 46 fun hr Γ hΓ => ?_
  rw [d_spec_IsCond] at h
  obtain ⟨h1, h⟩ | ⟨h1, h⟩ := den_if h
  · obtain ⟨y2, h3, h⟩ := den_bind h
    have o1_ := ((pre0.r 2 h1).g (d_spec_IsPattern_good h3))
    obtain ⟨h4, h⟩ | ⟨h4, h⟩ := den_if h
    · have o2_ := (o1_.r 4 h4)
      obtain ⟨h5, h⟩ | ⟨h5, h⟩ := den_if h
      · cases h; exact (o2_.r 4 h5).ret hΓ
      · have h := den_some h; subst h; exact (o2_.r 4 h5).ret hΓ
    · have h := den_some h; subst h; exact ((o1_.r 4 h4).F 4).ret hΓ
  · obtain ⟨h6, h⟩ | ⟨h6, h⟩ := den_if h
    · obtain ⟨y7, h8, h⟩ := den_bind h
      have o3_ := (((pre0.b h1).b h6).g (d_spec_IsPattern_good h8))
      obtain ⟨h9, h⟩ | ⟨h9, h⟩ := den_if h
      · have o4_ := (o3_.r 4 h9)
        obtain ⟨h10, h⟩ | ⟨h10, h⟩ := den_if h
        · cases h; exact (o4_.r 4 h10).ret hΓ
        · have h := den_some h; subst h; exact (o4_.r 4 h10).ret hΓ
      · have h := den_some h; subst h; exact ((o3_.r 4 h9).F 4).ret hΓ
    · have o5_ := ((pre0.b h1).b h6)
      obtain ⟨h11, h⟩ | ⟨h11, h⟩ := den_if h
      · have o6_ := (o5_.r 2 h11)
        obtain ⟨h12, h⟩ | ⟨h12, h⟩ := den_if h
        · have o7_ := (o6_.r 6 h12)
          obtain ⟨h13, h⟩ | ⟨h13, h⟩ := den_if h
          · obtain ⟨y14, h15, h⟩ := den_bind h
            have o8_ := (((o7_.r 3 h13).g (d_spec_IsTerm_good h15)).b h13)
            obtain ⟨h16, h⟩ | ⟨h16, h⟩ := den_if h
            · obtain ⟨y17, h18, h⟩ := den_bind h
              have h := den_some h; subst h; exact (((o8_.r 3 h16).g (d_spec_IsTerm_good h18)).b h16).ret hΓ
            · have h := den_some h; subst h; exact (o8_.r 4 h16).ret hΓ
          · have h := den_some h; subst h; exact ((o7_.r 4 h13).F 4).ret hΓ
        · have h := den_some h; subst h; exact ((o6_.r 6 h12).F 8).ret hΓ
      · obtain ⟨h19, h⟩ | ⟨h19, h⟩ := den_if h
        · have o9_ := ((o5_.b h11).r 2 h19)
          obtain ⟨h20, h⟩ | ⟨h20, h⟩ := den_if h
          · have o10_ := (o9_.r 6 h20)
            obtain ⟨h21, h⟩ | ⟨h21, h⟩ := den_if h
            · obtain ⟨y22, h23, h⟩ := den_bind h
              have o11_ := (((o10_.r 3 h21).g (d_spec_IsTerm_good h23)).b h21)
              obtain ⟨h24, h⟩ | ⟨h24, h⟩ := den_if h
              · obtain ⟨y25, h26, h⟩ := den_bind h
                have h := den_some h; subst h; exact (((o11_.r 3 h24).g (d_spec_IsTerm_good h26)).b h24).ret hΓ
              · have h := den_some h; subst h; exact (o11_.r 4 h24).ret hΓ
            · have h := den_some h; subst h; exact ((o10_.r 4 h21).F 4).ret hΓ
          · have h := den_some h; subst h; exact ((o9_.r 6 h20).F 8).ret hΓ
        · have o12_ := ((o5_.b h11).b h19)
          obtain ⟨h27, h⟩ | ⟨h27, h⟩ := den_if h
          · obtain ⟨h28, h⟩ | ⟨h28, h⟩ := den_if h
            · have o13_ := ((o12_.b h27).r 6 h28)
              obtain ⟨h29, h⟩ | ⟨h29, h⟩ := den_if h
              · obtain ⟨y30, h31, h⟩ := den_bind h
                have o14_ := (((o13_.r 3 h29).g (d_spec_IsTerm_good h31)).b h29)
                obtain ⟨h32, h⟩ | ⟨h32, h⟩ := den_if h
                · obtain ⟨y33, h34, h⟩ := den_bind h
                  have h := den_some h; subst h; exact (((o14_.r 3 h32).g (d_spec_IsTerm_good h34)).b h32).ret hΓ
                · have h := den_some h; subst h; exact (o14_.r 4 h32).ret hΓ
              · have h := den_some h; subst h; exact ((o13_.r 4 h29).F 4).ret hΓ
            · have h := den_some h; subst h; exact (((o12_.b h27).r 6 h28).F 8).ret hΓ
          · have h := den_some h; subst h; exact (o12_.b h27).ret hΓ
def d_spec_CondVars (a0_ : Cond) : Option (List Bytes) := ((d_spec_VarsOf (a0_.pat)).bind fun y1 => ((d_spec_IsVar (a0_.left)).bind fun y3 => (bif y3 then ((d_spec_l1Put (y1) (a0_.left)).bind fun y6 => ((d_spec_IsVar (a0_.right)).bind fun y8 => (bif y8 then ((d_spec_l1Put (y6) (a0_.right)).bind fun y11 => (some (y11))) else (some (y6))))) else ((d_spec_IsVar (a0_.right)).bind fun y13 => (bif y13 then ((d_spec_l1Put (y1) (a0_.right)).bind fun y16 => (some (y16))) else (some (y1)))))))
theorem d_spec_CondVars_good {a0_ : Cond} {r : List Bytes} (h : d_spec_CondVars a0_ = some r) : Good Tryz.prog 69 [D.agg (Cond.c a0_)] (D.fr 9 1 ((r).map tx)) := by
  refine gd Tryz.func69 [[some (9, 1)]] 22 fun hr Γ hΓ => ?_
  rw [d_spec_CondVars] at h
  obtain ⟨y1, h2, h⟩ := den_bind h
  obtain ⟨y3, h4, h⟩ := den_bind h
  have o1_ := ((pre0.g (d_spec_VarsOf_good h2)).g (d_spec_IsVar_good h4))
  obtain ⟨h5, h⟩ | ⟨h5, h⟩ := den_if h
  · obtain ⟨y6, h7, h⟩ := den_bind h
    obtain ⟨y8, h9, h⟩ := den_bind h
    have o2_ := (((o1_.b h5).g (d_spec_l1Put_good h7)).g (d_spec_IsVar_good h9))
    obtain ⟨h10, h⟩ | ⟨h10, h⟩ := den_if h
    · obtain ⟨y11, h12, h⟩ := den_bind h
      have h := den_some h; subst h; exact ((o2_.b h10).g (d_spec_l1Put_good h12)).ret hΓ
    · have h := den_some h; subst h; exact (o2_.b h10).ret hΓ
  · obtain ⟨y13, h14, h⟩ := den_bind h
    have o3_ := ((o1_.b h5).g (d_spec_IsVar_good h14))
    obtain ⟨h15, h⟩ | ⟨h15, h⟩ := den_if h
    · obtain ⟨y16, h17, h⟩ := den_bind h
      have h := den_some h; subst h; exact ((o3_.b h15).g (d_spec_l1Put_good h17)).ret hΓ
    · have h := den_some h; subst h; exact (o3_.b h15).ret hΓ
def d_spec_IsTest (a0_ : Cond) : Option Bool := ((d_spec_IsCond (a0_)).bind fun y1 => (bif y1 then (some (decide ((a0_.kind : Int) ≥ (3)))) else (some (false))))
theorem d_spec_IsTest_good {a0_ : Cond} {r : Bool} (h : d_spec_IsTest a0_ = some r) : Good Tryz.prog 71 [D.agg (Cond.c a0_)] (D.bool (r)) := by
  refine gd Tryz.func71 [[none]] 10 fun hr Γ hΓ => ?_
  rw [d_spec_IsTest] at h
  obtain ⟨y1, h2, h⟩ := den_bind h
  obtain ⟨h3, h⟩ | ⟨h3, h⟩ := den_if h
  · cases h; exact ((pre0.g (d_spec_IsCond_good h2)).r 4 h3).ret hΓ
  · have h := den_some h; subst h; exact ((pre0.g (d_spec_IsCond_good h2)).r 4 h3).ret hΓ
def d_spec_l5Elsewhere_L1 (a0_ : Rule) (a1_ : Int) (a2_ : Bytes) (k1 : Option Bool) : List Cond → Nat → Option Bool
  | [], i1 => (k1 )
  | x1_ :: xs1, i1 => (bif ((i1 : Int) : Int) != (a1_) then ((d_spec_CondVars (x1_)).bind fun y34 => ((d_spec_l1HasText (y34) (a2_)).bind fun y36 => (bif y36 then (some (true)) else (d_spec_l5Elsewhere_L1 a0_ a1_ a2_ k1 xs1 (i1 + 1) )))) else (d_spec_l5Elsewhere_L1 a0_ a1_ a2_ k1 xs1 (i1 + 1) ))
def d_spec_l5Elsewhere_L2 (a0_ : Rule) (a2_ : Bytes) (k2 : Option Bool) : List Action → Nat → Option Bool
  | [], i2 => (k2 )
  | x2_ :: xs2, i2 => ((d_spec_VarsOf (x2_.pat)).bind fun y67 => ((d_spec_l1HasText (y67) (a2_)).bind fun y69 => (bif y69 then (some (true)) else (d_spec_l5Elsewhere_L2 a0_ a2_ k2 xs2 (i2 + 1) ))))
def d_spec_l5Elsewhere (a0_ : Rule) (a1_ : Int) (a2_ : Bytes) : Option Bool := (d_spec_l5Elsewhere_L1 a0_ a1_ a2_ (d_spec_l5Elsewhere_L2 a0_ a2_ (some (false)) (a0_.acts) 0 ) (a0_.conds) 0 )
def d_spec_l5Elsewhere_S1 (a0_ : Rule) (a1_ : Int) (a2_ : Bytes) (ix_ : Int) : St := ⟨[(1, D.int .i64 (a1_)), (2, D.str (a2_)), (3, D.ptr 0 0), (7, D.int .i64 (ix_))], [Ob.box (Rule.c a0_)]⟩
theorem d_spec_l5Elsewhere_L1w (hΓ : Γ.nt = 45) {a0_ : Rule} {a1_ : Int} {a2_ : Bytes} {r : Bool} {k1 : Option Bool} (hE1 : k1 = some r → Ax Γ N Tryz.f72 (.q [[none]] (D.bool (r))) [1, 1] ⟨[(2, D.str (a2_)), (3, D.ptr 0 0)], [Ob.box (Rule.c a0_)]⟩) (hm1 : (a0_.conds).length ≤ maxLen) : ∀ (rest : List Cond) (i1 : Nat) , (a0_.conds).drop i1 = rest → d_spec_l5Elsewhere_L1 a0_ a1_ a2_ k1 rest i1  = some r → Ar Γ N Tryz.f72 (.q [[none]] (D.bool (r))) [1, 0, 1, 0] (rest.length + 1) (d_spec_l5Elsewhere_S1 a0_ a1_ a2_ ((i1 : Int))) := by
  intro rest
  induction rest with
  | nil =>
    intro i1  hd1 h
    rw [d_spec_l5Elsewhere_L1] at h
    refine AWr_succ fun N1 hN1 hS1 => ?_
    exact ((pre0.ge Cond.c hd1).a [.hl 0 [2, 3] [0]]).ex hΓ hN1 (hE1 h)
  | cons x1_ xs1 ih1 =>
    intro i1  hd1 h
    rw [d_spec_l5Elsewhere_L1] at h
    refine AWr_succ fun N1 hN1 hS1 => ?_
    obtain ⟨h33, h⟩ | ⟨h33, h⟩ := den_if h
    · obtain ⟨y34, h35, h⟩ := den_bind h
      obtain ⟨y36, h37, h⟩ := den_bind h
      have o3_ := ((((((((pre0.lt Cond.c hd1).r 4 h33).l (map_row Cond.c 5 (dc hd1) rfl)).r 2 h33).g (d_spec_CondVars_good h35)).r 2 h33).g (d_spec_l1HasText_good h37)).b h33)
      obtain ⟨h38, h⟩ | ⟨h38, h⟩ := den_if h
      · have h := den_some h; subst h; exact (o3_.b h38).ret hΓ
      · exact ((o3_.b h38).a [.cn [1, 2, 3, 7] [0]]).ct hΓ hS1 (iS hd1 hm1) (ih1 (i1 + 1)  (dn hd1) h)
    · exact ((((pre0.lt Cond.c hd1).r 9 h33).F 1).a [.cn [1, 2, 3, 7] [0]]).ct hΓ hS1 (iS hd1 hm1) (ih1 (i1 + 1)  (dn hd1) h)
def d_spec_l5Elsewhere_S2 (a0_ : Rule) (a2_ : Bytes) (ix_ : Int) : St := ⟨[(2, D.str (a2_)), (3, D.ptr 0 0), (8, D.int .i64 (ix_))], [Ob.box (Rule.c a0_)]⟩
theorem d_spec_l5Elsewhere_L2w (hΓ : Γ.nt = 45) {a0_ : Rule} {a2_ : Bytes} {r : Bool} {k2 : Option Bool} (hE2 : k2 = some r → Ax Γ N Tryz.f72 (.q [[none]] (D.bool (r))) [1, 1, 1] ⟨[], []⟩) (hm2 : (a0_.acts).length ≤ maxLen) : ∀ (rest : List Action) (i2 : Nat) , (a0_.acts).drop i2 = rest → d_spec_l5Elsewhere_L2 a0_ a2_ k2 rest i2  = some r → Ar Γ N Tryz.f72 (.q [[none]] (D.bool (r))) [1, 1, 0, 1, 0] (rest.length + 1) (d_spec_l5Elsewhere_S2 a0_ a2_ ((i2 : Int))) := by
  intro rest
  induction rest with
  | nil =>
    intro i2  hd2 h
    rw [d_spec_l5Elsewhere_L2] at h
    refine AWr_succ fun N2 hN2 hS2 => ?_
    exact ((pre0.ge Action.c hd2).a [.hl 0 [] []]).ex hΓ hN2 (hE2 h)
  | cons x2_ xs2 ih2 =>
    intro i2  hd2 h
    rw [d_spec_l5Elsewhere_L2] at h
    refine AWr_succ fun N2 hN2 hS2 => ?_
    obtain ⟨y67, h68, h⟩ := den_bind h
    obtain ⟨y69, h70, h⟩ := den_bind h
    have o4_ := ((((pre0.lt Action.c hd2).l (map_row Action.c 3 (dc hd2) rfl)).g (d_spec_VarsOf_good h68)).g (d_spec_l1HasText_good h70))
    obtain ⟨h71, h⟩ | ⟨h71, h⟩ := den_if h
    · have h := den_some h; subst h; exact (o4_.b h71).ret hΓ
    · exact ((o4_.b h71).a [.cn [2, 3, 8] [0]]).ct hΓ hS2 (iS hd2 hm2) (ih2 (i2 + 1)  (dn hd2) h)
theorem d_spec_l5Elsewhere_good {a0_ : Rule} {a1_ : Int} {a2_ : Bytes} {r : Bool} (h : d_spec_l5Elsewhere a0_ a1_ a2_ = some r) : Good Tryz.prog 72 [D.agg (Rule.c a0_), D.int .i64 (a1_), D.str (a2_)] (D.bool (r)) := by
  refine gd Tryz.func72 [[none]] 45 fun hr Γ hΓ => ?_
  rw [d_spec_l5Elsewhere] at h
  refine (pre0.a [.cn [1, 2, 3, 7] [0]]).lp hΓ (d_spec_l5Elsewhere_L1w hΓ (fun h => ?_) (by have := (Rdb.sl (Rdb.agg (hr _ (List.mem_of_getElem? (i := 0) rfl)) (.sl ((a0_.conds).map Cond.c)) (by simp))).1; simpa using this) (a0_.conds) 0  rfl h)
  refine (pre0.a [.cn [2, 3, 8] [0]]).lp hΓ (d_spec_l5Elsewhere_L2w hΓ (fun h => ?_) (by have := (Rdb.sl (Rdb.agg (hr _ (List.mem_of_getElem? (i := 0) rfl)) (.sl ((a0_.acts).map Action.c)) (by simp))).1; simpa using this) (a0_.acts) 0  rfl h)
  have h := den_some h; subst h; exact pre0.ret hΓ
def d_spec_IsAction (a0_ : Action) : Option Bool := (bif (a0_.kind : Int) == (1) then ((d_spec_IsPattern (a0_.pat)).bind fun y2 => (some (y2))) else (bif (a0_.kind : Int) == (2) then ((d_spec_IsPattern (a0_.pat)).bind fun y5 => (some (y5))) else (bif (a0_.kind : Int) == (3) then (bif (a0_.pat.rel : Bytes) == ([]) then (some (((((a0_.pat.args).map tx).length : Int) : Int) == (0))) else (some (false))) else (some (false)))))
theorem d_spec_IsAction_good {a0_ : Action} {r : Bool} (h : d_spec_IsAction a0_ = some r) : Good Tryz.prog 73 [D.agg (Action.c a0_)] (D.bool (r)) := by
  refine gd Tryz.func73 [[none]] 24 fun hr Γ hΓ => ?_
  rw [d_spec_IsAction] at h
  obtain ⟨h1, h⟩ | ⟨h1, h⟩ := den_if h
  · obtain ⟨y2, h3, h⟩ := den_bind h
    have h := den_some h; subst h; exact ((pre0.r 2 h1).g (d_spec_IsPattern_good h3)).ret hΓ
  · obtain ⟨h4, h⟩ | ⟨h4, h⟩ := den_if h
    · obtain ⟨y5, h6, h⟩ := den_bind h
      have h := den_some h; subst h; exact (((pre0.b h1).b h4).g (d_spec_IsPattern_good h6)).ret hΓ
    · have o1_ := ((pre0.b h1).b h4)
      obtain ⟨h7, h⟩ | ⟨h7, h⟩ := den_if h
      · obtain ⟨h8, h⟩ | ⟨h8, h⟩ := den_if h
        · cases h; exact ((o1_.b h7).r 6 h8).ret hΓ
        · have h := den_some h; subst h; exact ((o1_.b h7).r 6 h8).ret hΓ
      · have h := den_some h; subst h; exact (o1_.b h7).ret hΓ
def d_spec_RuleVars_L2 (a0_ : Rule) (i1 : Nat) (y147 : List Bytes) (k2 : List Bytes → Option (List Bytes)) : List Bytes → Nat → List Bytes → Option (List Bytes)
  | [], i2, w2_1 => (k2 (w2_1))
  | x2_ :: xs2, i2, w2_1 => ((d_spec_l1Put (w2_1) (x2_)).bind fun y171 => (d_spec_RuleVars_L2 a0_ i1 y147 k2 xs2 (i2 + 1) (y171)))
def d_spec_RuleVars_L1 (a0_ : Rule) (k1 : List Bytes → Option (List Bytes)) : List Cond → Nat → List Bytes → Option (List Bytes)
  | [], i1, w1_1 => (k1 (w1_1))
  | x1_ :: xs1, i1, w1_1 => ((d_spec_CondVars (x1_)).bind fun y147 => (bif decide ((y147).length ≤ maxLen) then (d_spec_RuleVars_L2 a0_ i1 y147 (fun (q2_1 : List Bytes) => (d_spec_RuleVars_L1 a0_ k1 xs1 (i1 + 1) (q2_1))) (y147) 0 (w1_1)) else none))
def d_spec_RuleVars_L4 (a0_ : Rule) (i3 : Nat) (y320 : List Bytes) (k4 : List Bytes → Option (List Bytes)) : List Bytes → Nat → List Bytes → Option (List Bytes)
  | [], i4, w4_1 => (k4 (w4_1))
  | x4_ :: xs4, i4, w4_1 => ((d_spec_l1Put (w4_1) (x4_)).bind fun y344 => (d_spec_RuleVars_L4 a0_ i3 y320 k4 xs4 (i4 + 1) (y344)))
def d_spec_RuleVars_L3 (a0_ : Rule) (k3 : List Bytes → Option (List Bytes)) : List Action → Nat → List Bytes → Option (List Bytes)
  | [], i3, w3_1 => (k3 (w3_1))
  | x3_ :: xs3, i3, w3_1 => ((d_spec_VarsOf (x3_.pat)).bind fun y320 => (bif decide ((y320).length ≤ maxLen) then (d_spec_RuleVars_L4 a0_ i3 y320 (fun (q4_1 : List Bytes) => (d_spec_RuleVars_L3 a0_ k3 xs3 (i3 + 1) (q4_1))) (y320) 0 (w3_1)) else none))
def d_spec_RuleVars (a0_ : Rule) : Option (List Bytes) := (d_spec_RuleVars_L1 a0_ (fun (q1_1 : List Bytes) => (d_spec_RuleVars_L3 a0_ (fun (q3_0 : List Bytes) => (some (q3_0))) (a0_.acts) 0 (q1_1))) (a0_.conds) 0 (([] : List Bytes)))
def d_spec_RuleVars_S1 (a0_ : Rule) (W0 : List (List D)) (ix_ : Int) : St := ⟨[(1, D.ptr 0 0), (3, D.acc 1), (4, D.int .i64 (ix_))], [Ob.box (Rule.c a0_), Ob.row .uq 9 1 (W0)]⟩
def d_spec_RuleVars_S2 (a0_ : Rule) (i1 : Nat) (y147 : List Bytes) (W0 : List (List D)) (ix_ : Int) : St := ⟨[(1, D.ptr 0 0), (3, D.acc 1), (4, D.int .i64 ((i1 : Int))), (5, D.acc 2), (6, D.int .i64 (ix_))], [Ob.box (Rule.c a0_), Ob.row .uq 9 1 (W0), Ob.row .uq 9 1 ((y147).map tx)]⟩
theorem d_spec_RuleVars_L2w (hΓ : Γ.nt = 63) {a0_ : Rule} {i1 : Nat} {y147 : List Bytes} {r : List Bytes} {k2 : List Bytes → Option (List Bytes)} (hE2 : ∀ (q2_1 : List Bytes), k2 q2_1 = some r → Ax Γ N Tryz.f75 (.q [[some (9, 1)]] (D.fr 9 1 ((r).map tx))) [1, 1, 0, 1, 0, 0, 1, 1] ⟨[(1, D.ptr 0 0), (3, D.acc 1), (4, D.int .i64 ((i1 : Int)))], [Ob.box (Rule.c a0_), Ob.row .uq 9 1 ((q2_1).map tx)]⟩) (hm2 : (y147).length ≤ maxLen) : ∀ (rest : List Bytes) (i2 : Nat) (w2_1 : List Bytes), (y147).drop i2 = rest → d_spec_RuleVars_L2 a0_ i1 y147 k2 rest i2 w2_1 = some r → Ar Γ N Tryz.f75 (.q [[some (9, 1)]] (D.fr 9 1 ((r).map tx))) [1, 1, 0, 1, 0, 0, 1, 0, 0, 1, 1, 0] (rest.length + 1) (d_spec_RuleVars_S2 a0_ i1 y147 ((w2_1).map tx) ((i2 : Int))) := by
  intro rest
  induction rest with
  | nil =>
    intro i2 w2_1 hd2 h
    rw [d_spec_RuleVars_L2] at h
    refine AWr_succ fun N2 hN2 hS2 => ?_
    exact ((pre0.ge tx hd2).a [.hl 3 [1, 3, 4] [0, 1]]).ex hΓ hN2 (hE2 (w2_1) h)
  | cons x2_ xs2 ih2 =>
    intro i2 w2_1 hd2 h
    rw [d_spec_RuleVars_L2] at h
    refine AWr_succ fun N2 hN2 hS2 => ?_
    obtain ⟨y171, h172, h⟩ := den_bind h
    exact (((((pre0.lt tx hd2).i (own_ixl tx 1 (dc hd2))).o 1 1 .uq (map_get tx (dc hd2))).g (d_spec_l1Put_good h172)).a [.cn [1, 3, 4, 5, 6] [0, 3, 2]]).ct hΓ hS2 (iS hd2 hm2) (ih2 (i2 + 1) (y171) (dn hd2) h)
theorem d_spec_RuleVars_L1w (hΓ : Γ.nt = 63) {a0_ : Rule} {r : List Bytes} {k1 : List Bytes → Option (List Bytes)} (hE1 : ∀ (q1_1 : List Bytes), k1 q1_1 = some r → Ax Γ N Tryz.f75 (.q [[some (9, 1)]] (D.fr 9 1 ((r).map tx))) [1, 1, 1] ⟨[(1, D.ptr 0 0), (3, D.acc 1)], [Ob.box (Rule.c a0_), Ob.row .uq 9 1 ((q1_1).map tx)]⟩) (hm1 : (a0_.conds).length ≤ maxLen) : ∀ (rest : List Cond) (i1 : Nat) (w1_1 : List Bytes), (a0_.conds).drop i1 = rest → d_spec_RuleVars_L1 a0_ k1 rest i1 w1_1 = some r → Ar Γ N Tryz.f75 (.q [[some (9, 1)]] (D.fr 9 1 ((r).map tx))) [1, 1, 0, 1, 0] (rest.length + 1) (d_spec_RuleVars_S1 a0_ ((w1_1).map tx) ((i1 : Int))) := by
  intro rest
  induction rest with
  | nil =>
    intro i1 w1_1 hd1 h
    rw [d_spec_RuleVars_L1] at h
    refine AWr_succ fun N1 hN1 hS1 => ?_
    exact ((pre0.ge Cond.c hd1).a [.hl 0 [1, 3] [0, 1]]).ex hΓ hN1 (hE1 (w1_1) h)
  | cons x1_ xs1 ih1 =>
    intro i1 w1_1 hd1 h
    rw [d_spec_RuleVars_L1] at h
    refine AWr_succ fun N1 hN1 hS1 => ?_
    obtain ⟨y147, h148, h⟩ := den_bind h
    obtain ⟨h173, h⟩ := den_ok h
    refine ((((pre0.lt Cond.c hd1).l (map_row Cond.c 5 (dc hd1) rfl)).g (d_spec_CondVars_good h148)).a [.cn [1, 3, 4, 5, 6] [0, 1, 2]]).lp hΓ (d_spec_RuleVars_L2w hΓ (fun q2_1 h => ?_) (of_decide_eq_true h173) (y147) 0 (w1_1) rfl h)
    exact (pre0.a [.cn [1, 3, 4] [0, 1]]).ct hΓ hS1 (iS hd1 hm1) (ih1 (i1 + 1) (q2_1) (dn hd1) h)
def d_spec_RuleVars_S3 (a0_ : Rule) (W0 : List (List D)) (ix_ : Int) : St := ⟨[(1, D.ptr 0 0), (3, D.acc 1), (7, D.int .i64 (ix_))], [Ob.box (Rule.c a0_), Ob.row .uq 9 1 (W0)]⟩
def d_spec_RuleVars_S4 (a0_ : Rule) (i3 : Nat) (y320 : List Bytes) (W0 : List (List D)) (ix_ : Int) : St := ⟨[(1, D.ptr 0 0), (3, D.acc 1), (7, D.int .i64 ((i3 : Int))), (8, D.acc 2), (9, D.int .i64 (ix_))], [Ob.box (Rule.c a0_), Ob.row .uq 9 1 (W0), Ob.row .uq 9 1 ((y320).map tx)]⟩
theorem d_spec_RuleVars_L4w (hΓ : Γ.nt = 63) {a0_ : Rule} {i3 : Nat} {y320 : List Bytes} {r : List Bytes} {k4 : List Bytes → Option (List Bytes)} (hE4 : ∀ (q4_1 : List Bytes), k4 q4_1 = some r → Ax Γ N Tryz.f75 (.q [[some (9, 1)]] (D.fr 9 1 ((r).map tx))) [1, 1, 1, 0, 1, 0, 0, 1, 1] ⟨[(1, D.ptr 0 0), (3, D.acc 1), (7, D.int .i64 ((i3 : Int)))], [Ob.box (Rule.c a0_), Ob.row .uq 9 1 ((q4_1).map tx)]⟩) (hm4 : (y320).length ≤ maxLen) : ∀ (rest : List Bytes) (i4 : Nat) (w4_1 : List Bytes), (y320).drop i4 = rest → d_spec_RuleVars_L4 a0_ i3 y320 k4 rest i4 w4_1 = some r → Ar Γ N Tryz.f75 (.q [[some (9, 1)]] (D.fr 9 1 ((r).map tx))) [1, 1, 1, 0, 1, 0, 0, 1, 0, 0, 1, 1, 0] (rest.length + 1) (d_spec_RuleVars_S4 a0_ i3 y320 ((w4_1).map tx) ((i4 : Int))) := by
  intro rest
  induction rest with
  | nil =>
    intro i4 w4_1 hd4 h
    rw [d_spec_RuleVars_L4] at h
    refine AWr_succ fun N4 hN4 hS4 => ?_
    exact ((pre0.ge tx hd4).a [.hl 3 [1, 3, 7] [0, 1]]).ex hΓ hN4 (hE4 (w4_1) h)
  | cons x4_ xs4 ih4 =>
    intro i4 w4_1 hd4 h
    rw [d_spec_RuleVars_L4] at h
    refine AWr_succ fun N4 hN4 hS4 => ?_
    obtain ⟨y344, h345, h⟩ := den_bind h
    exact (((((pre0.lt tx hd4).i (own_ixl tx 1 (dc hd4))).o 1 1 .uq (map_get tx (dc hd4))).g (d_spec_l1Put_good h345)).a [.cn [1, 3, 7, 8, 9] [0, 3, 2]]).ct hΓ hS4 (iS hd4 hm4) (ih4 (i4 + 1) (y344) (dn hd4) h)
theorem d_spec_RuleVars_L3w (hΓ : Γ.nt = 63) {a0_ : Rule} {r : List Bytes} {k3 : List Bytes → Option (List Bytes)} (hE3 : ∀ (q3_0 : List Bytes), k3 q3_0 = some r → Ax Γ N Tryz.f75 (.q [[some (9, 1)]] (D.fr 9 1 ((r).map tx))) [1, 1, 1, 1] ⟨[(3, D.acc 0)], [Ob.row .uq 9 1 ((q3_0).map tx)]⟩) (hm3 : (a0_.acts).length ≤ maxLen) : ∀ (rest : List Action) (i3 : Nat) (w3_1 : List Bytes), (a0_.acts).drop i3 = rest → d_spec_RuleVars_L3 a0_ k3 rest i3 w3_1 = some r → Ar Γ N Tryz.f75 (.q [[some (9, 1)]] (D.fr 9 1 ((r).map tx))) [1, 1, 1, 0, 1, 0] (rest.length + 1) (d_spec_RuleVars_S3 a0_ ((w3_1).map tx) ((i3 : Int))) := by
  intro rest
  induction rest with
  | nil =>
    intro i3 w3_1 hd3 h
    rw [d_spec_RuleVars_L3] at h
    refine AWr_succ fun N3 hN3 hS3 => ?_
    exact ((pre0.ge Action.c hd3).a [.hl 0 [3] [1]]).ex hΓ hN3 (hE3 (w3_1) h)
  | cons x3_ xs3 ih3 =>
    intro i3 w3_1 hd3 h
    rw [d_spec_RuleVars_L3] at h
    refine AWr_succ fun N3 hN3 hS3 => ?_
    obtain ⟨y320, h321, h⟩ := den_bind h
    obtain ⟨h346, h⟩ := den_ok h
    refine ((((pre0.lt Action.c hd3).l (map_row Action.c 3 (dc hd3) rfl)).g (d_spec_VarsOf_good h321)).a [.cn [1, 3, 7, 8, 9] [0, 1, 2]]).lp hΓ (d_spec_RuleVars_L4w hΓ (fun q4_1 h => ?_) (of_decide_eq_true h346) (y320) 0 (w3_1) rfl h)
    exact (pre0.a [.cn [1, 3, 7] [0, 1]]).ct hΓ hS3 (iS hd3 hm3) (ih3 (i3 + 1) (q4_1) (dn hd3) h)
theorem d_spec_RuleVars_good {a0_ : Rule} {r : List Bytes} (h : d_spec_RuleVars a0_ = some r) : Good Tryz.prog 75 [D.agg (Rule.c a0_)] (D.fr 9 1 ((r).map tx)) := by
  refine gd Tryz.func75 [[some (9, 1)]] 63 fun hr Γ hΓ => ?_
  rw [d_spec_RuleVars] at h
  refine (pre0.a [.cn [1, 3, 4] [0, 1]]).lp hΓ (d_spec_RuleVars_L1w hΓ (fun q1_1 h => ?_) (by have := (Rdb.sl (Rdb.agg (hr _ (List.mem_of_getElem? (i := 0) rfl)) (.sl ((a0_.conds).map Cond.c)) (by simp))).1; simpa using this) (a0_.conds) 0 (([] : List Bytes)) rfl h)
  refine (pre0.a [.cn [1, 3, 7] [0, 1]]).lp hΓ (d_spec_RuleVars_L3w hΓ (fun q3_0 h => ?_) (by have := (Rdb.sl (Rdb.agg (hr _ (List.mem_of_getElem? (i := 0) rfl)) (.sl ((a0_.acts).map Action.c)) (by simp))).1; simpa using this) (a0_.acts) 0 (q1_1) rfl h)
  have h := den_some h; subst h; exact pre0.ret hΓ
def d_spec_IsRule_L2 (a0_ : Rule) (y13 : List Bytes) (i1 : Nat) (x1_ : Cond) (y648 : List Bytes) (y650 : List Bytes) (k2 : Option Bool) : List Bytes → Nat → Option Bool
  | [], i2 => (k2 )
  | x2_ :: xs2, i2 => ((d_spec_l1HasText (y648) (x2_)).bind fun y710 => ((d_spec_IsTest (x1_)).bind fun y712 => (bif y712 then (bif !(y710) then (some (false)) else (bif (x1_.kind : Int) == (2) then (d_spec_IsRule_L2 a0_ y13 i1 x1_ y648 y650 k2 xs2 (i2 + 1) ) else (d_spec_IsRule_L2 a0_ y13 i1 x1_ y648 y650 k2 xs2 (i2 + 1) ))) else (bif (x1_.kind : Int) == (2) then (bif !(y710) then ((d_spec_l5Elsewhere (a0_) ((i1 : Int)) (x2_)).bind fun y719 => (bif y719 then (some (false)) else (d_spec_IsRule_L2 a0_ y13 i1 x1_ y648 y650 k2 xs2 (i2 + 1) ))) else (d_spec_IsRule_L2 a0_ y13 i1 x1_ y648 y650 k2 xs2 (i2 + 1) )) else (d_spec_IsRule_L2 a0_ y13 i1 x1_ y648 y650 k2 xs2 (i2 + 1) )))))
def d_spec_IsRule_L3 (a0_ : Rule) (y13 : List Bytes) (i1 : Nat) (x1_ : Cond) (y723 : List Bytes) (y725 : List Bytes) (k3 : Option Bool) : List Bytes → Nat → Option Bool
  | [], i3 => (k3 )
  | x3_ :: xs3, i3 => ((d_spec_l1HasText (y723) (x3_)).bind fun y785 => ((d_spec_IsTest (x1_)).bind fun y787 => (bif y787 then (bif !(y785) then (some (false)) else (bif (x1_.kind : Int) == (2) then (d_spec_IsRule_L3 a0_ y13 i1 x1_ y723 y725 k3 xs3 (i3 + 1) ) else (d_spec_IsRule_L3 a0_ y13 i1 x1_ y723 y725 k3 xs3 (i3 + 1) ))) else (bif (x1_.kind : Int) == (2) then (bif !(y785) then ((d_spec_l5Elsewhere (a0_) ((i1 : Int)) (x3_)).bind fun y794 => (bif y794 then (some (false)) else (d_spec_IsRule_L3 a0_ y13 i1 x1_ y723 y725 k3 xs3 (i3 + 1) ))) else (d_spec_IsRule_L3 a0_ y13 i1 x1_ y723 y725 k3 xs3 (i3 + 1) )) else (d_spec_IsRule_L3 a0_ y13 i1 x1_ y723 y725 k3 xs3 (i3 + 1) )))))
def d_spec_IsRule_L1 (a0_ : Rule) (y13 : List Bytes) (k1 : Option Bool) : List Cond → Nat → Option Bool
  | [], i1 => (k1 )
  | x1_ :: xs1, i1 => ((d_spec_IsCond (x1_)).bind fun y643 => (bif !(y643) then (some (false)) else (bif ((i1 : Int) : Int) == (0) then (bif (x1_.kind : Int) != (1) then (some (false)) else ((d_spec_BoundVars (a0_) ((i1 : Int))).bind fun y648 => ((d_spec_CondVars (x1_)).bind fun y650 => (bif decide ((y650).length ≤ maxLen) then (d_spec_IsRule_L2 a0_ y13 i1 x1_ y648 y650 (d_spec_IsRule_L1 a0_ y13 k1 xs1 (i1 + 1) ) (y650) 0 ) else none)))) else ((d_spec_BoundVars (a0_) ((i1 : Int))).bind fun y723 => ((d_spec_CondVars (x1_)).bind fun y725 => (bif decide ((y725).length ≤ maxLen) then (d_spec_IsRule_L3 a0_ y13 i1 x1_ y723 y725 (d_spec_IsRule_L1 a0_ y13 k1 xs1 (i1 + 1) ) (y725) 0 ) else none))))))
def d_spec_IsRule_L5 (a0_ : Rule) (y13 : List Bytes) (i4 : Nat) (y929 : List Bytes) (k5 : Option Bool) : List Bytes → Nat → Option Bool
  | [], i5 => (k5 )
  | x5_ :: xs5, i5 => ((d_spec_l1HasText (y13) (x5_)).bind fun y952 => (bif !(y952) then (some (false)) else (d_spec_IsRule_L5 a0_ y13 i4 y929 k5 xs5 (i5 + 1) )))
def d_spec_IsRule_L4 (a0_ : Rule) (y13 : List Bytes) (k4 : Option Bool) : List Action → Nat → Option Bool
  | [], i4 => (k4 )
  | x4_ :: xs4, i4 => ((d_spec_IsAction (x4_)).bind fun y926 => (bif !(y926) then (some (false)) else ((d_spec_VarsOf (x4_.pat)).bind fun y929 => (bif decide ((y929).length ≤ maxLen) then (d_spec_IsRule_L5 a0_ y13 i4 y929 (d_spec_IsRule_L4 a0_ y13 k4 xs4 (i4 + 1) ) (y929) 0 ) else none))))
def d_spec_IsRule (a0_ : Rule) : Option Bool := ((d_spec_IsName (a0_.name)).bind fun y1 => (bif !(y1) then (some (false)) else ((d_spec_l1In (a0_.prio) (0) (9)).bind fun y4 => (bif !(y4) then (some (false)) else ((d_spec_l1In ((((a0_.conds).map Cond.c).length : Int)) (1) (4)).bind fun y7 => (bif !(y7) then (some (false)) else ((d_spec_l1In ((((a0_.acts).map Action.c).length : Int)) (1) (2)).bind fun y10 => (bif !(y10) then (some (false)) else ((d_spec_BoundVars (a0_) ((((a0_.conds).map Cond.c).length : Int))).bind fun y13 => (d_spec_IsRule_L1 a0_ y13 (d_spec_IsRule_L4 a0_ y13 ((d_spec_RuleVars (a0_)).bind fun y956 => (some (decide (((((y956).map tx).length : Int) : Int) ≤ (6))))) (a0_.acts) 0 ) (a0_.conds) 0 ))))))))))
def d_spec_IsRule_S1 (a0_ : Rule) (y13 : List Bytes) (ix_ : Int) : St := ⟨[(1, D.ptr 0 0), (3, D.acc 1), (4, D.int .i64 (ix_))], [Ob.box (Rule.c a0_), Ob.row .uq 9 1 ((y13).map tx)]⟩
def d_spec_IsRule_S2 (a0_ : Rule) (y13 : List Bytes) (i1 : Nat) (x1_ : Cond) (y648 : List Bytes) (y650 : List Bytes) (ix_ : Int) : St := ⟨[(1, D.ptr 0 0), (3, D.acc 1), (4, D.int .i64 ((i1 : Int))), (5, D.ptr 2 0), (6, D.acc 3), (7, D.acc 4), (8, D.int .i64 (ix_))], [Ob.box (Rule.c a0_), Ob.row .uq 9 1 ((y13).map tx), Ob.box [D.int .i64 (x1_.kind), D.str (x1_.pat.rel), D.sl ((x1_.pat.args).map tx), D.str (x1_.left), D.str (x1_.right)], Ob.row .uq 9 1 ((y648).map tx), Ob.row .uq 9 1 ((y650).map tx)]⟩
theorem d_spec_IsRule_L2w (hΓ : Γ.nt = 145) {a0_ : Rule} {y13 : List Bytes} {i1 : Nat} {x1_ : Cond} {y648 : List Bytes} {y650 : List Bytes} {r : Bool} {k2 : Option Bool} (hE2 : k2 = some r → Ax Γ N Tryz.f27 (.q [[none]] (D.bool (r))) [1, 1, 1, 0, 1, 0, 0, 1, 1] ⟨[(1, D.ptr 0 0), (3, D.acc 1), (4, D.int .i64 ((i1 : Int)))], [Ob.box (Rule.c a0_), Ob.row .uq 9 1 ((y13).map tx)]⟩) (hm2 : (y650).length ≤ maxLen) : ∀ (rest : List Bytes) (i2 : Nat) , (y650).drop i2 = rest → d_spec_IsRule_L2 a0_ y13 i1 x1_ y648 y650 k2 rest i2  = some r → Ar Γ N Tryz.f27 (.q [[none]] (D.bool (r))) [1, 1, 1, 0, 1, 0, 0, 1, 0, 0, 1, 1, 1, 1, 1, 0] (rest.length + 1) (d_spec_IsRule_S2 a0_ y13 i1 x1_ y648 y650 ((i2 : Int))) := by
  intro rest
  induction rest with
  | nil =>
    intro i2  hd2 h
    rw [d_spec_IsRule_L2] at h
    refine AWr_succ fun N2 hN2 hS2 => ?_
    exact ((pre0.ge tx hd2).a [.hl 3 [1, 3, 4] [0, 1]]).ex hΓ hN2 (hE2 h)
  | cons x2_ xs2 ih2 =>
    intro i2  hd2 h
    rw [d_spec_IsRule_L2] at h
    refine AWr_succ fun N2 hN2 hS2 => ?_
    obtain ⟨y710, h711, h⟩ := den_bind h
    obtain ⟨y712, h713, h⟩ := den_bind h
    have o118_ := ((((((pre0.lt tx hd2).i (own_ixl tx 1 (dc hd2))).o 1 1 .uq (map_get tx (dc hd2))).g (d_spec_l1HasText_good h711)).a [.n 21]).g (d_spec_IsTest_good h713))
    obtain ⟨h714, h⟩ | ⟨h714, h⟩ := den_if h
    · have o119_ := (o118_.r 3 h714)
      obtain ⟨h715, h⟩ | ⟨h715, h⟩ := den_if h
      · have h := den_some h; subst h; exact ((((((o119_.r 4 h715).a [bF, bF]).r 2 h715).a [bF, bF, bF, bF, bF, bF, bF]).r 2 h715).T 1).ret hΓ
      · have o120_ := (o119_.r 4 h715)
        obtain ⟨h716, h⟩ | ⟨h716, h⟩ := den_if h
        · exact ((((((o120_.r 2 h716).b h715).b h716).r 11 h715).F 1).a [.cn [1, 3, 4, 5, 6, 7, 8] [0, 1, 2, 3, 4]]).ct hΓ hS2 (iS hd2 hm2) (ih2 (i2 + 1)  (dn hd2) h)
        · exact ((((((((((o120_.r 2 h716).b h715).b h716).b h715).F 7).b h715).F 1).b h715).F 1).a [.cn [1, 3, 4, 5, 6, 7, 8] [0, 1, 2, 3, 4]]).ct hΓ hS2 (iS hd2 hm2) (ih2 (i2 + 1)  (dn hd2) h)
    · have o121_ := ((o118_.r 3 h714).F 4)
      obtain ⟨h717, h⟩ | ⟨h717, h⟩ := den_if h
      · have o122_ := ((((o121_.r 2 h717).F 1).b h717).F 1)
        obtain ⟨h718, h⟩ | ⟨h718, h⟩ := den_if h
        · obtain ⟨y719, h720, h⟩ := den_bind h
          have o123_ := (((((((((o122_.r 5 h718).i (own_ixl tx 1 (dc hd2))).b h718).o 1 1 .uq (map_get tx (dc hd2))).b h718).g (d_spec_l5Elsewhere_good h720)).F 1).b h718).F 1)
          obtain ⟨h721, h⟩ | ⟨h721, h⟩ := den_if h
          · have h := den_some h; subst h; exact (o123_.b h721).ret hΓ
          · exact ((o123_.b h721).a [.cn [1, 3, 4, 5, 6, 7, 8] [0, 1, 2, 3, 4]]).ct hΓ hS2 (iS hd2 hm2) (ih2 (i2 + 1)  (dn hd2) h)
        · exact (((((o122_.r 7 h718).F 1).b h718).F 2).a [.cn [1, 3, 4, 5, 6, 7, 8] [0, 1, 2, 3, 4]]).ct hΓ hS2 (iS hd2 hm2) (ih2 (i2 + 1)  (dn hd2) h)
      · exact (((((o121_.r 2 h717).F 1).b h717).F 12).a [.cn [1, 3, 4, 5, 6, 7, 8] [0, 1, 2, 3, 4]]).ct hΓ hS2 (iS hd2 hm2) (ih2 (i2 + 1)  (dn hd2) h)
def d_spec_IsRule_S3 (a0_ : Rule) (y13 : List Bytes) (i1 : Nat) (x1_ : Cond) (y723 : List Bytes) (y725 : List Bytes) (ix_ : Int) : St := ⟨[(1, D.ptr 0 0), (3, D.acc 1), (4, D.int .i64 ((i1 : Int))), (5, D.ptr 2 0), (6, D.acc 3), (7, D.acc 4), (8, D.int .i64 (ix_))], [Ob.box (Rule.c a0_), Ob.row .uq 9 1 ((y13).map tx), Ob.box [D.int .i64 (x1_.kind), D.str (x1_.pat.rel), D.sl ((x1_.pat.args).map tx), D.str (x1_.left), D.str (x1_.right)], Ob.row .uq 9 1 ((y723).map tx), Ob.row .uq 9 1 ((y725).map tx)]⟩
theorem d_spec_IsRule_L3w (hΓ : Γ.nt = 145) {a0_ : Rule} {y13 : List Bytes} {i1 : Nat} {x1_ : Cond} {y723 : List Bytes} {y725 : List Bytes} {r : Bool} {k3 : Option Bool} (hE3 : k3 = some r → Ax Γ N Tryz.f27 (.q [[none]] (D.bool (r))) [1, 1, 1, 0, 1, 0, 0, 1, 1] ⟨[(1, D.ptr 0 0), (3, D.acc 1), (4, D.int .i64 ((i1 : Int)))], [Ob.box (Rule.c a0_), Ob.row .uq 9 1 ((y13).map tx)]⟩) (hm3 : (y725).length ≤ maxLen) : ∀ (rest : List Bytes) (i3 : Nat) , (y725).drop i3 = rest → d_spec_IsRule_L3 a0_ y13 i1 x1_ y723 y725 k3 rest i3  = some r → Ar Γ N Tryz.f27 (.q [[none]] (D.bool (r))) [1, 1, 1, 0, 1, 0, 0, 1, 0, 0, 1, 1, 1, 1, 1, 0] (rest.length + 1) (d_spec_IsRule_S3 a0_ y13 i1 x1_ y723 y725 ((i3 : Int))) := by
  intro rest
  induction rest with
  | nil =>
    intro i3  hd3 h
    rw [d_spec_IsRule_L3] at h
    refine AWr_succ fun N3 hN3 hS3 => ?_
    exact ((pre0.ge tx hd3).a [.hl 3 [1, 3, 4] [0, 1]]).ex hΓ hN3 (hE3 h)
  | cons x3_ xs3 ih3 =>
    intro i3  hd3 h
    rw [d_spec_IsRule_L3] at h
    refine AWr_succ fun N3 hN3 hS3 => ?_
    obtain ⟨y785, h786, h⟩ := den_bind h
    obtain ⟨y787, h788, h⟩ := den_bind h
    have o124_ := ((((((pre0.lt tx hd3).i (own_ixl tx 1 (dc hd3))).o 1 1 .uq (map_get tx (dc hd3))).g (d_spec_l1HasText_good h786)).a [.n 21]).g (d_spec_IsTest_good h788))
    obtain ⟨h789, h⟩ | ⟨h789, h⟩ := den_if h
    · have o125_ := (o124_.r 3 h789)
      obtain ⟨h790, h⟩ | ⟨h790, h⟩ := den_if h
      · have h := den_some h; subst h; exact ((((((o125_.r 4 h790).a [bF, bF]).r 2 h790).a [bF, bF, bF, bF, bF, bF, bF]).r 2 h790).T 1).ret hΓ
      · have o126_ := (o125_.r 4 h790)
        obtain ⟨h791, h⟩ | ⟨h791, h⟩ := den_if h
        · exact ((((((o126_.r 2 h791).b h790).b h791).r 11 h790).F 1).a [.cn [1, 3, 4, 5, 6, 7, 8] [0, 1, 2, 3, 4]]).ct hΓ hS3 (iS hd3 hm3) (ih3 (i3 + 1)  (dn hd3) h)
        · exact ((((((((((o126_.r 2 h791).b h790).b h791).b h790).F 7).b h790).F 1).b h790).F 1).a [.cn [1, 3, 4, 5, 6, 7, 8] [0, 1, 2, 3, 4]]).ct hΓ hS3 (iS hd3 hm3) (ih3 (i3 + 1)  (dn hd3) h)
    · have o127_ := ((o124_.r 3 h789).F 4)
      obtain ⟨h792, h⟩ | ⟨h792, h⟩ := den_if h
      · have o128_ := ((((o127_.r 2 h792).F 1).b h792).F 1)
        obtain ⟨h793, h⟩ | ⟨h793, h⟩ := den_if h
        · obtain ⟨y794, h795, h⟩ := den_bind h
          have o129_ := (((((((((o128_.r 5 h793).i (own_ixl tx 1 (dc hd3))).b h793).o 1 1 .uq (map_get tx (dc hd3))).b h793).g (d_spec_l5Elsewhere_good h795)).F 1).b h793).F 1)
          obtain ⟨h796, h⟩ | ⟨h796, h⟩ := den_if h
          · have h := den_some h; subst h; exact (o129_.b h796).ret hΓ
          · exact ((o129_.b h796).a [.cn [1, 3, 4, 5, 6, 7, 8] [0, 1, 2, 3, 4]]).ct hΓ hS3 (iS hd3 hm3) (ih3 (i3 + 1)  (dn hd3) h)
        · exact (((((o128_.r 7 h793).F 1).b h793).F 2).a [.cn [1, 3, 4, 5, 6, 7, 8] [0, 1, 2, 3, 4]]).ct hΓ hS3 (iS hd3 hm3) (ih3 (i3 + 1)  (dn hd3) h)
      · exact (((((o127_.r 2 h792).F 1).b h792).F 12).a [.cn [1, 3, 4, 5, 6, 7, 8] [0, 1, 2, 3, 4]]).ct hΓ hS3 (iS hd3 hm3) (ih3 (i3 + 1)  (dn hd3) h)
theorem d_spec_IsRule_L1w (hΓ : Γ.nt = 145) {a0_ : Rule} {y13 : List Bytes} {r : Bool} {k1 : Option Bool} (hE1 : k1 = some r → Ax Γ N Tryz.f27 (.q [[none]] (D.bool (r))) [1, 1, 1, 1] ⟨[(1, D.ptr 0 0), (3, D.acc 1)], [Ob.box (Rule.c a0_), Ob.row .uq 9 1 ((y13).map tx)]⟩) (hm1 : (a0_.conds).length ≤ maxLen) : ∀ (rest : List Cond) (i1 : Nat) , (a0_.conds).drop i1 = rest → d_spec_IsRule_L1 a0_ y13 k1 rest i1  = some r → Ar Γ N Tryz.f27 (.q [[none]] (D.bool (r))) [1, 1, 1, 0, 1, 0] (rest.length + 1) (d_spec_IsRule_S1 a0_ y13 ((i1 : Int))) := by
  intro rest
  induction rest with
  | nil =>
    intro i1  hd1 h
    rw [d_spec_IsRule_L1] at h
    refine AWr_succ fun N1 hN1 hS1 => ?_
    exact ((pre0.ge Cond.c hd1).a [.hl 0 [1, 3] [0, 1]]).ex hΓ hN1 (hE1 h)
  | cons x1_ xs1 ih1 =>
    intro i1  hd1 h
    rw [d_spec_IsRule_L1] at h
    refine AWr_succ fun N1 hN1 hS1 => ?_
    obtain ⟨y643, h644, h⟩ := den_bind h
    have o130_ := (((pre0.lt Cond.c hd1).l (map_row Cond.c 5 (dc hd1) rfl)).g (d_spec_IsCond_good h644))
    obtain ⟨h645, h⟩ | ⟨h645, h⟩ := den_if h
    · have h := den_some h; subst h; exact ((((o130_.r 3 h645).a [bF, bF, bF]).r 2 h645).T 1).ret hΓ
    · have o131_ := (o130_.r 3 h645)
      obtain ⟨h646, h⟩ | ⟨h646, h⟩ := den_if h
      · have o132_ := ((((o131_.r 3 h646).b h645).b h646).b h645)
        obtain ⟨h647, h⟩ | ⟨h647, h⟩ := den_if h
        · have h := den_some h; subst h; exact (o132_.b h647).ret hΓ
        · obtain ⟨y648, h649, h⟩ := den_bind h
          obtain ⟨y650, h651, h⟩ := den_bind h
          obtain ⟨h722, h⟩ := den_ok h
          refine ((((o132_.b h647).g (d_spec_BoundVars_good h649)).g (d_spec_CondVars_good h651)).a [.cn [1, 3, 4, 5, 6, 7, 8] [0, 1, 2, 3, 4]]).lp hΓ (d_spec_IsRule_L2w hΓ (fun h => ?_) (of_decide_eq_true h722) (y650) 0  rfl h)
          exact (pre0.a [.cn [1, 3, 4] [0, 1]]).ct hΓ hS1 (iS hd1 hm1) (ih1 (i1 + 1)  (dn hd1) h)
      · obtain ⟨y723, h724, h⟩ := den_bind h
        obtain ⟨y725, h726, h⟩ := den_bind h
        obtain ⟨h797, h⟩ := den_ok h
        refine ((((((((o131_.r 3 h646).b h645).b h646).b h645).F 1).g (d_spec_BoundVars_good h724)).g (d_spec_CondVars_good h726)).a [.cn [1, 3, 4, 5, 6, 7, 8] [0, 1, 2, 3, 4]]).lp hΓ (d_spec_IsRule_L3w hΓ (fun h => ?_) (of_decide_eq_true h797) (y725) 0  rfl h)
        exact (pre0.a [.cn [1, 3, 4] [0, 1]]).ct hΓ hS1 (iS hd1 hm1) (ih1 (i1 + 1)  (dn hd1) h)
def d_spec_IsRule_S4 (a0_ : Rule) (y13 : List Bytes) (ix_ : Int) : St := ⟨[(1, D.ptr 0 0), (3, D.acc 1), (10, D.int .i64 (ix_))], [Ob.box (Rule.c a0_), Ob.row .uq 9 1 ((y13).map tx)]⟩
def d_spec_IsRule_S5 (a0_ : Rule) (y13 : List Bytes) (i4 : Nat) (y929 : List Bytes) (ix_ : Int) : St := ⟨[(1, D.ptr 0 0), (3, D.acc 1), (10, D.int .i64 ((i4 : Int))), (11, D.acc 2), (12, D.int .i64 (ix_))], [Ob.box (Rule.c a0_), Ob.row .uq 9 1 ((y13).map tx), Ob.row .uq 9 1 ((y929).map tx)]⟩
theorem d_spec_IsRule_L5w (hΓ : Γ.nt = 145) {a0_ : Rule} {y13 : List Bytes} {i4 : Nat} {y929 : List Bytes} {r : Bool} {k5 : Option Bool} (hE5 : k5 = some r → Ax Γ N Tryz.f27 (.q [[none]] (D.bool (r))) [1, 1, 1, 1, 0, 1, 0, 0, 1, 1] ⟨[(1, D.ptr 0 0), (3, D.acc 1), (10, D.int .i64 ((i4 : Int)))], [Ob.box (Rule.c a0_), Ob.row .uq 9 1 ((y13).map tx)]⟩) (hm5 : (y929).length ≤ maxLen) : ∀ (rest : List Bytes) (i5 : Nat) , (y929).drop i5 = rest → d_spec_IsRule_L5 a0_ y13 i4 y929 k5 rest i5  = some r → Ar Γ N Tryz.f27 (.q [[none]] (D.bool (r))) [1, 1, 1, 1, 0, 1, 0, 0, 1, 0, 0, 1, 1, 1, 0] (rest.length + 1) (d_spec_IsRule_S5 a0_ y13 i4 y929 ((i5 : Int))) := by
  intro rest
  induction rest with
  | nil =>
    intro i5  hd5 h
    rw [d_spec_IsRule_L5] at h
    refine AWr_succ fun N5 hN5 hS5 => ?_
    exact ((pre0.ge tx hd5).a [.hl 3 [1, 3, 10] [0, 1]]).ex hΓ hN5 (hE5 h)
  | cons x5_ xs5 ih5 =>
    intro i5  hd5 h
    rw [d_spec_IsRule_L5] at h
    refine AWr_succ fun N5 hN5 hS5 => ?_
    obtain ⟨y952, h953, h⟩ := den_bind h
    have o137_ := ((((pre0.lt tx hd5).i (own_ixl tx 1 (dc hd5))).o 1 1 .uq (map_get tx (dc hd5))).g (d_spec_l1HasText_good h953))
    obtain ⟨h954, h⟩ | ⟨h954, h⟩ := den_if h
    · have h := den_some h; subst h; exact (o137_.b h954).ret hΓ
    · exact ((o137_.b h954).a [.cn [1, 3, 10, 11, 12] [0, 1, 2]]).ct hΓ hS5 (iS hd5 hm5) (ih5 (i5 + 1)  (dn hd5) h)
theorem d_spec_IsRule_L4w (hΓ : Γ.nt = 145) {a0_ : Rule} {y13 : List Bytes} {r : Bool} {k4 : Option Bool} (hE4 : k4 = some r → Ax Γ N Tryz.f27 (.q [[none]] (D.bool (r))) [1, 1, 1, 1, 1] ⟨[(1, D.ptr 0 0)], [Ob.box (Rule.c a0_)]⟩) (hm4 : (a0_.acts).length ≤ maxLen) : ∀ (rest : List Action) (i4 : Nat) , (a0_.acts).drop i4 = rest → d_spec_IsRule_L4 a0_ y13 k4 rest i4  = some r → Ar Γ N Tryz.f27 (.q [[none]] (D.bool (r))) [1, 1, 1, 1, 0, 1, 0] (rest.length + 1) (d_spec_IsRule_S4 a0_ y13 ((i4 : Int))) := by
  intro rest
  induction rest with
  | nil =>
    intro i4  hd4 h
    rw [d_spec_IsRule_L4] at h
    refine AWr_succ fun N4 hN4 hS4 => ?_
    exact ((pre0.ge Action.c hd4).a [.hl 0 [1] [0]]).ex hΓ hN4 (hE4 h)
  | cons x4_ xs4 ih4 =>
    intro i4  hd4 h
    rw [d_spec_IsRule_L4] at h
    refine AWr_succ fun N4 hN4 hS4 => ?_
    obtain ⟨y926, h927, h⟩ := den_bind h
    have o138_ := (((pre0.lt Action.c hd4).l (map_row Action.c 3 (dc hd4) rfl)).g (d_spec_IsAction_good h927))
    obtain ⟨h928, h⟩ | ⟨h928, h⟩ := den_if h
    · have h := den_some h; subst h; exact (o138_.b h928).ret hΓ
    · obtain ⟨y929, h930, h⟩ := den_bind h
      obtain ⟨h955, h⟩ := den_ok h
      refine ((((o138_.b h928).l (map_row Action.c 3 (dc hd4) rfl)).g (d_spec_VarsOf_good h930)).a [.cn [1, 3, 10, 11, 12] [0, 1, 2]]).lp hΓ (d_spec_IsRule_L5w hΓ (fun h => ?_) (of_decide_eq_true h955) (y929) 0  rfl h)
      exact (pre0.a [.cn [1, 3, 10] [0, 1]]).ct hΓ hS4 (iS hd4 hm4) (ih4 (i4 + 1)  (dn hd4) h)
theorem d_spec_IsRule_good {a0_ : Rule} {r : Bool} (h : d_spec_IsRule a0_ = some r) : Good Tryz.prog 27 [D.agg (Rule.c a0_)] (D.bool (r)) := by
  refine gd Tryz.func27 [[none]] 145 fun hr Γ hΓ => ?_
  rw [d_spec_IsRule] at h
  obtain ⟨y1, h2, h⟩ := den_bind h
  obtain ⟨h3, h⟩ | ⟨h3, h⟩ := den_if h
  · have h := den_some h; subst h; exact (((pre0.g (d_spec_IsName_good h2)).r 5 h3).T 13).ret hΓ
  · obtain ⟨y4, h5, h⟩ := den_bind h
    have o139_ := ((((pre0.g (d_spec_IsName_good h2)).r 3 h3).g (d_spec_l1In_good h5)).r 2 h3)
    obtain ⟨h6, h⟩ | ⟨h6, h⟩ := den_if h
    · have h := den_some h; subst h; exact ((o139_.r 6 h6).T 7).ret hΓ
    · obtain ⟨y7, h8, h⟩ := den_bind h
      have o140_ := (((o139_.r 4 h6).g (d_spec_l1In_good h8)).r 2 h6)
      obtain ⟨h9, h⟩ | ⟨h9, h⟩ := den_if h
      · have h := den_some h; subst h; exact ((o140_.r 6 h9).T 1).ret hΓ
      · obtain ⟨y10, h11, h⟩ := den_bind h
        have o141_ := (((o140_.r 4 h9).g (d_spec_l1In_good h11)).r 2 h9)
        obtain ⟨h12, h⟩ | ⟨h12, h⟩ := den_if h
        · have h := den_some h; subst h; exact (o141_.b h12).ret hΓ
        · obtain ⟨y13, h14, h⟩ := den_bind h
          refine (((o141_.b h12).g (d_spec_BoundVars_good h14)).a [.cn [1, 3, 4] [0, 1]]).lp hΓ (d_spec_IsRule_L1w hΓ (fun h => ?_) (by have := (Rdb.sl (Rdb.agg (hr _ (List.mem_of_getElem? (i := 0) rfl)) (.sl ((a0_.conds).map Cond.c)) (by simp))).1; simpa using this) (a0_.conds) 0  rfl h)
          refine (pre0.a [.cn [1, 3, 10] [0, 1]]).lp hΓ (d_spec_IsRule_L4w hΓ (fun h => ?_) (by have := (Rdb.sl (Rdb.agg (hr _ (List.mem_of_getElem? (i := 0) rfl)) (.sl ((a0_.acts).map Action.c)) (by simp))).1; simpa using this) (a0_.acts) 0  rfl h)
          obtain ⟨y956, h957, h⟩ := den_bind h
          cases h; exact (pre0.g (d_spec_RuleVars_good h957)).ret hΓ
def d_spec_FormatInt_R_L1  (k1 : Option Bytes) : Nat → Int → Bytes → Option Bytes
  | 0, _, _ => none
  | n1 + 1, v1_0, v1_3 => (bif decide (0 ≤ (v1_0 : Int)) && decide (0 < (10 : Int)) then (bif decide (([UInt8.ofNat (IntKind.u8.wrap (IntKind.i64.wrap ((48) + ((v1_0 : Int) % (10))))).toNat] : Bytes).length + (v1_3 : Bytes).length ≤ maxLen) then (bif decide (0 ≤ (v1_0 : Int)) && decide (0 < (10 : Int)) then (bif ((v1_0 : Int) / (10) : Int) == (0) then (some (([UInt8.ofNat (IntKind.u8.wrap (IntKind.i64.wrap ((48) + ((v1_0 : Int) % (10))))).toNat]) ++ (v1_3))) else (d_spec_FormatInt_R_L1  k1 n1 ((v1_0 : Int) / (10)) (([UInt8.ofNat (IntKind.u8.wrap (IntKind.i64.wrap ((48) + ((v1_0 : Int) % (10))))).toNat]) ++ (v1_3)))) else none) else none) else none)
def d_spec_FormatInt_R : Nat → Int → Option Bytes
  | 0, _ => none
  | m_ + 1, a0_ => (bif (a0_ : Int) == (-9223372036854775808) then (some ([45, 57, 50, 50, 51, 51, 55, 50, 48, 51, 54, 56, 53, 52, 55, 55, 53, 56, 48, 56])) else (bif decide ((a0_ : Int) < (0)) then ((d_spec_FormatInt_R m_ (IntKind.i64.wrap (0 - (a0_)))).bind fun y3 => (bif decide (([45] : Bytes).length + (y3 : Bytes).length ≤ maxLen) then (some (([45]) ++ (y3))) else none)) else (d_spec_FormatInt_R_L1  none fuel (a0_) ([]))))
def d_spec_FormatInt_R_S1 (v1_0 : Int) (v1_3 : Bytes) : St := ⟨[(0, D.int .i64 (v1_0)), (3, D.str (v1_3))], []⟩
theorem d_spec_FormatInt_R_L1w (hΓ : Γ.nt = 25)  {r : Bytes} {k1 : Option Bytes} (hE1 : k1 = some r → Ax Γ N Tryz.f57 (.q [[none]] (D.str (r))) [1, 1, 1, 1, 0, 0] ⟨[], []⟩) : ∀ (n1 : Nat) (v1_0 : Int) (v1_3 : Bytes), d_spec_FormatInt_R_L1  k1 n1 v1_0 v1_3 = some r → Ar Γ N Tryz.f57 (.q [[none]] (D.str (r))) [1, 1, 1, 1, 0] n1 (d_spec_FormatInt_R_S1 v1_0 v1_3) := by
  intro n
  induction n with
  | zero => intro v1_0 v1_3 h; simp [d_spec_FormatInt_R_L1] at h
  | succ n1 ih1 =>
    intro v1_0 v1_3 h
    rw [d_spec_FormatInt_R_L1] at h
    refine AWr_succ fun N1 hN1 hS1 => ?_
    obtain ⟨h14, h⟩ := den_ok h
    obtain ⟨h15, h⟩ := den_ok h
    obtain ⟨h16, h⟩ := den_ok h
    have o2_ := (((pre0.w (quo_ok .i64 h14)).w (of_decide_eq_true h15)).w (quo_ok .i64 h16))
    obtain ⟨h17, h⟩ | ⟨h17, h⟩ := den_if h
    · cases h; exact (o2_.b h17).rts hΓ (D.str (([UInt8.ofNat (IntKind.u8.wrap (IntKind.i64.wrap ((48) + ((v1_0 : Int) % (10))))).toNat]) ++ (v1_3))) (by first | rfl | (simp only [mA] <;> rfl))
    · exact ((o2_.b h17).a [.cn [0, 3] []]).cf hΓ hS1 (ih1 ((v1_0 : Int) / (10)) (([UInt8.ofNat (IntKind.u8.wrap (IntKind.i64.wrap ((48) + ((v1_0 : Int) % (10))))).toNat]) ++ (v1_3)) h)
theorem d_spec_FormatInt_R_step {m_ : Nat} (ihR : ∀ {a0_ : Int} {r : Bytes}, d_spec_FormatInt_R m_ a0_ = some r → Good Tryz.prog 57 [D.int .i64 (a0_)] (D.str (r))) {a0_ : Int} {r : Bytes} (h : d_spec_FormatInt_R (m_ + 1) a0_ = some r) : Good Tryz.prog 57 [D.int .i64 (a0_)] (D.str (r)) := by
  refine gd Tryz.func57 [[none]] 25 fun hr Γ hΓ => ?_
  rw [d_spec_FormatInt_R] at h
  obtain ⟨h1, h⟩ | ⟨h1, h⟩ := den_if h
  · cases h; exact (pre0.b h1).ret hΓ
  · obtain ⟨h2, h⟩ | ⟨h2, h⟩ := den_if h
    · obtain ⟨y3, h4, h⟩ := den_bind h
      obtain ⟨h5, h⟩ := den_ok h
      cases h; exact ((((pre0.b h1).b h2).g (ihR h4)).w (of_decide_eq_true h5)).rts hΓ (D.str (([45]) ++ (y3))) (by first | rfl | (simp only [mA] <;> rfl))
    · refine (((pre0.b h1).b h2).a [.cn [0, 3] []]).lp hΓ (d_spec_FormatInt_R_L1w hΓ (fun h => ?_) fuel (a0_) ([]) h)
      cases h
theorem d_spec_FormatInt_R_good : ∀ (m_ : Nat) {a0_ : Int} {r : Bytes}, d_spec_FormatInt_R m_ a0_ = some r → Good Tryz.prog 57 [D.int .i64 (a0_)] (D.str (r))
  | 0, _, _, h => by cases h
  | m_ + 1, _, _, h => d_spec_FormatInt_R_step (fun h => d_spec_FormatInt_R_good m_ h) h
def d_spec_FormatInt (a0_ : Int) : Option Bytes := d_spec_FormatInt_R fuel a0_
theorem d_spec_FormatInt_good {a0_ : Int} {r : Bytes} (h : d_spec_FormatInt a0_ = some r) : Good Tryz.prog 57 [D.int .i64 (a0_)] (D.str (r)) := d_spec_FormatInt_R_good fuel h
def d_spec_l4Renamed_L1 (a0_ : Bytes) (a1_ : List Pair) (k1 : Option Bytes) : List Pair → Nat → Option Bytes
  | [], i1 => (k1 )
  | x1_ :: xs1, i1 => (bif (x1_.var : Bytes) == (a0_) then (some (x1_.value)) else (d_spec_l4Renamed_L1 a0_ a1_ k1 xs1 (i1 + 1) ))
def d_spec_l4Renamed (a0_ : Bytes) (a1_ : List Pair) : Option Bytes := (d_spec_l4Renamed_L1 a0_ a1_ (some (a0_)) (a1_) 0 )
def d_spec_l4Renamed_S1 (a0_ : Bytes) (a1_ : List Pair) (ix_ : Int) : St := ⟨[(0, D.str (a0_)), (1, D.sl ((a1_).map Pair.c)), (5, D.int .i64 (ix_))], []⟩
theorem d_spec_l4Renamed_L1w (hΓ : Γ.nt = 25) {a0_ : Bytes} {a1_ : List Pair} {r : Bytes} {k1 : Option Bytes} (hE1 : k1 = some r → Ax Γ N Tryz.f133 (.q [[none]] (D.str (r))) [1, 1] ⟨[(0, D.str (a0_))], []⟩) (hm1 : (a1_).length ≤ maxLen) : ∀ (rest : List Pair) (i1 : Nat) , (a1_).drop i1 = rest → d_spec_l4Renamed_L1 a0_ a1_ k1 rest i1  = some r → Ar Γ N Tryz.f133 (.q [[none]] (D.str (r))) [1, 0, 1, 0] (rest.length + 1) (d_spec_l4Renamed_S1 a0_ a1_ ((i1 : Int))) := by
  intro rest
  induction rest with
  | nil =>
    intro i1  hd1 h
    rw [d_spec_l4Renamed_L1] at h
    refine AWr_succ fun N1 hN1 hS1 => ?_
    exact ((pre0.ge Pair.c hd1).a [.hl 0 [0] []]).ex hΓ hN1 (hE1 h)
  | cons x1_ xs1 ih1 =>
    intro i1  hd1 h
    rw [d_spec_l4Renamed_L1] at h
    refine AWr_succ fun N1 hN1 hS1 => ?_
    have o2_ := ((pre0.lt Pair.c hd1).l (map_row Pair.c 2 (dc hd1) rfl))
    obtain ⟨h13, h⟩ | ⟨h13, h⟩ := den_if h
    · cases h; exact ((o2_.b h13).l (map_row Pair.c 2 (dc hd1) rfl)).ret hΓ
    · exact ((o2_.b h13).a [.cn [0, 1, 5] []]).ct hΓ hS1 (iS hd1 hm1) (ih1 (i1 + 1)  (dn hd1) h)
theorem d_spec_l4Renamed_good {a0_ : Bytes} {a1_ : List Pair} {r : Bytes} (h : d_spec_l4Renamed a0_ a1_ = some r) : Good Tryz.prog 133 [D.str (a0_), D.sl ((a1_).map Pair.c)] (D.str (r)) := by
  refine gd Tryz.func133 [[none]] 25 fun hr Γ hΓ => ?_
  rw [d_spec_l4Renamed] at h
  refine (pre0.a [.cn [0, 1, 5] []]).lp hΓ (d_spec_l4Renamed_L1w hΓ (fun h => ?_) (by have := (Rdb.sl (hr _ (List.mem_of_getElem? (i := 1) rfl))).1; simpa using this) (a1_) 0  rfl h)
  have h := den_some h; subst h; exact pre0.ret hΓ
def d_spec_RenameCond_L1 (a0_ : Cond) (a1_ : List Pair) (y1 : Bytes) (y3 : Bytes) (k1 : List Bytes → Option Cond) : List Bytes → Nat → List Bytes → Option Cond
  | [], i1, w1_3 => (k1 (w1_3))
  | x1_ :: xs1, i1, w1_3 => ((d_spec_l4Renamed (x1_) (a1_)).bind fun y31 => (bif room (((w1_3).map tx).length + ([[D.str (y31)]]).length) 16 then (d_spec_RenameCond_L1 a0_ a1_ y1 y3 k1 xs1 (i1 + 1) ((w1_3) ++ ([y31]))) else none))
def d_spec_RenameCond (a0_ : Cond) (a1_ : List Pair) : Option Cond := ((d_spec_l4Renamed (a0_.left) (a1_)).bind fun y1 => ((d_spec_l4Renamed (a0_.right) (a1_)).bind fun y3 => (d_spec_RenameCond_L1 a0_ a1_ y1 y3 (fun (q1_2 : List Bytes) => (some ((⟨a0_.kind, (⟨a0_.pat.rel, q1_2⟩ : Fact), y1, y3⟩ : Cond)))) (a0_.pat.args) 0 (([] : List Bytes)))))
def d_spec_RenameCond_S1 (a0_ : Cond) (a1_ : List Pair) (y1 : Bytes) (y3 : Bytes) (W0 : List (List D)) (ix_ : Int) : St := ⟨[(1, D.sl ((a1_).map Pair.c)), (2, D.ptr 0 0), (4, D.ptr 1 0), (5, D.ptr 2 0), (6, D.int .i64 (ix_))], [Ob.box (Cond.c a0_), Ob.box [D.int .i64 (0), D.str ([]), D.nil, D.str ([]), D.str ([])], Ob.box [D.int .i64 (a0_.kind), D.str (a0_.pat.rel), D.acc 3, D.str (y1), D.str (y3)], Ob.row .uq 9 1 (W0)]⟩
theorem d_spec_RenameCond_L1w (hΓ : Γ.nt = 46) {a0_ : Cond} {a1_ : List Pair} {y1 : Bytes} {y3 : Bytes} {r : Cond} {k1 : List Bytes → Option Cond} (hE1 : ∀ (q1_2 : List Bytes), k1 q1_2 = some r → Ax Γ N Tryz.f83 (.q [[none, none, some (9, 1), none, none]] (D.agg [D.int .i64 (r.kind), D.str (r.pat.rel), D.fr 9 1 ((r.pat.args).map tx), D.str (r.left), D.str (r.right)])) [1, 1, 1] ⟨[(4, D.ptr 0 0), (5, D.ptr 1 0)], [Ob.box [D.int .i64 (0), D.str ([]), D.nil, D.str ([]), D.str ([])], Ob.box [D.int .i64 (a0_.kind), D.str (a0_.pat.rel), D.acc 2, D.str (y1), D.str (y3)], Ob.row .uq 9 1 ((q1_2).map tx)]⟩) (hm1 : (a0_.pat.args).length ≤ maxLen) : ∀ (rest : List Bytes) (i1 : Nat) (w1_3 : List Bytes), (a0_.pat.args).drop i1 = rest → d_spec_RenameCond_L1 a0_ a1_ y1 y3 k1 rest i1 w1_3 = some r → Ar Γ N Tryz.f83 (.q [[none, none, some (9, 1), none, none]] (D.agg [D.int .i64 (r.kind), D.str (r.pat.rel), D.fr 9 1 ((r.pat.args).map tx), D.str (r.left), D.str (r.right)])) [1, 1, 0, 1, 0] (rest.length + 1) (d_spec_RenameCond_S1 a0_ a1_ y1 y3 ((w1_3).map tx) ((i1 : Int))) := by
  intro rest
  induction rest with
  | nil =>
    intro i1 w1_3 hd1 h
    rw [d_spec_RenameCond_L1] at h
    refine AWr_succ fun N1 hN1 hS1 => ?_
    exact ((pre0.ge tx hd1).a [.hl 0 [4, 5] [1, 2, 3]]).ex hΓ hN1 (hE1 (w1_3) h)
  | cons x1_ xs1 ih1 =>
    intro i1 w1_3 hd1 h
    rw [d_spec_RenameCond_L1] at h
    refine AWr_succ fun N1 hN1 hS1 => ?_
    obtain ⟨y31, h32, h⟩ := den_bind h
    obtain ⟨h33, h⟩ := den_ok h
    exact ((((((pre0.lt tx hd1).a [.n 12]).l (map_row tx 1 (dc hd1) rfl)).g (d_spec_l4Renamed_good h32)).w (room_ok h33)).a [.cn [1, 2, 4, 5, 6] [0, 1, 2, 5]]).cs hΓ hS1 (d_spec_RenameCond_S1 a0_ a1_ y1 y3 (((w1_3).map tx) ++ ([[D.str (y31)]])) (IntKind.i64.wrap (((i1 : Int)) + (1)))) (by first | (simp only [iS hd1 hm1, mA] <;> rfl) | (simp only [iS hd1 hm1, mA, Fact.c, Pair.c, Cond.c, Action.c, Rule.c, Token.c, Match.c, Alpha.c, Node.c, Network.c, Stamp.c] <;> rfl)) (ih1 (i1 + 1) ((w1_3) ++ ([y31])) (dn hd1) h)
theorem d_spec_RenameCond_good {a0_ : Cond} {a1_ : List Pair} {r : Cond} (h : d_spec_RenameCond a0_ a1_ = some r) : Good Tryz.prog 83 [D.agg (Cond.c a0_), D.sl ((a1_).map Pair.c)] (D.agg [D.int .i64 (r.kind), D.str (r.pat.rel), D.fr 9 1 ((r.pat.args).map tx), D.str (r.left), D.str (r.right)]) := by
  refine gd Tryz.func83 [[none, none, some (9, 1), none, none]] 46 fun hr Γ hΓ => ?_
  rw [d_spec_RenameCond] at h
  obtain ⟨y1, h2, h⟩ := den_bind h
  obtain ⟨y3, h4, h⟩ := den_bind h
  refine ((((pre0.a [.n 16]).g (d_spec_l4Renamed_good h2)).g (d_spec_l4Renamed_good h4)).a [.pb 2 2 9 1, .cn [1, 2, 4, 5, 6] [0, 1, 2, 3]]).lp hΓ (d_spec_RenameCond_L1w hΓ (fun q1_2 h => ?_) (by have := (Rdb.sl (Rdb.agg (hr _ (List.mem_of_getElem? (i := 0) rfl)) (.sl ((a0_.pat.args).map tx)) (by simp))).1; simpa using this) (a0_.pat.args) 0 (([] : List Bytes)) rfl h)
  cases h; exact pre0.ret hΓ
def d_spec_l4Copy (a0_ : Cond) : Option Cond := ((d_spec_RenameCond (a0_) ([])).bind fun y1 => (some (y1)))
theorem d_spec_l4Copy_good {a0_ : Cond} {r : Cond} (h : d_spec_l4Copy a0_ = some r) : Good Tryz.prog 58 [D.agg (Cond.c a0_)] (D.agg [D.int .i64 (r.kind), D.str (r.pat.rel), D.fr 9 1 ((r.pat.args).map tx), D.str (r.left), D.str (r.right)]) := by
  refine gd Tryz.func58 [[none, none, some (9, 1), none, none]] 5 fun hr Γ hΓ => ?_
  rw [d_spec_l4Copy] at h
  obtain ⟨y1, h2, h⟩ := den_bind h
  have h := den_some h; subst h; exact ((pre0.a [.d (D.agg [D.int .i64 (y1.kind), D.str (y1.pat.rel), D.fr 9 1 ((y1.pat.args).map tx), D.str (y1.left), D.str (y1.right)])]).w (show Good Tryz.prog 83 [D.agg (Cond.c (a0_)), D.sl ([])] (D.agg [D.int .i64 (y1.kind), D.str (y1.pat.rel), D.fr 9 1 ((y1.pat.args).map tx), D.str (y1.left), D.str (y1.right)]) from by first | (simpa only [List.map_append, List.map_cons, List.map_nil, List.map_drop, List.map_take] using d_spec_RenameCond_good h2) | exact d_spec_RenameCond_good h2)).ret hΓ
def d_spec_l1Texts (a0_ : List Bytes) : Option (List Bytes) := (bif room ((([] : List (List D))).length + ((a0_).map tx).length) 16 then (some ((([] : List Bytes)) ++ (a0_))) else none)
theorem d_spec_l1Texts_good {a0_ : List Bytes} {r : List Bytes} (h : d_spec_l1Texts a0_ = some r) : Good Tryz.prog 104 [D.sl ((a0_).map tx)] (D.fr 9 1 ((r).map tx)) := by
  refine gd Tryz.func104 [[some (9, 1)]] 6 fun hr Γ hΓ => ?_
  rw [d_spec_l1Texts] at h
  obtain ⟨h1, h⟩ := den_ok h
  cases h; exact (((pre0.w (room_ok h1)).w (show (∀ r ∈ ((a0_).map tx), r.length = 1) ∧ (true = true → D.flatRows ((a0_).map tx) = true) from ⟨by first | simp | (intro r hr; obtain ⟨x, _, rfl⟩ := List.mem_map.1 (List.mem_of_mem_take (List.mem_of_mem_drop hr)); rfl), by simp [D.flatRows, D.flat]⟩)).a [.pro 2, .fl true]).rts hΓ (D.fr 9 1 ((([] : List (List D))) ++ ((a0_).map tx))) (by first | rfl | (simp only [mA] <;> rfl))
def d_spec_l3CopyPattern (a0_ : Fact) : Option Fact := ((d_spec_l1Texts (a0_.args)).bind fun y1 => (some ((⟨a0_.rel, y1⟩ : Fact))))
theorem d_spec_l3CopyPattern_good {a0_ : Fact} {r : Fact} (h : d_spec_l3CopyPattern a0_ = some r) : Good Tryz.prog 59 [D.agg (Fact.c a0_)] (D.agg [D.str (r.rel), D.fr 9 1 ((r.args).map tx)]) := by
  refine gd Tryz.func59 [[none, some (9, 1)]] 9 fun hr Γ hΓ => ?_
  rw [d_spec_l3CopyPattern] at h
  obtain ⟨y1, h2, h⟩ := den_bind h
  cases h; exact ((pre0.a [.n 5]).g (d_spec_l1Texts_good h2)).ret hΓ
def d_spec_l5Copy_L1 (a0_ : Rule) (k1 : List Cond → Option Rule) : List Cond → Nat → List Cond → Option Rule
  | [], i1, w1_3 => (k1 (w1_3))
  | x1_ :: xs1, i1, w1_3 => ((d_spec_l4Copy (x1_)).bind fun y45 => (bif room (((w1_3).map Cond.c).length + ([[D.int .i64 (y45.kind), D.str (y45.pat.rel), D.sl ((y45.pat.args).map tx), D.str (y45.left), D.str (y45.right)]]).length) 80 then (d_spec_l5Copy_L1 a0_ k1 xs1 (i1 + 1) ((w1_3) ++ ([y45]))) else none))
def d_spec_l5Copy_L2 (a0_ : Rule) (q1_3 : List Cond) (k2 : List Action → Option Rule) : List Action → Nat → List Action → Option Rule
  | [], i2, w2_4 => (k2 (w2_4))
  | x2_ :: xs2, i2, w2_4 => ((d_spec_l3CopyPattern (x2_.pat)).bind fun y92 => (bif room (((w2_4).map Action.c).length + ([[D.int .i64 (x2_.kind), D.str (y92.rel), D.sl ((y92.args).map tx)]]).length) 48 then (d_spec_l5Copy_L2 a0_ q1_3 k2 xs2 (i2 + 1) ((w2_4) ++ ([(⟨x2_.kind, y92⟩ : Action)]))) else none))
def d_spec_l5Copy (a0_ : Rule) : Option Rule := (d_spec_l5Copy_L1 a0_ (fun (q1_3 : List Cond) => (d_spec_l5Copy_L2 a0_ q1_3 (fun (q2_3 : List Action) => (some ((⟨a0_.name, a0_.prio, q1_3, q2_3⟩ : Rule)))) (a0_.acts) 0 (([] : List Action)))) (a0_.conds) 0 (([] : List Cond)))
def d_spec_l5Copy_S1 (a0_ : Rule) (W0 : List (List D)) (ix_ : Int) : St := ⟨[(1, D.ptr 0 0), (2, D.ptr 1 0), (3, D.ptr 2 0), (4, D.int .i64 (ix_))], [Ob.box (Rule.c a0_), Ob.box [D.str ([]), D.int .i64 (0), D.nil, D.nil], Ob.box [D.str (a0_.name), D.int .i64 (a0_.prio), D.acc 3, D.nil], Ob.row .uq 73 5 (W0)]⟩
theorem d_spec_l5Copy_L1w (hΓ : Γ.nt = 56) {a0_ : Rule} {r : Rule} {k1 : List Cond → Option Rule} (hE1 : ∀ (q1_3 : List Cond), k1 q1_3 = some r → Ax Γ N Tryz.f24 (.q [[none, none, some (73, 5), some (100, 3)]] (D.agg [D.str (r.name), D.int .i64 (r.prio), D.fr 73 5 ((r.conds).map Cond.c), D.fr 100 3 ((r.acts).map Action.c)])) [1, 1, 1] ⟨[(1, D.ptr 0 0), (2, D.ptr 1 0), (3, D.ptr 2 0)], [Ob.box (Rule.c a0_), Ob.box [D.str ([]), D.int .i64 (0), D.nil, D.nil], Ob.box [D.str (a0_.name), D.int .i64 (a0_.prio), D.acc 3, D.nil], Ob.row .uq 73 5 ((q1_3).map Cond.c)]⟩) (hm1 : (a0_.conds).length ≤ maxLen) : ∀ (rest : List Cond) (i1 : Nat) (w1_3 : List Cond), (a0_.conds).drop i1 = rest → d_spec_l5Copy_L1 a0_ k1 rest i1 w1_3 = some r → Ar Γ N Tryz.f24 (.q [[none, none, some (73, 5), some (100, 3)]] (D.agg [D.str (r.name), D.int .i64 (r.prio), D.fr 73 5 ((r.conds).map Cond.c), D.fr 100 3 ((r.acts).map Action.c)])) [1, 1, 0, 1, 0] (rest.length + 1) (d_spec_l5Copy_S1 a0_ ((w1_3).map Cond.c) ((i1 : Int))) := by
  intro rest
  induction rest with
  | nil =>
    intro i1 w1_3 hd1 h
    rw [d_spec_l5Copy_L1] at h
    refine AWr_succ fun N1 hN1 hS1 => ?_
    exact ((pre0.ge Cond.c hd1).a [.hl 0 [1, 2, 3] [0, 1, 2, 3]]).ex hΓ hN1 (hE1 (w1_3) h)
  | cons x1_ xs1 ih1 =>
    intro i1 w1_3 hd1 h
    rw [d_spec_l5Copy_L1] at h
    refine AWr_succ fun N1 hN1 hS1 => ?_
    obtain ⟨y45, h46, h⟩ := den_bind h
    obtain ⟨h47, h⟩ := den_ok h
    exact ((((((pre0.lt Cond.c hd1).a [.n2 [0, 1, 2, 3, 4, 5, 6, 7, 8, 9, 10, 11] [0, 1, 2, 3, 4, 5, 6, 7, 8, 9, 10, 11] 8 9 [0, 1] [4]]).l (map_row Cond.c 5 (dc hd1) rfl)).g (d_spec_l4Copy_good h46)).w (room_ok h47)).a [.cn [1, 2, 3, 4] [0, 1, 2, 6]]).cs hΓ hS1 (d_spec_l5Copy_S1 a0_ (((w1_3).map Cond.c) ++ ([[D.int .i64 (y45.kind), D.str (y45.pat.rel), D.sl ((y45.pat.args).map tx), D.str (y45.left), D.str (y45.right)]])) (IntKind.i64.wrap (((i1 : Int)) + (1)))) (by first | (simp only [iS hd1 hm1, mA] <;> rfl) | (simp only [iS hd1 hm1, mA, Fact.c, Pair.c, Cond.c, Action.c, Rule.c, Token.c, Match.c, Alpha.c, Node.c, Network.c, Stamp.c] <;> rfl)) (ih1 (i1 + 1) ((w1_3) ++ ([y45])) (dn hd1) h)
def d_spec_l5Copy_S2 (a0_ : Rule) (q1_3 : List Cond) (W0 : List (List D)) (ix_ : Int) : St := ⟨[(1, D.ptr 0 0), (2, D.ptr 1 0), (3, D.ptr 2 0), (5, D.int .i64 (ix_))], [Ob.box (Rule.c a0_), Ob.box [D.str ([]), D.int .i64 (0), D.nil, D.nil], Ob.box [D.str (a0_.name), D.int .i64 (a0_.prio), D.acc 3, D.acc 4], Ob.row .uq 73 5 ((q1_3).map Cond.c), Ob.row .uq 100 3 (W0)]⟩
theorem d_spec_l5Copy_L2w (hΓ : Γ.nt = 56) {a0_ : Rule} {q1_3 : List Cond} {r : Rule} {k2 : List Action → Option Rule} (hE2 : ∀ (q2_3 : List Action), k2 q2_3 = some r → Ax Γ N Tryz.f24 (.q [[none, none, some (73, 5), some (100, 3)]] (D.agg [D.str (r.name), D.int .i64 (r.prio), D.fr 73 5 ((r.conds).map Cond.c), D.fr 100 3 ((r.acts).map Action.c)])) [1, 1, 1, 1] ⟨[(2, D.ptr 0 0), (3, D.ptr 1 0)], [Ob.box [D.str ([]), D.int .i64 (0), D.nil, D.nil], Ob.box [D.str (a0_.name), D.int .i64 (a0_.prio), D.acc 2, D.acc 3], Ob.row .uq 73 5 ((q1_3).map Cond.c), Ob.row .uq 100 3 ((q2_3).map Action.c)]⟩) (hm2 : (a0_.acts).length ≤ maxLen) : ∀ (rest : List Action) (i2 : Nat) (w2_4 : List Action), (a0_.acts).drop i2 = rest → d_spec_l5Copy_L2 a0_ q1_3 k2 rest i2 w2_4 = some r → Ar Γ N Tryz.f24 (.q [[none, none, some (73, 5), some (100, 3)]] (D.agg [D.str (r.name), D.int .i64 (r.prio), D.fr 73 5 ((r.conds).map Cond.c), D.fr 100 3 ((r.acts).map Action.c)])) [1, 1, 1, 0, 1, 0] (rest.length + 1) (d_spec_l5Copy_S2 a0_ q1_3 ((w2_4).map Action.c) ((i2 : Int))) := by
  intro rest
  induction rest with
  | nil =>
    intro i2 w2_4 hd2 h
    rw [d_spec_l5Copy_L2] at h
    refine AWr_succ fun N2 hN2 hS2 => ?_
    exact ((pre0.ge Action.c hd2).a [.hl 0 [2, 3] [1, 2, 3, 4]]).ex hΓ hN2 (hE2 (w2_4) h)
  | cons x2_ xs2 ih2 =>
    intro i2 w2_4 hd2 h
    rw [d_spec_l5Copy_L2] at h
    refine AWr_succ fun N2 hN2 hS2 => ?_
    obtain ⟨y92, h93, h⟩ := den_bind h
    obtain ⟨h94, h⟩ := den_ok h
    exact (((((((pre0.lt Action.c hd2).a [.n2 [0, 1, 2, 3, 4, 5, 6, 7, 8, 9, 10, 11, 12, 13, 14, 15, 16, 17, 18, 19] [0, 1, 2, 3, 4, 5, 6, 7, 8, 9, 10, 11, 12, 13, 14, 15, 16, 17, 18, 19] 16 17 [0, 1] [5]]).l (map_row Action.c 3 (dc hd2) rfl)).l (map_row Action.c 3 (dc hd2) rfl)).g (d_spec_l3CopyPattern_good h93)).w (room_ok h94)).a [.cn [1, 2, 3, 5] [0, 1, 2, 3, 7]]).cs hΓ hS2 (d_spec_l5Copy_S2 a0_ q1_3 (((w2_4).map Action.c) ++ ([[D.int .i64 (x2_.kind), D.str (y92.rel), D.sl ((y92.args).map tx)]])) (IntKind.i64.wrap (((i2 : Int)) + (1)))) (by first | (simp only [iS hd2 hm2, mA] <;> rfl) | (simp only [iS hd2 hm2, mA, Fact.c, Pair.c, Cond.c, Action.c, Rule.c, Token.c, Match.c, Alpha.c, Node.c, Network.c, Stamp.c] <;> rfl)) (ih2 (i2 + 1) ((w2_4) ++ ([(⟨x2_.kind, y92⟩ : Action)])) (dn hd2) h)
theorem d_spec_l5Copy_good {a0_ : Rule} {r : Rule} (h : d_spec_l5Copy a0_ = some r) : Good Tryz.prog 24 [D.agg (Rule.c a0_)] (D.agg [D.str (r.name), D.int .i64 (r.prio), D.fr 73 5 ((r.conds).map Cond.c), D.fr 100 3 ((r.acts).map Action.c)]) := by
  refine gd Tryz.func24 [[none, none, some (73, 5), some (100, 3)]] 56 fun hr Γ hΓ => ?_
  rw [d_spec_l5Copy] at h
  refine (pre0.a [.pb 2 2 73 5, .cn [1, 2, 3, 4] [0, 1, 2, 3]]).lp hΓ (d_spec_l5Copy_L1w hΓ (fun q1_3 h => ?_) (by have := (Rdb.sl (Rdb.agg (hr _ (List.mem_of_getElem? (i := 0) rfl)) (.sl ((a0_.conds).map Cond.c)) (by simp))).1; simpa using this) (a0_.conds) 0 (([] : List Cond)) rfl h)
  refine (pre0.a [.pb 2 3 100 3, .cn [1, 2, 3, 5] [0, 1, 2, 3, 4]]).lp hΓ (d_spec_l5Copy_L2w hΓ (fun q2_3 h => ?_) (by have := (Rdb.sl (Rdb.agg (hr _ (List.mem_of_getElem? (i := 0) rfl)) (.sl ((a0_.acts).map Action.c)) (by simp))).1; simpa using this) (a0_.acts) 0 (([] : List Action)) rfl h)
  cases h; exact pre0.ret hΓ
def d_impl_IsAtom_L1 (a0_ : Bytes) (k1 : Option Bool) : Nat → Int → Option Bool
  | 0, _ => none
  | n1 + 1, v1_3 => (bif decide ((v1_3 : Int) < (((a0_).length : Int))) then ((atI (a0_) (v1_3)).bind fun b31 => (bif decide ((b31.toNat : Int) < (97)) then (bif decide ((b31.toNat : Int) < (48)) then (some (false)) else (bif decide ((b31.toNat : Int) > (57)) then (some (false)) else (d_impl_IsAtom_L1 a0_ k1 n1 (IntKind.i64.wrap ((v1_3) + (1)))))) else (bif decide ((b31.toNat : Int) > (122)) then (bif decide ((b31.toNat : Int) < (48)) then (some (false)) else (bif decide ((b31.toNat : Int) > (57)) then (some (false)) else (d_impl_IsAtom_L1 a0_ k1 n1 (IntKind.i64.wrap ((v1_3) + (1)))))) else (d_impl_IsAtom_L1 a0_ k1 n1 (IntKind.i64.wrap ((v1_3) + (1))))))) else (k1 ))
def d_impl_IsAtom (a0_ : Bytes) : Option Bool := (bif decide ((((a0_).length : Int) : Int) < (1)) then (some (false)) else (bif decide ((((a0_).length : Int) : Int) > (8)) then (some (false)) else (d_impl_IsAtom_L1 a0_ (some (true)) fuel (0))))
def d_impl_IsAtom_S1 (a0_ : Bytes) (v1_3 : Int) : St := ⟨[(0, D.str (a0_)), (3, D.int .i64 (v1_3))], []⟩
theorem d_impl_IsAtom_L1w (hΓ : Γ.nt = 40) {a0_ : Bytes} {r : Bool} {k1 : Option Bool} (hE1 : k1 = some r → Ax Γ N Tryz.f150 (.q [[none]] (D.bool (r))) [1, 1, 1] ⟨[], []⟩) : ∀ (n1 : Nat) (v1_3 : Int), d_impl_IsAtom_L1 a0_ k1 n1 v1_3 = some r → Ar Γ N Tryz.f150 (.q [[none]] (D.bool (r))) [1, 1, 0, 1, 0] n1 (d_impl_IsAtom_S1 a0_ v1_3) := by
  intro n
  induction n with
  | zero => intro v1_3 h; simp [d_impl_IsAtom_L1] at h
  | succ n1 ih1 =>
    intro v1_3 h
    rw [d_impl_IsAtom_L1] at h
    refine AWr_succ fun N1 hN1 hS1 => ?_
    obtain ⟨h30, h⟩ | ⟨h30, h⟩ := den_if h
    · obtain ⟨b31, h32, h⟩ := den_bind h
      have o7_ := ((pre0.b h30).c h32)
      obtain ⟨h33, h⟩ | ⟨h33, h⟩ := den_if h
      · have o8_ := ((((o7_.r 5 h33).T 3).c h32).T 2)
        obtain ⟨h34, h⟩ | ⟨h34, h⟩ := den_if h
        · have h := den_some h; subst h; exact ((((o8_.r 4 h34).T 1).b h34).T 2).ret hΓ
        · have o9_ := ((((((o8_.r 3 h34).c h32).b h34).T 1).b h34).T 1)
          obtain ⟨h35, h⟩ | ⟨h35, h⟩ := den_if h
          · have h := den_some h; subst h; exact (o9_.b h35).ret hΓ
          · exact ((o9_.b h35).a [.cn [0, 3] []]).cf hΓ hS1 (ih1 (IntKind.i64.wrap ((v1_3) + (1))) h)
      · have o10_ := (((o7_.r 3 h33).c h32).r 2 h33)
        obtain ⟨h36, h⟩ | ⟨h36, h⟩ := den_if h
        · have o11_ := (((o10_.r 3 h36).c h32).r 2 h36)
          obtain ⟨h37, h⟩ | ⟨h37, h⟩ := den_if h
          · have h := den_some h; subst h; exact (((((o11_.r 4 h37).b h36).b h37).b h36).T 1).ret hΓ
          · have o12_ := ((((((o11_.r 3 h37).c h32).b h37).b h36).b h37).b h36)
            obtain ⟨h38, h⟩ | ⟨h38, h⟩ := den_if h
            · have h := den_some h; subst h; exact (o12_.b h38).ret hΓ
            · exact ((o12_.b h38).a [.cn [0, 3] []]).cf hΓ hS1 (ih1 (IntKind.i64.wrap ((v1_3) + (1))) h)
        · exact (((o10_.r 7 h36).F 1).a [bF, bF, bF, bF, .cn [0, 3] []]).cf hΓ hS1 (ih1 (IntKind.i64.wrap ((v1_3) + (1))) h)
    · exact ((pre0.b h30).a [.hl 0 [] []]).ex hΓ hN1 (hE1 h)
theorem d_impl_IsAtom_good {a0_ : Bytes} {r : Bool} (h : d_impl_IsAtom a0_ = some r) : Good Tryz.prog 150 [D.str (a0_)] (D.bool (r)) := by
  refine gd Tryz.func150 [[none]] 40 fun hr Γ hΓ => ?_
  rw [d_impl_IsAtom] at h
  obtain ⟨h1, h⟩ | ⟨h1, h⟩ := den_if h
  · have h := den_some h; subst h; exact ((pre0.r 4 h1).T 1).ret hΓ
  · have o13_ := (pre0.r 4 h1)
    obtain ⟨h2, h⟩ | ⟨h2, h⟩ := den_if h
    · have h := den_some h; subst h; exact (o13_.b h2).ret hΓ
    · refine ((o13_.b h2).a [.cn [0, 3] []]).lp hΓ (d_impl_IsAtom_L1w hΓ (fun h => ?_) fuel (0) h)
      have h := den_some h; subst h; exact pre0.ret hΓ
def d_impl_IsName (a0_ : Bytes) : Option Bool := ((d_impl_IsAtom (a0_)).bind fun y1 => (bif y1 then ((atI (a0_) (0)).bind fun b4 => (some (decide ((b4.toNat : Int) ≥ (97))))) else (some (false))))
theorem d_impl_IsName_good {a0_ : Bytes} {r : Bool} (h : d_impl_IsName a0_ = some r) : Good Tryz.prog 105 [D.str (a0_)] (D.bool (r)) := by
  refine gd Tryz.func105 [[none]] 10 fun hr Γ hΓ => ?_
  rw [d_impl_IsName] at h
  obtain ⟨y1, h2, h⟩ := den_bind h
  obtain ⟨h3, h⟩ | ⟨h3, h⟩ := den_if h
  · obtain ⟨b4, h5, h⟩ := den_bind h
    cases h; exact ((((pre0.g (d_impl_IsAtom_good h2)).r 2 h3).c h5).r 2 h3).ret hΓ
  · have h := den_some h; subst h; exact ((pre0.g (d_impl_IsAtom_good h2)).r 4 h3).ret hΓ
def d_impl_IsVar (a0_ : Bytes) : Option Bool := (bif decide ((((a0_).length : Int) : Int) > (1)) then ((atI (a0_) (0)).bind fun b2 => (bif (b2.toNat : Int) == (63) then ((pcut (a0_).length (some (D.int .i64 (1))) (none)).bind fun p => (fun l5 u6 => ((d_impl_IsAtom (((a0_).take u6).drop l5)).bind fun y8 => (some (y8)))) p.1 p.2) else (some (false)))) else (some (false)))
theorem d_impl_IsVar_good {a0_ : Bytes} {r : Bool} (h : d_impl_IsVar a0_ = some r) : Good Tryz.prog 156 [D.str (a0_)] (D.bool (r)) := by
  refine gd Tryz.func156 [[none]] 16 fun hr Γ hΓ => ?_
  rw [d_impl_IsVar] at h
  obtain ⟨h1, h⟩ | ⟨h1, h⟩ := den_if h
  · obtain ⟨b2, h3, h⟩ := den_bind h
    have o1_ := (((pre0.r 2 h1).c h3).r 2 h1)
    obtain ⟨h4, h⟩ | ⟨h4, h⟩ := den_if h
    · obtain ⟨⟨l5, u6⟩, h7, h⟩ := den_bind h
      obtain ⟨y8, h9, h⟩ := den_bind h
      have h := den_some h; subst h; exact ((((((o1_.r 2 h4).w h7).a [.cut l5 u6]).b h4).g (d_impl_IsAtom_good h9)).b h4).ret hΓ
    · have h := den_some h; subst h; exact (o1_.r 4 h4).ret hΓ
  · have h := den_some h; subst h; exact ((pre0.r 4 h1).F 4).ret hΓ
def d_impl_IsTerm (a0_ : Bytes) : Option Bool := ((d_impl_IsAtom (a0_)).bind fun y1 => (bif y1 then (some (true)) else ((d_impl_IsVar (a0_)).bind fun y4 => (some (y4)))))
theorem d_impl_IsTerm_good {a0_ : Bytes} {r : Bool} (h : d_impl_IsTerm a0_ = some r) : Good Tryz.prog 152 [D.str (a0_)] (D.bool (r)) := by
  refine gd Tryz.func152 [[none]] 9 fun hr Γ hΓ => ?_
  rw [d_impl_IsTerm] at h
  obtain ⟨y1, h2, h⟩ := den_bind h
  obtain ⟨h3, h⟩ | ⟨h3, h⟩ := den_if h
  · have h := den_some h; subst h; exact ((pre0.g (d_impl_IsAtom_good h2)).r 3 h3).ret hΓ
  · obtain ⟨y4, h5, h⟩ := den_bind h
    have h := den_some h; subst h; exact ((((pre0.g (d_impl_IsAtom_good h2)).r 2 h3).g (d_impl_IsVar_good h5)).b h3).ret hΓ
def d_impl_IsPattern_L1 (a0_ : Fact) (k1 : Option Bool) : List Bytes → Nat → Option Bool
  | [], i1 => (k1 )
  | x1_ :: xs1, i1 => ((d_impl_IsTerm (x1_)).bind fun y25 => (bif !(y25) then (some (false)) else (d_impl_IsPattern_L1 a0_ k1 xs1 (i1 + 1) )))
def d_impl_IsPattern (a0_ : Fact) : Option Bool := ((d_impl_IsName (a0_.rel)).bind fun y1 => (bif !(y1) then (some (false)) else (bif decide (((((a0_.args).map tx).length : Int) : Int) > (3)) then (some (false)) else (d_impl_IsPattern_L1 a0_ (some (true)) (a0_.args) 0 ))))
def d_impl_IsPattern_S1 (a0_ : Fact) (ix_ : Int) : St := ⟨[(16, D.sl ((a0_.args).map tx)), (17, D.int .i64 ((((a0_.args).map tx).length : Int))), (18, D.int .i64 (ix_))], []⟩
theorem d_impl_IsPattern_L1w (hΓ : Γ.nt = 26) {a0_ : Fact} {r : Bool} {k1 : Option Bool} (hE1 : k1 = some r → Ax Γ N Tryz.f151 (.q [[none]] (D.bool (r))) [1, 1, 1] ⟨[], []⟩) (hm1 : (a0_.args).length ≤ maxLen) : ∀ (rest : List Bytes) (i1 : Nat) , (a0_.args).drop i1 = rest → d_impl_IsPattern_L1 a0_ k1 rest i1  = some r → Ar Γ N Tryz.f151 (.q [[none]] (D.bool (r))) [1, 1, 0, 1, 0] (rest.length + 1) (d_impl_IsPattern_S1 a0_ ((i1 : Int))) := by
  intro rest
  induction rest with
  | nil =>
    intro i1  hd1 h
    rw [d_impl_IsPattern_L1] at h
    refine AWr_succ fun N1 hN1 hS1 => ?_
    exact ((pre0.ge tx hd1).a [.hl 0 [] []]).ex hΓ hN1 (hE1 h)
  | cons x1_ xs1 ih1 =>
    intro i1  hd1 h
    rw [d_impl_IsPattern_L1] at h
    refine AWr_succ fun N1 hN1 hS1 => ?_
    obtain ⟨y25, h26, h⟩ := den_bind h
    have o2_ := (((pre0.lt tx hd1).l (map_row tx 1 (dc hd1) rfl)).g (d_impl_IsTerm_good h26))
    obtain ⟨h27, h⟩ | ⟨h27, h⟩ := den_if h
    · have h := den_some h; subst h; exact (o2_.b h27).ret hΓ
    · exact ((o2_.b h27).a [.cn [16, 17, 18] []]).ct hΓ hS1 (iS hd1 hm1) (ih1 (i1 + 1)  (dn hd1) h)
theorem d_impl_IsPattern_good {a0_ : Fact} {r : Bool} (h : d_impl_IsPattern a0_ = some r) : Good Tryz.prog 151 [D.agg (Fact.c a0_)] (D.bool (r)) := by
  refine gd Tryz.func151 [[none]] 26 fun hr Γ hΓ => ?_
  rw [d_impl_IsPattern] at h
  obtain ⟨y1, h2, h⟩ := den_bind h
  obtain ⟨h3, h⟩ | ⟨h3, h⟩ := den_if h
  · have h := den_some h; subst h; exact (((pre0.g (d_impl_IsName_good h2)).r 5 h3).T 1).ret hΓ
  · have o3_ := ((pre0.g (d_impl_IsName_good h2)).r 5 h3)
    obtain ⟨h4, h⟩ | ⟨h4, h⟩ := den_if h
    · have h := den_some h; subst h; exact (o3_.b h4).ret hΓ
    · refine ((o3_.b h4).a [.cn [16, 17, 18] []]).lp hΓ (d_impl_IsPattern_L1w hΓ (fun h => ?_) (by have := (Rdb.sl (Rdb.agg (hr _ (List.mem_of_getElem? (i := 0) rfl)) (.sl ((a0_.args).map tx)) (by simp))).1; simpa using this) (a0_.args) 0  rfl h)
      have h := den_some h; subst h; exact pre0.ret hΓ
def d_impl_zeroPattern (a0_ : Fact) : Option Bool := (bif (a0_.rel : Bytes) == ([]) then (some (((((a0_.args).map tx).length : Int) : Int) == (0))) else (some (false)))
theorem d_impl_zeroPattern_good {a0_ : Fact} {r : Bool} (h : d_impl_zeroPattern a0_ = some r) : Good Tryz.prog 153 [D.agg (Fact.c a0_)] (D.bool (r)) := by
  refine gd Tryz.func153 [[none]] 12 fun hr Γ hΓ => ?_
  rw [d_impl_zeroPattern] at h
  obtain ⟨h1, h⟩ | ⟨h1, h⟩ := den_if h
  · cases h; exact (pre0.r 5 h1).ret hΓ
  · have h := den_some h; subst h; exact (pre0.r 5 h1).ret hΓ
def d_impl_IsCond (a0_ : Cond) : Option Bool := (bif (a0_.kind : Int) == (1) then ((d_impl_IsPattern (a0_.pat)).bind fun y2 => (bif y2 then (bif (a0_.left : Bytes) == ([]) then (some ((a0_.right : Bytes) == ([]))) else (some (false))) else (some (false)))) else (bif (a0_.kind : Int) == (2) then ((d_impl_IsPattern (a0_.pat)).bind fun y7 => (bif y7 then (bif (a0_.left : Bytes) == ([]) then (some ((a0_.right : Bytes) == ([]))) else (some (false))) else (some (false)))) else (bif (a0_.kind : Int) == (3) then ((d_impl_IsTerm (a0_.left)).bind fun y12 => (bif y12 then ((d_impl_IsTerm (a0_.right)).bind fun y15 => (bif y15 then ((d_impl_zeroPattern (a0_.pat)).bind fun y18 => (some (y18))) else (some (false)))) else (some (false)))) else (bif (a0_.kind : Int) == (4) then ((d_impl_IsTerm (a0_.left)).bind fun y21 => (bif y21 then ((d_impl_IsTerm (a0_.right)).bind fun y24 => (bif y24 then ((d_impl_zeroPattern (a0_.pat)).bind fun y27 => (some (y27))) else (some (false)))) else (some (false)))) else (bif (a0_.kind : Int) == (5) then ((d_impl_IsTerm (a0_.left)).bind fun y30 => (bif y30 then ((d_impl_IsTerm (a0_.right)).bind fun y33 => (bif y33 then ((d_impl_zeroPattern (a0_.pat)).bind fun y36 => (some (y36))) else (some (false)))) else (some (false)))) else (some (false)))))))
theorem d_impl_IsCond_good {a0_ : Cond} {r : Bool} (h : d_impl_IsCond a0_ = some r) : Good Tryz.prog 106 [D.agg (Cond.c a0_)] (D.bool (r)) := by
  refine gd Tryz.func106 [[none]] 38 fun hr Γ hΓ => ?_
  rw [d_impl_IsCond] at h
  obtain ⟨h1, h⟩ | ⟨h1, h⟩ := den_if h
  · obtain ⟨y2, h3, h⟩ := den_bind h
    have o1_ := ((pre0.r 2 h1).g (d_impl_IsPattern_good h3))
    obtain ⟨h4, h⟩ | ⟨h4, h⟩ := den_if h
    · have o2_ := (o1_.r 4 h4)
      obtain ⟨h5, h⟩ | ⟨h5, h⟩ := den_if h
      · cases h; exact (o2_.r 4 h5).ret hΓ
      · have h := den_some h; subst h; exact (o2_.r 4 h5).ret hΓ
    · have h := den_some h; subst h; exact ((o1_.r 4 h4).F 4).ret hΓ
  · obtain ⟨h6, h⟩ | ⟨h6, h⟩ := den_if h
    · obtain ⟨y7, h8, h⟩ := den_bind h
      have o3_ := (((pre0.b h1).b h6).g (d_impl_IsPattern_good h8))
      obtain ⟨h9, h⟩ | ⟨h9, h⟩ := den_if h
      · have o4_ := (o3_.r 4 h9)
        obtain ⟨h10, h⟩ | ⟨h10, h⟩ := den_if h
        · cases h; exact (o4_.r 4 h10).ret hΓ
        · have h := den_some h; subst h; exact (o4_.r 4 h10).ret hΓ
      · have h := den_some h; subst h; exact ((o3_.r 4 h9).F 4).ret hΓ
    · have o5_ := ((pre0.b h1).b h6)
      obtain ⟨h11, h⟩ | ⟨h11, h⟩ := den_if h
      · obtain ⟨y12, h13, h⟩ := den_bind h
        have o6_ := ((o5_.r 2 h11).g (d_impl_IsTerm_good h13))
        obtain ⟨h14, h⟩ | ⟨h14, h⟩ := den_if h
        · obtain ⟨y15, h16, h⟩ := den_bind h
          have o7_ := (((o6_.r 3 h14).g (d_impl_IsTerm_good h16)).b h14)
          obtain ⟨h17, h⟩ | ⟨h17, h⟩ := den_if h
          · obtain ⟨y18, h19, h⟩ := den_bind h
            have h := den_some h; subst h; exact (((o7_.r 3 h17).g (d_impl_zeroPattern_good h19)).b h17).ret hΓ
          · have h := den_some h; subst h; exact (o7_.r 4 h17).ret hΓ
        · have h := den_some h; subst h; exact ((o6_.r 4 h14).F 4).ret hΓ
      · obtain ⟨h20, h⟩ | ⟨h20, h⟩ := den_if h
        · obtain ⟨y21, h22, h⟩ := den_bind h
          have o8_ := (((o5_.b h11).r 2 h20).g (d_impl_IsTerm_good h22))
          obtain ⟨h23, h⟩ | ⟨h23, h⟩ := den_if h
          · obtain ⟨y24, h25, h⟩ := den_bind h
            have o9_ := (((o8_.r 3 h23).g (d_impl_IsTerm_good h25)).b h23)
            obtain ⟨h26, h⟩ | ⟨h26, h⟩ := den_if h
            · obtain ⟨y27, h28, h⟩ := den_bind h
              have h := den_some h; subst h; exact (((o9_.r 3 h26).g (d_impl_zeroPattern_good h28)).b h26).ret hΓ
            · have h := den_some h; subst h; exact (o9_.r 4 h26).ret hΓ
          · have h := den_some h; subst h; exact ((o8_.r 4 h23).F 4).ret hΓ
        · have o10_ := ((o5_.b h11).b h20)
          obtain ⟨h29, h⟩ | ⟨h29, h⟩ := den_if h
          · obtain ⟨y30, h31, h⟩ := den_bind h
            have o11_ := ((o10_.b h29).g (d_impl_IsTerm_good h31))
            obtain ⟨h32, h⟩ | ⟨h32, h⟩ := den_if h
            · obtain ⟨y33, h34, h⟩ := den_bind h
              have o12_ := (((o11_.r 3 h32).g (d_impl_IsTerm_good h34)).b h32)
              obtain ⟨h35, h⟩ | ⟨h35, h⟩ := den_if h
              · obtain ⟨y36, h37, h⟩ := den_bind h
                have h := den_some h; subst h; exact (((o12_.r 3 h35).g (d_impl_zeroPattern_good h37)).b h35).ret hΓ
              · have h := den_some h; subst h; exact (o12_.r 4 h35).ret hΓ
            · have h := den_some h; subst h; exact ((o11_.r 4 h32).F 4).ret hΓ
          · have h := den_some h; subst h; exact (o10_.b h29).ret hΓ
def d_impl_varsAmong_L1 (a0_ : List Bytes) (k1 : List Bytes → Option (List Bytes)) : List Bytes → Nat → List Bytes → Option (List Bytes)
  | [], i1, w1_0 => (k1 (w1_0))
  | x1_ :: xs1, i1, w1_0 => ((d_impl_IsVar (x1_)).bind fun y32 => (bif y32 then (bif room (((w1_0).map tx).length + ([[D.str (x1_)]]).length) 16 then (d_impl_varsAmong_L1 a0_ k1 xs1 (i1 + 1) ((w1_0) ++ ([x1_]))) else none) else (d_impl_varsAmong_L1 a0_ k1 xs1 (i1 + 1) (w1_0))))
def d_impl_varsAmong (a0_ : List Bytes) : Option (List Bytes) := (d_impl_varsAmong_L1 a0_ (fun (q1_0 : List Bytes) => (some (q1_0))) (a0_) 0 (([] : List Bytes)))
def d_impl_varsAmong_S1 (a0_ : List Bytes) (W0 : List (List D)) (ix_ : Int) : St := ⟨[(3, D.acc 0), (6, D.sl ((a0_).map tx)), (7, D.int .i64 ((((a0_).map tx).length : Int))), (8, D.int .i64 (ix_))], [Ob.row .uq 9 1 (W0)]⟩
theorem d_impl_varsAmong_L1w (hΓ : Γ.nt = 20) {a0_ : List Bytes} {r : List Bytes} {k1 : List Bytes → Option (List Bytes)} (hE1 : ∀ (q1_0 : List Bytes), k1 q1_0 = some r → Ax Γ N Tryz.f110 (.q [[some (9, 1)]] (D.fr 9 1 ((r).map tx))) [1, 1, 1] ⟨[(3, D.acc 0)], [Ob.row .uq 9 1 ((q1_0).map tx)]⟩) (hm1 : (a0_).length ≤ maxLen) : ∀ (rest : List Bytes) (i1 : Nat) (w1_0 : List Bytes), (a0_).drop i1 = rest → d_impl_varsAmong_L1 a0_ k1 rest i1 w1_0 = some r → Ar Γ N Tryz.f110 (.q [[some (9, 1)]] (D.fr 9 1 ((r).map tx))) [1, 1, 0, 1, 0] (rest.length + 1) (d_impl_varsAmong_S1 a0_ ((w1_0).map tx) ((i1 : Int))) := by
  intro rest
  induction rest with
  | nil =>
    intro i1 w1_0 hd1 h
    rw [d_impl_varsAmong_L1] at h
    refine AWr_succ fun N1 hN1 hS1 => ?_
    exact ((pre0.ge tx hd1).a [.hl 0 [3] [0]]).ex hΓ hN1 (hE1 (w1_0) h)
  | cons x1_ xs1 ih1 =>
    intro i1 w1_0 hd1 h
    rw [d_impl_varsAmong_L1] at h
    refine AWr_succ fun N1 hN1 hS1 => ?_
    obtain ⟨y32, h33, h⟩ := den_bind h
    have o2_ := (((pre0.lt tx hd1).l (map_row tx 1 (dc hd1) rfl)).g (d_impl_IsVar_good h33))
    obtain ⟨h34, h⟩ | ⟨h34, h⟩ := den_if h
    · obtain ⟨h35, h⟩ := den_ok h
      exact (((o2_.b h34).w (room_ok h35)).a [.cn [3, 6, 7, 8] [2]]).cs hΓ hS1 (d_impl_varsAmong_S1 a0_ (((w1_0).map tx) ++ ([[D.str (x1_)]])) (IntKind.i64.wrap (((i1 : Int)) + (1)))) (by first | (simp only [iS hd1 hm1, mA] <;> rfl) | (simp only [iS hd1 hm1, mA, Fact.c, Pair.c, Cond.c, Action.c, Rule.c, Token.c, Match.c, Alpha.c, Node.c, Network.c, Stamp.c] <;> rfl)) (ih1 (i1 + 1) ((w1_0) ++ ([x1_])) (dn hd1) h)
    · exact ((o2_.b h34).a [.cn [3, 6, 7, 8] [0]]).ct hΓ hS1 (iS hd1 hm1) (ih1 (i1 + 1) (w1_0) (dn hd1) h)
theorem d_impl_varsAmong_good {a0_ : List Bytes} {r : List Bytes} (h : d_impl_varsAmong a0_ = some r) : Good Tryz.prog 110 [D.sl ((a0_).map tx)] (D.fr 9 1 ((r).map tx)) := by
  refine gd Tryz.func110 [[some (9, 1)]] 20 fun hr Γ hΓ => ?_
  rw [d_impl_varsAmong] at h
  refine (pre0.a [.pro 3, .cn [3, 6, 7, 8] [0]]).lp hΓ (d_impl_varsAmong_L1w hΓ (fun q1_0 h => ?_) (by have := (Rdb.sl (hr _ (List.mem_of_getElem? (i := 0) rfl))).1; simpa using this) (a0_) 0 (([] : List Bytes)) rfl h)
  have h := den_some h; subst h; exact pre0.ret hΓ
def d_impl_SortedTexts_L1 (a0_ : List Bytes) (k1 : List Bytes → Option (List Bytes)) : List Bytes → Nat → List Bytes → Option (List Bytes)
  | [], i1, w1_1 => (k1 (w1_1))
  | x1_ :: xs1, i1, w1_1 => (bif ((i1 : Int) : Int) == (0) then (bif room (((w1_1).map tx).length + ([[D.str (x1_)]]).length) 16 then (d_impl_SortedTexts_L1 a0_ k1 xs1 (i1 + 1) ((w1_1) ++ ([x1_]))) else none) else ((atI (sortB ((([] : List Bytes)) ++ (a0_))) (IntKind.i64.wrap (((i1 : Int)) - (1)))).bind fun x47 => (bif !((x47 : Bytes) == (x1_)) then (bif room (((w1_1).map tx).length + ([[D.str (x1_)]]).length) 16 then (d_impl_SortedTexts_L1 a0_ k1 xs1 (i1 + 1) ((w1_1) ++ ([x1_]))) else none) else (d_impl_SortedTexts_L1 a0_ k1 xs1 (i1 + 1) (w1_1)))))
def d_impl_SortedTexts (a0_ : List Bytes) : Option (List Bytes) := (bif room ((([] : List (List D))).length + ((a0_).map tx).length) 16 then (bif decide (((([] : List Bytes)) ++ (a0_)).length < 4611686018427387904) then (bif decide ((sortB ((([] : List Bytes)) ++ (a0_))).length ≤ maxLen) then (d_impl_SortedTexts_L1 a0_ (fun (q1_0 : List Bytes) => (some (q1_0))) (sortB ((([] : List Bytes)) ++ (a0_))) 0 (([] : List Bytes))) else none) else none) else none)
def d_impl_SortedTexts_S1 (a0_ : List Bytes) (W0 : List (List D)) (ix_ : Int) : St := ⟨[(3, D.acc 0), (4, D.acc 1), (11, D.acc 0), (12, D.int .i64 ((((sortB ((([] : List Bytes)) ++ (a0_))).map tx).length : Int))), (13, D.int .i64 (ix_))], [Ob.row .uq 9 1 ((sortB ((([] : List Bytes)) ++ (a0_))).map tx), Ob.row .uq 9 1 (W0)]⟩
theorem d_impl_SortedTexts_L1w (hΓ : Γ.nt = 35) {a0_ : List Bytes} {r : List Bytes} {k1 : List Bytes → Option (List Bytes)} (hE1 : ∀ (q1_0 : List Bytes), k1 q1_0 = some r → Ax Γ N Tryz.f112 (.q [[some (9, 1)]] (D.fr 9 1 ((r).map tx))) [1, 1, 1, 1, 1] ⟨[(4, D.acc 0)], [Ob.row .uq 9 1 ((q1_0).map tx)]⟩) (hm1 : (sortB ((([] : List Bytes)) ++ (a0_))).length ≤ maxLen) : ∀ (rest : List Bytes) (i1 : Nat) (w1_1 : List Bytes), (sortB ((([] : List Bytes)) ++ (a0_))).drop i1 = rest → d_impl_SortedTexts_L1 a0_ k1 rest i1 w1_1 = some r → Ar Γ N Tryz.f112 (.q [[some (9, 1)]] (D.fr 9 1 ((r).map tx))) [1, 1, 1, 1, 0, 1, 0] (rest.length + 1) (d_impl_SortedTexts_S1 a0_ ((w1_1).map tx) ((i1 : Int))) := by
  intro rest
  induction rest with
  | nil =>
    intro i1 w1_1 hd1 h
    rw [d_impl_SortedTexts_L1] at h
    refine AWr_succ fun N1 hN1 hS1 => ?_
    exact ((pre0.ge tx hd1).a [.hl 0 [4] [1]]).ex hΓ hN1 (hE1 (w1_1) h)
  | cons x1_ xs1 ih1 =>
    intro i1 w1_1 hd1 h
    rw [d_impl_SortedTexts_L1] at h
    refine AWr_succ fun N1 hN1 hS1 => ?_
    have o3_ := (((pre0.lt tx hd1).i (own_ixl tx 1 (dc hd1))).o 1 1 .uq (map_get tx (dc hd1)))
    obtain ⟨h45, h⟩ | ⟨h45, h⟩ := den_if h
    · obtain ⟨h46, h⟩ := den_ok h
      exact ((((o3_.r 8 h45).T 1).w (room_ok h46)).a [.cn [3, 4, 11, 12, 13] [0, 3]]).cs hΓ hS1 (d_impl_SortedTexts_S1 a0_ (((w1_1).map tx) ++ ([[D.str (x1_)]])) (IntKind.i64.wrap (((i1 : Int)) + (1)))) (by first | (simp only [iS hd1 hm1, mA] <;> rfl) | (simp only [iS hd1 hm1, mA, Fact.c, Pair.c, Cond.c, Action.c, Rule.c, Token.c, Match.c, Alpha.c, Node.c, Network.c, Stamp.c] <;> rfl)) (ih1 (i1 + 1) ((w1_1) ++ ([x1_])) (dn hd1) h)
    · obtain ⟨x47, h48, h⟩ := den_bind h
      have o4_ := (((((o3_.r 4 h45).i (own_at tx 1 h48)).b h45).o 1 1 .uq (map_get tx (atI_get h48))).r 3 h45)
      obtain ⟨h49, h⟩ | ⟨h49, h⟩ := den_if h
      · obtain ⟨h50, h⟩ := den_ok h
        exact (((o4_.b h49).w (room_ok h50)).a [.cn [3, 4, 11, 12, 13] [0, 3]]).cs hΓ hS1 (d_impl_SortedTexts_S1 a0_ (((w1_1).map tx) ++ ([[D.str (x1_)]])) (IntKind.i64.wrap (((i1 : Int)) + (1)))) (by first | (simp only [iS hd1 hm1, mA] <;> rfl) | (simp only [iS hd1 hm1, mA, Fact.c, Pair.c, Cond.c, Action.c, Rule.c, Token.c, Match.c, Alpha.c, Node.c, Network.c, Stamp.c] <;> rfl)) (ih1 (i1 + 1) ((w1_1) ++ ([x1_])) (dn hd1) h)
      · exact ((o4_.b h49).a [.cn [3, 4, 11, 12, 13] [0, 1]]).ct hΓ hS1 (iS hd1 hm1) (ih1 (i1 + 1) (w1_1) (dn hd1) h)
theorem d_impl_SortedTexts_good {a0_ : List Bytes} {r : List Bytes} (h : d_impl_SortedTexts a0_ = some r) : Good Tryz.prog 112 [D.sl ((a0_).map tx)] (D.fr 9 1 ((r).map tx)) := by
  refine gd Tryz.func112 [[some (9, 1)]] 35 fun hr Γ hΓ => ?_
  rw [d_impl_SortedTexts] at h
  obtain ⟨h1, h⟩ := den_ok h
  obtain ⟨h2, h⟩ := den_ok h
  obtain ⟨h51, h⟩ := den_ok h
  refine (((((pre0.w (room_ok h1)).w (show (∀ r ∈ ((a0_).map tx), r.length = 1) ∧ (true = true → D.flatRows ((a0_).map tx) = true) from ⟨by first | simp | (intro r hr; obtain ⟨x, _, rfl⟩ := List.mem_map.1 (List.mem_of_mem_take (List.mem_of_mem_drop hr)); rfl), by simp [D.flatRows, D.flat]⟩)).w (show ((([] : List (List D))) ++ ((a0_).map tx)).flatten.all D.flat = true from by simpa only [List.map_append, List.map_cons, List.map_nil] using flat_tx_all ((([] : List Bytes)) ++ (a0_)))).w (show GoodM Tryz.prog 157 9 1 ((([] : List (List D))) ++ ((a0_).map tx)) ((sortB ((([] : List Bytes)) ++ (a0_))).map tx) from by simpa only [List.map_append, List.map_cons, List.map_nil] using (d_sort_Strings_good (e := 9) (of_decide_eq_true h2)))).a [.fl true, .mu 0 ((sortB ((([] : List Bytes)) ++ (a0_))).map tx), .pro 4, .cn [3, 4, 11, 12, 13] [0, 1]]).lp hΓ (d_impl_SortedTexts_L1w hΓ (fun q1_0 h => ?_) (of_decide_eq_true h51) (sortB ((([] : List Bytes)) ++ (a0_))) 0 (([] : List Bytes)) rfl h)
  have h := den_some h; subst h; exact pre0.ret hΓ
def d_impl_BoundVars_L1 (a0_ : Rule) (a1_ : Int) (k1 : List Bytes → Option (List Bytes)) : List Cond → Nat → List Bytes → Option (List Bytes)
  | [], i1, w1_0 => (k1 (w1_0))
  | x1_ :: xs1, i1, w1_0 => (bif decide (((i1 : Int) : Int) < (a1_)) then (bif (x1_.kind : Int) == (1) then ((d_impl_varsAmong (x1_.pat.args)).bind fun y39 => (bif room (((w1_0).map tx).length + ((y39).map tx).length) 16 then (d_impl_BoundVars_L1 a0_ a1_ k1 xs1 (i1 + 1) ((w1_0) ++ (y39))) else none)) else (d_impl_BoundVars_L1 a0_ a1_ k1 xs1 (i1 + 1) (w1_0))) else (d_impl_BoundVars_L1 a0_ a1_ k1 xs1 (i1 + 1) (w1_0)))
def d_impl_BoundVars (a0_ : Rule) (a1_ : Int) : Option (List Bytes) := (d_impl_BoundVars_L1 a0_ a1_ (fun (q1_0 : List Bytes) => ((d_impl_SortedTexts (q1_0)).bind fun y42 => (some (y42)))) (a0_.conds) 0 (([] : List Bytes)))
def d_impl_BoundVars_S1 (a0_ : Rule) (a1_ : Int) (W0 : List (List D)) (ix_ : Int) : St := ⟨[(1, D.int .i64 (a1_)), (5, D.acc 0), (9, D.sl ((a0_.conds).map Cond.c)), (10, D.int .i64 ((((a0_.conds).map Cond.c).length : Int))), (11, D.int .i64 (ix_))], [Ob.row .uq 9 1 (W0)]⟩
theorem d_impl_BoundVars_L1w (hΓ : Γ.nt = 33) {a0_ : Rule} {a1_ : Int} {r : List Bytes} {k1 : List Bytes → Option (List Bytes)} (hE1 : ∀ (q1_0 : List Bytes), k1 q1_0 = some r → Ax Γ N Tryz.f108 (.q [[some (9, 1)]] (D.fr 9 1 ((r).map tx))) [1, 1, 1] ⟨[(5, D.acc 0)], [Ob.row .uq 9 1 ((q1_0).map tx)]⟩) (hm1 : (a0_.conds).length ≤ maxLen) : ∀ (rest : List Cond) (i1 : Nat) (w1_0 : List Bytes), (a0_.conds).drop i1 = rest → d_impl_BoundVars_L1 a0_ a1_ k1 rest i1 w1_0 = some r → Ar Γ N Tryz.f108 (.q [[some (9, 1)]] (D.fr 9 1 ((r).map tx))) [1, 1, 0, 1, 0] (rest.length + 1) (d_impl_BoundVars_S1 a0_ a1_ ((w1_0).map tx) ((i1 : Int))) := by
  intro rest
  induction rest with
  | nil =>
    intro i1 w1_0 hd1 h
    rw [d_impl_BoundVars_L1] at h
    refine AWr_succ fun N1 hN1 hS1 => ?_
    exact ((pre0.ge Cond.c hd1).a [.hl 0 [5] [0]]).ex hΓ hN1 (hE1 (w1_0) h)
  | cons x1_ xs1 ih1 =>
    intro i1 w1_0 hd1 h
    rw [d_impl_BoundVars_L1] at h
    refine AWr_succ fun N1 hN1 hS1 => ?_
    have o3_ := ((pre0.lt Cond.c hd1).l (map_row Cond.c 5 (dc hd1) rfl))
    obtain ⟨h37, h⟩ | ⟨h37, h⟩ := den_if h
    · have o4_ := (o3_.r 4 h37)
      obtain ⟨h38, h⟩ | ⟨h38, h⟩ := den_if h
      · obtain ⟨y39, h40, h⟩ := den_bind h
        obtain ⟨h41, h⟩ := den_ok h
        exact ((((o4_.b h38).g (d_impl_varsAmong_good h40)).w (room_ok h41)).a [.cn [1, 5, 9, 10, 11] [3]]).cs hΓ hS1 (d_impl_BoundVars_S1 a0_ a1_ (((w1_0).map tx) ++ ((y39).map tx)) (IntKind.i64.wrap (((i1 : Int)) + (1)))) (by first | (simp only [iS hd1 hm1, mA] <;> rfl) | (simp only [iS hd1 hm1, mA, Fact.c, Pair.c, Cond.c, Action.c, Rule.c, Token.c, Match.c, Alpha.c, Node.c, Network.c, Stamp.c] <;> rfl)) (ih1 (i1 + 1) ((w1_0) ++ (y39)) (dn hd1) h)
      · exact ((o4_.b h38).a [.cn [1, 5, 9, 10, 11] [0]]).ct hΓ hS1 (iS hd1 hm1) (ih1 (i1 + 1) (w1_0) (dn hd1) h)
    · exact (((o3_.r 4 h37).F 1).a [.cn [1, 5, 9, 10, 11] [0]]).ct hΓ hS1 (iS hd1 hm1) (ih1 (i1 + 1) (w1_0) (dn hd1) h)
theorem d_impl_BoundVars_good {a0_ : Rule} {a1_ : Int} {r : List Bytes} (h : d_impl_BoundVars a0_ a1_ = some r) : Good Tryz.prog 108 [D.agg (Rule.c a0_), D.int .i64 (a1_)] (D.fr 9 1 ((r).map tx)) := by
  refine gd Tryz.func108 [[some (9, 1)]] 33 fun hr Γ hΓ => ?_
  rw [d_impl_BoundVars] at h
  refine (pre0.a [.pro 5, .cn [1, 5, 9, 10, 11] [1]]).lp hΓ (d_impl_BoundVars_L1w hΓ (fun q1_0 h => ?_) (by have := (Rdb.sl (Rdb.agg (hr _ (List.mem_of_getElem? (i := 0) rfl)) (.sl ((a0_.conds).map Cond.c)) (by simp))).1; simpa using this) (a0_.conds) 0 (([] : List Bytes)) rfl h)
  obtain ⟨y42, h43, h⟩ := den_bind h
  have h := den_some h; subst h; exact (pre0.g (d_impl_SortedTexts_good h43)).ret hΓ
def d_impl_copyTexts (a0_ : List Bytes) : Option (List Bytes) := (bif room ((([] : List (List D))).length + ((a0_).map tx).length) 16 then (some ((([] : List Bytes)) ++ (a0_))) else none)
theorem d_impl_copyTexts_good {a0_ : List Bytes} {r : List Bytes} (h : d_impl_copyTexts a0_ = some r) : Good Tryz.prog 178 [D.sl ((a0_).map tx)] (D.fr 9 1 ((r).map tx)) := by
  refine gd Tryz.func178 [[some (9, 1)]] 5 fun hr Γ hΓ => ?_
  rw [d_impl_copyTexts] at h
  obtain ⟨h1, h⟩ := den_ok h
  cases h; exact (((pre0.w (room_ok h1)).w (show (∀ r ∈ ((a0_).map tx), r.length = 1) ∧ (true = true → D.flatRows ((a0_).map tx) = true) from ⟨by first | simp | (intro r hr; obtain ⟨x, _, rfl⟩ := List.mem_map.1 (List.mem_of_mem_take (List.mem_of_mem_drop hr)); rfl), by simp [D.flatRows, D.flat]⟩)).a [.pro 2, .fl true]).rts hΓ (D.fr 9 1 ((([] : List (List D))) ++ ((a0_).map tx))) (by first | rfl | (simp only [mA] <;> rfl))
def d_impl_termsOf (a0_ : Cond) : Option (List Bytes) := ((d_impl_copyTexts (a0_.pat.args)).bind fun y1 => (bif room (((y1).map tx).length + ((([a0_.left, a0_.right] : List Bytes)).map tx).length) 16 then (some ((y1) ++ (([a0_.left, a0_.right] : List Bytes)))) else none))
theorem d_impl_termsOf_good {a0_ : Cond} {r : List Bytes} (h : d_impl_termsOf a0_ = some r) : Good Tryz.prog 160 [D.agg (Cond.c a0_)] (D.fr 9 1 ((r).map tx)) := by
  refine gd Tryz.func160 [[some (9, 1)]] 13 fun hr Γ hΓ => ?_
  rw [d_impl_termsOf] at h
  obtain ⟨y1, h2, h⟩ := den_bind h
  obtain ⟨h3, h⟩ := den_ok h
  cases h; exact (((pre0.a [.pro 2, .n 9]).g (d_impl_copyTexts_good h2)).w (room_ok h3)).rts hΓ (D.fr 9 1 (((y1).map tx) ++ ((([a0_.left, a0_.right] : List Bytes)).map tx))) (by first | rfl | (simp only [mA] <;> rfl))
def d_impl_CondVars (a0_ : Cond) : Option (List Bytes) := ((d_impl_termsOf (a0_)).bind fun y1 => ((d_impl_varsAmong (y1)).bind fun y3 => ((d_impl_SortedTexts (y3)).bind fun y5 => (some (y5)))))
theorem d_impl_CondVars_good {a0_ : Cond} {r : List Bytes} (h : d_impl_CondVars a0_ = some r) : Good Tryz.prog 154 [D.agg (Cond.c a0_)] (D.fr 9 1 ((r).map tx)) := by
  refine gd Tryz.func154 [[some (9, 1)]] 7 fun hr Γ hΓ => ?_
  rw [d_impl_CondVars] at h
  obtain ⟨y1, h2, h⟩ := den_bind h
  obtain ⟨y3, h4, h⟩ := den_bind h
  obtain ⟨y5, h6, h⟩ := den_bind h
  have h := den_some h; subst h; exact (((pre0.g (d_impl_termsOf_good h2)).g (d_impl_varsAmong_good h4)).g (d_impl_SortedTexts_good h6)).ret hΓ
def d_impl_hasText_L1 (a0_ : List Bytes) (a1_ : Bytes) (k1 : Option Bool) : List Bytes → Nat → Option Bool
  | [], i1 => (k1 )
  | x1_ :: xs1, i1 => (bif (x1_ : Bytes) == (a1_) then (some (true)) else (d_impl_hasText_L1 a0_ a1_ k1 xs1 (i1 + 1) ))
def d_impl_hasText (a0_ : List Bytes) (a1_ : Bytes) : Option Bool := (d_impl_hasText_L1 a0_ a1_ (some (false)) (a0_) 0 )
def d_impl_hasText_S1 (a0_ : List Bytes) (a1_ : Bytes) (ix_ : Int) : St := ⟨[(1, D.str (a1_)), (7, D.sl ((a0_).map tx)), (8, D.int .i64 ((((a0_).map tx).length : Int))), (9, D.int .i64 (ix_))], []⟩
theorem d_impl_hasText_L1w (hΓ : Γ.nt = 17) {a0_ : List Bytes} {a1_ : Bytes} {r : Bool} {k1 : Option Bool} (hE1 : k1 = some r → Ax Γ N Tryz.f111 (.q [[none]] (D.bool (r))) [1, 1] ⟨[], []⟩) (hm1 : (a0_).length ≤ maxLen) : ∀ (rest : List Bytes) (i1 : Nat) , (a0_).drop i1 = rest → d_impl_hasText_L1 a0_ a1_ k1 rest i1  = some r → Ar Γ N Tryz.f111 (.q [[none]] (D.bool (r))) [1, 0, 1, 0] (rest.length + 1) (d_impl_hasText_S1 a0_ a1_ ((i1 : Int))) := by
  intro rest
  induction rest with
  | nil =>
    intro i1  hd1 h
    rw [d_impl_hasText_L1] at h
    refine AWr_succ fun N1 hN1 hS1 => ?_
    exact ((pre0.ge tx hd1).a [.hl 0 [] []]).ex hΓ hN1 (hE1 h)
  | cons x1_ xs1 ih1 =>
    intro i1  hd1 h
    rw [d_impl_hasText_L1] at h
    refine AWr_succ fun N1 hN1 hS1 => ?_
    have o2_ := ((pre0.lt tx hd1).l (map_row tx 1 (dc hd1) rfl))
    obtain ⟨h13, h⟩ | ⟨h13, h⟩ := den_if h
    · have h := den_some h; subst h; exact (o2_.b h13).ret hΓ
    · exact ((o2_.b h13).a [.cn [1, 7, 8, 9] []]).ct hΓ hS1 (iS hd1 hm1) (ih1 (i1 + 1)  (dn hd1) h)
theorem d_impl_hasText_good {a0_ : List Bytes} {a1_ : Bytes} {r : Bool} (h : d_impl_hasText a0_ a1_ = some r) : Good Tryz.prog 111 [D.sl ((a0_).map tx), D.str (a1_)] (D.bool (r)) := by
  refine gd Tryz.func111 [[none]] 17 fun hr Γ hΓ => ?_
  rw [d_impl_hasText] at h
  refine (pre0.a [.cn [1, 7, 8, 9] []]).lp hΓ (d_impl_hasText_L1w hΓ (fun h => ?_) (by have := (Rdb.sl (hr _ (List.mem_of_getElem? (i := 0) rfl))).1; simpa using this) (a0_) 0  rfl h)
  have h := den_some h; subst h; exact pre0.ret hΓ
def d_impl_occursElsewhere_L1 (a0_ : Rule) (a1_ : Int) (a2_ : Bytes) (k1 : Option Bool) : List Cond → Nat → Option Bool
  | [], i1 => (k1 )
  | x1_ :: xs1, i1 => (bif ((i1 : Int) : Int) != (a1_) then ((d_impl_CondVars (x1_)).bind fun y34 => ((d_impl_hasText (y34) (a2_)).bind fun y36 => (bif y36 then (some (true)) else (d_impl_occursElsewhere_L1 a0_ a1_ a2_ k1 xs1 (i1 + 1) )))) else (d_impl_occursElsewhere_L1 a0_ a1_ a2_ k1 xs1 (i1 + 1) ))
def d_impl_occursElsewhere_L2 (a0_ : Rule) (a2_ : Bytes) (k2 : Option Bool) : List Action → Nat → Option Bool
  | [], i2 => (k2 )
  | x2_ :: xs2, i2 => ((d_impl_hasText (x2_.pat.args) (a2_)).bind fun y59 => (bif y59 then (some (true)) else (d_impl_occursElsewhere_L2 a0_ a2_ k2 xs2 (i2 + 1) )))
def d_impl_occursElsewhere (a0_ : Rule) (a1_ : Int) (a2_ : Bytes) : Option Bool := (d_impl_occursElsewhere_L1 a0_ a1_ a2_ (d_impl_occursElsewhere_L2 a0_ a2_ (some (false)) (a0_.acts) 0 ) (a0_.conds) 0 )
def d_impl_occursElsewhere_S1 (a0_ : Rule) (a1_ : Int) (a2_ : Bytes) (ix_ : Int) : St := ⟨[(1, D.int .i64 (a1_)), (2, D.str (a2_)), (3, D.ptr 0 0), (12, D.sl ((a0_.conds).map Cond.c)), (13, D.int .i64 ((((a0_.conds).map Cond.c).length : Int))), (14, D.int .i64 (ix_))], [Ob.box (Rule.c a0_)]⟩
theorem d_impl_occursElsewhere_L1w (hΓ : Γ.nt = 42) {a0_ : Rule} {a1_ : Int} {a2_ : Bytes} {r : Bool} {k1 : Option Bool} (hE1 : k1 = some r → Ax Γ N Tryz.f155 (.q [[none]] (D.bool (r))) [1, 1] ⟨[(2, D.str (a2_)), (3, D.ptr 0 0)], [Ob.box (Rule.c a0_)]⟩) (hm1 : (a0_.conds).length ≤ maxLen) : ∀ (rest : List Cond) (i1 : Nat) , (a0_.conds).drop i1 = rest → d_impl_occursElsewhere_L1 a0_ a1_ a2_ k1 rest i1  = some r → Ar Γ N Tryz.f155 (.q [[none]] (D.bool (r))) [1, 0, 1, 0] (rest.length + 1) (d_impl_occursElsewhere_S1 a0_ a1_ a2_ ((i1 : Int))) := by
  intro rest
  induction rest with
  | nil =>
    intro i1  hd1 h
    rw [d_impl_occursElsewhere_L1] at h
    refine AWr_succ fun N1 hN1 hS1 => ?_
    exact ((pre0.ge Cond.c hd1).a [.hl 0 [2, 3] [0]]).ex hΓ hN1 (hE1 h)
  | cons x1_ xs1 ih1 =>
    intro i1  hd1 h
    rw [d_impl_occursElsewhere_L1] at h
    refine AWr_succ fun N1 hN1 hS1 => ?_
    have o4_ := ((pre0.lt Cond.c hd1).l (map_row Cond.c 5 (dc hd1) rfl))
    obtain ⟨h33, h⟩ | ⟨h33, h⟩ := den_if h
    · obtain ⟨y34, h35, h⟩ := den_bind h
      obtain ⟨y36, h37, h⟩ := den_bind h
      have o5_ := (((((o4_.r 2 h33).g (d_impl_CondVars_good h35)).r 2 h33).g (d_impl_hasText_good h37)).b h33)
      obtain ⟨h38, h⟩ | ⟨h38, h⟩ := den_if h
      · have h := den_some h; subst h; exact (o5_.b h38).ret hΓ
      · exact ((o5_.b h38).a [.cn [1, 2, 3, 12, 13, 14] [0]]).ct hΓ hS1 (iS hd1 hm1) (ih1 (i1 + 1)  (dn hd1) h)
    · exact (((o4_.r 5 h33).F 1).a [.cn [1, 2, 3, 12, 13, 14] [0]]).ct hΓ hS1 (iS hd1 hm1) (ih1 (i1 + 1)  (dn hd1) h)
def d_impl_occursElsewhere_S2 (a0_ : Rule) (a2_ : Bytes) (ix_ : Int) : St := ⟨[(2, D.str (a2_)), (30, D.sl ((a0_.acts).map Action.c)), (31, D.int .i64 ((((a0_.acts).map Action.c).length : Int))), (32, D.int .i64 (ix_))], []⟩
theorem d_impl_occursElsewhere_L2w (hΓ : Γ.nt = 42) {a0_ : Rule} {a2_ : Bytes} {r : Bool} {k2 : Option Bool} (hE2 : k2 = some r → Ax Γ N Tryz.f155 (.q [[none]] (D.bool (r))) [1, 1, 1] ⟨[], []⟩) (hm2 : (a0_.acts).length ≤ maxLen) : ∀ (rest : List Action) (i2 : Nat) , (a0_.acts).drop i2 = rest → d_impl_occursElsewhere_L2 a0_ a2_ k2 rest i2  = some r → Ar Γ N Tryz.f155 (.q [[none]] (D.bool (r))) [1, 1, 0, 1, 0] (rest.length + 1) (d_impl_occursElsewhere_S2 a0_ a2_ ((i2 : Int))) := by
  intro rest
  induction rest with
  | nil =>
    intro i2  hd2 h
    rw [d_impl_occursElsewhere_L2] at h
    refine AWr_succ fun N2 hN2 hS2 => ?_
    exact ((pre0.ge Action.c hd2).a [.hl 0 [] []]).ex hΓ hN2 (hE2 h)
  | cons x2_ xs2 ih2 =>
    intro i2  hd2 h
    rw [d_impl_occursElsewhere_L2] at h
    refine AWr_succ fun N2 hN2 hS2 => ?_
    obtain ⟨y59, h60, h⟩ := den_bind h
    have o6_ := (((pre0.lt Action.c hd2).l (map_row Action.c 3 (dc hd2) rfl)).g (d_impl_hasText_good h60))
    obtain ⟨h61, h⟩ | ⟨h61, h⟩ := den_if h
    · have h := den_some h; subst h; exact (o6_.b h61).ret hΓ
    · exact ((o6_.b h61).a [.cn [2, 30, 31, 32] []]).ct hΓ hS2 (iS hd2 hm2) (ih2 (i2 + 1)  (dn hd2) h)
theorem d_impl_occursElsewhere_good {a0_ : Rule} {a1_ : Int} {a2_ : Bytes} {r : Bool} (h : d_impl_occursElsewhere a0_ a1_ a2_ = some r) : Good Tryz.prog 155 [D.agg (Rule.c a0_), D.int .i64 (a1_), D.str (a2_)] (D.bool (r)) := by
  refine gd Tryz.func155 [[none]] 42 fun hr Γ hΓ => ?_
  rw [d_impl_occursElsewhere] at h
  refine (pre0.a [.cn [1, 2, 3, 12, 13, 14] [0]]).lp hΓ (d_impl_occursElsewhere_L1w hΓ (fun h => ?_) (by have := (Rdb.sl (Rdb.agg (hr _ (List.mem_of_getElem? (i := 0) rfl)) (.sl ((a0_.conds).map Cond.c)) (by simp))).1; simpa using this) (a0_.conds) 0  rfl h)
  refine (pre0.a [.cn [2, 30, 31, 32] []]).lp hΓ (d_impl_occursElsewhere_L2w hΓ (fun h => ?_) (by have := (Rdb.sl (Rdb.agg (hr _ (List.mem_of_getElem? (i := 0) rfl)) (.sl ((a0_.acts).map Action.c)) (by simp))).1; simpa using this) (a0_.acts) 0  rfl h)
  have h := den_some h; subst h; exact pre0.ret hΓ
end Go.Cx
