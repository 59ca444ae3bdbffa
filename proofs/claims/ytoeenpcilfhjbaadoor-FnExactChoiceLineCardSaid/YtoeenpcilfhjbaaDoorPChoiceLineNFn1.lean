/- What functions of the program compute, and the walks that show it. No condition. -/
import Derived.Test.YtoeenpcilfhjbaaDoorNLay
import Derived.Test.YtoeenpcilfhjbaaDoorPChoiceLineSrM
namespace Go.Cx
open Go.RowKit Go.Proofs
set_option linter.unusedVariables false
set_option linter.unusedSimpArgs false
set_option maxRecDepth 100000
variable {Γ : Ctx} {N : Nat → St → Prop}
def d_spec_l1In (a0_ : Int) (a1_ : Int) (a2_ : Int) : Option Bool := (bif decide ((a0_ : Int) ≥ (a1_)) then (some (decide ((a0_ : Int) ≤ (a2_)))) else (some (false)))
theorem d_spec_l1In_good {a0_ : Int} {a1_ : Int} {a2_ : Int} {r : Bool} (h : d_spec_l1In a0_ a1_ a2_ = some r) : Good Tryd.prog 43 [D.int .i64 (a0_), D.int .i64 (a1_), D.int .i64 (a2_)] (D.bool (r)) := by
  refine gd Tryd.func43 [[none]] 15 fun hr Γ hΓ => ?_
  rw [d_spec_l1In] at h
  obtain ⟨h1, h⟩ | ⟨h1, h⟩ := den_if h
  · cases h; exact (pre0.r 4 h1).ret hΓ
  · have h := den_some h; subst h; exact (pre0.r 4 h1).ret hΓ
def d_spec_IsAtom_L1 (a0_ : Bytes) (k1 : Option Bool) : Nat → Int → Option Bool
  | 0, _ => none
  | n1 + 1, v1_3 => (bif decide ((v1_3 : Int) < (((a0_).length : Int))) then ((atI (a0_) (v1_3)).bind fun b29 => ((d_spec_l1In (IntKind.i64.wrap (b29.toNat)) (97) (122)).bind fun y31 => (bif !(y31) then ((d_spec_l1In (IntKind.i64.wrap (b29.toNat)) (48) (57)).bind fun y34 => (bif !(y34) then (some (false)) else (d_spec_IsAtom_L1 a0_ k1 n1 (IntKind.i64.wrap ((v1_3) + (1)))))) else (d_spec_IsAtom_L1 a0_ k1 n1 (IntKind.i64.wrap ((v1_3) + (1))))))) else (k1 ))
def d_spec_IsAtom (a0_ : Bytes) : Option Bool := (d_spec_IsAtom_L1 a0_ ((d_spec_l1In (((a0_).length : Int)) (1) (8)).bind fun y37 => (some (y37))) fuel (0))
def d_spec_IsAtom_S1 (a0_ : Bytes) (v1_3 : Int) : St := ⟨[(0, D.str (a0_)), (3, D.int .i64 (v1_3))], []⟩
theorem d_spec_IsAtom_L1w (hΓ : Γ.nt = 27) {a0_ : Bytes} {r : Bool} {k1 : Option Bool} (hE1 : k1 = some r → Ax Γ N Tryd.f42 (.q [[none]] (D.bool (r))) [1, 1] ⟨[(0, D.str (a0_))], []⟩) : ∀ (n1 : Nat) (v1_3 : Int), d_spec_IsAtom_L1 a0_ k1 n1 v1_3 = some r → Ar Γ N Tryd.f42 (.q [[none]] (D.bool (r))) [1, 0, 1, 0] n1 (d_spec_IsAtom_S1 a0_ v1_3) := by
  intro n
  induction n with
  | zero => intro v1_3 h; simp [d_spec_IsAtom_L1] at h
  | succ n1 ih1 =>
    intro v1_3 h
    rw [d_spec_IsAtom_L1] at h
    refine AWr_succ fun N1 hN1 hS1 => ?_
    obtain ⟨h28, h⟩ | ⟨h28, h⟩ := den_if h
    · obtain ⟨b29, h30, h⟩ := den_bind h
      obtain ⟨y31, h32, h⟩ := den_bind h
      have o3_ := (((pre0.b h28).c h30).g (d_spec_l1In_good h32))
      obtain ⟨h33, h⟩ | ⟨h33, h⟩ := den_if h
      · obtain ⟨y34, h35, h⟩ := den_bind h
        have o4_ := (((((o3_.r 3 h33).c h30).r 2 h33).g (d_spec_l1In_good h35)).r 2 h33)
        obtain ⟨h36, h⟩ | ⟨h36, h⟩ := den_if h
        · have h := den_some h; subst h; exact (o4_.b h36).ret hΓ
        · exact ((o4_.b h36).a [.cn [0, 3] []]).cf hΓ hS1 (ih1 (IntKind.i64.wrap ((v1_3) + (1))) h)
      · exact (((o3_.r 7 h33).F 1).a [.cn [0, 3] []]).cf hΓ hS1 (ih1 (IntKind.i64.wrap ((v1_3) + (1))) h)
    · exact ((pre0.b h28).a [.hl 0 [0] []]).ex hΓ hN1 (hE1 h)
theorem d_spec_IsAtom_good {a0_ : Bytes} {r : Bool} (h : d_spec_IsAtom a0_ = some r) : Good Tryd.prog 42 [D.str (a0_)] (D.bool (r)) := by
  refine gd Tryd.func42 [[none]] 27 fun hr Γ hΓ => ?_
  rw [d_spec_IsAtom] at h
  refine (pre0.a [.cn [0, 3] []]).lp hΓ (d_spec_IsAtom_L1w hΓ (fun h => ?_) fuel (0) h)
  obtain ⟨y37, h38, h⟩ := den_bind h
  have h := den_some h; subst h; exact (pre0.g (d_spec_l1In_good h38)).ret hΓ
def d_spec_IsName (a0_ : Bytes) : Option Bool := ((d_spec_IsAtom (a0_)).bind fun y1 => (bif y1 then ((atI (a0_) (0)).bind fun b4 => ((d_spec_l1In (IntKind.i64.wrap (b4.toNat)) (97) (122)).bind fun y6 => (some (y6)))) else (some (false))))
theorem d_spec_IsName_good {a0_ : Bytes} {r : Bool} (h : d_spec_IsName a0_ = some r) : Good Tryd.prog 26 [D.str (a0_)] (D.bool (r)) := by
  refine gd Tryd.func26 [[none]] 11 fun hr Γ hΓ => ?_
  rw [d_spec_IsName] at h
  obtain ⟨y1, h2, h⟩ := den_bind h
  obtain ⟨h3, h⟩ | ⟨h3, h⟩ := den_if h
  · obtain ⟨b4, h5, h⟩ := den_bind h
    obtain ⟨y6, h7, h⟩ := den_bind h
    have h := den_some h; subst h; exact ((((((pre0.g (d_spec_IsAtom_good h2)).r 2 h3).c h5).r 2 h3).g (d_spec_l1In_good h7)).b h3).ret hΓ
  · have h := den_some h; subst h; exact ((pre0.g (d_spec_IsAtom_good h2)).r 5 h3).ret hΓ
def d_spec_IsFact_L1 (a0_ : Fact) (k1 : Option Bool) : List Bytes → Nat → Option Bool
  | [], i1 => (k1 )
  | x1_ :: xs1, i1 => ((d_spec_IsAtom (x1_)).bind fun y21 => (bif !(y21) then (some (false)) else (d_spec_IsFact_L1 a0_ k1 xs1 (i1 + 1) )))
def d_spec_IsFact (a0_ : Fact) : Option Bool := (d_spec_IsFact_L1 a0_ ((d_spec_IsName (a0_.rel)).bind fun y24 => (bif y24 then (some (decide (((((a0_.args).map tx).length : Int) : Int) ≤ (3)))) else (some (false)))) (a0_.args) 0 )
def d_spec_IsFact_S1 (a0_ : Fact) (ix_ : Int) : St := ⟨[(1, D.ptr 0 0), (3, D.int .i64 (ix_))], [Ob.box (Fact.c a0_)]⟩
theorem d_spec_IsFact_L1w (hΓ : Γ.nt = 27) {a0_ : Fact} {r : Bool} {k1 : Option Bool} (hE1 : k1 = some r → Ax Γ N Tryd.f40 (.q [[none]] (D.bool (r))) [1, 1] ⟨[(1, D.ptr 0 0)], [Ob.box (Fact.c a0_)]⟩) (hm1 : (a0_.args).length ≤ maxLen) : ∀ (rest : List Bytes) (i1 : Nat) , (a0_.args).drop i1 = rest → d_spec_IsFact_L1 a0_ k1 rest i1  = some r → Ar Γ N Tryd.f40 (.q [[none]] (D.bool (r))) [1, 0, 1, 0] (rest.length + 1) (d_spec_IsFact_S1 a0_ ((i1 : Int))) := by
  intro rest
  induction rest with
  | nil =>
    intro i1  hd1 h
    rw [d_spec_IsFact_L1] at h
    refine AWr_succ fun N1 hN1 hS1 => ?_
    exact ((pre0.ge tx hd1).a [.hl 0 [1] [0]]).ex hΓ hN1 (hE1 h)
  | cons x1_ xs1 ih1 =>
    intro i1  hd1 h
    rw [d_spec_IsFact_L1] at h
    refine AWr_succ fun N1 hN1 hS1 => ?_
    obtain ⟨y21, h22, h⟩ := den_bind h
    have o2_ := (((pre0.lt tx hd1).l (map_row tx 1 (dc hd1) rfl)).g (d_spec_IsAtom_good h22))
    obtain ⟨h23, h⟩ | ⟨h23, h⟩ := den_if h
    · have h := den_some h; subst h; exact (o2_.b h23).ret hΓ
    · exact ((o2_.b h23).a [.cn [1, 3] [0]]).ct hΓ hS1 (iS hd1 hm1) (ih1 (i1 + 1)  (dn hd1) h)
theorem d_spec_IsFact_good {a0_ : Fact} {r : Bool} (h : d_spec_IsFact a0_ = some r) : Good Tryd.prog 40 [D.agg (Fact.c a0_)] (D.bool (r)) := by
  refine gd Tryd.func40 [[none]] 27 fun hr Γ hΓ => ?_
  rw [d_spec_IsFact] at h
  refine (pre0.a [.cn [1, 3] [0]]).lp hΓ (d_spec_IsFact_L1w hΓ (fun h => ?_) (by have := (Rdb.sl (Rdb.agg (hr _ (List.mem_of_getElem? (i := 0) rfl)) (.sl ((a0_.args).map tx)) (by simp))).1; simpa using this) (a0_.args) 0  rfl h)
  obtain ⟨y24, h25, h⟩ := den_bind h
  obtain ⟨h26, h⟩ | ⟨h26, h⟩ := den_if h
  · cases h; exact ((pre0.g (d_spec_IsName_good h25)).r 5 h26).ret hΓ
  · have h := den_some h; subst h; exact ((pre0.g (d_spec_IsName_good h25)).r 5 h26).ret hΓ
def d_spec_Join_L1 (a0_ : List Bytes) (a1_ : Bytes) (k1 : Bytes → Option Bytes) : List Bytes → Nat → Bytes → Option Bytes
  | [], i1, v1_5 => (k1 (v1_5))
  | x1_ :: xs1, i1, v1_5 => (bif decide (((i1 : Int) : Int) > (0)) then (bif decide ((v1_5 : Bytes).length + (a1_ : Bytes).length ≤ maxLen) then (bif decide (((v1_5) ++ (a1_) : Bytes).length + (x1_ : Bytes).length ≤ maxLen) then (d_spec_Join_L1 a0_ a1_ k1 xs1 (i1 + 1) (((v1_5) ++ (a1_)) ++ (x1_))) else none) else none) else (bif decide ((v1_5 : Bytes).length + (x1_ : Bytes).length ≤ maxLen) then (d_spec_Join_L1 a0_ a1_ k1 xs1 (i1 + 1) ((v1_5) ++ (x1_))) else none))
def d_spec_Join (a0_ : List Bytes) (a1_ : Bytes) : Option Bytes := (d_spec_Join_L1 a0_ a1_ (fun (z1_5 : Bytes) => (some (z1_5))) (a0_) 0 ([]))
def d_spec_Join_S1 (a0_ : List Bytes) (a1_ : Bytes) (v1_5 : Bytes) (ix_ : Int) : St := ⟨[(0, D.sl ((a0_).map tx)), (1, D.str (a1_)), (5, D.str (v1_5)), (6, D.int .i64 (ix_))], []⟩
theorem d_spec_Join_L1w (hΓ : Γ.nt = 25) {a0_ : List Bytes} {a1_ : Bytes} {r : Bytes} {k1 : Bytes → Option Bytes} (hE1 : ∀ (z1_5 : Bytes), k1 z1_5 = some r → Ax Γ N Tryd.f14 (.q [[none]] (D.str (r))) [1, 1, 1] ⟨[(5, D.str (z1_5))], []⟩) (hm1 : (a0_).length ≤ maxLen) : ∀ (rest : List Bytes) (i1 : Nat) (v1_5 : Bytes), (a0_).drop i1 = rest → d_spec_Join_L1 a0_ a1_ k1 rest i1 v1_5 = some r → Ar Γ N Tryd.f14 (.q [[none]] (D.str (r))) [1, 1, 0, 1, 0] (rest.length + 1) (d_spec_Join_S1 a0_ a1_ v1_5 ((i1 : Int))) := by
  intro rest
  induction rest with
  | nil =>
    intro i1 v1_5 hd1 h
    rw [d_spec_Join_L1] at h
    refine AWr_succ fun N1 hN1 hS1 => ?_
    exact ((pre0.ge tx hd1).a [.hl 0 [5] []]).ex hΓ hN1 (hE1 (v1_5) h)
  | cons x1_ xs1 ih1 =>
    intro i1 v1_5 hd1 h
    rw [d_spec_Join_L1] at h
    refine AWr_succ fun N1 hN1 hS1 => ?_
    obtain ⟨h29, h⟩ | ⟨h29, h⟩ := den_if h
    · obtain ⟨h30, h⟩ := den_ok h
      obtain ⟨h31, h⟩ := den_ok h
      exact ((((((pre0.lt tx hd1).b h29).w (of_decide_eq_true h30)).l (map_row tx 1 (dc hd1) rfl)).w (of_decide_eq_true h31)).a [.cn [0, 1, 5, 6] []]).ct hΓ hS1 (iS hd1 hm1) (ih1 (i1 + 1) (((v1_5) ++ (a1_)) ++ (x1_)) (dn hd1) h)
    · obtain ⟨h32, h⟩ := den_ok h
      exact (((((pre0.lt tx hd1).b h29).l (map_row tx 1 (dc hd1) rfl)).w (of_decide_eq_true h32)).a [.cn [0, 1, 5, 6] []]).ct hΓ hS1 (iS hd1 hm1) (ih1 (i1 + 1) ((v1_5) ++ (x1_)) (dn hd1) h)
theorem d_spec_Join_good {a0_ : List Bytes} {a1_ : Bytes} {r : Bytes} (h : d_spec_Join a0_ a1_ = some r) : Good Tryd.prog 14 [D.sl ((a0_).map tx), D.str (a1_)] (D.str (r)) := by
  refine gd Tryd.func14 [[none]] 25 fun hr Γ hΓ => ?_
  rw [d_spec_Join] at h
  refine (pre0.a [.cn [0, 1, 5, 6] []]).lp hΓ (d_spec_Join_L1w hΓ (fun z1_5 h => ?_) (by have := (Rdb.sl (hr _ (List.mem_of_getElem? (i := 0) rfl))).1; simpa using this) (a0_) 0 ([]) rfl h)
  have h := den_some h; subst h; exact pre0.ret hΓ
def d_spec_FormatFact (a0_ : Fact) : Option Bytes := ((d_spec_IsFact (a0_)).bind fun y1 => (bif !(y1) then (some ([])) else (bif decide ((a0_.rel : Bytes).length + ([40] : Bytes).length ≤ maxLen) then ((d_spec_Join (a0_.args) ([44])).bind fun y5 => (bif decide (((a0_.rel) ++ ([40]) : Bytes).length + (y5 : Bytes).length ≤ maxLen) then (bif decide ((((a0_.rel) ++ ([40])) ++ (y5) : Bytes).length + ([41] : Bytes).length ≤ maxLen) then (some ((((a0_.rel) ++ ([40])) ++ (y5)) ++ ([41]))) else none) else none)) else none)))
theorem d_spec_FormatFact_good {a0_ : Fact} {r : Bytes} (h : d_spec_FormatFact a0_ = some r) : Good Tryd.prog 41 [D.agg (Fact.c a0_)] (D.str (r)) := by
  refine gd Tryd.func41 [[none]] 14 fun hr Γ hΓ => ?_
  rw [d_spec_FormatFact] at h
  obtain ⟨y1, h2, h⟩ := den_bind h
  obtain ⟨h3, h⟩ | ⟨h3, h⟩ := den_if h
  · cases h; exact ((pre0.g (d_spec_IsFact_good h2)).b h3).ret hΓ
  · obtain ⟨h4, h⟩ := den_ok h
    obtain ⟨y5, h6, h⟩ := den_bind h
    obtain ⟨h7, h⟩ := den_ok h
    obtain ⟨h8, h⟩ := den_ok h
    cases h; exact (((((((pre0.g (d_spec_IsFact_good h2)).b h3).w (of_decide_eq_true h4)).a [.n 6]).g (d_spec_Join_good h6)).w (of_decide_eq_true h7)).w (of_decide_eq_true h8)).rts hΓ (D.str ((((a0_.rel) ++ ([40])) ++ (y5)) ++ ([41]))) (by first | rfl | (simp only [mA] <;> rfl))
def d_spec_FormatFacts_L1 (a0_ : List Fact) (k1 : List Bytes → Option Bytes) : List Fact → Nat → List Bytes → Option Bytes
  | [], i1, w1_0 => (k1 (w1_0))
  | x1_ :: xs1, i1, w1_0 => ((d_spec_IsFact (x1_)).bind fun y42 => (bif !(y42) then (some ([])) else ((d_spec_FormatFact (x1_)).bind fun y45 => (bif room (((w1_0).map tx).length + ([[D.str (y45)]]).length) 16 then (d_spec_FormatFacts_L1 a0_ k1 xs1 (i1 + 1) ((w1_0) ++ ([y45]))) else none))))
def d_spec_FormatFacts (a0_ : List Fact) : Option Bytes := (d_spec_FormatFacts_L1 a0_ (fun (q1_0 : List Bytes) => (bif ((((q1_0).map tx).length : Int) : Int) == (0) then (some ([45])) else ((d_spec_Join (q1_0) ([32])).bind fun y49 => (some (y49))))) (a0_) 0 (([] : List Bytes)))
def d_spec_FormatFacts_S1 (a0_ : List Fact) (W0 : List (List D)) (ix_ : Int) : St := ⟨[(0, D.sl ((a0_).map Fact.c)), (3, D.acc 0), (4, D.int .i64 (ix_))], [Ob.row .uq 9 1 (W0)]⟩
theorem d_spec_FormatFacts_L1w (hΓ : Γ.nt = 31) {a0_ : List Fact} {r : Bytes} {k1 : List Bytes → Option Bytes} (hE1 : ∀ (q1_0 : List Bytes), k1 q1_0 = some r → Ax Γ N Tryd.f25 (.q [[none]] (D.str (r))) [1, 1, 1] ⟨[(3, D.acc 0)], [Ob.row .uq 9 1 ((q1_0).map tx)]⟩) (hm1 : (a0_).length ≤ maxLen) : ∀ (rest : List Fact) (i1 : Nat) (w1_0 : List Bytes), (a0_).drop i1 = rest → d_spec_FormatFacts_L1 a0_ k1 rest i1 w1_0 = some r → Ar Γ N Tryd.f25 (.q [[none]] (D.str (r))) [1, 1, 0, 1, 0] (rest.length + 1) (d_spec_FormatFacts_S1 a0_ ((w1_0).map tx) ((i1 : Int))) := by
  intro rest
  induction rest with
  | nil =>
    intro i1 w1_0 hd1 h
    rw [d_spec_FormatFacts_L1] at h
    refine AWr_succ fun N1 hN1 hS1 => ?_
    exact ((pre0.ge Fact.c hd1).a [.hl 0 [3] [0]]).ex hΓ hN1 (hE1 (w1_0) h)
  | cons x1_ xs1 ih1 =>
    intro i1 w1_0 hd1 h
    rw [d_spec_FormatFacts_L1] at h
    refine AWr_succ fun N1 hN1 hS1 => ?_
    obtain ⟨y42, h43, h⟩ := den_bind h
    have o2_ := (((pre0.lt Fact.c hd1).l (map_row Fact.c 2 (dc hd1) rfl)).g (d_spec_IsFact_good h43))
    obtain ⟨h44, h⟩ | ⟨h44, h⟩ := den_if h
    · cases h; exact (o2_.b h44).ret hΓ
    · obtain ⟨y45, h46, h⟩ := den_bind h
      obtain ⟨h47, h⟩ := den_ok h
      exact (((((o2_.b h44).l (map_row Fact.c 2 (dc hd1) rfl)).g (d_spec_FormatFact_good h46)).w (room_ok h47)).a [.cn [0, 3, 4] [2]]).cs hΓ hS1 (d_spec_FormatFacts_S1 a0_ (((w1_0).map tx) ++ ([[D.str (y45)]])) (IntKind.i64.wrap (((i1 : Int)) + (1)))) (by first | (simp only [iS hd1 hm1, mA] <;> rfl) | (simp only [iS hd1 hm1, mA, Fact.c, Pair.c, Cond.c, Action.c, Rule.c, Token.c, Match.c, Alpha.c, Node.c, Network.c, Stamp.c] <;> rfl)) (ih1 (i1 + 1) ((w1_0) ++ ([y45])) (dn hd1) h)
theorem d_spec_FormatFacts_good {a0_ : List Fact} {r : Bytes} (h : d_spec_FormatFacts a0_ = some r) : Good Tryd.prog 25 [D.sl ((a0_).map Fact.c)] (D.str (r)) := by
  refine gd Tryd.func25 [[none]] 31 fun hr Γ hΓ => ?_
  rw [d_spec_FormatFacts] at h
  refine (pre0.a [.cn [0, 3, 4] [0]]).lp hΓ (d_spec_FormatFacts_L1w hΓ (fun q1_0 h => ?_) (by have := (Rdb.sl (hr _ (List.mem_of_getElem? (i := 0) rfl))).1; simpa using this) (a0_) 0 (([] : List Bytes)) rfl h)
  obtain ⟨h48, h⟩ | ⟨h48, h⟩ := den_if h
  · cases h; exact (pre0.b h48).ret hΓ
  · obtain ⟨y49, h50, h⟩ := den_bind h
    have h := den_some h; subst h; exact ((pre0.b h48).g (d_spec_Join_good h50)).ret hΓ
def d_spec_FormatMatch (a0_ : Match) : Option Bytes := ((d_spec_FormatFacts (a0_.facts)).bind fun y1 => ((d_spec_IsName (a0_.rule)).bind fun y3 => (bif !(y3) then (some ([])) else (bif (y1 : Bytes) == ([]) then (some ([])) else (bif decide ((a0_.rule : Bytes).length + ([58, 32] : Bytes).length ≤ maxLen) then (bif decide (((a0_.rule) ++ ([58, 32]) : Bytes).length + (y1 : Bytes).length ≤ maxLen) then (some (((a0_.rule) ++ ([58, 32])) ++ (y1))) else none) else none)))))
theorem d_spec_FormatMatch_good {a0_ : Match} {r : Bytes} (h : d_spec_FormatMatch a0_ = some r) : Good Tryd.prog 11 [D.agg (Match.c a0_)] (D.str (r)) := by
  refine gd Tryd.func11 [[none]] 20 fun hr Γ hΓ => ?_
  rw [d_spec_FormatMatch] at h
  obtain ⟨y1, h2, h⟩ := den_bind h
  obtain ⟨y3, h4, h⟩ := den_bind h
  have o1_ := ((pre0.g (d_spec_FormatFacts_good h2)).g (d_spec_IsName_good h4))
  obtain ⟨h5, h⟩ | ⟨h5, h⟩ := den_if h
  · cases h; exact ((o1_.r 3 h5).T 1).ret hΓ
  · have o2_ := (o1_.r 3 h5)
    obtain ⟨h6, h⟩ | ⟨h6, h⟩ := den_if h
    · cases h; exact (o2_.b h6).ret hΓ
    · obtain ⟨h7, h⟩ := den_ok h
      obtain ⟨h8, h⟩ := den_ok h
      cases h; exact (((o2_.b h6).w (of_decide_eq_true h7)).w (of_decide_eq_true h8)).rts hΓ (D.str (((a0_.rule) ++ ([58, 32])) ++ (y1))) (by first | rfl | (simp only [mA] <;> rfl))
def d_spec_Falling_L2 (a0_ : List Int) (i1 : Nat) (x1_ : Int) (k2 : Int → List Int → Option (List Int)) : Nat → Int → List Int → Option (List Int)
  | 0, _, _ => none
  | n2 + 1, v2_5, w2_0 => (bif decide ((v2_5 : Int) > (0)) then ((atI (w2_0) (IntKind.i64.wrap ((v2_5) - (1)))).bind fun x161 => (bif decide ((x161 : Int) < (x1_)) then ((atI (w2_0) (v2_5)).bind fun x164 => (d_spec_Falling_L2 a0_ i1 x1_ k2 n2 (IntKind.i64.wrap ((v2_5) - (1))) ((w2_0).set (v2_5).toNat x161))) else (k2 (v2_5) (w2_0)))) else (k2 (v2_5) (w2_0)))
def d_spec_Falling_L1 (a0_ : List Int) (k1 : List Int → Option (List Int)) : List Int → Nat → List Int → Option (List Int)
  | [], i1, w1_0 => (k1 (w1_0))
  | x1_ :: xs1, i1, w1_0 => (bif room (((w1_0).map ixx).length + ([[D.int .i64 (x1_)]]).length) 8 then (d_spec_Falling_L2 a0_ i1 x1_ (fun (z2_5 : Int) (q2_0 : List Int) => ((atI (q2_0) (z2_5)).bind fun x166 => (d_spec_Falling_L1 a0_ k1 xs1 (i1 + 1) ((q2_0).set (z2_5).toNat x1_)))) fuel ((((w1_0).map ixx).length : Int)) ((w1_0) ++ ([x1_]))) else none)
def d_spec_Falling (a0_ : List Int) : Option (List Int) := (d_spec_Falling_L1 a0_ (fun (q1_0 : List Int) => (some (q1_0))) (a0_) 0 (([] : List Int)))
def d_spec_Falling_S1 (a0_ : List Int) (W0 : List (List D)) (ix_ : Int) : St := ⟨[(0, D.sl ((a0_).map ixx)), (3, D.acc 0), (4, D.int .i64 (ix_))], [Ob.row .uq 3 1 (W0)]⟩
def d_spec_Falling_S2 (a0_ : List Int) (i1 : Nat) (v2_5 : Int) (W1 : List (List D)) : St := ⟨[(0, D.sl ((a0_).map ixx)), (3, D.acc 0), (4, D.int .i64 ((i1 : Int))), (5, D.int .i64 (v2_5))], [Ob.row .uq 3 1 (W1)]⟩
theorem d_spec_Falling_L2w (hΓ : Γ.nt = 54) {a0_ : List Int} {i1 : Nat} {x1_ : Int} {r : List Int} {k2 : Int → List Int → Option (List Int)} (hE2 : ∀ (z2_5 : Int) (q2_0 : List Int), k2 z2_5 q2_0 = some r → Ax Γ N Tryd.f12 (.q [[some (3, 1)]] (D.fr 3 1 ((r).map ixx))) [1, 1, 0, 1, 0, 0, 1, 0, 0, 1, 1, 1] ⟨[(0, D.sl ((a0_).map ixx)), (3, D.acc 0), (4, D.int .i64 ((i1 : Int))), (5, D.int .i64 (z2_5))], [Ob.row .uq 3 1 ((q2_0).map ixx)]⟩) (hx1 : (a0_)[i1]? = some x1_) : ∀ (n2 : Nat) (v2_5 : Int) (w2_0 : List Int), d_spec_Falling_L2 a0_ i1 x1_ k2 n2 v2_5 w2_0 = some r → Ar Γ N Tryd.f12 (.q [[some (3, 1)]] (D.fr 3 1 ((r).map ixx))) [1, 1, 0, 1, 0, 0, 1, 0, 0, 1, 1, 0, 0] n2 (d_spec_Falling_S2 a0_ i1 v2_5 ((w2_0).map ixx)) := by
  intro n
  induction n with
  | zero => intro v2_5 w2_0 h; simp [d_spec_Falling_L2] at h
  | succ n2 ih2 =>
    intro v2_5 w2_0 h
    rw [d_spec_Falling_L2] at h
    refine AWr_succ fun N2 hN2 hS2 => ?_
    obtain ⟨h160, h⟩ | ⟨h160, h⟩ := den_if h
    · obtain ⟨x161, h162, h⟩ := den_bind h
      have o12_ := ((((((((pre0.a [.n 12]).r 4 h160).i (own_at ixx 1 h162)).b h160).o 1 1 .uq (map_get ixx (atI_get h162))).r 3 h160).l (map_row ixx 1 hx1 rfl)).r 3 h160)
      obtain ⟨h163, h⟩ | ⟨h163, h⟩ := den_if h
      · obtain ⟨x164, h165, h⟩ := den_bind h
        exact ((((((o12_.b h163).i (own_at ixx 1 h162)).o 1 1 .uq (map_get ixx (atI_get h162))).i (own_at ixx 1 h165)).w (show ((w2_0).map ixx)[(v2_5).toNat]? = some [D.int .i64 (x164)] from map_get ixx (atI_get h165))).a [.row [D.int .i64 (x164)], .cn [0, 3, 4, 5] [0]]).cs hΓ hS2 (d_spec_Falling_S2 a0_ i1 (IntKind.i64.wrap ((v2_5) - (1))) (((w2_0).map ixx).set (v2_5).toNat [D.int .i64 (x161)])) (by first | (simp only [mA] <;> rfl) | (simp only [mA, Fact.c, Pair.c, Cond.c, Action.c, Rule.c, Token.c, Match.c, Alpha.c, Node.c, Network.c, Stamp.c] <;> rfl)) (ih2 (IntKind.i64.wrap ((v2_5) - (1))) ((w2_0).set (v2_5).toNat x161) h)
      · exact ((o12_.b h163).a [.hl 5 [0, 3, 4, 5] [0]]).ex hΓ hN2 (hE2 (v2_5) (w2_0) h)
    · exact ((((pre0.a [.n 12]).r 11 h160).F 1).a [.hl 5 [0, 3, 4, 5] [0]]).ex hΓ hN2 (hE2 (v2_5) (w2_0) h)
theorem d_spec_Falling_L1w (hΓ : Γ.nt = 54) {a0_ : List Int} {r : List Int} {k1 : List Int → Option (List Int)} (hE1 : ∀ (q1_0 : List Int), k1 q1_0 = some r → Ax Γ N Tryd.f12 (.q [[some (3, 1)]] (D.fr 3 1 ((r).map ixx))) [1, 1, 1] ⟨[(3, D.acc 0)], [Ob.row .uq 3 1 ((q1_0).map ixx)]⟩) (hm1 : (a0_).length ≤ maxLen) : ∀ (rest : List Int) (i1 : Nat) (w1_0 : List Int), (a0_).drop i1 = rest → d_spec_Falling_L1 a0_ k1 rest i1 w1_0 = some r → Ar Γ N Tryd.f12 (.q [[some (3, 1)]] (D.fr 3 1 ((r).map ixx))) [1, 1, 0, 1, 0] (rest.length + 1) (d_spec_Falling_S1 a0_ ((w1_0).map ixx) ((i1 : Int))) := by
  intro rest
  induction rest with
  | nil =>
    intro i1 w1_0 hd1 h
    rw [d_spec_Falling_L1] at h
    refine AWr_succ fun N1 hN1 hS1 => ?_
    exact ((pre0.ge ixx hd1).a [.hl 0 [3] [0]]).ex hΓ hN1 (hE1 (w1_0) h)
  | cons x1_ xs1 ih1 =>
    intro i1 w1_0 hd1 h
    rw [d_spec_Falling_L1] at h
    refine AWr_succ fun N1 hN1 hS1 => ?_
    obtain ⟨h146, h⟩ := den_ok h
    refine ((((pre0.lt ixx hd1).l (map_row ixx 1 (dc hd1) rfl)).w (room_ok h146)).a [.cn [0, 3, 4, 5] [2]]).lps hΓ (d_spec_Falling_S2 a0_ i1 ((((w1_0).map ixx).length : Int)) (((w1_0).map ixx) ++ ([[D.int .i64 (x1_)]]))) (by first | (simp only [mA] <;> rfl) | (simp only [mA, Fact.c, Pair.c, Cond.c, Action.c, Rule.c, Token.c, Match.c, Alpha.c, Node.c, Network.c, Stamp.c] <;> rfl)) (d_spec_Falling_L2w hΓ (fun z2_5 q2_0 h => ?_) ((drop_cons hd1).1) fuel ((((w1_0).map ixx).length : Int)) ((w1_0) ++ ([x1_])) h)
    obtain ⟨x166, h167, h⟩ := den_bind h
    exact ((((pre0.l (map_row ixx 1 (dc hd1) rfl)).i (own_at ixx 1 h167)).w (show ((q2_0).map ixx)[(z2_5).toNat]? = some [D.int .i64 (x166)] from map_get ixx (atI_get h167))).a [.row [D.int .i64 (x166)], .cn [0, 3, 4] [0]]).cs hΓ hS1 (d_spec_Falling_S1 a0_ (((q2_0).map ixx).set (z2_5).toNat [D.int .i64 (x1_)]) (IntKind.i64.wrap (((i1 : Int)) + (1)))) (by first | (simp only [iS hd1 hm1, mA] <;> rfl) | (simp only [iS hd1 hm1, mA, Fact.c, Pair.c, Cond.c, Action.c, Rule.c, Token.c, Match.c, Alpha.c, Node.c, Network.c, Stamp.c] <;> rfl)) (ih1 (i1 + 1) ((q2_0).set (z2_5).toNat x1_) (dn hd1) h)
theorem d_spec_Falling_good {a0_ : List Int} {r : List Int} (h : d_spec_Falling a0_ = some r) : Good Tryd.prog 12 [D.sl ((a0_).map ixx)] (D.fr 3 1 ((r).map ixx)) := by
  refine gd Tryd.func12 [[some (3, 1)]] 54 fun hr Γ hΓ => ?_
  rw [d_spec_Falling] at h
  refine (pre0.a [.cn [0, 3, 4] [0]]).lp hΓ (d_spec_Falling_L1w hΓ (fun q1_0 h => ?_) (by have := (Rdb.sl (hr _ (List.mem_of_getElem? (i := 0) rfl))).1; simpa using this) (a0_) 0 (([] : List Int)) rfl h)
  have h := den_some h; subst h; exact pre0.ret hΓ
def d_spec_FormatInt_R_L1  (k1 : Option Bytes) : Nat → Int → Bytes → Option Bytes
  | 0, _, _ => none
  | n1 + 1, v1_0, v1_3 => (bif decide (0 ≤ (v1_0 : Int)) && decide (0 < (10 : Int)) then (bif decide (([UInt8.ofNat (IntKind.u8.wrap (IntKind.i64.wrap ((48) + ((v1_0 : Int) % (10))))).toNat] : Bytes).length + (v1_3 : Bytes).length ≤ maxLen) then (bif decide (0 ≤ (v1_0 : Int)) && decide (0 < (10 : Int)) then (bif ((v1_0 : Int) / (10) : Int) == (0) then (some (([UInt8.ofNat (IntKind.u8.wrap (IntKind.i64.wrap ((48) + ((v1_0 : Int) % (10))))).toNat]) ++ (v1_3))) else (d_spec_FormatInt_R_L1  k1 n1 ((v1_0 : Int) / (10)) (([UInt8.ofNat (IntKind.u8.wrap (IntKind.i64.wrap ((48) + ((v1_0 : Int) % (10))))).toNat]) ++ (v1_3)))) else none) else none) else none)
def d_spec_FormatInt_R : Nat → Int → Option Bytes
  | 0, _ => none
  | m_ + 1, a0_ => (bif (a0_ : Int) == (-9223372036854775808) then (some ([45, 57, 50, 50, 51, 51, 55, 50, 48, 51, 54, 56, 53, 52, 55, 55, 53, 56, 48, 56])) else (bif decide ((a0_ : Int) < (0)) then ((d_spec_FormatInt_R m_ (IntKind.i64.wrap (0 - (a0_)))).bind fun y3 => (bif decide (([45] : Bytes).length + (y3 : Bytes).length ≤ maxLen) then (some (([45]) ++ (y3))) else none)) else (d_spec_FormatInt_R_L1  none fuel (a0_) ([]))))
def d_spec_FormatInt_R_S1 (v1_0 : Int) (v1_3 : Bytes) : St := ⟨[(0, D.int .i64 (v1_0)), (3, D.str (v1_3))], []⟩
theorem d_spec_FormatInt_R_L1w (hΓ : Γ.nt = 25)  {r : Bytes} {k1 : Option Bytes} (hE1 : k1 = some r → Ax Γ N Tryd.f13 (.q [[none]] (D.str (r))) [1, 1, 1, 1, 0, 0] ⟨[], []⟩) : ∀ (n1 : Nat) (v1_0 : Int) (v1_3 : Bytes), d_spec_FormatInt_R_L1  k1 n1 v1_0 v1_3 = some r → Ar Γ N Tryd.f13 (.q [[none]] (D.str (r))) [1, 1, 1, 1, 0] n1 (d_spec_FormatInt_R_S1 v1_0 v1_3) := by
  intro n
  induction n with
  | zero => intro v1_0 v1_3 h; simp [d_spec_FormatInt_R_L1] at h
  | succ n1 ih1 =>
    intro v1_0 v1_3 h
    rw [d_spec_FormatInt_R_L1] at h
    refine AWr_succ fun N1 hN1 hS1 => ?_
    obtain ⟨h14, h⟩ := den_ok h
    obtain ⟨h15, h⟩ := den_ok h
    obtain ⟨h16, h⟩ := den_ok h
    have o2_ := (((pre0.w (quo_ok .i64 h14)).w (of_decide_eq_true h15)).w (quo_ok .i64 h16))
    obtain ⟨h17, h⟩ | ⟨h17, h⟩ := den_if h
    · cases h; exact (o2_.b h17).rts hΓ (D.str (([UInt8.ofNat (IntKind.u8.wrap (IntKind.i64.wrap ((48) + ((v1_0 : Int) % (10))))).toNat]) ++ (v1_3))) (by first | rfl | (simp only [mA] <;> rfl))
    · exact ((o2_.b h17).a [.cn [0, 3] []]).cf hΓ hS1 (ih1 ((v1_0 : Int) / (10)) (([UInt8.ofNat (IntKind.u8.wrap (IntKind.i64.wrap ((48) + ((v1_0 : Int) % (10))))).toNat]) ++ (v1_3)) h)
theorem d_spec_FormatInt_R_step {m_ : Nat} (ihR : ∀ {a0_ : Int} {r : Bytes}, d_spec_FormatInt_R m_ a0_ = some r → Good Tryd.prog 13 [D.int .i64 (a0_)] (D.str (r))) {a0_ : Int} {r : Bytes} (h : d_spec_FormatInt_R (m_ + 1) a0_ = some r) : Good Tryd.prog 13 [D.int .i64 (a0_)] (D.str (r)) := by
  refine gd Tryd.func13 [[none]] 25 fun hr Γ hΓ => ?_
  rw [d_spec_FormatInt_R] at h
  obtain ⟨h1, h⟩ | ⟨h1, h⟩ := den_if h
  · cases h; exact (pre0.b h1).ret hΓ
  · obtain ⟨h2, h⟩ | ⟨h2, h⟩ := den_if h
    · obtain ⟨y3, h4, h⟩ := den_bind h
      obtain ⟨h5, h⟩ := den_ok h
      cases h; exact ((((pre0.b h1).b h2).g (ihR h4)).w (of_decide_eq_true h5)).rts hΓ (D.str (([45]) ++ (y3))) (by first | rfl | (simp only [mA] <;> rfl))
    · refine (((pre0.b h1).b h2).a [.cn [0, 3] []]).lp hΓ (d_spec_FormatInt_R_L1w hΓ (fun h => ?_) fuel (a0_) ([]) h)
      cases h
theorem d_spec_FormatInt_R_good : ∀ (m_ : Nat) {a0_ : Int} {r : Bytes}, d_spec_FormatInt_R m_ a0_ = some r → Good Tryd.prog 13 [D.int .i64 (a0_)] (D.str (r))
  | 0, _, _, h => by cases h
  | m_ + 1, _, _, h => d_spec_FormatInt_R_step (fun h => d_spec_FormatInt_R_good m_ h) h
def d_spec_FormatInt (a0_ : Int) : Option Bytes := d_spec_FormatInt_R fuel a0_
theorem d_spec_FormatInt_good {a0_ : Int} {r : Bytes} (h : d_spec_FormatInt a0_ = some r) : Good Tryd.prog 13 [D.int .i64 (a0_)] (D.str (r)) := d_spec_FormatInt_R_good fuel h
def d_spec_ChoiceLine_L1 (a0_ : Choice) (y1 : Bytes) (y4 : List Int) (k1 : List Bytes → Option Bytes) : List Int → Nat → List Bytes → Option Bytes
  | [], i1, w1_1 => (k1 (w1_1))
  | x1_ :: xs1, i1, w1_1 => ((d_spec_FormatInt (x1_)).bind fun y33 => (bif room (((w1_1).map tx).length + ([[D.str (y33)]]).length) 16 then (d_spec_ChoiceLine_L1 a0_ y1 y4 k1 xs1 (i1 + 1) ((w1_1) ++ ([y33]))) else none))
def d_spec_ChoiceLine (a0_ : Choice) : Option Bytes := ((d_spec_FormatMatch (a0_.mtch)).bind fun y1 => (bif (y1 : Bytes) == ([]) then (some ([])) else ((d_spec_Falling (a0_.times)).bind fun y4 => (bif decide ((y4).length ≤ maxLen) then (d_spec_ChoiceLine_L1 a0_ y1 y4 (fun (q1_1 : List Bytes) => (bif decide ((y1 : Bytes).length + ([32, 40] : Bytes).length ≤ maxLen) then ((d_spec_FormatInt (a0_.prio)).bind fun y37 => (bif decide (((y1) ++ ([32, 40]) : Bytes).length + (y37 : Bytes).length ≤ maxLen) then (bif decide ((((y1) ++ ([32, 40])) ++ (y37) : Bytes).length + ([59, 32] : Bytes).length ≤ maxLen) then ((d_spec_Join (q1_1) ([44])).bind fun y41 => (bif decide (((((y1) ++ ([32, 40])) ++ (y37)) ++ ([59, 32]) : Bytes).length + (y41 : Bytes).length ≤ maxLen) then (bif decide ((((((y1) ++ ([32, 40])) ++ (y37)) ++ ([59, 32])) ++ (y41) : Bytes).length + ([59, 32] : Bytes).length ≤ maxLen) then ((d_spec_FormatInt (a0_.spec)).bind fun y45 => (bif decide (((((((y1) ++ ([32, 40])) ++ (y37)) ++ ([59, 32])) ++ (y41)) ++ ([59, 32]) : Bytes).length + (y45 : Bytes).length ≤ maxLen) then (bif decide ((((((((y1) ++ ([32, 40])) ++ (y37)) ++ ([59, 32])) ++ (y41)) ++ ([59, 32])) ++ (y45) : Bytes).length + ([41] : Bytes).length ≤ maxLen) then (some ((((((((y1) ++ ([32, 40])) ++ (y37)) ++ ([59, 32])) ++ (y41)) ++ ([59, 32])) ++ (y45)) ++ ([41]))) else none) else none)) else none) else none)) else none) else none)) else none)) (y4) 0 (([] : List Bytes))) else none))))
def d_spec_ChoiceLine_S1 (a0_ : Choice) (y1 : Bytes) (y4 : List Int) (W0 : List (List D)) (ix_ : Int) : St := ⟨[(1, D.ptr 0 0), (3, D.str (y1)), (4, D.acc 1), (5, D.acc 2), (6, D.int .i64 (ix_))], [Ob.box (Choice.c a0_), Ob.row .uq 9 1 (W0), Ob.row .uq 3 1 ((y4).map ixx)]⟩
theorem d_spec_ChoiceLine_L1w (hΓ : Γ.nt = 46) {a0_ : Choice} {y1 : Bytes} {y4 : List Int} {r : Bytes} {k1 : List Bytes → Option Bytes} (hE1 : ∀ (q1_1 : List Bytes), k1 q1_1 = some r → Ax Γ N Tryd.f5 (.q [[none]] (D.str (r))) [1, 1, 1, 1, 1, 1] ⟨[(1, D.ptr 0 0), (3, D.str (y1)), (4, D.acc 1)], [Ob.box (Choice.c a0_), Ob.row .uq 9 1 ((q1_1).map tx)]⟩) (hm1 : (y4).length ≤ maxLen) : ∀ (rest : List Int) (i1 : Nat) (w1_1 : List Bytes), (y4).drop i1 = rest → d_spec_ChoiceLine_L1 a0_ y1 y4 k1 rest i1 w1_1 = some r → Ar Γ N Tryd.f5 (.q [[none]] (D.str (r))) [1, 1, 1, 1, 1, 0, 1, 0] (rest.length + 1) (d_spec_ChoiceLine_S1 a0_ y1 y4 ((w1_1).map tx) ((i1 : Int))) := by
  intro rest
  induction rest with
  | nil =>
    intro i1 w1_1 hd1 h
    rw [d_spec_ChoiceLine_L1] at h
    refine AWr_succ fun N1 hN1 hS1 => ?_
    exact ((pre0.ge ixx hd1).a [.hl 0 [1, 3, 4] [0, 1]]).ex hΓ hN1 (hE1 (w1_1) h)
  | cons x1_ xs1 ih1 =>
    intro i1 w1_1 hd1 h
    rw [d_spec_ChoiceLine_L1] at h
    refine AWr_succ fun N1 hN1 hS1 => ?_
    obtain ⟨y33, h34, h⟩ := den_bind h
    obtain ⟨h35, h⟩ := den_ok h
    exact ((((((pre0.lt ixx hd1).i (own_ixl ixx 1 (dc hd1))).o 1 1 .uq (map_get ixx (dc hd1))).g (d_spec_FormatInt_good h34)).w (room_ok h35)).a [.cn [1, 3, 4, 5, 6] [0, 4, 2]]).cs hΓ hS1 (d_spec_ChoiceLine_S1 a0_ y1 y4 (((w1_1).map tx) ++ ([[D.str (y33)]])) (IntKind.i64.wrap (((i1 : Int)) + (1)))) (by first | (simp only [iS hd1 hm1, mA] <;> rfl) | (simp only [iS hd1 hm1, mA, Fact.c, Pair.c, Cond.c, Action.c, Rule.c, Token.c, Match.c, Alpha.c, Node.c, Network.c, Stamp.c] <;> rfl)) (ih1 (i1 + 1) ((w1_1) ++ ([y33])) (dn hd1) h)
theorem d_spec_ChoiceLine_good {a0_ : Choice} {r : Bytes} (h : d_spec_ChoiceLine a0_ = some r) : Good Tryd.prog 5 [D.agg (Choice.c a0_)] (D.str (r)) := by
  refine gd Tryd.func5 [[none]] 46 fun hr Γ hΓ => ?_
  rw [d_spec_ChoiceLine] at h
  obtain ⟨y1, h2, h⟩ := den_bind h
  obtain ⟨h3, h⟩ | ⟨h3, h⟩ := den_if h
  · cases h; exact ((pre0.g (d_spec_FormatMatch_good h2)).b h3).ret hΓ
  · obtain ⟨y4, h5, h⟩ := den_bind h
    obtain ⟨h49, h⟩ := den_ok h
    refine ((((pre0.g (d_spec_FormatMatch_good h2)).b h3).g (d_spec_Falling_good h5)).a [.cn [1, 3, 4, 5, 6] [0, 1, 2]]).lp hΓ (d_spec_ChoiceLine_L1w hΓ (fun q1_1 h => ?_) (of_decide_eq_true h49) (y4) 0 (([] : List Bytes)) rfl h)
    obtain ⟨h36, h⟩ := den_ok h
    obtain ⟨y37, h38, h⟩ := den_bind h
    obtain ⟨h39, h⟩ := den_ok h
    obtain ⟨h40, h⟩ := den_ok h
    obtain ⟨y41, h42, h⟩ := den_bind h
    obtain ⟨h43, h⟩ := den_ok h
    obtain ⟨h44, h⟩ := den_ok h
    obtain ⟨y45, h46, h⟩ := den_bind h
    obtain ⟨h47, h⟩ := den_ok h
    obtain ⟨h48, h⟩ := den_ok h
    cases h; exact (((((((((((pre0.w (of_decide_eq_true h36)).a [.n 14]).g (d_spec_FormatInt_good h38)).w (of_decide_eq_true h39)).w (of_decide_eq_true h40)).g (d_spec_Join_good h42)).w (of_decide_eq_true h43)).w (of_decide_eq_true h44)).g (d_spec_FormatInt_good h46)).w (of_decide_eq_true h47)).w (of_decide_eq_true h48)).rts hΓ (D.str ((((((((y1) ++ ([32, 40])) ++ (y37)) ++ ([59, 32])) ++ (y41)) ++ ([59, 32])) ++ (y45)) ++ ([41]))) (by first | rfl | (simp only [mA] <;> rfl))
def d_impl_IsAtom_L1 (a0_ : Bytes) (k1 : Option Bool) : Nat → Int → Option Bool
  | 0, _ => none
  | n1 + 1, v1_3 => (bif decide ((v1_3 : Int) < (((a0_).length : Int))) then ((atI (a0_) (v1_3)).bind fun b31 => (bif decide ((b31.toNat : Int) < (97)) then (bif decide ((b31.toNat : Int) < (48)) then (some (false)) else (bif decide ((b31.toNat : Int) > (57)) then (some (false)) else (d_impl_IsAtom_L1 a0_ k1 n1 (IntKind.i64.wrap ((v1_3) + (1)))))) else (bif decide ((b31.toNat : Int) > (122)) then (bif decide ((b31.toNat : Int) < (48)) then (some (false)) else (bif decide ((b31.toNat : Int) > (57)) then (some (false)) else (d_impl_IsAtom_L1 a0_ k1 n1 (IntKind.i64.wrap ((v1_3) + (1)))))) else (d_impl_IsAtom_L1 a0_ k1 n1 (IntKind.i64.wrap ((v1_3) + (1))))))) else (k1 ))
def d_impl_IsAtom (a0_ : Bytes) : Option Bool := (bif decide ((((a0_).length : Int) : Int) < (1)) then (some (false)) else (bif decide ((((a0_).length : Int) : Int) > (8)) then (some (false)) else (d_impl_IsAtom_L1 a0_ (some (true)) fuel (0))))
def d_impl_IsAtom_S1 (a0_ : Bytes) (v1_3 : Int) : St := ⟨[(0, D.str (a0_)), (3, D.int .i64 (v1_3))], []⟩
theorem d_impl_IsAtom_L1w (hΓ : Γ.nt = 40) {a0_ : Bytes} {r : Bool} {k1 : Option Bool} (hE1 : k1 = some r → Ax Γ N Tryd.f48 (.q [[none]] (D.bool (r))) [1, 1, 1] ⟨[], []⟩) : ∀ (n1 : Nat) (v1_3 : Int), d_impl_IsAtom_L1 a0_ k1 n1 v1_3 = some r → Ar Γ N Tryd.f48 (.q [[none]] (D.bool (r))) [1, 1, 0, 1, 0] n1 (d_impl_IsAtom_S1 a0_ v1_3) := by
  intro n
  induction n with
  | zero => intro v1_3 h; simp [d_impl_IsAtom_L1] at h
  | succ n1 ih1 =>
    intro v1_3 h
    rw [d_impl_IsAtom_L1] at h
    refine AWr_succ fun N1 hN1 hS1 => ?_
    obtain ⟨h30, h⟩ | ⟨h30, h⟩ := den_if h
    · obtain ⟨b31, h32, h⟩ := den_bind h
      have o7_ := ((pre0.b h30).c h32)
      obtain ⟨h33, h⟩ | ⟨h33, h⟩ := den_if h
      · have o8_ := ((((o7_.r 5 h33).T 3).c h32).T 2)
        obtain ⟨h34, h⟩ | ⟨h34, h⟩ := den_if h
        · have h := den_some h; subst h; exact ((((o8_.r 4 h34).T 1).b h34).T 2).ret hΓ
        · have o9_ := ((((((o8_.r 3 h34).c h32).b h34).T 1).b h34).T 1)
          obtain ⟨h35, h⟩ | ⟨h35, h⟩ := den_if h
          · have h := den_some h; subst h; exact (o9_.b h35).ret hΓ
          · exact ((o9_.b h35).a [.cn [0, 3] []]).cf hΓ hS1 (ih1 (IntKind.i64.wrap ((v1_3) + (1))) h)
      · have o10_ := (((o7_.r 3 h33).c h32).r 2 h33)
        obtain ⟨h36, h⟩ | ⟨h36, h⟩ := den_if h
        · have o11_ := (((o10_.r 3 h36).c h32).r 2 h36)
          obtain ⟨h37, h⟩ | ⟨h37, h⟩ := den_if h
          · have h := den_some h; subst h; exact (((((o11_.r 4 h37).b h36).b h37).b h36).T 1).ret hΓ
          · have o12_ := ((((((o11_.r 3 h37).c h32).b h37).b h36).b h37).b h36)
            obtain ⟨h38, h⟩ | ⟨h38, h⟩ := den_if h
            · have h := den_some h; subst h; exact (o12_.b h38).ret hΓ
            · exact ((o12_.b h38).a [.cn [0, 3] []]).cf hΓ hS1 (ih1 (IntKind.i64.wrap ((v1_3) + (1))) h)
        · exact (((o10_.r 7 h36).F 1).a [bF, bF, bF, bF, .cn [0, 3] []]).cf hΓ hS1 (ih1 (IntKind.i64.wrap ((v1_3) + (1))) h)
    · exact ((pre0.b h30).a [.hl 0 [] []]).ex hΓ hN1 (hE1 h)
theorem d_impl_IsAtom_good {a0_ : Bytes} {r : Bool} (h : d_impl_IsAtom a0_ = some r) : Good Tryd.prog 48 [D.str (a0_)] (D.bool (r)) := by
  refine gd Tryd.func48 [[none]] 40 fun hr Γ hΓ => ?_
  rw [d_impl_IsAtom] at h
  obtain ⟨h1, h⟩ | ⟨h1, h⟩ := den_if h
  · have h := den_some h; subst h; exact ((pre0.r 4 h1).T 1).ret hΓ
  · have o13_ := (pre0.r 4 h1)
    obtain ⟨h2, h⟩ | ⟨h2, h⟩ := den_if h
    · have h := den_some h; subst h; exact (o13_.b h2).ret hΓ
    · refine ((o13_.b h2).a [.cn [0, 3] []]).lp hΓ (d_impl_IsAtom_L1w hΓ (fun h => ?_) fuel (0) h)
      have h := den_some h; subst h; exact pre0.ret hΓ
def d_impl_IsName (a0_ : Bytes) : Option Bool := ((d_impl_IsAtom (a0_)).bind fun y1 => (bif y1 then ((atI (a0_) (0)).bind fun b4 => (some (decide ((b4.toNat : Int) ≥ (97))))) else (some (false))))
theorem d_impl_IsName_good {a0_ : Bytes} {r : Bool} (h : d_impl_IsName a0_ = some r) : Good Tryd.prog 30 [D.str (a0_)] (D.bool (r)) := by
  refine gd Tryd.func30 [[none]] 10 fun hr Γ hΓ => ?_
  rw [d_impl_IsName] at h
  obtain ⟨y1, h2, h⟩ := den_bind h
  obtain ⟨h3, h⟩ | ⟨h3, h⟩ := den_if h
  · obtain ⟨b4, h5, h⟩ := den_bind h
    cases h; exact ((((pre0.g (d_impl_IsAtom_good h2)).r 2 h3).c h5).r 2 h3).ret hΓ
  · have h := den_some h; subst h; exact ((pre0.g (d_impl_IsAtom_good h2)).r 4 h3).ret hΓ
def d_impl_IsFact_L1 (a0_ : Fact) (k1 : Option Bool) : List Bytes → Nat → Option Bool
  | [], i1 => (k1 )
  | x1_ :: xs1, i1 => ((d_impl_IsAtom (x1_)).bind fun y25 => (bif !(y25) then (some (false)) else (d_impl_IsFact_L1 a0_ k1 xs1 (i1 + 1) )))
def d_impl_IsFact (a0_ : Fact) : Option Bool := ((d_impl_IsName (a0_.rel)).bind fun y1 => (bif !(y1) then (some (false)) else (bif decide (((((a0_.args).map tx).length : Int) : Int) > (3)) then (some (false)) else (d_impl_IsFact_L1 a0_ (some (true)) (a0_.args) 0 ))))
def d_impl_IsFact_S1 (a0_ : Fact) (ix_ : Int) : St := ⟨[(16, D.sl ((a0_.args).map tx)), (17, D.int .i64 ((((a0_.args).map tx).length : Int))), (18, D.int .i64 (ix_))], []⟩
theorem d_impl_IsFact_L1w (hΓ : Γ.nt = 26) {a0_ : Fact} {r : Bool} {k1 : Option Bool} (hE1 : k1 = some r → Ax Γ N Tryd.f46 (.q [[none]] (D.bool (r))) [1, 1, 1] ⟨[], []⟩) (hm1 : (a0_.args).length ≤ maxLen) : ∀ (rest : List Bytes) (i1 : Nat) , (a0_.args).drop i1 = rest → d_impl_IsFact_L1 a0_ k1 rest i1  = some r → Ar Γ N Tryd.f46 (.q [[none]] (D.bool (r))) [1, 1, 0, 1, 0] (rest.length + 1) (d_impl_IsFact_S1 a0_ ((i1 : Int))) := by
  intro rest
  induction rest with
  | nil =>
    intro i1  hd1 h
    rw [d_impl_IsFact_L1] at h
    refine AWr_succ fun N1 hN1 hS1 => ?_
    exact ((pre0.ge tx hd1).a [.hl 0 [] []]).ex hΓ hN1 (hE1 h)
  | cons x1_ xs1 ih1 =>
    intro i1  hd1 h
    rw [d_impl_IsFact_L1] at h
    refine AWr_succ fun N1 hN1 hS1 => ?_
    obtain ⟨y25, h26, h⟩ := den_bind h
    have o2_ := (((pre0.lt tx hd1).l (map_row tx 1 (dc hd1) rfl)).g (d_impl_IsAtom_good h26))
    obtain ⟨h27, h⟩ | ⟨h27, h⟩ := den_if h
    · have h := den_some h; subst h; exact (o2_.b h27).ret hΓ
    · exact ((o2_.b h27).a [.cn [16, 17, 18] []]).ct hΓ hS1 (iS hd1 hm1) (ih1 (i1 + 1)  (dn hd1) h)
theorem d_impl_IsFact_good {a0_ : Fact} {r : Bool} (h : d_impl_IsFact a0_ = some r) : Good Tryd.prog 46 [D.agg (Fact.c a0_)] (D.bool (r)) := by
  refine gd Tryd.func46 [[none]] 26 fun hr Γ hΓ => ?_
  rw [d_impl_IsFact] at h
  obtain ⟨y1, h2, h⟩ := den_bind h
  obtain ⟨h3, h⟩ | ⟨h3, h⟩ := den_if h
  · have h := den_some h; subst h; exact (((pre0.g (d_impl_IsName_good h2)).r 5 h3).T 1).ret hΓ
  · have o3_ := ((pre0.g (d_impl_IsName_good h2)).r 5 h3)
    obtain ⟨h4, h⟩ | ⟨h4, h⟩ := den_if h
    · have h := den_some h; subst h; exact (o3_.b h4).ret hΓ
    · refine ((o3_.b h4).a [.cn [16, 17, 18] []]).lp hΓ (d_impl_IsFact_L1w hΓ (fun h => ?_) (by have := (Rdb.sl (Rdb.agg (hr _ (List.mem_of_getElem? (i := 0) rfl)) (.sl ((a0_.args).map tx)) (by simp))).1; simpa using this) (a0_.args) 0  rfl h)
      have h := den_some h; subst h; exact pre0.ret hΓ
def d_impl_Join (a0_ : List Bytes) (a1_ : Bytes) : Option Bytes := ((d_strings_Join (a0_) (a1_)).bind fun y1 => (some (y1)))
theorem d_impl_Join_good {a0_ : List Bytes} {a1_ : Bytes} {r : Bytes} (h : d_impl_Join a0_ a1_ = some r) : Good Tryd.prog 20 [D.sl ((a0_).map tx), D.str (a1_)] (D.str (r)) := by
  refine gd Tryd.func20 [[none]] 8 fun hr Γ hΓ => ?_
  rw [d_impl_Join] at h
  obtain ⟨y1, h2, h⟩ := den_bind h
  have h := den_some h; subst h; exact (pre0.g (d_strings_Join_good h2)).ret hΓ
def d_impl_FormatFact (a0_ : Fact) : Option Bytes := ((d_impl_IsFact (a0_)).bind fun y1 => (bif !(y1) then (some ([])) else (bif decide ((a0_.rel : Bytes).length + ([40] : Bytes).length ≤ maxLen) then ((d_impl_Join (a0_.args) ([44])).bind fun y5 => (bif decide (((a0_.rel) ++ ([40]) : Bytes).length + (y5 : Bytes).length ≤ maxLen) then (bif decide ((((a0_.rel) ++ ([40])) ++ (y5) : Bytes).length + ([41] : Bytes).length ≤ maxLen) then (some ((((a0_.rel) ++ ([40])) ++ (y5)) ++ ([41]))) else none) else none)) else none)))
theorem d_impl_FormatFact_good {a0_ : Fact} {r : Bytes} (h : d_impl_FormatFact a0_ = some r) : Good Tryd.prog 47 [D.agg (Fact.c a0_)] (D.str (r)) := by
  refine gd Tryd.func47 [[none]] 14 fun hr Γ hΓ => ?_
  rw [d_impl_FormatFact] at h
  obtain ⟨y1, h2, h⟩ := den_bind h
  obtain ⟨h3, h⟩ | ⟨h3, h⟩ := den_if h
  · cases h; exact ((pre0.g (d_impl_IsFact_good h2)).b h3).ret hΓ
  · obtain ⟨h4, h⟩ := den_ok h
    obtain ⟨y5, h6, h⟩ := den_bind h
    obtain ⟨h7, h⟩ := den_ok h
    obtain ⟨h8, h⟩ := den_ok h
    cases h; exact (((((((pre0.g (d_impl_IsFact_good h2)).b h3).w (of_decide_eq_true h4)).a [.n 6]).g (d_impl_Join_good h6)).w (of_decide_eq_true h7)).w (of_decide_eq_true h8)).rts hΓ (D.str ((((a0_.rel) ++ ([40])) ++ (y5)) ++ ([41]))) (by first | rfl | (simp only [mA] <;> rfl))
def d_impl_FormatFacts_L1 (a0_ : List Fact) (k1 : List Bytes → Option Bytes) : List Fact → Nat → List Bytes → Option Bytes
  | [], i1, w1_0 => (k1 (w1_0))
  | x1_ :: xs1, i1, w1_0 => ((d_impl_IsFact (x1_)).bind fun y43 => (bif !(y43) then (some ([])) else ((d_impl_FormatFact (x1_)).bind fun y46 => (bif room (((w1_0).map tx).length + ([[D.str (y46)]]).length) 16 then (d_impl_FormatFacts_L1 a0_ k1 xs1 (i1 + 1) ((w1_0) ++ ([y46]))) else none))))
def d_impl_FormatFacts (a0_ : List Fact) : Option Bytes := (bif ((((a0_).map Fact.c).length : Int) : Int) == (0) then (some ([45])) else (d_impl_FormatFacts_L1 a0_ (fun (q1_0 : List Bytes) => ((d_impl_Join (q1_0) ([32])).bind fun y49 => (some (y49)))) (a0_) 0 (([] : List Bytes))))
def d_impl_FormatFacts_S1 (a0_ : List Fact) (W0 : List (List D)) (ix_ : Int) : St := ⟨[(3, D.acc 0), (9, D.sl ((a0_).map Fact.c)), (10, D.int .i64 ((((a0_).map Fact.c).length : Int))), (11, D.int .i64 (ix_))], [Ob.row .uq 9 1 (W0)]⟩
theorem d_impl_FormatFacts_L1w (hΓ : Γ.nt = 26) {a0_ : List Fact} {r : Bytes} {k1 : List Bytes → Option Bytes} (hE1 : ∀ (q1_0 : List Bytes), k1 q1_0 = some r → Ax Γ N Tryd.f29 (.q [[none]] (D.str (r))) [1, 1, 1, 1] ⟨[(3, D.acc 0)], [Ob.row .uq 9 1 ((q1_0).map tx)]⟩) (hm1 : (a0_).length ≤ maxLen) : ∀ (rest : List Fact) (i1 : Nat) (w1_0 : List Bytes), (a0_).drop i1 = rest → d_impl_FormatFacts_L1 a0_ k1 rest i1 w1_0 = some r → Ar Γ N Tryd.f29 (.q [[none]] (D.str (r))) [1, 1, 1, 0, 1, 0] (rest.length + 1) (d_impl_FormatFacts_S1 a0_ ((w1_0).map tx) ((i1 : Int))) := by
  intro rest
  induction rest with
  | nil =>
    intro i1 w1_0 hd1 h
    rw [d_impl_FormatFacts_L1] at h
    refine AWr_succ fun N1 hN1 hS1 => ?_
    exact ((pre0.ge Fact.c hd1).a [.hl 0 [3] [0]]).ex hΓ hN1 (hE1 (w1_0) h)
  | cons x1_ xs1 ih1 =>
    intro i1 w1_0 hd1 h
    rw [d_impl_FormatFacts_L1] at h
    refine AWr_succ fun N1 hN1 hS1 => ?_
    obtain ⟨y43, h44, h⟩ := den_bind h
    have o2_ := (((pre0.lt Fact.c hd1).l (map_row Fact.c 2 (dc hd1) rfl)).g (d_impl_IsFact_good h44))
    obtain ⟨h45, h⟩ | ⟨h45, h⟩ := den_if h
    · cases h; exact (o2_.b h45).ret hΓ
    · obtain ⟨y46, h47, h⟩ := den_bind h
      obtain ⟨h48, h⟩ := den_ok h
      exact ((((o2_.b h45).g (d_impl_FormatFact_good h47)).w (room_ok h48)).a [.cn [3, 9, 10, 11] [3]]).cs hΓ hS1 (d_impl_FormatFacts_S1 a0_ (((w1_0).map tx) ++ ([[D.str (y46)]])) (IntKind.i64.wrap (((i1 : Int)) + (1)))) (by first | (simp only [iS hd1 hm1, mA] <;> rfl) | (simp only [iS hd1 hm1, mA, Fact.c, Pair.c, Cond.c, Action.c, Rule.c, Token.c, Match.c, Alpha.c, Node.c, Network.c, Stamp.c] <;> rfl)) (ih1 (i1 + 1) ((w1_0) ++ ([y46])) (dn hd1) h)
theorem d_impl_FormatFacts_good {a0_ : List Fact} {r : Bytes} (h : d_impl_FormatFacts a0_ = some r) : Good Tryd.prog 29 [D.sl ((a0_).map Fact.c)] (D.str (r)) := by
  refine gd Tryd.func29 [[none]] 26 fun hr Γ hΓ => ?_
  rw [d_impl_FormatFacts] at h
  obtain ⟨h1, h⟩ | ⟨h1, h⟩ := den_if h
  · cases h; exact (pre0.b h1).ret hΓ
  · refine ((pre0.b h1).a [.pro 3, .cn [3, 9, 10, 11] [0]]).lp hΓ (d_impl_FormatFacts_L1w hΓ (fun q1_0 h => ?_) (by have := (Rdb.sl (hr _ (List.mem_of_getElem? (i := 0) rfl))).1; simpa using this) (a0_) 0 (([] : List Bytes)) rfl h)
    obtain ⟨y49, h50, h⟩ := den_bind h
    have h := den_some h; subst h; exact (pre0.g (d_impl_Join_good h50)).ret hΓ
def d_impl_FormatMatch (a0_ : Match) : Option Bytes := ((d_impl_FormatFacts (a0_.facts)).bind fun y1 => ((d_impl_IsName (a0_.rule)).bind fun y3 => (bif !(y3) then (some ([])) else (bif (y1 : Bytes) == ([]) then (some ([])) else (bif decide ((a0_.rule : Bytes).length + ([58, 32] : Bytes).length ≤ maxLen) then (bif decide (((a0_.rule) ++ ([58, 32]) : Bytes).length + (y1 : Bytes).length ≤ maxLen) then (some (((a0_.rule) ++ ([58, 32])) ++ (y1))) else none) else none)))))
theorem d_impl_FormatMatch_good {a0_ : Match} {r : Bytes} (h : d_impl_FormatMatch a0_ = some r) : Good Tryd.prog 17 [D.agg (Match.c a0_)] (D.str (r)) := by
  refine gd Tryd.func17 [[none]] 20 fun hr Γ hΓ => ?_
  rw [d_impl_FormatMatch] at h
  obtain ⟨y1, h2, h⟩ := den_bind h
  obtain ⟨y3, h4, h⟩ := den_bind h
  have o1_ := ((pre0.g (d_impl_FormatFacts_good h2)).g (d_impl_IsName_good h4))
  obtain ⟨h5, h⟩ | ⟨h5, h⟩ := den_if h
  · cases h; exact ((o1_.r 3 h5).T 1).ret hΓ
  · have o2_ := (o1_.r 3 h5)
    obtain ⟨h6, h⟩ | ⟨h6, h⟩ := den_if h
    · cases h; exact (o2_.b h6).ret hΓ
    · obtain ⟨h7, h⟩ := den_ok h
      obtain ⟨h8, h⟩ := den_ok h
      cases h; exact (((o2_.b h6).w (of_decide_eq_true h7)).w (of_decide_eq_true h8)).rts hΓ (D.str (((a0_.rule) ++ ([58, 32])) ++ (y1))) (by first | rfl | (simp only [mA] <;> rfl))
def d_impl_FormatInt (a0_ : Int) : Option Bytes := ((d_strconv_Itoa (a0_)).bind fun y1 => (some (y1)))
theorem d_impl_FormatInt_good {a0_ : Int} {r : Bytes} (h : d_impl_FormatInt a0_ = some r) : Good Tryd.prog 19 [D.int .i64 (a0_)] (D.str (r)) := by
  refine gd Tryd.func19 [[none]] 5 fun hr Γ hΓ => ?_
  rw [d_impl_FormatInt] at h
  obtain ⟨y1, h2, h⟩ := den_bind h
  have h := den_some h; subst h; exact (pre0.g (d_strconv_Itoa_good h2)).ret hΓ
def d_impl_ChoiceLine_L1 (a0_ : Choice) (y1 : Bytes) (y4 : List Int) (k1 : List Bytes → Option Bytes) : List Int → Nat → List Bytes → Option Bytes
  | [], i1, w1_1 => (k1 (w1_1))
  | x1_ :: xs1, i1, w1_1 => ((d_impl_FormatInt (x1_)).bind fun y33 => (bif room (((w1_1).map tx).length + ([[D.str (y33)]]).length) 16 then (d_impl_ChoiceLine_L1 a0_ y1 y4 k1 xs1 (i1 + 1) ((w1_1) ++ ([y33]))) else none))
def d_impl_ChoiceLine (a0_ : Choice) : Option Bytes := ((d_impl_FormatMatch (a0_.mtch)).bind fun y1 => (bif (y1 : Bytes) == ([]) then (some ([])) else ((d_impl_Falling (a0_.times)).bind fun y4 => (bif decide ((y4).length ≤ maxLen) then (d_impl_ChoiceLine_L1 a0_ y1 y4 (fun (q1_1 : List Bytes) => (bif decide ((y1 : Bytes).length + ([32, 40] : Bytes).length ≤ maxLen) then ((d_impl_FormatInt (a0_.prio)).bind fun y37 => (bif decide (((y1) ++ ([32, 40]) : Bytes).length + (y37 : Bytes).length ≤ maxLen) then (bif decide ((((y1) ++ ([32, 40])) ++ (y37) : Bytes).length + ([59, 32] : Bytes).length ≤ maxLen) then ((d_impl_Join (q1_1) ([44])).bind fun y41 => (bif decide (((((y1) ++ ([32, 40])) ++ (y37)) ++ ([59, 32]) : Bytes).length + (y41 : Bytes).length ≤ maxLen) then (bif decide ((((((y1) ++ ([32, 40])) ++ (y37)) ++ ([59, 32])) ++ (y41) : Bytes).length + ([59, 32] : Bytes).length ≤ maxLen) then ((d_impl_FormatInt (a0_.spec)).bind fun y45 => (bif decide (((((((y1) ++ ([32, 40])) ++ (y37)) ++ ([59, 32])) ++ (y41)) ++ ([59, 32]) : Bytes).length + (y45 : Bytes).length ≤ maxLen) then (bif decide ((((((((y1) ++ ([32, 40])) ++ (y37)) ++ ([59, 32])) ++ (y41)) ++ ([59, 32])) ++ (y45) : Bytes).length + ([41] : Bytes).length ≤ maxLen) then (some ((((((((y1) ++ ([32, 40])) ++ (y37)) ++ ([59, 32])) ++ (y41)) ++ ([59, 32])) ++ (y45)) ++ ([41]))) else none) else none)) else none) else none)) else none) else none)) else none)) (y4) 0 (([] : List Bytes))) else none))))
def d_impl_ChoiceLine_S1 (a0_ : Choice) (y1 : Bytes) (y4 : List Int) (W0 : List (List D)) (ix_ : Int) : St := ⟨[(1, D.ptr 0 0), (3, D.str (y1)), (4, D.acc 1), (14, D.acc 2), (15, D.int .i64 ((((y4).map ixx).length : Int))), (16, D.int .i64 (ix_))], [Ob.box (Choice.c a0_), Ob.row .uq 9 1 (W0), Ob.row .uq 3 1 ((y4).map ixx)]⟩
theorem d_impl_ChoiceLine_L1w (hΓ : Γ.nt = 42) {a0_ : Choice} {y1 : Bytes} {y4 : List Int} {r : Bytes} {k1 : List Bytes → Option Bytes} (hE1 : ∀ (q1_1 : List Bytes), k1 q1_1 = some r → Ax Γ N Tryd.f7 (.q [[none]] (D.str (r))) [1, 1, 1, 1, 1] ⟨[(1, D.ptr 0 0), (3, D.str (y1)), (4, D.acc 1)], [Ob.box (Choice.c a0_), Ob.row .uq 9 1 ((q1_1).map tx)]⟩) (hm1 : (y4).length ≤ maxLen) : ∀ (rest : List Int) (i1 : Nat) (w1_1 : List Bytes), (y4).drop i1 = rest → d_impl_ChoiceLine_L1 a0_ y1 y4 k1 rest i1 w1_1 = some r → Ar Γ N Tryd.f7 (.q [[none]] (D.str (r))) [1, 1, 1, 1, 0, 1, 0] (rest.length + 1) (d_impl_ChoiceLine_S1 a0_ y1 y4 ((w1_1).map tx) ((i1 : Int))) := by
  intro rest
  induction rest with
  | nil =>
    intro i1 w1_1 hd1 h
    rw [d_impl_ChoiceLine_L1] at h
    refine AWr_succ fun N1 hN1 hS1 => ?_
    exact ((pre0.ge ixx hd1).a [.hl 0 [1, 3, 4] [0, 1]]).ex hΓ hN1 (hE1 (w1_1) h)
  | cons x1_ xs1 ih1 =>
    intro i1 w1_1 hd1 h
    rw [d_impl_ChoiceLine_L1] at h
    refine AWr_succ fun N1 hN1 hS1 => ?_
    obtain ⟨y33, h34, h⟩ := den_bind h
    obtain ⟨h35, h⟩ := den_ok h
    exact ((((((pre0.lt ixx hd1).i (own_ixl ixx 1 (dc hd1))).o 1 1 .uq (map_get ixx (dc hd1))).g (d_impl_FormatInt_good h34)).w (room_ok h35)).a [.cn [1, 3, 4, 14, 15, 16] [0, 4, 2]]).cs hΓ hS1 (d_impl_ChoiceLine_S1 a0_ y1 y4 (((w1_1).map tx) ++ ([[D.str (y33)]])) (IntKind.i64.wrap (((i1 : Int)) + (1)))) (by first | (simp only [iS hd1 hm1, mA] <;> rfl) | (simp only [iS hd1 hm1, mA, Fact.c, Pair.c, Cond.c, Action.c, Rule.c, Token.c, Match.c, Alpha.c, Node.c, Network.c, Stamp.c] <;> rfl)) (ih1 (i1 + 1) ((w1_1) ++ ([y33])) (dn hd1) h)
theorem d_impl_ChoiceLine_good {a0_ : Choice} {r : Bytes} (h : d_impl_ChoiceLine a0_ = some r) : Good Tryd.prog 7 [D.agg (Choice.c a0_)] (D.str (r)) := by
  refine gd Tryd.func7 [[none]] 42 fun hr Γ hΓ => ?_
  rw [d_impl_ChoiceLine] at h
  obtain ⟨y1, h2, h⟩ := den_bind h
  obtain ⟨h3, h⟩ | ⟨h3, h⟩ := den_if h
  · cases h; exact ((pre0.g (d_impl_FormatMatch_good h2)).b h3).ret hΓ
  · obtain ⟨y4, h5, h⟩ := den_bind h
    obtain ⟨h49, h⟩ := den_ok h
    refine (((((pre0.g (d_impl_FormatMatch_good h2)).b h3).a [.pro 4]).g (d_impl_Falling_good h5)).a [.cn [1, 3, 4, 14, 15, 16] [0, 1, 2]]).lp hΓ (d_impl_ChoiceLine_L1w hΓ (fun q1_1 h => ?_) (of_decide_eq_true h49) (y4) 0 (([] : List Bytes)) rfl h)
    obtain ⟨h36, h⟩ := den_ok h
    obtain ⟨y37, h38, h⟩ := den_bind h
    obtain ⟨h39, h⟩ := den_ok h
    obtain ⟨h40, h⟩ := den_ok h
    obtain ⟨y41, h42, h⟩ := den_bind h
    obtain ⟨h43, h⟩ := den_ok h
    obtain ⟨h44, h⟩ := den_ok h
    obtain ⟨y45, h46, h⟩ := den_bind h
    obtain ⟨h47, h⟩ := den_ok h
    obtain ⟨h48, h⟩ := den_ok h
    cases h; exact (((((((((((pre0.w (of_decide_eq_true h36)).a [.n 14]).g (d_impl_FormatInt_good h38)).w (of_decide_eq_true h39)).w (of_decide_eq_true h40)).g (d_impl_Join_good h42)).w (of_decide_eq_true h43)).w (of_decide_eq_true h44)).g (d_impl_FormatInt_good h46)).w (of_decide_eq_true h47)).w (of_decide_eq_true h48)).rts hΓ (D.str ((((((((y1) ++ ([32, 40])) ++ (y37)) ++ ([59, 32])) ++ (y41)) ++ ([59, 32])) ++ (y45)) ++ ([41]))) (by first | rfl | (simp only [mA] <;> rfl))
end Go.Cx
