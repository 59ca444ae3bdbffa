/- What functions of the program compute, and the walks that show it. No condition. -/
import Derived.Test.YtdckcgjimblpkaaGreatDoorNLay
namespace Go.Cx
open Go.RowKit Go.Proofs
set_option linter.unusedVariables false
set_option linter.unusedSimpArgs false
set_option maxRecDepth 100000
variable {Γ : Ctx} {N : Nat → St → Prop}
def d_spec_l1In (a0_ : Int) (a1_ : Int) (a2_ : Int) : Option Bool := (bif decide ((a0_ : Int) ≥ (a1_)) then (some (decide ((a0_ : Int) ≤ (a2_)))) else (some (false)))
theorem d_spec_l1In_good {a0_ : Int} {a1_ : Int} {a2_ : Int} {r : Bool} (h : d_spec_l1In a0_ a1_ a2_ = some r) : Good Tryz.prog 44 [D.int .i64 (a0_), D.int .i64 (a1_), D.int .i64 (a2_)] (D.bool (r)) := by
  refine gd Tryz.func44 [[none]] 15 fun hr Γ hΓ => ?_
  rw [d_spec_l1In] at h
  obtain ⟨h1, h⟩ | ⟨h1, h⟩ := den_if h
  · cases h; exact (pre0.r 4 h1).ret hΓ
  · have h := den_some h; subst h; exact (pre0.r 4 h1).ret hΓ
def d_spec_FormatInt_R_L1  (k1 : Option Bytes) : Nat → Int → Bytes → Option Bytes
  | 0, _, _ => none
  | n1 + 1, v1_0, v1_3 => (bif decide (0 ≤ (v1_0 : Int)) && decide (0 < (10 : Int)) then (bif decide (([UInt8.ofNat (IntKind.u8.wrap (IntKind.i64.wrap ((48) + ((v1_0 : Int) % (10))))).toNat] : Bytes).length + (v1_3 : Bytes).length ≤ maxLen) then (bif decide (0 ≤ (v1_0 : Int)) && decide (0 < (10 : Int)) then (bif ((v1_0 : Int) / (10) : Int) == (0) then (some (([UInt8.ofNat (IntKind.u8.wrap (IntKind.i64.wrap ((48) + ((v1_0 : Int) % (10))))).toNat]) ++ (v1_3))) else (d_spec_FormatInt_R_L1  k1 n1 ((v1_0 : Int) / (10)) (([UInt8.ofNat (IntKind.u8.wrap (IntKind.i64.wrap ((48) + ((v1_0 : Int) % (10))))).toNat]) ++ (v1_3)))) else none) else none) else none)
def d_spec_FormatInt_R : Nat → Int → Option Bytes
  | 0, _ => none
  | m_ + 1, a0_ => (bif (a0_ : Int) == (-9223372036854775808) then (some ([45, 57, 50, 50, 51, 51, 55, 50, 48, 51, 54, 56, 53, 52, 55, 55, 53, 56, 48, 56])) else (bif decide ((a0_ : Int) < (0)) then ((d_spec_FormatInt_R m_ (IntKind.i64.wrap (0 - (a0_)))).bind fun y3 => (bif decide (([45] : Bytes).length + (y3 : Bytes).length ≤ maxLen) then (some (([45]) ++ (y3))) else none)) else (d_spec_FormatInt_R_L1  none fuel (a0_) ([]))))
def d_spec_FormatInt_R_S1 (v1_0 : Int) (v1_3 : Bytes) : St := ⟨[(0, D.int .i64 (v1_0)), (3, D.str (v1_3))], []⟩
theorem d_spec_FormatInt_R_L1w (hΓ : Γ.nt = 25)  {r : Bytes} {k1 : Option Bytes} (hE1 : k1 = some r → Ax Γ N Tryz.f45 (.q [[none]] (D.str (r))) [1, 1, 1, 1, 0, 0] ⟨[], []⟩) : ∀ (n1 : Nat) (v1_0 : Int) (v1_3 : Bytes), d_spec_FormatInt_R_L1  k1 n1 v1_0 v1_3 = some r → Ar Γ N Tryz.f45 (.q [[none]] (D.str (r))) [1, 1, 1, 1, 0] n1 (d_spec_FormatInt_R_S1 v1_0 v1_3) := by
  intro n
  induction n with
  | zero => intro v1_0 v1_3 h; simp [d_spec_FormatInt_R_L1] at h
  | succ n1 ih1 =>
    intro v1_0 v1_3 h
    rw [d_spec_FormatInt_R_L1] at h
    refine AWr_succ fun N1 hN1 hS1 => ?_
    obtain ⟨h14, h⟩ := den_ok h
    obtain ⟨h15, h⟩ := den_ok h
    obtain ⟨h16, h⟩ := den_ok h
    have o2_ := (((pre0.w (quo_ok .i64 h14)).w (of_decide_eq_true h15)).w (quo_ok .i64 h16))
    obtain ⟨h17, h⟩ | ⟨h17, h⟩ := den_if h
    · cases h; exact (o2_.b h17).rts hΓ (D.str (([UInt8.ofNat (IntKind.u8.wrap (IntKind.i64.wrap ((48) + ((v1_0 : Int) % (10))))).toNat]) ++ (v1_3))) (by first | rfl | (simp only [mA] <;> rfl))
    · exact ((o2_.b h17).a [.cn [0, 3] []]).cf hΓ hS1 (ih1 ((v1_0 : Int) / (10)) (([UInt8.ofNat (IntKind.u8.wrap (IntKind.i64.wrap ((48) + ((v1_0 : Int) % (10))))).toNat]) ++ (v1_3)) h)
theorem d_spec_FormatInt_R_step {m_ : Nat} (ihR : ∀ {a0_ : Int} {r : Bytes}, d_spec_FormatInt_R m_ a0_ = some r → Good Tryz.prog 45 [D.int .i64 (a0_)] (D.str (r))) {a0_ : Int} {r : Bytes} (h : d_spec_FormatInt_R (m_ + 1) a0_ = some r) : Good Tryz.prog 45 [D.int .i64 (a0_)] (D.str (r)) := by
  refine gd Tryz.func45 [[none]] 25 fun hr Γ hΓ => ?_
  rw [d_spec_FormatInt_R] at h
  obtain ⟨h1, h⟩ | ⟨h1, h⟩ := den_if h
  · cases h; exact (pre0.b h1).ret hΓ
  · obtain ⟨h2, h⟩ | ⟨h2, h⟩ := den_if h
    · obtain ⟨y3, h4, h⟩ := den_bind h
      obtain ⟨h5, h⟩ := den_ok h
      cases h; exact ((((pre0.b h1).b h2).g (ihR h4)).w (of_decide_eq_true h5)).rts hΓ (D.str (([45]) ++ (y3))) (by first | rfl | (simp only [mA] <;> rfl))
    · refine (((pre0.b h1).b h2).a [.cn [0, 3] []]).lp hΓ (d_spec_FormatInt_R_L1w hΓ (fun h => ?_) fuel (a0_) ([]) h)
      cases h
theorem d_spec_FormatInt_R_good : ∀ (m_ : Nat) {a0_ : Int} {r : Bytes}, d_spec_FormatInt_R m_ a0_ = some r → Good Tryz.prog 45 [D.int .i64 (a0_)] (D.str (r))
  | 0, _, _, h => by cases h
  | m_ + 1, _, _, h => d_spec_FormatInt_R_step (fun h => d_spec_FormatInt_R_good m_ h) h
def d_spec_FormatInt (a0_ : Int) : Option Bytes := d_spec_FormatInt_R fuel a0_
theorem d_spec_FormatInt_good {a0_ : Int} {r : Bytes} (h : d_spec_FormatInt a0_ = some r) : Good Tryz.prog 45 [D.int .i64 (a0_)] (D.str (r)) := d_spec_FormatInt_R_good fuel h
def d_spec_IsAtom_L1 (a0_ : Bytes) (k1 : Option Bool) : Nat → Int → Option Bool
  | 0, _ => none
  | n1 + 1, v1_3 => (bif decide ((v1_3 : Int) < (((a0_).length : Int))) then ((atI (a0_) (v1_3)).bind fun b29 => ((d_spec_l1In (IntKind.i64.wrap (b29.toNat)) (97) (122)).bind fun y31 => (bif !(y31) then ((d_spec_l1In (IntKind.i64.wrap (b29.toNat)) (48) (57)).bind fun y34 => (bif !(y34) then (some (false)) else (d_spec_IsAtom_L1 a0_ k1 n1 (IntKind.i64.wrap ((v1_3) + (1)))))) else (d_spec_IsAtom_L1 a0_ k1 n1 (IntKind.i64.wrap ((v1_3) + (1))))))) else (k1 ))
def d_spec_IsAtom (a0_ : Bytes) : Option Bool := (d_spec_IsAtom_L1 a0_ ((d_spec_l1In (((a0_).length : Int)) (1) (8)).bind fun y37 => (some (y37))) fuel (0))
def d_spec_IsAtom_S1 (a0_ : Bytes) (v1_3 : Int) : St := ⟨[(0, D.str (a0_)), (3, D.int .i64 (v1_3))], []⟩
theorem d_spec_IsAtom_L1w (hΓ : Γ.nt = 27) {a0_ : Bytes} {r : Bool} {k1 : Option Bool} (hE1 : k1 = some r → Ax Γ N Tryz.f155 (.q [[none]] (D.bool (r))) [1, 1] ⟨[(0, D.str (a0_))], []⟩) : ∀ (n1 : Nat) (v1_3 : Int), d_spec_IsAtom_L1 a0_ k1 n1 v1_3 = some r → Ar Γ N Tryz.f155 (.q [[none]] (D.bool (r))) [1, 0, 1, 0] n1 (d_spec_IsAtom_S1 a0_ v1_3) := by
  intro n
  induction n with
  | zero => intro v1_3 h; simp [d_spec_IsAtom_L1] at h
  | succ n1 ih1 =>
    intro v1_3 h
    rw [d_spec_IsAtom_L1] at h
    refine AWr_succ fun N1 hN1 hS1 => ?_
    obtain ⟨h28, h⟩ | ⟨h28, h⟩ := den_if h
    · obtain ⟨b29, h30, h⟩ := den_bind h
      obtain ⟨y31, h32, h⟩ := den_bind h
      have o3_ := (((pre0.b h28).c h30).g (d_spec_l1In_good h32))
      obtain ⟨h33, h⟩ | ⟨h33, h⟩ := den_if h
      · obtain ⟨y34, h35, h⟩ := den_bind h
        have o4_ := (((((o3_.r 3 h33).c h30).r 2 h33).g (d_spec_l1In_good h35)).r 2 h33)
        obtain ⟨h36, h⟩ | ⟨h36, h⟩ := den_if h
        · have h := den_some h; subst h; exact (o4_.b h36).ret hΓ
        · exact ((o4_.b h36).a [.cn [0, 3] []]).cf hΓ hS1 (ih1 (IntKind.i64.wrap ((v1_3) + (1))) h)
      · exact (((o3_.r 7 h33).F 1).a [.cn [0, 3] []]).cf hΓ hS1 (ih1 (IntKind.i64.wrap ((v1_3) + (1))) h)
    · exact ((pre0.b h28).a [.hl 0 [0] []]).ex hΓ hN1 (hE1 h)
theorem d_spec_IsAtom_good {a0_ : Bytes} {r : Bool} (h : d_spec_IsAtom a0_ = some r) : Good Tryz.prog 155 [D.str (a0_)] (D.bool (r)) := by
  refine gd Tryz.func155 [[none]] 27 fun hr Γ hΓ => ?_
  rw [d_spec_IsAtom] at h
  refine (pre0.a [.cn [0, 3] []]).lp hΓ (d_spec_IsAtom_L1w hΓ (fun h => ?_) fuel (0) h)
  obtain ⟨y37, h38, h⟩ := den_bind h
  have h := den_some h; subst h; exact (pre0.g (d_spec_l1In_good h38)).ret hΓ
def d_spec_IsVar (a0_ : Bytes) : Option Bool := (bif decide ((((a0_).length : Int) : Int) > (1)) then ((atI (a0_) (0)).bind fun b2 => (bif (b2.toNat : Int) == (63) then ((pcut (a0_).length (some (D.int .i64 (1))) (none)).bind fun p => (fun l5 u6 => ((d_spec_IsAtom (((a0_).take u6).drop l5)).bind fun y8 => (some (y8)))) p.1 p.2) else (some (false)))) else (some (false)))
theorem d_spec_IsVar_good {a0_ : Bytes} {r : Bool} (h : d_spec_IsVar a0_ = some r) : Good Tryz.prog 157 [D.str (a0_)] (D.bool (r)) := by
  refine gd Tryz.func157 [[none]] 16 fun hr Γ hΓ => ?_
  rw [d_spec_IsVar] at h
  obtain ⟨h1, h⟩ | ⟨h1, h⟩ := den_if h
  · obtain ⟨b2, h3, h⟩ := den_bind h
    have o1_ := (((pre0.r 2 h1).c h3).r 2 h1)
    obtain ⟨h4, h⟩ | ⟨h4, h⟩ := den_if h
    · obtain ⟨⟨l5, u6⟩, h7, h⟩ := den_bind h
      obtain ⟨y8, h9, h⟩ := den_bind h
      have h := den_some h; subst h; exact ((((((o1_.r 2 h4).w h7).a [.cut l5 u6]).b h4).g (d_spec_IsAtom_good h9)).b h4).ret hΓ
    · have h := den_some h; subst h; exact (o1_.r 4 h4).ret hΓ
  · have h := den_some h; subst h; exact ((pre0.r 4 h1).F 4).ret hΓ
def d_spec_IsTerm (a0_ : Bytes) : Option Bool := ((d_spec_IsAtom (a0_)).bind fun y1 => (bif y1 then (some (true)) else ((d_spec_IsVar (a0_)).bind fun y4 => (some (y4)))))
theorem d_spec_IsTerm_good {a0_ : Bytes} {r : Bool} (h : d_spec_IsTerm a0_ = some r) : Good Tryz.prog 146 [D.str (a0_)] (D.bool (r)) := by
  refine gd Tryz.func146 [[none]] 9 fun hr Γ hΓ => ?_
  rw [d_spec_IsTerm] at h
  obtain ⟨y1, h2, h⟩ := den_bind h
  obtain ⟨h3, h⟩ | ⟨h3, h⟩ := den_if h
  · have h := den_some h; subst h; exact ((pre0.g (d_spec_IsAtom_good h2)).r 3 h3).ret hΓ
  · obtain ⟨y4, h5, h⟩ := den_bind h
    have h := den_some h; subst h; exact ((((pre0.g (d_spec_IsAtom_good h2)).r 2 h3).g (d_spec_IsVar_good h5)).b h3).ret hΓ
def d_spec_IsName (a0_ : Bytes) : Option Bool := ((d_spec_IsAtom (a0_)).bind fun y1 => (bif y1 then ((atI (a0_) (0)).bind fun b4 => ((d_spec_l1In (IntKind.i64.wrap (b4.toNat)) (97) (122)).bind fun y6 => (some (y6)))) else (some (false))))
theorem d_spec_IsName_good {a0_ : Bytes} {r : Bool} (h : d_spec_IsName a0_ = some r) : Good Tryz.prog 101 [D.str (a0_)] (D.bool (r)) := by
  refine gd Tryz.func101 [[none]] 11 fun hr Γ hΓ => ?_
  rw [d_spec_IsName] at h
  obtain ⟨y1, h2, h⟩ := den_bind h
  obtain ⟨h3, h⟩ | ⟨h3, h⟩ := den_if h
  · obtain ⟨b4, h5, h⟩ := den_bind h
    obtain ⟨y6, h7, h⟩ := den_bind h
    have h := den_some h; subst h; exact ((((((pre0.g (d_spec_IsAtom_good h2)).r 2 h3).c h5).r 2 h3).g (d_spec_l1In_good h7)).b h3).ret hΓ
  · have h := den_some h; subst h; exact ((pre0.g (d_spec_IsAtom_good h2)).r 5 h3).ret hΓ
def d_spec_IsPattern_L1 (a0_ : Fact) (k1 : Option Bool) : List Bytes → Nat → Option Bool
  | [], i1 => (k1 )
  | x1_ :: xs1, i1 => ((d_spec_IsTerm (x1_)).bind fun y21 => (bif !(y21) then (some (false)) else (d_spec_IsPattern_L1 a0_ k1 xs1 (i1 + 1) )))
def d_spec_IsPattern (a0_ : Fact) : Option Bool := (d_spec_IsPattern_L1 a0_ ((d_spec_IsName (a0_.rel)).bind fun y24 => (bif y24 then (some (decide (((((a0_.args).map tx).length : Int) : Int) ≤ (3)))) else (some (false)))) (a0_.args) 0 )
def d_spec_IsPattern_S1 (a0_ : Fact) (ix_ : Int) : St := ⟨[(1, D.ptr 0 0), (3, D.int .i64 (ix_))], [Ob.box (Fact.c a0_)]⟩
theorem d_spec_IsPattern_L1w (hΓ : Γ.nt = 27) {a0_ : Fact} {r : Bool} {k1 : Option Bool} (hE1 : k1 = some r → Ax Γ N Tryz.f145 (.q [[none]] (D.bool (r))) [1, 1] ⟨[(1, D.ptr 0 0)], [Ob.box (Fact.c a0_)]⟩) (hm1 : (a0_.args).length ≤ maxLen) : ∀ (rest : List Bytes) (i1 : Nat) , (a0_.args).drop i1 = rest → d_spec_IsPattern_L1 a0_ k1 rest i1  = some r → Ar Γ N Tryz.f145 (.q [[none]] (D.bool (r))) [1, 0, 1, 0] (rest.length + 1) (d_spec_IsPattern_S1 a0_ ((i1 : Int))) := by
  intro rest
  induction rest with
  | nil =>
    intro i1  hd1 h
    rw [d_spec_IsPattern_L1] at h
    refine AWr_succ fun N1 hN1 hS1 => ?_
    exact ((pre0.ge tx hd1).a [.hl 0 [1] [0]]).ex hΓ hN1 (hE1 h)
  | cons x1_ xs1 ih1 =>
    intro i1  hd1 h
    rw [d_spec_IsPattern_L1] at h
    refine AWr_succ fun N1 hN1 hS1 => ?_
    obtain ⟨y21, h22, h⟩ := den_bind h
    have o2_ := (((pre0.lt tx hd1).l (map_row tx 1 (dc hd1) rfl)).g (d_spec_IsTerm_good h22))
    obtain ⟨h23, h⟩ | ⟨h23, h⟩ := den_if h
    · have h := den_some h; subst h; exact (o2_.b h23).ret hΓ
    · exact ((o2_.b h23).a [.cn [1, 3] [0]]).ct hΓ hS1 (iS hd1 hm1) (ih1 (i1 + 1)  (dn hd1) h)
theorem d_spec_IsPattern_good {a0_ : Fact} {r : Bool} (h : d_spec_IsPattern a0_ = some r) : Good Tryz.prog 145 [D.agg (Fact.c a0_)] (D.bool (r)) := by
  refine gd Tryz.func145 [[none]] 27 fun hr Γ hΓ => ?_
  rw [d_spec_IsPattern] at h
  refine (pre0.a [.cn [1, 3] [0]]).lp hΓ (d_spec_IsPattern_L1w hΓ (fun h => ?_) (by have := (Rdb.sl (Rdb.agg (hr _ (List.mem_of_getElem? (i := 0) rfl)) (.sl ((a0_.args).map tx)) (by simp))).1; simpa using this) (a0_.args) 0  rfl h)
  obtain ⟨y24, h25, h⟩ := den_bind h
  obtain ⟨h26, h⟩ | ⟨h26, h⟩ := den_if h
  · cases h; exact ((pre0.g (d_spec_IsName_good h25)).r 5 h26).ret hΓ
  · have h := den_some h; subst h; exact ((pre0.g (d_spec_IsName_good h25)).r 5 h26).ret hΓ
def d_spec_IsCond (a0_ : Cond) : Option Bool := (bif (a0_.kind : Int) == (1) then ((d_spec_IsPattern (a0_.pat)).bind fun y2 => (bif y2 then (bif (a0_.left : Bytes) == ([]) then (some ((a0_.right : Bytes) == ([]))) else (some (false))) else (some (false)))) else (bif (a0_.kind : Int) == (2) then ((d_spec_IsPattern (a0_.pat)).bind fun y7 => (bif y7 then (bif (a0_.left : Bytes) == ([]) then (some ((a0_.right : Bytes) == ([]))) else (some (false))) else (some (false)))) else (bif (a0_.kind : Int) == (3) then (bif (a0_.pat.rel : Bytes) == ([]) then (bif ((((a0_.pat.args).map tx).length : Int) : Int) == (0) then ((d_spec_IsTerm (a0_.left)).bind fun y14 => (bif y14 then ((d_spec_IsTerm (a0_.right)).bind fun y17 => (some (y17))) else (some (false)))) else (some (false))) else (some (false))) else (bif (a0_.kind : Int) == (4) then (bif (a0_.pat.rel : Bytes) == ([]) then (bif ((((a0_.pat.args).map tx).length : Int) : Int) == (0) then ((d_spec_IsTerm (a0_.left)).bind fun y22 => (bif y22 then ((d_spec_IsTerm (a0_.right)).bind fun y25 => (some (y25))) else (some (false)))) else (some (false))) else (some (false))) else (bif (a0_.kind : Int) == (5) then (bif (a0_.pat.rel : Bytes) == ([]) then (bif ((((a0_.pat.args).map tx).length : Int) : Int) == (0) then ((d_spec_IsTerm (a0_.left)).bind fun y30 => (bif y30 then ((d_spec_IsTerm (a0_.right)).bind fun y33 => (some (y33))) else (some (false)))) else (some (false))) else (some (false))) else (some (false)))))))
theorem d_spec_IsCond_good {a0_ : Cond} {r : Bool} (h : d_spec_IsCond a0_ = some r) : Good Tryz.prog 89 [D.agg (Cond.c a0_)] (D.bool (r)) := by
  refine gd Tryz.func89 [[none]] 46 fun hr Γ hΓ => ?_
  rw [d_spec_IsCond] at h
  obtain ⟨h1, h⟩ | ⟨h1, h⟩ := den_if h
  · obtain ⟨y2, h3, h⟩ := den_bind h
    have o1_ := ((pre0.r 2 h1).g (d_spec_IsPattern_good h3))
    obtain ⟨h4, h⟩ | ⟨h4, h⟩ := den_if h
    · have o2_ := (o1_.r 4 h4)
      obtain ⟨h5, h⟩ | ⟨h5, h⟩ := den_if h
      · cases h; exact (o2_.r 4 h5).ret hΓ
      · have h := den_some h; subst h; exact (o2_.r 4 h5).ret hΓ
    · have h := den_some h; subst h; exact ((o1_.r 4 h4).F 4).ret hΓ
  · obtain ⟨h6, h⟩ | ⟨h6, h⟩ := den_if h
    · obtain ⟨y7, h8, h⟩ := den_bind h
      have o3_ := (((pre0.b h1).b h6).g (d_spec_IsPattern_good h8))
      obtain ⟨h9, h⟩ | ⟨h9, h⟩ := den_if h
      · have o4_ := (o3_.r 4 h9)
        obtain ⟨h10, h⟩ | ⟨h10, h⟩ := den_if h
        · cases h; exact (o4_.r 4 h10).ret hΓ
        · have h := den_some h; subst h; exact (o4_.r 4 h10).ret hΓ
      · have h := den_some h; subst h; exact ((o3_.r 4 h9).F 4).ret hΓ
    · have o5_ := ((pre0.b h1).b h6)
      obtain ⟨h11, h⟩ | ⟨h11, h⟩ := den_if h
      · have o6_ := (o5_.r 2 h11)
        obtain ⟨h12, h⟩ | ⟨h12, h⟩ := den_if h
        · have o7_ := (o6_.r 6 h12)
          obtain ⟨h13, h⟩ | ⟨h13, h⟩ := den_if h
          · obtain ⟨y14, h15, h⟩ := den_bind h
            have o8_ := (((o7_.r 3 h13).g (d_spec_IsTerm_good h15)).b h13)
            obtain ⟨h16, h⟩ | ⟨h16, h⟩ := den_if h
            · obtain ⟨y17, h18, h⟩ := den_bind h
              have h := den_some h; subst h; exact (((o8_.r 3 h16).g (d_spec_IsTerm_good h18)).b h16).ret hΓ
            · have h := den_some h; subst h; exact (o8_.r 4 h16).ret hΓ
          · have h := den_some h; subst h; exact ((o7_.r 4 h13).F 4).ret hΓ
        · have h := den_some h; subst h; exact ((o6_.r 6 h12).F 8).ret hΓ
      · obtain ⟨h19, h⟩ | ⟨h19, h⟩ := den_if h
        · have o9_ := ((o5_.b h11).r 2 h19)
          obtain ⟨h20, h⟩ | ⟨h20, h⟩ := den_if h
          · have o10_ := (o9_.r 6 h20)
            obtain ⟨h21, h⟩ | ⟨h21, h⟩ := den_if h
            · obtain ⟨y22, h23, h⟩ := den_bind h
              have o11_ := (((o10_.r 3 h21).g (d_spec_IsTerm_good h23)).b h21)
              obtain ⟨h24, h⟩ | ⟨h24, h⟩ := den_if h
              · obtain ⟨y25, h26, h⟩ := den_bind h
                have h := den_some h; subst h; exact (((o11_.r 3 h24).g (d_spec_IsTerm_good h26)).b h24).ret hΓ
              · have h := den_some h; subst h; exact (o11_.r 4 h24).ret hΓ
            · have h := den_some h; subst h; exact ((o10_.r 4 h21).F 4).ret hΓ
          · have h := den_some h; subst h; exact ((o9_.r 6 h20).F 8).ret hΓ
        · have o12_ := ((o5_.b h11).b h19)
          obtain ⟨h27, h⟩ | ⟨h27, h⟩ := den_if h
          · obtain ⟨h28, h⟩ | ⟨h28, h⟩ := den_if h
            · have o13_ := ((o12_.b h27).r 6 h28)
              obtain ⟨h29, h⟩ | ⟨h29, h⟩ := den_if h
              · obtain ⟨y30, h31, h⟩ := den_bind h
                have o14_ := (((o13_.r 3 h29).g (d_spec_IsTerm_good h31)).b h29)
                obtain ⟨h32, h⟩ | ⟨h32, h⟩ := den_if h
                · obtain ⟨y33, h34, h⟩ := den_bind h
                  have h := den_some h; subst h; exact (((o14_.r 3 h32).g (d_spec_IsTerm_good h34)).b h32).ret hΓ
                · have h := den_some h; subst h; exact (o14_.r 4 h32).ret hΓ
              · have h := den_some h; subst h; exact ((o13_.r 4 h29).F 4).ret hΓ
            · have h := den_some h; subst h; exact (((o12_.b h27).r 6 h28).F 8).ret hΓ
          · have h := den_some h; subst h; exact (o12_.b h27).ret hΓ
def d_spec_Join_L1 (a0_ : List Bytes) (a1_ : Bytes) (k1 : Bytes → Option Bytes) : List Bytes → Nat → Bytes → Option Bytes
  | [], i1, v1_5 => (k1 (v1_5))
  | x1_ :: xs1, i1, v1_5 => (bif decide (((i1 : Int) : Int) > (0)) then (bif decide ((v1_5 : Bytes).length + (a1_ : Bytes).length ≤ maxLen) then (bif decide (((v1_5) ++ (a1_) : Bytes).length + (x1_ : Bytes).length ≤ maxLen) then (d_spec_Join_L1 a0_ a1_ k1 xs1 (i1 + 1) (((v1_5) ++ (a1_)) ++ (x1_))) else none) else none) else (bif decide ((v1_5 : Bytes).length + (x1_ : Bytes).length ≤ maxLen) then (d_spec_Join_L1 a0_ a1_ k1 xs1 (i1 + 1) ((v1_5) ++ (x1_))) else none))
def d_spec_Join (a0_ : List Bytes) (a1_ : Bytes) : Option Bytes := (d_spec_Join_L1 a0_ a1_ (fun (z1_5 : Bytes) => (some (z1_5))) (a0_) 0 ([]))
def d_spec_Join_S1 (a0_ : List Bytes) (a1_ : Bytes) (v1_5 : Bytes) (ix_ : Int) : St := ⟨[(0, D.sl ((a0_).map tx)), (1, D.str (a1_)), (5, D.str (v1_5)), (6, D.int .i64 (ix_))], []⟩
theorem d_spec_Join_L1w (hΓ : Γ.nt = 25) {a0_ : List Bytes} {a1_ : Bytes} {r : Bytes} {k1 : Bytes → Option Bytes} (hE1 : ∀ (z1_5 : Bytes), k1 z1_5 = some r → Ax Γ N Tryz.f58 (.q [[none]] (D.str (r))) [1, 1, 1] ⟨[(5, D.str (z1_5))], []⟩) (hm1 : (a0_).length ≤ maxLen) : ∀ (rest : List Bytes) (i1 : Nat) (v1_5 : Bytes), (a0_).drop i1 = rest → d_spec_Join_L1 a0_ a1_ k1 rest i1 v1_5 = some r → Ar Γ N Tryz.f58 (.q [[none]] (D.str (r))) [1, 1, 0, 1, 0] (rest.length + 1) (d_spec_Join_S1 a0_ a1_ v1_5 ((i1 : Int))) := by
  intro rest
  induction rest with
  | nil =>
    intro i1 v1_5 hd1 h
    rw [d_spec_Join_L1] at h
    refine AWr_succ fun N1 hN1 hS1 => ?_
    exact ((pre0.ge tx hd1).a [.hl 0 [5] []]).ex hΓ hN1 (hE1 (v1_5) h)
  | cons x1_ xs1 ih1 =>
    intro i1 v1_5 hd1 h
    rw [d_spec_Join_L1] at h
    refine AWr_succ fun N1 hN1 hS1 => ?_
    obtain ⟨h29, h⟩ | ⟨h29, h⟩ := den_if h
    · obtain ⟨h30, h⟩ := den_ok h
      obtain ⟨h31, h⟩ := den_ok h
      exact ((((((pre0.lt tx hd1).b h29).w (of_decide_eq_true h30)).l (map_row tx 1 (dc hd1) rfl)).w (of_decide_eq_true h31)).a [.cn [0, 1, 5, 6] []]).ct hΓ hS1 (iS hd1 hm1) (ih1 (i1 + 1) (((v1_5) ++ (a1_)) ++ (x1_)) (dn hd1) h)
    · obtain ⟨h32, h⟩ := den_ok h
      exact (((((pre0.lt tx hd1).b h29).l (map_row tx 1 (dc hd1) rfl)).w (of_decide_eq_true h32)).a [.cn [0, 1, 5, 6] []]).ct hΓ hS1 (iS hd1 hm1) (ih1 (i1 + 1) ((v1_5) ++ (x1_)) (dn hd1) h)
theorem d_spec_Join_good {a0_ : List Bytes} {a1_ : Bytes} {r : Bytes} (h : d_spec_Join a0_ a1_ = some r) : Good Tryz.prog 58 [D.sl ((a0_).map tx), D.str (a1_)] (D.str (r)) := by
  refine gd Tryz.func58 [[none]] 25 fun hr Γ hΓ => ?_
  rw [d_spec_Join] at h
  refine (pre0.a [.cn [0, 1, 5, 6] []]).lp hΓ (d_spec_Join_L1w hΓ (fun z1_5 h => ?_) (by have := (Rdb.sl (hr _ (List.mem_of_getElem? (i := 0) rfl))).1; simpa using this) (a0_) 0 ([]) rfl h)
  have h := den_some h; subst h; exact pre0.ret hΓ
def d_spec_FormatPattern (a0_ : Fact) : Option Bytes := ((d_spec_IsPattern (a0_)).bind fun y1 => (bif !(y1) then (some ([])) else (bif decide ((a0_.rel : Bytes).length + ([40] : Bytes).length ≤ maxLen) then ((d_spec_Join (a0_.args) ([44])).bind fun y5 => (bif decide (((a0_.rel) ++ ([40]) : Bytes).length + (y5 : Bytes).length ≤ maxLen) then (bif decide ((((a0_.rel) ++ ([40])) ++ (y5) : Bytes).length + ([41] : Bytes).length ≤ maxLen) then (some ((((a0_.rel) ++ ([40])) ++ (y5)) ++ ([41]))) else none) else none)) else none)))
theorem d_spec_FormatPattern_good {a0_ : Fact} {r : Bytes} (h : d_spec_FormatPattern a0_ = some r) : Good Tryz.prog 90 [D.agg (Fact.c a0_)] (D.str (r)) := by
  refine gd Tryz.func90 [[none]] 14 fun hr Γ hΓ => ?_
  rw [d_spec_FormatPattern] at h
  obtain ⟨y1, h2, h⟩ := den_bind h
  obtain ⟨h3, h⟩ | ⟨h3, h⟩ := den_if h
  · cases h; exact ((pre0.g (d_spec_IsPattern_good h2)).b h3).ret hΓ
  · obtain ⟨h4, h⟩ := den_ok h
    obtain ⟨y5, h6, h⟩ := den_bind h
    obtain ⟨h7, h⟩ := den_ok h
    obtain ⟨h8, h⟩ := den_ok h
    cases h; exact (((((((pre0.g (d_spec_IsPattern_good h2)).b h3).w (of_decide_eq_true h4)).a [.n 6]).g (d_spec_Join_good h6)).w (of_decide_eq_true h7)).w (of_decide_eq_true h8)).rts hΓ (D.str ((((a0_.rel) ++ ([40])) ++ (y5)) ++ ([41]))) (by first | rfl | (simp only [mA] <;> rfl))
def d_spec_l4Sign (a0_ : Int) : Option Bytes := (bif (a0_ : Int) == (3) then (some ([32, 61, 32])) else (bif (a0_ : Int) == (4) then (some ([32, 33, 61, 32])) else (some ([32, 60, 32]))))
theorem d_spec_l4Sign_good {a0_ : Int} {r : Bytes} (h : d_spec_l4Sign a0_ = some r) : Good Tryz.prog 91 [D.int .i64 (a0_)] (D.str (r)) := by
  refine gd Tryz.func91 [[none]] 8 fun hr Γ hΓ => ?_
  rw [d_spec_l4Sign] at h
  obtain ⟨h1, h⟩ | ⟨h1, h⟩ := den_if h
  · cases h; exact (pre0.b h1).ret hΓ
  · obtain ⟨h2, h⟩ | ⟨h2, h⟩ := den_if h
    · cases h; exact ((pre0.b h1).b h2).ret hΓ
    · cases h; exact ((pre0.b h1).b h2).ret hΓ
def d_spec_FormatCond (a0_ : Cond) : Option Bytes := ((d_spec_IsCond (a0_)).bind fun y1 => (bif !(y1) then (some ([])) else (bif (a0_.kind : Int) == (1) then ((d_spec_FormatPattern (a0_.pat)).bind fun y5 => (some (y5))) else (bif (a0_.kind : Int) == (2) then ((d_spec_FormatPattern (a0_.pat)).bind fun y8 => (bif decide (([110, 111, 116, 32] : Bytes).length + (y8 : Bytes).length ≤ maxLen) then (some (([110, 111, 116, 32]) ++ (y8))) else none)) else ((d_spec_l4Sign (a0_.kind)).bind fun y11 => (bif decide ((a0_.left : Bytes).length + (y11 : Bytes).length ≤ maxLen) then (bif decide (((a0_.left) ++ (y11) : Bytes).length + (a0_.right : Bytes).length ≤ maxLen) then (some (((a0_.left) ++ (y11)) ++ (a0_.right))) else none) else none))))))
theorem d_spec_FormatCond_good {a0_ : Cond} {r : Bytes} (h : d_spec_FormatCond a0_ = some r) : Good Tryz.prog 46 [D.agg (Cond.c a0_)] (D.str (r)) := by
  refine gd Tryz.func46 [[none]] 28 fun hr Γ hΓ => ?_
  rw [d_spec_FormatCond] at h
  obtain ⟨y1, h2, h⟩ := den_bind h
  obtain ⟨h3, h⟩ | ⟨h3, h⟩ := den_if h
  · cases h; exact ((pre0.g (d_spec_IsCond_good h2)).b h3).ret hΓ
  · have o1_ := ((pre0.g (d_spec_IsCond_good h2)).b h3)
    obtain ⟨h4, h⟩ | ⟨h4, h⟩ := den_if h
    · obtain ⟨y5, h6, h⟩ := den_bind h
      have h := den_some h; subst h; exact ((o1_.b h4).g (d_spec_FormatPattern_good h6)).ret hΓ
    · obtain ⟨h7, h⟩ | ⟨h7, h⟩ := den_if h
      · obtain ⟨y8, h9, h⟩ := den_bind h
        obtain ⟨h10, h⟩ := den_ok h
        cases h; exact ((((o1_.b h4).b h7).g (d_spec_FormatPattern_good h9)).w (of_decide_eq_true h10)).rts hΓ (D.str (([110, 111, 116, 32]) ++ (y8))) (by first | rfl | (simp only [mA] <;> rfl))
      · obtain ⟨y11, h12, h⟩ := den_bind h
        obtain ⟨h13, h⟩ := den_ok h
        obtain ⟨h14, h⟩ := den_ok h
        cases h; exact ((((((o1_.b h4).b h7).a [.n 8]).g (d_spec_l4Sign_good h12)).w (of_decide_eq_true h13)).w (of_decide_eq_true h14)).rts hΓ (D.str (((a0_.left) ++ (y11)) ++ (a0_.right))) (by first | rfl | (simp only [mA] <;> rfl))
def d_spec_NodeLine (a0_ : Network) (a1_ : Int) : Option Bytes := ((d_spec_l1In (a1_) (0) (IntKind.i64.wrap (((((a0_.nodes).map Node.c).length : Int)) - (1)))).bind fun y1 => (bif !(y1) then (some ([])) else ((atI (a0_.nodes) (a1_)).bind fun x4 => ((d_spec_FormatInt (a1_)).bind fun y6 => (bif decide ((y6 : Bytes).length + ([32, 60, 45, 32] : Bytes).length ≤ maxLen) then ((d_spec_FormatInt (x4.parent)).bind fun y9 => (bif decide (((y6) ++ ([32, 60, 45, 32]) : Bytes).length + (y9 : Bytes).length ≤ maxLen) then (bif decide ((((y6) ++ ([32, 60, 45, 32])) ++ (y9) : Bytes).length + ([58, 32] : Bytes).length ≤ maxLen) then (bif (a1_ : Int) == (0) then (bif decide (([48, 58, 32] : Bytes).length + ([91] : Bytes).length ≤ maxLen) then ((d_spec_FormatInt ((((x4.tokens).map Token.c).length : Int))).bind fun y15 => (bif decide ((([48, 58, 32]) ++ ([91]) : Bytes).length + (y15 : Bytes).length ≤ maxLen) then (bif decide (((([48, 58, 32]) ++ ([91])) ++ (y15) : Bytes).length + ([93] : Bytes).length ≤ maxLen) then (some (((([48, 58, 32]) ++ ([91])) ++ (y15)) ++ ([93]))) else none) else none)) else none) else ((d_spec_FormatCond (x4.cond)).bind fun y19 => (bif decide (((((y6) ++ ([32, 60, 45, 32])) ++ (y9)) ++ ([58, 32]) : Bytes).length + (y19 : Bytes).length ≤ maxLen) then (bif decide ((((((y6) ++ ([32, 60, 45, 32])) ++ (y9)) ++ ([58, 32])) ++ (y19) : Bytes).length + ([32] : Bytes).length ≤ maxLen) then (bif decide (((((((y6) ++ ([32, 60, 45, 32])) ++ (y9)) ++ ([58, 32])) ++ (y19)) ++ ([32]) : Bytes).length + ([91] : Bytes).length ≤ maxLen) then ((d_spec_FormatInt ((((x4.tokens).map Token.c).length : Int))).bind fun y24 => (bif decide ((((((((y6) ++ ([32, 60, 45, 32])) ++ (y9)) ++ ([58, 32])) ++ (y19)) ++ ([32])) ++ ([91]) : Bytes).length + (y24 : Bytes).length ≤ maxLen) then (bif decide (((((((((y6) ++ ([32, 60, 45, 32])) ++ (y9)) ++ ([58, 32])) ++ (y19)) ++ ([32])) ++ ([91])) ++ (y24) : Bytes).length + ([93] : Bytes).length ≤ maxLen) then (some (((((((((y6) ++ ([32, 60, 45, 32])) ++ (y9)) ++ ([58, 32])) ++ (y19)) ++ ([32])) ++ ([91])) ++ (y24)) ++ ([93]))) else none) else none)) else none) else none) else none))) else none) else none)) else none)))))
theorem d_spec_NodeLine_good {a0_ : Network} {a1_ : Int} {r : Bytes} (h : d_spec_NodeLine a0_ a1_ = some r) : Good Tryz.prog 10 [D.agg (Network.c a0_), D.int .i64 (a1_)] (D.str (r)) := by
  refine gd Tryz.func10 [[none]] 43 fun hr Γ hΓ => ?_
  rw [d_spec_NodeLine] at h
  obtain ⟨y1, h2, h⟩ := den_bind h
  obtain ⟨h3, h⟩ | ⟨h3, h⟩ := den_if h
  · cases h; exact ((pre0.g (d_spec_l1In_good h2)).b h3).ret hΓ
  · obtain ⟨x4, h5, h⟩ := den_bind h
    obtain ⟨y6, h7, h⟩ := den_bind h
    obtain ⟨h8, h⟩ := den_ok h
    obtain ⟨y9, h10, h⟩ := den_bind h
    obtain ⟨h11, h⟩ := den_ok h
    obtain ⟨h12, h⟩ := den_ok h
    have o1_ := (((((((((pre0.g (d_spec_l1In_good h2)).b h3).l (at_row Node.c 8 h5 rfl)).a [.n 6]).g (d_spec_FormatInt_good h7)).w (of_decide_eq_true h8)).g (d_spec_FormatInt_good h10)).w (of_decide_eq_true h11)).w (of_decide_eq_true h12))
    obtain ⟨h13, h⟩ | ⟨h13, h⟩ := den_if h
    · obtain ⟨h14, h⟩ := den_ok h
      obtain ⟨y15, h16, h⟩ := den_bind h
      obtain ⟨h17, h⟩ := den_ok h
      obtain ⟨h18, h⟩ := den_ok h
      cases h; exact (((((o1_.b h13).w (of_decide_eq_true h14)).g (d_spec_FormatInt_good h16)).w (of_decide_eq_true h17)).w (of_decide_eq_true h18)).rts hΓ (D.str (((([48, 58, 32]) ++ ([91])) ++ (y15)) ++ ([93]))) (by first | rfl | (simp only [mA] <;> rfl))
    · obtain ⟨y19, h20, h⟩ := den_bind h
      obtain ⟨h21, h⟩ := den_ok h
      obtain ⟨h22, h⟩ := den_ok h
      obtain ⟨h23, h⟩ := den_ok h
      obtain ⟨y24, h25, h⟩ := den_bind h
      obtain ⟨h26, h⟩ := den_ok h
      obtain ⟨h27, h⟩ := den_ok h
      cases h; exact ((((((((o1_.b h13).g (d_spec_FormatCond_good h20)).w (of_decide_eq_true h21)).w (of_decide_eq_true h22)).w (of_decide_eq_true h23)).g (d_spec_FormatInt_good h25)).w (of_decide_eq_true h26)).w (of_decide_eq_true h27)).rts hΓ (D.str (((((((((y6) ++ ([32, 60, 45, 32])) ++ (y9)) ++ ([58, 32])) ++ (y19)) ++ ([32])) ++ ([91])) ++ (y24)) ++ ([93]))) (by first | rfl | (simp only [mA] <;> rfl))
def d_impl_FormatInt (a0_ : Int) : Option Bytes := ((d_strconv_Itoa (a0_)).bind fun y1 => (some (y1)))
theorem d_impl_FormatInt_good {a0_ : Int} {r : Bytes} (h : d_impl_FormatInt a0_ = some r) : Good Tryz.prog 50 [D.int .i64 (a0_)] (D.str (r)) := by
  refine gd Tryz.func50 [[none]] 5 fun hr Γ hΓ => ?_
  rw [d_impl_FormatInt] at h
  obtain ⟨y1, h2, h⟩ := den_bind h
  have h := den_some h; subst h; exact (pre0.g (d_strconv_Itoa_good h2)).ret hΓ
def d_impl_IsAtom_L1 (a0_ : Bytes) (k1 : Option Bool) : Nat → Int → Option Bool
  | 0, _ => none
  | n1 + 1, v1_3 => (bif decide ((v1_3 : Int) < (((a0_).length : Int))) then ((atI (a0_) (v1_3)).bind fun b31 => (bif decide ((b31.toNat : Int) < (97)) then (bif decide ((b31.toNat : Int) < (48)) then (some (false)) else (bif decide ((b31.toNat : Int) > (57)) then (some (false)) else (d_impl_IsAtom_L1 a0_ k1 n1 (IntKind.i64.wrap ((v1_3) + (1)))))) else (bif decide ((b31.toNat : Int) > (122)) then (bif decide ((b31.toNat : Int) < (48)) then (some (false)) else (bif decide ((b31.toNat : Int) > (57)) then (some (false)) else (d_impl_IsAtom_L1 a0_ k1 n1 (IntKind.i64.wrap ((v1_3) + (1)))))) else (d_impl_IsAtom_L1 a0_ k1 n1 (IntKind.i64.wrap ((v1_3) + (1))))))) else (k1 ))
def d_impl_IsAtom (a0_ : Bytes) : Option Bool := (bif decide ((((a0_).length : Int) : Int) < (1)) then (some (false)) else (bif decide ((((a0_).length : Int) : Int) > (8)) then (some (false)) else (d_impl_IsAtom_L1 a0_ (some (true)) fuel (0))))
def d_impl_IsAtom_S1 (a0_ : Bytes) (v1_3 : Int) : St := ⟨[(0, D.str (a0_)), (3, D.int .i64 (v1_3))], []⟩
theorem d_impl_IsAtom_L1w (hΓ : Γ.nt = 40) {a0_ : Bytes} {r : Bool} {k1 : Option Bool} (hE1 : k1 = some r → Ax Γ N Tryz.f158 (.q [[none]] (D.bool (r))) [1, 1, 1] ⟨[], []⟩) : ∀ (n1 : Nat) (v1_3 : Int), d_impl_IsAtom_L1 a0_ k1 n1 v1_3 = some r → Ar Γ N Tryz.f158 (.q [[none]] (D.bool (r))) [1, 1, 0, 1, 0] n1 (d_impl_IsAtom_S1 a0_ v1_3) := by
  intro n
  induction n with
  | zero => intro v1_3 h; simp [d_impl_IsAtom_L1] at h
  | succ n1 ih1 =>
    intro v1_3 h
    rw [d_impl_IsAtom_L1] at h
    refine AWr_succ fun N1 hN1 hS1 => ?_
    obtain ⟨h30, h⟩ | ⟨h30, h⟩ := den_if h
    · obtain ⟨b31, h32, h⟩ := den_bind h
      have o7_ := ((pre0.b h30).c h32)
      obtain ⟨h33, h⟩ | ⟨h33, h⟩ := den_if h
      · have o8_ := ((((o7_.r 5 h33).T 3).c h32).T 2)
        obtain ⟨h34, h⟩ | ⟨h34, h⟩ := den_if h
        · have h := den_some h; subst h; exact ((((o8_.r 4 h34).T 1).b h34).T 2).ret hΓ
        · have o9_ := ((((((o8_.r 3 h34).c h32).b h34).T 1).b h34).T 1)
          obtain ⟨h35, h⟩ | ⟨h35, h⟩ := den_if h
          · have h := den_some h; subst h; exact (o9_.b h35).ret hΓ
          · exact ((o9_.b h35).a [.cn [0, 3] []]).cf hΓ hS1 (ih1 (IntKind.i64.wrap ((v1_3) + (1))) h)
      · have o10_ := (((o7_.r 3 h33).c h32).r 2 h33)
        obtain ⟨h36, h⟩ | ⟨h36, h⟩ := den_if h
        · have o11_ := (((o10_.r 3 h36).c h32).r 2 h36)
          obtain ⟨h37, h⟩ | ⟨h37, h⟩ := den_if h
          · have h := den_some h; subst h; exact (((((o11_.r 4 h37).b h36).b h37).b h36).T 1).ret hΓ
          · have o12_ := ((((((o11_.r 3 h37).c h32).b h37).b h36).b h37).b h36)
            obtain ⟨h38, h⟩ | ⟨h38, h⟩ := den_if h
            · have h := den_some h; subst h; exact (o12_.b h38).ret hΓ
            · exact ((o12_.b h38).a [.cn [0, 3] []]).cf hΓ hS1 (ih1 (IntKind.i64.wrap ((v1_3) + (1))) h)
        · exact (((o10_.r 7 h36).F 1).a [bF, bF, bF, bF, .cn [0, 3] []]).cf hΓ hS1 (ih1 (IntKind.i64.wrap ((v1_3) + (1))) h)
    · exact ((pre0.b h30).a [.hl 0 [] []]).ex hΓ hN1 (hE1 h)
theorem d_impl_IsAtom_good {a0_ : Bytes} {r : Bool} (h : d_impl_IsAtom a0_ = some r) : Good Tryz.prog 158 [D.str (a0_)] (D.bool (r)) := by
  refine gd Tryz.func158 [[none]] 40 fun hr Γ hΓ => ?_
  rw [d_impl_IsAtom] at h
  obtain ⟨h1, h⟩ | ⟨h1, h⟩ := den_if h
  · have h := den_some h; subst h; exact ((pre0.r 4 h1).T 1).ret hΓ
  · have o13_ := (pre0.r 4 h1)
    obtain ⟨h2, h⟩ | ⟨h2, h⟩ := den_if h
    · have h := den_some h; subst h; exact (o13_.b h2).ret hΓ
    · refine ((o13_.b h2).a [.cn [0, 3] []]).lp hΓ (d_impl_IsAtom_L1w hΓ (fun h => ?_) fuel (0) h)
      have h := den_some h; subst h; exact pre0.ret hΓ
def d_impl_IsName (a0_ : Bytes) : Option Bool := ((d_impl_IsAtom (a0_)).bind fun y1 => (bif y1 then ((atI (a0_) (0)).bind fun b4 => (some (decide ((b4.toNat : Int) ≥ (97))))) else (some (false))))
theorem d_impl_IsName_good {a0_ : Bytes} {r : Bool} (h : d_impl_IsName a0_ = some r) : Good Tryz.prog 111 [D.str (a0_)] (D.bool (r)) := by
  refine gd Tryz.func111 [[none]] 10 fun hr Γ hΓ => ?_
  rw [d_impl_IsName] at h
  obtain ⟨y1, h2, h⟩ := den_bind h
  obtain ⟨h3, h⟩ | ⟨h3, h⟩ := den_if h
  · obtain ⟨b4, h5, h⟩ := den_bind h
    cases h; exact ((((pre0.g (d_impl_IsAtom_good h2)).r 2 h3).c h5).r 2 h3).ret hΓ
  · have h := den_some h; subst h; exact ((pre0.g (d_impl_IsAtom_good h2)).r 4 h3).ret hΓ
def d_impl_IsVar (a0_ : Bytes) : Option Bool := (bif decide ((((a0_).length : Int) : Int) > (1)) then ((atI (a0_) (0)).bind fun b2 => (bif (b2.toNat : Int) == (63) then ((pcut (a0_).length (some (D.int .i64 (1))) (none)).bind fun p => (fun l5 u6 => ((d_impl_IsAtom (((a0_).take u6).drop l5)).bind fun y8 => (some (y8)))) p.1 p.2) else (some (false)))) else (some (false)))
theorem d_impl_IsVar_good {a0_ : Bytes} {r : Bool} (h : d_impl_IsVar a0_ = some r) : Good Tryz.prog 161 [D.str (a0_)] (D.bool (r)) := by
  refine gd Tryz.func161 [[none]] 16 fun hr Γ hΓ => ?_
  rw [d_impl_IsVar] at h
  obtain ⟨h1, h⟩ | ⟨h1, h⟩ := den_if h
  · obtain ⟨b2, h3, h⟩ := den_bind h
    have o1_ := (((pre0.r 2 h1).c h3).r 2 h1)
    obtain ⟨h4, h⟩ | ⟨h4, h⟩ := den_if h
    · obtain ⟨⟨l5, u6⟩, h7, h⟩ := den_bind h
      obtain ⟨y8, h9, h⟩ := den_bind h
      have h := den_some h; subst h; exact ((((((o1_.r 2 h4).w h7).a [.cut l5 u6]).b h4).g (d_impl_IsAtom_good h9)).b h4).ret hΓ
    · have h := den_some h; subst h; exact (o1_.r 4 h4).ret hΓ
  · have h := den_some h; subst h; exact ((pre0.r 4 h1).F 4).ret hΓ
def d_impl_IsTerm (a0_ : Bytes) : Option Bool := ((d_impl_IsAtom (a0_)).bind fun y1 => (bif y1 then (some (true)) else ((d_impl_IsVar (a0_)).bind fun y4 => (some (y4)))))
theorem d_impl_IsTerm_good {a0_ : Bytes} {r : Bool} (h : d_impl_IsTerm a0_ = some r) : Good Tryz.prog 151 [D.str (a0_)] (D.bool (r)) := by
  refine gd Tryz.func151 [[none]] 9 fun hr Γ hΓ => ?_
  rw [d_impl_IsTerm] at h
  obtain ⟨y1, h2, h⟩ := den_bind h
  obtain ⟨h3, h⟩ | ⟨h3, h⟩ := den_if h
  · have h := den_some h; subst h; exact ((pre0.g (d_impl_IsAtom_good h2)).r 3 h3).ret hΓ
  · obtain ⟨y4, h5, h⟩ := den_bind h
    have h := den_some h; subst h; exact ((((pre0.g (d_impl_IsAtom_good h2)).r 2 h3).g (d_impl_IsVar_good h5)).b h3).ret hΓ
def d_impl_IsPattern_L1 (a0_ : Fact) (k1 : Option Bool) : List Bytes → Nat → Option Bool
  | [], i1 => (k1 )
  | x1_ :: xs1, i1 => ((d_impl_IsTerm (x1_)).bind fun y25 => (bif !(y25) then (some (false)) else (d_impl_IsPattern_L1 a0_ k1 xs1 (i1 + 1) )))
def d_impl_IsPattern (a0_ : Fact) : Option Bool := ((d_impl_IsName (a0_.rel)).bind fun y1 => (bif !(y1) then (some (false)) else (bif decide (((((a0_.args).map tx).length : Int) : Int) > (3)) then (some (false)) else (d_impl_IsPattern_L1 a0_ (some (true)) (a0_.args) 0 ))))
def d_impl_IsPattern_S1 (a0_ : Fact) (ix_ : Int) : St := ⟨[(16, D.sl ((a0_.args).map tx)), (17, D.int .i64 ((((a0_.args).map tx).length : Int))), (18, D.int .i64 (ix_))], []⟩
theorem d_impl_IsPattern_L1w (hΓ : Γ.nt = 26) {a0_ : Fact} {r : Bool} {k1 : Option Bool} (hE1 : k1 = some r → Ax Γ N Tryz.f150 (.q [[none]] (D.bool (r))) [1, 1, 1] ⟨[], []⟩) (hm1 : (a0_.args).length ≤ maxLen) : ∀ (rest : List Bytes) (i1 : Nat) , (a0_.args).drop i1 = rest → d_impl_IsPattern_L1 a0_ k1 rest i1  = some r → Ar Γ N Tryz.f150 (.q [[none]] (D.bool (r))) [1, 1, 0, 1, 0] (rest.length + 1) (d_impl_IsPattern_S1 a0_ ((i1 : Int))) := by
  intro rest
  induction rest with
  | nil =>
    intro i1  hd1 h
    rw [d_impl_IsPattern_L1] at h
    refine AWr_succ fun N1 hN1 hS1 => ?_
    exact ((pre0.ge tx hd1).a [.hl 0 [] []]).ex hΓ hN1 (hE1 h)
  | cons x1_ xs1 ih1 =>
    intro i1  hd1 h
    rw [d_impl_IsPattern_L1] at h
    refine AWr_succ fun N1 hN1 hS1 => ?_
    obtain ⟨y25, h26, h⟩ := den_bind h
    have o2_ := (((pre0.lt tx hd1).l (map_row tx 1 (dc hd1) rfl)).g (d_impl_IsTerm_good h26))
    obtain ⟨h27, h⟩ | ⟨h27, h⟩ := den_if h
    · have h := den_some h; subst h; exact (o2_.b h27).ret hΓ
    · exact ((o2_.b h27).a [.cn [16, 17, 18] []]).ct hΓ hS1 (iS hd1 hm1) (ih1 (i1 + 1)  (dn hd1) h)
theorem d_impl_IsPattern_good {a0_ : Fact} {r : Bool} (h : d_impl_IsPattern a0_ = some r) : Good Tryz.prog 150 [D.agg (Fact.c a0_)] (D.bool (r)) := by
  refine gd Tryz.func150 [[none]] 26 fun hr Γ hΓ => ?_
  rw [d_impl_IsPattern] at h
  obtain ⟨y1, h2, h⟩ := den_bind h
  obtain ⟨h3, h⟩ | ⟨h3, h⟩ := den_if h
  · have h := den_some h; subst h; exact (((pre0.g (d_impl_IsName_good h2)).r 5 h3).T 1).ret hΓ
  · have o3_ := ((pre0.g (d_impl_IsName_good h2)).r 5 h3)
    obtain ⟨h4, h⟩ | ⟨h4, h⟩ := den_if h
    · have h := den_some h; subst h; exact (o3_.b h4).ret hΓ
    · refine ((o3_.b h4).a [.cn [16, 17, 18] []]).lp hΓ (d_impl_IsPattern_L1w hΓ (fun h => ?_) (by have := (Rdb.sl (Rdb.agg (hr _ (List.mem_of_getElem? (i := 0) rfl)) (.sl ((a0_.args).map tx)) (by simp))).1; simpa using this) (a0_.args) 0  rfl h)
      have h := den_some h; subst h; exact pre0.ret hΓ
def d_impl_zeroPattern (a0_ : Fact) : Option Bool := (bif (a0_.rel : Bytes) == ([]) then (some (((((a0_.args).map tx).length : Int) : Int) == (0))) else (some (false)))
theorem d_impl_zeroPattern_good {a0_ : Fact} {r : Bool} (h : d_impl_zeroPattern a0_ = some r) : Good Tryz.prog 152 [D.agg (Fact.c a0_)] (D.bool (r)) := by
  refine gd Tryz.func152 [[none]] 12 fun hr Γ hΓ => ?_
  rw [d_impl_zeroPattern] at h
  obtain ⟨h1, h⟩ | ⟨h1, h⟩ := den_if h
  · cases h; exact (pre0.r 5 h1).ret hΓ
  · have h := den_some h; subst h; exact (pre0.r 5 h1).ret hΓ
def d_impl_IsCond (a0_ : Cond) : Option Bool := (bif (a0_.kind : Int) == (1) then ((d_impl_IsPattern (a0_.pat)).bind fun y2 => (bif y2 then (bif (a0_.left : Bytes) == ([]) then (some ((a0_.right : Bytes) == ([]))) else (some (false))) else (some (false)))) else (bif (a0_.kind : Int) == (2) then ((d_impl_IsPattern (a0_.pat)).bind fun y7 => (bif y7 then (bif (a0_.left : Bytes) == ([]) then (some ((a0_.right : Bytes) == ([]))) else (some (false))) else (some (false)))) else (bif (a0_.kind : Int) == (3) then ((d_impl_IsTerm (a0_.left)).bind fun y12 => (bif y12 then ((d_impl_IsTerm (a0_.right)).bind fun y15 => (bif y15 then ((d_impl_zeroPattern (a0_.pat)).bind fun y18 => (some (y18))) else (some (false)))) else (some (false)))) else (bif (a0_.kind : Int) == (4) then ((d_impl_IsTerm (a0_.left)).bind fun y21 => (bif y21 then ((d_impl_IsTerm (a0_.right)).bind fun y24 => (bif y24 then ((d_impl_zeroPattern (a0_.pat)).bind fun y27 => (some (y27))) else (some (false)))) else (some (false)))) else (bif (a0_.kind : Int) == (5) then ((d_impl_IsTerm (a0_.left)).bind fun y30 => (bif y30 then ((d_impl_IsTerm (a0_.right)).bind fun y33 => (bif y33 then ((d_impl_zeroPattern (a0_.pat)).bind fun y36 => (some (y36))) else (some (false)))) else (some (false)))) else (some (false)))))))
theorem d_impl_IsCond_good {a0_ : Cond} {r : Bool} (h : d_impl_IsCond a0_ = some r) : Good Tryz.prog 95 [D.agg (Cond.c a0_)] (D.bool (r)) := by
  refine gd Tryz.func95 [[none]] 38 fun hr Γ hΓ => ?_
  rw [d_impl_IsCond] at h
  obtain ⟨h1, h⟩ | ⟨h1, h⟩ := den_if h
  · obtain ⟨y2, h3, h⟩ := den_bind h
    have o1_ := ((pre0.r 2 h1).g (d_impl_IsPattern_good h3))
    obtain ⟨h4, h⟩ | ⟨h4, h⟩ := den_if h
    · have o2_ := (o1_.r 4 h4)
      obtain ⟨h5, h⟩ | ⟨h5, h⟩ := den_if h
      · cases h; exact (o2_.r 4 h5).ret hΓ
      · have h := den_some h; subst h; exact (o2_.r 4 h5).ret hΓ
    · have h := den_some h; subst h; exact ((o1_.r 4 h4).F 4).ret hΓ
  · obtain ⟨h6, h⟩ | ⟨h6, h⟩ := den_if h
    · obtain ⟨y7, h8, h⟩ := den_bind h
      have o3_ := (((pre0.b h1).b h6).g (d_impl_IsPattern_good h8))
      obtain ⟨h9, h⟩ | ⟨h9, h⟩ := den_if h
      · have o4_ := (o3_.r 4 h9)
        obtain ⟨h10, h⟩ | ⟨h10, h⟩ := den_if h
        · cases h; exact (o4_.r 4 h10).ret hΓ
        · have h := den_some h; subst h; exact (o4_.r 4 h10).ret hΓ
      · have h := den_some h; subst h; exact ((o3_.r 4 h9).F 4).ret hΓ
    · have o5_ := ((pre0.b h1).b h6)
      obtain ⟨h11, h⟩ | ⟨h11, h⟩ := den_if h
      · obtain ⟨y12, h13, h⟩ := den_bind h
        have o6_ := ((o5_.r 2 h11).g (d_impl_IsTerm_good h13))
        obtain ⟨h14, h⟩ | ⟨h14, h⟩ := den_if h
        · obtain ⟨y15, h16, h⟩ := den_bind h
          have o7_ := (((o6_.r 3 h14).g (d_impl_IsTerm_good h16)).b h14)
          obtain ⟨h17, h⟩ | ⟨h17, h⟩ := den_if h
          · obtain ⟨y18, h19, h⟩ := den_bind h
            have h := den_some h; subst h; exact (((o7_.r 3 h17).g (d_impl_zeroPattern_good h19)).b h17).ret hΓ
          · have h := den_some h; subst h; exact (o7_.r 4 h17).ret hΓ
        · have h := den_some h; subst h; exact ((o6_.r 4 h14).F 4).ret hΓ
      · obtain ⟨h20, h⟩ | ⟨h20, h⟩ := den_if h
        · obtain ⟨y21, h22, h⟩ := den_bind h
          have o8_ := (((o5_.b h11).r 2 h20).g (d_impl_IsTerm_good h22))
          obtain ⟨h23, h⟩ | ⟨h23, h⟩ := den_if h
          · obtain ⟨y24, h25, h⟩ := den_bind h
            have o9_ := (((o8_.r 3 h23).g (d_impl_IsTerm_good h25)).b h23)
            obtain ⟨h26, h⟩ | ⟨h26, h⟩ := den_if h
            · obtain ⟨y27, h28, h⟩ := den_bind h
              have h := den_some h; subst h; exact (((o9_.r 3 h26).g (d_impl_zeroPattern_good h28)).b h26).ret hΓ
            · have h := den_some h; subst h; exact (o9_.r 4 h26).ret hΓ
          · have h := den_some h; subst h; exact ((o8_.r 4 h23).F 4).ret hΓ
        · have o10_ := ((o5_.b h11).b h20)
          obtain ⟨h29, h⟩ | ⟨h29, h⟩ := den_if h
          · obtain ⟨y30, h31, h⟩ := den_bind h
            have o11_ := ((o10_.b h29).g (d_impl_IsTerm_good h31))
            obtain ⟨h32, h⟩ | ⟨h32, h⟩ := den_if h
            · obtain ⟨y33, h34, h⟩ := den_bind h
              have o12_ := (((o11_.r 3 h32).g (d_impl_IsTerm_good h34)).b h32)
              obtain ⟨h35, h⟩ | ⟨h35, h⟩ := den_if h
              · obtain ⟨y36, h37, h⟩ := den_bind h
                have h := den_some h; subst h; exact (((o12_.r 3 h35).g (d_impl_zeroPattern_good h37)).b h35).ret hΓ
              · have h := den_some h; subst h; exact (o12_.r 4 h35).ret hΓ
            · have h := den_some h; subst h; exact ((o11_.r 4 h32).F 4).ret hΓ
          · have h := den_some h; subst h; exact (o10_.b h29).ret hΓ
def d_impl_Join (a0_ : List Bytes) (a1_ : Bytes) : Option Bytes := ((d_strings_Join (a0_) (a1_)).bind fun y1 => (some (y1)))
theorem d_impl_Join_good {a0_ : List Bytes} {a1_ : Bytes} {r : Bytes} (h : d_impl_Join a0_ a1_ = some r) : Good Tryz.prog 63 [D.sl ((a0_).map tx), D.str (a1_)] (D.str (r)) := by
  refine gd Tryz.func63 [[none]] 8 fun hr Γ hΓ => ?_
  rw [d_impl_Join] at h
  obtain ⟨y1, h2, h⟩ := den_bind h
  have h := den_some h; subst h; exact (pre0.g (d_strings_Join_good h2)).ret hΓ
def d_impl_FormatPattern (a0_ : Fact) : Option Bytes := ((d_impl_IsPattern (a0_)).bind fun y1 => (bif !(y1) then (some ([])) else (bif decide ((a0_.rel : Bytes).length + ([40] : Bytes).length ≤ maxLen) then ((d_impl_Join (a0_.args) ([44])).bind fun y5 => (bif decide (((a0_.rel) ++ ([40]) : Bytes).length + (y5 : Bytes).length ≤ maxLen) then (bif decide ((((a0_.rel) ++ ([40])) ++ (y5) : Bytes).length + ([41] : Bytes).length ≤ maxLen) then (some ((((a0_.rel) ++ ([40])) ++ (y5)) ++ ([41]))) else none) else none)) else none)))
theorem d_impl_FormatPattern_good {a0_ : Fact} {r : Bytes} (h : d_impl_FormatPattern a0_ = some r) : Good Tryz.prog 96 [D.agg (Fact.c a0_)] (D.str (r)) := by
  refine gd Tryz.func96 [[none]] 14 fun hr Γ hΓ => ?_
  rw [d_impl_FormatPattern] at h
  obtain ⟨y1, h2, h⟩ := den_bind h
  obtain ⟨h3, h⟩ | ⟨h3, h⟩ := den_if h
  · cases h; exact ((pre0.g (d_impl_IsPattern_good h2)).b h3).ret hΓ
  · obtain ⟨h4, h⟩ := den_ok h
    obtain ⟨y5, h6, h⟩ := den_bind h
    obtain ⟨h7, h⟩ := den_ok h
    obtain ⟨h8, h⟩ := den_ok h
    cases h; exact (((((((pre0.g (d_impl_IsPattern_good h2)).b h3).w (of_decide_eq_true h4)).a [.n 6]).g (d_impl_Join_good h6)).w (of_decide_eq_true h7)).w (of_decide_eq_true h8)).rts hΓ (D.str ((((a0_.rel) ++ ([40])) ++ (y5)) ++ ([41]))) (by first | rfl | (simp only [mA] <;> rfl))
def d_impl_FormatCond (a0_ : Cond) : Option Bytes := ((d_impl_IsCond (a0_)).bind fun y1 => (bif !(y1) then (some ([])) else (bif (a0_.kind : Int) == (1) then ((d_impl_FormatPattern (a0_.pat)).bind fun y5 => (some (y5))) else (bif (a0_.kind : Int) == (2) then ((d_impl_FormatPattern (a0_.pat)).bind fun y8 => (bif decide (([110, 111, 116, 32] : Bytes).length + (y8 : Bytes).length ≤ maxLen) then (some (([110, 111, 116, 32]) ++ (y8))) else none)) else ((atI ([[32, 61, 32], [32, 33, 61, 32], [32, 60, 32]] : List Bytes) (IntKind.i64.wrap ((a0_.kind) - (3)))).bind fun s11 => (bif decide ((a0_.left : Bytes).length + (s11 : Bytes).length ≤ maxLen) then (bif decide (((a0_.left) ++ (s11) : Bytes).length + (a0_.right : Bytes).length ≤ maxLen) then (some (((a0_.left) ++ (s11)) ++ (a0_.right))) else none) else none))))))
theorem d_impl_FormatCond_good {a0_ : Cond} {r : Bytes} (h : d_impl_FormatCond a0_ = some r) : Good Tryz.prog 51 [D.agg (Cond.c a0_)] (D.str (r)) := by
  refine gd Tryz.func51 [[none]] 30 fun hr Γ hΓ => ?_
  rw [d_impl_FormatCond] at h
  obtain ⟨y1, h2, h⟩ := den_bind h
  obtain ⟨h3, h⟩ | ⟨h3, h⟩ := den_if h
  · cases h; exact ((pre0.g (d_impl_IsCond_good h2)).b h3).ret hΓ
  · have o1_ := ((pre0.g (d_impl_IsCond_good h2)).b h3)
    obtain ⟨h4, h⟩ | ⟨h4, h⟩ := den_if h
    · obtain ⟨y5, h6, h⟩ := den_bind h
      have h := den_some h; subst h; exact ((o1_.b h4).g (d_impl_FormatPattern_good h6)).ret hΓ
    · obtain ⟨h7, h⟩ | ⟨h7, h⟩ := den_if h
      · obtain ⟨y8, h9, h⟩ := den_bind h
        obtain ⟨h10, h⟩ := den_ok h
        cases h; exact ((((o1_.b h4).b h7).g (d_impl_FormatPattern_good h9)).w (of_decide_eq_true h10)).rts hΓ (D.str (([110, 111, 116, 32]) ++ (y8))) (by first | rfl | (simp only [mA] <;> rfl))
      · obtain ⟨s11, h12, h⟩ := den_bind h
        obtain ⟨h13, h⟩ := den_ok h
        obtain ⟨h14, h⟩ := den_ok h
        cases h; exact (((((((o1_.b h4).b h7).w (glob_ix (m := 3) rfl h12)).w (glob_at (g := 0) (fun _ => rfl) h12)).w (of_decide_eq_true h13)).w (of_decide_eq_true h14)).a [.n 10, .ix (IntKind.i64.wrap ((a0_.kind) - (3))).toNat, .d (D.str (s11))]).rts hΓ (D.str (((a0_.left) ++ (s11)) ++ (a0_.right))) (by first | rfl | (simp only [mA] <;> rfl))
def d_impl_NodeLine (a0_ : Network) (a1_ : Int) : Option Bytes := (bif decide ((a1_ : Int) < (0)) then (some ([])) else (bif decide ((a1_ : Int) ≥ ((((a0_.nodes).map Node.c).length : Int))) then (some ([])) else ((atI (a0_.nodes) (a1_)).bind fun x3 => ((d_impl_FormatInt ((((x3.tokens).map Token.c).length : Int))).bind fun y5 => (bif decide (([91] : Bytes).length + (y5 : Bytes).length ≤ maxLen) then (bif decide ((([91]) ++ (y5) : Bytes).length + ([93] : Bytes).length ≤ maxLen) then (bif (a1_ : Int) == (0) then (bif decide (([48, 58, 32] : Bytes).length + ((([91]) ++ (y5)) ++ ([93]) : Bytes).length ≤ maxLen) then (some (([48, 58, 32]) ++ ((([91]) ++ (y5)) ++ ([93])))) else none) else ((d_impl_FormatInt (a1_)).bind fun y11 => (bif decide ((y11 : Bytes).length + ([32, 60, 45, 32] : Bytes).length ≤ maxLen) then ((d_impl_FormatInt (x3.parent)).bind fun y14 => (bif decide (((y11) ++ ([32, 60, 45, 32]) : Bytes).length + (y14 : Bytes).length ≤ maxLen) then (bif decide ((((y11) ++ ([32, 60, 45, 32])) ++ (y14) : Bytes).length + ([58, 32] : Bytes).length ≤ maxLen) then ((d_impl_FormatCond (x3.cond)).bind fun y18 => (bif decide (((((y11) ++ ([32, 60, 45, 32])) ++ (y14)) ++ ([58, 32]) : Bytes).length + (y18 : Bytes).length ≤ maxLen) then (bif decide ((((((y11) ++ ([32, 60, 45, 32])) ++ (y14)) ++ ([58, 32])) ++ (y18) : Bytes).length + ([32] : Bytes).length ≤ maxLen) then (bif decide (((((((y11) ++ ([32, 60, 45, 32])) ++ (y14)) ++ ([58, 32])) ++ (y18)) ++ ([32]) : Bytes).length + ((([91]) ++ (y5)) ++ ([93]) : Bytes).length ≤ maxLen) then (some (((((((y11) ++ ([32, 60, 45, 32])) ++ (y14)) ++ ([58, 32])) ++ (y18)) ++ ([32])) ++ ((([91]) ++ (y5)) ++ ([93])))) else none) else none) else none)) else none) else none)) else none))) else none) else none)))))
theorem d_impl_NodeLine_good {a0_ : Network} {a1_ : Int} {r : Bytes} (h : d_impl_NodeLine a0_ a1_ = some r) : Good Tryz.prog 12 [D.agg (Network.c a0_), D.int .i64 (a1_)] (D.str (r)) := by
  refine gd Tryz.func12 [[none]] 46 fun hr Γ hΓ => ?_
  rw [d_impl_NodeLine] at h
  obtain ⟨h1, h⟩ | ⟨h1, h⟩ := den_if h
  · cases h; exact ((pre0.r 6 h1).T 1).ret hΓ
  · have o1_ := (pre0.r 6 h1)
    obtain ⟨h2, h⟩ | ⟨h2, h⟩ := den_if h
    · cases h; exact (o1_.b h2).ret hΓ
    · obtain ⟨x3, h4, h⟩ := den_bind h
      obtain ⟨y5, h6, h⟩ := den_bind h
      obtain ⟨h7, h⟩ := den_ok h
      obtain ⟨h8, h⟩ := den_ok h
      have o2_ := (((((o1_.b h2).l (at_row Node.c 8 h4 rfl)).g (d_impl_FormatInt_good h6)).w (of_decide_eq_true h7)).w (of_decide_eq_true h8))
      obtain ⟨h9, h⟩ | ⟨h9, h⟩ := den_if h
      · obtain ⟨h10, h⟩ := den_ok h
        cases h; exact ((o2_.b h9).w (of_decide_eq_true h10)).rts hΓ (D.str (([48, 58, 32]) ++ ((([91]) ++ (y5)) ++ ([93])))) (by first | rfl | (simp only [mA] <;> rfl))
      · obtain ⟨y11, h12, h⟩ := den_bind h
        obtain ⟨h13, h⟩ := den_ok h
        obtain ⟨y14, h15, h⟩ := den_bind h
        obtain ⟨h16, h⟩ := den_ok h
        obtain ⟨h17, h⟩ := den_ok h
        obtain ⟨y18, h19, h⟩ := den_bind h
        obtain ⟨h20, h⟩ := den_ok h
        obtain ⟨h21, h⟩ := den_ok h
        obtain ⟨h22, h⟩ := den_ok h
        cases h; exact (((((((((((o2_.b h9).a [.n 14]).g (d_impl_FormatInt_good h12)).w (of_decide_eq_true h13)).g (d_impl_FormatInt_good h15)).w (of_decide_eq_true h16)).w (of_decide_eq_true h17)).g (d_impl_FormatCond_good h19)).w (of_decide_eq_true h20)).w (of_decide_eq_true h21)).w (of_decide_eq_true h22)).rts hΓ (D.str (((((((y11) ++ ([32, 60, 45, 32])) ++ (y14)) ++ ([58, 32])) ++ (y18)) ++ ([32])) ++ ((([91]) ++ (y5)) ++ ([93])))) (by first | rfl | (simp only [mA] <;> rfl))
end Go.Cx
