/- What functions of the program compute, and the walks that show it. No condition. -/
import Derived.Test.YtdckcgjimblpkaaGreatDoorNLay
namespace Go.Cx
open Go.RowKit Go.Proofs
set_option linter.unusedVariables false
set_option linter.unusedSimpArgs false
set_option maxRecDepth 100000
variable {Γ : Ctx} {N : Nat → St → Prop}
def d_spec_l1In (a0_ : Int) (a1_ : Int) (a2_ : Int) : Option Bool := (bif decide ((a0_ : Int) ≥ (a1_)) then (some (decide ((a0_ : Int) ≤ (a2_)))) else (some (false)))
theorem d_spec_l1In_good {a0_ : Int} {a1_ : Int} {a2_ : Int} {r : Bool} (h : d_spec_l1In a0_ a1_ a2_ = some r) : Good Tryz.prog 44 [D.int .i64 (a0_), D.int .i64 (a1_), D.int .i64 (a2_)] (D.bool (r)) := by
  refine gd Tryz.func44 15 fun hr Γ hΓ => ?_
  rw [d_spec_l1In] at h
  obtain ⟨h1, h⟩ | ⟨h1, h⟩ := den_if h
  · cases h; exact (pre0.r 4 h1).ret [[none]] hΓ
  · have h := den_some h; subst h; exact (pre0.r 4 h1).ret [[none]] hΓ
def d_spec_FormatInt_R_L1  (k1 : Option Bytes) : Nat → Int → Bytes → Option Bytes
  | 0, _, _ => none
  | n1 + 1, v1_0, v1_3 => (bif decide (0 ≤ (v1_0 : Int)) && decide (0 < (10 : Int)) then (bif decide (([UInt8.ofNat (IntKind.u8.wrap (IntKind.i64.wrap ((48) + ((v1_0 : Int) % (10))))).toNat] : Bytes).length + (v1_3 : Bytes).length ≤ maxLen) then (bif decide (0 ≤ (v1_0 : Int)) && decide (0 < (10 : Int)) then (bif ((v1_0 : Int) / (10) : Int) == (0) then (some (([UInt8.ofNat (IntKind.u8.wrap (IntKind.i64.wrap ((48) + ((v1_0 : Int) % (10))))).toNat]) ++ (v1_3))) else (d_spec_FormatInt_R_L1  k1 n1 ((v1_0 : Int) / (10)) (([UInt8.ofNat (IntKind.u8.wrap (IntKind.i64.wrap ((48) + ((v1_0 : Int) % (10))))).toNat]) ++ (v1_3)))) else none) else none) else none)
def d_spec_FormatInt_R : Nat → Int → Option Bytes
  | 0, _ => none
  | m_ + 1, a0_ => (bif (a0_ : Int) == (-9223372036854775808) then (some ([45, 57, 50, 50, 51, 51, 55, 50, 48, 51, 54, 56, 53, 52, 55, 55, 53, 56, 48, 56])) else (bif decide ((a0_ : Int) < (0)) then ((d_spec_FormatInt_R m_ (IntKind.i64.wrap (0 - (a0_)))).bind fun y3 => (bif decide (([45] : Bytes).length + (y3 : Bytes).length ≤ maxLen) then (some (([45]) ++ (y3))) else none)) else (d_spec_FormatInt_R_L1  none fuel (a0_) ([]))))
def d_spec_FormatInt_R_S1 (v1_0 : Int) (v1_3 : Bytes) : St := ⟨[(0, D.int .i64 (v1_0)), (3, D.str (v1_3))], []⟩
theorem d_spec_FormatInt_R_L1w (hΓ : Γ.nt = 25)  {r : Bytes} {k1 : Option Bytes} (hE1 : k1 = some r → Ax Γ N Tryz.f45 (D.str (r)) [1, 1, 1, 1, 0, 0] ⟨[], []⟩) : ∀ (n1 : Nat) (v1_0 : Int) (v1_3 : Bytes), d_spec_FormatInt_R_L1  k1 n1 v1_0 v1_3 = some r → Ar Γ N Tryz.f45 (D.str (r)) [1, 1, 1, 1, 0] n1 (d_spec_FormatInt_R_S1 v1_0 v1_3) := by
  intro n
  induction n with
  | zero => intro v1_0 v1_3 h; simp [d_spec_FormatInt_R_L1] at h
  | succ n1 ih1 =>
    intro v1_0 v1_3 h
    rw [d_spec_FormatInt_R_L1] at h
    refine AWr_succ fun N1 hN1 hS1 => ?_
    obtain ⟨h14, h⟩ := den_ok h
    obtain ⟨h15, h⟩ := den_ok h
    obtain ⟨h16, h⟩ := den_ok h
    have o2_ := (((pre0.w (quo_ok .i64 h14)).w (of_decide_eq_true h15)).w (quo_ok .i64 h16))
    obtain ⟨h17, h⟩ | ⟨h17, h⟩ := den_if h
    · cases h; exact (o2_.b h17).rts [[none]] hΓ (D.str (([UInt8.ofNat (IntKind.u8.wrap (IntKind.i64.wrap ((48) + ((v1_0 : Int) % (10))))).toNat]) ++ (v1_3))) (by first | rfl | (simp only [mA] <;> rfl))
    · exact ((o2_.b h17).a [.cn [0, 3] []]).cf [[none]] hΓ hS1 (ih1 ((v1_0 : Int) / (10)) (([UInt8.ofNat (IntKind.u8.wrap (IntKind.i64.wrap ((48) + ((v1_0 : Int) % (10))))).toNat]) ++ (v1_3)) h)
theorem d_spec_FormatInt_R_step {m_ : Nat} (ihR : ∀ {a0_ : Int} {r : Bytes}, d_spec_FormatInt_R m_ a0_ = some r → Good Tryz.prog 45 [D.int .i64 (a0_)] (D.str (r))) {a0_ : Int} {r : Bytes} (h : d_spec_FormatInt_R (m_ + 1) a0_ = some r) : Good Tryz.prog 45 [D.int .i64 (a0_)] (D.str (r)) := by
  refine gd Tryz.func45 25 fun hr Γ hΓ => ?_
  rw [d_spec_FormatInt_R] at h
  obtain ⟨h1, h⟩ | ⟨h1, h⟩ := den_if h
  · cases h; exact (pre0.b h1).ret [[none]] hΓ
  · obtain ⟨h2, h⟩ | ⟨h2, h⟩ := den_if h
    · obtain ⟨y3, h4, h⟩ := den_bind h
      obtain ⟨h5, h⟩ := den_ok h
      cases h; exact ((((pre0.b h1).b h2).g (ihR h4)).w (of_decide_eq_true h5)).rts [[none]] hΓ (D.str (([45]) ++ (y3))) (by first | rfl | (simp only [mA] <;> rfl))
    · refine (((pre0.b h1).b h2).a [.cn [0, 3] []]).lp [[none]] hΓ (d_spec_FormatInt_R_L1w hΓ (fun h => ?_) fuel (a0_) ([]) h)
      cases h
theorem d_spec_FormatInt_R_good : ∀ (m_ : Nat) {a0_ : Int} {r : Bytes}, d_spec_FormatInt_R m_ a0_ = some r → Good Tryz.prog 45 [D.int .i64 (a0_)] (D.str (r))
  | 0, _, _, h => by cases h
  | m_ + 1, _, _, h => d_spec_FormatInt_R_step (fun h => d_spec_FormatInt_R_good m_ h) h
def d_spec_FormatInt (a0_ : Int) : Option Bytes := d_spec_FormatInt_R fuel a0_
theorem d_spec_FormatInt_good {a0_ : Int} {r : Bytes} (h : d_spec_FormatInt a0_ = some r) : Good Tryz.prog 45 [D.int .i64 (a0_)] (D.str (r)) := d_spec_FormatInt_R_good fuel h
def d_spec_IsAtom_L1 (a0_ : Bytes) (k1 : Option Bool) : Nat → Int → Option Bool
  | 0, _ => none
  | n1 + 1, v1_3 => (bif decide ((v1_3 : Int) < (((a0_).length : Int))) then ((atI (a0_) (v1_3)).bind fun b29 => ((d_spec_l1In (IntKind.i64.wrap (b29.toNat)) (97) (122)).bind fun y31 => (bif !(y31) then ((d_spec_l1In (IntKind.i64.wrap (b29.toNat)) (48) (57)).bind fun y34 => (bif !(y34) then (some (false)) else (d_spec_IsAtom_L1 a0_ k1 n1 (IntKind.i64.wrap ((v1_3) + (1)))))) else (d_spec_IsAtom_L1 a0_ k1 n1 (IntKind.i64.wrap ((v1_3) + (1))))))) else (k1 ))
def d_spec_IsAtom (a0_ : Bytes) : Option Bool := (d_spec_IsAtom_L1 a0_ ((d_spec_l1In (((a0_).length : Int)) (1) (8)).bind fun y37 => (some (y37))) fuel (0))
def d_spec_IsAtom_S1 (a0_ : Bytes) (v1_3 : Int) : St := ⟨[(0, D.str (a0_)), (3, D.int .i64 (v1_3))], []⟩
theorem d_spec_IsAtom_L1w (hΓ : Γ.nt = 27) {a0_ : Bytes} {r : Bool} {k1 : Option Bool} (hE1 : k1 = some r → Ax Γ N Tryz.f155 (D.bool (r)) [1, 1] ⟨[(0, D.str (a0_))], []⟩) : ∀ (n1 : Nat) (v1_3 : Int), d_spec_IsAtom_L1 a0_ k1 n1 v1_3 = some r → Ar Γ N Tryz.f155 (D.bool (r)) [1, 0, 1, 0] n1 (d_spec_IsAtom_S1 a0_ v1_3) := by
  intro n
  induction n with
  | zero => intro v1_3 h; simp [d_spec_IsAtom_L1] at h
  | succ n1 ih1 =>
    intro v1_3 h
    rw [d_spec_IsAtom_L1] at h
    refine AWr_succ fun N1 hN1 hS1 => ?_
    obtain ⟨h28, h⟩ | ⟨h28, h⟩ := den_if h
    · obtain ⟨b29, h30, h⟩ := den_bind h
      obtain ⟨y31, h32, h⟩ := den_bind h
      have o3_ := (((pre0.b h28).c h30).g (d_spec_l1In_good h32))
      obtain ⟨h33, h⟩ | ⟨h33, h⟩ := den_if h
      · obtain ⟨y34, h35, h⟩ := den_bind h
        have o4_ := (((((o3_.r 3 h33).c h30).r 2 h33).g (d_spec_l1In_good h35)).r 2 h33)
        obtain ⟨h36, h⟩ | ⟨h36, h⟩ := den_if h
        · have h := den_some h; subst h; exact (o4_.b h36).ret [[none]] hΓ
        · exact ((o4_.b h36).a [.cn [0, 3] []]).cf [[none]] hΓ hS1 (ih1 (IntKind.i64.wrap ((v1_3) + (1))) h)
      · exact (((o3_.r 7 h33).F 1).a [.cn [0, 3] []]).cf [[none]] hΓ hS1 (ih1 (IntKind.i64.wrap ((v1_3) + (1))) h)
    · exact ((pre0.b h28).a [.hl 0 [0] []]).ex [[none]] hΓ hN1 (hE1 h)
theorem d_spec_IsAtom_good {a0_ : Bytes} {r : Bool} (h : d_spec_IsAtom a0_ = some r) : Good Tryz.prog 155 [D.str (a0_)] (D.bool (r)) := by
  refine gd Tryz.func155 27 fun hr Γ hΓ => ?_
  rw [d_spec_IsAtom] at h
  refine (pre0.a [.cn [0, 3] []]).lp [[none]] hΓ (d_spec_IsAtom_L1w hΓ (fun h => ?_) fuel (0) h)
  obtain ⟨y37, h38, h⟩ := den_bind h
  have h := den_some h; subst h; exact (pre0.g (d_spec_l1In_good h38)).ret [[none]] hΓ
def d_spec_IsVar (a0_ : Bytes) : Option Bool := (bif decide ((((a0_).length : Int) : Int) > (1)) then ((atI (a0_) (0)).bind fun b2 => (bif (b2.toNat : Int) == (63) then ((pcut (a0_).length (some (D.int .i64 (1))) (none)).bind fun p => (fun l5 u6 => ((d_spec_IsAtom (((a0_).take u6).drop l5)).bind fun y8 => (some (y8)))) p.1 p.2) else (some (false)))) else (some (false)))
theorem d_spec_IsVar_good {a0_ : Bytes} {r : Bool} (h : d_spec_IsVar a0_ = some r) : Good Tryz.prog 157 [D.str (a0_)] (D.bool (r)) := by
  refine gd Tryz.func157 16 fun hr Γ hΓ => ?_
  rw [d_spec_IsVar] at h
  obtain ⟨h1, h⟩ | ⟨h1, h⟩ := den_if h
  · obtain ⟨b2, h3, h⟩ := den_bind h
    have o1_ := (((pre0.r 2 h1).c h3).r 2 h1)
    obtain ⟨h4, h⟩ | ⟨h4, h⟩ := den_if h
    · obtain ⟨⟨l5, u6⟩, h7, h⟩ := den_bind h
      obtain ⟨y8, h9, h⟩ := den_bind h
      have h := den_some h; subst h; exact ((((((o1_.r 2 h4).w h7).a [.cut l5 u6]).b h4).g (d_spec_IsAtom_good h9)).b h4).ret [[none]] hΓ
    · have h := den_some h; subst h; exact (o1_.r 4 h4).ret [[none]] hΓ
  · have h := den_some h; subst h; exact ((pre0.r 4 h1).F 4).ret [[none]] hΓ
def d_spec_IsTerm (a0_ : Bytes) : Option Bool := ((d_spec_IsAtom (a0_)).bind fun y1 => (bif y1 then (some (true)) else ((d_spec_IsVar (a0_)).bind fun y4 => (some (y4)))))
theorem d_spec_IsTerm_good {a0_ : Bytes} {r : Bool} (h : d_spec_IsTerm a0_ = some r) : Good Tryz.prog 146 [D.str (a0_)] (D.bool (r)) := by
  refine gd Tryz.func146 9 fun hr Γ hΓ => ?_
  rw [d_spec_IsTerm] at h
  obtain ⟨y1, h2, h⟩ := den_bind h
  obtain ⟨h3, h⟩ | ⟨h3, h⟩ := den_if h
  · have h := den_some h; subst h; exact ((pre0.g (d_spec_IsAtom_good h2)).r 3 h3).ret [[none]] hΓ
  · obtain ⟨y4, h5, h⟩ := den_bind h
    have h := den_some h; subst h; exact ((((pre0.g (d_spec_IsAtom_good h2)).r 2 h3).g (d_spec_IsVar_good h5)).b h3).ret [[none]] hΓ
def d_spec_IsName (a0_ : Bytes) : Option Bool := ((d_spec_IsAtom (a0_)).bind fun y1 => (bif y1 then ((atI (a0_) (0)).bind fun b4 => ((d_spec_l1In (IntKind.i64.wrap (b4.toNat)) (97) (122)).bind fun y6 => (some (y6)))) else (some (false))))
theorem d_spec_IsName_good {a0_ : Bytes} {r : Bool} (h : d_spec_IsName a0_ = some r) : Good Tryz.prog 101 [D.str (a0_)] (D.bool (r)) := by
  refine gd Tryz.func101 11 fun hr Γ hΓ => ?_
  rw [d_spec_IsName] at h
  obtain ⟨y1, h2, h⟩ := den_bind h
  obtain ⟨h3, h⟩ | ⟨h3, h⟩ := den_if h
  · obtain ⟨b4, h5, h⟩ := den_bind h
    obtain ⟨y6, h7, h⟩ := den_bind h
    have h := den_some h; subst h; exact ((((((pre0.g (d_spec_IsAtom_good h2)).r 2 h3).c h5).r 2 h3).g (d_spec_l1In_good h7)).b h3).ret [[none]] hΓ
  · have h := den_some h; subst h; exact ((pre0.g (d_spec_IsAtom_good h2)).r 5 h3).ret [[none]] hΓ
def d_spec_IsPattern_L1 (a0_ : Fact) (k1 : Option Bool) : List Bytes → Nat → Option Bool
  | [], i1 => (k1 )
  | x1_ :: xs1, i1 => ((d_spec_IsTerm (x1_)).bind fun y21 => (bif !(y21) then (some (false)) else (d_spec_IsPattern_L1 a0_ k1 xs1 (i1 + 1) )))
def d_spec_IsPattern (a0_ : Fact) : Option Bool := (d_spec_IsPattern_L1 a0_ ((d_spec_IsName (a0_.rel)).bind fun y24 => (bif y24 then (some (decide (((((a0_.args).map tx).length : Int) : Int) ≤ (3)))) else (some (false)))) (a0_.args) 0 )
def d_spec_IsPattern_S1 (a0_ : Fact) (ix_ : Int) : St := ⟨[(1, D.ptr 0 0), (3, D.int .i64 (ix_))], [Ob.box (Fact.c a0_)]⟩
theorem d_spec_IsPattern_L1w (hΓ : Γ.nt = 27) {a0_ : Fact} {r : Bool} {k1 : Option Bool} (hE1 : k1 = some r → Ax Γ N Tryz.f145 (D.bool (r)) [1, 1] ⟨[(1, D.ptr 0 0)], [Ob.box (Fact.c a0_)]⟩) (hm1 : (a0_.args).length ≤ maxLen) : ∀ (rest : List Bytes) (i1 : Nat) , (a0_.args).drop i1 = rest → d_spec_IsPattern_L1 a0_ k1 rest i1  = some r → Ar Γ N Tryz.f145 (D.bool (r)) [1, 0, 1, 0] (rest.length + 1) (d_spec_IsPattern_S1 a0_ ((i1 : Int))) := by
  intro rest
  induction rest with
  | nil =>
    intro i1  hd1 h
    rw [d_spec_IsPattern_L1] at h
    refine AWr_succ fun N1 hN1 hS1 => ?_
    exact ((pre0.ge tx hd1).a [.hl 0 [1] [0]]).ex [[none]] hΓ hN1 (hE1 h)
  | cons x1_ xs1 ih1 =>
    intro i1  hd1 h
    rw [d_spec_IsPattern_L1] at h
    refine AWr_succ fun N1 hN1 hS1 => ?_
    obtain ⟨y21, h22, h⟩ := den_bind h
    have o2_ := (((pre0.lt tx hd1).l (map_row tx 1 (dc hd1) rfl)).g (d_spec_IsTerm_good h22))
    obtain ⟨h23, h⟩ | ⟨h23, h⟩ := den_if h
    · have h := den_some h; subst h; exact (o2_.b h23).ret [[none]] hΓ
    · exact ((o2_.b h23).a [.cn [1, 3] [0]]).ct [[none]] hΓ hS1 (iS hd1 hm1) (ih1 (i1 + 1)  (dn hd1) h)
theorem d_spec_IsPattern_good {a0_ : Fact} {r : Bool} (h : d_spec_IsPattern a0_ = some r) : Good Tryz.prog 145 [D.agg (Fact.c a0_)] (D.bool (r)) := by
  refine gd Tryz.func145 27 fun hr Γ hΓ => ?_
  rw [d_spec_IsPattern] at h
  refine (pre0.a [.cn [1, 3] [0]]).lp [[none]] hΓ (d_spec_IsPattern_L1w hΓ (fun h => ?_) (by have := (Rdb.sl (Rdb.agg (hr _ (List.mem_of_getElem? (i := 0) rfl)) (.sl ((a0_.args).map tx)) (by simp))).1; simpa using this) (a0_.args) 0  rfl h)
  obtain ⟨y24, h25, h⟩ := den_bind h
  obtain ⟨h26, h⟩ | ⟨h26, h⟩ := den_if h
  · cases h; exact ((pre0.g (d_spec_IsName_good h25)).r 5 h26).ret [[none]] hΓ
  · have h := den_some h; subst h; exact ((pre0.g (d_spec_IsName_good h25)).r 5 h26).ret [[none]] hΓ
def d_spec_IsCond (a0_ : Cond) : Option Bool := (bif (a0_.kind : Int) == (1) then ((d_spec_IsPattern (a0_.pat)).bind fun y2 => (bif y2 then (bif (a0_.left : Bytes) == ([]) then (some ((a0_.right : Bytes) == ([]))) else (some (false))) else (some (false)))) else (bif (a0_.kind : Int) == (2) then ((d_spec_IsPattern (a0_.pat)).bind fun y7 => (bif y7 then (bif (a0_.left : Bytes) == ([]) then (some ((a0_.right : Bytes) == ([]))) else (some (false))) else (some (false)))) else (bif (a0_.kind : Int) == (3) then (bif (a0_.pat.rel : Bytes) == ([]) then (bif ((((a0_.pat.args).map tx).length : Int) : Int) == (0) then ((d_spec_IsTerm (a0_.left)).bind fun y14 => (bif y14 then ((d_spec_IsTerm (a0_.right)).bind fun y17 => (some (y17))) else (some (false)))) else (some (false))) else (some (false))) else (bif (a0_.kind : Int) == (4) then (bif (a0_.pat.rel : Bytes) == ([]) then (bif ((((a0_.pat.args).map tx).length : Int) : Int) == (0) then ((d_spec_IsTerm (a0_.left)).bind fun y22 => (bif y22 then ((d_spec_IsTerm (a0_.right)).bind fun y25 => (some (y25))) else (some (false)))) else (some (false))) else (some (false))) else (bif (a0_.kind : Int) == (5) then (bif (a0_.pat.rel : Bytes) == ([]) then (bif ((((a0_.pat.args).map tx).length : Int) : Int) == (0) then ((d_spec_IsTerm (a0_.left)).bind fun y30 => (bif y30 then ((d_spec_IsTerm (a0_.right)).bind fun y33 => (some (y33))) else (some (false)))) else (some (false))) else (some (false))) else (some (false)))))))
theorem d_spec_IsCond_good {a0_ : Cond} {r : Bool} (h : d_spec_IsCond a0_ = some r) : Good Tryz.prog 89 [D.agg (Cond.c a0_)] (D.bool (r)) := by
  refine gd Tryz.func89 46 fun hr Γ hΓ => ?_
  rw [d_spec_IsCond] at h
  obtain ⟨h1, h⟩ | ⟨h1, h⟩ := den_if h
  · obtain ⟨y2, h3, h⟩ := den_bind h
    have o1_ := ((pre0.r 2 h1).g (d_spec_IsPattern_good h3))
    obtain ⟨h4, h⟩ | ⟨h4, h⟩ := den_if h
    · have o2_ := (o1_.r 4 h4)
      obtain ⟨h5, h⟩ | ⟨h5, h⟩ := den_if h
      · cases h; exact (o2_.r 4 h5).ret [[none]] hΓ
      · have h := den_some h; subst h; exact (o2_.r 4 h5).ret [[none]] hΓ
    · have h := den_some h; subst h; exact ((o1_.r 4 h4).F 4).ret [[none]] hΓ
  · obtain ⟨h6, h⟩ | ⟨h6, h⟩ := den_if h
    · obtain ⟨y7, h8, h⟩ := den_bind h
      have o3_ := (((pre0.b h1).b h6).g (d_spec_IsPattern_good h8))
      obtain ⟨h9, h⟩ | ⟨h9, h⟩ := den_if h
      · have o4_ := (o3_.r 4 h9)
        obtain ⟨h10, h⟩ | ⟨h10, h⟩ := den_if h
        · cases h; exact (o4_.r 4 h10).ret [[none]] hΓ
        · have h := den_some h; subst h; exact (o4_.r 4 h10).ret [[none]] hΓ
      · have h := den_some h; subst h; exact ((o3_.r 4 h9).F 4).ret [[none]] hΓ
    · have o5_ := ((pre0.b h1).b h6)
      obtain ⟨h11, h⟩ | ⟨h11, h⟩ := den_if h
      · have o6_ := (o5_.r 2 h11)
        obtain ⟨h12, h⟩ | ⟨h12, h⟩ := den_if h
        · have o7_ := (o6_.r 6 h12)
          obtain ⟨h13, h⟩ | ⟨h13, h⟩ := den_if h
          · obtain ⟨y14, h15, h⟩ := den_bind h
            have o8_ := (((o7_.r 3 h13).g (d_spec_IsTerm_good h15)).b h13)
            obtain ⟨h16, h⟩ | ⟨h16, h⟩ := den_if h
            · obtain ⟨y17, h18, h⟩ := den_bind h
              have h := den_some h; subst h; exact (((o8_.r 3 h16).g (d_spec_IsTerm_good h18)).b h16).ret [[none]] hΓ
            · have h := den_some h; subst h; exact (o8_.r 4 h16).ret [[none]] hΓ
          · have h := den_some h; subst h; exact ((o7_.r 4 h13).F 4).ret [[none]] hΓ
        · have h := den_some h; subst h; exact ((o6_.r 6 h12).F 8).ret [[none]] hΓ
      · obtain ⟨h19, h⟩ | ⟨h19, h⟩ := den_if h
        · have o9_ := ((o5_.b h11).r 2 h19)
          obtain ⟨h20, h⟩ | ⟨h20, h⟩ := den_if h
          · have o10_ := (o9_.r 6 h20)
            obtain ⟨h21, h⟩ | ⟨h21, h⟩ := den_if h
            · obtain ⟨y22, h23, h⟩ := den_bind h
              have o11_ := (((o10_.r 3 h21).g (d_spec_IsTerm_good h23)).b h21)
              obtain ⟨h24, h⟩ | ⟨h24, h⟩ := den_if h
              · obtain ⟨y25, h26, h⟩ := den_bind h
                have h := den_some h; subst h; exact (((o11_.r 3 h24).g (d_spec_IsTerm_good h26)).b h24).ret [[none]] hΓ
              · have h := den_some h; subst h; exact (o11_.r 4 h24).ret [[none]] hΓ
            · have h := den_some h; subst h; exact ((o10_.r 4 h21).F 4).ret [[none]] hΓ
          · have h := den_some h; subst h; exact ((o9_.r 6 h20).F 8).ret [[none]] hΓ
        · have o12_ := ((o5_.b h11).b h19)
          obtain ⟨h27, h⟩ | ⟨h27, h⟩ := den_if h
          · obtain ⟨h28, h⟩ | ⟨h28, h⟩ := den_if h
            · have o13_ := ((o12_.b h27).r 6 h28)
              obtain ⟨h29, h⟩ | ⟨h29, h⟩ := den_if h
              · obtain ⟨y30, h31, h⟩ := den_bind h
                have o14_ := (((o13_.r 3 h29).g (d_spec_IsTerm_good h31)).b h29)
                obtain ⟨h32, h⟩ | ⟨h32, h⟩ := den_if h
                · obtain ⟨y33, h34, h⟩ := den_bind h
                  have h := den_some h; subst h; exact (((o14_.r 3 h32).g (d_spec_IsTerm_good h34)).b h32).ret [[none]] hΓ
                · have h := den_some h; subst h; exact (o14_.r 4 h32).ret [[none]] hΓ
              · have h := den_some h; subst h; exact ((o13_.r 4 h29).F 4).ret [[none]] hΓ
            · have h := den_some h; subst h; exact (((o12_.b h27).r 6 h28).F 8).ret [[none]] hΓ
          · have h := den_some h; subst h; exact (o12_.b h27).ret [[none]] hΓ
def d_impl_FormatInt (a0_ : Int) : Option Bytes := ((d_strconv_Itoa (a0_)).bind fun y1 => (some (y1)))
theorem d_impl_FormatInt_good {a0_ : Int} {r : Bytes} (h : d_impl_FormatInt a0_ = some r) : Good Tryz.prog 50 [D.int .i64 (a0_)] (D.str (r)) := by
  refine gd Tryz.func50 5 fun hr Γ hΓ => ?_
  rw [d_impl_FormatInt] at h
  obtain ⟨y1, h2, h⟩ := den_bind h
  have h := den_some h; subst h; exact (pre0.g (d_strconv_Itoa_good h2)).ret [[none]] hΓ
def d_impl_IsAtom_L1 (a0_ : Bytes) (k1 : Option Bool) : Nat → Int → Option Bool
  | 0, _ => none
  | n1 + 1, v1_3 => (bif decide ((v1_3 : Int) < (((a0_).length : Int))) then ((atI (a0_) (v1_3)).bind fun b31 => (bif decide ((b31.toNat : Int) < (97)) then (bif decide ((b31.toNat : Int) < (48)) then (some (false)) else (bif decide ((b31.toNat : Int) > (57)) then (some (false)) else (d_impl_IsAtom_L1 a0_ k1 n1 (IntKind.i64.wrap ((v1_3) + (1)))))) else (bif decide ((b31.toNat : Int) > (122)) then (bif decide ((b31.toNat : Int) < (48)) then (some (false)) else (bif decide ((b31.toNat : Int) > (57)) then (some (false)) else (d_impl_IsAtom_L1 a0_ k1 n1 (IntKind.i64.wrap ((v1_3) + (1)))))) else (d_impl_IsAtom_L1 a0_ k1 n1 (IntKind.i64.wrap ((v1_3) + (1))))))) else (k1 ))
def d_impl_IsAtom (a0_ : Bytes) : Option Bool := (bif decide ((((a0_).length : Int) : Int) < (1)) then (some (false)) else (bif decide ((((a0_).length : Int) : Int) > (8)) then (some (false)) else (d_impl_IsAtom_L1 a0_ (some (true)) fuel (0))))
def d_impl_IsAtom_S1 (a0_ : Bytes) (v1_3 : Int) : St := ⟨[(0, D.str (a0_)), (3, D.int .i64 (v1_3))], []⟩
theorem d_impl_IsAtom_L1w (hΓ : Γ.nt = 40) {a0_ : Bytes} {r : Bool} {k1 : Option Bool} (hE1 : k1 = some r → Ax Γ N Tryz.f158 (D.bool (r)) [1, 1, 1] ⟨[], []⟩) : ∀ (n1 : Nat) (v1_3 : Int), d_impl_IsAtom_L1 a0_ k1 n1 v1_3 = some r → Ar Γ N Tryz.f158 (D.bool (r)) [1, 1, 0, 1, 0] n1 (d_impl_IsAtom_S1 a0_ v1_3) := by
  intro n
  induction n with
  | zero => intro v1_3 h; simp [d_impl_IsAtom_L1] at h
  | succ n1 ih1 =>
    intro v1_3 h
    rw [d_impl_IsAtom_L1] at h
    refine AWr_succ fun N1 hN1 hS1 => ?_
    obtain ⟨h30, h⟩ | ⟨h30, h⟩ := den_if h
    · obtain ⟨b31, h32, h⟩ := den_bind h
      have o7_ := ((pre0.b h30).c h32)
      obtain ⟨h33, h⟩ | ⟨h33, h⟩ := den_if h
      · have o8_ := ((((o7_.r 5 h33).T 3).c h32).T 2)
        obtain ⟨h34, h⟩ | ⟨h34, h⟩ := den_if h
        · have h := den_some h; subst h; exact ((((o8_.r 4 h34).T 1).b h34).T 2).ret [[none]] hΓ
        · have o9_ := ((((((o8_.r 3 h34).c h32).b h34).T 1).b h34).T 1)
          obtain ⟨h35, h⟩ | ⟨h35, h⟩ := den_if h
          · have h := den_some h; subst h; exact (o9_.b h35).ret [[none]] hΓ
          · exact ((o9_.b h35).a [.cn [0, 3] []]).cf [[none]] hΓ hS1 (ih1 (IntKind.i64.wrap ((v1_3) + (1))) h)
      · have o10_ := (((o7_.r 3 h33).c h32).r 2 h33)
        obtain ⟨h36, h⟩ | ⟨h36, h⟩ := den_if h
        · have o11_ := (((o10_.r 3 h36).c h32).r 2 h36)
          obtain ⟨h37, h⟩ | ⟨h37, h⟩ := den_if h
          · have h := den_some h; subst h; exact (((((o11_.r 4 h37).b h36).b h37).b h36).T 1).ret [[none]] hΓ
          · have o12_ := ((((((o11_.r 3 h37).c h32).b h37).b h36).b h37).b h36)
            obtain ⟨h38, h⟩ | ⟨h38, h⟩ := den_if h
            · have h := den_some h; subst h; exact (o12_.b h38).ret [[none]] hΓ
            · exact ((o12_.b h38).a [.cn [0, 3] []]).cf [[none]] hΓ hS1 (ih1 (IntKind.i64.wrap ((v1_3) + (1))) h)
        · exact (((o10_.r 7 h36).F 1).a [bF, bF, bF, bF, .cn [0, 3] []]).cf [[none]] hΓ hS1 (ih1 (IntKind.i64.wrap ((v1_3) + (1))) h)
    · exact ((pre0.b h30).a [.hl 0 [] []]).ex [[none]] hΓ hN1 (hE1 h)
theorem d_impl_IsAtom_good {a0_ : Bytes} {r : Bool} (h : d_impl_IsAtom a0_ = some r) : Good Tryz.prog 158 [D.str (a0_)] (D.bool (r)) := by
  refine gd Tryz.func158 40 fun hr Γ hΓ => ?_
  rw [d_impl_IsAtom] at h
  obtain ⟨h1, h⟩ | ⟨h1, h⟩ := den_if h
  · have h := den_some h; subst h; exact ((pre0.r 4 h1).T 1).ret [[none]] hΓ
  · have o13_ := (pre0.r 4 h1)
    obtain ⟨h2, h⟩ | ⟨h2, h⟩ := den_if h
    · have h := den_some h; subst h; exact (o13_.b h2).ret [[none]] hΓ
    · refine ((o13_.b h2).a [.cn [0, 3] []]).lp [[none]] hΓ (d_impl_IsAtom_L1w hΓ (fun h => ?_) fuel (0) h)
      have h := den_some h; subst h; exact pre0.ret [[none]] hΓ
def d_impl_IsName (a0_ : Bytes) : Option Bool := ((d_impl_IsAtom (a0_)).bind fun y1 => (bif y1 then ((atI (a0_) (0)).bind fun b4 => (some (decide ((b4.toNat : Int) ≥ (97))))) else (some (false))))
theorem d_impl_IsName_good {a0_ : Bytes} {r : Bool} (h : d_impl_IsName a0_ = some r) : Good Tryz.prog 111 [D.str (a0_)] (D.bool (r)) := by
  refine gd Tryz.func111 10 fun hr Γ hΓ => ?_
  rw [d_impl_IsName] at h
  obtain ⟨y1, h2, h⟩ := den_bind h
  obtain ⟨h3, h⟩ | ⟨h3, h⟩ := den_if h
  · obtain ⟨b4, h5, h⟩ := den_bind h
    cases h; exact ((((pre0.g (d_impl_IsAtom_good h2)).r 2 h3).c h5).r 2 h3).ret [[none]] hΓ
  · have h := den_some h; subst h; exact ((pre0.g (d_impl_IsAtom_good h2)).r 4 h3).ret [[none]] hΓ
def d_impl_IsVar (a0_ : Bytes) : Option Bool := (bif decide ((((a0_).length : Int) : Int) > (1)) then ((atI (a0_) (0)).bind fun b2 => (bif (b2.toNat : Int) == (63) then ((pcut (a0_).length (some (D.int .i64 (1))) (none)).bind fun p => (fun l5 u6 => ((d_impl_IsAtom (((a0_).take u6).drop l5)).bind fun y8 => (some (y8)))) p.1 p.2) else (some (false)))) else (some (false)))
theorem d_impl_IsVar_good {a0_ : Bytes} {r : Bool} (h : d_impl_IsVar a0_ = some r) : Good Tryz.prog 161 [D.str (a0_)] (D.bool (r)) := by
  refine gd Tryz.func161 16 fun hr Γ hΓ => ?_
  rw [d_impl_IsVar] at h
  obtain ⟨h1, h⟩ | ⟨h1, h⟩ := den_if h
  · obtain ⟨b2, h3, h⟩ := den_bind h
    have o1_ := (((pre0.r 2 h1).c h3).r 2 h1)
    obtain ⟨h4, h⟩ | ⟨h4, h⟩ := den_if h
    · obtain ⟨⟨l5, u6⟩, h7, h⟩ := den_bind h
      obtain ⟨y8, h9, h⟩ := den_bind h
      have h := den_some h; subst h; exact ((((((o1_.r 2 h4).w h7).a [.cut l5 u6]).b h4).g (d_impl_IsAtom_good h9)).b h4).ret [[none]] hΓ
    · have h := den_some h; subst h; exact (o1_.r 4 h4).ret [[none]] hΓ
  · have h := den_some h; subst h; exact ((pre0.r 4 h1).F 4).ret [[none]] hΓ
def d_impl_IsTerm (a0_ : Bytes) : Option Bool := ((d_impl_IsAtom (a0_)).bind fun y1 => (bif y1 then (some (true)) else ((d_impl_IsVar (a0_)).bind fun y4 => (some (y4)))))
theorem d_impl_IsTerm_good {a0_ : Bytes} {r : Bool} (h : d_impl_IsTerm a0_ = some r) : Good Tryz.prog 151 [D.str (a0_)] (D.bool (r)) := by
  refine gd Tryz.func151 9 fun hr Γ hΓ => ?_
  rw [d_impl_IsTerm] at h
  obtain ⟨y1, h2, h⟩ := den_bind h
  obtain ⟨h3, h⟩ | ⟨h3, h⟩ := den_if h
  · have h := den_some h; subst h; exact ((pre0.g (d_impl_IsAtom_good h2)).r 3 h3).ret [[none]] hΓ
  · obtain ⟨y4, h5, h⟩ := den_bind h
    have h := den_some h; subst h; exact ((((pre0.g (d_impl_IsAtom_good h2)).r 2 h3).g (d_impl_IsVar_good h5)).b h3).ret [[none]] hΓ
def d_impl_IsPattern_L1 (a0_ : Fact) (k1 : Option Bool) : List Bytes → Nat → Option Bool
  | [], i1 => (k1 )
  | x1_ :: xs1, i1 => ((d_impl_IsTerm (x1_)).bind fun y25 => (bif !(y25) then (some (false)) else (d_impl_IsPattern_L1 a0_ k1 xs1 (i1 + 1) )))
def d_impl_IsPattern (a0_ : Fact) : Option Bool := ((d_impl_IsName (a0_.rel)).bind fun y1 => (bif !(y1) then (some (false)) else (bif decide (((((a0_.args).map tx).length : Int) : Int) > (3)) then (some (false)) else (d_impl_IsPattern_L1 a0_ (some (true)) (a0_.args) 0 ))))
def d_impl_IsPattern_S1 (a0_ : Fact) (ix_ : Int) : St := ⟨[(16, D.sl ((a0_.args).map tx)), (17, D.int .i64 ((((a0_.args).map tx).length : Int))), (18, D.int .i64 (ix_))], []⟩
theorem d_impl_IsPattern_L1w (hΓ : Γ.nt = 26) {a0_ : Fact} {r : Bool} {k1 : Option Bool} (hE1 : k1 = some r → Ax Γ N Tryz.f150 (D.bool (r)) [1, 1, 1] ⟨[], []⟩) (hm1 : (a0_.args).length ≤ maxLen) : ∀ (rest : List Bytes) (i1 : Nat) , (a0_.args).drop i1 = rest → d_impl_IsPattern_L1 a0_ k1 rest i1  = some r → Ar Γ N Tryz.f150 (D.bool (r)) [1, 1, 0, 1, 0] (rest.length + 1) (d_impl_IsPattern_S1 a0_ ((i1 : Int))) := by
  intro rest
  induction rest with
  | nil =>
    intro i1  hd1 h
    rw [d_impl_IsPattern_L1] at h
    refine AWr_succ fun N1 hN1 hS1 => ?_
    exact ((pre0.ge tx hd1).a [.hl 0 [] []]).ex [[none]] hΓ hN1 (hE1 h)
  | cons x1_ xs1 ih1 =>
    intro i1  hd1 h
    rw [d_impl_IsPattern_L1] at h
    refine AWr_succ fun N1 hN1 hS1 => ?_
    obtain ⟨y25, h26, h⟩ := den_bind h
    have o2_ := (((pre0.lt tx hd1).l (map_row tx 1 (dc hd1) rfl)).g (d_impl_IsTerm_good h26))
    obtain ⟨h27, h⟩ | ⟨h27, h⟩ := den_if h
    · have h := den_some h; subst h; exact (o2_.b h27).ret [[none]] hΓ
    · exact ((o2_.b h27).a [.cn [16, 17, 18] []]).ct [[none]] hΓ hS1 (iS hd1 hm1) (ih1 (i1 + 1)  (dn hd1) h)
theorem d_impl_IsPattern_good {a0_ : Fact} {r : Bool} (h : d_impl_IsPattern a0_ = some r) : Good Tryz.prog 150 [D.agg (Fact.c a0_)] (D.bool (r)) := by
  refine gd Tryz.func150 26 fun hr Γ hΓ => ?_
  rw [d_impl_IsPattern] at h
  obtain ⟨y1, h2, h⟩ := den_bind h
  obtain ⟨h3, h⟩ | ⟨h3, h⟩ := den_if h
  · have h := den_some h; subst h; exact (((pre0.g (d_impl_IsName_good h2)).r 5 h3).T 1).ret [[none]] hΓ
  · have o3_ := ((pre0.g (d_impl_IsName_good h2)).r 5 h3)
    obtain ⟨h4, h⟩ | ⟨h4, h⟩ := den_if h
    · have h := den_some h; subst h; exact (o3_.b h4).ret [[none]] hΓ
    · refine ((o3_.b h4).a [.cn [16, 17, 18] []]).lp [[none]] hΓ (d_impl_IsPattern_L1w hΓ (fun h => ?_) (by have := (Rdb.sl (Rdb.agg (hr _ (List.mem_of_getElem? (i := 0) rfl)) (.sl ((a0_.args).map tx)) (by simp))).1; simpa using this) (a0_.args) 0  rfl h)
      have h := den_some h; subst h; exact pre0.ret [[none]] hΓ
def d_impl_zeroPattern (a0_ : Fact) : Option Bool := (bif (a0_.rel : Bytes) == ([]) then (some (((((a0_.args).map tx).length : Int) : Int) == (0))) else (some (false)))
theorem d_impl_zeroPattern_good {a0_ : Fact} {r : Bool} (h : d_impl_zeroPattern a0_ = some r) : Good Tryz.prog 152 [D.agg (Fact.c a0_)] (D.bool (r)) := by
  refine gd Tryz.func152 12 fun hr Γ hΓ => ?_
  rw [d_impl_zeroPattern] at h
  obtain ⟨h1, h⟩ | ⟨h1, h⟩ := den_if h
  · cases h; exact (pre0.r 5 h1).ret [[none]] hΓ
  · have h := den_some h; subst h; exact (pre0.r 5 h1).ret [[none]] hΓ
def d_impl_IsCond (a0_ : Cond) : Option Bool := (bif (a0_.kind : Int) == (1) then ((d_impl_IsPattern (a0_.pat)).bind fun y2 => (bif y2 then (bif (a0_.left : Bytes) == ([]) then (some ((a0_.right : Bytes) == ([]))) else (some (false))) else (some (false)))) else (bif (a0_.kind : Int) == (2) then ((d_impl_IsPattern (a0_.pat)).bind fun y7 => (bif y7 then (bif (a0_.left : Bytes) == ([]) then (some ((a0_.right : Bytes) == ([]))) else (some (false))) else (some (false)))) else (bif (a0_.kind : Int) == (3) then ((d_impl_IsTerm (a0_.left)).bind fun y12 => (bif y12 then ((d_impl_IsTerm (a0_.right)).bind fun y15 => (bif y15 then ((d_impl_zeroPattern (a0_.pat)).bind fun y18 => (some (y18))) else (some (false)))) else (some (false)))) else (bif (a0_.kind : Int) == (4) then ((d_impl_IsTerm (a0_.left)).bind fun y21 => (bif y21 then ((d_impl_IsTerm (a0_.right)).bind fun y24 => (bif y24 then ((d_impl_zeroPattern (a0_.pat)).bind fun y27 => (some (y27))) else (some (false)))) else (some (false)))) else (bif (a0_.kind : Int) == (5) then ((d_impl_IsTerm (a0_.left)).bind fun y30 => (bif y30 then ((d_impl_IsTerm (a0_.right)).bind fun y33 => (bif y33 then ((d_impl_zeroPattern (a0_.pat)).bind fun y36 => (some (y36))) else (some (false)))) else (some (false)))) else (some (false)))))))
theorem d_impl_IsCond_good {a0_ : Cond} {r : Bool} (h : d_impl_IsCond a0_ = some r) : Good Tryz.prog 95 [D.agg (Cond.c a0_)] (D.bool (r)) := by
  refine gd Tryz.func95 38 fun hr Γ hΓ => ?_
  rw [d_impl_IsCond] at h
  obtain ⟨h1, h⟩ | ⟨h1, h⟩ := den_if h
  · obtain ⟨y2, h3, h⟩ := den_bind h
    have o1_ := ((pre0.r 2 h1).g (d_impl_IsPattern_good h3))
    obtain ⟨h4, h⟩ | ⟨h4, h⟩ := den_if h
    · have o2_ := (o1_.r 4 h4)
      obtain ⟨h5, h⟩ | ⟨h5, h⟩ := den_if h
      · cases h; exact (o2_.r 4 h5).ret [[none]] hΓ
      · have h := den_some h; subst h; exact (o2_.r 4 h5).ret [[none]] hΓ
    · have h := den_some h; subst h; exact ((o1_.r 4 h4).F 4).ret [[none]] hΓ
  · obtain ⟨h6, h⟩ | ⟨h6, h⟩ := den_if h
    · obtain ⟨y7, h8, h⟩ := den_bind h
      have o3_ := (((pre0.b h1).b h6).g (d_impl_IsPattern_good h8))
      obtain ⟨h9, h⟩ | ⟨h9, h⟩ := den_if h
      · have o4_ := (o3_.r 4 h9)
        obtain ⟨h10, h⟩ | ⟨h10, h⟩ := den_if h
        · cases h; exact (o4_.r 4 h10).ret [[none]] hΓ
        · have h := den_some h; subst h; exact (o4_.r 4 h10).ret [[none]] hΓ
      · have h := den_some h; subst h; exact ((o3_.r 4 h9).F 4).ret [[none]] hΓ
    · have o5_ := ((pre0.b h1).b h6)
      obtain ⟨h11, h⟩ | ⟨h11, h⟩ := den_if h
      · obtain ⟨y12, h13, h⟩ := den_bind h
        have o6_ := ((o5_.r 2 h11).g (d_impl_IsTerm_good h13))
        obtain ⟨h14, h⟩ | ⟨h14, h⟩ := den_if h
        · obtain ⟨y15, h16, h⟩ := den_bind h
          have o7_ := (((o6_.r 3 h14).g (d_impl_IsTerm_good h16)).b h14)
          obtain ⟨h17, h⟩ | ⟨h17, h⟩ := den_if h
          · obtain ⟨y18, h19, h⟩ := den_bind h
            have h := den_some h; subst h; exact (((o7_.r 3 h17).g (d_impl_zeroPattern_good h19)).b h17).ret [[none]] hΓ
          · have h := den_some h; subst h; exact (o7_.r 4 h17).ret [[none]] hΓ
        · have h := den_some h; subst h; exact ((o6_.r 4 h14).F 4).ret [[none]] hΓ
      · obtain ⟨h20, h⟩ | ⟨h20, h⟩ := den_if h
        · obtain ⟨y21, h22, h⟩ := den_bind h
          have o8_ := (((o5_.b h11).r 2 h20).g (d_impl_IsTerm_good h22))
          obtain ⟨h23, h⟩ | ⟨h23, h⟩ := den_if h
          · obtain ⟨y24, h25, h⟩ := den_bind h
            have o9_ := (((o8_.r 3 h23).g (d_impl_IsTerm_good h25)).b h23)
            obtain ⟨h26, h⟩ | ⟨h26, h⟩ := den_if h
            · obtain ⟨y27, h28, h⟩ := den_bind h
              have h := den_some h; subst h; exact (((o9_.r 3 h26).g (d_impl_zeroPattern_good h28)).b h26).ret [[none]] hΓ
            · have h := den_some h; subst h; exact (o9_.r 4 h26).ret [[none]] hΓ
          · have h := den_some h; subst h; exact ((o8_.r 4 h23).F 4).ret [[none]] hΓ
        · have o10_ := ((o5_.b h11).b h20)
          obtain ⟨h29, h⟩ | ⟨h29, h⟩ := den_if h
          · obtain ⟨y30, h31, h⟩ := den_bind h
            have o11_ := ((o10_.b h29).g (d_impl_IsTerm_good h31))
            obtain ⟨h32, h⟩ | ⟨h32, h⟩ := den_if h
            · obtain ⟨y33, h34, h⟩ := den_bind h
              have o12_ := (((o11_.r 3 h32).g (d_impl_IsTerm_good h34)).b h32)
              obtain ⟨h35, h⟩ | ⟨h35, h⟩ := den_if h
              · obtain ⟨y36, h37, h⟩ := den_bind h
                have h := den_some h; subst h; exact (((o12_.r 3 h35).g (d_impl_zeroPattern_good h37)).b h35).ret [[none]] hΓ
              · have h := den_some h; subst h; exact (o12_.r 4 h35).ret [[none]] hΓ
            · have h := den_some h; subst h; exact ((o11_.r 4 h32).F 4).ret [[none]] hΓ
          · have h := den_some h; subst h; exact (o10_.b h29).ret [[none]] hΓ
def d_spec_l1Put_L1 (a0_ : List Bytes) (a1_ : Bytes) (k1 : Bool → List Bytes → Option (List Bytes)) : List Bytes → Nat → Bool → List Bytes → Option (List Bytes)
  | [], i1, v1_6, w1_0 => (k1 (v1_6) (w1_0))
  | x1_ :: xs1, i1, v1_6, w1_0 => (bif !(v1_6) then (bif !(Op.bytesLess (x1_) (a1_)) then (bif !((x1_ : Bytes) == (a1_)) then (bif room (((w1_0).map tx).length + ([[D.str (a1_)]]).length) 16 then (bif room ((((w1_0).map tx) ++ ([[D.str (a1_)]])).length + ([[D.str (x1_)]]).length) 16 then (d_spec_l1Put_L1 a0_ a1_ k1 xs1 (i1 + 1) (true) (((w1_0) ++ ([a1_])) ++ ([x1_]))) else none) else none) else (bif room (((w1_0).map tx).length + ([[D.str (x1_)]]).length) 16 then (d_spec_l1Put_L1 a0_ a1_ k1 xs1 (i1 + 1) (true) ((w1_0) ++ ([x1_]))) else none)) else (bif room (((w1_0).map tx).length + ([[D.str (x1_)]]).length) 16 then (d_spec_l1Put_L1 a0_ a1_ k1 xs1 (i1 + 1) (v1_6) ((w1_0) ++ ([x1_]))) else none)) else (bif room (((w1_0).map tx).length + ([[D.str (x1_)]]).length) 16 then (d_spec_l1Put_L1 a0_ a1_ k1 xs1 (i1 + 1) (v1_6) ((w1_0) ++ ([x1_]))) else none))
def d_spec_l1Put (a0_ : List Bytes) (a1_ : Bytes) : Option (List Bytes) := (d_spec_l1Put_L1 a0_ a1_ (fun (z1_6 : Bool) (q1_0 : List Bytes) => (bif !(z1_6) then (bif room (((q1_0).map tx).length + ([[D.str (a1_)]]).length) 16 then (some ((q1_0) ++ ([a1_]))) else none) else (some (q1_0)))) (a0_) 0 (false) (([] : List Bytes)))
def d_spec_l1Put_S1 (a0_ : List Bytes) (a1_ : Bytes) (v1_6 : Bool) (W1 : List (List D)) (ix_ : Int) : St := ⟨[(0, D.sl ((a0_).map tx)), (1, D.str (a1_)), (5, D.acc 0), (6, D.bool (v1_6)), (7, D.int .i64 (ix_))], [Ob.row .uq 9 1 (W1)]⟩
theorem d_spec_l1Put_L1w (hΓ : Γ.nt = 49) {a0_ : List Bytes} {a1_ : Bytes} {r : List Bytes} {k1 : Bool → List Bytes → Option (List Bytes)} (hE1 : ∀ (z1_6 : Bool) (q1_0 : List Bytes), k1 z1_6 q1_0 = some r → Ax Γ N Tryz.f156 (D.fr 9 1 ((r).map tx)) [1, 1, 1, 1] ⟨[(1, D.str (a1_)), (5, D.acc 0), (6, D.bool (z1_6))], [Ob.row .uq 9 1 ((q1_0).map tx)]⟩) (hm1 : (a0_).length ≤ maxLen) : ∀ (rest : List Bytes) (i1 : Nat) (v1_6 : Bool) (w1_0 : List Bytes), (a0_).drop i1 = rest → d_spec_l1Put_L1 a0_ a1_ k1 rest i1 v1_6 w1_0 = some r → Ar Γ N Tryz.f156 (D.fr 9 1 ((r).map tx)) [1, 1, 1, 0, 1, 0] (rest.length + 1) (d_spec_l1Put_S1 a0_ a1_ v1_6 ((w1_0).map tx) ((i1 : Int))) := by
  intro rest
  induction rest with
  | nil =>
    intro i1 v1_6 w1_0 hd1 h
    rw [d_spec_l1Put_L1] at h
    refine AWr_succ fun N1 hN1 hS1 => ?_
    exact ((pre0.ge tx hd1).a [.hl 0 [1, 5, 6] [0]]).ex [[some (9, 1)]] hΓ hN1 (hE1 (v1_6) (w1_0) h)
  | cons x1_ xs1 ih1 =>
    intro i1 v1_6 w1_0 hd1 h
    rw [d_spec_l1Put_L1] at h
    refine AWr_succ fun N1 hN1 hS1 => ?_
    obtain ⟨h58, h⟩ | ⟨h58, h⟩ := den_if h
    · have o3_ := ((((pre0.lt tx hd1).r 3 h58).l (map_row tx 1 (dc hd1) rfl)).r 4 h58)
      obtain ⟨h59, h⟩ | ⟨h59, h⟩ := den_if h
      · have o4_ := ((o3_.b h59).l (map_row tx 1 (dc hd1) rfl))
        obtain ⟨h60, h⟩ | ⟨h60, h⟩ := den_if h
        · obtain ⟨h61, h⟩ := den_ok h
          obtain ⟨h62, h⟩ := den_ok h
          exact (((((o4_.b h60).w (room_ok h61)).l (map_row tx 1 (dc hd1) rfl)).w (room_ok h62)).a [.cn [0, 1, 5, 6, 7] [4]]).cs [[some (9, 1)]] hΓ hS1 (d_spec_l1Put_S1 a0_ a1_ true ((((w1_0).map tx) ++ ([[D.str (a1_)]])) ++ ([[D.str (x1_)]])) (IntKind.i64.wrap (((i1 : Int)) + (1)))) (by first | (simp only [iS hd1 hm1, mA] <;> rfl) | (simp only [iS hd1 hm1, mA, Fact.c, Pair.c, Cond.c, Action.c, Rule.c, Token.c, Match.c, Alpha.c, Node.c, Network.c, Stamp.c] <;> rfl)) (ih1 (i1 + 1) (true) (((w1_0) ++ ([a1_])) ++ ([x1_])) (dn hd1) h)
        · obtain ⟨h63, h⟩ := den_ok h
          exact ((((o4_.b h60).l (map_row tx 1 (dc hd1) rfl)).w (room_ok h63)).a [.cn [0, 1, 5, 6, 7] [2]]).cs [[some (9, 1)]] hΓ hS1 (d_spec_l1Put_S1 a0_ a1_ true (((w1_0).map tx) ++ ([[D.str (x1_)]])) (IntKind.i64.wrap (((i1 : Int)) + (1)))) (by first | (simp only [iS hd1 hm1, mA] <;> rfl) | (simp only [iS hd1 hm1, mA, Fact.c, Pair.c, Cond.c, Action.c, Rule.c, Token.c, Match.c, Alpha.c, Node.c, Network.c, Stamp.c] <;> rfl)) (ih1 (i1 + 1) (true) ((w1_0) ++ ([x1_])) (dn hd1) h)
      · obtain ⟨h64, h⟩ := den_ok h
        exact ((((o3_.b h59).l (map_row tx 1 (dc hd1) rfl)).w (room_ok h64)).a [.cn [0, 1, 5, 6, 7] [2]]).cs [[some (9, 1)]] hΓ hS1 (d_spec_l1Put_S1 a0_ a1_ v1_6 (((w1_0).map tx) ++ ([[D.str (x1_)]])) (IntKind.i64.wrap (((i1 : Int)) + (1)))) (by first | (simp only [iS hd1 hm1, mA] <;> rfl) | (simp only [iS hd1 hm1, mA, Fact.c, Pair.c, Cond.c, Action.c, Rule.c, Token.c, Match.c, Alpha.c, Node.c, Network.c, Stamp.c] <;> rfl)) (ih1 (i1 + 1) (v1_6) ((w1_0) ++ ([x1_])) (dn hd1) h)
    · obtain ⟨h65, h⟩ := den_ok h
      exact ((((((pre0.lt tx hd1).r 7 h58).F 1).l (map_row tx 1 (dc hd1) rfl)).w (room_ok h65)).a [.cn [0, 1, 5, 6, 7] [2]]).cs [[some (9, 1)]] hΓ hS1 (d_spec_l1Put_S1 a0_ a1_ v1_6 (((w1_0).map tx) ++ ([[D.str (x1_)]])) (IntKind.i64.wrap (((i1 : Int)) + (1)))) (by first | (simp only [iS hd1 hm1, mA] <;> rfl) | (simp only [iS hd1 hm1, mA, Fact.c, Pair.c, Cond.c, Action.c, Rule.c, Token.c, Match.c, Alpha.c, Node.c, Network.c, Stamp.c] <;> rfl)) (ih1 (i1 + 1) (v1_6) ((w1_0) ++ ([x1_])) (dn hd1) h)
theorem d_spec_l1Put_good {a0_ : List Bytes} {a1_ : Bytes} {r : List Bytes} (h : d_spec_l1Put a0_ a1_ = some r) : Good Tryz.prog 156 [D.sl ((a0_).map tx), D.str (a1_)] (D.fr 9 1 ((r).map tx)) := by
  refine gd Tryz.func156 49 fun hr Γ hΓ => ?_
  rw [d_spec_l1Put] at h
  refine (pre0.a [.cn [0, 1, 5, 6, 7] [0]]).lp [[some (9, 1)]] hΓ (d_spec_l1Put_L1w hΓ (fun z1_6 q1_0 h => ?_) (by have := (Rdb.sl (hr _ (List.mem_of_getElem? (i := 0) rfl))).1; simpa using this) (a0_) 0 (false) (([] : List Bytes)) rfl h)
  obtain ⟨h66, h⟩ | ⟨h66, h⟩ := den_if h
  · obtain ⟨h67, h⟩ := den_ok h
    cases h; exact ((pre0.b h66).w (room_ok h67)).rts [[some (9, 1)]] hΓ (D.fr 9 1 (((q1_0).map tx) ++ ([[D.str (a1_)]]))) (by first | rfl | (simp only [mA] <;> rfl))
  · have h := den_some h; subst h; exact (pre0.b h66).ret [[some (9, 1)]] hΓ
def d_spec_VarsOf_L1 (a0_ : Fact) (k1 : List Bytes → Option (List Bytes)) : List Bytes → Nat → List Bytes → Option (List Bytes)
  | [], i1, w1_1 => (k1 (w1_1))
  | x1_ :: xs1, i1, w1_1 => ((d_spec_IsVar (x1_)).bind fun y37 => (bif y37 then ((d_spec_l1Put (w1_1) (x1_)).bind fun y40 => (d_spec_VarsOf_L1 a0_ k1 xs1 (i1 + 1) (y40))) else (d_spec_VarsOf_L1 a0_ k1 xs1 (i1 + 1) (w1_1))))
def d_spec_VarsOf (a0_ : Fact) : Option (List Bytes) := (d_spec_VarsOf_L1 a0_ (fun (q1_0 : List Bytes) => (some (q1_0))) (a0_.args) 0 (([] : List Bytes)))
def d_spec_VarsOf_S1 (a0_ : Fact) (W0 : List (List D)) (ix_ : Int) : St := ⟨[(1, D.ptr 0 0), (3, D.acc 1), (4, D.int .i64 (ix_))], [Ob.box (Fact.c a0_), Ob.row .uq 9 1 (W0)]⟩
theorem d_spec_VarsOf_L1w (hΓ : Γ.nt = 27) {a0_ : Fact} {r : List Bytes} {k1 : List Bytes → Option (List Bytes)} (hE1 : ∀ (q1_0 : List Bytes), k1 q1_0 = some r → Ax Γ N Tryz.f107 (D.fr 9 1 ((r).map tx)) [1, 1, 1] ⟨[(3, D.acc 0)], [Ob.row .uq 9 1 ((q1_0).map tx)]⟩) (hm1 : (a0_.args).length ≤ maxLen) : ∀ (rest : List Bytes) (i1 : Nat) (w1_1 : List Bytes), (a0_.args).drop i1 = rest → d_spec_VarsOf_L1 a0_ k1 rest i1 w1_1 = some r → Ar Γ N Tryz.f107 (D.fr 9 1 ((r).map tx)) [1, 1, 0, 1, 0] (rest.length + 1) (d_spec_VarsOf_S1 a0_ ((w1_1).map tx) ((i1 : Int))) := by
  intro rest
  induction rest with
  | nil =>
    intro i1 w1_1 hd1 h
    rw [d_spec_VarsOf_L1] at h
    refine AWr_succ fun N1 hN1 hS1 => ?_
    exact ((pre0.ge tx hd1).a [.hl 0 [3] [1]]).ex [[some (9, 1)]] hΓ hN1 (hE1 (w1_1) h)
  | cons x1_ xs1 ih1 =>
    intro i1 w1_1 hd1 h
    rw [d_spec_VarsOf_L1] at h
    refine AWr_succ fun N1 hN1 hS1 => ?_
    obtain ⟨y37, h38, h⟩ := den_bind h
    have o2_ := (((pre0.lt tx hd1).l (map_row tx 1 (dc hd1) rfl)).g (d_spec_IsVar_good h38))
    obtain ⟨h39, h⟩ | ⟨h39, h⟩ := den_if h
    · obtain ⟨y40, h41, h⟩ := den_bind h
      exact ((((o2_.b h39).l (map_row tx 1 (dc hd1) rfl)).g (d_spec_l1Put_good h41)).a [.cn [1, 3, 4] [0, 2]]).ct [[some (9, 1)]] hΓ hS1 (iS hd1 hm1) (ih1 (i1 + 1) (y40) (dn hd1) h)
    · exact ((o2_.b h39).a [.cn [1, 3, 4] [0, 1]]).ct [[some (9, 1)]] hΓ hS1 (iS hd1 hm1) (ih1 (i1 + 1) (w1_1) (dn hd1) h)
theorem d_spec_VarsOf_good {a0_ : Fact} {r : List Bytes} (h : d_spec_VarsOf a0_ = some r) : Good Tryz.prog 107 [D.agg (Fact.c a0_)] (D.fr 9 1 ((r).map tx)) := by
  refine gd Tryz.func107 27 fun hr Γ hΓ => ?_
  rw [d_spec_VarsOf] at h
  refine (pre0.a [.cn [1, 3, 4] [0, 1]]).lp [[some (9, 1)]] hΓ (d_spec_VarsOf_L1w hΓ (fun q1_0 h => ?_) (by have := (Rdb.sl (Rdb.agg (hr _ (List.mem_of_getElem? (i := 0) rfl)) (.sl ((a0_.args).map tx)) (by simp))).1; simpa using this) (a0_.args) 0 (([] : List Bytes)) rfl h)
  have h := den_some h; subst h; exact pre0.ret [[some (9, 1)]] hΓ
def d_spec_BoundVars_L2 (a0_ : Rule) (a1_ : Int) (i1 : Nat) (y159 : List Bytes) (k2 : List Bytes → Option (List Bytes)) : List Bytes → Nat → List Bytes → Option (List Bytes)
  | [], i2, w2_1 => (k2 (w2_1))
  | x2_ :: xs2, i2, w2_1 => ((d_spec_l1Put (w2_1) (x2_)).bind fun y183 => (d_spec_BoundVars_L2 a0_ a1_ i1 y159 k2 xs2 (i2 + 1) (y183)))
def d_spec_BoundVars_L1 (a0_ : Rule) (a1_ : Int) (k1 : List Bytes → Option (List Bytes)) : List Cond → Nat → List Bytes → Option (List Bytes)
  | [], i1, w1_1 => (k1 (w1_1))
  | x1_ :: xs1, i1, w1_1 => (bif decide (((i1 : Int) : Int) < (a1_)) then (bif (x1_.kind : Int) == (1) then ((d_spec_VarsOf (x1_.pat)).bind fun y159 => (bif decide ((y159).length ≤ maxLen) then (d_spec_BoundVars_L2 a0_ a1_ i1 y159 (fun (q2_1 : List Bytes) => (d_spec_BoundVars_L1 a0_ a1_ k1 xs1 (i1 + 1) (q2_1))) (y159) 0 (w1_1)) else none)) else (d_spec_BoundVars_L1 a0_ a1_ k1 xs1 (i1 + 1) (w1_1))) else (k1 (w1_1)))
def d_spec_BoundVars (a0_ : Rule) (a1_ : Int) : Option (List Bytes) := (d_spec_BoundVars_L1 a0_ a1_ (fun (q1_0 : List Bytes) => (some (q1_0))) (a0_.conds) 0 (([] : List Bytes)))
def d_spec_BoundVars_S1 (a0_ : Rule) (a1_ : Int) (W0 : List (List D)) (ix_ : Int) : St := ⟨[(1, D.int .i64 (a1_)), (2, D.ptr 0 0), (5, D.acc 1), (6, D.int .i64 (ix_))], [Ob.box (Rule.c a0_), Ob.row .uq 9 1 (W0)]⟩
def d_spec_BoundVars_S2 (a0_ : Rule) (a1_ : Int) (i1 : Nat) (y159 : List Bytes) (W0 : List (List D)) (ix_ : Int) : St := ⟨[(1, D.int .i64 (a1_)), (2, D.ptr 0 0), (5, D.acc 1), (6, D.int .i64 ((i1 : Int))), (7, D.acc 2), (8, D.int .i64 (ix_))], [Ob.box (Rule.c a0_), Ob.row .uq 9 1 (W0), Ob.row .uq 9 1 ((y159).map tx)]⟩
theorem d_spec_BoundVars_L2w (hΓ : Γ.nt = 49) {a0_ : Rule} {a1_ : Int} {i1 : Nat} {y159 : List Bytes} {r : List Bytes} {k2 : List Bytes → Option (List Bytes)} (hE2 : ∀ (q2_1 : List Bytes), k2 q2_1 = some r → Ax Γ N Tryz.f102 (D.fr 9 1 ((r).map tx)) [1, 1, 0, 1, 0, 0, 1, 1] ⟨[(1, D.int .i64 (a1_)), (2, D.ptr 0 0), (5, D.acc 1), (6, D.int .i64 ((i1 : Int)))], [Ob.box (Rule.c a0_), Ob.row .uq 9 1 ((q2_1).map tx)]⟩) (hm2 : (y159).length ≤ maxLen) : ∀ (rest : List Bytes) (i2 : Nat) (w2_1 : List Bytes), (y159).drop i2 = rest → d_spec_BoundVars_L2 a0_ a1_ i1 y159 k2 rest i2 w2_1 = some r → Ar Γ N Tryz.f102 (D.fr 9 1 ((r).map tx)) [1, 1, 0, 1, 0, 0, 1, 0, 0, 1, 0, 1, 1, 0] (rest.length + 1) (d_spec_BoundVars_S2 a0_ a1_ i1 y159 ((w2_1).map tx) ((i2 : Int))) := by
  intro rest
  induction rest with
  | nil =>
    intro i2 w2_1 hd2 h
    rw [d_spec_BoundVars_L2] at h
    refine AWr_succ fun N2 hN2 hS2 => ?_
    exact ((pre0.ge tx hd2).a [.hl 3 [1, 2, 5, 6] [0, 1]]).ex [[some (9, 1)]] hΓ hN2 (hE2 (w2_1) h)
  | cons x2_ xs2 ih2 =>
    intro i2 w2_1 hd2 h
    rw [d_spec_BoundVars_L2] at h
    refine AWr_succ fun N2 hN2 hS2 => ?_
    obtain ⟨y183, h184, h⟩ := den_bind h
    exact (((((pre0.lt tx hd2).i (own_ixl tx 1 (dc hd2))).o 1 1 .uq (map_get tx (dc hd2))).g (d_spec_l1Put_good h184)).a [.cn [1, 2, 5, 6, 7, 8] [0, 3, 2]]).ct [[some (9, 1)]] hΓ hS2 (iS hd2 hm2) (ih2 (i2 + 1) (y183) (dn hd2) h)
theorem d_spec_BoundVars_L1w (hΓ : Γ.nt = 49) {a0_ : Rule} {a1_ : Int} {r : List Bytes} {k1 : List Bytes → Option (List Bytes)} (hE1 : ∀ (q1_0 : List Bytes), k1 q1_0 = some r → Ax Γ N Tryz.f102 (D.fr 9 1 ((r).map tx)) [1, 1, 1] ⟨[(5, D.acc 0)], [Ob.row .uq 9 1 ((q1_0).map tx)]⟩) (hm1 : (a0_.conds).length ≤ maxLen) : ∀ (rest : List Cond) (i1 : Nat) (w1_1 : List Bytes), (a0_.conds).drop i1 = rest → d_spec_BoundVars_L1 a0_ a1_ k1 rest i1 w1_1 = some r → Ar Γ N Tryz.f102 (D.fr 9 1 ((r).map tx)) [1, 1, 0, 1, 0] (rest.length + 1) (d_spec_BoundVars_S1 a0_ a1_ ((w1_1).map tx) ((i1 : Int))) := by
  intro rest
  induction rest with
  | nil =>
    intro i1 w1_1 hd1 h
    rw [d_spec_BoundVars_L1] at h
    refine AWr_succ fun N1 hN1 hS1 => ?_
    exact ((((((pre0.ge Cond.c hd1).ge Cond.c hd1).ge Cond.c hd1).ge Cond.c hd1).F 1).a [.hl 0 [5] [1]]).ex [[some (9, 1)]] hΓ hN1 (hE1 (w1_1) h)
  | cons x1_ xs1 ih1 =>
    intro i1 w1_1 hd1 h
    rw [d_spec_BoundVars_L1] at h
    refine AWr_succ fun N1 hN1 hS1 => ?_
    have o3_ := ((((pre0.lt Cond.c hd1).lt Cond.c hd1).lt Cond.c hd1).lt Cond.c hd1)
    obtain ⟨h157, h⟩ | ⟨h157, h⟩ := den_if h
    · have o4_ := ((o3_.b h157).l (map_row Cond.c 5 (dc hd1) rfl))
      obtain ⟨h158, h⟩ | ⟨h158, h⟩ := den_if h
      · obtain ⟨y159, h160, h⟩ := den_bind h
        obtain ⟨h185, h⟩ := den_ok h
        refine ((((o4_.b h158).l (map_row Cond.c 5 (dc hd1) rfl)).g (d_spec_VarsOf_good h160)).a [.cn [1, 2, 5, 6, 7, 8] [0, 1, 2]]).lp [[some (9, 1)]] hΓ (d_spec_BoundVars_L2w hΓ (fun q2_1 h => ?_) (of_decide_eq_true h185) (y159) 0 (w1_1) rfl h)
        exact (pre0.a [.cn [1, 2, 5, 6] [0, 1]]).ct [[some (9, 1)]] hΓ hS1 (iS hd1 hm1) (ih1 (i1 + 1) (q2_1) (dn hd1) h)
      · exact ((o4_.b h158).a [.cn [1, 2, 5, 6] [0, 1]]).ct [[some (9, 1)]] hΓ hS1 (iS hd1 hm1) (ih1 (i1 + 1) (w1_1) (dn hd1) h)
    · exact ((o3_.b h157).a [.hl 0 [5] [1]]).ex [[some (9, 1)]] hΓ hN1 (hE1 (w1_1) h)
theorem d_spec_BoundVars_good {a0_ : Rule} {a1_ : Int} {r : List Bytes} (h : d_spec_BoundVars a0_ a1_ = some r) : Good Tryz.prog 102 [D.agg (Rule.c a0_), D.int .i64 (a1_)] (D.fr 9 1 ((r).map tx)) := by
  refine gd Tryz.func102 49 fun hr Γ hΓ => ?_
  rw [d_spec_BoundVars] at h
  refine (pre0.a [.cn [1, 2, 5, 6] [0, 1]]).lp [[some (9, 1)]] hΓ (d_spec_BoundVars_L1w hΓ (fun q1_0 h => ?_) (by have := (Rdb.sl (Rdb.agg (hr _ (List.mem_of_getElem? (i := 0) rfl)) (.sl ((a0_.conds).map Cond.c)) (by simp))).1; simpa using this) (a0_.conds) 0 (([] : List Bytes)) rfl h)
  have h := den_some h; subst h; exact pre0.ret [[some (9, 1)]] hΓ
def d_spec_CondVars (a0_ : Cond) : Option (List Bytes) := ((d_spec_VarsOf (a0_.pat)).bind fun y1 => ((d_spec_IsVar (a0_.left)).bind fun y3 => (bif y3 then ((d_spec_l1Put (y1) (a0_.left)).bind fun y6 => ((d_spec_IsVar (a0_.right)).bind fun y8 => (bif y8 then ((d_spec_l1Put (y6) (a0_.right)).bind fun y11 => (some (y11))) else (some (y6))))) else ((d_spec_IsVar (a0_.right)).bind fun y13 => (bif y13 then ((d_spec_l1Put (y1) (a0_.right)).bind fun y16 => (some (y16))) else (some (y1)))))))
theorem d_spec_CondVars_good {a0_ : Cond} {r : List Bytes} (h : d_spec_CondVars a0_ = some r) : Good Tryz.prog 103 [D.agg (Cond.c a0_)] (D.fr 9 1 ((r).map tx)) := by
  refine gd Tryz.func103 22 fun hr Γ hΓ => ?_
  rw [d_spec_CondVars] at h
  obtain ⟨y1, h2, h⟩ := den_bind h
  obtain ⟨y3, h4, h⟩ := den_bind h
  have o1_ := ((pre0.g (d_spec_VarsOf_good h2)).g (d_spec_IsVar_good h4))
  obtain ⟨h5, h⟩ | ⟨h5, h⟩ := den_if h
  · obtain ⟨y6, h7, h⟩ := den_bind h
    obtain ⟨y8, h9, h⟩ := den_bind h
    have o2_ := (((o1_.b h5).g (d_spec_l1Put_good h7)).g (d_spec_IsVar_good h9))
    obtain ⟨h10, h⟩ | ⟨h10, h⟩ := den_if h
    · obtain ⟨y11, h12, h⟩ := den_bind h
      have h := den_some h; subst h; exact ((o2_.b h10).g (d_spec_l1Put_good h12)).ret [[some (9, 1)]] hΓ
    · have h := den_some h; subst h; exact (o2_.b h10).ret [[some (9, 1)]] hΓ
  · obtain ⟨y13, h14, h⟩ := den_bind h
    have o3_ := ((o1_.b h5).g (d_spec_IsVar_good h14))
    obtain ⟨h15, h⟩ | ⟨h15, h⟩ := den_if h
    · obtain ⟨y16, h17, h⟩ := den_bind h
      have h := den_some h; subst h; exact ((o3_.b h15).g (d_spec_l1Put_good h17)).ret [[some (9, 1)]] hΓ
    · have h := den_some h; subst h; exact (o3_.b h15).ret [[some (9, 1)]] hΓ
def d_spec_l1HasText_L1 (a0_ : List Bytes) (a1_ : Bytes) (k1 : Option Bool) : List Bytes → Nat → Option Bool
  | [], i1 => (k1 )
  | x1_ :: xs1, i1 => (bif (x1_ : Bytes) == (a1_) then (some (true)) else (d_spec_l1HasText_L1 a0_ a1_ k1 xs1 (i1 + 1) ))
def d_spec_l1HasText (a0_ : List Bytes) (a1_ : Bytes) : Option Bool := (d_spec_l1HasText_L1 a0_ a1_ (some (false)) (a0_) 0 )
def d_spec_l1HasText_S1 (a0_ : List Bytes) (a1_ : Bytes) (ix_ : Int) : St := ⟨[(0, D.sl ((a0_).map tx)), (1, D.str (a1_)), (5, D.int .i64 (ix_))], []⟩
theorem d_spec_l1HasText_L1w (hΓ : Γ.nt = 18) {a0_ : List Bytes} {a1_ : Bytes} {r : Bool} {k1 : Option Bool} (hE1 : k1 = some r → Ax Γ N Tryz.f104 (D.bool (r)) [1, 1] ⟨[], []⟩) (hm1 : (a0_).length ≤ maxLen) : ∀ (rest : List Bytes) (i1 : Nat) , (a0_).drop i1 = rest → d_spec_l1HasText_L1 a0_ a1_ k1 rest i1  = some r → Ar Γ N Tryz.f104 (D.bool (r)) [1, 0, 1, 0] (rest.length + 1) (d_spec_l1HasText_S1 a0_ a1_ ((i1 : Int))) := by
  intro rest
  induction rest with
  | nil =>
    intro i1  hd1 h
    rw [d_spec_l1HasText_L1] at h
    refine AWr_succ fun N1 hN1 hS1 => ?_
    exact ((pre0.ge tx hd1).a [.hl 0 [] []]).ex [[none]] hΓ hN1 (hE1 h)
  | cons x1_ xs1 ih1 =>
    intro i1  hd1 h
    rw [d_spec_l1HasText_L1] at h
    refine AWr_succ fun N1 hN1 hS1 => ?_
    have o2_ := ((pre0.lt tx hd1).l (map_row tx 1 (dc hd1) rfl))
    obtain ⟨h13, h⟩ | ⟨h13, h⟩ := den_if h
    · have h := den_some h; subst h; exact (o2_.b h13).ret [[none]] hΓ
    · exact ((o2_.b h13).a [.cn [0, 1, 5] []]).ct [[none]] hΓ hS1 (iS hd1 hm1) (ih1 (i1 + 1)  (dn hd1) h)
theorem d_spec_l1HasText_good {a0_ : List Bytes} {a1_ : Bytes} {r : Bool} (h : d_spec_l1HasText a0_ a1_ = some r) : Good Tryz.prog 104 [D.sl ((a0_).map tx), D.str (a1_)] (D.bool (r)) := by
  refine gd Tryz.func104 18 fun hr Γ hΓ => ?_
  rw [d_spec_l1HasText] at h
  refine (pre0.a [.cn [0, 1, 5] []]).lp [[none]] hΓ (d_spec_l1HasText_L1w hΓ (fun h => ?_) (by have := (Rdb.sl (hr _ (List.mem_of_getElem? (i := 0) rfl))).1; simpa using this) (a0_) 0  rfl h)
  have h := den_some h; subst h; exact pre0.ret [[none]] hΓ
def d_spec_IsTest (a0_ : Cond) : Option Bool := ((d_spec_IsCond (a0_)).bind fun y1 => (bif y1 then (some (decide ((a0_.kind : Int) ≥ (3)))) else (some (false))))
theorem d_spec_IsTest_good {a0_ : Cond} {r : Bool} (h : d_spec_IsTest a0_ = some r) : Good Tryz.prog 78 [D.agg (Cond.c a0_)] (D.bool (r)) := by
  refine gd Tryz.func78 10 fun hr Γ hΓ => ?_
  rw [d_spec_IsTest] at h
  obtain ⟨y1, h2, h⟩ := den_bind h
  obtain ⟨h3, h⟩ | ⟨h3, h⟩ := den_if h
  · cases h; exact ((pre0.g (d_spec_IsCond_good h2)).r 4 h3).ret [[none]] hΓ
  · have h := den_some h; subst h; exact ((pre0.g (d_spec_IsCond_good h2)).r 4 h3).ret [[none]] hΓ
def d_spec_l5Elsewhere_L1 (a0_ : Rule) (a1_ : Int) (a2_ : Bytes) (k1 : Option Bool) : List Cond → Nat → Option Bool
  | [], i1 => (k1 )
  | x1_ :: xs1, i1 => (bif ((i1 : Int) : Int) != (a1_) then ((d_spec_CondVars (x1_)).bind fun y34 => ((d_spec_l1HasText (y34) (a2_)).bind fun y36 => (bif y36 then (some (true)) else (d_spec_l5Elsewhere_L1 a0_ a1_ a2_ k1 xs1 (i1 + 1) )))) else (d_spec_l5Elsewhere_L1 a0_ a1_ a2_ k1 xs1 (i1 + 1) ))
def d_spec_l5Elsewhere_L2 (a0_ : Rule) (a2_ : Bytes) (k2 : Option Bool) : List Action → Nat → Option Bool
  | [], i2 => (k2 )
  | x2_ :: xs2, i2 => ((d_spec_VarsOf (x2_.pat)).bind fun y67 => ((d_spec_l1HasText (y67) (a2_)).bind fun y69 => (bif y69 then (some (true)) else (d_spec_l5Elsewhere_L2 a0_ a2_ k2 xs2 (i2 + 1) ))))
def d_spec_l5Elsewhere (a0_ : Rule) (a1_ : Int) (a2_ : Bytes) : Option Bool := (d_spec_l5Elsewhere_L1 a0_ a1_ a2_ (d_spec_l5Elsewhere_L2 a0_ a2_ (some (false)) (a0_.acts) 0 ) (a0_.conds) 0 )
def d_spec_l5Elsewhere_S1 (a0_ : Rule) (a1_ : Int) (a2_ : Bytes) (ix_ : Int) : St := ⟨[(1, D.int .i64 (a1_)), (2, D.str (a2_)), (3, D.ptr 0 0), (7, D.int .i64 (ix_))], [Ob.box (Rule.c a0_)]⟩
theorem d_spec_l5Elsewhere_L1w (hΓ : Γ.nt = 45) {a0_ : Rule} {a1_ : Int} {a2_ : Bytes} {r : Bool} {k1 : Option Bool} (hE1 : k1 = some r → Ax Γ N Tryz.f105 (D.bool (r)) [1, 1] ⟨[(2, D.str (a2_)), (3, D.ptr 0 0)], [Ob.box (Rule.c a0_)]⟩) (hm1 : (a0_.conds).length ≤ maxLen) : ∀ (rest : List Cond) (i1 : Nat) , (a0_.conds).drop i1 = rest → d_spec_l5Elsewhere_L1 a0_ a1_ a2_ k1 rest i1  = some r → Ar Γ N Tryz.f105 (D.bool (r)) [1, 0, 1, 0] (rest.length + 1) (d_spec_l5Elsewhere_S1 a0_ a1_ a2_ ((i1 : Int))) := by
  intro rest
  induction rest with
  | nil =>
    intro i1  hd1 h
    rw [d_spec_l5Elsewhere_L1] at h
    refine AWr_succ fun N1 hN1 hS1 => ?_
    exact ((pre0.ge Cond.c hd1).a [.hl 0 [2, 3] [0]]).ex [[none]] hΓ hN1 (hE1 h)
  | cons x1_ xs1 ih1 =>
    intro i1  hd1 h
    rw [d_spec_l5Elsewhere_L1] at h
    refine AWr_succ fun N1 hN1 hS1 => ?_
    obtain ⟨h33, h⟩ | ⟨h33, h⟩ := den_if h
    · obtain ⟨y34, h35, h⟩ := den_bind h
      obtain ⟨y36, h37, h⟩ := den_bind h
      have o3_ := ((((((((pre0.lt Cond.c hd1).r 4 h33).l (map_row Cond.c 5 (dc hd1) rfl)).r 2 h33).g (d_spec_CondVars_good h35)).r 2 h33).g (d_spec_l1HasText_good h37)).b h33)
      obtain ⟨h38, h⟩ | ⟨h38, h⟩ := den_if h
      · have h := den_some h; subst h; exact (o3_.b h38).ret [[none]] hΓ
      · exact ((o3_.b h38).a [.cn [1, 2, 3, 7] [0]]).ct [[none]] hΓ hS1 (iS hd1 hm1) (ih1 (i1 + 1)  (dn hd1) h)
    · exact ((((pre0.lt Cond.c hd1).r 9 h33).F 1).a [.cn [1, 2, 3, 7] [0]]).ct [[none]] hΓ hS1 (iS hd1 hm1) (ih1 (i1 + 1)  (dn hd1) h)
def d_spec_l5Elsewhere_S2 (a0_ : Rule) (a2_ : Bytes) (ix_ : Int) : St := ⟨[(2, D.str (a2_)), (3, D.ptr 0 0), (8, D.int .i64 (ix_))], [Ob.box (Rule.c a0_)]⟩
theorem d_spec_l5Elsewhere_L2w (hΓ : Γ.nt = 45) {a0_ : Rule} {a2_ : Bytes} {r : Bool} {k2 : Option Bool} (hE2 : k2 = some r → Ax Γ N Tryz.f105 (D.bool (r)) [1, 1, 1] ⟨[], []⟩) (hm2 : (a0_.acts).length ≤ maxLen) : ∀ (rest : List Action) (i2 : Nat) , (a0_.acts).drop i2 = rest → d_spec_l5Elsewhere_L2 a0_ a2_ k2 rest i2  = some r → Ar Γ N Tryz.f105 (D.bool (r)) [1, 1, 0, 1, 0] (rest.length + 1) (d_spec_l5Elsewhere_S2 a0_ a2_ ((i2 : Int))) := by
  intro rest
  induction rest with
  | nil =>
    intro i2  hd2 h
    rw [d_spec_l5Elsewhere_L2] at h
    refine AWr_succ fun N2 hN2 hS2 => ?_
    exact ((pre0.ge Action.c hd2).a [.hl 0 [] []]).ex [[none]] hΓ hN2 (hE2 h)
  | cons x2_ xs2 ih2 =>
    intro i2  hd2 h
    rw [d_spec_l5Elsewhere_L2] at h
    refine AWr_succ fun N2 hN2 hS2 => ?_
    obtain ⟨y67, h68, h⟩ := den_bind h
    obtain ⟨y69, h70, h⟩ := den_bind h
    have o4_ := ((((pre0.lt Action.c hd2).l (map_row Action.c 3 (dc hd2) rfl)).g (d_spec_VarsOf_good h68)).g (d_spec_l1HasText_good h70))
    obtain ⟨h71, h⟩ | ⟨h71, h⟩ := den_if h
    · have h := den_some h; subst h; exact (o4_.b h71).ret [[none]] hΓ
    · exact ((o4_.b h71).a [.cn [2, 3, 8] [0]]).ct [[none]] hΓ hS2 (iS hd2 hm2) (ih2 (i2 + 1)  (dn hd2) h)
theorem d_spec_l5Elsewhere_good {a0_ : Rule} {a1_ : Int} {a2_ : Bytes} {r : Bool} (h : d_spec_l5Elsewhere a0_ a1_ a2_ = some r) : Good Tryz.prog 105 [D.agg (Rule.c a0_), D.int .i64 (a1_), D.str (a2_)] (D.bool (r)) := by
  refine gd Tryz.func105 45 fun hr Γ hΓ => ?_
  rw [d_spec_l5Elsewhere] at h
  refine (pre0.a [.cn [1, 2, 3, 7] [0]]).lp [[none]] hΓ (d_spec_l5Elsewhere_L1w hΓ (fun h => ?_) (by have := (Rdb.sl (Rdb.agg (hr _ (List.mem_of_getElem? (i := 0) rfl)) (.sl ((a0_.conds).map Cond.c)) (by simp))).1; simpa using this) (a0_.conds) 0  rfl h)
  refine (pre0.a [.cn [2, 3, 8] [0]]).lp [[none]] hΓ (d_spec_l5Elsewhere_L2w hΓ (fun h => ?_) (by have := (Rdb.sl (Rdb.agg (hr _ (List.mem_of_getElem? (i := 0) rfl)) (.sl ((a0_.acts).map Action.c)) (by simp))).1; simpa using this) (a0_.acts) 0  rfl h)
  have h := den_some h; subst h; exact pre0.ret [[none]] hΓ
def d_spec_IsAction (a0_ : Action) : Option Bool := (bif (a0_.kind : Int) == (1) then ((d_spec_IsPattern (a0_.pat)).bind fun y2 => (some (y2))) else (bif (a0_.kind : Int) == (2) then ((d_spec_IsPattern (a0_.pat)).bind fun y5 => (some (y5))) else (bif (a0_.kind : Int) == (3) then (bif (a0_.pat.rel : Bytes) == ([]) then (some (((((a0_.pat.args).map tx).length : Int) : Int) == (0))) else (some (false))) else (some (false)))))
theorem d_spec_IsAction_good {a0_ : Action} {r : Bool} (h : d_spec_IsAction a0_ = some r) : Good Tryz.prog 106 [D.agg (Action.c a0_)] (D.bool (r)) := by
  refine gd Tryz.func106 24 fun hr Γ hΓ => ?_
  rw [d_spec_IsAction] at h
  obtain ⟨h1, h⟩ | ⟨h1, h⟩ := den_if h
  · obtain ⟨y2, h3, h⟩ := den_bind h
    have h := den_some h; subst h; exact ((pre0.r 2 h1).g (d_spec_IsPattern_good h3)).ret [[none]] hΓ
  · obtain ⟨h4, h⟩ | ⟨h4, h⟩ := den_if h
    · obtain ⟨y5, h6, h⟩ := den_bind h
      have h := den_some h; subst h; exact (((pre0.b h1).b h4).g (d_spec_IsPattern_good h6)).ret [[none]] hΓ
    · have o1_ := ((pre0.b h1).b h4)
      obtain ⟨h7, h⟩ | ⟨h7, h⟩ := den_if h
      · obtain ⟨h8, h⟩ | ⟨h8, h⟩ := den_if h
        · cases h; exact ((o1_.b h7).r 6 h8).ret [[none]] hΓ
        · have h := den_some h; subst h; exact ((o1_.b h7).r 6 h8).ret [[none]] hΓ
      · have h := den_some h; subst h; exact (o1_.b h7).ret [[none]] hΓ
def d_spec_RuleVars_L2 (a0_ : Rule) (i1 : Nat) (y147 : List Bytes) (k2 : List Bytes → Option (List Bytes)) : List Bytes → Nat → List Bytes → Option (List Bytes)
  | [], i2, w2_1 => (k2 (w2_1))
  | x2_ :: xs2, i2, w2_1 => ((d_spec_l1Put (w2_1) (x2_)).bind fun y171 => (d_spec_RuleVars_L2 a0_ i1 y147 k2 xs2 (i2 + 1) (y171)))
def d_spec_RuleVars_L1 (a0_ : Rule) (k1 : List Bytes → Option (List Bytes)) : List Cond → Nat → List Bytes → Option (List Bytes)
  | [], i1, w1_1 => (k1 (w1_1))
  | x1_ :: xs1, i1, w1_1 => ((d_spec_CondVars (x1_)).bind fun y147 => (bif decide ((y147).length ≤ maxLen) then (d_spec_RuleVars_L2 a0_ i1 y147 (fun (q2_1 : List Bytes) => (d_spec_RuleVars_L1 a0_ k1 xs1 (i1 + 1) (q2_1))) (y147) 0 (w1_1)) else none))
def d_spec_RuleVars_L4 (a0_ : Rule) (i3 : Nat) (y320 : List Bytes) (k4 : List Bytes → Option (List Bytes)) : List Bytes → Nat → List Bytes → Option (List Bytes)
  | [], i4, w4_1 => (k4 (w4_1))
  | x4_ :: xs4, i4, w4_1 => ((d_spec_l1Put (w4_1) (x4_)).bind fun y344 => (d_spec_RuleVars_L4 a0_ i3 y320 k4 xs4 (i4 + 1) (y344)))
def d_spec_RuleVars_L3 (a0_ : Rule) (k3 : List Bytes → Option (List Bytes)) : List Action → Nat → List Bytes → Option (List Bytes)
  | [], i3, w3_1 => (k3 (w3_1))
  | x3_ :: xs3, i3, w3_1 => ((d_spec_VarsOf (x3_.pat)).bind fun y320 => (bif decide ((y320).length ≤ maxLen) then (d_spec_RuleVars_L4 a0_ i3 y320 (fun (q4_1 : List Bytes) => (d_spec_RuleVars_L3 a0_ k3 xs3 (i3 + 1) (q4_1))) (y320) 0 (w3_1)) else none))
def d_spec_RuleVars (a0_ : Rule) : Option (List Bytes) := (d_spec_RuleVars_L1 a0_ (fun (q1_1 : List Bytes) => (d_spec_RuleVars_L3 a0_ (fun (q3_0 : List Bytes) => (some (q3_0))) (a0_.acts) 0 (q1_1))) (a0_.conds) 0 (([] : List Bytes)))
def d_spec_RuleVars_S1 (a0_ : Rule) (W0 : List (List D)) (ix_ : Int) : St := ⟨[(1, D.ptr 0 0), (3, D.acc 1), (4, D.int .i64 (ix_))], [Ob.box (Rule.c a0_), Ob.row .uq 9 1 (W0)]⟩
def d_spec_RuleVars_S2 (a0_ : Rule) (i1 : Nat) (y147 : List Bytes) (W0 : List (List D)) (ix_ : Int) : St := ⟨[(1, D.ptr 0 0), (3, D.acc 1), (4, D.int .i64 ((i1 : Int))), (5, D.acc 2), (6, D.int .i64 (ix_))], [Ob.box (Rule.c a0_), Ob.row .uq 9 1 (W0), Ob.row .uq 9 1 ((y147).map tx)]⟩
theorem d_spec_RuleVars_L2w (hΓ : Γ.nt = 63) {a0_ : Rule} {i1 : Nat} {y147 : List Bytes} {r : List Bytes} {k2 : List Bytes → Option (List Bytes)} (hE2 : ∀ (q2_1 : List Bytes), k2 q2_1 = some r → Ax Γ N Tryz.f108 (D.fr 9 1 ((r).map tx)) [1, 1, 0, 1, 0, 0, 1, 1] ⟨[(1, D.ptr 0 0), (3, D.acc 1), (4, D.int .i64 ((i1 : Int)))], [Ob.box (Rule.c a0_), Ob.row .uq 9 1 ((q2_1).map tx)]⟩) (hm2 : (y147).length ≤ maxLen) : ∀ (rest : List Bytes) (i2 : Nat) (w2_1 : List Bytes), (y147).drop i2 = rest → d_spec_RuleVars_L2 a0_ i1 y147 k2 rest i2 w2_1 = some r → Ar Γ N Tryz.f108 (D.fr 9 1 ((r).map tx)) [1, 1, 0, 1, 0, 0, 1, 0, 0, 1, 1, 0] (rest.length + 1) (d_spec_RuleVars_S2 a0_ i1 y147 ((w2_1).map tx) ((i2 : Int))) := by
  intro rest
  induction rest with
  | nil =>
    intro i2 w2_1 hd2 h
    rw [d_spec_RuleVars_L2] at h
    refine AWr_succ fun N2 hN2 hS2 => ?_
    exact ((pre0.ge tx hd2).a [.hl 3 [1, 3, 4] [0, 1]]).ex [[some (9, 1)]] hΓ hN2 (hE2 (w2_1) h)
  | cons x2_ xs2 ih2 =>
    intro i2 w2_1 hd2 h
    rw [d_spec_RuleVars_L2] at h
    refine AWr_succ fun N2 hN2 hS2 => ?_
    obtain ⟨y171, h172, h⟩ := den_bind h
    exact (((((pre0.lt tx hd2).i (own_ixl tx 1 (dc hd2))).o 1 1 .uq (map_get tx (dc hd2))).g (d_spec_l1Put_good h172)).a [.cn [1, 3, 4, 5, 6] [0, 3, 2]]).ct [[some (9, 1)]] hΓ hS2 (iS hd2 hm2) (ih2 (i2 + 1) (y171) (dn hd2) h)
theorem d_spec_RuleVars_L1w (hΓ : Γ.nt = 63) {a0_ : Rule} {r : List Bytes} {k1 : List Bytes → Option (List Bytes)} (hE1 : ∀ (q1_1 : List Bytes), k1 q1_1 = some r → Ax Γ N Tryz.f108 (D.fr 9 1 ((r).map tx)) [1, 1, 1] ⟨[(1, D.ptr 0 0), (3, D.acc 1)], [Ob.box (Rule.c a0_), Ob.row .uq 9 1 ((q1_1).map tx)]⟩) (hm1 : (a0_.conds).length ≤ maxLen) : ∀ (rest : List Cond) (i1 : Nat) (w1_1 : List Bytes), (a0_.conds).drop i1 = rest → d_spec_RuleVars_L1 a0_ k1 rest i1 w1_1 = some r → Ar Γ N Tryz.f108 (D.fr 9 1 ((r).map tx)) [1, 1, 0, 1, 0] (rest.length + 1) (d_spec_RuleVars_S1 a0_ ((w1_1).map tx) ((i1 : Int))) := by
  intro rest
  induction rest with
  | nil =>
    intro i1 w1_1 hd1 h
    rw [d_spec_RuleVars_L1] at h
    refine AWr_succ fun N1 hN1 hS1 => ?_
    exact ((pre0.ge Cond.c hd1).a [.hl 0 [1, 3] [0, 1]]).ex [[some (9, 1)]] hΓ hN1 (hE1 (w1_1) h)
  | cons x1_ xs1 ih1 =>
    intro i1 w1_1 hd1 h
    rw [d_spec_RuleVars_L1] at h
    refine AWr_succ fun N1 hN1 hS1 => ?_
    obtain ⟨y147, h148, h⟩ := den_bind h
    obtain ⟨h173, h⟩ := den_ok h
    refine ((((pre0.lt Cond.c hd1).l (map_row Cond.c 5 (dc hd1) rfl)).g (d_spec_CondVars_good h148)).a [.cn [1, 3, 4, 5, 6] [0, 1, 2]]).lp [[some (9, 1)]] hΓ (d_spec_RuleVars_L2w hΓ (fun q2_1 h => ?_) (of_decide_eq_true h173) (y147) 0 (w1_1) rfl h)
    exact (pre0.a [.cn [1, 3, 4] [0, 1]]).ct [[some (9, 1)]] hΓ hS1 (iS hd1 hm1) (ih1 (i1 + 1) (q2_1) (dn hd1) h)
def d_spec_RuleVars_S3 (a0_ : Rule) (W0 : List (List D)) (ix_ : Int) : St := ⟨[(1, D.ptr 0 0), (3, D.acc 1), (7, D.int .i64 (ix_))], [Ob.box (Rule.c a0_), Ob.row .uq 9 1 (W0)]⟩
def d_spec_RuleVars_S4 (a0_ : Rule) (i3 : Nat) (y320 : List Bytes) (W0 : List (List D)) (ix_ : Int) : St := ⟨[(1, D.ptr 0 0), (3, D.acc 1), (7, D.int .i64 ((i3 : Int))), (8, D.acc 2), (9, D.int .i64 (ix_))], [Ob.box (Rule.c a0_), Ob.row .uq 9 1 (W0), Ob.row .uq 9 1 ((y320).map tx)]⟩
theorem d_spec_RuleVars_L4w (hΓ : Γ.nt = 63) {a0_ : Rule} {i3 : Nat} {y320 : List Bytes} {r : List Bytes} {k4 : List Bytes → Option (List Bytes)} (hE4 : ∀ (q4_1 : List Bytes), k4 q4_1 = some r → Ax Γ N Tryz.f108 (D.fr 9 1 ((r).map tx)) [1, 1, 1, 0, 1, 0, 0, 1, 1] ⟨[(1, D.ptr 0 0), (3, D.acc 1), (7, D.int .i64 ((i3 : Int)))], [Ob.box (Rule.c a0_), Ob.row .uq 9 1 ((q4_1).map tx)]⟩) (hm4 : (y320).length ≤ maxLen) : ∀ (rest : List Bytes) (i4 : Nat) (w4_1 : List Bytes), (y320).drop i4 = rest → d_spec_RuleVars_L4 a0_ i3 y320 k4 rest i4 w4_1 = some r → Ar Γ N Tryz.f108 (D.fr 9 1 ((r).map tx)) [1, 1, 1, 0, 1, 0, 0, 1, 0, 0, 1, 1, 0] (rest.length + 1) (d_spec_RuleVars_S4 a0_ i3 y320 ((w4_1).map tx) ((i4 : Int))) := by
  intro rest
  induction rest with
  | nil =>
    intro i4 w4_1 hd4 h
    rw [d_spec_RuleVars_L4] at h
    refine AWr_succ fun N4 hN4 hS4 => ?_
    exact ((pre0.ge tx hd4).a [.hl 3 [1, 3, 7] [0, 1]]).ex [[some (9, 1)]] hΓ hN4 (hE4 (w4_1) h)
  | cons x4_ xs4 ih4 =>
    intro i4 w4_1 hd4 h
    rw [d_spec_RuleVars_L4] at h
    refine AWr_succ fun N4 hN4 hS4 => ?_
    obtain ⟨y344, h345, h⟩ := den_bind h
    exact (((((pre0.lt tx hd4).i (own_ixl tx 1 (dc hd4))).o 1 1 .uq (map_get tx (dc hd4))).g (d_spec_l1Put_good h345)).a [.cn [1, 3, 7, 8, 9] [0, 3, 2]]).ct [[some (9, 1)]] hΓ hS4 (iS hd4 hm4) (ih4 (i4 + 1) (y344) (dn hd4) h)
theorem d_spec_RuleVars_L3w (hΓ : Γ.nt = 63) {a0_ : Rule} {r : List Bytes} {k3 : List Bytes → Option (List Bytes)} (hE3 : ∀ (q3_0 : List Bytes), k3 q3_0 = some r → Ax Γ N Tryz.f108 (D.fr 9 1 ((r).map tx)) [1, 1, 1, 1] ⟨[(3, D.acc 0)], [Ob.row .uq 9 1 ((q3_0).map tx)]⟩) (hm3 : (a0_.acts).length ≤ maxLen) : ∀ (rest : List Action) (i3 : Nat) (w3_1 : List Bytes), (a0_.acts).drop i3 = rest → d_spec_RuleVars_L3 a0_ k3 rest i3 w3_1 = some r → Ar Γ N Tryz.f108 (D.fr 9 1 ((r).map tx)) [1, 1, 1, 0, 1, 0] (rest.length + 1) (d_spec_RuleVars_S3 a0_ ((w3_1).map tx) ((i3 : Int))) := by
  intro rest
  induction rest with
  | nil =>
    intro i3 w3_1 hd3 h
    rw [d_spec_RuleVars_L3] at h
    refine AWr_succ fun N3 hN3 hS3 => ?_
    exact ((pre0.ge Action.c hd3).a [.hl 0 [3] [1]]).ex [[some (9, 1)]] hΓ hN3 (hE3 (w3_1) h)
  | cons x3_ xs3 ih3 =>
    intro i3 w3_1 hd3 h
    rw [d_spec_RuleVars_L3] at h
    refine AWr_succ fun N3 hN3 hS3 => ?_
    obtain ⟨y320, h321, h⟩ := den_bind h
    obtain ⟨h346, h⟩ := den_ok h
    refine ((((pre0.lt Action.c hd3).l (map_row Action.c 3 (dc hd3) rfl)).g (d_spec_VarsOf_good h321)).a [.cn [1, 3, 7, 8, 9] [0, 1, 2]]).lp [[some (9, 1)]] hΓ (d_spec_RuleVars_L4w hΓ (fun q4_1 h => ?_) (of_decide_eq_true h346) (y320) 0 (w3_1) rfl h)
    exact (pre0.a [.cn [1, 3, 7] [0, 1]]).ct [[some (9, 1)]] hΓ hS3 (iS hd3 hm3) (ih3 (i3 + 1) (q4_1) (dn hd3) h)
theorem d_spec_RuleVars_good {a0_ : Rule} {r : List Bytes} (h : d_spec_RuleVars a0_ = some r) : Good Tryz.prog 108 [D.agg (Rule.c a0_)] (D.fr 9 1 ((r).map tx)) := by
  refine gd Tryz.func108 63 fun hr Γ hΓ => ?_
  rw [d_spec_RuleVars] at h
  refine (pre0.a [.cn [1, 3, 4] [0, 1]]).lp [[some (9, 1)]] hΓ (d_spec_RuleVars_L1w hΓ (fun q1_1 h => ?_) (by have := (Rdb.sl (Rdb.agg (hr _ (List.mem_of_getElem? (i := 0) rfl)) (.sl ((a0_.conds).map Cond.c)) (by simp))).1; simpa using this) (a0_.conds) 0 (([] : List Bytes)) rfl h)
  refine (pre0.a [.cn [1, 3, 7] [0, 1]]).lp [[some (9, 1)]] hΓ (d_spec_RuleVars_L3w hΓ (fun q3_0 h => ?_) (by have := (Rdb.sl (Rdb.agg (hr _ (List.mem_of_getElem? (i := 0) rfl)) (.sl ((a0_.acts).map Action.c)) (by simp))).1; simpa using this) (a0_.acts) 0 (q1_1) rfl h)
  have h := den_some h; subst h; exact pre0.ret [[some (9, 1)]] hΓ
def d_spec_IsRule_L2 (a0_ : Rule) (y13 : List Bytes) (i1 : Nat) (x1_ : Cond) (y648 : List Bytes) (y650 : List Bytes) (k2 : Option Bool) : List Bytes → Nat → Option Bool
  | [], i2 => (k2 )
  | x2_ :: xs2, i2 => ((d_spec_l1HasText (y648) (x2_)).bind fun y710 => ((d_spec_IsTest (x1_)).bind fun y712 => (bif y712 then (bif !(y710) then (some (false)) else (bif (x1_.kind : Int) == (2) then (d_spec_IsRule_L2 a0_ y13 i1 x1_ y648 y650 k2 xs2 (i2 + 1) ) else (d_spec_IsRule_L2 a0_ y13 i1 x1_ y648 y650 k2 xs2 (i2 + 1) ))) else (bif (x1_.kind : Int) == (2) then (bif !(y710) then ((d_spec_l5Elsewhere (a0_) ((i1 : Int)) (x2_)).bind fun y719 => (bif y719 then (some (false)) else (d_spec_IsRule_L2 a0_ y13 i1 x1_ y648 y650 k2 xs2 (i2 + 1) ))) else (d_spec_IsRule_L2 a0_ y13 i1 x1_ y648 y650 k2 xs2 (i2 + 1) )) else (d_spec_IsRule_L2 a0_ y13 i1 x1_ y648 y650 k2 xs2 (i2 + 1) )))))
def d_spec_IsRule_L3 (a0_ : Rule) (y13 : List Bytes) (i1 : Nat) (x1_ : Cond) (y723 : List Bytes) (y725 : List Bytes) (k3 : Option Bool) : List Bytes → Nat → Option Bool
  | [], i3 => (k3 )
  | x3_ :: xs3, i3 => ((d_spec_l1HasText (y723) (x3_)).bind fun y785 => ((d_spec_IsTest (x1_)).bind fun y787 => (bif y787 then (bif !(y785) then (some (false)) else (bif (x1_.kind : Int) == (2) then (d_spec_IsRule_L3 a0_ y13 i1 x1_ y723 y725 k3 xs3 (i3 + 1) ) else (d_spec_IsRule_L3 a0_ y13 i1 x1_ y723 y725 k3 xs3 (i3 + 1) ))) else (bif (x1_.kind : Int) == (2) then (bif !(y785) then ((d_spec_l5Elsewhere (a0_) ((i1 : Int)) (x3_)).bind fun y794 => (bif y794 then (some (false)) else (d_spec_IsRule_L3 a0_ y13 i1 x1_ y723 y725 k3 xs3 (i3 + 1) ))) else (d_spec_IsRule_L3 a0_ y13 i1 x1_ y723 y725 k3 xs3 (i3 + 1) )) else (d_spec_IsRule_L3 a0_ y13 i1 x1_ y723 y725 k3 xs3 (i3 + 1) )))))
def d_spec_IsRule_L1 (a0_ : Rule) (y13 : List Bytes) (k1 : Option Bool) : List Cond → Nat → Option Bool
  | [], i1 => (k1 )
  | x1_ :: xs1, i1 => ((d_spec_IsCond (x1_)).bind fun y643 => (bif !(y643) then (some (false)) else (bif ((i1 : Int) : Int) == (0) then (bif (x1_.kind : Int) != (1) then (some (false)) else ((d_spec_BoundVars (a0_) ((i1 : Int))).bind fun y648 => ((d_spec_CondVars (x1_)).bind fun y650 => (bif decide ((y650).length ≤ maxLen) then (d_spec_IsRule_L2 a0_ y13 i1 x1_ y648 y650 (d_spec_IsRule_L1 a0_ y13 k1 xs1 (i1 + 1) ) (y650) 0 ) else none)))) else ((d_spec_BoundVars (a0_) ((i1 : Int))).bind fun y723 => ((d_spec_CondVars (x1_)).bind fun y725 => (bif decide ((y725).length ≤ maxLen) then (d_spec_IsRule_L3 a0_ y13 i1 x1_ y723 y725 (d_spec_IsRule_L1 a0_ y13 k1 xs1 (i1 + 1) ) (y725) 0 ) else none))))))
def d_spec_IsRule_L5 (a0_ : Rule) (y13 : List Bytes) (i4 : Nat) (y929 : List Bytes) (k5 : Option Bool) : List Bytes → Nat → Option Bool
  | [], i5 => (k5 )
  | x5_ :: xs5, i5 => ((d_spec_l1HasText (y13) (x5_)).bind fun y952 => (bif !(y952) then (some (false)) else (d_spec_IsRule_L5 a0_ y13 i4 y929 k5 xs5 (i5 + 1) )))
def d_spec_IsRule_L4 (a0_ : Rule) (y13 : List Bytes) (k4 : Option Bool) : List Action → Nat → Option Bool
  | [], i4 => (k4 )
  | x4_ :: xs4, i4 => ((d_spec_IsAction (x4_)).bind fun y926 => (bif !(y926) then (some (false)) else ((d_spec_VarsOf (x4_.pat)).bind fun y929 => (bif decide ((y929).length ≤ maxLen) then (d_spec_IsRule_L5 a0_ y13 i4 y929 (d_spec_IsRule_L4 a0_ y13 k4 xs4 (i4 + 1) ) (y929) 0 ) else none))))
def d_spec_IsRule (a0_ : Rule) : Option Bool := ((d_spec_IsName (a0_.name)).bind fun y1 => (bif !(y1) then (some (false)) else ((d_spec_l1In (a0_.prio) (0) (9)).bind fun y4 => (bif !(y4) then (some (false)) else ((d_spec_l1In ((((a0_.conds).map Cond.c).length : Int)) (1) (4)).bind fun y7 => (bif !(y7) then (some (false)) else ((d_spec_l1In ((((a0_.acts).map Action.c).length : Int)) (1) (2)).bind fun y10 => (bif !(y10) then (some (false)) else ((d_spec_BoundVars (a0_) ((((a0_.conds).map Cond.c).length : Int))).bind fun y13 => (d_spec_IsRule_L1 a0_ y13 (d_spec_IsRule_L4 a0_ y13 ((d_spec_RuleVars (a0_)).bind fun y956 => (some (decide (((((y956).map tx).length : Int) : Int) ≤ (6))))) (a0_.acts) 0 ) (a0_.conds) 0 ))))))))))
def d_spec_IsRule_S1 (a0_ : Rule) (y13 : List Bytes) (ix_ : Int) : St := ⟨[(1, D.ptr 0 0), (3, D.acc 1), (4, D.int .i64 (ix_))], [Ob.box (Rule.c a0_), Ob.row .uq 9 1 ((y13).map tx)]⟩
def d_spec_IsRule_S2 (a0_ : Rule) (y13 : List Bytes) (i1 : Nat) (x1_ : Cond) (y648 : List Bytes) (y650 : List Bytes) (ix_ : Int) : St := ⟨[(1, D.ptr 0 0), (3, D.acc 1), (4, D.int .i64 ((i1 : Int))), (5, D.ptr 2 0), (6, D.acc 3), (7, D.acc 4), (8, D.int .i64 (ix_))], [Ob.box (Rule.c a0_), Ob.row .uq 9 1 ((y13).map tx), Ob.box [D.int .i64 (x1_.kind), D.str (x1_.pat.rel), D.sl ((x1_.pat.args).map tx), D.str (x1_.left), D.str (x1_.right)], Ob.row .uq 9 1 ((y648).map tx), Ob.row .uq 9 1 ((y650).map tx)]⟩
theorem d_spec_IsRule_L2w (hΓ : Γ.nt = 145) {a0_ : Rule} {y13 : List Bytes} {i1 : Nat} {x1_ : Cond} {y648 : List Bytes} {y650 : List Bytes} {r : Bool} {k2 : Option Bool} (hE2 : k2 = some r → Ax Γ N Tryz.f56 (D.bool (r)) [1, 1, 1, 0, 1, 0, 0, 1, 1] ⟨[(1, D.ptr 0 0), (3, D.acc 1), (4, D.int .i64 ((i1 : Int)))], [Ob.box (Rule.c a0_), Ob.row .uq 9 1 ((y13).map tx)]⟩) (hm2 : (y650).length ≤ maxLen) : ∀ (rest : List Bytes) (i2 : Nat) , (y650).drop i2 = rest → d_spec_IsRule_L2 a0_ y13 i1 x1_ y648 y650 k2 rest i2  = some r → Ar Γ N Tryz.f56 (D.bool (r)) [1, 1, 1, 0, 1, 0, 0, 1, 0, 0, 1, 1, 1, 1, 1, 0] (rest.length + 1) (d_spec_IsRule_S2 a0_ y13 i1 x1_ y648 y650 ((i2 : Int))) := by
  intro rest
  induction rest with
  | nil =>
    intro i2  hd2 h
    rw [d_spec_IsRule_L2] at h
    refine AWr_succ fun N2 hN2 hS2 => ?_
    exact ((pre0.ge tx hd2).a [.hl 3 [1, 3, 4] [0, 1]]).ex [[none]] hΓ hN2 (hE2 h)
  | cons x2_ xs2 ih2 =>
    intro i2  hd2 h
    rw [d_spec_IsRule_L2] at h
    refine AWr_succ fun N2 hN2 hS2 => ?_
    obtain ⟨y710, h711, h⟩ := den_bind h
    obtain ⟨y712, h713, h⟩ := den_bind h
    have o118_ := ((((((pre0.lt tx hd2).i (own_ixl tx 1 (dc hd2))).o 1 1 .uq (map_get tx (dc hd2))).g (d_spec_l1HasText_good h711)).a [.n 21]).g (d_spec_IsTest_good h713))
    obtain ⟨h714, h⟩ | ⟨h714, h⟩ := den_if h
    · have o119_ := (o118_.r 3 h714)
      obtain ⟨h715, h⟩ | ⟨h715, h⟩ := den_if h
      · have h := den_some h; subst h; exact ((((((o119_.r 4 h715).a [bF, bF]).r 2 h715).a [bF, bF, bF, bF, bF, bF, bF]).r 2 h715).T 1).ret [[none]] hΓ
      · have o120_ := (o119_.r 4 h715)
        obtain ⟨h716, h⟩ | ⟨h716, h⟩ := den_if h
        · exact ((((((o120_.r 2 h716).b h715).b h716).r 11 h715).F 1).a [.cn [1, 3, 4, 5, 6, 7, 8] [0, 1, 2, 3, 4]]).ct [[none]] hΓ hS2 (iS hd2 hm2) (ih2 (i2 + 1)  (dn hd2) h)
        · exact ((((((((((o120_.r 2 h716).b h715).b h716).b h715).F 7).b h715).F 1).b h715).F 1).a [.cn [1, 3, 4, 5, 6, 7, 8] [0, 1, 2, 3, 4]]).ct [[none]] hΓ hS2 (iS hd2 hm2) (ih2 (i2 + 1)  (dn hd2) h)
    · have o121_ := ((o118_.r 3 h714).F 4)
      obtain ⟨h717, h⟩ | ⟨h717, h⟩ := den_if h
      · have o122_ := ((((o121_.r 2 h717).F 1).b h717).F 1)
        obtain ⟨h718, h⟩ | ⟨h718, h⟩ := den_if h
        · obtain ⟨y719, h720, h⟩ := den_bind h
          have o123_ := (((((((((o122_.r 5 h718).i (own_ixl tx 1 (dc hd2))).b h718).o 1 1 .uq (map_get tx (dc hd2))).b h718).g (d_spec_l5Elsewhere_good h720)).F 1).b h718).F 1)
          obtain ⟨h721, h⟩ | ⟨h721, h⟩ := den_if h
          · have h := den_some h; subst h; exact (o123_.b h721).ret [[none]] hΓ
          · exact ((o123_.b h721).a [.cn [1, 3, 4, 5, 6, 7, 8] [0, 1, 2, 3, 4]]).ct [[none]] hΓ hS2 (iS hd2 hm2) (ih2 (i2 + 1)  (dn hd2) h)
        · exact (((((o122_.r 7 h718).F 1).b h718).F 2).a [.cn [1, 3, 4, 5, 6, 7, 8] [0, 1, 2, 3, 4]]).ct [[none]] hΓ hS2 (iS hd2 hm2) (ih2 (i2 + 1)  (dn hd2) h)
      · exact (((((o121_.r 2 h717).F 1).b h717).F 12).a [.cn [1, 3, 4, 5, 6, 7, 8] [0, 1, 2, 3, 4]]).ct [[none]] hΓ hS2 (iS hd2 hm2) (ih2 (i2 + 1)  (dn hd2) h)
def d_spec_IsRule_S3 (a0_ : Rule) (y13 : List Bytes) (i1 : Nat) (x1_ : Cond) (y723 : List Bytes) (y725 : List Bytes) (ix_ : Int) : St := ⟨[(1, D.ptr 0 0), (3, D.acc 1), (4, D.int .i64 ((i1 : Int))), (5, D.ptr 2 0), (6, D.acc 3), (7, D.acc 4), (8, D.int .i64 (ix_))], [Ob.box (Rule.c a0_), Ob.row .uq 9 1 ((y13).map tx), Ob.box [D.int .i64 (x1_.kind), D.str (x1_.pat.rel), D.sl ((x1_.pat.args).map tx), D.str (x1_.left), D.str (x1_.right)], Ob.row .uq 9 1 ((y723).map tx), Ob.row .uq 9 1 ((y725).map tx)]⟩
theorem d_spec_IsRule_L3w (hΓ : Γ.nt = 145) {a0_ : Rule} {y13 : List Bytes} {i1 : Nat} {x1_ : Cond} {y723 : List Bytes} {y725 : List Bytes} {r : Bool} {k3 : Option Bool} (hE3 : k3 = some r → Ax Γ N Tryz.f56 (D.bool (r)) [1, 1, 1, 0, 1, 0, 0, 1, 1] ⟨[(1, D.ptr 0 0), (3, D.acc 1), (4, D.int .i64 ((i1 : Int)))], [Ob.box (Rule.c a0_), Ob.row .uq 9 1 ((y13).map tx)]⟩) (hm3 : (y725).length ≤ maxLen) : ∀ (rest : List Bytes) (i3 : Nat) , (y725).drop i3 = rest → d_spec_IsRule_L3 a0_ y13 i1 x1_ y723 y725 k3 rest i3  = some r → Ar Γ N Tryz.f56 (D.bool (r)) [1, 1, 1, 0, 1, 0, 0, 1, 0, 0, 1, 1, 1, 1, 1, 0] (rest.length + 1) (d_spec_IsRule_S3 a0_ y13 i1 x1_ y723 y725 ((i3 : Int))) := by
  intro rest
  induction rest with
  | nil =>
    intro i3  hd3 h
    rw [d_spec_IsRule_L3] at h
    refine AWr_succ fun N3 hN3 hS3 => ?_
    exact ((pre0.ge tx hd3).a [.hl 3 [1, 3, 4] [0, 1]]).ex [[none]] hΓ hN3 (hE3 h)
  | cons x3_ xs3 ih3 =>
    intro i3  hd3 h
    rw [d_spec_IsRule_L3] at h
    refine AWr_succ fun N3 hN3 hS3 => ?_
    obtain ⟨y785, h786, h⟩ := den_bind h
    obtain ⟨y787, h788, h⟩ := den_bind h
    have o124_ := ((((((pre0.lt tx hd3).i (own_ixl tx 1 (dc hd3))).o 1 1 .uq (map_get tx (dc hd3))).g (d_spec_l1HasText_good h786)).a [.n 21]).g (d_spec_IsTest_good h788))
    obtain ⟨h789, h⟩ | ⟨h789, h⟩ := den_if h
    · have o125_ := (o124_.r 3 h789)
      obtain ⟨h790, h⟩ | ⟨h790, h⟩ := den_if h
      · have h := den_some h; subst h; exact ((((((o125_.r 4 h790).a [bF, bF]).r 2 h790).a [bF, bF, bF, bF, bF, bF, bF]).r 2 h790).T 1).ret [[none]] hΓ
      · have o126_ := (o125_.r 4 h790)
        obtain ⟨h791, h⟩ | ⟨h791, h⟩ := den_if h
        · exact ((((((o126_.r 2 h791).b h790).b h791).r 11 h790).F 1).a [.cn [1, 3, 4, 5, 6, 7, 8] [0, 1, 2, 3, 4]]).ct [[none]] hΓ hS3 (iS hd3 hm3) (ih3 (i3 + 1)  (dn hd3) h)
        · exact ((((((((((o126_.r 2 h791).b h790).b h791).b h790).F 7).b h790).F 1).b h790).F 1).a [.cn [1, 3, 4, 5, 6, 7, 8] [0, 1, 2, 3, 4]]).ct [[none]] hΓ hS3 (iS hd3 hm3) (ih3 (i3 + 1)  (dn hd3) h)
    · have o127_ := ((o124_.r 3 h789).F 4)
      obtain ⟨h792, h⟩ | ⟨h792, h⟩ := den_if h
      · have o128_ := ((((o127_.r 2 h792).F 1).b h792).F 1)
        obtain ⟨h793, h⟩ | ⟨h793, h⟩ := den_if h
        · obtain ⟨y794, h795, h⟩ := den_bind h
          have o129_ := (((((((((o128_.r 5 h793).i (own_ixl tx 1 (dc hd3))).b h793).o 1 1 .uq (map_get tx (dc hd3))).b h793).g (d_spec_l5Elsewhere_good h795)).F 1).b h793).F 1)
          obtain ⟨h796, h⟩ | ⟨h796, h⟩ := den_if h
          · have h := den_some h; subst h; exact (o129_.b h796).ret [[none]] hΓ
          · exact ((o129_.b h796).a [.cn [1, 3, 4, 5, 6, 7, 8] [0, 1, 2, 3, 4]]).ct [[none]] hΓ hS3 (iS hd3 hm3) (ih3 (i3 + 1)  (dn hd3) h)
        · exact (((((o128_.r 7 h793).F 1).b h793).F 2).a [.cn [1, 3, 4, 5, 6, 7, 8] [0, 1, 2, 3, 4]]).ct [[none]] hΓ hS3 (iS hd3 hm3) (ih3 (i3 + 1)  (dn hd3) h)
      · exact (((((o127_.r 2 h792).F 1).b h792).F 12).a [.cn [1, 3, 4, 5, 6, 7, 8] [0, 1, 2, 3, 4]]).ct [[none]] hΓ hS3 (iS hd3 hm3) (ih3 (i3 + 1)  (dn hd3) h)
theorem d_spec_IsRule_L1w (hΓ : Γ.nt = 145) {a0_ : Rule} {y13 : List Bytes} {r : Bool} {k1 : Option Bool} (hE1 : k1 = some r → Ax Γ N Tryz.f56 (D.bool (r)) [1, 1, 1, 1] ⟨[(1, D.ptr 0 0), (3, D.acc 1)], [Ob.box (Rule.c a0_), Ob.row .uq 9 1 ((y13).map tx)]⟩) (hm1 : (a0_.conds).length ≤ maxLen) : ∀ (rest : List Cond) (i1 : Nat) , (a0_.conds).drop i1 = rest → d_spec_IsRule_L1 a0_ y13 k1 rest i1  = some r → Ar Γ N Tryz.f56 (D.bool (r)) [1, 1, 1, 0, 1, 0] (rest.length + 1) (d_spec_IsRule_S1 a0_ y13 ((i1 : Int))) := by
  intro rest
  induction rest with
  | nil =>
    intro i1  hd1 h
    rw [d_spec_IsRule_L1] at h
    refine AWr_succ fun N1 hN1 hS1 => ?_
    exact ((pre0.ge Cond.c hd1).a [.hl 0 [1, 3] [0, 1]]).ex [[none]] hΓ hN1 (hE1 h)
  | cons x1_ xs1 ih1 =>
    intro i1  hd1 h
    rw [d_spec_IsRule_L1] at h
    refine AWr_succ fun N1 hN1 hS1 => ?_
    obtain ⟨y643, h644, h⟩ := den_bind h
    have o130_ := (((pre0.lt Cond.c hd1).l (map_row Cond.c 5 (dc hd1) rfl)).g (d_spec_IsCond_good h644))
    obtain ⟨h645, h⟩ | ⟨h645, h⟩ := den_if h
    · have h := den_some h; subst h; exact ((((o130_.r 3 h645).a [bF, bF, bF]).r 2 h645).T 1).ret [[none]] hΓ
    · have o131_ := (o130_.r 3 h645)
      obtain ⟨h646, h⟩ | ⟨h646, h⟩ := den_if h
      · have o132_ := ((((o131_.r 3 h646).b h645).b h646).b h645)
        obtain ⟨h647, h⟩ | ⟨h647, h⟩ := den_if h
        · have h := den_some h; subst h; exact (o132_.b h647).ret [[none]] hΓ
        · obtain ⟨y648, h649, h⟩ := den_bind h
          obtain ⟨y650, h651, h⟩ := den_bind h
          obtain ⟨h722, h⟩ := den_ok h
          refine ((((o132_.b h647).g (d_spec_BoundVars_good h649)).g (d_spec_CondVars_good h651)).a [.cn [1, 3, 4, 5, 6, 7, 8] [0, 1, 2, 3, 4]]).lp [[none]] hΓ (d_spec_IsRule_L2w hΓ (fun h => ?_) (of_decide_eq_true h722) (y650) 0  rfl h)
          exact (pre0.a [.cn [1, 3, 4] [0, 1]]).ct [[none]] hΓ hS1 (iS hd1 hm1) (ih1 (i1 + 1)  (dn hd1) h)
      · obtain ⟨y723, h724, h⟩ := den_bind h
        obtain ⟨y725, h726, h⟩ := den_bind h
        obtain ⟨h797, h⟩ := den_ok h
        refine ((((((((o131_.r 3 h646).b h645).b h646).b h645).F 1).g (d_spec_BoundVars_good h724)).g (d_spec_CondVars_good h726)).a [.cn [1, 3, 4, 5, 6, 7, 8] [0, 1, 2, 3, 4]]).lp [[none]] hΓ (d_spec_IsRule_L3w hΓ (fun h => ?_) (of_decide_eq_true h797) (y725) 0  rfl h)
        exact (pre0.a [.cn [1, 3, 4] [0, 1]]).ct [[none]] hΓ hS1 (iS hd1 hm1) (ih1 (i1 + 1)  (dn hd1) h)
def d_spec_IsRule_S4 (a0_ : Rule) (y13 : List Bytes) (ix_ : Int) : St := ⟨[(1, D.ptr 0 0), (3, D.acc 1), (10, D.int .i64 (ix_))], [Ob.box (Rule.c a0_), Ob.row .uq 9 1 ((y13).map tx)]⟩
def d_spec_IsRule_S5 (a0_ : Rule) (y13 : List Bytes) (i4 : Nat) (y929 : List Bytes) (ix_ : Int) : St := ⟨[(1, D.ptr 0 0), (3, D.acc 1), (10, D.int .i64 ((i4 : Int))), (11, D.acc 2), (12, D.int .i64 (ix_))], [Ob.box (Rule.c a0_), Ob.row .uq 9 1 ((y13).map tx), Ob.row .uq 9 1 ((y929).map tx)]⟩
theorem d_spec_IsRule_L5w (hΓ : Γ.nt = 145) {a0_ : Rule} {y13 : List Bytes} {i4 : Nat} {y929 : List Bytes} {r : Bool} {k5 : Option Bool} (hE5 : k5 = some r → Ax Γ N Tryz.f56 (D.bool (r)) [1, 1, 1, 1, 0, 1, 0, 0, 1, 1] ⟨[(1, D.ptr 0 0), (3, D.acc 1), (10, D.int .i64 ((i4 : Int)))], [Ob.box (Rule.c a0_), Ob.row .uq 9 1 ((y13).map tx)]⟩) (hm5 : (y929).length ≤ maxLen) : ∀ (rest : List Bytes) (i5 : Nat) , (y929).drop i5 = rest → d_spec_IsRule_L5 a0_ y13 i4 y929 k5 rest i5  = some r → Ar Γ N Tryz.f56 (D.bool (r)) [1, 1, 1, 1, 0, 1, 0, 0, 1, 0, 0, 1, 1, 1, 0] (rest.length + 1) (d_spec_IsRule_S5 a0_ y13 i4 y929 ((i5 : Int))) := by
  intro rest
  induction rest with
  | nil =>
    intro i5  hd5 h
    rw [d_spec_IsRule_L5] at h
    refine AWr_succ fun N5 hN5 hS5 => ?_
    exact ((pre0.ge tx hd5).a [.hl 3 [1, 3, 10] [0, 1]]).ex [[none]] hΓ hN5 (hE5 h)
  | cons x5_ xs5 ih5 =>
    intro i5  hd5 h
    rw [d_spec_IsRule_L5] at h
    refine AWr_succ fun N5 hN5 hS5 => ?_
    obtain ⟨y952, h953, h⟩ := den_bind h
    have o137_ := ((((pre0.lt tx hd5).i (own_ixl tx 1 (dc hd5))).o 1 1 .uq (map_get tx (dc hd5))).g (d_spec_l1HasText_good h953))
    obtain ⟨h954, h⟩ | ⟨h954, h⟩ := den_if h
    · have h := den_some h; subst h; exact (o137_.b h954).ret [[none]] hΓ
    · exact ((o137_.b h954).a [.cn [1, 3, 10, 11, 12] [0, 1, 2]]).ct [[none]] hΓ hS5 (iS hd5 hm5) (ih5 (i5 + 1)  (dn hd5) h)
theorem d_spec_IsRule_L4w (hΓ : Γ.nt = 145) {a0_ : Rule} {y13 : List Bytes} {r : Bool} {k4 : Option Bool} (hE4 : k4 = some r → Ax Γ N Tryz.f56 (D.bool (r)) [1, 1, 1, 1, 1] ⟨[(1, D.ptr 0 0)], [Ob.box (Rule.c a0_)]⟩) (hm4 : (a0_.acts).length ≤ maxLen) : ∀ (rest : List Action) (i4 : Nat) , (a0_.acts).drop i4 = rest → d_spec_IsRule_L4 a0_ y13 k4 rest i4  = some r → Ar Γ N Tryz.f56 (D.bool (r)) [1, 1, 1, 1, 0, 1, 0] (rest.length + 1) (d_spec_IsRule_S4 a0_ y13 ((i4 : Int))) := by
  intro rest
  induction rest with
  | nil =>
    intro i4  hd4 h
    rw [d_spec_IsRule_L4] at h
    refine AWr_succ fun N4 hN4 hS4 => ?_
    exact ((pre0.ge Action.c hd4).a [.hl 0 [1] [0]]).ex [[none]] hΓ hN4 (hE4 h)
  | cons x4_ xs4 ih4 =>
    intro i4  hd4 h
    rw [d_spec_IsRule_L4] at h
    refine AWr_succ fun N4 hN4 hS4 => ?_
    obtain ⟨y926, h927, h⟩ := den_bind h
    have o138_ := (((pre0.lt Action.c hd4).l (map_row Action.c 3 (dc hd4) rfl)).g (d_spec_IsAction_good h927))
    obtain ⟨h928, h⟩ | ⟨h928, h⟩ := den_if h
    · have h := den_some h; subst h; exact (o138_.b h928).ret [[none]] hΓ
    · obtain ⟨y929, h930, h⟩ := den_bind h
      obtain ⟨h955, h⟩ := den_ok h
      refine ((((o138_.b h928).l (map_row Action.c 3 (dc hd4) rfl)).g (d_spec_VarsOf_good h930)).a [.cn [1, 3, 10, 11, 12] [0, 1, 2]]).lp [[none]] hΓ (d_spec_IsRule_L5w hΓ (fun h => ?_) (of_decide_eq_true h955) (y929) 0  rfl h)
      exact (pre0.a [.cn [1, 3, 10] [0, 1]]).ct [[none]] hΓ hS4 (iS hd4 hm4) (ih4 (i4 + 1)  (dn hd4) h)
theorem d_spec_IsRule_good {a0_ : Rule} {r : Bool} (h : d_spec_IsRule a0_ = some r) : Good Tryz.prog 56 [D.agg (Rule.c a0_)] (D.bool (r)) := by
  refine gd Tryz.func56 145 fun hr Γ hΓ => ?_
  rw [d_spec_IsRule] at h
  obtain ⟨y1, h2, h⟩ := den_bind h
  obtain ⟨h3, h⟩ | ⟨h3, h⟩ := den_if h
  · have h := den_some h; subst h; exact (((pre0.g (d_spec_IsName_good h2)).r 5 h3).T 13).ret [[none]] hΓ
  · obtain ⟨y4, h5, h⟩ := den_bind h
    have o139_ := ((((pre0.g (d_spec_IsName_good h2)).r 3 h3).g (d_spec_l1In_good h5)).r 2 h3)
    obtain ⟨h6, h⟩ | ⟨h6, h⟩ := den_if h
    · have h := den_some h; subst h; exact ((o139_.r 6 h6).T 7).ret [[none]] hΓ
    · obtain ⟨y7, h8, h⟩ := den_bind h
      have o140_ := (((o139_.r 4 h6).g (d_spec_l1In_good h8)).r 2 h6)
      obtain ⟨h9, h⟩ | ⟨h9, h⟩ := den_if h
      · have h := den_some h; subst h; exact ((o140_.r 6 h9).T 1).ret [[none]] hΓ
      · obtain ⟨y10, h11, h⟩ := den_bind h
        have o141_ := (((o140_.r 4 h9).g (d_spec_l1In_good h11)).r 2 h9)
        obtain ⟨h12, h⟩ | ⟨h12, h⟩ := den_if h
        · have h := den_some h; subst h; exact (o141_.b h12).ret [[none]] hΓ
        · obtain ⟨y13, h14, h⟩ := den_bind h
          refine (((o141_.b h12).g (d_spec_BoundVars_good h14)).a [.cn [1, 3, 4] [0, 1]]).lp [[none]] hΓ (d_spec_IsRule_L1w hΓ (fun h => ?_) (by have := (Rdb.sl (Rdb.agg (hr _ (List.mem_of_getElem? (i := 0) rfl)) (.sl ((a0_.conds).map Cond.c)) (by simp))).1; simpa using this) (a0_.conds) 0  rfl h)
          refine (pre0.a [.cn [1, 3, 10] [0, 1]]).lp [[none]] hΓ (d_spec_IsRule_L4w hΓ (fun h => ?_) (by have := (Rdb.sl (Rdb.agg (hr _ (List.mem_of_getElem? (i := 0) rfl)) (.sl ((a0_.acts).map Action.c)) (by simp))).1; simpa using this) (a0_.acts) 0  rfl h)
          obtain ⟨y956, h957, h⟩ := den_bind h
          cases h; exact (pre0.g (d_spec_RuleVars_good h957)).ret [[none]] hΓ
def d_impl_varsAmong_L1 (a0_ : List Bytes) (k1 : List Bytes → Option (List Bytes)) : List Bytes → Nat → List Bytes → Option (List Bytes)
  | [], i1, w1_0 => (k1 (w1_0))
  | x1_ :: xs1, i1, w1_0 => ((d_impl_IsVar (x1_)).bind fun y32 => (bif y32 then (bif room (((w1_0).map tx).length + ([[D.str (x1_)]]).length) 16 then (d_impl_varsAmong_L1 a0_ k1 xs1 (i1 + 1) ((w1_0) ++ ([x1_]))) else none) else (d_impl_varsAmong_L1 a0_ k1 xs1 (i1 + 1) (w1_0))))
def d_impl_varsAmong (a0_ : List Bytes) : Option (List Bytes) := (d_impl_varsAmong_L1 a0_ (fun (q1_0 : List Bytes) => (some (q1_0))) (a0_) 0 (([] : List Bytes)))
def d_impl_varsAmong_S1 (a0_ : List Bytes) (W0 : List (List D)) (ix_ : Int) : St := ⟨[(3, D.acc 0), (6, D.sl ((a0_).map tx)), (7, D.int .i64 ((((a0_).map tx).length : Int))), (8, D.int .i64 (ix_))], [Ob.row .uq 9 1 (W0)]⟩
theorem d_impl_varsAmong_L1w (hΓ : Γ.nt = 20) {a0_ : List Bytes} {r : List Bytes} {k1 : List Bytes → Option (List Bytes)} (hE1 : ∀ (q1_0 : List Bytes), k1 q1_0 = some r → Ax Γ N Tryz.f115 (D.fr 9 1 ((r).map tx)) [1, 1, 1] ⟨[(3, D.acc 0)], [Ob.row .uq 9 1 ((q1_0).map tx)]⟩) (hm1 : (a0_).length ≤ maxLen) : ∀ (rest : List Bytes) (i1 : Nat) (w1_0 : List Bytes), (a0_).drop i1 = rest → d_impl_varsAmong_L1 a0_ k1 rest i1 w1_0 = some r → Ar Γ N Tryz.f115 (D.fr 9 1 ((r).map tx)) [1, 1, 0, 1, 0] (rest.length + 1) (d_impl_varsAmong_S1 a0_ ((w1_0).map tx) ((i1 : Int))) := by
  intro rest
  induction rest with
  | nil =>
    intro i1 w1_0 hd1 h
    rw [d_impl_varsAmong_L1] at h
    refine AWr_succ fun N1 hN1 hS1 => ?_
    exact ((pre0.ge tx hd1).a [.hl 0 [3] [0]]).ex [[some (9, 1)]] hΓ hN1 (hE1 (w1_0) h)
  | cons x1_ xs1 ih1 =>
    intro i1 w1_0 hd1 h
    rw [d_impl_varsAmong_L1] at h
    refine AWr_succ fun N1 hN1 hS1 => ?_
    obtain ⟨y32, h33, h⟩ := den_bind h
    have o2_ := (((pre0.lt tx hd1).l (map_row tx 1 (dc hd1) rfl)).g (d_impl_IsVar_good h33))
    obtain ⟨h34, h⟩ | ⟨h34, h⟩ := den_if h
    · obtain ⟨h35, h⟩ := den_ok h
      exact (((o2_.b h34).w (room_ok h35)).a [.cn [3, 6, 7, 8] [2]]).cs [[some (9, 1)]] hΓ hS1 (d_impl_varsAmong_S1 a0_ (((w1_0).map tx) ++ ([[D.str (x1_)]])) (IntKind.i64.wrap (((i1 : Int)) + (1)))) (by first | (simp only [iS hd1 hm1, mA] <;> rfl) | (simp only [iS hd1 hm1, mA, Fact.c, Pair.c, Cond.c, Action.c, Rule.c, Token.c, Match.c, Alpha.c, Node.c, Network.c, Stamp.c] <;> rfl)) (ih1 (i1 + 1) ((w1_0) ++ ([x1_])) (dn hd1) h)
    · exact ((o2_.b h34).a [.cn [3, 6, 7, 8] [0]]).ct [[some (9, 1)]] hΓ hS1 (iS hd1 hm1) (ih1 (i1 + 1) (w1_0) (dn hd1) h)
theorem d_impl_varsAmong_good {a0_ : List Bytes} {r : List Bytes} (h : d_impl_varsAmong a0_ = some r) : Good Tryz.prog 115 [D.sl ((a0_).map tx)] (D.fr 9 1 ((r).map tx)) := by
  refine gd Tryz.func115 20 fun hr Γ hΓ => ?_
  rw [d_impl_varsAmong] at h
  refine (pre0.a [.pro 3, .cn [3, 6, 7, 8] [0]]).lp [[some (9, 1)]] hΓ (d_impl_varsAmong_L1w hΓ (fun q1_0 h => ?_) (by have := (Rdb.sl (hr _ (List.mem_of_getElem? (i := 0) rfl))).1; simpa using this) (a0_) 0 (([] : List Bytes)) rfl h)
  have h := den_some h; subst h; exact pre0.ret [[some (9, 1)]] hΓ
def d_impl_SortedTexts_L1 (a0_ : List Bytes) (k1 : List Bytes → Option (List Bytes)) : List Bytes → Nat → List Bytes → Option (List Bytes)
  | [], i1, w1_1 => (k1 (w1_1))
  | x1_ :: xs1, i1, w1_1 => (bif ((i1 : Int) : Int) == (0) then (bif room (((w1_1).map tx).length + ([[D.str (x1_)]]).length) 16 then (d_impl_SortedTexts_L1 a0_ k1 xs1 (i1 + 1) ((w1_1) ++ ([x1_]))) else none) else ((atI (sortB ((([] : List Bytes)) ++ (a0_))) (IntKind.i64.wrap (((i1 : Int)) - (1)))).bind fun x47 => (bif !((x47 : Bytes) == (x1_)) then (bif room (((w1_1).map tx).length + ([[D.str (x1_)]]).length) 16 then (d_impl_SortedTexts_L1 a0_ k1 xs1 (i1 + 1) ((w1_1) ++ ([x1_]))) else none) else (d_impl_SortedTexts_L1 a0_ k1 xs1 (i1 + 1) (w1_1)))))
def d_impl_SortedTexts (a0_ : List Bytes) : Option (List Bytes) := (bif room ((([] : List (List D))).length + ((a0_).map tx).length) 16 then (bif decide (((([] : List Bytes)) ++ (a0_)).length < 4611686018427387904) then (bif decide ((sortB ((([] : List Bytes)) ++ (a0_))).length ≤ maxLen) then (d_impl_SortedTexts_L1 a0_ (fun (q1_0 : List Bytes) => (some (q1_0))) (sortB ((([] : List Bytes)) ++ (a0_))) 0 (([] : List Bytes))) else none) else none) else none)
def d_impl_SortedTexts_S1 (a0_ : List Bytes) (W0 : List (List D)) (ix_ : Int) : St := ⟨[(3, D.acc 0), (4, D.acc 1), (11, D.acc 0), (12, D.int .i64 ((((sortB ((([] : List Bytes)) ++ (a0_))).map tx).length : Int))), (13, D.int .i64 (ix_))], [Ob.row .uq 9 1 ((sortB ((([] : List Bytes)) ++ (a0_))).map tx), Ob.row .uq 9 1 (W0)]⟩
theorem d_impl_SortedTexts_L1w (hΓ : Γ.nt = 35) {a0_ : List Bytes} {r : List Bytes} {k1 : List Bytes → Option (List Bytes)} (hE1 : ∀ (q1_0 : List Bytes), k1 q1_0 = some r → Ax Γ N Tryz.f117 (D.fr 9 1 ((r).map tx)) [1, 1, 1, 1, 1] ⟨[(4, D.acc 0)], [Ob.row .uq 9 1 ((q1_0).map tx)]⟩) (hm1 : (sortB ((([] : List Bytes)) ++ (a0_))).length ≤ maxLen) : ∀ (rest : List Bytes) (i1 : Nat) (w1_1 : List Bytes), (sortB ((([] : List Bytes)) ++ (a0_))).drop i1 = rest → d_impl_SortedTexts_L1 a0_ k1 rest i1 w1_1 = some r → Ar Γ N Tryz.f117 (D.fr 9 1 ((r).map tx)) [1, 1, 1, 1, 0, 1, 0] (rest.length + 1) (d_impl_SortedTexts_S1 a0_ ((w1_1).map tx) ((i1 : Int))) := by
  intro rest
  induction rest with
  | nil =>
    intro i1 w1_1 hd1 h
    rw [d_impl_SortedTexts_L1] at h
    refine AWr_succ fun N1 hN1 hS1 => ?_
    exact ((pre0.ge tx hd1).a [.hl 0 [4] [1]]).ex [[some (9, 1)]] hΓ hN1 (hE1 (w1_1) h)
  | cons x1_ xs1 ih1 =>
    intro i1 w1_1 hd1 h
    rw [d_impl_SortedTexts_L1] at h
    refine AWr_succ fun N1 hN1 hS1 => ?_
    have o3_ := (((pre0.lt tx hd1).i (own_ixl tx 1 (dc hd1))).o 1 1 .uq (map_get tx (dc hd1)))
    obtain ⟨h45, h⟩ | ⟨h45, h⟩ := den_if h
    · obtain ⟨h46, h⟩ := den_ok h
      exact ((((o3_.r 8 h45).T 1).w (room_ok h46)).a [.cn [3, 4, 11, 12, 13] [0, 3]]).cs [[some (9, 1)]] hΓ hS1 (d_impl_SortedTexts_S1 a0_ (((w1_1).map tx) ++ ([[D.str (x1_)]])) (IntKind.i64.wrap (((i1 : Int)) + (1)))) (by first | (simp only [iS hd1 hm1, mA] <;> rfl) | (simp only [iS hd1 hm1, mA, Fact.c, Pair.c, Cond.c, Action.c, Rule.c, Token.c, Match.c, Alpha.c, Node.c, Network.c, Stamp.c] <;> rfl)) (ih1 (i1 + 1) ((w1_1) ++ ([x1_])) (dn hd1) h)
    · obtain ⟨x47, h48, h⟩ := den_bind h
      have o4_ := (((((o3_.r 4 h45).i (own_at tx 1 h48)).b h45).o 1 1 .uq (map_get tx (atI_get h48))).r 3 h45)
      obtain ⟨h49, h⟩ | ⟨h49, h⟩ := den_if h
      · obtain ⟨h50, h⟩ := den_ok h
        exact (((o4_.b h49).w (room_ok h50)).a [.cn [3, 4, 11, 12, 13] [0, 3]]).cs [[some (9, 1)]] hΓ hS1 (d_impl_SortedTexts_S1 a0_ (((w1_1).map tx) ++ ([[D.str (x1_)]])) (IntKind.i64.wrap (((i1 : Int)) + (1)))) (by first | (simp only [iS hd1 hm1, mA] <;> rfl) | (simp only [iS hd1 hm1, mA, Fact.c, Pair.c, Cond.c, Action.c, Rule.c, Token.c, Match.c, Alpha.c, Node.c, Network.c, Stamp.c] <;> rfl)) (ih1 (i1 + 1) ((w1_1) ++ ([x1_])) (dn hd1) h)
      · exact ((o4_.b h49).a [.cn [3, 4, 11, 12, 13] [0, 1]]).ct [[some (9, 1)]] hΓ hS1 (iS hd1 hm1) (ih1 (i1 + 1) (w1_1) (dn hd1) h)
theorem d_impl_SortedTexts_good {a0_ : List Bytes} {r : List Bytes} (h : d_impl_SortedTexts a0_ = some r) : Good Tryz.prog 117 [D.sl ((a0_).map tx)] (D.fr 9 1 ((r).map tx)) := by
  refine gd Tryz.func117 35 fun hr Γ hΓ => ?_
  rw [d_impl_SortedTexts] at h
  obtain ⟨h1, h⟩ := den_ok h
  obtain ⟨h2, h⟩ := den_ok h
  obtain ⟨h51, h⟩ := den_ok h
  refine (((((pre0.w (room_ok h1)).w (show (∀ r ∈ ((a0_).map tx), r.length = 1) ∧ (true = true → D.flatRows ((a0_).map tx) = true) from ⟨by simp, by simp [D.flatRows, D.flat]⟩)).w (show ((([] : List (List D))) ++ ((a0_).map tx)).flatten.all D.flat = true from by simpa only [List.map_append, List.map_cons, List.map_nil] using flat_tx_all ((([] : List Bytes)) ++ (a0_)))).w (show GoodM Tryz.prog 162 9 1 ((([] : List (List D))) ++ ((a0_).map tx)) ((sortB ((([] : List Bytes)) ++ (a0_))).map tx) from by simpa only [List.map_append, List.map_cons, List.map_nil] using (d_sort_Strings_good (e := 9) (of_decide_eq_true h2)))).a [.fl true, .mu 0 ((sortB ((([] : List Bytes)) ++ (a0_))).map tx), .pro 4, .cn [3, 4, 11, 12, 13] [0, 1]]).lp [[some (9, 1)]] hΓ (d_impl_SortedTexts_L1w hΓ (fun q1_0 h => ?_) (of_decide_eq_true h51) (sortB ((([] : List Bytes)) ++ (a0_))) 0 (([] : List Bytes)) rfl h)
  have h := den_some h; subst h; exact pre0.ret [[some (9, 1)]] hΓ
def d_impl_BoundVars_L1 (a0_ : Rule) (a1_ : Int) (k1 : List Bytes → Option (List Bytes)) : List Cond → Nat → List Bytes → Option (List Bytes)
  | [], i1, w1_0 => (k1 (w1_0))
  | x1_ :: xs1, i1, w1_0 => (bif decide (((i1 : Int) : Int) < (a1_)) then (bif (x1_.kind : Int) == (1) then ((d_impl_varsAmong (x1_.pat.args)).bind fun y39 => (bif room (((w1_0).map tx).length + ((y39).map tx).length) 16 then (d_impl_BoundVars_L1 a0_ a1_ k1 xs1 (i1 + 1) ((w1_0) ++ (y39))) else none)) else (d_impl_BoundVars_L1 a0_ a1_ k1 xs1 (i1 + 1) (w1_0))) else (d_impl_BoundVars_L1 a0_ a1_ k1 xs1 (i1 + 1) (w1_0)))
def d_impl_BoundVars (a0_ : Rule) (a1_ : Int) : Option (List Bytes) := (d_impl_BoundVars_L1 a0_ a1_ (fun (q1_0 : List Bytes) => ((d_impl_SortedTexts (q1_0)).bind fun y42 => (some (y42)))) (a0_.conds) 0 (([] : List Bytes)))
def d_impl_BoundVars_S1 (a0_ : Rule) (a1_ : Int) (W0 : List (List D)) (ix_ : Int) : St := ⟨[(1, D.int .i64 (a1_)), (5, D.acc 0), (9, D.sl ((a0_.conds).map Cond.c)), (10, D.int .i64 ((((a0_.conds).map Cond.c).length : Int))), (11, D.int .i64 (ix_))], [Ob.row .uq 9 1 (W0)]⟩
theorem d_impl_BoundVars_L1w (hΓ : Γ.nt = 33) {a0_ : Rule} {a1_ : Int} {r : List Bytes} {k1 : List Bytes → Option (List Bytes)} (hE1 : ∀ (q1_0 : List Bytes), k1 q1_0 = some r → Ax Γ N Tryz.f113 (D.fr 9 1 ((r).map tx)) [1, 1, 1] ⟨[(5, D.acc 0)], [Ob.row .uq 9 1 ((q1_0).map tx)]⟩) (hm1 : (a0_.conds).length ≤ maxLen) : ∀ (rest : List Cond) (i1 : Nat) (w1_0 : List Bytes), (a0_.conds).drop i1 = rest → d_impl_BoundVars_L1 a0_ a1_ k1 rest i1 w1_0 = some r → Ar Γ N Tryz.f113 (D.fr 9 1 ((r).map tx)) [1, 1, 0, 1, 0] (rest.length + 1) (d_impl_BoundVars_S1 a0_ a1_ ((w1_0).map tx) ((i1 : Int))) := by
  intro rest
  induction rest with
  | nil =>
    intro i1 w1_0 hd1 h
    rw [d_impl_BoundVars_L1] at h
    refine AWr_succ fun N1 hN1 hS1 => ?_
    exact ((pre0.ge Cond.c hd1).a [.hl 0 [5] [0]]).ex [[some (9, 1)]] hΓ hN1 (hE1 (w1_0) h)
  | cons x1_ xs1 ih1 =>
    intro i1 w1_0 hd1 h
    rw [d_impl_BoundVars_L1] at h
    refine AWr_succ fun N1 hN1 hS1 => ?_
    have o3_ := ((pre0.lt Cond.c hd1).l (map_row Cond.c 5 (dc hd1) rfl))
    obtain ⟨h37, h⟩ | ⟨h37, h⟩ := den_if h
    · have o4_ := (o3_.r 4 h37)
      obtain ⟨h38, h⟩ | ⟨h38, h⟩ := den_if h
      · obtain ⟨y39, h40, h⟩ := den_bind h
        obtain ⟨h41, h⟩ := den_ok h
        exact ((((o4_.b h38).g (d_impl_varsAmong_good h40)).w (room_ok h41)).a [.cn [1, 5, 9, 10, 11] [3]]).cs [[some (9, 1)]] hΓ hS1 (d_impl_BoundVars_S1 a0_ a1_ (((w1_0).map tx) ++ ((y39).map tx)) (IntKind.i64.wrap (((i1 : Int)) + (1)))) (by first | (simp only [iS hd1 hm1, mA] <;> rfl) | (simp only [iS hd1 hm1, mA, Fact.c, Pair.c, Cond.c, Action.c, Rule.c, Token.c, Match.c, Alpha.c, Node.c, Network.c, Stamp.c] <;> rfl)) (ih1 (i1 + 1) ((w1_0) ++ (y39)) (dn hd1) h)
      · exact ((o4_.b h38).a [.cn [1, 5, 9, 10, 11] [0]]).ct [[some (9, 1)]] hΓ hS1 (iS hd1 hm1) (ih1 (i1 + 1) (w1_0) (dn hd1) h)
    · exact (((o3_.r 4 h37).F 1).a [.cn [1, 5, 9, 10, 11] [0]]).ct [[some (9, 1)]] hΓ hS1 (iS hd1 hm1) (ih1 (i1 + 1) (w1_0) (dn hd1) h)
theorem d_impl_BoundVars_good {a0_ : Rule} {a1_ : Int} {r : List Bytes} (h : d_impl_BoundVars a0_ a1_ = some r) : Good Tryz.prog 113 [D.agg (Rule.c a0_), D.int .i64 (a1_)] (D.fr 9 1 ((r).map tx)) := by
  refine gd Tryz.func113 33 fun hr Γ hΓ => ?_
  rw [d_impl_BoundVars] at h
  refine (pre0.a [.pro 5, .cn [1, 5, 9, 10, 11] [1]]).lp [[some (9, 1)]] hΓ (d_impl_BoundVars_L1w hΓ (fun q1_0 h => ?_) (by have := (Rdb.sl (Rdb.agg (hr _ (List.mem_of_getElem? (i := 0) rfl)) (.sl ((a0_.conds).map Cond.c)) (by simp))).1; simpa using this) (a0_.conds) 0 (([] : List Bytes)) rfl h)
  obtain ⟨y42, h43, h⟩ := den_bind h
  have h := den_some h; subst h; exact (pre0.g (d_impl_SortedTexts_good h43)).ret [[some (9, 1)]] hΓ
def d_impl_copyTexts (a0_ : List Bytes) : Option (List Bytes) := (bif room ((([] : List (List D))).length + ((a0_).map tx).length) 16 then (some ((([] : List Bytes)) ++ (a0_))) else none)
theorem d_impl_copyTexts_good {a0_ : List Bytes} {r : List Bytes} (h : d_impl_copyTexts a0_ = some r) : Good Tryz.prog 177 [D.sl ((a0_).map tx)] (D.fr 9 1 ((r).map tx)) := by
  refine gd Tryz.func177 5 fun hr Γ hΓ => ?_
  rw [d_impl_copyTexts] at h
  obtain ⟨h1, h⟩ := den_ok h
  cases h; exact (((pre0.w (room_ok h1)).w (show (∀ r ∈ ((a0_).map tx), r.length = 1) ∧ (true = true → D.flatRows ((a0_).map tx) = true) from ⟨by simp, by simp [D.flatRows, D.flat]⟩)).a [.pro 2, .fl true]).rts [[some (9, 1)]] hΓ (D.fr 9 1 ((([] : List (List D))) ++ ((a0_).map tx))) (by first | rfl | (simp only [mA] <;> rfl))
def d_impl_termsOf (a0_ : Cond) : Option (List Bytes) := ((d_impl_copyTexts (a0_.pat.args)).bind fun y1 => (bif room (((y1).map tx).length + ([[D.str (a0_.left)], [D.str (a0_.right)]]).length) 16 then (some ((y1) ++ ([a0_.left, a0_.right]))) else none))
theorem d_impl_termsOf_good {a0_ : Cond} {r : List Bytes} (h : d_impl_termsOf a0_ = some r) : Good Tryz.prog 185 [D.agg (Cond.c a0_)] (D.fr 9 1 ((r).map tx)) := by
  refine gd Tryz.func185 13 fun hr Γ hΓ => ?_
  rw [d_impl_termsOf] at h
  obtain ⟨y1, h2, h⟩ := den_bind h
  obtain ⟨h3, h⟩ := den_ok h
  cases h; exact (((pre0.a [.pro 2, .n 9]).g (d_impl_copyTexts_good h2)).w (room_ok h3)).rts [[some (9, 1)]] hΓ (D.fr 9 1 (((y1).map tx) ++ ([[D.str (a0_.left)], [D.str (a0_.right)]]))) (by first | rfl | (simp only [mA] <;> rfl))
def d_impl_CondVars (a0_ : Cond) : Option (List Bytes) := ((d_impl_termsOf (a0_)).bind fun y1 => ((d_impl_varsAmong (y1)).bind fun y3 => ((d_impl_SortedTexts (y3)).bind fun y5 => (some (y5)))))
theorem d_impl_CondVars_good {a0_ : Cond} {r : List Bytes} (h : d_impl_CondVars a0_ = some r) : Good Tryz.prog 159 [D.agg (Cond.c a0_)] (D.fr 9 1 ((r).map tx)) := by
  refine gd Tryz.func159 7 fun hr Γ hΓ => ?_
  rw [d_impl_CondVars] at h
  obtain ⟨y1, h2, h⟩ := den_bind h
  obtain ⟨y3, h4, h⟩ := den_bind h
  obtain ⟨y5, h6, h⟩ := den_bind h
  have h := den_some h; subst h; exact (((pre0.g (d_impl_termsOf_good h2)).g (d_impl_varsAmong_good h4)).g (d_impl_SortedTexts_good h6)).ret [[some (9, 1)]] hΓ
def d_impl_hasText_L1 (a0_ : List Bytes) (a1_ : Bytes) (k1 : Option Bool) : List Bytes → Nat → Option Bool
  | [], i1 => (k1 )
  | x1_ :: xs1, i1 => (bif (x1_ : Bytes) == (a1_) then (some (true)) else (d_impl_hasText_L1 a0_ a1_ k1 xs1 (i1 + 1) ))
def d_impl_hasText (a0_ : List Bytes) (a1_ : Bytes) : Option Bool := (d_impl_hasText_L1 a0_ a1_ (some (false)) (a0_) 0 )
def d_impl_hasText_S1 (a0_ : List Bytes) (a1_ : Bytes) (ix_ : Int) : St := ⟨[(1, D.str (a1_)), (7, D.sl ((a0_).map tx)), (8, D.int .i64 ((((a0_).map tx).length : Int))), (9, D.int .i64 (ix_))], []⟩
theorem d_impl_hasText_L1w (hΓ : Γ.nt = 17) {a0_ : List Bytes} {a1_ : Bytes} {r : Bool} {k1 : Option Bool} (hE1 : k1 = some r → Ax Γ N Tryz.f116 (D.bool (r)) [1, 1] ⟨[], []⟩) (hm1 : (a0_).length ≤ maxLen) : ∀ (rest : List Bytes) (i1 : Nat) , (a0_).drop i1 = rest → d_impl_hasText_L1 a0_ a1_ k1 rest i1  = some r → Ar Γ N Tryz.f116 (D.bool (r)) [1, 0, 1, 0] (rest.length + 1) (d_impl_hasText_S1 a0_ a1_ ((i1 : Int))) := by
  intro rest
  induction rest with
  | nil =>
    intro i1  hd1 h
    rw [d_impl_hasText_L1] at h
    refine AWr_succ fun N1 hN1 hS1 => ?_
    exact ((pre0.ge tx hd1).a [.hl 0 [] []]).ex [[none]] hΓ hN1 (hE1 h)
  | cons x1_ xs1 ih1 =>
    intro i1  hd1 h
    rw [d_impl_hasText_L1] at h
    refine AWr_succ fun N1 hN1 hS1 => ?_
    have o2_ := ((pre0.lt tx hd1).l (map_row tx 1 (dc hd1) rfl))
    obtain ⟨h13, h⟩ | ⟨h13, h⟩ := den_if h
    · have h := den_some h; subst h; exact (o2_.b h13).ret [[none]] hΓ
    · exact ((o2_.b h13).a [.cn [1, 7, 8, 9] []]).ct [[none]] hΓ hS1 (iS hd1 hm1) (ih1 (i1 + 1)  (dn hd1) h)
theorem d_impl_hasText_good {a0_ : List Bytes} {a1_ : Bytes} {r : Bool} (h : d_impl_hasText a0_ a1_ = some r) : Good Tryz.prog 116 [D.sl ((a0_).map tx), D.str (a1_)] (D.bool (r)) := by
  refine gd Tryz.func116 17 fun hr Γ hΓ => ?_
  rw [d_impl_hasText] at h
  refine (pre0.a [.cn [1, 7, 8, 9] []]).lp [[none]] hΓ (d_impl_hasText_L1w hΓ (fun h => ?_) (by have := (Rdb.sl (hr _ (List.mem_of_getElem? (i := 0) rfl))).1; simpa using this) (a0_) 0  rfl h)
  have h := den_some h; subst h; exact pre0.ret [[none]] hΓ
def d_impl_occursElsewhere_L1 (a0_ : Rule) (a1_ : Int) (a2_ : Bytes) (k1 : Option Bool) : List Cond → Nat → Option Bool
  | [], i1 => (k1 )
  | x1_ :: xs1, i1 => (bif ((i1 : Int) : Int) != (a1_) then ((d_impl_CondVars (x1_)).bind fun y34 => ((d_impl_hasText (y34) (a2_)).bind fun y36 => (bif y36 then (some (true)) else (d_impl_occursElsewhere_L1 a0_ a1_ a2_ k1 xs1 (i1 + 1) )))) else (d_impl_occursElsewhere_L1 a0_ a1_ a2_ k1 xs1 (i1 + 1) ))
def d_impl_occursElsewhere_L2 (a0_ : Rule) (a2_ : Bytes) (k2 : Option Bool) : List Action → Nat → Option Bool
  | [], i2 => (k2 )
  | x2_ :: xs2, i2 => ((d_impl_hasText (x2_.pat.args) (a2_)).bind fun y59 => (bif y59 then (some (true)) else (d_impl_occursElsewhere_L2 a0_ a2_ k2 xs2 (i2 + 1) )))
def d_impl_occursElsewhere (a0_ : Rule) (a1_ : Int) (a2_ : Bytes) : Option Bool := (d_impl_occursElsewhere_L1 a0_ a1_ a2_ (d_impl_occursElsewhere_L2 a0_ a2_ (some (false)) (a0_.acts) 0 ) (a0_.conds) 0 )
def d_impl_occursElsewhere_S1 (a0_ : Rule) (a1_ : Int) (a2_ : Bytes) (ix_ : Int) : St := ⟨[(1, D.int .i64 (a1_)), (2, D.str (a2_)), (3, D.ptr 0 0), (12, D.sl ((a0_.conds).map Cond.c)), (13, D.int .i64 ((((a0_.conds).map Cond.c).length : Int))), (14, D.int .i64 (ix_))], [Ob.box (Rule.c a0_)]⟩
theorem d_impl_occursElsewhere_L1w (hΓ : Γ.nt = 42) {a0_ : Rule} {a1_ : Int} {a2_ : Bytes} {r : Bool} {k1 : Option Bool} (hE1 : k1 = some r → Ax Γ N Tryz.f160 (D.bool (r)) [1, 1] ⟨[(2, D.str (a2_)), (3, D.ptr 0 0)], [Ob.box (Rule.c a0_)]⟩) (hm1 : (a0_.conds).length ≤ maxLen) : ∀ (rest : List Cond) (i1 : Nat) , (a0_.conds).drop i1 = rest → d_impl_occursElsewhere_L1 a0_ a1_ a2_ k1 rest i1  = some r → Ar Γ N Tryz.f160 (D.bool (r)) [1, 0, 1, 0] (rest.length + 1) (d_impl_occursElsewhere_S1 a0_ a1_ a2_ ((i1 : Int))) := by
  intro rest
  induction rest with
  | nil =>
    intro i1  hd1 h
    rw [d_impl_occursElsewhere_L1] at h
    refine AWr_succ fun N1 hN1 hS1 => ?_
    exact ((pre0.ge Cond.c hd1).a [.hl 0 [2, 3] [0]]).ex [[none]] hΓ hN1 (hE1 h)
  | cons x1_ xs1 ih1 =>
    intro i1  hd1 h
    rw [d_impl_occursElsewhere_L1] at h
    refine AWr_succ fun N1 hN1 hS1 => ?_
    have o4_ := ((pre0.lt Cond.c hd1).l (map_row Cond.c 5 (dc hd1) rfl))
    obtain ⟨h33, h⟩ | ⟨h33, h⟩ := den_if h
    · obtain ⟨y34, h35, h⟩ := den_bind h
      obtain ⟨y36, h37, h⟩ := den_bind h
      have o5_ := (((((o4_.r 2 h33).g (d_impl_CondVars_good h35)).r 2 h33).g (d_impl_hasText_good h37)).b h33)
      obtain ⟨h38, h⟩ | ⟨h38, h⟩ := den_if h
      · have h := den_some h; subst h; exact (o5_.b h38).ret [[none]] hΓ
      · exact ((o5_.b h38).a [.cn [1, 2, 3, 12, 13, 14] [0]]).ct [[none]] hΓ hS1 (iS hd1 hm1) (ih1 (i1 + 1)  (dn hd1) h)
    · exact (((o4_.r 5 h33).F 1).a [.cn [1, 2, 3, 12, 13, 14] [0]]).ct [[none]] hΓ hS1 (iS hd1 hm1) (ih1 (i1 + 1)  (dn hd1) h)
def d_impl_occursElsewhere_S2 (a0_ : Rule) (a2_ : Bytes) (ix_ : Int) : St := ⟨[(2, D.str (a2_)), (30, D.sl ((a0_.acts).map Action.c)), (31, D.int .i64 ((((a0_.acts).map Action.c).length : Int))), (32, D.int .i64 (ix_))], []⟩
theorem d_impl_occursElsewhere_L2w (hΓ : Γ.nt = 42) {a0_ : Rule} {a2_ : Bytes} {r : Bool} {k2 : Option Bool} (hE2 : k2 = some r → Ax Γ N Tryz.f160 (D.bool (r)) [1, 1, 1] ⟨[], []⟩) (hm2 : (a0_.acts).length ≤ maxLen) : ∀ (rest : List Action) (i2 : Nat) , (a0_.acts).drop i2 = rest → d_impl_occursElsewhere_L2 a0_ a2_ k2 rest i2  = some r → Ar Γ N Tryz.f160 (D.bool (r)) [1, 1, 0, 1, 0] (rest.length + 1) (d_impl_occursElsewhere_S2 a0_ a2_ ((i2 : Int))) := by
  intro rest
  induction rest with
  | nil =>
    intro i2  hd2 h
    rw [d_impl_occursElsewhere_L2] at h
    refine AWr_succ fun N2 hN2 hS2 => ?_
    exact ((pre0.ge Action.c hd2).a [.hl 0 [] []]).ex [[none]] hΓ hN2 (hE2 h)
  | cons x2_ xs2 ih2 =>
    intro i2  hd2 h
    rw [d_impl_occursElsewhere_L2] at h
    refine AWr_succ fun N2 hN2 hS2 => ?_
    obtain ⟨y59, h60, h⟩ := den_bind h
    have o6_ := (((pre0.lt Action.c hd2).l (map_row Action.c 3 (dc hd2) rfl)).g (d_impl_hasText_good h60))
    obtain ⟨h61, h⟩ | ⟨h61, h⟩ := den_if h
    · have h := den_some h; subst h; exact (o6_.b h61).ret [[none]] hΓ
    · exact ((o6_.b h61).a [.cn [2, 30, 31, 32] []]).ct [[none]] hΓ hS2 (iS hd2 hm2) (ih2 (i2 + 1)  (dn hd2) h)
theorem d_impl_occursElsewhere_good {a0_ : Rule} {a1_ : Int} {a2_ : Bytes} {r : Bool} (h : d_impl_occursElsewhere a0_ a1_ a2_ = some r) : Good Tryz.prog 160 [D.agg (Rule.c a0_), D.int .i64 (a1_), D.str (a2_)] (D.bool (r)) := by
  refine gd Tryz.func160 42 fun hr Γ hΓ => ?_
  rw [d_impl_occursElsewhere] at h
  refine (pre0.a [.cn [1, 2, 3, 12, 13, 14] [0]]).lp [[none]] hΓ (d_impl_occursElsewhere_L1w hΓ (fun h => ?_) (by have := (Rdb.sl (Rdb.agg (hr _ (List.mem_of_getElem? (i := 0) rfl)) (.sl ((a0_.conds).map Cond.c)) (by simp))).1; simpa using this) (a0_.conds) 0  rfl h)
  refine (pre0.a [.cn [2, 30, 31, 32] []]).lp [[none]] hΓ (d_impl_occursElsewhere_L2w hΓ (fun h => ?_) (by have := (Rdb.sl (Rdb.agg (hr _ (List.mem_of_getElem? (i := 0) rfl)) (.sl ((a0_.acts).map Action.c)) (by simp))).1; simpa using this) (a0_.acts) 0  rfl h)
  have h := den_some h; subst h; exact pre0.ret [[none]] hΓ
def d_impl_condFits_L1 (a0_ : Rule) (a1_ : Int) (x1 : Cond) (y3 : List Bytes) (y5 : List Bytes) (k1 : Option Bool) : List Bytes → Nat → Option Bool
  | [], i1 => (k1 )
  | x1_ :: xs1, i1 => (bif (x1.kind : Int) == (1) then (d_impl_condFits_L1 a0_ a1_ x1 y3 y5 k1 xs1 (i1 + 1) ) else ((d_impl_hasText (y3) (x1_)).bind fun y49 => (bif y49 then (d_impl_condFits_L1 a0_ a1_ x1 y3 y5 k1 xs1 (i1 + 1) ) else (bif (x1.kind : Int) != (2) then (some (false)) else ((d_impl_occursElsewhere (a0_) (a1_) (x1_)).bind fun y53 => (bif y53 then (some (false)) else (d_impl_condFits_L1 a0_ a1_ x1 y3 y5 k1 xs1 (i1 + 1) )))))))
def d_impl_condFits (a0_ : Rule) (a1_ : Int) : Option Bool := ((atI (a0_.conds) (a1_)).bind fun x1 => ((d_impl_BoundVars (a0_) (a1_)).bind fun y3 => ((d_impl_CondVars (x1)).bind fun y5 => (bif decide ((y5).length ≤ maxLen) then (d_impl_condFits_L1 a0_ a1_ x1 y3 y5 (some (true)) (y5) 0 ) else none))))
def d_impl_condFits_S1 (a0_ : Rule) (a1_ : Int) (x1 : Cond) (y3 : List Bytes) (y5 : List Bytes) (ix_ : Int) : St := ⟨[(1, D.int .i64 (a1_)), (2, D.ptr 0 0), (5, D.ptr 1 0), (6, D.acc 2), (18, D.acc 3), (19, D.int .i64 ((((y5).map tx).length : Int))), (20, D.int .i64 (ix_))], [Ob.box (Rule.c a0_), Ob.box [D.int .i64 (x1.kind), D.str (x1.pat.rel), D.sl ((x1.pat.args).map tx), D.str (x1.left), D.str (x1.right)], Ob.row .uq 9 1 ((y3).map tx), Ob.row .uq 9 1 ((y5).map tx)]⟩
theorem d_impl_condFits_L1w (hΓ : Γ.nt = 42) {a0_ : Rule} {a1_ : Int} {x1 : Cond} {y3 : List Bytes} {y5 : List Bytes} {r : Bool} {k1 : Option Bool} (hE1 : k1 = some r → Ax Γ N Tryz.f112 (D.bool (r)) [1, 1, 1, 1] ⟨[], []⟩) (hm1 : (y5).length ≤ maxLen) : ∀ (rest : List Bytes) (i1 : Nat) , (y5).drop i1 = rest → d_impl_condFits_L1 a0_ a1_ x1 y3 y5 k1 rest i1  = some r → Ar Γ N Tryz.f112 (D.bool (r)) [1, 1, 1, 0, 1, 0] (rest.length + 1) (d_impl_condFits_S1 a0_ a1_ x1 y3 y5 ((i1 : Int))) := by
  intro rest
  induction rest with
  | nil =>
    intro i1  hd1 h
    rw [d_impl_condFits_L1] at h
    refine AWr_succ fun N1 hN1 hS1 => ?_
    exact ((pre0.ge tx hd1).a [.hl 0 [] []]).ex [[none]] hΓ hN1 (hE1 h)
  | cons x1_ xs1 ih1 =>
    intro i1  hd1 h
    rw [d_impl_condFits_L1] at h
    refine AWr_succ fun N1 hN1 hS1 => ?_
    have o4_ := (((pre0.lt tx hd1).i (own_ixl tx 1 (dc hd1))).o 1 1 .uq (map_get tx (dc hd1)))
    obtain ⟨h48, h⟩ | ⟨h48, h⟩ := den_if h
    · exact (((o4_.r 4 h48).T 1).a [.cn [1, 2, 5, 6, 18, 19, 20] [0, 1, 2, 3]]).ct [[none]] hΓ hS1 (iS hd1 hm1) (ih1 (i1 + 1)  (dn hd1) h)
    · obtain ⟨y49, h50, h⟩ := den_bind h
      have o5_ := (((o4_.r 3 h48).g (d_impl_hasText_good h50)).b h48)
      obtain ⟨h51, h⟩ | ⟨h51, h⟩ := den_if h
      · exact ((o5_.b h51).a [.cn [1, 2, 5, 6, 18, 19, 20] [0, 1, 2, 3]]).ct [[none]] hΓ hS1 (iS hd1 hm1) (ih1 (i1 + 1)  (dn hd1) h)
      · obtain ⟨h52, h⟩ | ⟨h52, h⟩ := den_if h
        · have h := den_some h; subst h; exact (((o5_.b h51).r 5 h52).T 1).ret [[none]] hΓ
        · obtain ⟨y53, h54, h⟩ := den_bind h
          have o6_ := ((((o5_.b h51).r 4 h52).g (d_impl_occursElsewhere_good h54)).b h52)
          obtain ⟨h55, h⟩ | ⟨h55, h⟩ := den_if h
          · have h := den_some h; subst h; exact (o6_.b h55).ret [[none]] hΓ
          · exact ((o6_.b h55).a [.cn [1, 2, 5, 6, 18, 19, 20] [0, 1, 2, 3]]).ct [[none]] hΓ hS1 (iS hd1 hm1) (ih1 (i1 + 1)  (dn hd1) h)
theorem d_impl_condFits_good {a0_ : Rule} {a1_ : Int} {r : Bool} (h : d_impl_condFits a0_ a1_ = some r) : Good Tryz.prog 112 [D.agg (Rule.c a0_), D.int .i64 (a1_)] (D.bool (r)) := by
  refine gd Tryz.func112 42 fun hr Γ hΓ => ?_
  rw [d_impl_condFits] at h
  obtain ⟨x1, h2, h⟩ := den_bind h
  obtain ⟨y3, h4, h⟩ := den_bind h
  obtain ⟨y5, h6, h⟩ := den_bind h
  obtain ⟨h56, h⟩ := den_ok h
  refine ((((pre0.l (at_row Cond.c 5 h2 rfl)).g (d_impl_BoundVars_good h4)).g (d_impl_CondVars_good h6)).a [.cn [1, 2, 5, 6, 18, 19, 20] [0, 1, 2, 3]]).lp [[none]] hΓ (d_impl_condFits_L1w hΓ (fun h => ?_) (of_decide_eq_true h56) (y5) 0  rfl h)
  have h := den_some h; subst h; exact pre0.ret [[none]] hΓ
def d_impl_IsAction (a0_ : Action) : Option Bool := (bif (a0_.kind : Int) == (1) then ((d_impl_IsPattern (a0_.pat)).bind fun y2 => (some (y2))) else (bif (a0_.kind : Int) == (2) then ((d_impl_IsPattern (a0_.pat)).bind fun y5 => (some (y5))) else (bif (a0_.kind : Int) == (3) then ((d_impl_zeroPattern (a0_.pat)).bind fun y8 => (some (y8))) else (some (false)))))
theorem d_impl_IsAction_good {a0_ : Action} {r : Bool} (h : d_impl_IsAction a0_ = some r) : Good Tryz.prog 114 [D.agg (Action.c a0_)] (D.bool (r)) := by
  refine gd Tryz.func114 16 fun hr Γ hΓ => ?_
  rw [d_impl_IsAction] at h
  obtain ⟨h1, h⟩ | ⟨h1, h⟩ := den_if h
  · obtain ⟨y2, h3, h⟩ := den_bind h
    have h := den_some h; subst h; exact ((pre0.r 2 h1).g (d_impl_IsPattern_good h3)).ret [[none]] hΓ
  · obtain ⟨h4, h⟩ | ⟨h4, h⟩ := den_if h
    · obtain ⟨y5, h6, h⟩ := den_bind h
      have h := den_some h; subst h; exact (((pre0.b h1).b h4).g (d_impl_IsPattern_good h6)).ret [[none]] hΓ
    · have o1_ := ((pre0.b h1).b h4)
      obtain ⟨h7, h⟩ | ⟨h7, h⟩ := den_if h
      · obtain ⟨y8, h9, h⟩ := den_bind h
        have h := den_some h; subst h; exact ((o1_.b h7).g (d_impl_zeroPattern_good h9)).ret [[none]] hΓ
      · have h := den_some h; subst h; exact (o1_.b h7).ret [[none]] hΓ
def d_impl_condVarsOf_L1 (a0_ : List Cond) (k1 : List Bytes → Option (List Bytes)) : List Cond → Nat → List Bytes → Option (List Bytes)
  | [], i1, w1_0 => (k1 (w1_0))
  | x1_ :: xs1, i1, w1_0 => ((d_impl_CondVars (x1_)).bind fun y27 => (bif room (((w1_0).map tx).length + ((y27).map tx).length) 16 then (d_impl_condVarsOf_L1 a0_ k1 xs1 (i1 + 1) ((w1_0) ++ (y27))) else none))
def d_impl_condVarsOf (a0_ : List Cond) : Option (List Bytes) := (d_impl_condVarsOf_L1 a0_ (fun (q1_0 : List Bytes) => (some (q1_0))) (a0_) 0 (([] : List Bytes)))
def d_impl_condVarsOf_S1 (a0_ : List Cond) (W0 : List (List D)) (ix_ : Int) : St := ⟨[(3, D.acc 0), (6, D.sl ((a0_).map Cond.c)), (7, D.int .i64 ((((a0_).map Cond.c).length : Int))), (8, D.int .i64 (ix_))], [Ob.row .uq 9 1 (W0)]⟩
theorem d_impl_condVarsOf_L1w (hΓ : Γ.nt = 18) {a0_ : List Cond} {r : List Bytes} {k1 : List Bytes → Option (List Bytes)} (hE1 : ∀ (q1_0 : List Bytes), k1 q1_0 = some r → Ax Γ N Tryz.f118 (D.fr 9 1 ((r).map tx)) [1, 1, 1] ⟨[(3, D.acc 0)], [Ob.row .uq 9 1 ((q1_0).map tx)]⟩) (hm1 : (a0_).length ≤ maxLen) : ∀ (rest : List Cond) (i1 : Nat) (w1_0 : List Bytes), (a0_).drop i1 = rest → d_impl_condVarsOf_L1 a0_ k1 rest i1 w1_0 = some r → Ar Γ N Tryz.f118 (D.fr 9 1 ((r).map tx)) [1, 1, 0, 1, 0] (rest.length + 1) (d_impl_condVarsOf_S1 a0_ ((w1_0).map tx) ((i1 : Int))) := by
  intro rest
  induction rest with
  | nil =>
    intro i1 w1_0 hd1 h
    rw [d_impl_condVarsOf_L1] at h
    refine AWr_succ fun N1 hN1 hS1 => ?_
    exact ((pre0.ge Cond.c hd1).a [.hl 0 [3] [0]]).ex [[some (9, 1)]] hΓ hN1 (hE1 (w1_0) h)
  | cons x1_ xs1 ih1 =>
    intro i1 w1_0 hd1 h
    rw [d_impl_condVarsOf_L1] at h
    refine AWr_succ fun N1 hN1 hS1 => ?_
    obtain ⟨y27, h28, h⟩ := den_bind h
    obtain ⟨h29, h⟩ := den_ok h
    exact (((((pre0.lt Cond.c hd1).l (map_row Cond.c 5 (dc hd1) rfl)).g (d_impl_CondVars_good h28)).w (room_ok h29)).a [.cn [3, 6, 7, 8] [3]]).cs [[some (9, 1)]] hΓ hS1 (d_impl_condVarsOf_S1 a0_ (((w1_0).map tx) ++ ((y27).map tx)) (IntKind.i64.wrap (((i1 : Int)) + (1)))) (by first | (simp only [iS hd1 hm1, mA] <;> rfl) | (simp only [iS hd1 hm1, mA, Fact.c, Pair.c, Cond.c, Action.c, Rule.c, Token.c, Match.c, Alpha.c, Node.c, Network.c, Stamp.c] <;> rfl)) (ih1 (i1 + 1) ((w1_0) ++ (y27)) (dn hd1) h)
theorem d_impl_condVarsOf_good {a0_ : List Cond} {r : List Bytes} (h : d_impl_condVarsOf a0_ = some r) : Good Tryz.prog 118 [D.sl ((a0_).map Cond.c)] (D.fr 9 1 ((r).map tx)) := by
  refine gd Tryz.func118 18 fun hr Γ hΓ => ?_
  rw [d_impl_condVarsOf] at h
  refine (pre0.a [.pro 3, .cn [3, 6, 7, 8] [0]]).lp [[some (9, 1)]] hΓ (d_impl_condVarsOf_L1w hΓ (fun q1_0 h => ?_) (by have := (Rdb.sl (hr _ (List.mem_of_getElem? (i := 0) rfl))).1; simpa using this) (a0_) 0 (([] : List Bytes)) rfl h)
  have h := den_some h; subst h; exact pre0.ret [[some (9, 1)]] hΓ
def d_impl_IsRule_L1 (a0_ : Rule) (k1 : Option Bool) : List Cond → Nat → Option Bool
  | [], i1 => (k1 )
  | x1_ :: xs1, i1 => ((d_impl_IsCond (x1_)).bind fun y62 => (bif !(y62) then (some (false)) else (bif ((i1 : Int) : Int) == (0) then (bif (x1_.kind : Int) != (1) then (some (false)) else ((d_impl_condFits (a0_) ((i1 : Int))).bind fun y67 => (bif !(y67) then (some (false)) else (d_impl_IsRule_L1 a0_ k1 xs1 (i1 + 1) )))) else ((d_impl_condFits (a0_) ((i1 : Int))).bind fun y70 => (bif !(y70) then (some (false)) else (d_impl_IsRule_L1 a0_ k1 xs1 (i1 + 1) ))))))
def d_impl_IsRule_L3 (a0_ : Rule) (y73 : List Bytes) (i2 : Nat) (y206 : List Bytes) (k3 : Option Bool) : List Bytes → Nat → Option Bool
  | [], i3 => (k3 )
  | x3_ :: xs3, i3 => ((d_impl_hasText (y73) (x3_)).bind fun y229 => (bif !(y229) then (some (false)) else (d_impl_IsRule_L3 a0_ y73 i2 y206 k3 xs3 (i3 + 1) )))
def d_impl_IsRule_L2 (a0_ : Rule) (y73 : List Bytes) (k2 : Option Bool) : List Action → Nat → Option Bool
  | [], i2 => (k2 )
  | x2_ :: xs2, i2 => ((d_impl_IsAction (x2_)).bind fun y203 => (bif !(y203) then (some (false)) else ((d_impl_varsAmong (x2_.pat.args)).bind fun y206 => (bif decide ((y206).length ≤ maxLen) then (d_impl_IsRule_L3 a0_ y73 i2 y206 (d_impl_IsRule_L2 a0_ y73 k2 xs2 (i2 + 1) ) (y206) 0 ) else none))))
def d_impl_IsRule (a0_ : Rule) : Option Bool := ((d_impl_IsName (a0_.name)).bind fun y1 => (bif !(y1) then (some (false)) else (bif decide ((a0_.prio : Int) < (0)) then (some (false)) else (bif decide ((a0_.prio : Int) > (9)) then (some (false)) else (bif decide (((((a0_.conds).map Cond.c).length : Int) : Int) < (1)) then (some (false)) else (bif decide (((((a0_.conds).map Cond.c).length : Int) : Int) > (4)) then (some (false)) else (bif decide (((((a0_.acts).map Action.c).length : Int) : Int) < (1)) then (some (false)) else (bif decide (((((a0_.acts).map Action.c).length : Int) : Int) > (2)) then (some (false)) else (d_impl_IsRule_L1 a0_ ((d_impl_BoundVars (a0_) ((((a0_.conds).map Cond.c).length : Int))).bind fun y73 => (d_impl_IsRule_L2 a0_ y73 ((d_impl_condVarsOf (a0_.conds)).bind fun y233 => ((d_impl_SortedTexts (y233)).bind fun y235 => (some (decide (((((y235).map tx).length : Int) : Int) ≤ (6)))))) (a0_.acts) 0 )) (a0_.conds) 0 )))))))))
def d_impl_IsRule_S1 (a0_ : Rule) (ix_ : Int) : St := ⟨[(1, D.ptr 0 0), (49, D.sl ((a0_.conds).map Cond.c)), (50, D.int .i64 ((((a0_.conds).map Cond.c).length : Int))), (51, D.int .i64 (ix_))], [Ob.box (Rule.c a0_)]⟩
theorem d_impl_IsRule_L1w (hΓ : Γ.nt = 111) {a0_ : Rule} {r : Bool} {k1 : Option Bool} (hE1 : k1 = some r → Ax Γ N Tryz.f61 (D.bool (r)) [1, 1, 1] ⟨[(1, D.ptr 0 0)], [Ob.box (Rule.c a0_)]⟩) (hm1 : (a0_.conds).length ≤ maxLen) : ∀ (rest : List Cond) (i1 : Nat) , (a0_.conds).drop i1 = rest → d_impl_IsRule_L1 a0_ k1 rest i1  = some r → Ar Γ N Tryz.f61 (D.bool (r)) [1, 1, 0, 1, 0] (rest.length + 1) (d_impl_IsRule_S1 a0_ ((i1 : Int))) := by
  intro rest
  induction rest with
  | nil =>
    intro i1  hd1 h
    rw [d_impl_IsRule_L1] at h
    refine AWr_succ fun N1 hN1 hS1 => ?_
    exact ((pre0.ge Cond.c hd1).a [.hl 0 [1] [0]]).ex [[none]] hΓ hN1 (hE1 h)
  | cons x1_ xs1 ih1 =>
    intro i1  hd1 h
    rw [d_impl_IsRule_L1] at h
    refine AWr_succ fun N1 hN1 hS1 => ?_
    obtain ⟨y62, h63, h⟩ := den_bind h
    have o12_ := (((pre0.lt Cond.c hd1).l (map_row Cond.c 5 (dc hd1) rfl)).g (d_impl_IsCond_good h63))
    obtain ⟨h64, h⟩ | ⟨h64, h⟩ := den_if h
    · have h := den_some h; subst h; exact ((((o12_.r 3 h64).a [bF, bF, bF]).r 2 h64).T 6).ret [[none]] hΓ
    · have o13_ := (o12_.r 3 h64)
      obtain ⟨h65, h⟩ | ⟨h65, h⟩ := den_if h
      · have o14_ := ((((o13_.r 3 h65).b h64).b h65).b h64)
        obtain ⟨h66, h⟩ | ⟨h66, h⟩ := den_if h
        · have h := den_some h; subst h; exact ((o14_.r 5 h66).T 1).ret [[none]] hΓ
        · obtain ⟨y67, h68, h⟩ := den_bind h
          have o15_ := (((o14_.r 3 h66).g (d_impl_condFits_good h68)).r 2 h66)
          obtain ⟨h69, h⟩ | ⟨h69, h⟩ := den_if h
          · have h := den_some h; subst h; exact (o15_.b h69).ret [[none]] hΓ
          · exact ((o15_.b h69).a [.cn [1, 49, 50, 51] [0]]).ct [[none]] hΓ hS1 (iS hd1 hm1) (ih1 (i1 + 1)  (dn hd1) h)
      · obtain ⟨y70, h71, h⟩ := den_bind h
        have o16_ := (((((((o13_.r 3 h65).b h64).b h65).b h64).F 3).g (d_impl_condFits_good h71)).F 2)
        obtain ⟨h72, h⟩ | ⟨h72, h⟩ := den_if h
        · have h := den_some h; subst h; exact (o16_.b h72).ret [[none]] hΓ
        · exact ((o16_.b h72).a [.cn [1, 49, 50, 51] [0]]).ct [[none]] hΓ hS1 (iS hd1 hm1) (ih1 (i1 + 1)  (dn hd1) h)
def d_impl_IsRule_S2 (a0_ : Rule) (y73 : List Bytes) (ix_ : Int) : St := ⟨[(1, D.ptr 0 0), (5, D.acc 1), (81, D.sl ((a0_.acts).map Action.c)), (82, D.int .i64 ((((a0_.acts).map Action.c).length : Int))), (83, D.int .i64 (ix_))], [Ob.box (Rule.c a0_), Ob.row .uq 9 1 ((y73).map tx)]⟩
def d_impl_IsRule_S3 (a0_ : Rule) (y73 : List Bytes) (i2 : Nat) (y206 : List Bytes) (ix_ : Int) : St := ⟨[(1, D.ptr 0 0), (5, D.acc 1), (81, D.sl ((a0_.acts).map Action.c)), (82, D.int .i64 ((((a0_.acts).map Action.c).length : Int))), (83, D.int .i64 ((i2 : Int))), (93, D.acc 2), (94, D.int .i64 ((((y206).map tx).length : Int))), (95, D.int .i64 (ix_))], [Ob.box (Rule.c a0_), Ob.row .uq 9 1 ((y73).map tx), Ob.row .uq 9 1 ((y206).map tx)]⟩
theorem d_impl_IsRule_L3w (hΓ : Γ.nt = 111) {a0_ : Rule} {y73 : List Bytes} {i2 : Nat} {y206 : List Bytes} {r : Bool} {k3 : Option Bool} (hE3 : k3 = some r → Ax Γ N Tryz.f61 (D.bool (r)) [1, 1, 1, 1, 0, 1, 0, 0, 1, 1, 1] ⟨[(1, D.ptr 0 0), (5, D.acc 1), (81, D.sl ((a0_.acts).map Action.c)), (82, D.int .i64 ((((a0_.acts).map Action.c).length : Int))), (83, D.int .i64 ((i2 : Int)))], [Ob.box (Rule.c a0_), Ob.row .uq 9 1 ((y73).map tx)]⟩) (hm3 : (y206).length ≤ maxLen) : ∀ (rest : List Bytes) (i3 : Nat) , (y206).drop i3 = rest → d_impl_IsRule_L3 a0_ y73 i2 y206 k3 rest i3  = some r → Ar Γ N Tryz.f61 (D.bool (r)) [1, 1, 1, 1, 0, 1, 0, 0, 1, 1, 0, 0, 1, 1, 1, 0] (rest.length + 1) (d_impl_IsRule_S3 a0_ y73 i2 y206 ((i3 : Int))) := by
  intro rest
  induction rest with
  | nil =>
    intro i3  hd3 h
    rw [d_impl_IsRule_L3] at h
    refine AWr_succ fun N3 hN3 hS3 => ?_
    exact ((pre0.ge tx hd3).a [.hl 3 [1, 5, 81, 82, 83] [0, 1]]).ex [[none]] hΓ hN3 (hE3 h)
  | cons x3_ xs3 ih3 =>
    intro i3  hd3 h
    rw [d_impl_IsRule_L3] at h
    refine AWr_succ fun N3 hN3 hS3 => ?_
    obtain ⟨y229, h230, h⟩ := den_bind h
    have o21_ := ((((pre0.lt tx hd3).i (own_ixl tx 1 (dc hd3))).o 1 1 .uq (map_get tx (dc hd3))).g (d_impl_hasText_good h230))
    obtain ⟨h231, h⟩ | ⟨h231, h⟩ := den_if h
    · have h := den_some h; subst h; exact (o21_.b h231).ret [[none]] hΓ
    · exact ((o21_.b h231).a [.cn [1, 5, 81, 82, 83, 93, 94, 95] [0, 1, 2]]).ct [[none]] hΓ hS3 (iS hd3 hm3) (ih3 (i3 + 1)  (dn hd3) h)
theorem d_impl_IsRule_L2w (hΓ : Γ.nt = 111) {a0_ : Rule} {y73 : List Bytes} {r : Bool} {k2 : Option Bool} (hE2 : k2 = some r → Ax Γ N Tryz.f61 (D.bool (r)) [1, 1, 1, 1, 1] ⟨[(1, D.ptr 0 0)], [Ob.box (Rule.c a0_)]⟩) (hm2 : (a0_.acts).length ≤ maxLen) : ∀ (rest : List Action) (i2 : Nat) , (a0_.acts).drop i2 = rest → d_impl_IsRule_L2 a0_ y73 k2 rest i2  = some r → Ar Γ N Tryz.f61 (D.bool (r)) [1, 1, 1, 1, 0, 1, 0] (rest.length + 1) (d_impl_IsRule_S2 a0_ y73 ((i2 : Int))) := by
  intro rest
  induction rest with
  | nil =>
    intro i2  hd2 h
    rw [d_impl_IsRule_L2] at h
    refine AWr_succ fun N2 hN2 hS2 => ?_
    exact ((pre0.ge Action.c hd2).a [.hl 0 [1] [0]]).ex [[none]] hΓ hN2 (hE2 h)
  | cons x2_ xs2 ih2 =>
    intro i2  hd2 h
    rw [d_impl_IsRule_L2] at h
    refine AWr_succ fun N2 hN2 hS2 => ?_
    obtain ⟨y203, h204, h⟩ := den_bind h
    have o22_ := (((pre0.lt Action.c hd2).l (map_row Action.c 3 (dc hd2) rfl)).g (d_impl_IsAction_good h204))
    obtain ⟨h205, h⟩ | ⟨h205, h⟩ := den_if h
    · have h := den_some h; subst h; exact (o22_.b h205).ret [[none]] hΓ
    · obtain ⟨y206, h207, h⟩ := den_bind h
      obtain ⟨h232, h⟩ := den_ok h
      refine (((o22_.b h205).g (d_impl_varsAmong_good h207)).a [.cn [1, 5, 81, 82, 83, 93, 94, 95] [0, 1, 3]]).lp [[none]] hΓ (d_impl_IsRule_L3w hΓ (fun h => ?_) (of_decide_eq_true h232) (y206) 0  rfl h)
      exact (pre0.a [.cn [1, 5, 81, 82, 83] [0, 1]]).ct [[none]] hΓ hS2 (iS hd2 hm2) (ih2 (i2 + 1)  (dn hd2) h)
theorem d_impl_IsRule_good {a0_ : Rule} {r : Bool} (h : d_impl_IsRule a0_ = some r) : Good Tryz.prog 61 [D.agg (Rule.c a0_)] (D.bool (r)) := by
  refine gd Tryz.func61 111 fun hr Γ hΓ => ?_
  rw [d_impl_IsRule] at h
  obtain ⟨y1, h2, h⟩ := den_bind h
  obtain ⟨h3, h⟩ | ⟨h3, h⟩ := den_if h
  · have h := den_some h; subst h; exact (((pre0.g (d_impl_IsName_good h2)).r 4 h3).T 25).ret [[none]] hΓ
  · have o23_ := ((pre0.g (d_impl_IsName_good h2)).r 4 h3)
    obtain ⟨h4, h⟩ | ⟨h4, h⟩ := den_if h
    · have h := den_some h; subst h; exact ((o23_.r 4 h4).T 21).ret [[none]] hΓ
    · have o24_ := (o23_.r 4 h4)
      obtain ⟨h5, h⟩ | ⟨h5, h⟩ := den_if h
      · have h := den_some h; subst h; exact ((o24_.r 5 h5).T 16).ret [[none]] hΓ
      · have o25_ := (o24_.r 5 h5)
        obtain ⟨h6, h⟩ | ⟨h6, h⟩ := den_if h
        · have h := den_some h; subst h; exact ((o25_.r 5 h6).T 11).ret [[none]] hΓ
        · have o26_ := (o25_.r 5 h6)
          obtain ⟨h7, h⟩ | ⟨h7, h⟩ := den_if h
          · have h := den_some h; subst h; exact ((o26_.r 5 h7).T 6).ret [[none]] hΓ
          · have o27_ := (o26_.r 5 h7)
            obtain ⟨h8, h⟩ | ⟨h8, h⟩ := den_if h
            · have h := den_some h; subst h; exact ((o27_.r 5 h8).T 1).ret [[none]] hΓ
            · have o28_ := (o27_.r 5 h8)
              obtain ⟨h9, h⟩ | ⟨h9, h⟩ := den_if h
              · have h := den_some h; subst h; exact (o28_.b h9).ret [[none]] hΓ
              · refine ((o28_.b h9).a [.cn [1, 49, 50, 51] [0]]).lp [[none]] hΓ (d_impl_IsRule_L1w hΓ (fun h => ?_) (by have := (Rdb.sl (Rdb.agg (hr _ (List.mem_of_getElem? (i := 0) rfl)) (.sl ((a0_.conds).map Cond.c)) (by simp))).1; simpa using this) (a0_.conds) 0  rfl h)
                obtain ⟨y73, h74, h⟩ := den_bind h
                refine ((pre0.g (d_impl_BoundVars_good h74)).a [.cn [1, 5, 81, 82, 83] [0, 1]]).lp [[none]] hΓ (d_impl_IsRule_L2w hΓ (fun h => ?_) (by have := (Rdb.sl (Rdb.agg (hr _ (List.mem_of_getElem? (i := 0) rfl)) (.sl ((a0_.acts).map Action.c)) (by simp))).1; simpa using this) (a0_.acts) 0  rfl h)
                obtain ⟨y233, h234, h⟩ := den_bind h
                obtain ⟨y235, h236, h⟩ := den_bind h
                cases h; exact ((pre0.g (d_impl_condVarsOf_good h234)).g (d_impl_SortedTexts_good h236)).ret [[none]] hΓ
def d_spec_IsFact_L1 (a0_ : Fact) (k1 : Option Bool) : List Bytes → Nat → Option Bool
  | [], i1 => (k1 )
  | x1_ :: xs1, i1 => ((d_spec_IsAtom (x1_)).bind fun y21 => (bif !(y21) then (some (false)) else (d_spec_IsFact_L1 a0_ k1 xs1 (i1 + 1) )))
def d_spec_IsFact (a0_ : Fact) : Option Bool := (d_spec_IsFact_L1 a0_ ((d_spec_IsName (a0_.rel)).bind fun y24 => (bif y24 then (some (decide (((((a0_.args).map tx).length : Int) : Int) ≤ (3)))) else (some (false)))) (a0_.args) 0 )
def d_spec_IsFact_S1 (a0_ : Fact) (ix_ : Int) : St := ⟨[(1, D.ptr 0 0), (3, D.int .i64 (ix_))], [Ob.box (Fact.c a0_)]⟩
theorem d_spec_IsFact_L1w (hΓ : Γ.nt = 27) {a0_ : Fact} {r : Bool} {k1 : Option Bool} (hE1 : k1 = some r → Ax Γ N Tryz.f126 (D.bool (r)) [1, 1] ⟨[(1, D.ptr 0 0)], [Ob.box (Fact.c a0_)]⟩) (hm1 : (a0_.args).length ≤ maxLen) : ∀ (rest : List Bytes) (i1 : Nat) , (a0_.args).drop i1 = rest → d_spec_IsFact_L1 a0_ k1 rest i1  = some r → Ar Γ N Tryz.f126 (D.bool (r)) [1, 0, 1, 0] (rest.length + 1) (d_spec_IsFact_S1 a0_ ((i1 : Int))) := by
  intro rest
  induction rest with
  | nil =>
    intro i1  hd1 h
    rw [d_spec_IsFact_L1] at h
    refine AWr_succ fun N1 hN1 hS1 => ?_
    exact ((pre0.ge tx hd1).a [.hl 0 [1] [0]]).ex [[none]] hΓ hN1 (hE1 h)
  | cons x1_ xs1 ih1 =>
    intro i1  hd1 h
    rw [d_spec_IsFact_L1] at h
    refine AWr_succ fun N1 hN1 hS1 => ?_
    obtain ⟨y21, h22, h⟩ := den_bind h
    have o2_ := (((pre0.lt tx hd1).l (map_row tx 1 (dc hd1) rfl)).g (d_spec_IsAtom_good h22))
    obtain ⟨h23, h⟩ | ⟨h23, h⟩ := den_if h
    · have h := den_some h; subst h; exact (o2_.b h23).ret [[none]] hΓ
    · exact ((o2_.b h23).a [.cn [1, 3] [0]]).ct [[none]] hΓ hS1 (iS hd1 hm1) (ih1 (i1 + 1)  (dn hd1) h)
theorem d_spec_IsFact_good {a0_ : Fact} {r : Bool} (h : d_spec_IsFact a0_ = some r) : Good Tryz.prog 126 [D.agg (Fact.c a0_)] (D.bool (r)) := by
  refine gd Tryz.func126 27 fun hr Γ hΓ => ?_
  rw [d_spec_IsFact] at h
  refine (pre0.a [.cn [1, 3] [0]]).lp [[none]] hΓ (d_spec_IsFact_L1w hΓ (fun h => ?_) (by have := (Rdb.sl (Rdb.agg (hr _ (List.mem_of_getElem? (i := 0) rfl)) (.sl ((a0_.args).map tx)) (by simp))).1; simpa using this) (a0_.args) 0  rfl h)
  obtain ⟨y24, h25, h⟩ := den_bind h
  obtain ⟨h26, h⟩ | ⟨h26, h⟩ := den_if h
  · cases h; exact ((pre0.g (d_spec_IsName_good h25)).r 5 h26).ret [[none]] hΓ
  · have h := den_some h; subst h; exact ((pre0.g (d_spec_IsName_good h25)).r 5 h26).ret [[none]] hΓ
def d_spec_l1Cmp (a0_ : Bytes) (a1_ : Bytes) : Option Int := (bif Op.bytesLess (a0_) (a1_) then (some (-1)) else (bif !(Op.bytesLess (a0_) (a1_) || (a0_ : Bytes) == (a1_)) then (some (1)) else (some (0))))
theorem d_spec_l1Cmp_good {a0_ : Bytes} {a1_ : Bytes} {r : Int} (h : d_spec_l1Cmp a0_ a1_ = some r) : Good Tryz.prog 167 [D.str (a0_), D.str (a1_)] (D.int .i64 (r)) := by
  refine gd Tryz.func167 13 fun hr Γ hΓ => ?_
  rw [d_spec_l1Cmp] at h
  obtain ⟨h1, h⟩ | ⟨h1, h⟩ := den_if h
  · cases h; exact (pre0.b h1).ret [[none]] hΓ
  · obtain ⟨h2, h⟩ | ⟨h2, h⟩ := den_if h
    · have h := den_some h; subst h; exact ((pre0.b h1).b h2).ret [[none]] hΓ
    · have h := den_some h; subst h; exact ((pre0.b h1).b h2).ret [[none]] hΓ
def d_spec_ParseInt_L1 (a0_ : Bytes) (k1 : Int → Option (Int × Bool)) : Nat → Int → Int → Option (Int × Bool)
  | 0, _, _ => none
  | n1 + 1, v1_4, v1_5 => (bif decide ((v1_5 : Int) < (((a0_).length : Int))) then ((atI (a0_) (v1_5)).bind fun b25 => (bif decide ((b25.toNat : Int) < (48)) then (some ((0, false))) else (bif decide ((b25.toNat : Int) > (57)) then (some ((0, false))) else (d_spec_ParseInt_L1 a0_ k1 n1 (IntKind.i64.wrap ((IntKind.i64.wrap ((10) * (v1_4))) + (IntKind.i64.wrap (IntKind.u8.wrap ((b25.toNat) - (48)))))) (IntKind.i64.wrap ((v1_5) + (1))))))) else (k1 (v1_4)))
def d_spec_ParseInt (a0_ : Bytes) : Option (Int × Bool) := ((d_spec_l1In (((a0_).length : Int)) (1) (4)).bind fun y1 => (bif !(y1) then (some ((0, false))) else (d_spec_ParseInt_L1 a0_ (fun (z1_4 : Int) => ((d_spec_FormatInt (z1_4)).bind fun y29 => (bif !((y29 : Bytes) == (a0_)) then (some ((0, false))) else (some ((z1_4, true)))))) fuel (0) (0))))
def d_spec_ParseInt_S1 (a0_ : Bytes) (v1_4 : Int) (v1_5 : Int) : St := ⟨[(0, D.str (a0_)), (4, D.int .i64 (v1_4)), (5, D.int .i64 (v1_5))], []⟩
theorem d_spec_ParseInt_L1w (hΓ : Γ.nt = 39) {a0_ : Bytes} {r : Int × Bool} {k1 : Int → Option (Int × Bool)} (hE1 : ∀ (z1_4 : Int), k1 z1_4 = some r → Ax Γ N Tryz.f194 (D.tup [D.int .i64 (r.1), D.bool (r.2)]) [1, 1, 1, 1] ⟨[(0, D.str (a0_)), (4, D.int .i64 (z1_4))], []⟩) : ∀ (n1 : Nat) (v1_4 : Int) (v1_5 : Int), d_spec_ParseInt_L1 a0_ k1 n1 v1_4 v1_5 = some r → Ar Γ N Tryz.f194 (D.tup [D.int .i64 (r.1), D.bool (r.2)]) [1, 1, 1, 0, 1, 0] n1 (d_spec_ParseInt_S1 a0_ v1_4 v1_5) := by
  intro n
  induction n with
  | zero => intro v1_4 v1_5 h; simp [d_spec_ParseInt_L1] at h
  | succ n1 ih1 =>
    intro v1_4 v1_5 h
    rw [d_spec_ParseInt_L1] at h
    refine AWr_succ fun N1 hN1 hS1 => ?_
    obtain ⟨h24, h⟩ | ⟨h24, h⟩ := den_if h
    · obtain ⟨b25, h26, h⟩ := den_bind h
      have o3_ := ((pre0.b h24).c h26)
      obtain ⟨h27, h⟩ | ⟨h27, h⟩ := den_if h
      · cases h; exact ((o3_.r 5 h27).T 1).ret [[none], [none]] hΓ
      · have o4_ := (((o3_.r 3 h27).c h26).r 2 h27)
        obtain ⟨h28, h⟩ | ⟨h28, h⟩ := den_if h
        · cases h; exact (o4_.b h28).ret [[none], [none]] hΓ
        · exact (((o4_.b h28).c h26).a [.cn [0, 4, 5] []]).cf [[none], [none]] hΓ hS1 (ih1 (IntKind.i64.wrap ((IntKind.i64.wrap ((10) * (v1_4))) + (IntKind.i64.wrap (IntKind.u8.wrap ((b25.toNat) - (48)))))) (IntKind.i64.wrap ((v1_5) + (1))) h)
    · exact ((pre0.b h24).a [.hl 0 [0, 4] []]).ex [[none], [none]] hΓ hN1 (hE1 (v1_4) h)
theorem d_spec_ParseInt_good {a0_ : Bytes} {r : Int × Bool} (h : d_spec_ParseInt a0_ = some r) : Good Tryz.prog 194 [D.str (a0_)] (D.tup [D.int .i64 (r.1), D.bool (r.2)]) := by
  refine gd Tryz.func194 39 fun hr Γ hΓ => ?_
  rw [d_spec_ParseInt] at h
  obtain ⟨y1, h2, h⟩ := den_bind h
  obtain ⟨h3, h⟩ | ⟨h3, h⟩ := den_if h
  · cases h; exact ((pre0.g (d_spec_l1In_good h2)).b h3).ret [[none], [none]] hΓ
  · refine (((pre0.g (d_spec_l1In_good h2)).b h3).a [.cn [0, 4, 5] []]).lp [[none], [none]] hΓ (d_spec_ParseInt_L1w hΓ (fun z1_4 h => ?_) fuel (0) (0) h)
    obtain ⟨y29, h30, h⟩ := den_bind h
    obtain ⟨h31, h⟩ | ⟨h31, h⟩ := den_if h
    · cases h; exact ((pre0.g (d_spec_FormatInt_good h30)).b h31).ret [[none], [none]] hΓ
    · cases h; exact ((pre0.g (d_spec_FormatInt_good h30)).b h31).ret [[none], [none]] hΓ
def d_spec_CompareAtoms (a0_ : Bytes) (a1_ : Bytes) : Option Int := ((d_spec_ParseInt (a0_)).bind fun y1 => ((d_spec_ParseInt (a1_)).bind fun y3 => (bif y1.2 then (bif y3.2 then (bif decide ((y1.1 : Int) < (y3.1)) then (some (-1)) else (bif !(y3.2) then (some (-1)) else (bif decide ((y1.1 : Int) > (y3.1)) then (some (1)) else (bif !(y1.2) then (some (1)) else (some (0)))))) else (bif !(y3.2) then (some (-1)) else (some (0)))) else (bif y3.2 then (bif !(y1.2) then (some (1)) else ((d_spec_l1Cmp (a0_) (a1_)).bind fun y14 => (some (y14)))) else ((d_spec_l1Cmp (a0_) (a1_)).bind fun y16 => (some (y16)))))))
theorem d_spec_CompareAtoms_good {a0_ : Bytes} {a1_ : Bytes} {r : Int} (h : d_spec_CompareAtoms a0_ a1_ = some r) : Good Tryz.prog 168 [D.str (a0_), D.str (a1_)] (D.int .i64 (r)) := by
  refine gd Tryz.func168 54 fun hr Γ hΓ => ?_
  rw [d_spec_CompareAtoms] at h
  obtain ⟨y1, h2, h⟩ := den_bind h
  obtain ⟨y3, h4, h⟩ := den_bind h
  have o1_ := ((pre0.g (d_spec_ParseInt_good h2)).g (d_spec_ParseInt_good h4))
  obtain ⟨h5, h⟩ | ⟨h5, h⟩ := den_if h
  · have o2_ := (o1_.r 2 h5)
    obtain ⟨h6, h⟩ | ⟨h6, h⟩ := den_if h
    · have o3_ := (o2_.r 4 h6)
      obtain ⟨h7, h⟩ | ⟨h7, h⟩ := den_if h
      · cases h; exact (o3_.r 2 h7).ret [[none]] hΓ
      · have o4_ := ((o3_.b h7).r 3 h5)
        obtain ⟨h8, h⟩ | ⟨h8, h⟩ := den_if h
        · cases h; exact (o4_.b h8).ret [[none]] hΓ
        · have o5_ := (((o4_.b h8).r 2 h5).r 4 h6)
          obtain ⟨h9, h⟩ | ⟨h9, h⟩ := den_if h
          · have h := den_some h; subst h; exact (o5_.r 2 h9).ret [[none]] hΓ
          · have o6_ := ((o5_.b h9).r 3 h6)
            obtain ⟨h10, h⟩ | ⟨h10, h⟩ := den_if h
            · have h := den_some h; subst h; exact (o6_.b h10).ret [[none]] hΓ
            · have h := den_some h; subst h; exact ((o6_.b h10).b h5).ret [[none]] hΓ
    · have o7_ := (((o2_.r 4 h6).F 1).r 3 h5)
      obtain ⟨h11, h⟩ | ⟨h11, h⟩ := den_if h
      · cases h; exact (o7_.b h11).ret [[none]] hΓ
      · have h := den_some h; subst h; exact (((((((o7_.b h11).r 2 h5).r 4 h6).F 1).r 3 h6).F 1).b h5).ret [[none]] hΓ
  · have o8_ := ((((((o1_.r 2 h5).F 5).r 3 h5).F 1).r 2 h5).F 5)
    obtain ⟨h12, h⟩ | ⟨h12, h⟩ := den_if h
    · have o9_ := (o8_.r 3 h12)
      obtain ⟨h13, h⟩ | ⟨h13, h⟩ := den_if h
      · have h := den_some h; subst h; exact (o9_.b h13).ret [[none]] hΓ
      · obtain ⟨y14, h15, h⟩ := den_bind h
        have h := den_some h; subst h; exact (((o9_.b h13).b h5).g (d_spec_l1Cmp_good h15)).ret [[none]] hΓ
    · obtain ⟨y16, h17, h⟩ := den_bind h
      have h := den_some h; subst h; exact ((((o8_.r 3 h12).F 1).b h5).g (d_spec_l1Cmp_good h17)).ret [[none]] hΓ
def d_spec_CompareFacts_L1 (a0_ : Fact) (a1_ : Fact) (k1 : Option Int) : List Bytes → Nat → Option Int
  | [], i1 => (k1 )
  | x1_ :: xs1, i1 => (bif decide (((i1 : Int) : Int) < ((((a1_.args).map tx).length : Int))) then ((atI (a1_.args) ((i1 : Int))).bind fun x37 => ((d_spec_CompareAtoms (x1_) (x37)).bind fun y39 => (bif (y39 : Int) != (0) then (some (y39)) else (d_spec_CompareFacts_L1 a0_ a1_ k1 xs1 (i1 + 1) )))) else (k1 ))
def d_spec_CompareFacts (a0_ : Fact) (a1_ : Fact) : Option Int := (bif !((a0_.rel : Bytes) == (a1_.rel)) then ((d_spec_l1Cmp (a0_.rel) (a1_.rel)).bind fun y2 => (some (y2))) else (d_spec_CompareFacts_L1 a0_ a1_ (bif decide (((((a0_.args).map tx).length : Int) : Int) < ((((a1_.args).map tx).length : Int))) then (some (-1)) else (bif decide (((((a0_.args).map tx).length : Int) : Int) > ((((a1_.args).map tx).length : Int))) then (some (1)) else (some (0)))) (a0_.args) 0 ))
def d_spec_CompareFacts_S1 (a0_ : Fact) (a1_ : Fact) (ix_ : Int) : St := ⟨[(2, D.ptr 0 0), (3, D.ptr 1 0), (5, D.int .i64 (ix_))], [Ob.box (Fact.c a0_), Ob.box (Fact.c a1_)]⟩
theorem d_spec_CompareFacts_L1w (hΓ : Γ.nt = 61) {a0_ : Fact} {a1_ : Fact} {r : Int} {k1 : Option Int} (hE1 : k1 = some r → Ax Γ N Tryz.f127 (D.int .i64 (r)) [1, 1, 1] ⟨[(2, D.ptr 0 0), (3, D.ptr 1 0)], [Ob.box (Fact.c a0_), Ob.box (Fact.c a1_)]⟩) (hm1 : (a0_.args).length ≤ maxLen) : ∀ (rest : List Bytes) (i1 : Nat) , (a0_.args).drop i1 = rest → d_spec_CompareFacts_L1 a0_ a1_ k1 rest i1  = some r → Ar Γ N Tryz.f127 (D.int .i64 (r)) [1, 1, 0, 1, 0] (rest.length + 1) (d_spec_CompareFacts_S1 a0_ a1_ ((i1 : Int))) := by
  intro rest
  induction rest with
  | nil =>
    intro i1  hd1 h
    rw [d_spec_CompareFacts_L1] at h
    refine AWr_succ fun N1 hN1 hS1 => ?_
    exact ((((((((pre0.ge tx hd1).ge tx hd1).ge tx hd1).ge tx hd1).ge tx hd1).ge tx hd1).F 1).a [.hl 0 [2, 3] [0, 1]]).ex [[none]] hΓ hN1 (hE1 h)
  | cons x1_ xs1 ih1 =>
    intro i1  hd1 h
    rw [d_spec_CompareFacts_L1] at h
    refine AWr_succ fun N1 hN1 hS1 => ?_
    have o3_ := ((((((pre0.lt tx hd1).lt tx hd1).lt tx hd1).lt tx hd1).lt tx hd1).lt tx hd1)
    obtain ⟨h36, h⟩ | ⟨h36, h⟩ := den_if h
    · obtain ⟨x37, h38, h⟩ := den_bind h
      obtain ⟨y39, h40, h⟩ := den_bind h
      have o4_ := (((((o3_.b h36).a [.n 10]).l (map_row tx 1 (dc hd1) rfl)).l (at_row tx 1 h38 rfl)).g (d_spec_CompareAtoms_good h40))
      obtain ⟨h41, h⟩ | ⟨h41, h⟩ := den_if h
      · have h := den_some h; subst h; exact (o4_.b h41).ret [[none]] hΓ
      · exact ((o4_.b h41).a [.cn [2, 3, 5] [0, 1]]).ct [[none]] hΓ hS1 (iS hd1 hm1) (ih1 (i1 + 1)  (dn hd1) h)
    · exact ((o3_.b h36).a [.hl 0 [2, 3] [0, 1]]).ex [[none]] hΓ hN1 (hE1 h)
theorem d_spec_CompareFacts_good {a0_ : Fact} {a1_ : Fact} {r : Int} (h : d_spec_CompareFacts a0_ a1_ = some r) : Good Tryz.prog 127 [D.agg (Fact.c a0_), D.agg (Fact.c a1_)] (D.int .i64 (r)) := by
  refine gd Tryz.func127 61 fun hr Γ hΓ => ?_
  rw [d_spec_CompareFacts] at h
  obtain ⟨h1, h⟩ | ⟨h1, h⟩ := den_if h
  · obtain ⟨y2, h3, h⟩ := den_bind h
    have h := den_some h; subst h; exact ((pre0.b h1).g (d_spec_l1Cmp_good h3)).ret [[none]] hΓ
  · refine ((pre0.b h1).a [.cn [2, 3, 5] [0, 1]]).lp [[none]] hΓ (d_spec_CompareFacts_L1w hΓ (fun h => ?_) (by have := (Rdb.sl (Rdb.agg (hr _ (List.mem_of_getElem? (i := 0) rfl)) (.sl ((a0_.args).map tx)) (by simp))).1; simpa using this) (a0_.args) 0  rfl h)
    obtain ⟨h42, h⟩ | ⟨h42, h⟩ := den_if h
    · cases h; exact (pre0.b h42).ret [[none]] hΓ
    · obtain ⟨h43, h⟩ | ⟨h43, h⟩ := den_if h
      · have h := den_some h; subst h; exact ((pre0.b h42).b h43).ret [[none]] hΓ
      · have h := den_some h; subst h; exact ((pre0.b h42).b h43).ret [[none]] hΓ
def d_spec_AreFacts_L1 (a0_ : List Fact) (k1 : Option Bool) : List Fact → Nat → Option Bool
  | [], i1 => (k1 )
  | x1_ :: xs1, i1 => ((d_spec_IsFact (x1_)).bind fun y45 => (bif !(y45) then (some (false)) else (bif decide (((i1 : Int) : Int) > (0)) then ((atI (a0_) (IntKind.i64.wrap (((i1 : Int)) - (1)))).bind fun x49 => ((d_spec_CompareFacts (x49) (x1_)).bind fun y51 => (bif decide ((y51 : Int) ≥ (0)) then (some (false)) else (d_spec_AreFacts_L1 a0_ k1 xs1 (i1 + 1) )))) else (d_spec_AreFacts_L1 a0_ k1 xs1 (i1 + 1) ))))
def d_spec_AreFacts (a0_ : List Fact) : Option Bool := (d_spec_AreFacts_L1 a0_ (some (decide (((((a0_).map Fact.c).length : Int) : Int) ≤ (24)))) (a0_) 0 )
def d_spec_AreFacts_S1 (a0_ : List Fact) (ix_ : Int) : St := ⟨[(0, D.sl ((a0_).map Fact.c)), (3, D.int .i64 (ix_))], []⟩
theorem d_spec_AreFacts_L1w (hΓ : Γ.nt = 36) {a0_ : List Fact} {r : Bool} {k1 : Option Bool} (hE1 : k1 = some r → Ax Γ N Tryz.f70 (D.bool (r)) [1, 1] ⟨[(0, D.sl ((a0_).map Fact.c))], []⟩) (hm1 : (a0_).length ≤ maxLen) : ∀ (rest : List Fact) (i1 : Nat) , (a0_).drop i1 = rest → d_spec_AreFacts_L1 a0_ k1 rest i1  = some r → Ar Γ N Tryz.f70 (D.bool (r)) [1, 0, 1, 0] (rest.length + 1) (d_spec_AreFacts_S1 a0_ ((i1 : Int))) := by
  intro rest
  induction rest with
  | nil =>
    intro i1  hd1 h
    rw [d_spec_AreFacts_L1] at h
    refine AWr_succ fun N1 hN1 hS1 => ?_
    exact ((pre0.ge Fact.c hd1).a [.hl 0 [0] []]).ex [[none]] hΓ hN1 (hE1 h)
  | cons x1_ xs1 ih1 =>
    intro i1  hd1 h
    rw [d_spec_AreFacts_L1] at h
    refine AWr_succ fun N1 hN1 hS1 => ?_
    obtain ⟨y45, h46, h⟩ := den_bind h
    have o4_ := ((((pre0.lt Fact.c hd1).a [.n 19]).l (map_row Fact.c 2 (dc hd1) rfl)).g (d_spec_IsFact_good h46))
    obtain ⟨h47, h⟩ | ⟨h47, h⟩ := den_if h
    · have h := den_some h; subst h; exact ((((o4_.r 3 h47).a [bF, bF, bF, bF, bF, bF, bF, bF, bF, bF, bF]).r 2 h47).T 1).ret [[none]] hΓ
    · have o5_ := (o4_.r 3 h47)
      obtain ⟨h48, h⟩ | ⟨h48, h⟩ := den_if h
      · obtain ⟨x49, h50, h⟩ := den_bind h
        obtain ⟨y51, h52, h⟩ := den_bind h
        have o6_ := ((((((((((o5_.r 4 h48).l (at_row Fact.c 2 h50 rfl)).r 4 h48).l (map_row Fact.c 2 (dc hd1) rfl)).r 2 h48).g (d_spec_CompareFacts_good h52)).b h48).b h47).b h48).b h47)
        obtain ⟨h53, h⟩ | ⟨h53, h⟩ := den_if h
        · have h := den_some h; subst h; exact (o6_.b h53).ret [[none]] hΓ
        · exact ((o6_.b h53).a [.cn [0, 3] []]).ct [[none]] hΓ hS1 (iS hd1 hm1) (ih1 (i1 + 1)  (dn hd1) h)
      · exact ((((((o5_.r 11 h48).b h47).b h48).b h47).F 1).a [.cn [0, 3] []]).ct [[none]] hΓ hS1 (iS hd1 hm1) (ih1 (i1 + 1)  (dn hd1) h)
theorem d_spec_AreFacts_good {a0_ : List Fact} {r : Bool} (h : d_spec_AreFacts a0_ = some r) : Good Tryz.prog 70 [D.sl ((a0_).map Fact.c)] (D.bool (r)) := by
  refine gd Tryz.func70 36 fun hr Γ hΓ => ?_
  rw [d_spec_AreFacts] at h
  refine (pre0.a [.cn [0, 3] []]).lp [[none]] hΓ (d_spec_AreFacts_L1w hΓ (fun h => ?_) (by have := (Rdb.sl (hr _ (List.mem_of_getElem? (i := 0) rfl))).1; simpa using this) (a0_) 0  rfl h)
  cases h; exact pre0.ret [[none]] hΓ
def d_spec_IsBinding_L1 (a0_ : List Pair) (k1 : Option Bool) : List Pair → Nat → Option Bool
  | [], i1 => (k1 )
  | x1_ :: xs1, i1 => ((d_spec_IsVar (x1_.var)).bind fun y49 => (bif !(y49) then (some (false)) else ((d_spec_IsAtom (x1_.value)).bind fun y52 => (bif !(y52) then (some (false)) else (bif decide (((i1 : Int) : Int) > (0)) then ((atI (a0_) (IntKind.i64.wrap (((i1 : Int)) - (1)))).bind fun x56 => (bif !(Op.bytesLess (x56.var) (x1_.var)) then (some (false)) else (d_spec_IsBinding_L1 a0_ k1 xs1 (i1 + 1) ))) else (d_spec_IsBinding_L1 a0_ k1 xs1 (i1 + 1) ))))))
def d_spec_IsBinding (a0_ : List Pair) : Option Bool := (d_spec_IsBinding_L1 a0_ (some (decide (((((a0_).map Pair.c).length : Int) : Int) ≤ (6)))) (a0_) 0 )
def d_spec_IsBinding_S1 (a0_ : List Pair) (ix_ : Int) : St := ⟨[(0, D.sl ((a0_).map Pair.c)), (3, D.int .i64 (ix_))], []⟩
theorem d_spec_IsBinding_L1w (hΓ : Γ.nt = 47) {a0_ : List Pair} {r : Bool} {k1 : Option Bool} (hE1 : k1 = some r → Ax Γ N Tryz.f209 (D.bool (r)) [1, 1] ⟨[(0, D.sl ((a0_).map Pair.c))], []⟩) (hm1 : (a0_).length ≤ maxLen) : ∀ (rest : List Pair) (i1 : Nat) , (a0_).drop i1 = rest → d_spec_IsBinding_L1 a0_ k1 rest i1  = some r → Ar Γ N Tryz.f209 (D.bool (r)) [1, 0, 1, 0] (rest.length + 1) (d_spec_IsBinding_S1 a0_ ((i1 : Int))) := by
  intro rest
  induction rest with
  | nil =>
    intro i1  hd1 h
    rw [d_spec_IsBinding_L1] at h
    refine AWr_succ fun N1 hN1 hS1 => ?_
    exact ((pre0.ge Pair.c hd1).a [.hl 0 [0] []]).ex [[none]] hΓ hN1 (hE1 h)
  | cons x1_ xs1 ih1 =>
    intro i1  hd1 h
    rw [d_spec_IsBinding_L1] at h
    refine AWr_succ fun N1 hN1 hS1 => ?_
    obtain ⟨y49, h50, h⟩ := den_bind h
    have o5_ := ((((pre0.lt Pair.c hd1).a [.n 31]).l (map_row Pair.c 2 (dc hd1) rfl)).g (d_spec_IsVar_good h50))
    obtain ⟨h51, h⟩ | ⟨h51, h⟩ := den_if h
    · have h := den_some h; subst h; exact ((((o5_.r 8 h51).T 3).a [bF, bF, bF, bF, bF, bF, bF, bF, bF, bF, bF, bF]).T 3).ret [[none]] hΓ
    · obtain ⟨y52, h53, h⟩ := den_bind h
      have o6_ := (((((o5_.r 3 h51).l (map_row Pair.c 2 (dc hd1) rfl)).r 3 h51).g (d_spec_IsAtom_good h53)).r 2 h51)
      obtain ⟨h54, h⟩ | ⟨h54, h⟩ := den_if h
      · have h := den_some h; subst h; exact ((((o6_.r 3 h54).a [bF, bF, bF, bF, bF, bF, bF, bF, bF, bF, bF, bF]).r 2 h54).T 1).ret [[none]] hΓ
      · have o7_ := (o6_.r 3 h54)
        obtain ⟨h55, h⟩ | ⟨h55, h⟩ := den_if h
        · obtain ⟨x56, h57, h⟩ := den_bind h
          have o8_ := ((((((((o7_.r 4 h55).l (at_row Pair.c 2 h57 rfl)).r 5 h55).l (map_row Pair.c 2 (dc hd1) rfl)).r 3 h55).b h54).b h55).b h54)
          obtain ⟨h58, h⟩ | ⟨h58, h⟩ := den_if h
          · have h := den_some h; subst h; exact (o8_.b h58).ret [[none]] hΓ
          · exact ((o8_.b h58).a [.cn [0, 3] []]).ct [[none]] hΓ hS1 (iS hd1 hm1) (ih1 (i1 + 1)  (dn hd1) h)
        · exact ((((((o7_.r 12 h55).b h54).b h55).b h54).F 1).a [.cn [0, 3] []]).ct [[none]] hΓ hS1 (iS hd1 hm1) (ih1 (i1 + 1)  (dn hd1) h)
theorem d_spec_IsBinding_good {a0_ : List Pair} {r : Bool} (h : d_spec_IsBinding a0_ = some r) : Good Tryz.prog 209 [D.sl ((a0_).map Pair.c)] (D.bool (r)) := by
  refine gd Tryz.func209 47 fun hr Γ hΓ => ?_
  rw [d_spec_IsBinding] at h
  refine (pre0.a [.cn [0, 3] []]).lp [[none]] hΓ (d_spec_IsBinding_L1w hΓ (fun h => ?_) (by have := (Rdb.sl (hr _ (List.mem_of_getElem? (i := 0) rfl))).1; simpa using this) (a0_) 0  rfl h)
  cases h; exact pre0.ret [[none]] hΓ
def d_spec_l3Copy (a0_ : List Pair) : Option (List Pair) := (bif room ((([] : List (List D))).length + ((a0_).map Pair.c).length) 32 then (some ((([] : List Pair)) ++ (a0_))) else none)
theorem d_spec_l3Copy_good {a0_ : List Pair} {r : List Pair} (h : d_spec_l3Copy a0_ = some r) : Good Tryz.prog 212 [D.sl ((a0_).map Pair.c)] (D.fr 179 2 ((r).map Pair.c)) := by
  refine gd Tryz.func212 6 fun hr Γ hΓ => ?_
  rw [d_spec_l3Copy] at h
  obtain ⟨h1, h⟩ := den_ok h
  cases h; exact (((pre0.w (room_ok h1)).w (show (∀ r ∈ ((a0_).map Pair.c), r.length = 2) ∧ (true = true → D.flatRows ((a0_).map Pair.c) = true) from ⟨by simp, by simp [D.flatRows, D.flat]⟩)).a [.pro 2, .fl true]).rts [[some (179, 2)]] hΓ (D.fr 179 2 ((([] : List (List D))) ++ ((a0_).map Pair.c))) (by first | rfl | (simp only [mA] <;> rfl))
def d_spec_ValueOf_L1 (a0_ : List Pair) (a1_ : Bytes) (k1 : Option (Bytes × Bool)) : List Pair → Nat → Option (Bytes × Bool)
  | [], i1 => (k1 )
  | x1_ :: xs1, i1 => (bif (x1_.var : Bytes) == (a1_) then ((d_spec_IsVar (a1_)).bind fun y29 => (bif y29 then (some ((x1_.value, true))) else (d_spec_ValueOf_L1 a0_ a1_ k1 xs1 (i1 + 1) ))) else (d_spec_ValueOf_L1 a0_ a1_ k1 xs1 (i1 + 1) ))
def d_spec_ValueOf (a0_ : List Pair) (a1_ : Bytes) : Option (Bytes × Bool) := ((d_spec_IsAtom (a1_)).bind fun y1 => (bif y1 then (some ((a1_, true))) else (d_spec_ValueOf_L1 a0_ a1_ (some (([], false))) (a0_) 0 )))
def d_spec_ValueOf_S1 (a0_ : List Pair) (a1_ : Bytes) (ix_ : Int) : St := ⟨[(0, D.sl ((a0_).map Pair.c)), (1, D.str (a1_)), (6, D.int .i64 (ix_))], []⟩
theorem d_spec_ValueOf_L1w (hΓ : Γ.nt = 32) {a0_ : List Pair} {a1_ : Bytes} {r : Bytes × Bool} {k1 : Option (Bytes × Bool)} (hE1 : k1 = some r → Ax Γ N Tryz.f233 (D.tup [D.str (r.1), D.bool (r.2)]) [1, 1, 1] ⟨[], []⟩) (hm1 : (a0_).length ≤ maxLen) : ∀ (rest : List Pair) (i1 : Nat) , (a0_).drop i1 = rest → d_spec_ValueOf_L1 a0_ a1_ k1 rest i1  = some r → Ar Γ N Tryz.f233 (D.tup [D.str (r.1), D.bool (r.2)]) [1, 1, 0, 1, 0] (rest.length + 1) (d_spec_ValueOf_S1 a0_ a1_ ((i1 : Int))) := by
  intro rest
  induction rest with
  | nil =>
    intro i1  hd1 h
    rw [d_spec_ValueOf_L1] at h
    refine AWr_succ fun N1 hN1 hS1 => ?_
    exact ((pre0.ge Pair.c hd1).a [.hl 0 [] []]).ex [[none], [none]] hΓ hN1 (hE1 h)
  | cons x1_ xs1 ih1 =>
    intro i1  hd1 h
    rw [d_spec_ValueOf_L1] at h
    refine AWr_succ fun N1 hN1 hS1 => ?_
    have o3_ := ((pre0.lt Pair.c hd1).l (map_row Pair.c 2 (dc hd1) rfl))
    obtain ⟨h28, h⟩ | ⟨h28, h⟩ := den_if h
    · obtain ⟨y29, h30, h⟩ := den_bind h
      have o4_ := (((o3_.r 2 h28).g (d_spec_IsVar_good h30)).b h28)
      obtain ⟨h31, h⟩ | ⟨h31, h⟩ := den_if h
      · cases h; exact ((o4_.b h31).l (map_row Pair.c 2 (dc hd1) rfl)).ret [[none], [none]] hΓ
      · exact ((o4_.b h31).a [.cn [0, 1, 6] []]).ct [[none], [none]] hΓ hS1 (iS hd1 hm1) (ih1 (i1 + 1)  (dn hd1) h)
    · exact (((o3_.r 3 h28).F 1).a [.cn [0, 1, 6] []]).ct [[none], [none]] hΓ hS1 (iS hd1 hm1) (ih1 (i1 + 1)  (dn hd1) h)
theorem d_spec_ValueOf_good {a0_ : List Pair} {a1_ : Bytes} {r : Bytes × Bool} (h : d_spec_ValueOf a0_ a1_ = some r) : Good Tryz.prog 233 [D.sl ((a0_).map Pair.c), D.str (a1_)] (D.tup [D.str (r.1), D.bool (r.2)]) := by
  refine gd Tryz.func233 32 fun hr Γ hΓ => ?_
  rw [d_spec_ValueOf] at h
  obtain ⟨y1, h2, h⟩ := den_bind h
  obtain ⟨h3, h⟩ | ⟨h3, h⟩ := den_if h
  · cases h; exact ((pre0.g (d_spec_IsAtom_good h2)).b h3).ret [[none], [none]] hΓ
  · refine (((pre0.g (d_spec_IsAtom_good h2)).b h3).a [.cn [0, 1, 6] []]).lp [[none], [none]] hΓ (d_spec_ValueOf_L1w hΓ (fun h => ?_) (by have := (Rdb.sl (hr _ (List.mem_of_getElem? (i := 0) rfl))).1; simpa using this) (a0_) 0  rfl h)
    cases h; exact pre0.ret [[none], [none]] hΓ
def d_spec_l3Set_L1 (a0_ : List Pair) (a1_ : Bytes) (a2_ : Bytes) (k1 : Bool → List Pair → Option (List Pair)) : List Pair → Nat → Bool → List Pair → Option (List Pair)
  | [], i1, v1_8, w1_0 => (k1 (v1_8) (w1_0))
  | x1_ :: xs1, i1, v1_8, w1_0 => (bif !(v1_8) then (bif !(Op.bytesLess (x1_.var) (a1_) || (x1_.var : Bytes) == (a1_)) then (bif room (((w1_0).map Pair.c).length + ([[D.str (a1_), D.str (a2_)]]).length) 32 then (bif room ((((w1_0).map Pair.c) ++ ([[D.str (a1_), D.str (a2_)]])).length + ([[D.str (x1_.var), D.str (x1_.value)]]).length) 32 then (d_spec_l3Set_L1 a0_ a1_ a2_ k1 xs1 (i1 + 1) (true) (((w1_0) ++ ([(⟨a1_, a2_⟩ : Pair)])) ++ ([x1_]))) else none) else none) else (bif room (((w1_0).map Pair.c).length + ([[D.str (x1_.var), D.str (x1_.value)]]).length) 32 then (d_spec_l3Set_L1 a0_ a1_ a2_ k1 xs1 (i1 + 1) (v1_8) ((w1_0) ++ ([x1_]))) else none)) else (bif room (((w1_0).map Pair.c).length + ([[D.str (x1_.var), D.str (x1_.value)]]).length) 32 then (d_spec_l3Set_L1 a0_ a1_ a2_ k1 xs1 (i1 + 1) (v1_8) ((w1_0) ++ ([x1_]))) else none))
def d_spec_l3Set (a0_ : List Pair) (a1_ : Bytes) (a2_ : Bytes) : Option (List Pair) := (d_spec_l3Set_L1 a0_ a1_ a2_ (fun (z1_8 : Bool) (q1_0 : List Pair) => (bif !(z1_8) then (bif room (((q1_0).map Pair.c).length + ([[D.str (a1_), D.str (a2_)]]).length) 32 then (some ((q1_0) ++ ([(⟨a1_, a2_⟩ : Pair)]))) else none) else (some (q1_0)))) (a0_) 0 (false) (([] : List Pair)))
def d_spec_l3Set_S1 (a0_ : List Pair) (a1_ : Bytes) (a2_ : Bytes) (v1_8 : Bool) (W1 : List (List D)) (ix_ : Int) : St := ⟨[(0, D.sl ((a0_).map Pair.c)), (1, D.str (a1_)), (2, D.str (a2_)), (7, D.acc 0), (8, D.bool (v1_8)), (9, D.int .i64 (ix_))], [Ob.row .uq 179 2 (W1)]⟩
theorem d_spec_l3Set_L1w (hΓ : Γ.nt = 50) {a0_ : List Pair} {a1_ : Bytes} {a2_ : Bytes} {r : List Pair} {k1 : Bool → List Pair → Option (List Pair)} (hE1 : ∀ (z1_8 : Bool) (q1_0 : List Pair), k1 z1_8 q1_0 = some r → Ax Γ N Tryz.f235 (D.fr 179 2 ((r).map Pair.c)) [1, 1, 1, 1] ⟨[(1, D.str (a1_)), (2, D.str (a2_)), (7, D.acc 0), (8, D.bool (z1_8))], [Ob.row .uq 179 2 ((q1_0).map Pair.c)]⟩) (hm1 : (a0_).length ≤ maxLen) : ∀ (rest : List Pair) (i1 : Nat) (v1_8 : Bool) (w1_0 : List Pair), (a0_).drop i1 = rest → d_spec_l3Set_L1 a0_ a1_ a2_ k1 rest i1 v1_8 w1_0 = some r → Ar Γ N Tryz.f235 (D.fr 179 2 ((r).map Pair.c)) [1, 1, 1, 0, 1, 0] (rest.length + 1) (d_spec_l3Set_S1 a0_ a1_ a2_ v1_8 ((w1_0).map Pair.c) ((i1 : Int))) := by
  intro rest
  induction rest with
  | nil =>
    intro i1 v1_8 w1_0 hd1 h
    rw [d_spec_l3Set_L1] at h
    refine AWr_succ fun N1 hN1 hS1 => ?_
    exact ((pre0.ge Pair.c hd1).a [.hl 0 [1, 2, 7, 8] [0]]).ex [[some (179, 2)]] hΓ hN1 (hE1 (v1_8) (w1_0) h)
  | cons x1_ xs1 ih1 =>
    intro i1 v1_8 w1_0 hd1 h
    rw [d_spec_l3Set_L1] at h
    refine AWr_succ fun N1 hN1 hS1 => ?_
    obtain ⟨h48, h⟩ | ⟨h48, h⟩ := den_if h
    · have o2_ := ((((pre0.lt Pair.c hd1).r 3 h48).l (map_row Pair.c 2 (dc hd1) rfl)).r 5 h48)
      obtain ⟨h49, h⟩ | ⟨h49, h⟩ := den_if h
      · obtain ⟨h50, h⟩ := den_ok h
        obtain ⟨h51, h⟩ := den_ok h
        exact (((((o2_.b h49).w (room_ok h50)).l (map_row Pair.c 2 (dc hd1) rfl)).w (room_ok h51)).a [.cn [0, 1, 2, 7, 8, 9] [4]]).cs [[some (179, 2)]] hΓ hS1 (d_spec_l3Set_S1 a0_ a1_ a2_ true ((((w1_0).map Pair.c) ++ ([[D.str (a1_), D.str (a2_)]])) ++ ([[D.str (x1_.var), D.str (x1_.value)]])) (IntKind.i64.wrap (((i1 : Int)) + (1)))) (by first | (simp only [iS hd1 hm1, mA] <;> rfl) | (simp only [iS hd1 hm1, mA, Fact.c, Pair.c, Cond.c, Action.c, Rule.c, Token.c, Match.c, Alpha.c, Node.c, Network.c, Stamp.c] <;> rfl)) (ih1 (i1 + 1) (true) (((w1_0) ++ ([(⟨a1_, a2_⟩ : Pair)])) ++ ([x1_])) (dn hd1) h)
      · obtain ⟨h52, h⟩ := den_ok h
        exact ((((o2_.b h49).l (map_row Pair.c 2 (dc hd1) rfl)).w (room_ok h52)).a [.cn [0, 1, 2, 7, 8, 9] [2]]).cs [[some (179, 2)]] hΓ hS1 (d_spec_l3Set_S1 a0_ a1_ a2_ v1_8 (((w1_0).map Pair.c) ++ ([[D.str (x1_.var), D.str (x1_.value)]])) (IntKind.i64.wrap (((i1 : Int)) + (1)))) (by first | (simp only [iS hd1 hm1, mA] <;> rfl) | (simp only [iS hd1 hm1, mA, Fact.c, Pair.c, Cond.c, Action.c, Rule.c, Token.c, Match.c, Alpha.c, Node.c, Network.c, Stamp.c] <;> rfl)) (ih1 (i1 + 1) (v1_8) ((w1_0) ++ ([x1_])) (dn hd1) h)
    · obtain ⟨h53, h⟩ := den_ok h
      exact ((((((pre0.lt Pair.c hd1).r 8 h48).F 1).l (map_row Pair.c 2 (dc hd1) rfl)).w (room_ok h53)).a [.cn [0, 1, 2, 7, 8, 9] [2]]).cs [[some (179, 2)]] hΓ hS1 (d_spec_l3Set_S1 a0_ a1_ a2_ v1_8 (((w1_0).map Pair.c) ++ ([[D.str (x1_.var), D.str (x1_.value)]])) (IntKind.i64.wrap (((i1 : Int)) + (1)))) (by first | (simp only [iS hd1 hm1, mA] <;> rfl) | (simp only [iS hd1 hm1, mA, Fact.c, Pair.c, Cond.c, Action.c, Rule.c, Token.c, Match.c, Alpha.c, Node.c, Network.c, Stamp.c] <;> rfl)) (ih1 (i1 + 1) (v1_8) ((w1_0) ++ ([x1_])) (dn hd1) h)
theorem d_spec_l3Set_good {a0_ : List Pair} {a1_ : Bytes} {a2_ : Bytes} {r : List Pair} (h : d_spec_l3Set a0_ a1_ a2_ = some r) : Good Tryz.prog 235 [D.sl ((a0_).map Pair.c), D.str (a1_), D.str (a2_)] (D.fr 179 2 ((r).map Pair.c)) := by
  refine gd Tryz.func235 50 fun hr Γ hΓ => ?_
  rw [d_spec_l3Set] at h
  refine (pre0.a [.cn [0, 1, 2, 7, 8, 9] [0]]).lp [[some (179, 2)]] hΓ (d_spec_l3Set_L1w hΓ (fun z1_8 q1_0 h => ?_) (by have := (Rdb.sl (hr _ (List.mem_of_getElem? (i := 0) rfl))).1; simpa using this) (a0_) 0 (false) (([] : List Pair)) rfl h)
  obtain ⟨h54, h⟩ | ⟨h54, h⟩ := den_if h
  · obtain ⟨h55, h⟩ := den_ok h
    cases h; exact ((pre0.b h54).w (room_ok h55)).rts [[some (179, 2)]] hΓ (D.fr 179 2 (((q1_0).map Pair.c) ++ ([[D.str (a1_), D.str (a2_)]]))) (by first | rfl | (simp only [mA] <;> rfl))
  · have h := den_some h; subst h; exact (pre0.b h54).ret [[some (179, 2)]] hΓ
def d_spec_Extend (a0_ : List Pair) (a1_ : Bytes) (a2_ : Bytes) : Option ((List Pair) × Bool) := ((d_spec_IsBinding (a0_)).bind fun y1 => (bif !(y1) then (some ((([] : List Pair), false))) else ((d_spec_IsVar (a1_)).bind fun y4 => (bif !(y4) then (some ((([] : List Pair), false))) else ((d_spec_IsAtom (a2_)).bind fun y7 => (bif !(y7) then (some ((([] : List Pair), false))) else ((d_spec_ValueOf (a0_) (a1_)).bind fun y10 => (bif y10.2 then (bif (y10.1 : Bytes) == (a2_) then ((d_spec_l3Copy (a0_)).bind fun y14 => (some ((y14, true)))) else (some ((([] : List Pair), false)))) else (bif ((((a0_).map Pair.c).length : Int) : Int) == (6) then (some ((([] : List Pair), false))) else ((d_spec_l3Set (a0_) (a1_) (a2_)).bind fun y17 => (some ((y17, true)))))))))))))
theorem d_spec_Extend_good {a0_ : List Pair} {a1_ : Bytes} {a2_ : Bytes} {r : (List Pair) × Bool} (h : d_spec_Extend a0_ a1_ a2_ = some r) : Good Tryz.prog 213 [D.sl ((a0_).map Pair.c), D.str (a1_), D.str (a2_)] (D.tup [D.fr 179 2 ((r.1).map Pair.c), D.bool (r.2)]) := by
  refine gd Tryz.func213 49 fun hr Γ hΓ => ?_
  rw [d_spec_Extend] at h
  obtain ⟨y1, h2, h⟩ := den_bind h
  obtain ⟨h3, h⟩ | ⟨h3, h⟩ := den_if h
  · cases h; exact (((pre0.g (d_spec_IsBinding_good h2)).r 4 h3).T 5).ret [[some (179, 2)], [none]] hΓ
  · obtain ⟨y4, h5, h⟩ := den_bind h
    have o1_ := ((((pre0.g (d_spec_IsBinding_good h2)).r 2 h3).g (d_spec_IsVar_good h5)).r 2 h3)
    obtain ⟨h6, h⟩ | ⟨h6, h⟩ := den_if h
    · cases h; exact ((o1_.r 4 h6).T 1).ret [[some (179, 2)], [none]] hΓ
    · obtain ⟨y7, h8, h⟩ := den_bind h
      have o2_ := (((o1_.r 2 h6).g (d_spec_IsAtom_good h8)).r 2 h6)
      obtain ⟨h9, h⟩ | ⟨h9, h⟩ := den_if h
      · cases h; exact (o2_.b h9).ret [[some (179, 2)], [none]] hΓ
      · obtain ⟨y10, h11, h⟩ := den_bind h
        have o3_ := ((o2_.b h9).g (d_spec_ValueOf_good h11))
        obtain ⟨h12, h⟩ | ⟨h12, h⟩ := den_if h
        · have o4_ := (o3_.r 4 h12)
          obtain ⟨h13, h⟩ | ⟨h13, h⟩ := den_if h
          · obtain ⟨y14, h15, h⟩ := den_bind h
            cases h; exact ((o4_.b h13).g (d_spec_l3Copy_good h15)).ret [[some (179, 2)], [none]] hΓ
          · cases h; exact (((o4_.b h13).r 4 h12).T 1).ret [[some (179, 2)], [none]] hΓ
        · have o5_ := (((o3_.r 4 h12).F 1).r 4 h12)
          obtain ⟨h16, h⟩ | ⟨h16, h⟩ := den_if h
          · cases h; exact (o5_.b h16).ret [[some (179, 2)], [none]] hΓ
          · obtain ⟨y17, h18, h⟩ := den_bind h
            cases h; exact ((o5_.b h16).g (d_spec_l3Set_good h18)).ret [[some (179, 2)], [none]] hΓ
def d_spec_MatchFact_L1 (a0_ : Fact) (a1_ : Fact) (k1 : List Pair → Option ((List Pair) × Bool)) : List Bytes → Nat → List Pair → Option ((List Pair) × Bool)
  | [], i1, w1_2 => (k1 (w1_2))
  | x1_ :: xs1, i1, w1_2 => ((d_spec_IsAtom (x1_)).bind fun y80 => (bif y80 then ((atI (a1_.args) ((i1 : Int))).bind fun x83 => (bif !((x1_ : Bytes) == (x83)) then (some ((([] : List Pair), false))) else (d_spec_MatchFact_L1 a0_ a1_ k1 xs1 (i1 + 1) (w1_2)))) else ((atI (a1_.args) ((i1 : Int))).bind fun x86 => ((d_spec_Extend (w1_2) (x1_) (x86)).bind fun y88 => (bif !(y88.2) then (some ((([] : List Pair), false))) else (d_spec_MatchFact_L1 a0_ a1_ k1 xs1 (i1 + 1) (y88.1)))))))
def d_spec_MatchFact (a0_ : Fact) (a1_ : Fact) (a2_ : List Pair) : Option ((List Pair) × Bool) := ((d_spec_IsPattern (a0_)).bind fun y1 => (bif !(y1) then (some ((([] : List Pair), false))) else ((d_spec_IsFact (a1_)).bind fun y4 => (bif !(y4) then (some ((([] : List Pair), false))) else ((d_spec_IsBinding (a2_)).bind fun y7 => (bif !(y7) then (some ((([] : List Pair), false))) else (bif !((a0_.rel : Bytes) == (a1_.rel)) then (some ((([] : List Pair), false))) else (bif ((((a0_.args).map tx).length : Int) : Int) != ((((a1_.args).map tx).length : Int)) then (some ((([] : List Pair), false))) else ((d_spec_l3Copy (a2_)).bind fun y12 => (d_spec_MatchFact_L1 a0_ a1_ (fun (q1_0 : List Pair) => (some ((q1_0, true)))) (a0_.args) 0 (y12)))))))))))
def d_spec_MatchFact_S1 (a0_ : Fact) (a1_ : Fact) (W0 : List (List D)) (ix_ : Int) : St := ⟨[(3, D.ptr 0 0), (4, D.ptr 1 0), (8, D.acc 2), (9, D.int .i64 (ix_))], [Ob.box (Fact.c a0_), Ob.box (Fact.c a1_), Ob.row .uq 179 2 (W0)]⟩
theorem d_spec_MatchFact_L1w (hΓ : Γ.nt = 89) {a0_ : Fact} {a1_ : Fact} {r : (List Pair) × Bool} {k1 : List Pair → Option ((List Pair) × Bool)} (hE1 : ∀ (q1_0 : List Pair), k1 q1_0 = some r → Ax Γ N Tryz.f191 (D.tup [D.fr 179 2 ((r.1).map Pair.c), D.bool (r.2)]) [1, 1, 1, 1] ⟨[(8, D.acc 0)], [Ob.row .uq 179 2 ((q1_0).map Pair.c)]⟩) (hm1 : (a0_.args).length ≤ maxLen) : ∀ (rest : List Bytes) (i1 : Nat) (w1_2 : List Pair), (a0_.args).drop i1 = rest → d_spec_MatchFact_L1 a0_ a1_ k1 rest i1 w1_2 = some r → Ar Γ N Tryz.f191 (D.tup [D.fr 179 2 ((r.1).map Pair.c), D.bool (r.2)]) [1, 1, 1, 0, 1, 0] (rest.length + 1) (d_spec_MatchFact_S1 a0_ a1_ ((w1_2).map Pair.c) ((i1 : Int))) := by
  intro rest
  induction rest with
  | nil =>
    intro i1 w1_2 hd1 h
    rw [d_spec_MatchFact_L1] at h
    refine AWr_succ fun N1 hN1 hS1 => ?_
    exact ((pre0.ge tx hd1).a [.hl 0 [8] [2]]).ex [[some (179, 2)], [none]] hΓ hN1 (hE1 (w1_2) h)
  | cons x1_ xs1 ih1 =>
    intro i1 w1_2 hd1 h
    rw [d_spec_MatchFact_L1] at h
    refine AWr_succ fun N1 hN1 hS1 => ?_
    obtain ⟨y80, h81, h⟩ := den_bind h
    have o4_ := (((pre0.lt tx hd1).l (map_row tx 1 (dc hd1) rfl)).g (d_spec_IsAtom_good h81))
    obtain ⟨h82, h⟩ | ⟨h82, h⟩ := den_if h
    · obtain ⟨x83, h84, h⟩ := den_bind h
      have o5_ := ((((o4_.b h82).a [.n 10]).l (map_row tx 1 (dc hd1) rfl)).l (at_row tx 1 h84 rfl))
      obtain ⟨h85, h⟩ | ⟨h85, h⟩ := den_if h
      · cases h; exact (o5_.b h85).ret [[some (179, 2)], [none]] hΓ
      · exact ((o5_.b h85).a [.cn [3, 4, 8, 9] [0, 1, 2]]).ct [[some (179, 2)], [none]] hΓ hS1 (iS hd1 hm1) (ih1 (i1 + 1) (w1_2) (dn hd1) h)
    · obtain ⟨x86, h87, h⟩ := den_bind h
      obtain ⟨y88, h89, h⟩ := den_bind h
      have o6_ := (((((o4_.b h82).a [.n 16]).l (map_row tx 1 (dc hd1) rfl)).l (at_row tx 1 h87 rfl)).g (d_spec_Extend_good h89))
      obtain ⟨h90, h⟩ | ⟨h90, h⟩ := den_if h
      · cases h; exact (o6_.b h90).ret [[some (179, 2)], [none]] hΓ
      · exact ((o6_.b h90).a [.cn [3, 4, 8, 9] [0, 1, 3]]).ct [[some (179, 2)], [none]] hΓ hS1 (iS hd1 hm1) (ih1 (i1 + 1) (y88.1) (dn hd1) h)
theorem d_spec_MatchFact_good {a0_ : Fact} {a1_ : Fact} {a2_ : List Pair} {r : (List Pair) × Bool} (h : d_spec_MatchFact a0_ a1_ a2_ = some r) : Good Tryz.prog 191 [D.agg (Fact.c a0_), D.agg (Fact.c a1_), D.sl ((a2_).map Pair.c)] (D.tup [D.fr 179 2 ((r.1).map Pair.c), D.bool (r.2)]) := by
  refine gd Tryz.func191 89 fun hr Γ hΓ => ?_
  rw [d_spec_MatchFact] at h
  obtain ⟨y1, h2, h⟩ := den_bind h
  obtain ⟨h3, h⟩ | ⟨h3, h⟩ := den_if h
  · cases h; exact (((pre0.g (d_spec_IsPattern_good h2)).r 4 h3).T 19).ret [[some (179, 2)], [none]] hΓ
  · obtain ⟨y4, h5, h⟩ := den_bind h
    have o7_ := ((((pre0.g (d_spec_IsPattern_good h2)).r 2 h3).g (d_spec_IsFact_good h5)).r 2 h3)
    obtain ⟨h6, h⟩ | ⟨h6, h⟩ := den_if h
    · cases h; exact ((o7_.r 4 h6).T 15).ret [[some (179, 2)], [none]] hΓ
    · obtain ⟨y7, h8, h⟩ := den_bind h
      have o8_ := (((o7_.r 2 h6).g (d_spec_IsBinding_good h8)).r 2 h6)
      obtain ⟨h9, h⟩ | ⟨h9, h⟩ := den_if h
      · cases h; exact ((o8_.r 6 h9).T 9).ret [[some (179, 2)], [none]] hΓ
      · have o9_ := (o8_.r 6 h9)
        obtain ⟨h10, h⟩ | ⟨h10, h⟩ := den_if h
        · cases h; exact ((o9_.r 8 h10).T 1).ret [[some (179, 2)], [none]] hΓ
        · have o10_ := (o9_.r 8 h10)
          obtain ⟨h11, h⟩ | ⟨h11, h⟩ := den_if h
          · cases h; exact (o10_.b h11).ret [[some (179, 2)], [none]] hΓ
          · obtain ⟨y12, h13, h⟩ := den_bind h
            refine (((o10_.b h11).g (d_spec_l3Copy_good h13)).a [.cn [3, 4, 8, 9] [0, 1, 2]]).lp [[some (179, 2)], [none]] hΓ (d_spec_MatchFact_L1w hΓ (fun q1_0 h => ?_) (by have := (Rdb.sl (Rdb.agg (hr _ (List.mem_of_getElem? (i := 0) rfl)) (.sl ((a0_.args).map tx)) (by simp))).1; simpa using this) (a0_.args) 0 (y12) rfl h)
            cases h; exact pre0.ret [[some (179, 2)], [none]] hΓ
def d_spec_l1Texts (a0_ : List Bytes) : Option (List Bytes) := (bif room ((([] : List (List D))).length + ((a0_).map tx).length) 16 then (some ((([] : List Bytes)) ++ (a0_))) else none)
theorem d_spec_l1Texts_good {a0_ : List Bytes} {r : List Bytes} (h : d_spec_l1Texts a0_ = some r) : Good Tryz.prog 214 [D.sl ((a0_).map tx)] (D.fr 9 1 ((r).map tx)) := by
  refine gd Tryz.func214 6 fun hr Γ hΓ => ?_
  rw [d_spec_l1Texts] at h
  obtain ⟨h1, h⟩ := den_ok h
  cases h; exact (((pre0.w (room_ok h1)).w (show (∀ r ∈ ((a0_).map tx), r.length = 1) ∧ (true = true → D.flatRows ((a0_).map tx) = true) from ⟨by simp, by simp [D.flatRows, D.flat]⟩)).a [.pro 2, .fl true]).rts [[some (9, 1)]] hΓ (D.fr 9 1 ((([] : List (List D))) ++ ((a0_).map tx))) (by first | rfl | (simp only [mA] <;> rfl))
def d_spec_l2Copy (a0_ : Fact) : Option Fact := ((d_spec_l1Texts (a0_.args)).bind fun y1 => (some ((⟨a0_.rel, y1⟩ : Fact))))
theorem d_spec_l2Copy_good {a0_ : Fact} {r : Fact} (h : d_spec_l2Copy a0_ = some r) : Good Tryz.prog 193 [D.agg (Fact.c a0_)] (D.agg [D.str (r.rel), D.fr 9 1 ((r.args).map tx)]) := by
  refine gd Tryz.func193 9 fun hr Γ hΓ => ?_
  rw [d_spec_l2Copy] at h
  obtain ⟨y1, h2, h⟩ := den_bind h
  cases h; exact ((pre0.a [.n 5]).g (d_spec_l1Texts_good h2)).ret [[none, some (9, 1)]] hΓ
def d_spec_MatchingFacts_L1 (a0_ : Fact) (a1_ : List Pair) (a2_ : List Fact) (k1 : List Fact → Option (List Fact)) : List Fact → Nat → List Fact → Option (List Fact)
  | [], i1, w1_1 => (k1 (w1_1))
  | x1_ :: xs1, i1, w1_1 => ((d_spec_MatchFact (a0_) (x1_) (a1_)).bind fun y42 => (bif y42.2 then ((d_spec_l2Copy (x1_)).bind fun y45 => (bif room (((w1_1).map Fact.c).length + ([[D.str (y45.rel), D.sl ((y45.args).map tx)]]).length) 40 then (d_spec_MatchingFacts_L1 a0_ a1_ a2_ k1 xs1 (i1 + 1) ((w1_1) ++ ([y45]))) else none)) else (d_spec_MatchingFacts_L1 a0_ a1_ a2_ k1 xs1 (i1 + 1) (w1_1))))
def d_spec_MatchingFacts (a0_ : Fact) (a1_ : List Pair) (a2_ : List Fact) : Option (List Fact) := (d_spec_MatchingFacts_L1 a0_ a1_ a2_ (fun (q1_0 : List Fact) => (some (q1_0))) (a2_) 0 (([] : List Fact)))
def d_spec_MatchingFacts_S1 (a0_ : Fact) (a1_ : List Pair) (a2_ : List Fact) (W0 : List (List D)) (ix_ : Int) : St := ⟨[(1, D.sl ((a1_).map Pair.c)), (2, D.sl ((a2_).map Fact.c)), (3, D.ptr 0 0), (7, D.acc 1), (8, D.int .i64 (ix_))], [Ob.box (Fact.c a0_), Ob.row .uq 111 2 (W0)]⟩
theorem d_spec_MatchingFacts_L1w (hΓ : Γ.nt = 38) {a0_ : Fact} {a1_ : List Pair} {a2_ : List Fact} {r : List Fact} {k1 : List Fact → Option (List Fact)} (hE1 : ∀ (q1_0 : List Fact), k1 q1_0 = some r → Ax Γ N Tryz.f210 (D.fr 111 2 ((r).map Fact.c)) [1, 1, 1] ⟨[(7, D.acc 0)], [Ob.row .uq 111 2 ((q1_0).map Fact.c)]⟩) (hm1 : (a2_).length ≤ maxLen) : ∀ (rest : List Fact) (i1 : Nat) (w1_1 : List Fact), (a2_).drop i1 = rest → d_spec_MatchingFacts_L1 a0_ a1_ a2_ k1 rest i1 w1_1 = some r → Ar Γ N Tryz.f210 (D.fr 111 2 ((r).map Fact.c)) [1, 1, 0, 1, 0] (rest.length + 1) (d_spec_MatchingFacts_S1 a0_ a1_ a2_ ((w1_1).map Fact.c) ((i1 : Int))) := by
  intro rest
  induction rest with
  | nil =>
    intro i1 w1_1 hd1 h
    rw [d_spec_MatchingFacts_L1] at h
    refine AWr_succ fun N1 hN1 hS1 => ?_
    exact ((pre0.ge Fact.c hd1).a [.hl 0 [7] [1]]).ex [[some (111, 2)]] hΓ hN1 (hE1 (w1_1) h)
  | cons x1_ xs1 ih1 =>
    intro i1 w1_1 hd1 h
    rw [d_spec_MatchingFacts_L1] at h
    refine AWr_succ fun N1 hN1 hS1 => ?_
    obtain ⟨y42, h43, h⟩ := den_bind h
    have o2_ := ((((pre0.lt Fact.c hd1).a [.n 11]).l (map_row Fact.c 2 (dc hd1) rfl)).g (d_spec_MatchFact_good h43))
    obtain ⟨h44, h⟩ | ⟨h44, h⟩ := den_if h
    · obtain ⟨y45, h46, h⟩ := den_bind h
      obtain ⟨h47, h⟩ := den_ok h
      exact (((((o2_.b h44).l (map_row Fact.c 2 (dc hd1) rfl)).g (d_spec_l2Copy_good h46)).w (room_ok h47)).a [.cn [1, 2, 3, 7, 8] [0, 5]]).cs [[some (111, 2)]] hΓ hS1 (d_spec_MatchingFacts_S1 a0_ a1_ a2_ (((w1_1).map Fact.c) ++ ([[D.str (y45.rel), D.sl ((y45.args).map tx)]])) (IntKind.i64.wrap (((i1 : Int)) + (1)))) (by first | (simp only [iS hd1 hm1, mA] <;> rfl) | (simp only [iS hd1 hm1, mA, Fact.c, Pair.c, Cond.c, Action.c, Rule.c, Token.c, Match.c, Alpha.c, Node.c, Network.c, Stamp.c] <;> rfl)) (ih1 (i1 + 1) ((w1_1) ++ ([y45])) (dn hd1) h)
    · exact ((o2_.b h44).a [.cn [1, 2, 3, 7, 8] [0, 1]]).ct [[some (111, 2)]] hΓ hS1 (iS hd1 hm1) (ih1 (i1 + 1) (w1_1) (dn hd1) h)
theorem d_spec_MatchingFacts_good {a0_ : Fact} {a1_ : List Pair} {a2_ : List Fact} {r : List Fact} (h : d_spec_MatchingFacts a0_ a1_ a2_ = some r) : Good Tryz.prog 210 [D.agg (Fact.c a0_), D.sl ((a1_).map Pair.c), D.sl ((a2_).map Fact.c)] (D.fr 111 2 ((r).map Fact.c)) := by
  refine gd Tryz.func210 38 fun hr Γ hΓ => ?_
  rw [d_spec_MatchingFacts] at h
  refine (pre0.a [.cn [1, 2, 3, 7, 8] [0, 1]]).lp [[some (111, 2)]] hΓ (d_spec_MatchingFacts_L1w hΓ (fun q1_0 h => ?_) (by have := (Rdb.sl (hr _ (List.mem_of_getElem? (i := 2) rfl))).1; simpa using this) (a2_) 0 (([] : List Fact)) rfl h)
  have h := den_some h; subst h; exact pre0.ret [[some (111, 2)]] hΓ
def d_spec_IsNumber (a0_ : Bytes) : Option Bool := ((d_spec_ParseInt (a0_)).bind fun y1 => (some (y1.2)))
theorem d_spec_IsNumber_good {a0_ : Bytes} {r : Bool} (h : d_spec_IsNumber a0_ = some r) : Good Tryz.prog 234 [D.str (a0_)] (D.bool (r)) := by
  refine gd Tryz.func234 11 fun hr Γ hΓ => ?_
  rw [d_spec_IsNumber] at h
  obtain ⟨y1, h2, h⟩ := den_bind h
  cases h; exact (pre0.g (d_spec_ParseInt_good h2)).ret [[none]] hΓ
def d_spec_HoldsTest (a0_ : Cond) (a1_ : List Pair) : Option Bool := ((d_spec_IsTest (a0_)).bind fun y1 => (bif !(y1) then (some (false)) else ((d_spec_IsBinding (a1_)).bind fun y4 => (bif !(y4) then (some (false)) else ((d_spec_ValueOf (a1_) (a0_.left)).bind fun y7 => ((d_spec_ValueOf (a1_) (a0_.right)).bind fun y9 => (bif !(y7.2) then (some (false)) else (bif !(y9.2) then (some (false)) else (bif (a0_.kind : Int) == (3) then (some ((y7.1 : Bytes) == (y9.1))) else (bif (a0_.kind : Int) == (4) then (some (!((y7.1 : Bytes) == (y9.1)))) else ((d_spec_IsNumber (y7.1)).bind fun y15 => (bif y15 then ((d_spec_IsNumber (y9.1)).bind fun y18 => (bif y18 then ((d_spec_CompareAtoms (y7.1) (y9.1)).bind fun y21 => (some (decide ((y21 : Int) < (0))))) else (some (false)))) else (some (false))))))))))))))
theorem d_spec_HoldsTest_good {a0_ : Cond} {a1_ : List Pair} {r : Bool} (h : d_spec_HoldsTest a0_ a1_ = some r) : Good Tryz.prog 211 [D.agg (Cond.c a0_), D.sl ((a1_).map Pair.c)] (D.bool (r)) := by
  refine gd Tryz.func211 61 fun hr Γ hΓ => ?_
  rw [d_spec_HoldsTest] at h
  obtain ⟨y1, h2, h⟩ := den_bind h
  obtain ⟨h3, h⟩ | ⟨h3, h⟩ := den_if h
  · have h := den_some h; subst h; exact (((pre0.g (d_spec_IsTest_good h2)).r 4 h3).T 1).ret [[none]] hΓ
  · obtain ⟨y4, h5, h⟩ := den_bind h
    have o1_ := ((((pre0.g (d_spec_IsTest_good h2)).r 2 h3).g (d_spec_IsBinding_good h5)).r 2 h3)
    obtain ⟨h6, h⟩ | ⟨h6, h⟩ := den_if h
    · have h := den_some h; subst h; exact (o1_.b h6).ret [[none]] hΓ
    · obtain ⟨y7, h8, h⟩ := den_bind h
      obtain ⟨y9, h10, h⟩ := den_bind h
      have o2_ := (((o1_.b h6).g (d_spec_ValueOf_good h8)).g (d_spec_ValueOf_good h10))
      obtain ⟨h11, h⟩ | ⟨h11, h⟩ := den_if h
      · have h := den_some h; subst h; exact ((o2_.r 3 h11).T 1).ret [[none]] hΓ
      · have o3_ := (o2_.r 3 h11)
        obtain ⟨h12, h⟩ | ⟨h12, h⟩ := den_if h
        · have h := den_some h; subst h; exact (o3_.b h12).ret [[none]] hΓ
        · obtain ⟨h13, h⟩ | ⟨h13, h⟩ := den_if h
          · cases h; exact ((o3_.b h12).b h13).ret [[none]] hΓ
          · have o4_ := ((o3_.b h12).b h13)
            obtain ⟨h14, h⟩ | ⟨h14, h⟩ := den_if h
            · cases h; exact (o4_.b h14).ret [[none]] hΓ
            · obtain ⟨y15, h16, h⟩ := den_bind h
              have o5_ := ((o4_.b h14).g (d_spec_IsNumber_good h16))
              obtain ⟨h17, h⟩ | ⟨h17, h⟩ := den_if h
              · obtain ⟨y18, h19, h⟩ := den_bind h
                have o6_ := (((o5_.r 2 h17).g (d_spec_IsNumber_good h19)).b h17)
                obtain ⟨h20, h⟩ | ⟨h20, h⟩ := den_if h
                · obtain ⟨y21, h22, h⟩ := den_bind h
                  cases h; exact (((o6_.r 3 h20).g (d_spec_CompareAtoms_good h22)).r 2 h20).ret [[none]] hΓ
                · have h := den_some h; subst h; exact (o6_.r 5 h20).ret [[none]] hΓ
              · have h := den_some h; subst h; exact ((o5_.r 3 h17).F 5).ret [[none]] hΓ
def d_spec_HoldsCond (a0_ : Cond) (a1_ : List Pair) (a2_ : List Fact) : Option Bool := ((d_spec_IsCond (a0_)).bind fun y1 => (bif !(y1) then (some (false)) else ((d_spec_IsBinding (a1_)).bind fun y4 => (bif !(y4) then (some (false)) else (bif (a0_.kind : Int) == (1) then ((d_spec_MatchingFacts (a0_.pat) (a1_) (a2_)).bind fun y8 => (some (decide (((((y8).map Fact.c).length : Int) : Int) > (0))))) else (bif (a0_.kind : Int) == (2) then ((d_spec_MatchingFacts (a0_.pat) (a1_) (a2_)).bind fun y11 => (some (((((y11).map Fact.c).length : Int) : Int) == (0)))) else ((d_spec_HoldsTest (a0_) (a1_)).bind fun y13 => (some (y13)))))))))
theorem d_spec_HoldsCond_good {a0_ : Cond} {a1_ : List Pair} {a2_ : List Fact} {r : Bool} (h : d_spec_HoldsCond a0_ a1_ a2_ = some r) : Good Tryz.prog 189 [D.agg (Cond.c a0_), D.sl ((a1_).map Pair.c), D.sl ((a2_).map Fact.c)] (D.bool (r)) := by
  refine gd Tryz.func189 38 fun hr Γ hΓ => ?_
  rw [d_spec_HoldsCond] at h
  obtain ⟨y1, h2, h⟩ := den_bind h
  obtain ⟨h3, h⟩ | ⟨h3, h⟩ := den_if h
  · have h := den_some h; subst h; exact (((pre0.g (d_spec_IsCond_good h2)).r 4 h3).T 1).ret [[none]] hΓ
  · obtain ⟨y4, h5, h⟩ := den_bind h
    have o1_ := ((((pre0.g (d_spec_IsCond_good h2)).r 2 h3).g (d_spec_IsBinding_good h5)).r 2 h3)
    obtain ⟨h6, h⟩ | ⟨h6, h⟩ := den_if h
    · have h := den_some h; subst h; exact (o1_.b h6).ret [[none]] hΓ
    · obtain ⟨h7, h⟩ | ⟨h7, h⟩ := den_if h
      · obtain ⟨y8, h9, h⟩ := den_bind h
        cases h; exact (((o1_.b h6).b h7).g (d_spec_MatchingFacts_good h9)).ret [[none]] hΓ
      · have o2_ := ((o1_.b h6).b h7)
        obtain ⟨h10, h⟩ | ⟨h10, h⟩ := den_if h
        · obtain ⟨y11, h12, h⟩ := den_bind h
          cases h; exact ((o2_.b h10).g (d_spec_MatchingFacts_good h12)).ret [[none]] hΓ
        · obtain ⟨y13, h14, h⟩ := den_bind h
          have h := den_some h; subst h; exact ((o2_.b h10).g (d_spec_HoldsTest_good h14)).ret [[none]] hΓ
def d_spec_l2Copies_L1 (a0_ : List Fact) (k1 : List Fact → Option (List Fact)) : List Fact → Nat → List Fact → Option (List Fact)
  | [], i1, w1_0 => (k1 (w1_0))
  | x1_ :: xs1, i1, w1_0 => ((d_spec_l2Copy (x1_)).bind fun y27 => (bif room (((w1_0).map Fact.c).length + ([[D.str (y27.rel), D.sl ((y27.args).map tx)]]).length) 40 then (d_spec_l2Copies_L1 a0_ k1 xs1 (i1 + 1) ((w1_0) ++ ([y27]))) else none))
def d_spec_l2Copies (a0_ : List Fact) : Option (List Fact) := (d_spec_l2Copies_L1 a0_ (fun (q1_0 : List Fact) => (some (q1_0))) (a0_) 0 (([] : List Fact)))
def d_spec_l2Copies_S1 (a0_ : List Fact) (W0 : List (List D)) (ix_ : Int) : St := ⟨[(0, D.sl ((a0_).map Fact.c)), (3, D.acc 0), (4, D.int .i64 (ix_))], [Ob.row .uq 111 2 (W0)]⟩
theorem d_spec_l2Copies_L1w (hΓ : Γ.nt = 21) {a0_ : List Fact} {r : List Fact} {k1 : List Fact → Option (List Fact)} (hE1 : ∀ (q1_0 : List Fact), k1 q1_0 = some r → Ax Γ N Tryz.f192 (D.fr 111 2 ((r).map Fact.c)) [1, 1, 1] ⟨[(3, D.acc 0)], [Ob.row .uq 111 2 ((q1_0).map Fact.c)]⟩) (hm1 : (a0_).length ≤ maxLen) : ∀ (rest : List Fact) (i1 : Nat) (w1_0 : List Fact), (a0_).drop i1 = rest → d_spec_l2Copies_L1 a0_ k1 rest i1 w1_0 = some r → Ar Γ N Tryz.f192 (D.fr 111 2 ((r).map Fact.c)) [1, 1, 0, 1, 0] (rest.length + 1) (d_spec_l2Copies_S1 a0_ ((w1_0).map Fact.c) ((i1 : Int))) := by
  intro rest
  induction rest with
  | nil =>
    intro i1 w1_0 hd1 h
    rw [d_spec_l2Copies_L1] at h
    refine AWr_succ fun N1 hN1 hS1 => ?_
    exact ((pre0.ge Fact.c hd1).a [.hl 0 [3] [0]]).ex [[some (111, 2)]] hΓ hN1 (hE1 (w1_0) h)
  | cons x1_ xs1 ih1 =>
    intro i1 w1_0 hd1 h
    rw [d_spec_l2Copies_L1] at h
    refine AWr_succ fun N1 hN1 hS1 => ?_
    obtain ⟨y27, h28, h⟩ := den_bind h
    obtain ⟨h29, h⟩ := den_ok h
    exact (((((pre0.lt Fact.c hd1).l (map_row Fact.c 2 (dc hd1) rfl)).g (d_spec_l2Copy_good h28)).w (room_ok h29)).a [.cn [0, 3, 4] [3]]).cs [[some (111, 2)]] hΓ hS1 (d_spec_l2Copies_S1 a0_ (((w1_0).map Fact.c) ++ ([[D.str (y27.rel), D.sl ((y27.args).map tx)]])) (IntKind.i64.wrap (((i1 : Int)) + (1)))) (by first | (simp only [iS hd1 hm1, mA] <;> rfl) | (simp only [iS hd1 hm1, mA, Fact.c, Pair.c, Cond.c, Action.c, Rule.c, Token.c, Match.c, Alpha.c, Node.c, Network.c, Stamp.c] <;> rfl)) (ih1 (i1 + 1) ((w1_0) ++ ([y27])) (dn hd1) h)
theorem d_spec_l2Copies_good {a0_ : List Fact} {r : List Fact} (h : d_spec_l2Copies a0_ = some r) : Good Tryz.prog 192 [D.sl ((a0_).map Fact.c)] (D.fr 111 2 ((r).map Fact.c)) := by
  refine gd Tryz.func192 21 fun hr Γ hΓ => ?_
  rw [d_spec_l2Copies] at h
  refine (pre0.a [.cn [0, 3, 4] [0]]).lp [[some (111, 2)]] hΓ (d_spec_l2Copies_L1w hΓ (fun q1_0 h => ?_) (by have := (Rdb.sl (hr _ (List.mem_of_getElem? (i := 0) rfl))).1; simpa using this) (a0_) 0 (([] : List Fact)) rfl h)
  have h := den_some h; subst h; exact pre0.ret [[some (111, 2)]] hΓ
def d_spec_l6Copy (a0_ : Token) : Option Token := ((d_spec_l2Copies (a0_.facts)).bind fun y1 => ((d_spec_l3Copy (a0_.bind)).bind fun y3 => (some ((⟨y1, y3⟩ : Token)))))
theorem d_spec_l6Copy_good {a0_ : Token} {r : Token} (h : d_spec_l6Copy a0_ = some r) : Good Tryz.prog 190 [D.agg (Token.c a0_)] (D.agg [D.fr 111 2 ((r.facts).map Fact.c), D.fr 179 2 ((r.bind).map Pair.c)]) := by
  refine gd Tryz.func190 10 fun hr Γ hΓ => ?_
  rw [d_spec_l6Copy] at h
  obtain ⟨y1, h2, h⟩ := den_bind h
  obtain ⟨y3, h4, h⟩ := den_bind h
  cases h; exact (((pre0.a [.n 5]).g (d_spec_l2Copies_good h2)).g (d_spec_l3Copy_good h4)).ret [[some (111, 2), some (179, 2)]] hΓ
def d_spec_l6Next_L2 (a0_ : List Token) (a1_ : Cond) (a2_ : List Fact) (i1 : Nat) (x1_ : Token) (k2 : List Token → Option (List Token)) : List Fact → Nat → List Token → Option (List Token)
  | [], i2, w2_1 => (k2 (w2_1))
  | x2_ :: xs2, i2, w2_1 => ((d_spec_MatchFact (a1_.pat) (x2_) (x1_.bind)).bind fun y476 => (bif y476.2 then ((d_spec_l2Copies (x1_.facts)).bind fun y479 => ((d_spec_l2Copy (x2_)).bind fun y481 => (bif room (((y479).map Fact.c).length + ([[D.str (y481.rel), D.sl ((y481.args).map tx)]]).length) 40 then (bif room (((w2_1).map Token.c).length + ([[D.sl (((y479).map Fact.c) ++ ([[D.str (y481.rel), D.sl ((y481.args).map tx)]])), D.sl ((y476.1).map Pair.c)]]).length) 48 then (d_spec_l6Next_L2 a0_ a1_ a2_ i1 x1_ k2 xs2 (i2 + 1) ((w2_1) ++ ([(⟨(y479) ++ ([y481]), y476.1⟩ : Token)]))) else none) else none))) else (d_spec_l6Next_L2 a0_ a1_ a2_ i1 x1_ k2 xs2 (i2 + 1) (w2_1))))
def d_spec_l6Next_L1 (a0_ : List Token) (a1_ : Cond) (a2_ : List Fact) (k1 : List Token → Option (List Token)) : List Token → Nat → List Token → Option (List Token)
  | [], i1, w1_1 => (k1 (w1_1))
  | x1_ :: xs1, i1, w1_1 => (bif (a1_.kind : Int) != (1) then ((d_spec_HoldsCond (a1_) (x1_.bind) (a2_)).bind fun y414 => (bif y414 then ((d_spec_l6Copy (x1_)).bind fun y417 => (bif room (((w1_1).map Token.c).length + ([[D.sl ((y417.facts).map Fact.c), D.sl ((y417.bind).map Pair.c)]]).length) 48 then (d_spec_l6Next_L1 a0_ a1_ a2_ k1 xs1 (i1 + 1) ((w1_1) ++ ([y417]))) else none)) else (d_spec_l6Next_L1 a0_ a1_ a2_ k1 xs1 (i1 + 1) (w1_1)))) else (bif decide ((a2_).length ≤ maxLen) then (d_spec_l6Next_L2 a0_ a1_ a2_ i1 x1_ (fun (q2_1 : List Token) => (d_spec_l6Next_L1 a0_ a1_ a2_ k1 xs1 (i1 + 1) (q2_1))) (a2_) 0 (w1_1)) else none))
def d_spec_l6Next (a0_ : List Token) (a1_ : Cond) (a2_ : List Fact) : Option (List Token) := (d_spec_l6Next_L1 a0_ a1_ a2_ (fun (q1_0 : List Token) => (some (q1_0))) (a0_) 0 (([] : List Token)))
def d_spec_l6Next_S1 (a0_ : List Token) (a1_ : Cond) (a2_ : List Fact) (W0 : List (List D)) (ix_ : Int) : St := ⟨[(0, D.sl ((a0_).map Token.c)), (2, D.sl ((a2_).map Fact.c)), (4, D.ptr 0 0), (7, D.acc 1), (8, D.int .i64 (ix_))], [Ob.box (Cond.c a1_), Ob.row .uq 169 2 (W0)]⟩
def d_spec_l6Next_S2 (a0_ : List Token) (a1_ : Cond) (a2_ : List Fact) (i1 : Nat) (W0 : List (List D)) (ix_ : Int) : St := ⟨[(0, D.sl ((a0_).map Token.c)), (2, D.sl ((a2_).map Fact.c)), (4, D.ptr 0 0), (7, D.acc 1), (8, D.int .i64 ((i1 : Int))), (9, D.int .i64 (ix_))], [Ob.box (Cond.c a1_), Ob.row .uq 169 2 (W0)]⟩
theorem d_spec_l6Next_L2w (hΓ : Γ.nt = 79) {a0_ : List Token} {a1_ : Cond} {a2_ : List Fact} {i1 : Nat} {x1_ : Token} {r : List Token} {k2 : List Token → Option (List Token)} (hE2 : ∀ (q2_1 : List Token), k2 q2_1 = some r → Ax Γ N Tryz.f166 (D.fr 169 2 ((r).map Token.c)) [1, 1, 0, 1, 0, 0, 1, 1] ⟨[(0, D.sl ((a0_).map Token.c)), (2, D.sl ((a2_).map Fact.c)), (4, D.ptr 0 0), (7, D.acc 1), (8, D.int .i64 ((i1 : Int)))], [Ob.box (Cond.c a1_), Ob.row .uq 169 2 ((q2_1).map Token.c)]⟩) (hx1 : (a0_)[i1]? = some x1_) (hm2 : (a2_).length ≤ maxLen) : ∀ (rest : List Fact) (i2 : Nat) (w2_1 : List Token), (a2_).drop i2 = rest → d_spec_l6Next_L2 a0_ a1_ a2_ i1 x1_ k2 rest i2 w2_1 = some r → Ar Γ N Tryz.f166 (D.fr 169 2 ((r).map Token.c)) [1, 1, 0, 1, 0, 0, 1, 0, 0, 1, 1, 0] (rest.length + 1) (d_spec_l6Next_S2 a0_ a1_ a2_ i1 ((w2_1).map Token.c) ((i2 : Int))) := by
  intro rest
  induction rest with
  | nil =>
    intro i2 w2_1 hd2 h
    rw [d_spec_l6Next_L2] at h
    refine AWr_succ fun N2 hN2 hS2 => ?_
    exact ((pre0.ge Fact.c hd2).a [.hl 3 [0, 2, 4, 7, 8] [0, 1]]).ex [[some (169, 2)]] hΓ hN2 (hE2 (w2_1) h)
  | cons x2_ xs2 ih2 =>
    intro i2 w2_1 hd2 h
    rw [d_spec_l6Next_L2] at h
    refine AWr_succ fun N2 hN2 hS2 => ?_
    obtain ⟨y476, h477, h⟩ := den_bind h
    have o13_ := (((((pre0.lt Fact.c hd2).a [.n 16]).l (map_row Fact.c 2 (dc hd2) rfl)).l (map_row Token.c 2 hx1 rfl)).g (d_spec_MatchFact_good h477))
    obtain ⟨h478, h⟩ | ⟨h478, h⟩ := den_if h
    · obtain ⟨y479, h480, h⟩ := den_bind h
      obtain ⟨y481, h482, h⟩ := den_bind h
      obtain ⟨h483, h⟩ := den_ok h
      obtain ⟨h484, h⟩ := den_ok h
      exact (((((((((o13_.b h478).a [.n2 [0, 1, 2, 3, 4, 5, 6, 7, 8, 9, 10, 11, 14, 12, 13, 15, 16, 17, 18] [0, 1, 2, 3, 4, 5, 6, 7, 8, 9, 10, 11, 13, 14, 12, 15, 16, 17, 18] 13 17 [0, 12]]).l (map_row Token.c 2 hx1 rfl)).g (d_spec_l2Copies_good h480)).l (map_row Fact.c 2 (dc hd2) rfl)).g (d_spec_l2Copy_good h482)).w (room_ok h483)).w (room_ok h484)).a [.cn [0, 2, 4, 7, 8, 9] [0, 8]]).cs [[some (169, 2)]] hΓ hS2 (d_spec_l6Next_S2 a0_ a1_ a2_ i1 (((w2_1).map Token.c) ++ ([[D.sl (((y479).map Fact.c) ++ ([[D.str (y481.rel), D.sl ((y481.args).map tx)]])), D.sl ((y476.1).map Pair.c)]])) (IntKind.i64.wrap (((i2 : Int)) + (1)))) (by first | (simp only [iS hd2 hm2, mA] <;> rfl) | (simp only [iS hd2 hm2, mA, Fact.c, Pair.c, Cond.c, Action.c, Rule.c, Token.c, Match.c, Alpha.c, Node.c, Network.c, Stamp.c] <;> rfl)) (ih2 (i2 + 1) ((w2_1) ++ ([(⟨(y479) ++ ([y481]), y476.1⟩ : Token)])) (dn hd2) h)
    · exact ((o13_.b h478).a [.cn [0, 2, 4, 7, 8, 9] [0, 1]]).ct [[some (169, 2)]] hΓ hS2 (iS hd2 hm2) (ih2 (i2 + 1) (w2_1) (dn hd2) h)
theorem d_spec_l6Next_L1w (hΓ : Γ.nt = 79) {a0_ : List Token} {a1_ : Cond} {a2_ : List Fact} {r : List Token} {k1 : List Token → Option (List Token)} (hE1 : ∀ (q1_0 : List Token), k1 q1_0 = some r → Ax Γ N Tryz.f166 (D.fr 169 2 ((r).map Token.c)) [1, 1, 1] ⟨[(7, D.acc 0)], [Ob.row .uq 169 2 ((q1_0).map Token.c)]⟩) (hm1 : (a0_).length ≤ maxLen) : ∀ (rest : List Token) (i1 : Nat) (w1_1 : List Token), (a0_).drop i1 = rest → d_spec_l6Next_L1 a0_ a1_ a2_ k1 rest i1 w1_1 = some r → Ar Γ N Tryz.f166 (D.fr 169 2 ((r).map Token.c)) [1, 1, 0, 1, 0] (rest.length + 1) (d_spec_l6Next_S1 a0_ a1_ a2_ ((w1_1).map Token.c) ((i1 : Int))) := by
  intro rest
  induction rest with
  | nil =>
    intro i1 w1_1 hd1 h
    rw [d_spec_l6Next_L1] at h
    refine AWr_succ fun N1 hN1 hS1 => ?_
    exact ((pre0.ge Token.c hd1).a [.hl 0 [7] [1]]).ex [[some (169, 2)]] hΓ hN1 (hE1 (w1_1) h)
  | cons x1_ xs1 ih1 =>
    intro i1 w1_1 hd1 h
    rw [d_spec_l6Next_L1] at h
    refine AWr_succ fun N1 hN1 hS1 => ?_
    obtain ⟨h413, h⟩ | ⟨h413, h⟩ := den_if h
    · obtain ⟨y414, h415, h⟩ := den_bind h
      have o14_ := (((((pre0.lt Token.c hd1).b h413).a [.n 7]).l (map_row Token.c 2 (dc hd1) rfl)).g (d_spec_HoldsCond_good h415))
      obtain ⟨h416, h⟩ | ⟨h416, h⟩ := den_if h
      · obtain ⟨y417, h418, h⟩ := den_bind h
        obtain ⟨h419, h⟩ := den_ok h
        exact (((((o14_.b h416).l (map_row Token.c 2 (dc hd1) rfl)).g (d_spec_l6Copy_good h418)).w (room_ok h419)).a [.cn [0, 2, 4, 7, 8] [0, 5]]).cs [[some (169, 2)]] hΓ hS1 (d_spec_l6Next_S1 a0_ a1_ a2_ (((w1_1).map Token.c) ++ ([[D.sl ((y417.facts).map Fact.c), D.sl ((y417.bind).map Pair.c)]])) (IntKind.i64.wrap (((i1 : Int)) + (1)))) (by first | (simp only [iS hd1 hm1, mA] <;> rfl) | (simp only [iS hd1 hm1, mA, Fact.c, Pair.c, Cond.c, Action.c, Rule.c, Token.c, Match.c, Alpha.c, Node.c, Network.c, Stamp.c] <;> rfl)) (ih1 (i1 + 1) ((w1_1) ++ ([y417])) (dn hd1) h)
      · exact ((o14_.b h416).a [.cn [0, 2, 4, 7, 8] [0, 1]]).ct [[some (169, 2)]] hΓ hS1 (iS hd1 hm1) (ih1 (i1 + 1) (w1_1) (dn hd1) h)
    · obtain ⟨h485, h⟩ := den_ok h
      refine (((pre0.lt Token.c hd1).b h413).a [.cn [0, 2, 4, 7, 8, 9] [0, 1]]).lp [[some (169, 2)]] hΓ (d_spec_l6Next_L2w hΓ (fun q2_1 h => ?_) ((drop_cons hd1).1) (of_decide_eq_true h485) (a2_) 0 (w1_1) rfl h)
      exact (pre0.a [.cn [0, 2, 4, 7, 8] [0, 1]]).ct [[some (169, 2)]] hΓ hS1 (iS hd1 hm1) (ih1 (i1 + 1) (q2_1) (dn hd1) h)
theorem d_spec_l6Next_good {a0_ : List Token} {a1_ : Cond} {a2_ : List Fact} {r : List Token} (h : d_spec_l6Next a0_ a1_ a2_ = some r) : Good Tryz.prog 166 [D.sl ((a0_).map Token.c), D.agg (Cond.c a1_), D.sl ((a2_).map Fact.c)] (D.fr 169 2 ((r).map Token.c)) := by
  refine gd Tryz.func166 79 fun hr Γ hΓ => ?_
  rw [d_spec_l6Next] at h
  refine (pre0.a [.cn [0, 2, 4, 7, 8] [0, 1]]).lp [[some (169, 2)]] hΓ (d_spec_l6Next_L1w hΓ (fun q1_0 h => ?_) (by have := (Rdb.sl (hr _ (List.mem_of_getElem? (i := 0) rfl))).1; simpa using this) (a0_) 0 (([] : List Token)) rfl h)
  have h := den_some h; subst h; exact pre0.ret [[some (169, 2)]] hΓ
def d_spec_l6Tokens_L1 (a0_ : List Cond) (a1_ : List Fact) (k1 : List Token → Option (List Token)) : List Cond → Nat → List Token → Option (List Token)
  | [], i1, w1_0 => (k1 (w1_0))
  | x1_ :: xs1, i1, w1_0 => ((d_spec_l6Next (w1_0) (x1_) (a1_)).bind fun y22 => (d_spec_l6Tokens_L1 a0_ a1_ k1 xs1 (i1 + 1) (y22)))
def d_spec_l6Tokens (a0_ : List Cond) (a1_ : List Fact) : Option (List Token) := (d_spec_l6Tokens_L1 a0_ a1_ (fun (q1_0 : List Token) => (some (q1_0))) (a0_) 0 ([(⟨[], []⟩ : Token)]))
def d_spec_l6Tokens_S1 (a0_ : List Cond) (a1_ : List Fact) (W0 : List (List D)) (ix_ : Int) : St := ⟨[(0, D.sl ((a0_).map Cond.c)), (1, D.sl ((a1_).map Fact.c)), (5, D.acc 0), (6, D.int .i64 (ix_))], [Ob.row .uq 169 2 (W0)]⟩
theorem d_spec_l6Tokens_L1w (hΓ : Γ.nt = 23) {a0_ : List Cond} {a1_ : List Fact} {r : List Token} {k1 : List Token → Option (List Token)} (hE1 : ∀ (q1_0 : List Token), k1 q1_0 = some r → Ax Γ N Tryz.f123 (D.fr 169 2 ((r).map Token.c)) [1, 1, 1] ⟨[(5, D.acc 0)], [Ob.row .uq 169 2 ((q1_0).map Token.c)]⟩) (hm1 : (a0_).length ≤ maxLen) : ∀ (rest : List Cond) (i1 : Nat) (w1_0 : List Token), (a0_).drop i1 = rest → d_spec_l6Tokens_L1 a0_ a1_ k1 rest i1 w1_0 = some r → Ar Γ N Tryz.f123 (D.fr 169 2 ((r).map Token.c)) [1, 1, 0, 1, 0] (rest.length + 1) (d_spec_l6Tokens_S1 a0_ a1_ ((w1_0).map Token.c) ((i1 : Int))) := by
  intro rest
  induction rest with
  | nil =>
    intro i1 w1_0 hd1 h
    rw [d_spec_l6Tokens_L1] at h
    refine AWr_succ fun N1 hN1 hS1 => ?_
    exact ((pre0.ge Cond.c hd1).a [.hl 0 [5] [0]]).ex [[some (169, 2)]] hΓ hN1 (hE1 (w1_0) h)
  | cons x1_ xs1 ih1 =>
    intro i1 w1_0 hd1 h
    rw [d_spec_l6Tokens_L1] at h
    refine AWr_succ fun N1 hN1 hS1 => ?_
    obtain ⟨y22, h23, h⟩ := den_bind h
    exact ((((pre0.lt Cond.c hd1).l (map_row Cond.c 5 (dc hd1) rfl)).g (d_spec_l6Next_good h23)).a [.cn [0, 1, 5, 6] [1]]).ct [[some (169, 2)]] hΓ hS1 (iS hd1 hm1) (ih1 (i1 + 1) (y22) (dn hd1) h)
theorem d_spec_l6Tokens_good {a0_ : List Cond} {a1_ : List Fact} {r : List Token} (h : d_spec_l6Tokens a0_ a1_ = some r) : Good Tryz.prog 123 [D.sl ((a0_).map Cond.c), D.sl ((a1_).map Fact.c)] (D.fr 169 2 ((r).map Token.c)) := by
  refine gd Tryz.func123 23 fun hr Γ hΓ => ?_
  rw [d_spec_l6Tokens] at h
  refine (pre0.a [.cn [0, 1, 5, 6] [0]]).lps [[some (169, 2)]] hΓ (d_spec_l6Tokens_S1 a0_ a1_ ([[D.sl ([]), D.sl ([])]]) 0) (by first | (simp only [mA] <;> rfl) | (simp only [mA, Fact.c, Pair.c, Cond.c, Action.c, Rule.c, Token.c, Match.c, Alpha.c, Node.c, Network.c, Stamp.c] <;> rfl)) (d_spec_l6Tokens_L1w hΓ (fun q1_0 h => ?_) (by have := (Rdb.sl (hr _ (List.mem_of_getElem? (i := 0) rfl))).1; simpa using this) (a0_) 0 ([(⟨[], []⟩ : Token)]) rfl h)
  have h := den_some h; subst h; exact pre0.ret [[some (169, 2)]] hΓ
def d_spec_TokensOf (a0_ : Rule) (a1_ : Int) (a2_ : List Fact) : Option (List Token) := ((d_spec_IsRule (a0_)).bind fun y1 => (bif !(y1) then (some (([] : List Token))) else ((d_spec_AreFacts (a2_)).bind fun y4 => (bif !(y4) then (some (([] : List Token))) else ((d_spec_l1In (a1_) (0) ((((a0_.conds).map Cond.c).length : Int))).bind fun y7 => (bif !(y7) then (some (([] : List Token))) else ((pcut ((a0_.conds).map Cond.c).length (none) (some (D.int .i64 (a1_)))).bind fun p => (fun l10 u11 => ((d_spec_l6Tokens (((a0_.conds).take u11).drop l10) (a2_)).bind fun y13 => (some (y13)))) p.1 p.2)))))))
theorem d_spec_TokensOf_good {a0_ : Rule} {a1_ : Int} {a2_ : List Fact} {r : List Token} (h : d_spec_TokensOf a0_ a1_ a2_ = some r) : Good Tryz.prog 67 [D.agg (Rule.c a0_), D.int .i64 (a1_), D.sl ((a2_).map Fact.c)] (D.fr 169 2 ((r).map Token.c)) := by
  refine gd Tryz.func67 30 fun hr Γ hΓ => ?_
  rw [d_spec_TokensOf] at h
  obtain ⟨y1, h2, h⟩ := den_bind h
  obtain ⟨h3, h⟩ | ⟨h3, h⟩ := den_if h
  · cases h; exact (((pre0.g (d_spec_IsRule_good h2)).r 4 h3).T 8).ret [[some (169, 2)]] hΓ
  · obtain ⟨y4, h5, h⟩ := den_bind h
    have o1_ := ((((pre0.g (d_spec_IsRule_good h2)).r 2 h3).g (d_spec_AreFacts_good h5)).r 2 h3)
    obtain ⟨h6, h⟩ | ⟨h6, h⟩ := den_if h
    · cases h; exact ((o1_.r 7 h6).T 1).ret [[some (169, 2)]] hΓ
    · obtain ⟨y7, h8, h⟩ := den_bind h
      have o2_ := (((o1_.r 5 h6).g (d_spec_l1In_good h8)).r 2 h6)
      obtain ⟨h9, h⟩ | ⟨h9, h⟩ := den_if h
      · cases h; exact (o2_.b h9).ret [[some (169, 2)]] hΓ
      · obtain ⟨⟨l10, u11⟩, h12, h⟩ := den_bind h
        obtain ⟨y13, h14, h⟩ := den_bind h
        have h := den_some h; subst h; exact ((((o2_.b h9).w (show pcut ((a0_.conds).map Cond.c).length (none) (some (D.int .i64 (a1_))) = some (l10, u11) ∧ (((a0_.conds).map Cond.c).all fun r => r.length == 5) = true from ⟨h12, by simp [List.all_eq_true]⟩)).w (show Good Tryz.prog 123 [D.sl ((((a0_.conds).map Cond.c).take u11).drop l10), D.sl ((a2_).map Fact.c)] (D.fr 169 2 ((y13).map Token.c)) from by simpa only [List.map_append, List.map_cons, List.map_nil, List.map_drop, List.map_take] using d_spec_l6Tokens_good h14)).a [.cut l10 u11, .d (D.fr 169 2 ((y13).map Token.c))]).ret [[some (169, 2)]] hΓ
def d_impl_IsFact_L1 (a0_ : Fact) (k1 : Option Bool) : List Bytes → Nat → Option Bool
  | [], i1 => (k1 )
  | x1_ :: xs1, i1 => ((d_impl_IsAtom (x1_)).bind fun y25 => (bif !(y25) then (some (false)) else (d_impl_IsFact_L1 a0_ k1 xs1 (i1 + 1) )))
def d_impl_IsFact (a0_ : Fact) : Option Bool := ((d_impl_IsName (a0_.rel)).bind fun y1 => (bif !(y1) then (some (false)) else (bif decide (((((a0_.args).map tx).length : Int) : Int) > (3)) then (some (false)) else (d_impl_IsFact_L1 a0_ (some (true)) (a0_.args) 0 ))))
def d_impl_IsFact_S1 (a0_ : Fact) (ix_ : Int) : St := ⟨[(16, D.sl ((a0_.args).map tx)), (17, D.int .i64 ((((a0_.args).map tx).length : Int))), (18, D.int .i64 (ix_))], []⟩
theorem d_impl_IsFact_L1w (hΓ : Γ.nt = 26) {a0_ : Fact} {r : Bool} {k1 : Option Bool} (hE1 : k1 = some r → Ax Γ N Tryz.f128 (D.bool (r)) [1, 1, 1] ⟨[], []⟩) (hm1 : (a0_.args).length ≤ maxLen) : ∀ (rest : List Bytes) (i1 : Nat) , (a0_.args).drop i1 = rest → d_impl_IsFact_L1 a0_ k1 rest i1  = some r → Ar Γ N Tryz.f128 (D.bool (r)) [1, 1, 0, 1, 0] (rest.length + 1) (d_impl_IsFact_S1 a0_ ((i1 : Int))) := by
  intro rest
  induction rest with
  | nil =>
    intro i1  hd1 h
    rw [d_impl_IsFact_L1] at h
    refine AWr_succ fun N1 hN1 hS1 => ?_
    exact ((pre0.ge tx hd1).a [.hl 0 [] []]).ex [[none]] hΓ hN1 (hE1 h)
  | cons x1_ xs1 ih1 =>
    intro i1  hd1 h
    rw [d_impl_IsFact_L1] at h
    refine AWr_succ fun N1 hN1 hS1 => ?_
    obtain ⟨y25, h26, h⟩ := den_bind h
    have o2_ := (((pre0.lt tx hd1).l (map_row tx 1 (dc hd1) rfl)).g (d_impl_IsAtom_good h26))
    obtain ⟨h27, h⟩ | ⟨h27, h⟩ := den_if h
    · have h := den_some h; subst h; exact (o2_.b h27).ret [[none]] hΓ
    · exact ((o2_.b h27).a [.cn [16, 17, 18] []]).ct [[none]] hΓ hS1 (iS hd1 hm1) (ih1 (i1 + 1)  (dn hd1) h)
theorem d_impl_IsFact_good {a0_ : Fact} {r : Bool} (h : d_impl_IsFact a0_ = some r) : Good Tryz.prog 128 [D.agg (Fact.c a0_)] (D.bool (r)) := by
  refine gd Tryz.func128 26 fun hr Γ hΓ => ?_
  rw [d_impl_IsFact] at h
  obtain ⟨y1, h2, h⟩ := den_bind h
  obtain ⟨h3, h⟩ | ⟨h3, h⟩ := den_if h
  · have h := den_some h; subst h; exact (((pre0.g (d_impl_IsName_good h2)).r 5 h3).T 1).ret [[none]] hΓ
  · have o3_ := ((pre0.g (d_impl_IsName_good h2)).r 5 h3)
    obtain ⟨h4, h⟩ | ⟨h4, h⟩ := den_if h
    · have h := den_some h; subst h; exact (o3_.b h4).ret [[none]] hΓ
    · refine ((o3_.b h4).a [.cn [16, 17, 18] []]).lp [[none]] hΓ (d_impl_IsFact_L1w hΓ (fun h => ?_) (by have := (Rdb.sl (Rdb.agg (hr _ (List.mem_of_getElem? (i := 0) rfl)) (.sl ((a0_.args).map tx)) (by simp))).1; simpa using this) (a0_.args) 0  rfl h)
      have h := den_some h; subst h; exact pre0.ret [[none]] hΓ
def d_impl_ParseInt (a0_ : Bytes) : Option (Int × Bool) := (bif decide ((((a0_).length : Int) : Int) < (1)) then (some ((0, false))) else (bif decide ((((a0_).length : Int) : Int) > (4)) then (some ((0, false))) else ((d_strconv_Atoi (a0_)).bind fun y3 => (bif y3.2 then (some ((0, false))) else (bif decide ((y3.1 : Int) < (0)) then (some ((0, false))) else (bif decide ((y3.1 : Int) > (9999)) then (some ((0, false))) else ((d_impl_FormatInt (y3.1)).bind fun y8 => (bif !((y8 : Bytes) == (a0_)) then (some ((0, false))) else (some ((y3.1, true)))))))))))
theorem d_impl_ParseInt_good {a0_ : Bytes} {r : Int × Bool} (h : d_impl_ParseInt a0_ = some r) : Good Tryz.prog 196 [D.str (a0_)] (D.tup [D.int .i64 (r.1), D.bool (r.2)]) := by
  refine gd Tryz.func196 36 fun hr Γ hΓ => ?_
  rw [d_impl_ParseInt] at h
  obtain ⟨h1, h⟩ | ⟨h1, h⟩ := den_if h
  · cases h; exact ((pre0.r 4 h1).T 1).ret [[none], [none]] hΓ
  · have o1_ := (pre0.r 4 h1)
    obtain ⟨h2, h⟩ | ⟨h2, h⟩ := den_if h
    · cases h; exact (o1_.b h2).ret [[none], [none]] hΓ
    · obtain ⟨y3, h4, h⟩ := den_bind h
      have o2_ := ((o1_.b h2).g (d_strconv_Atoi_good h4))
      obtain ⟨h5, h⟩ | ⟨h5, h⟩ := den_if h
      · cases h; exact ((o2_.r 3 h5).T 9).ret [[none], [none]] hΓ
      · have o3_ := (o2_.r 3 h5)
        obtain ⟨h6, h⟩ | ⟨h6, h⟩ := den_if h
        · cases h; exact ((o3_.r 3 h6).T 6).ret [[none], [none]] hΓ
        · have o4_ := (o3_.r 3 h6)
          obtain ⟨h7, h⟩ | ⟨h7, h⟩ := den_if h
          · cases h; exact ((o4_.r 5 h7).T 1).ret [[none], [none]] hΓ
          · obtain ⟨y8, h9, h⟩ := den_bind h
            have o5_ := (((o4_.r 2 h7).g (d_impl_FormatInt_good h9)).r 3 h7)
            obtain ⟨h10, h⟩ | ⟨h10, h⟩ := den_if h
            · cases h; exact (o5_.b h10).ret [[none], [none]] hΓ
            · cases h; exact (o5_.b h10).ret [[none], [none]] hΓ
def d_impl_compareInts (a0_ : Int) (a1_ : Int) : Option Int := (bif decide ((a0_ : Int) < (a1_)) then (some (-1)) else (bif decide ((a0_ : Int) > (a1_)) then (some (1)) else (some (0))))
theorem d_impl_compareInts_good {a0_ : Int} {a1_ : Int} {r : Int} (h : d_impl_compareInts a0_ a1_ = some r) : Good Tryz.prog 171 [D.int .i64 (a0_), D.int .i64 (a1_)] (D.int .i64 (r)) := by
  refine gd Tryz.func171 13 fun hr Γ hΓ => ?_
  rw [d_impl_compareInts] at h
  obtain ⟨h1, h⟩ | ⟨h1, h⟩ := den_if h
  · cases h; exact (pre0.b h1).ret [[none]] hΓ
  · obtain ⟨h2, h⟩ | ⟨h2, h⟩ := den_if h
    · have h := den_some h; subst h; exact ((pre0.b h1).b h2).ret [[none]] hΓ
    · have h := den_some h; subst h; exact ((pre0.b h1).b h2).ret [[none]] hΓ
def d_impl_CompareAtoms (a0_ : Bytes) (a1_ : Bytes) : Option Int := ((d_impl_ParseInt (a0_)).bind fun y1 => ((d_impl_ParseInt (a1_)).bind fun y3 => (bif y1.2 then (bif y3.2 then ((d_impl_compareInts (y1.1) (y3.1)).bind fun y7 => (some (y7))) else (some (-1))) else (bif y3.2 then (some (1)) else ((d_strings_Compare (a0_) (a1_)).bind fun y10 => (some (y10)))))))
theorem d_impl_CompareAtoms_good {a0_ : Bytes} {a1_ : Bytes} {r : Int} (h : d_impl_CompareAtoms a0_ a1_ = some r) : Good Tryz.prog 170 [D.str (a0_), D.str (a1_)] (D.int .i64 (r)) := by
  refine gd Tryz.func170 34 fun hr Γ hΓ => ?_
  rw [d_impl_CompareAtoms] at h
  obtain ⟨y1, h2, h⟩ := den_bind h
  obtain ⟨y3, h4, h⟩ := den_bind h
  have o1_ := ((pre0.g (d_impl_ParseInt_good h2)).g (d_impl_ParseInt_good h4))
  obtain ⟨h5, h⟩ | ⟨h5, h⟩ := den_if h
  · have o2_ := (o1_.r 2 h5)
    obtain ⟨h6, h⟩ | ⟨h6, h⟩ := den_if h
    · obtain ⟨y7, h8, h⟩ := den_bind h
      have h := den_some h; subst h; exact ((o2_.b h6).g (d_impl_compareInts_good h8)).ret [[none]] hΓ
    · cases h; exact ((o2_.b h6).b h5).ret [[none]] hΓ
  · have o3_ := (((o1_.r 2 h5).F 1).b h5)
    obtain ⟨h9, h⟩ | ⟨h9, h⟩ := den_if h
    · have h := den_some h; subst h; exact (o3_.b h9).ret [[none]] hΓ
    · obtain ⟨y10, h11, h⟩ := den_bind h
      have h := den_some h; subst h; exact ((o3_.b h9).g (d_strings_Compare_good h11)).ret [[none]] hΓ
end Go.Cx
