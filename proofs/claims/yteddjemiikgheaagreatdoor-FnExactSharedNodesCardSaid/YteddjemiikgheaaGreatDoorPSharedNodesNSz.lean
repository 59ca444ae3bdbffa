/- What functions of the program compute, and the walks that show it. No condition. -/
import Derived.Test.YteddjemiikgheaaGreatDoorNData
namespace Go.Cx
open Go.RowKit Go.Proofs
set_option linter.unusedVariables false
set_option linter.unusedSimpArgs false
set_option maxRecDepth 100000
variable {Γ : Ctx} {N : Nat → St → Prop}
def d_laws_szStringS_L1 (a0_ : List Bytes) (k1 : Int → Option Int) : List Bytes → Nat → Int → Option Int
  | [], i1, v1_1 => (k1 (v1_1))
  | x1_ :: xs1, i1, v1_1 => (bif decide ((IntKind.i64.wrap ((v1_1) - (((x1_).length : Int))) : Int) < (0)) then (some (-1)) else (d_laws_szStringS_L1 a0_ k1 xs1 (i1 + 1) (IntKind.i64.wrap ((v1_1) - (((x1_).length : Int))))))
def d_laws_szStringS (a0_ : List Bytes) (a1_ : Int) : Option Int := (bif decide ((IntKind.i64.wrap ((a1_) - ((((a0_).map tx).length : Int))) : Int) < (0)) then (some (-1)) else (d_laws_szStringS_L1 a0_ (fun (z1_1 : Int) => (some (z1_1))) (a0_) 0 (IntKind.i64.wrap ((a1_) - ((((a0_).map tx).length : Int))))))
def d_laws_szStringS_S1 (a0_ : List Bytes) (v1_1 : Int) (ix_ : Int) : St := ⟨[(0, D.sl ((a0_).map tx)), (1, D.int .i64 (v1_1)), (5, D.int .i64 (ix_))], []⟩
theorem d_laws_szStringS_L1w (hΓ : Γ.nt = 28) {a0_ : List Bytes} {r : Int} {k1 : Int → Option Int} (hE1 : ∀ (z1_1 : Int), k1 z1_1 = some r → Ax Γ N Tryz.f181 (.q [[none]] (D.int .i64 (r))) [1, 1, 1, 1] ⟨[(1, D.int .i64 (z1_1))], []⟩) (hm1 : (a0_).length ≤ maxLen) : ∀ (rest : List Bytes) (i1 : Nat) (v1_1 : Int), (a0_).drop i1 = rest → d_laws_szStringS_L1 a0_ k1 rest i1 v1_1 = some r → Ar Γ N Tryz.f181 (.q [[none]] (D.int .i64 (r))) [1, 1, 1, 0, 1, 0] (rest.length + 1) (d_laws_szStringS_S1 a0_ v1_1 ((i1 : Int))) := by
  intro rest
  induction rest with
  | nil =>
    intro i1 v1_1 hd1 h
    rw [d_laws_szStringS_L1] at h
    refine AWr_succ fun N1 hN1 hS1 => ?_
    exact ((pre0.ge tx hd1).a [.hl 0 [1] []]).ex hΓ hN1 (hE1 (v1_1) h)
  | cons x1_ xs1 ih1 =>
    intro i1 v1_1 hd1 h
    rw [d_laws_szStringS_L1] at h
    refine AWr_succ fun N1 hN1 hS1 => ?_
    have o2_ := ((pre0.lt tx hd1).l (map_row tx 1 (dc hd1) rfl))
    obtain ⟨h14, h⟩ | ⟨h14, h⟩ := den_if h
    · cases h; exact (o2_.b h14).ret hΓ
    · exact ((o2_.b h14).a [.cn [0, 1, 5] []]).ct hΓ hS1 (iS hd1 hm1) (ih1 (i1 + 1) (IntKind.i64.wrap ((v1_1) - (((x1_).length : Int)))) (dn hd1) h)
theorem d_laws_szStringS_good {a0_ : List Bytes} {a1_ : Int} {r : Int} (h : d_laws_szStringS a0_ a1_ = some r) : Good Tryz.prog 181 [D.sl ((a0_).map tx), D.int .i64 (a1_)] (D.int .i64 (r)) := by
  refine gd Tryz.func181 [[none]] 28 fun hr Γ hΓ => ?_
  rw [d_laws_szStringS] at h
  obtain ⟨h1, h⟩ | ⟨h1, h⟩ := den_if h
  · cases h; exact (pre0.b h1).ret hΓ
  · refine ((pre0.b h1).a [.cn [0, 1, 5] []]).lp hΓ (d_laws_szStringS_L1w hΓ (fun z1_1 h => ?_) (by have := (Rdb.sl (hr _ (List.mem_of_getElem? (i := 0) rfl))).1; simpa using this) (a0_) 0 (IntKind.i64.wrap ((a1_) - ((((a0_).map tx).length : Int)))) rfl h)
    have h := den_some h; subst h; exact pre0.ret hΓ
def d_laws_szPattern (a0_ : Fact) (a1_ : Int) : Option Int := (bif decide ((IntKind.i64.wrap ((a1_) - (((a0_.rel).length : Int))) : Int) < (0)) then (some (-1)) else ((d_laws_szStringS (a0_.args) (IntKind.i64.wrap ((a1_) - (((a0_.rel).length : Int))))).bind fun y2 => (bif decide ((y2 : Int) < (0)) then (some (-1)) else (some (y2)))))
theorem d_laws_szPattern_good {a0_ : Fact} {a1_ : Int} {r : Int} (h : d_laws_szPattern a0_ a1_ = some r) : Good Tryz.prog 164 [D.agg (Fact.c a0_), D.int .i64 (a1_)] (D.int .i64 (r)) := by
  refine gd Tryz.func164 [[none]] 19 fun hr Γ hΓ => ?_
  rw [d_laws_szPattern] at h
  obtain ⟨h1, h⟩ | ⟨h1, h⟩ := den_if h
  · cases h; exact (pre0.b h1).ret hΓ
  · obtain ⟨y2, h3, h⟩ := den_bind h
    have o1_ := ((pre0.b h1).g (d_laws_szStringS_good h3))
    obtain ⟨h4, h⟩ | ⟨h4, h⟩ := den_if h
    · cases h; exact (o1_.b h4).ret hΓ
    · have h := den_some h; subst h; exact (o1_.b h4).ret hΓ
def d_laws_szCond (a0_ : Cond) (a1_ : Int) : Option Int := ((d_laws_szPattern (a0_.pat) (a1_)).bind fun y1 => (bif decide ((y1 : Int) < (0)) then (some (-1)) else (bif decide ((IntKind.i64.wrap ((y1) - (((a0_.left).length : Int))) : Int) < (0)) then (some (-1)) else (bif decide ((IntKind.i64.wrap ((IntKind.i64.wrap ((y1) - (((a0_.left).length : Int)))) - (((a0_.right).length : Int))) : Int) < (0)) then (some (-1)) else (some (IntKind.i64.wrap ((IntKind.i64.wrap ((y1) - (((a0_.left).length : Int)))) - (((a0_.right).length : Int)))))))))
theorem d_laws_szCond_good {a0_ : Cond} {a1_ : Int} {r : Int} (h : d_laws_szCond a0_ a1_ = some r) : Good Tryz.prog 126 [D.agg (Cond.c a0_), D.int .i64 (a1_)] (D.int .i64 (r)) := by
  refine gd Tryz.func126 [[none]] 26 fun hr Γ hΓ => ?_
  rw [d_laws_szCond] at h
  obtain ⟨y1, h2, h⟩ := den_bind h
  obtain ⟨h3, h⟩ | ⟨h3, h⟩ := den_if h
  · cases h; exact ((pre0.g (d_laws_szPattern_good h2)).b h3).ret hΓ
  · have o1_ := ((pre0.g (d_laws_szPattern_good h2)).b h3)
    obtain ⟨h4, h⟩ | ⟨h4, h⟩ := den_if h
    · cases h; exact (o1_.b h4).ret hΓ
    · obtain ⟨h5, h⟩ | ⟨h5, h⟩ := den_if h
      · cases h; exact ((o1_.b h4).b h5).ret hΓ
      · cases h; exact ((o1_.b h4).b h5).ret hΓ
def d_laws_szCondS_L1 (a0_ : List Cond) (k1 : Int → Option Int) : List Cond → Nat → Int → Option Int
  | [], i1, v1_1 => (k1 (v1_1))
  | x1_ :: xs1, i1, v1_1 => ((d_laws_szCond (x1_) (v1_1)).bind fun y22 => (bif decide ((y22 : Int) < (0)) then (some (-1)) else (d_laws_szCondS_L1 a0_ k1 xs1 (i1 + 1) (y22))))
def d_laws_szCondS (a0_ : List Cond) (a1_ : Int) : Option Int := (bif decide ((IntKind.i64.wrap ((a1_) - ((((a0_).map Cond.c).length : Int))) : Int) < (0)) then (some (-1)) else (d_laws_szCondS_L1 a0_ (fun (z1_1 : Int) => (some (z1_1))) (a0_) 0 (IntKind.i64.wrap ((a1_) - ((((a0_).map Cond.c).length : Int))))))
def d_laws_szCondS_S1 (a0_ : List Cond) (v1_1 : Int) (ix_ : Int) : St := ⟨[(0, D.sl ((a0_).map Cond.c)), (1, D.int .i64 (v1_1)), (5, D.int .i64 (ix_))], []⟩
theorem d_laws_szCondS_L1w (hΓ : Γ.nt = 27) {a0_ : List Cond} {r : Int} {k1 : Int → Option Int} (hE1 : ∀ (z1_1 : Int), k1 z1_1 = some r → Ax Γ N Tryz.f76 (.q [[none]] (D.int .i64 (r))) [1, 1, 1, 1] ⟨[(1, D.int .i64 (z1_1))], []⟩) (hm1 : (a0_).length ≤ maxLen) : ∀ (rest : List Cond) (i1 : Nat) (v1_1 : Int), (a0_).drop i1 = rest → d_laws_szCondS_L1 a0_ k1 rest i1 v1_1 = some r → Ar Γ N Tryz.f76 (.q [[none]] (D.int .i64 (r))) [1, 1, 1, 0, 1, 0] (rest.length + 1) (d_laws_szCondS_S1 a0_ v1_1 ((i1 : Int))) := by
  intro rest
  induction rest with
  | nil =>
    intro i1 v1_1 hd1 h
    rw [d_laws_szCondS_L1] at h
    refine AWr_succ fun N1 hN1 hS1 => ?_
    exact ((pre0.ge Cond.c hd1).a [.hl 0 [1] []]).ex hΓ hN1 (hE1 (v1_1) h)
  | cons x1_ xs1 ih1 =>
    intro i1 v1_1 hd1 h
    rw [d_laws_szCondS_L1] at h
    refine AWr_succ fun N1 hN1 hS1 => ?_
    obtain ⟨y22, h23, h⟩ := den_bind h
    have o2_ := (((pre0.lt Cond.c hd1).l (map_row Cond.c 5 (dc hd1) rfl)).g (d_laws_szCond_good h23))
    obtain ⟨h24, h⟩ | ⟨h24, h⟩ := den_if h
    · cases h; exact (o2_.b h24).ret hΓ
    · exact ((o2_.b h24).a [.cn [0, 1, 5] []]).ct hΓ hS1 (iS hd1 hm1) (ih1 (i1 + 1) (y22) (dn hd1) h)
theorem d_laws_szCondS_good {a0_ : List Cond} {a1_ : Int} {r : Int} (h : d_laws_szCondS a0_ a1_ = some r) : Good Tryz.prog 76 [D.sl ((a0_).map Cond.c), D.int .i64 (a1_)] (D.int .i64 (r)) := by
  refine gd Tryz.func76 [[none]] 27 fun hr Γ hΓ => ?_
  rw [d_laws_szCondS] at h
  obtain ⟨h1, h⟩ | ⟨h1, h⟩ := den_if h
  · cases h; exact (pre0.b h1).ret hΓ
  · refine ((pre0.b h1).a [.cn [0, 1, 5] []]).lp hΓ (d_laws_szCondS_L1w hΓ (fun z1_1 h => ?_) (by have := (Rdb.sl (hr _ (List.mem_of_getElem? (i := 0) rfl))).1; simpa using this) (a0_) 0 (IntKind.i64.wrap ((a1_) - ((((a0_).map Cond.c).length : Int)))) rfl h)
    have h := den_some h; subst h; exact pre0.ret hΓ
def d_laws_szAction (a0_ : Action) (a1_ : Int) : Option Int := ((d_laws_szPattern (a0_.pat) (a1_)).bind fun y1 => (bif decide ((y1 : Int) < (0)) then (some (-1)) else (some (y1))))
theorem d_laws_szAction_good {a0_ : Action} {a1_ : Int} {r : Int} (h : d_laws_szAction a0_ a1_ = some r) : Good Tryz.prog 127 [D.agg (Action.c a0_), D.int .i64 (a1_)] (D.int .i64 (r)) := by
  refine gd Tryz.func127 [[none]] 12 fun hr Γ hΓ => ?_
  rw [d_laws_szAction] at h
  obtain ⟨y1, h2, h⟩ := den_bind h
  obtain ⟨h3, h⟩ | ⟨h3, h⟩ := den_if h
  · cases h; exact ((pre0.g (d_laws_szPattern_good h2)).b h3).ret hΓ
  · have h := den_some h; subst h; exact ((pre0.g (d_laws_szPattern_good h2)).b h3).ret hΓ
def d_laws_szActionS_L1 (a0_ : List Action) (k1 : Int → Option Int) : List Action → Nat → Int → Option Int
  | [], i1, v1_1 => (k1 (v1_1))
  | x1_ :: xs1, i1, v1_1 => ((d_laws_szAction (x1_) (v1_1)).bind fun y22 => (bif decide ((y22 : Int) < (0)) then (some (-1)) else (d_laws_szActionS_L1 a0_ k1 xs1 (i1 + 1) (y22))))
def d_laws_szActionS (a0_ : List Action) (a1_ : Int) : Option Int := (bif decide ((IntKind.i64.wrap ((a1_) - ((((a0_).map Action.c).length : Int))) : Int) < (0)) then (some (-1)) else (d_laws_szActionS_L1 a0_ (fun (z1_1 : Int) => (some (z1_1))) (a0_) 0 (IntKind.i64.wrap ((a1_) - ((((a0_).map Action.c).length : Int))))))
def d_laws_szActionS_S1 (a0_ : List Action) (v1_1 : Int) (ix_ : Int) : St := ⟨[(0, D.sl ((a0_).map Action.c)), (1, D.int .i64 (v1_1)), (5, D.int .i64 (ix_))], []⟩
theorem d_laws_szActionS_L1w (hΓ : Γ.nt = 27) {a0_ : List Action} {r : Int} {k1 : Int → Option Int} (hE1 : ∀ (z1_1 : Int), k1 z1_1 = some r → Ax Γ N Tryz.f77 (.q [[none]] (D.int .i64 (r))) [1, 1, 1, 1] ⟨[(1, D.int .i64 (z1_1))], []⟩) (hm1 : (a0_).length ≤ maxLen) : ∀ (rest : List Action) (i1 : Nat) (v1_1 : Int), (a0_).drop i1 = rest → d_laws_szActionS_L1 a0_ k1 rest i1 v1_1 = some r → Ar Γ N Tryz.f77 (.q [[none]] (D.int .i64 (r))) [1, 1, 1, 0, 1, 0] (rest.length + 1) (d_laws_szActionS_S1 a0_ v1_1 ((i1 : Int))) := by
  intro rest
  induction rest with
  | nil =>
    intro i1 v1_1 hd1 h
    rw [d_laws_szActionS_L1] at h
    refine AWr_succ fun N1 hN1 hS1 => ?_
    exact ((pre0.ge Action.c hd1).a [.hl 0 [1] []]).ex hΓ hN1 (hE1 (v1_1) h)
  | cons x1_ xs1 ih1 =>
    intro i1 v1_1 hd1 h
    rw [d_laws_szActionS_L1] at h
    refine AWr_succ fun N1 hN1 hS1 => ?_
    obtain ⟨y22, h23, h⟩ := den_bind h
    have o2_ := (((pre0.lt Action.c hd1).l (map_row Action.c 3 (dc hd1) rfl)).g (d_laws_szAction_good h23))
    obtain ⟨h24, h⟩ | ⟨h24, h⟩ := den_if h
    · cases h; exact (o2_.b h24).ret hΓ
    · exact ((o2_.b h24).a [.cn [0, 1, 5] []]).ct hΓ hS1 (iS hd1 hm1) (ih1 (i1 + 1) (y22) (dn hd1) h)
theorem d_laws_szActionS_good {a0_ : List Action} {a1_ : Int} {r : Int} (h : d_laws_szActionS a0_ a1_ = some r) : Good Tryz.prog 77 [D.sl ((a0_).map Action.c), D.int .i64 (a1_)] (D.int .i64 (r)) := by
  refine gd Tryz.func77 [[none]] 27 fun hr Γ hΓ => ?_
  rw [d_laws_szActionS] at h
  obtain ⟨h1, h⟩ | ⟨h1, h⟩ := den_if h
  · cases h; exact (pre0.b h1).ret hΓ
  · refine ((pre0.b h1).a [.cn [0, 1, 5] []]).lp hΓ (d_laws_szActionS_L1w hΓ (fun z1_1 h => ?_) (by have := (Rdb.sl (hr _ (List.mem_of_getElem? (i := 0) rfl))).1; simpa using this) (a0_) 0 (IntKind.i64.wrap ((a1_) - ((((a0_).map Action.c).length : Int)))) rfl h)
    have h := den_some h; subst h; exact pre0.ret hΓ
def d_laws_szRule (a0_ : Rule) (a1_ : Int) : Option Int := (bif decide ((IntKind.i64.wrap ((a1_) - (((a0_.name).length : Int))) : Int) < (0)) then (some (-1)) else ((d_laws_szCondS (a0_.conds) (IntKind.i64.wrap ((a1_) - (((a0_.name).length : Int))))).bind fun y2 => (bif decide ((y2 : Int) < (0)) then (some (-1)) else ((d_laws_szActionS (a0_.acts) (y2)).bind fun y5 => (bif decide ((y5 : Int) < (0)) then (some (-1)) else (some (y5)))))))
theorem d_laws_szRule_good {a0_ : Rule} {a1_ : Int} {r : Int} (h : d_laws_szRule a0_ a1_ = some r) : Good Tryz.prog 29 [D.agg (Rule.c a0_), D.int .i64 (a1_)] (D.int .i64 (r)) := by
  refine gd Tryz.func29 [[none]] 25 fun hr Γ hΓ => ?_
  rw [d_laws_szRule] at h
  obtain ⟨h1, h⟩ | ⟨h1, h⟩ := den_if h
  · cases h; exact (pre0.b h1).ret hΓ
  · obtain ⟨y2, h3, h⟩ := den_bind h
    have o1_ := ((pre0.b h1).g (d_laws_szCondS_good h3))
    obtain ⟨h4, h⟩ | ⟨h4, h⟩ := den_if h
    · cases h; exact (o1_.b h4).ret hΓ
    · obtain ⟨y5, h6, h⟩ := den_bind h
      have o2_ := ((o1_.b h4).g (d_laws_szActionS_good h6))
      obtain ⟨h7, h⟩ | ⟨h7, h⟩ := den_if h
      · cases h; exact (o2_.b h7).ret hΓ
      · have h := den_some h; subst h; exact (o2_.b h7).ret hΓ
def d_laws_szRuleS_L1 (a0_ : List Rule) (k1 : Int → Option Int) : List Rule → Nat → Int → Option Int
  | [], i1, v1_1 => (k1 (v1_1))
  | x1_ :: xs1, i1, v1_1 => ((d_laws_szRule (x1_) (v1_1)).bind fun y22 => (bif decide ((y22 : Int) < (0)) then (some (-1)) else (d_laws_szRuleS_L1 a0_ k1 xs1 (i1 + 1) (y22))))
def d_laws_szRuleS (a0_ : List Rule) (a1_ : Int) : Option Int := (bif decide ((IntKind.i64.wrap ((a1_) - ((((a0_).map Rule.c).length : Int))) : Int) < (0)) then (some (-1)) else (d_laws_szRuleS_L1 a0_ (fun (z1_1 : Int) => (some (z1_1))) (a0_) 0 (IntKind.i64.wrap ((a1_) - ((((a0_).map Rule.c).length : Int))))))
def d_laws_szRuleS_S1 (a0_ : List Rule) (v1_1 : Int) (ix_ : Int) : St := ⟨[(0, D.sl ((a0_).map Rule.c)), (1, D.int .i64 (v1_1)), (5, D.int .i64 (ix_))], []⟩
theorem d_laws_szRuleS_L1w (hΓ : Γ.nt = 27) {a0_ : List Rule} {r : Int} {k1 : Int → Option Int} (hE1 : ∀ (z1_1 : Int), k1 z1_1 = some r → Ax Γ N Tryz.f11 (.q [[none]] (D.int .i64 (r))) [1, 1, 1, 1] ⟨[(1, D.int .i64 (z1_1))], []⟩) (hm1 : (a0_).length ≤ maxLen) : ∀ (rest : List Rule) (i1 : Nat) (v1_1 : Int), (a0_).drop i1 = rest → d_laws_szRuleS_L1 a0_ k1 rest i1 v1_1 = some r → Ar Γ N Tryz.f11 (.q [[none]] (D.int .i64 (r))) [1, 1, 1, 0, 1, 0] (rest.length + 1) (d_laws_szRuleS_S1 a0_ v1_1 ((i1 : Int))) := by
  intro rest
  induction rest with
  | nil =>
    intro i1 v1_1 hd1 h
    rw [d_laws_szRuleS_L1] at h
    refine AWr_succ fun N1 hN1 hS1 => ?_
    exact ((pre0.ge Rule.c hd1).a [.hl 0 [1] []]).ex hΓ hN1 (hE1 (v1_1) h)
  | cons x1_ xs1 ih1 =>
    intro i1 v1_1 hd1 h
    rw [d_laws_szRuleS_L1] at h
    refine AWr_succ fun N1 hN1 hS1 => ?_
    obtain ⟨y22, h23, h⟩ := den_bind h
    have o2_ := (((pre0.lt Rule.c hd1).l (map_row Rule.c 4 (dc hd1) rfl)).g (d_laws_szRule_good h23))
    obtain ⟨h24, h⟩ | ⟨h24, h⟩ := den_if h
    · cases h; exact (o2_.b h24).ret hΓ
    · exact ((o2_.b h24).a [.cn [0, 1, 5] []]).ct hΓ hS1 (iS hd1 hm1) (ih1 (i1 + 1) (y22) (dn hd1) h)
theorem d_laws_szRuleS_good {a0_ : List Rule} {a1_ : Int} {r : Int} (h : d_laws_szRuleS a0_ a1_ = some r) : Good Tryz.prog 11 [D.sl ((a0_).map Rule.c), D.int .i64 (a1_)] (D.int .i64 (r)) := by
  refine gd Tryz.func11 [[none]] 27 fun hr Γ hΓ => ?_
  rw [d_laws_szRuleS] at h
  obtain ⟨h1, h⟩ | ⟨h1, h⟩ := den_if h
  · cases h; exact (pre0.b h1).ret hΓ
  · refine ((pre0.b h1).a [.cn [0, 1, 5] []]).lp hΓ (d_laws_szRuleS_L1w hΓ (fun z1_1 h => ?_) (by have := (Rdb.sl (hr _ (List.mem_of_getElem? (i := 0) rfl))).1; simpa using this) (a0_) 0 (IntKind.i64.wrap ((a1_) - ((((a0_).map Rule.c).length : Int)))) rfl h)
    have h := den_some h; subst h; exact pre0.ret hΓ
end Go.Cx
