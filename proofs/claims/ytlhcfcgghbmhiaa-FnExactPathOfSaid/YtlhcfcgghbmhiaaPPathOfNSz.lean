/- What functions of the program compute, and the walks that show it. No condition. -/
import Derived.Test.YtlhcfcgghbmhiaaNData
namespace Go.Cx
open Go.RowKit Go.Proofs
set_option linter.unusedVariables false
set_option linter.unusedSimpArgs false
set_option maxRecDepth 100000
variable {Γ : Ctx} {N : Nat → St → Prop}
def d_laws_szStringS_L1 (a0_ : List Bytes) (k1 : Int → Option Int) : List Bytes → Nat → Int → Option Int
  | [], i1, v1_1 => (k1 (v1_1))
  | x1_ :: xs1, i1, v1_1 => (bif decide ((IntKind.i64.wrap ((v1_1) - (((x1_).length : Int))) : Int) < (0)) then (some (-1)) else (d_laws_szStringS_L1 a0_ k1 xs1 (i1 + 1) (IntKind.i64.wrap ((v1_1) - (((x1_).length : Int))))))
def d_laws_szStringS (a0_ : List Bytes) (a1_ : Int) : Option Int := (bif decide ((IntKind.i64.wrap ((a1_) - ((((a0_).map tx).length : Int))) : Int) < (0)) then (some (-1)) else (d_laws_szStringS_L1 a0_ (fun (z1_1 : Int) => (some (z1_1))) (a0_) 0 (IntKind.i64.wrap ((a1_) - ((((a0_).map tx).length : Int))))))
def d_laws_szStringS_S1 (a0_ : List Bytes) (v1_1 : Int) (ix_ : Int) : St := ⟨[(0, D.sl ((a0_).map tx)), (1, D.int .i64 (v1_1)), (5, D.int .i64 (ix_))], []⟩
theorem d_laws_szStringS_L1w (hΓ : Γ.nt = 28) {a0_ : List Bytes} {r : Int} {k1 : Int → Option Int} (hE1 : ∀ (z1_1 : Int), k1 z1_1 = some r → Ax Γ N Try.f90 (.q [[none]] (D.int .i64 (r))) [1, 1, 1, 1] ⟨[(1, D.int .i64 (z1_1))], []⟩) (hm1 : (a0_).length ≤ maxLen) : ∀ (rest : List Bytes) (i1 : Nat) (v1_1 : Int), (a0_).drop i1 = rest → d_laws_szStringS_L1 a0_ k1 rest i1 v1_1 = some r → Ar Γ N Try.f90 (.q [[none]] (D.int .i64 (r))) [1, 1, 1, 0, 1, 0] (rest.length + 1) (d_laws_szStringS_S1 a0_ v1_1 ((i1 : Int))) := by
  intro rest
  induction rest with
  | nil =>
    intro i1 v1_1 hd1 h
    rw [d_laws_szStringS_L1] at h
    refine AWr_succ fun N1 hN1 hS1 => ?_
    exact ((pre0.ge tx hd1).a [.hl 0 [1] []]).ex hΓ hN1 (hE1 (v1_1) h)
  | cons x1_ xs1 ih1 =>
    intro i1 v1_1 hd1 h
    rw [d_laws_szStringS_L1] at h
    refine AWr_succ fun N1 hN1 hS1 => ?_
    have o2_ := ((pre0.lt tx hd1).l (map_row tx 1 (dc hd1) rfl))
    obtain ⟨h14, h⟩ | ⟨h14, h⟩ := den_if h
    · cases h; exact (o2_.b h14).ret hΓ
    · exact ((o2_.b h14).a [.cn [0, 1, 5] []]).ct hΓ hS1 (iS hd1 hm1) (ih1 (i1 + 1) (IntKind.i64.wrap ((v1_1) - (((x1_).length : Int)))) (dn hd1) h)
theorem d_laws_szStringS_good {a0_ : List Bytes} {a1_ : Int} {r : Int} (h : d_laws_szStringS a0_ a1_ = some r) : Good Try.prog 90 [D.sl ((a0_).map tx), D.int .i64 (a1_)] (D.int .i64 (r)) := by
  refine gd Try.func90 [[none]] 28 fun hr Γ hΓ => ?_
  rw [d_laws_szStringS] at h
  obtain ⟨h1, h⟩ | ⟨h1, h⟩ := den_if h
  · cases h; exact (pre0.b h1).ret hΓ
  · refine ((pre0.b h1).a [.cn [0, 1, 5] []]).lp hΓ (d_laws_szStringS_L1w hΓ (fun z1_1 h => ?_) (by have := (Rdb.sl (hr _ (List.mem_of_getElem? (i := 0) rfl))).1; simpa using this) (a0_) 0 (IntKind.i64.wrap ((a1_) - ((((a0_).map tx).length : Int)))) rfl h)
    have h := den_some h; subst h; exact pre0.ret hΓ
def d_laws_szPattern (a0_ : Fact) (a1_ : Int) : Option Int := (bif decide ((IntKind.i64.wrap ((a1_) - (((a0_.rel).length : Int))) : Int) < (0)) then (some (-1)) else ((d_laws_szStringS (a0_.args) (IntKind.i64.wrap ((a1_) - (((a0_.rel).length : Int))))).bind fun y2 => (bif decide ((y2 : Int) < (0)) then (some (-1)) else (some (y2)))))
theorem d_laws_szPattern_good {a0_ : Fact} {a1_ : Int} {r : Int} (h : d_laws_szPattern a0_ a1_ = some r) : Good Try.prog 87 [D.agg (Fact.c a0_), D.int .i64 (a1_)] (D.int .i64 (r)) := by
  refine gd Try.func87 [[none]] 19 fun hr Γ hΓ => ?_
  rw [d_laws_szPattern] at h
  obtain ⟨h1, h⟩ | ⟨h1, h⟩ := den_if h
  · cases h; exact (pre0.b h1).ret hΓ
  · obtain ⟨y2, h3, h⟩ := den_bind h
    have o1_ := ((pre0.b h1).g (d_laws_szStringS_good h3))
    obtain ⟨h4, h⟩ | ⟨h4, h⟩ := den_if h
    · cases h; exact (o1_.b h4).ret hΓ
    · have h := den_some h; subst h; exact (o1_.b h4).ret hΓ
def d_laws_szCond (a0_ : Cond) (a1_ : Int) : Option Int := ((d_laws_szPattern (a0_.pat) (a1_)).bind fun y1 => (bif decide ((y1 : Int) < (0)) then (some (-1)) else (bif decide ((IntKind.i64.wrap ((y1) - (((a0_.left).length : Int))) : Int) < (0)) then (some (-1)) else (bif decide ((IntKind.i64.wrap ((IntKind.i64.wrap ((y1) - (((a0_.left).length : Int)))) - (((a0_.right).length : Int))) : Int) < (0)) then (some (-1)) else (some (IntKind.i64.wrap ((IntKind.i64.wrap ((y1) - (((a0_.left).length : Int)))) - (((a0_.right).length : Int)))))))))
theorem d_laws_szCond_good {a0_ : Cond} {a1_ : Int} {r : Int} (h : d_laws_szCond a0_ a1_ = some r) : Good Try.prog 88 [D.agg (Cond.c a0_), D.int .i64 (a1_)] (D.int .i64 (r)) := by
  refine gd Try.func88 [[none]] 26 fun hr Γ hΓ => ?_
  rw [d_laws_szCond] at h
  obtain ⟨y1, h2, h⟩ := den_bind h
  obtain ⟨h3, h⟩ | ⟨h3, h⟩ := den_if h
  · cases h; exact ((pre0.g (d_laws_szPattern_good h2)).b h3).ret hΓ
  · have o1_ := ((pre0.g (d_laws_szPattern_good h2)).b h3)
    obtain ⟨h4, h⟩ | ⟨h4, h⟩ := den_if h
    · cases h; exact (o1_.b h4).ret hΓ
    · obtain ⟨h5, h⟩ | ⟨h5, h⟩ := den_if h
      · cases h; exact ((o1_.b h4).b h5).ret hΓ
      · cases h; exact ((o1_.b h4).b h5).ret hΓ
def d_laws_szCondS_L1 (a0_ : List Cond) (k1 : Int → Option Int) : List Cond → Nat → Int → Option Int
  | [], i1, v1_1 => (k1 (v1_1))
  | x1_ :: xs1, i1, v1_1 => ((d_laws_szCond (x1_) (v1_1)).bind fun y22 => (bif decide ((y22 : Int) < (0)) then (some (-1)) else (d_laws_szCondS_L1 a0_ k1 xs1 (i1 + 1) (y22))))
def d_laws_szCondS (a0_ : List Cond) (a1_ : Int) : Option Int := (bif decide ((IntKind.i64.wrap ((a1_) - ((((a0_).map Cond.c).length : Int))) : Int) < (0)) then (some (-1)) else (d_laws_szCondS_L1 a0_ (fun (z1_1 : Int) => (some (z1_1))) (a0_) 0 (IntKind.i64.wrap ((a1_) - ((((a0_).map Cond.c).length : Int))))))
def d_laws_szCondS_S1 (a0_ : List Cond) (v1_1 : Int) (ix_ : Int) : St := ⟨[(0, D.sl ((a0_).map Cond.c)), (1, D.int .i64 (v1_1)), (5, D.int .i64 (ix_))], []⟩
theorem d_laws_szCondS_L1w (hΓ : Γ.nt = 27) {a0_ : List Cond} {r : Int} {k1 : Int → Option Int} (hE1 : ∀ (z1_1 : Int), k1 z1_1 = some r → Ax Γ N Try.f85 (.q [[none]] (D.int .i64 (r))) [1, 1, 1, 1] ⟨[(1, D.int .i64 (z1_1))], []⟩) (hm1 : (a0_).length ≤ maxLen) : ∀ (rest : List Cond) (i1 : Nat) (v1_1 : Int), (a0_).drop i1 = rest → d_laws_szCondS_L1 a0_ k1 rest i1 v1_1 = some r → Ar Γ N Try.f85 (.q [[none]] (D.int .i64 (r))) [1, 1, 1, 0, 1, 0] (rest.length + 1) (d_laws_szCondS_S1 a0_ v1_1 ((i1 : Int))) := by
  intro rest
  induction rest with
  | nil =>
    intro i1 v1_1 hd1 h
    rw [d_laws_szCondS_L1] at h
    refine AWr_succ fun N1 hN1 hS1 => ?_
    exact ((pre0.ge Cond.c hd1).a [.hl 0 [1] []]).ex hΓ hN1 (hE1 (v1_1) h)
  | cons x1_ xs1 ih1 =>
    intro i1 v1_1 hd1 h
    rw [d_laws_szCondS_L1] at h
    refine AWr_succ fun N1 hN1 hS1 => ?_
    obtain ⟨y22, h23, h⟩ := den_bind h
    have o2_ := (((pre0.lt Cond.c hd1).l (map_row Cond.c 5 (dc hd1) rfl)).g (d_laws_szCond_good h23))
    obtain ⟨h24, h⟩ | ⟨h24, h⟩ := den_if h
    · cases h; exact (o2_.b h24).ret hΓ
    · exact ((o2_.b h24).a [.cn [0, 1, 5] []]).ct hΓ hS1 (iS hd1 hm1) (ih1 (i1 + 1) (y22) (dn hd1) h)
theorem d_laws_szCondS_good {a0_ : List Cond} {a1_ : Int} {r : Int} (h : d_laws_szCondS a0_ a1_ = some r) : Good Try.prog 85 [D.sl ((a0_).map Cond.c), D.int .i64 (a1_)] (D.int .i64 (r)) := by
  refine gd Try.func85 [[none]] 27 fun hr Γ hΓ => ?_
  rw [d_laws_szCondS] at h
  obtain ⟨h1, h⟩ | ⟨h1, h⟩ := den_if h
  · cases h; exact (pre0.b h1).ret hΓ
  · refine ((pre0.b h1).a [.cn [0, 1, 5] []]).lp hΓ (d_laws_szCondS_L1w hΓ (fun z1_1 h => ?_) (by have := (Rdb.sl (hr _ (List.mem_of_getElem? (i := 0) rfl))).1; simpa using this) (a0_) 0 (IntKind.i64.wrap ((a1_) - ((((a0_).map Cond.c).length : Int)))) rfl h)
    have h := den_some h; subst h; exact pre0.ret hΓ
def d_laws_szAction (a0_ : Action) (a1_ : Int) : Option Int := ((d_laws_szPattern (a0_.pat) (a1_)).bind fun y1 => (bif decide ((y1 : Int) < (0)) then (some (-1)) else (some (y1))))
theorem d_laws_szAction_good {a0_ : Action} {a1_ : Int} {r : Int} (h : d_laws_szAction a0_ a1_ = some r) : Good Try.prog 108 [D.agg (Action.c a0_), D.int .i64 (a1_)] (D.int .i64 (r)) := by
  refine gd Try.func108 [[none]] 12 fun hr Γ hΓ => ?_
  rw [d_laws_szAction] at h
  obtain ⟨y1, h2, h⟩ := den_bind h
  obtain ⟨h3, h⟩ | ⟨h3, h⟩ := den_if h
  · cases h; exact ((pre0.g (d_laws_szPattern_good h2)).b h3).ret hΓ
  · have h := den_some h; subst h; exact ((pre0.g (d_laws_szPattern_good h2)).b h3).ret hΓ
def d_laws_szActionS_L1 (a0_ : List Action) (k1 : Int → Option Int) : List Action → Nat → Int → Option Int
  | [], i1, v1_1 => (k1 (v1_1))
  | x1_ :: xs1, i1, v1_1 => ((d_laws_szAction (x1_) (v1_1)).bind fun y22 => (bif decide ((y22 : Int) < (0)) then (some (-1)) else (d_laws_szActionS_L1 a0_ k1 xs1 (i1 + 1) (y22))))
def d_laws_szActionS (a0_ : List Action) (a1_ : Int) : Option Int := (bif decide ((IntKind.i64.wrap ((a1_) - ((((a0_).map Action.c).length : Int))) : Int) < (0)) then (some (-1)) else (d_laws_szActionS_L1 a0_ (fun (z1_1 : Int) => (some (z1_1))) (a0_) 0 (IntKind.i64.wrap ((a1_) - ((((a0_).map Action.c).length : Int))))))
def d_laws_szActionS_S1 (a0_ : List Action) (v1_1 : Int) (ix_ : Int) : St := ⟨[(0, D.sl ((a0_).map Action.c)), (1, D.int .i64 (v1_1)), (5, D.int .i64 (ix_))], []⟩
theorem d_laws_szActionS_L1w (hΓ : Γ.nt = 27) {a0_ : List Action} {r : Int} {k1 : Int → Option Int} (hE1 : ∀ (z1_1 : Int), k1 z1_1 = some r → Ax Γ N Try.f86 (.q [[none]] (D.int .i64 (r))) [1, 1, 1, 1] ⟨[(1, D.int .i64 (z1_1))], []⟩) (hm1 : (a0_).length ≤ maxLen) : ∀ (rest : List Action) (i1 : Nat) (v1_1 : Int), (a0_).drop i1 = rest → d_laws_szActionS_L1 a0_ k1 rest i1 v1_1 = some r → Ar Γ N Try.f86 (.q [[none]] (D.int .i64 (r))) [1, 1, 1, 0, 1, 0] (rest.length + 1) (d_laws_szActionS_S1 a0_ v1_1 ((i1 : Int))) := by
  intro rest
  induction rest with
  | nil =>
    intro i1 v1_1 hd1 h
    rw [d_laws_szActionS_L1] at h
    refine AWr_succ fun N1 hN1 hS1 => ?_
    exact ((pre0.ge Action.c hd1).a [.hl 0 [1] []]).ex hΓ hN1 (hE1 (v1_1) h)
  | cons x1_ xs1 ih1 =>
    intro i1 v1_1 hd1 h
    rw [d_laws_szActionS_L1] at h
    refine AWr_succ fun N1 hN1 hS1 => ?_
    obtain ⟨y22, h23, h⟩ := den_bind h
    have o2_ := (((pre0.lt Action.c hd1).l (map_row Action.c 3 (dc hd1) rfl)).g (d_laws_szAction_good h23))
    obtain ⟨h24, h⟩ | ⟨h24, h⟩ := den_if h
    · cases h; exact (o2_.b h24).ret hΓ
    · exact ((o2_.b h24).a [.cn [0, 1, 5] []]).ct hΓ hS1 (iS hd1 hm1) (ih1 (i1 + 1) (y22) (dn hd1) h)
theorem d_laws_szActionS_good {a0_ : List Action} {a1_ : Int} {r : Int} (h : d_laws_szActionS a0_ a1_ = some r) : Good Try.prog 86 [D.sl ((a0_).map Action.c), D.int .i64 (a1_)] (D.int .i64 (r)) := by
  refine gd Try.func86 [[none]] 27 fun hr Γ hΓ => ?_
  rw [d_laws_szActionS] at h
  obtain ⟨h1, h⟩ | ⟨h1, h⟩ := den_if h
  · cases h; exact (pre0.b h1).ret hΓ
  · refine ((pre0.b h1).a [.cn [0, 1, 5] []]).lp hΓ (d_laws_szActionS_L1w hΓ (fun z1_1 h => ?_) (by have := (Rdb.sl (hr _ (List.mem_of_getElem? (i := 0) rfl))).1; simpa using this) (a0_) 0 (IntKind.i64.wrap ((a1_) - ((((a0_).map Action.c).length : Int)))) rfl h)
    have h := den_some h; subst h; exact pre0.ret hΓ
def d_laws_szRule (a0_ : Rule) (a1_ : Int) : Option Int := (bif decide ((IntKind.i64.wrap ((a1_) - (((a0_.name).length : Int))) : Int) < (0)) then (some (-1)) else ((d_laws_szCondS (a0_.conds) (IntKind.i64.wrap ((a1_) - (((a0_.name).length : Int))))).bind fun y2 => (bif decide ((y2 : Int) < (0)) then (some (-1)) else ((d_laws_szActionS (a0_.acts) (y2)).bind fun y5 => (bif decide ((y5 : Int) < (0)) then (some (-1)) else (some (y5)))))))
theorem d_laws_szRule_good {a0_ : Rule} {a1_ : Int} {r : Int} (h : d_laws_szRule a0_ a1_ = some r) : Good Try.prog 58 [D.agg (Rule.c a0_), D.int .i64 (a1_)] (D.int .i64 (r)) := by
  refine gd Try.func58 [[none]] 25 fun hr Γ hΓ => ?_
  rw [d_laws_szRule] at h
  obtain ⟨h1, h⟩ | ⟨h1, h⟩ := den_if h
  · cases h; exact (pre0.b h1).ret hΓ
  · obtain ⟨y2, h3, h⟩ := den_bind h
    have o1_ := ((pre0.b h1).g (d_laws_szCondS_good h3))
    obtain ⟨h4, h⟩ | ⟨h4, h⟩ := den_if h
    · cases h; exact (o1_.b h4).ret hΓ
    · obtain ⟨y5, h6, h⟩ := den_bind h
      have o2_ := ((o1_.b h4).g (d_laws_szActionS_good h6))
      obtain ⟨h7, h⟩ | ⟨h7, h⟩ := den_if h
      · cases h; exact (o2_.b h7).ret hΓ
      · have h := den_some h; subst h; exact (o2_.b h7).ret hΓ
def d_laws_szRuleS_L1 (a0_ : List Rule) (k1 : Int → Option Int) : List Rule → Nat → Int → Option Int
  | [], i1, v1_1 => (k1 (v1_1))
  | x1_ :: xs1, i1, v1_1 => ((d_laws_szRule (x1_) (v1_1)).bind fun y22 => (bif decide ((y22 : Int) < (0)) then (some (-1)) else (d_laws_szRuleS_L1 a0_ k1 xs1 (i1 + 1) (y22))))
def d_laws_szRuleS (a0_ : List Rule) (a1_ : Int) : Option Int := (bif decide ((IntKind.i64.wrap ((a1_) - ((((a0_).map Rule.c).length : Int))) : Int) < (0)) then (some (-1)) else (d_laws_szRuleS_L1 a0_ (fun (z1_1 : Int) => (some (z1_1))) (a0_) 0 (IntKind.i64.wrap ((a1_) - ((((a0_).map Rule.c).length : Int))))))
def d_laws_szRuleS_S1 (a0_ : List Rule) (v1_1 : Int) (ix_ : Int) : St := ⟨[(0, D.sl ((a0_).map Rule.c)), (1, D.int .i64 (v1_1)), (5, D.int .i64 (ix_))], []⟩
theorem d_laws_szRuleS_L1w (hΓ : Γ.nt = 27) {a0_ : List Rule} {r : Int} {k1 : Int → Option Int} (hE1 : ∀ (z1_1 : Int), k1 z1_1 = some r → Ax Γ N Try.f30 (.q [[none]] (D.int .i64 (r))) [1, 1, 1, 1] ⟨[(1, D.int .i64 (z1_1))], []⟩) (hm1 : (a0_).length ≤ maxLen) : ∀ (rest : List Rule) (i1 : Nat) (v1_1 : Int), (a0_).drop i1 = rest → d_laws_szRuleS_L1 a0_ k1 rest i1 v1_1 = some r → Ar Γ N Try.f30 (.q [[none]] (D.int .i64 (r))) [1, 1, 1, 0, 1, 0] (rest.length + 1) (d_laws_szRuleS_S1 a0_ v1_1 ((i1 : Int))) := by
  intro rest
  induction rest with
  | nil =>
    intro i1 v1_1 hd1 h
    rw [d_laws_szRuleS_L1] at h
    refine AWr_succ fun N1 hN1 hS1 => ?_
    exact ((pre0.ge Rule.c hd1).a [.hl 0 [1] []]).ex hΓ hN1 (hE1 (v1_1) h)
  | cons x1_ xs1 ih1 =>
    intro i1 v1_1 hd1 h
    rw [d_laws_szRuleS_L1] at h
    refine AWr_succ fun N1 hN1 hS1 => ?_
    obtain ⟨y22, h23, h⟩ := den_bind h
    have o2_ := (((pre0.lt Rule.c hd1).l (map_row Rule.c 4 (dc hd1) rfl)).g (d_laws_szRule_good h23))
    obtain ⟨h24, h⟩ | ⟨h24, h⟩ := den_if h
    · cases h; exact (o2_.b h24).ret hΓ
    · exact ((o2_.b h24).a [.cn [0, 1, 5] []]).ct hΓ hS1 (iS hd1 hm1) (ih1 (i1 + 1) (y22) (dn hd1) h)
theorem d_laws_szRuleS_good {a0_ : List Rule} {a1_ : Int} {r : Int} (h : d_laws_szRuleS a0_ a1_ = some r) : Good Try.prog 30 [D.sl ((a0_).map Rule.c), D.int .i64 (a1_)] (D.int .i64 (r)) := by
  refine gd Try.func30 [[none]] 27 fun hr Γ hΓ => ?_
  rw [d_laws_szRuleS] at h
  obtain ⟨h1, h⟩ | ⟨h1, h⟩ := den_if h
  · cases h; exact (pre0.b h1).ret hΓ
  · refine ((pre0.b h1).a [.cn [0, 1, 5] []]).lp hΓ (d_laws_szRuleS_L1w hΓ (fun z1_1 h => ?_) (by have := (Rdb.sl (hr _ (List.mem_of_getElem? (i := 0) rfl))).1; simpa using this) (a0_) 0 (IntKind.i64.wrap ((a1_) - ((((a0_).map Rule.c).length : Int)))) rfl h)
    have h := den_some h; subst h; exact pre0.ret hΓ
def d_laws_szIntS (a0_ : List Int) (a1_ : Int) : Option Int := (bif decide ((IntKind.i64.wrap ((a1_) - ((((a0_).map ixx).length : Int))) : Int) < (0)) then (some (-1)) else (some (IntKind.i64.wrap ((a1_) - ((((a0_).map ixx).length : Int))))))
theorem d_laws_szIntS_good {a0_ : List Int} {a1_ : Int} {r : Int} (h : d_laws_szIntS a0_ a1_ = some r) : Good Try.prog 31 [D.sl ((a0_).map ixx), D.int .i64 (a1_)] (D.int .i64 (r)) := by
  refine gd Try.func31 [[none]] 12 fun hr Γ hΓ => ?_
  rw [d_laws_szIntS] at h
  obtain ⟨h1, h⟩ | ⟨h1, h⟩ := den_if h
  · cases h; exact (pre0.b h1).ret hΓ
  · cases h; exact (pre0.b h1).ret hΓ
def d_laws_szFact (a0_ : Fact) (a1_ : Int) : Option Int := (bif decide ((IntKind.i64.wrap ((a1_) - (((a0_.rel).length : Int))) : Int) < (0)) then (some (-1)) else ((d_laws_szStringS (a0_.args) (IntKind.i64.wrap ((a1_) - (((a0_.rel).length : Int))))).bind fun y2 => (bif decide ((y2 : Int) < (0)) then (some (-1)) else (some (y2)))))
theorem d_laws_szFact_good {a0_ : Fact} {a1_ : Int} {r : Int} (h : d_laws_szFact a0_ a1_ = some r) : Good Try.prog 61 [D.agg (Fact.c a0_), D.int .i64 (a1_)] (D.int .i64 (r)) := by
  refine gd Try.func61 [[none]] 19 fun hr Γ hΓ => ?_
  rw [d_laws_szFact] at h
  obtain ⟨h1, h⟩ | ⟨h1, h⟩ := den_if h
  · cases h; exact (pre0.b h1).ret hΓ
  · obtain ⟨y2, h3, h⟩ := den_bind h
    have o1_ := ((pre0.b h1).g (d_laws_szStringS_good h3))
    obtain ⟨h4, h⟩ | ⟨h4, h⟩ := den_if h
    · cases h; exact (o1_.b h4).ret hΓ
    · have h := den_some h; subst h; exact (o1_.b h4).ret hΓ
def d_laws_szFactS_L1 (a0_ : List Fact) (k1 : Int → Option Int) : List Fact → Nat → Int → Option Int
  | [], i1, v1_1 => (k1 (v1_1))
  | x1_ :: xs1, i1, v1_1 => ((d_laws_szFact (x1_) (v1_1)).bind fun y22 => (bif decide ((y22 : Int) < (0)) then (some (-1)) else (d_laws_szFactS_L1 a0_ k1 xs1 (i1 + 1) (y22))))
def d_laws_szFactS (a0_ : List Fact) (a1_ : Int) : Option Int := (bif decide ((IntKind.i64.wrap ((a1_) - ((((a0_).map Fact.c).length : Int))) : Int) < (0)) then (some (-1)) else (d_laws_szFactS_L1 a0_ (fun (z1_1 : Int) => (some (z1_1))) (a0_) 0 (IntKind.i64.wrap ((a1_) - ((((a0_).map Fact.c).length : Int))))))
def d_laws_szFactS_S1 (a0_ : List Fact) (v1_1 : Int) (ix_ : Int) : St := ⟨[(0, D.sl ((a0_).map Fact.c)), (1, D.int .i64 (v1_1)), (5, D.int .i64 (ix_))], []⟩
theorem d_laws_szFactS_L1w (hΓ : Γ.nt = 27) {a0_ : List Fact} {r : Int} {k1 : Int → Option Int} (hE1 : ∀ (z1_1 : Int), k1 z1_1 = some r → Ax Γ N Try.f34 (.q [[none]] (D.int .i64 (r))) [1, 1, 1, 1] ⟨[(1, D.int .i64 (z1_1))], []⟩) (hm1 : (a0_).length ≤ maxLen) : ∀ (rest : List Fact) (i1 : Nat) (v1_1 : Int), (a0_).drop i1 = rest → d_laws_szFactS_L1 a0_ k1 rest i1 v1_1 = some r → Ar Γ N Try.f34 (.q [[none]] (D.int .i64 (r))) [1, 1, 1, 0, 1, 0] (rest.length + 1) (d_laws_szFactS_S1 a0_ v1_1 ((i1 : Int))) := by
  intro rest
  induction rest with
  | nil =>
    intro i1 v1_1 hd1 h
    rw [d_laws_szFactS_L1] at h
    refine AWr_succ fun N1 hN1 hS1 => ?_
    exact ((pre0.ge Fact.c hd1).a [.hl 0 [1] []]).ex hΓ hN1 (hE1 (v1_1) h)
  | cons x1_ xs1 ih1 =>
    intro i1 v1_1 hd1 h
    rw [d_laws_szFactS_L1] at h
    refine AWr_succ fun N1 hN1 hS1 => ?_
    obtain ⟨y22, h23, h⟩ := den_bind h
    have o2_ := (((pre0.lt Fact.c hd1).l (map_row Fact.c 2 (dc hd1) rfl)).g (d_laws_szFact_good h23))
    obtain ⟨h24, h⟩ | ⟨h24, h⟩ := den_if h
    · cases h; exact (o2_.b h24).ret hΓ
    · exact ((o2_.b h24).a [.cn [0, 1, 5] []]).ct hΓ hS1 (iS hd1 hm1) (ih1 (i1 + 1) (y22) (dn hd1) h)
theorem d_laws_szFactS_good {a0_ : List Fact} {a1_ : Int} {r : Int} (h : d_laws_szFactS a0_ a1_ = some r) : Good Try.prog 34 [D.sl ((a0_).map Fact.c), D.int .i64 (a1_)] (D.int .i64 (r)) := by
  refine gd Try.func34 [[none]] 27 fun hr Γ hΓ => ?_
  rw [d_laws_szFactS] at h
  obtain ⟨h1, h⟩ | ⟨h1, h⟩ := den_if h
  · cases h; exact (pre0.b h1).ret hΓ
  · refine ((pre0.b h1).a [.cn [0, 1, 5] []]).lp hΓ (d_laws_szFactS_L1w hΓ (fun z1_1 h => ?_) (by have := (Rdb.sl (hr _ (List.mem_of_getElem? (i := 0) rfl))).1; simpa using this) (a0_) 0 (IntKind.i64.wrap ((a1_) - ((((a0_).map Fact.c).length : Int)))) rfl h)
    have h := den_some h; subst h; exact pre0.ret hΓ
def d_laws_szAlpha (a0_ : Alpha) (a1_ : Int) : Option Int := ((d_laws_szPattern (a0_.shape) (a1_)).bind fun y1 => (bif decide ((y1 : Int) < (0)) then (some (-1)) else ((d_laws_szFactS (a0_.facts) (y1)).bind fun y4 => (bif decide ((y4 : Int) < (0)) then (some (-1)) else (some (y4))))))
theorem d_laws_szAlpha_good {a0_ : Alpha} {a1_ : Int} {r : Int} (h : d_laws_szAlpha a0_ a1_ = some r) : Good Try.prog 59 [D.agg (Alpha.c a0_), D.int .i64 (a1_)] (D.int .i64 (r)) := by
  refine gd Try.func59 [[none]] 18 fun hr Γ hΓ => ?_
  rw [d_laws_szAlpha] at h
  obtain ⟨y1, h2, h⟩ := den_bind h
  obtain ⟨h3, h⟩ | ⟨h3, h⟩ := den_if h
  · cases h; exact ((pre0.g (d_laws_szPattern_good h2)).b h3).ret hΓ
  · obtain ⟨y4, h5, h⟩ := den_bind h
    have o1_ := (((pre0.g (d_laws_szPattern_good h2)).b h3).g (d_laws_szFactS_good h5))
    obtain ⟨h6, h⟩ | ⟨h6, h⟩ := den_if h
    · cases h; exact (o1_.b h6).ret hΓ
    · have h := den_some h; subst h; exact (o1_.b h6).ret hΓ
def d_laws_szAlphaS_L1 (a0_ : List Alpha) (k1 : Int → Option Int) : List Alpha → Nat → Int → Option Int
  | [], i1, v1_1 => (k1 (v1_1))
  | x1_ :: xs1, i1, v1_1 => ((d_laws_szAlpha (x1_) (v1_1)).bind fun y22 => (bif decide ((y22 : Int) < (0)) then (some (-1)) else (d_laws_szAlphaS_L1 a0_ k1 xs1 (i1 + 1) (y22))))
def d_laws_szAlphaS (a0_ : List Alpha) (a1_ : Int) : Option Int := (bif decide ((IntKind.i64.wrap ((a1_) - ((((a0_).map Alpha.c).length : Int))) : Int) < (0)) then (some (-1)) else (d_laws_szAlphaS_L1 a0_ (fun (z1_1 : Int) => (some (z1_1))) (a0_) 0 (IntKind.i64.wrap ((a1_) - ((((a0_).map Alpha.c).length : Int))))))
def d_laws_szAlphaS_S1 (a0_ : List Alpha) (v1_1 : Int) (ix_ : Int) : St := ⟨[(0, D.sl ((a0_).map Alpha.c)), (1, D.int .i64 (v1_1)), (5, D.int .i64 (ix_))], []⟩
theorem d_laws_szAlphaS_L1w (hΓ : Γ.nt = 27) {a0_ : List Alpha} {r : Int} {k1 : Int → Option Int} (hE1 : ∀ (z1_1 : Int), k1 z1_1 = some r → Ax Γ N Try.f32 (.q [[none]] (D.int .i64 (r))) [1, 1, 1, 1] ⟨[(1, D.int .i64 (z1_1))], []⟩) (hm1 : (a0_).length ≤ maxLen) : ∀ (rest : List Alpha) (i1 : Nat) (v1_1 : Int), (a0_).drop i1 = rest → d_laws_szAlphaS_L1 a0_ k1 rest i1 v1_1 = some r → Ar Γ N Try.f32 (.q [[none]] (D.int .i64 (r))) [1, 1, 1, 0, 1, 0] (rest.length + 1) (d_laws_szAlphaS_S1 a0_ v1_1 ((i1 : Int))) := by
  intro rest
  induction rest with
  | nil =>
    intro i1 v1_1 hd1 h
    rw [d_laws_szAlphaS_L1] at h
    refine AWr_succ fun N1 hN1 hS1 => ?_
    exact ((pre0.ge Alpha.c hd1).a [.hl 0 [1] []]).ex hΓ hN1 (hE1 (v1_1) h)
  | cons x1_ xs1 ih1 =>
    intro i1 v1_1 hd1 h
    rw [d_laws_szAlphaS_L1] at h
    refine AWr_succ fun N1 hN1 hS1 => ?_
    obtain ⟨y22, h23, h⟩ := den_bind h
    have o2_ := (((pre0.lt Alpha.c hd1).l (map_row Alpha.c 3 (dc hd1) rfl)).g (d_laws_szAlpha_good h23))
    obtain ⟨h24, h⟩ | ⟨h24, h⟩ := den_if h
    · cases h; exact (o2_.b h24).ret hΓ
    · exact ((o2_.b h24).a [.cn [0, 1, 5] []]).ct hΓ hS1 (iS hd1 hm1) (ih1 (i1 + 1) (y22) (dn hd1) h)
theorem d_laws_szAlphaS_good {a0_ : List Alpha} {a1_ : Int} {r : Int} (h : d_laws_szAlphaS a0_ a1_ = some r) : Good Try.prog 32 [D.sl ((a0_).map Alpha.c), D.int .i64 (a1_)] (D.int .i64 (r)) := by
  refine gd Try.func32 [[none]] 27 fun hr Γ hΓ => ?_
  rw [d_laws_szAlphaS] at h
  obtain ⟨h1, h⟩ | ⟨h1, h⟩ := den_if h
  · cases h; exact (pre0.b h1).ret hΓ
  · refine ((pre0.b h1).a [.cn [0, 1, 5] []]).lp hΓ (d_laws_szAlphaS_L1w hΓ (fun z1_1 h => ?_) (by have := (Rdb.sl (hr _ (List.mem_of_getElem? (i := 0) rfl))).1; simpa using this) (a0_) 0 (IntKind.i64.wrap ((a1_) - ((((a0_).map Alpha.c).length : Int)))) rfl h)
    have h := den_some h; subst h; exact pre0.ret hΓ
def d_laws_szPair (a0_ : Pair) (a1_ : Int) : Option Int := (bif decide ((IntKind.i64.wrap ((a1_) - (((a0_.var).length : Int))) : Int) < (0)) then (some (-1)) else (bif decide ((IntKind.i64.wrap ((IntKind.i64.wrap ((a1_) - (((a0_.var).length : Int)))) - (((a0_.value).length : Int))) : Int) < (0)) then (some (-1)) else (some (IntKind.i64.wrap ((IntKind.i64.wrap ((a1_) - (((a0_.var).length : Int)))) - (((a0_.value).length : Int)))))))
theorem d_laws_szPair_good {a0_ : Pair} {a1_ : Int} {r : Int} (h : d_laws_szPair a0_ a1_ = some r) : Good Try.prog 118 [D.agg (Pair.c a0_), D.int .i64 (a1_)] (D.int .i64 (r)) := by
  refine gd Try.func118 [[none]] 20 fun hr Γ hΓ => ?_
  rw [d_laws_szPair] at h
  obtain ⟨h1, h⟩ | ⟨h1, h⟩ := den_if h
  · cases h; exact (pre0.b h1).ret hΓ
  · obtain ⟨h2, h⟩ | ⟨h2, h⟩ := den_if h
    · cases h; exact ((pre0.b h1).b h2).ret hΓ
    · cases h; exact ((pre0.b h1).b h2).ret hΓ
def d_laws_szPairS_L1 (a0_ : List Pair) (k1 : Int → Option Int) : List Pair → Nat → Int → Option Int
  | [], i1, v1_1 => (k1 (v1_1))
  | x1_ :: xs1, i1, v1_1 => ((d_laws_szPair (x1_) (v1_1)).bind fun y22 => (bif decide ((y22 : Int) < (0)) then (some (-1)) else (d_laws_szPairS_L1 a0_ k1 xs1 (i1 + 1) (y22))))
def d_laws_szPairS (a0_ : List Pair) (a1_ : Int) : Option Int := (bif decide ((IntKind.i64.wrap ((a1_) - ((((a0_).map Pair.c).length : Int))) : Int) < (0)) then (some (-1)) else (d_laws_szPairS_L1 a0_ (fun (z1_1 : Int) => (some (z1_1))) (a0_) 0 (IntKind.i64.wrap ((a1_) - ((((a0_).map Pair.c).length : Int))))))
def d_laws_szPairS_S1 (a0_ : List Pair) (v1_1 : Int) (ix_ : Int) : St := ⟨[(0, D.sl ((a0_).map Pair.c)), (1, D.int .i64 (v1_1)), (5, D.int .i64 (ix_))], []⟩
theorem d_laws_szPairS_L1w (hΓ : Γ.nt = 27) {a0_ : List Pair} {r : Int} {k1 : Int → Option Int} (hE1 : ∀ (z1_1 : Int), k1 z1_1 = some r → Ax Γ N Try.f115 (.q [[none]] (D.int .i64 (r))) [1, 1, 1, 1] ⟨[(1, D.int .i64 (z1_1))], []⟩) (hm1 : (a0_).length ≤ maxLen) : ∀ (rest : List Pair) (i1 : Nat) (v1_1 : Int), (a0_).drop i1 = rest → d_laws_szPairS_L1 a0_ k1 rest i1 v1_1 = some r → Ar Γ N Try.f115 (.q [[none]] (D.int .i64 (r))) [1, 1, 1, 0, 1, 0] (rest.length + 1) (d_laws_szPairS_S1 a0_ v1_1 ((i1 : Int))) := by
  intro rest
  induction rest with
  | nil =>
    intro i1 v1_1 hd1 h
    rw [d_laws_szPairS_L1] at h
    refine AWr_succ fun N1 hN1 hS1 => ?_
    exact ((pre0.ge Pair.c hd1).a [.hl 0 [1] []]).ex hΓ hN1 (hE1 (v1_1) h)
  | cons x1_ xs1 ih1 =>
    intro i1 v1_1 hd1 h
    rw [d_laws_szPairS_L1] at h
    refine AWr_succ fun N1 hN1 hS1 => ?_
    obtain ⟨y22, h23, h⟩ := den_bind h
    have o2_ := (((pre0.lt Pair.c hd1).l (map_row Pair.c 2 (dc hd1) rfl)).g (d_laws_szPair_good h23))
    obtain ⟨h24, h⟩ | ⟨h24, h⟩ := den_if h
    · cases h; exact (o2_.b h24).ret hΓ
    · exact ((o2_.b h24).a [.cn [0, 1, 5] []]).ct hΓ hS1 (iS hd1 hm1) (ih1 (i1 + 1) (y22) (dn hd1) h)
theorem d_laws_szPairS_good {a0_ : List Pair} {a1_ : Int} {r : Int} (h : d_laws_szPairS a0_ a1_ = some r) : Good Try.prog 115 [D.sl ((a0_).map Pair.c), D.int .i64 (a1_)] (D.int .i64 (r)) := by
  refine gd Try.func115 [[none]] 27 fun hr Γ hΓ => ?_
  rw [d_laws_szPairS] at h
  obtain ⟨h1, h⟩ | ⟨h1, h⟩ := den_if h
  · cases h; exact (pre0.b h1).ret hΓ
  · refine ((pre0.b h1).a [.cn [0, 1, 5] []]).lp hΓ (d_laws_szPairS_L1w hΓ (fun z1_1 h => ?_) (by have := (Rdb.sl (hr _ (List.mem_of_getElem? (i := 0) rfl))).1; simpa using this) (a0_) 0 (IntKind.i64.wrap ((a1_) - ((((a0_).map Pair.c).length : Int)))) rfl h)
    have h := den_some h; subst h; exact pre0.ret hΓ
def d_laws_szToken (a0_ : Token) (a1_ : Int) : Option Int := ((d_laws_szFactS (a0_.facts) (a1_)).bind fun y1 => (bif decide ((y1 : Int) < (0)) then (some (-1)) else ((d_laws_szPairS (a0_.bind) (y1)).bind fun y4 => (bif decide ((y4 : Int) < (0)) then (some (-1)) else (some (y4))))))
theorem d_laws_szToken_good {a0_ : Token} {a1_ : Int} {r : Int} (h : d_laws_szToken a0_ a1_ = some r) : Good Try.prog 109 [D.agg (Token.c a0_), D.int .i64 (a1_)] (D.int .i64 (r)) := by
  refine gd Try.func109 [[none]] 18 fun hr Γ hΓ => ?_
  rw [d_laws_szToken] at h
  obtain ⟨y1, h2, h⟩ := den_bind h
  obtain ⟨h3, h⟩ | ⟨h3, h⟩ := den_if h
  · cases h; exact ((pre0.g (d_laws_szFactS_good h2)).b h3).ret hΓ
  · obtain ⟨y4, h5, h⟩ := den_bind h
    have o1_ := (((pre0.g (d_laws_szFactS_good h2)).b h3).g (d_laws_szPairS_good h5))
    obtain ⟨h6, h⟩ | ⟨h6, h⟩ := den_if h
    · cases h; exact (o1_.b h6).ret hΓ
    · have h := den_some h; subst h; exact (o1_.b h6).ret hΓ
def d_laws_szTokenS_L1 (a0_ : List Token) (k1 : Int → Option Int) : List Token → Nat → Int → Option Int
  | [], i1, v1_1 => (k1 (v1_1))
  | x1_ :: xs1, i1, v1_1 => ((d_laws_szToken (x1_) (v1_1)).bind fun y22 => (bif decide ((y22 : Int) < (0)) then (some (-1)) else (d_laws_szTokenS_L1 a0_ k1 xs1 (i1 + 1) (y22))))
def d_laws_szTokenS (a0_ : List Token) (a1_ : Int) : Option Int := (bif decide ((IntKind.i64.wrap ((a1_) - ((((a0_).map Token.c).length : Int))) : Int) < (0)) then (some (-1)) else (d_laws_szTokenS_L1 a0_ (fun (z1_1 : Int) => (some (z1_1))) (a0_) 0 (IntKind.i64.wrap ((a1_) - ((((a0_).map Token.c).length : Int))))))
def d_laws_szTokenS_S1 (a0_ : List Token) (v1_1 : Int) (ix_ : Int) : St := ⟨[(0, D.sl ((a0_).map Token.c)), (1, D.int .i64 (v1_1)), (5, D.int .i64 (ix_))], []⟩
theorem d_laws_szTokenS_L1w (hΓ : Γ.nt = 27) {a0_ : List Token} {r : Int} {k1 : Int → Option Int} (hE1 : ∀ (z1_1 : Int), k1 z1_1 = some r → Ax Γ N Try.f89 (.q [[none]] (D.int .i64 (r))) [1, 1, 1, 1] ⟨[(1, D.int .i64 (z1_1))], []⟩) (hm1 : (a0_).length ≤ maxLen) : ∀ (rest : List Token) (i1 : Nat) (v1_1 : Int), (a0_).drop i1 = rest → d_laws_szTokenS_L1 a0_ k1 rest i1 v1_1 = some r → Ar Γ N Try.f89 (.q [[none]] (D.int .i64 (r))) [1, 1, 1, 0, 1, 0] (rest.length + 1) (d_laws_szTokenS_S1 a0_ v1_1 ((i1 : Int))) := by
  intro rest
  induction rest with
  | nil =>
    intro i1 v1_1 hd1 h
    rw [d_laws_szTokenS_L1] at h
    refine AWr_succ fun N1 hN1 hS1 => ?_
    exact ((pre0.ge Token.c hd1).a [.hl 0 [1] []]).ex hΓ hN1 (hE1 (v1_1) h)
  | cons x1_ xs1 ih1 =>
    intro i1 v1_1 hd1 h
    rw [d_laws_szTokenS_L1] at h
    refine AWr_succ fun N1 hN1 hS1 => ?_
    obtain ⟨y22, h23, h⟩ := den_bind h
    have o2_ := (((pre0.lt Token.c hd1).l (map_row Token.c 2 (dc hd1) rfl)).g (d_laws_szToken_good h23))
    obtain ⟨h24, h⟩ | ⟨h24, h⟩ := den_if h
    · cases h; exact (o2_.b h24).ret hΓ
    · exact ((o2_.b h24).a [.cn [0, 1, 5] []]).ct hΓ hS1 (iS hd1 hm1) (ih1 (i1 + 1) (y22) (dn hd1) h)
theorem d_laws_szTokenS_good {a0_ : List Token} {a1_ : Int} {r : Int} (h : d_laws_szTokenS a0_ a1_ = some r) : Good Try.prog 89 [D.sl ((a0_).map Token.c), D.int .i64 (a1_)] (D.int .i64 (r)) := by
  refine gd Try.func89 [[none]] 27 fun hr Γ hΓ => ?_
  rw [d_laws_szTokenS] at h
  obtain ⟨h1, h⟩ | ⟨h1, h⟩ := den_if h
  · cases h; exact (pre0.b h1).ret hΓ
  · refine ((pre0.b h1).a [.cn [0, 1, 5] []]).lp hΓ (d_laws_szTokenS_L1w hΓ (fun z1_1 h => ?_) (by have := (Rdb.sl (hr _ (List.mem_of_getElem? (i := 0) rfl))).1; simpa using this) (a0_) 0 (IntKind.i64.wrap ((a1_) - ((((a0_).map Token.c).length : Int)))) rfl h)
    have h := den_some h; subst h; exact pre0.ret hΓ
def d_laws_szNode (a0_ : Node) (a1_ : Int) : Option Int := ((d_laws_szCond (a0_.cond) (a1_)).bind fun y1 => (bif decide ((y1 : Int) < (0)) then (some (-1)) else ((d_laws_szTokenS (a0_.tokens) (y1)).bind fun y4 => (bif decide ((y4 : Int) < (0)) then (some (-1)) else (some (y4))))))
theorem d_laws_szNode_good {a0_ : Node} {a1_ : Int} {r : Int} (h : d_laws_szNode a0_ a1_ = some r) : Good Try.prog 60 [D.agg (Node.c a0_), D.int .i64 (a1_)] (D.int .i64 (r)) := by
  refine gd Try.func60 [[none]] 18 fun hr Γ hΓ => ?_
  rw [d_laws_szNode] at h
  obtain ⟨y1, h2, h⟩ := den_bind h
  obtain ⟨h3, h⟩ | ⟨h3, h⟩ := den_if h
  · cases h; exact ((pre0.g (d_laws_szCond_good h2)).b h3).ret hΓ
  · obtain ⟨y4, h5, h⟩ := den_bind h
    have o1_ := (((pre0.g (d_laws_szCond_good h2)).b h3).g (d_laws_szTokenS_good h5))
    obtain ⟨h6, h⟩ | ⟨h6, h⟩ := den_if h
    · cases h; exact (o1_.b h6).ret hΓ
    · have h := den_some h; subst h; exact (o1_.b h6).ret hΓ
def d_laws_szNodeS_L1 (a0_ : List Node) (k1 : Int → Option Int) : List Node → Nat → Int → Option Int
  | [], i1, v1_1 => (k1 (v1_1))
  | x1_ :: xs1, i1, v1_1 => ((d_laws_szNode (x1_) (v1_1)).bind fun y22 => (bif decide ((y22 : Int) < (0)) then (some (-1)) else (d_laws_szNodeS_L1 a0_ k1 xs1 (i1 + 1) (y22))))
def d_laws_szNodeS (a0_ : List Node) (a1_ : Int) : Option Int := (bif decide ((IntKind.i64.wrap ((a1_) - ((((a0_).map Node.c).length : Int))) : Int) < (0)) then (some (-1)) else (d_laws_szNodeS_L1 a0_ (fun (z1_1 : Int) => (some (z1_1))) (a0_) 0 (IntKind.i64.wrap ((a1_) - ((((a0_).map Node.c).length : Int))))))
def d_laws_szNodeS_S1 (a0_ : List Node) (v1_1 : Int) (ix_ : Int) : St := ⟨[(0, D.sl ((a0_).map Node.c)), (1, D.int .i64 (v1_1)), (5, D.int .i64 (ix_))], []⟩
theorem d_laws_szNodeS_L1w (hΓ : Γ.nt = 27) {a0_ : List Node} {r : Int} {k1 : Int → Option Int} (hE1 : ∀ (z1_1 : Int), k1 z1_1 = some r → Ax Γ N Try.f33 (.q [[none]] (D.int .i64 (r))) [1, 1, 1, 1] ⟨[(1, D.int .i64 (z1_1))], []⟩) (hm1 : (a0_).length ≤ maxLen) : ∀ (rest : List Node) (i1 : Nat) (v1_1 : Int), (a0_).drop i1 = rest → d_laws_szNodeS_L1 a0_ k1 rest i1 v1_1 = some r → Ar Γ N Try.f33 (.q [[none]] (D.int .i64 (r))) [1, 1, 1, 0, 1, 0] (rest.length + 1) (d_laws_szNodeS_S1 a0_ v1_1 ((i1 : Int))) := by
  intro rest
  induction rest with
  | nil =>
    intro i1 v1_1 hd1 h
    rw [d_laws_szNodeS_L1] at h
    refine AWr_succ fun N1 hN1 hS1 => ?_
    exact ((pre0.ge Node.c hd1).a [.hl 0 [1] []]).ex hΓ hN1 (hE1 (v1_1) h)
  | cons x1_ xs1 ih1 =>
    intro i1 v1_1 hd1 h
    rw [d_laws_szNodeS_L1] at h
    refine AWr_succ fun N1 hN1 hS1 => ?_
    obtain ⟨y22, h23, h⟩ := den_bind h
    have o2_ := (((pre0.lt Node.c hd1).l (map_row Node.c 8 (dc hd1) rfl)).g (d_laws_szNode_good h23))
    obtain ⟨h24, h⟩ | ⟨h24, h⟩ := den_if h
    · cases h; exact (o2_.b h24).ret hΓ
    · exact ((o2_.b h24).a [.cn [0, 1, 5] []]).ct hΓ hS1 (iS hd1 hm1) (ih1 (i1 + 1) (y22) (dn hd1) h)
theorem d_laws_szNodeS_good {a0_ : List Node} {a1_ : Int} {r : Int} (h : d_laws_szNodeS a0_ a1_ = some r) : Good Try.prog 33 [D.sl ((a0_).map Node.c), D.int .i64 (a1_)] (D.int .i64 (r)) := by
  refine gd Try.func33 [[none]] 27 fun hr Γ hΓ => ?_
  rw [d_laws_szNodeS] at h
  obtain ⟨h1, h⟩ | ⟨h1, h⟩ := den_if h
  · cases h; exact (pre0.b h1).ret hΓ
  · refine ((pre0.b h1).a [.cn [0, 1, 5] []]).lp hΓ (d_laws_szNodeS_L1w hΓ (fun z1_1 h => ?_) (by have := (Rdb.sl (hr _ (List.mem_of_getElem? (i := 0) rfl))).1; simpa using this) (a0_) 0 (IntKind.i64.wrap ((a1_) - ((((a0_).map Node.c).length : Int)))) rfl h)
    have h := den_some h; subst h; exact pre0.ret hΓ
def d_laws_szNetwork (a0_ : Network) (a1_ : Int) : Option Int := ((d_laws_szRuleS (a0_.rules) (a1_)).bind fun y1 => (bif decide ((y1 : Int) < (0)) then (some (-1)) else ((d_laws_szIntS (a0_.ends) (y1)).bind fun y4 => (bif decide ((y4 : Int) < (0)) then (some (-1)) else ((d_laws_szAlphaS (a0_.alphas) (y4)).bind fun y7 => (bif decide ((y7 : Int) < (0)) then (some (-1)) else ((d_laws_szNodeS (a0_.nodes) (y7)).bind fun y10 => (bif decide ((y10 : Int) < (0)) then (some (-1)) else ((d_laws_szFactS (a0_.facts) (y10)).bind fun y13 => (bif decide ((y13 : Int) < (0)) then (some (-1)) else (some (y13))))))))))))
theorem d_laws_szNetwork_good {a0_ : Network} {a1_ : Int} {r : Int} (h : d_laws_szNetwork a0_ a1_ = some r) : Good Try.prog 14 [D.agg (Network.c a0_), D.int .i64 (a1_)] (D.int .i64 (r)) := by
  refine gd Try.func14 [[none]] 36 fun hr Γ hΓ => ?_
  rw [d_laws_szNetwork] at h
  obtain ⟨y1, h2, h⟩ := den_bind h
  obtain ⟨h3, h⟩ | ⟨h3, h⟩ := den_if h
  · cases h; exact ((pre0.g (d_laws_szRuleS_good h2)).b h3).ret hΓ
  · obtain ⟨y4, h5, h⟩ := den_bind h
    have o1_ := (((pre0.g (d_laws_szRuleS_good h2)).b h3).g (d_laws_szIntS_good h5))
    obtain ⟨h6, h⟩ | ⟨h6, h⟩ := den_if h
    · cases h; exact (o1_.b h6).ret hΓ
    · obtain ⟨y7, h8, h⟩ := den_bind h
      have o2_ := ((o1_.b h6).g (d_laws_szAlphaS_good h8))
      obtain ⟨h9, h⟩ | ⟨h9, h⟩ := den_if h
      · cases h; exact (o2_.b h9).ret hΓ
      · obtain ⟨y10, h11, h⟩ := den_bind h
        have o3_ := ((o2_.b h9).g (d_laws_szNodeS_good h11))
        obtain ⟨h12, h⟩ | ⟨h12, h⟩ := den_if h
        · cases h; exact (o3_.b h12).ret hΓ
        · obtain ⟨y13, h14, h⟩ := den_bind h
          have o4_ := ((o3_.b h12).g (d_laws_szFactS_good h14))
          obtain ⟨h15, h⟩ | ⟨h15, h⟩ := den_if h
          · cases h; exact (o4_.b h15).ret hΓ
          · have h := den_some h; subst h; exact (o4_.b h15).ret hΓ
end Go.Cx
