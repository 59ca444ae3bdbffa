/- What functions of the program compute, and the walks that show it. No condition. -/
import Derived.Test.YteddjemiikgheaaGreatDoorNData
namespace Go.Cx
open Go.RowKit Go.Proofs
set_option linter.unusedVariables false
set_option linter.unusedSimpArgs false
set_option maxRecDepth 100000
variable {Γ : Ctx} {N : Nat → St → Prop}
def d_laws_eqStringS_L1 (a0_ : List Bytes) (a1_ : List Bytes) (k1 : Option Bool) : List Bytes → Nat → Option Bool
  | [], i1 => (k1 )
  | x1_ :: xs1, i1 => ((atI (a1_) ((i1 : Int))).bind fun x22 => (bif !((x1_ : Bytes) == (x22)) then (some (false)) else (d_laws_eqStringS_L1 a0_ a1_ k1 xs1 (i1 + 1) )))
def d_laws_eqStringS (a0_ : List Bytes) (a1_ : List Bytes) : Option Bool := (bif ((((a0_).map tx).length : Int) : Int) != ((((a1_).map tx).length : Int)) then (some (false)) else (d_laws_eqStringS_L1 a0_ a1_ (some (true)) (a0_) 0 ))
def d_laws_eqStringS_S1 (a0_ : List Bytes) (a1_ : List Bytes) (ix_ : Int) : St := ⟨[(0, D.sl ((a0_).map tx)), (1, D.sl ((a1_).map tx)), (5, D.int .i64 (ix_))], []⟩
theorem d_laws_eqStringS_L1w (hΓ : Γ.nt = 26) {a0_ : List Bytes} {a1_ : List Bytes} {r : Bool} {k1 : Option Bool} (hE1 : k1 = some r → Ax Γ N Tryz.f141 (.q [[none]] (D.bool (r))) [1, 1, 1] ⟨[], []⟩) (hm1 : (a0_).length ≤ maxLen) : ∀ (rest : List Bytes) (i1 : Nat) , (a0_).drop i1 = rest → d_laws_eqStringS_L1 a0_ a1_ k1 rest i1  = some r → Ar Γ N Tryz.f141 (.q [[none]] (D.bool (r))) [1, 1, 0, 1, 0] (rest.length + 1) (d_laws_eqStringS_S1 a0_ a1_ ((i1 : Int))) := by
  intro rest
  induction rest with
  | nil =>
    intro i1  hd1 h
    rw [d_laws_eqStringS_L1] at h
    refine AWr_succ fun N1 hN1 hS1 => ?_
    exact ((pre0.ge tx hd1).a [.hl 0 [] []]).ex hΓ hN1 (hE1 h)
  | cons x1_ xs1 ih1 =>
    intro i1  hd1 h
    rw [d_laws_eqStringS_L1] at h
    refine AWr_succ fun N1 hN1 hS1 => ?_
    obtain ⟨x22, h23, h⟩ := den_bind h
    have o2_ := ((((pre0.lt tx hd1).a [.n 8]).l (map_row tx 1 (dc hd1) rfl)).l (at_row tx 1 h23 rfl))
    obtain ⟨h24, h⟩ | ⟨h24, h⟩ := den_if h
    · have h := den_some h; subst h; exact (o2_.b h24).ret hΓ
    · exact ((o2_.b h24).a [.cn [0, 1, 5] []]).ct hΓ hS1 (iS hd1 hm1) (ih1 (i1 + 1)  (dn hd1) h)
theorem d_laws_eqStringS_good {a0_ : List Bytes} {a1_ : List Bytes} {r : Bool} (h : d_laws_eqStringS a0_ a1_ = some r) : Good Tryz.prog 141 [D.sl ((a0_).map tx), D.sl ((a1_).map tx)] (D.bool (r)) := by
  refine gd Tryz.func141 [[none]] 26 fun hr Γ hΓ => ?_
  rw [d_laws_eqStringS] at h
  obtain ⟨h1, h⟩ | ⟨h1, h⟩ := den_if h
  · have h := den_some h; subst h; exact (pre0.b h1).ret hΓ
  · refine ((pre0.b h1).a [.cn [0, 1, 5] []]).lp hΓ (d_laws_eqStringS_L1w hΓ (fun h => ?_) (by have := (Rdb.sl (hr _ (List.mem_of_getElem? (i := 0) rfl))).1; simpa using this) (a0_) 0  rfl h)
    have h := den_some h; subst h; exact pre0.ret hΓ
def d_laws_eqPattern (a0_ : Fact) (a1_ : Fact) : Option Bool := (bif !((a0_.rel : Bytes) == (a1_.rel)) then (some (false)) else ((d_laws_eqStringS (a0_.args) (a1_.args)).bind fun y2 => (bif !(y2) then (some (false)) else (some (true)))))
theorem d_laws_eqPattern_good {a0_ : Fact} {a1_ : Fact} {r : Bool} (h : d_laws_eqPattern a0_ a1_ = some r) : Good Tryz.prog 139 [D.agg (Fact.c a0_), D.agg (Fact.c a1_)] (D.bool (r)) := by
  refine gd Tryz.func139 [[none]] 16 fun hr Γ hΓ => ?_
  rw [d_laws_eqPattern] at h
  obtain ⟨h1, h⟩ | ⟨h1, h⟩ := den_if h
  · have h := den_some h; subst h; exact (pre0.b h1).ret hΓ
  · obtain ⟨y2, h3, h⟩ := den_bind h
    have o1_ := ((pre0.b h1).g (d_laws_eqStringS_good h3))
    obtain ⟨h4, h⟩ | ⟨h4, h⟩ := den_if h
    · have h := den_some h; subst h; exact (o1_.b h4).ret hΓ
    · have h := den_some h; subst h; exact (o1_.b h4).ret hΓ
def d_laws_eqCond (a0_ : Cond) (a1_ : Cond) : Option Bool := (bif (a0_.kind : Int) != (a1_.kind) then (some (false)) else ((d_laws_eqPattern (a0_.pat) (a1_.pat)).bind fun y2 => (bif !(y2) then (some (false)) else (bif !((a0_.left : Bytes) == (a1_.left)) then (some (false)) else (bif !((a0_.right : Bytes) == (a1_.right)) then (some (false)) else (some (true)))))))
theorem d_laws_eqCond_good {a0_ : Cond} {a1_ : Cond} {r : Bool} (h : d_laws_eqCond a0_ a1_ = some r) : Good Tryz.prog 130 [D.agg (Cond.c a0_), D.agg (Cond.c a1_)] (D.bool (r)) := by
  refine gd Tryz.func130 [[none]] 26 fun hr Γ hΓ => ?_
  rw [d_laws_eqCond] at h
  obtain ⟨h1, h⟩ | ⟨h1, h⟩ := den_if h
  · have h := den_some h; subst h; exact (pre0.b h1).ret hΓ
  · obtain ⟨y2, h3, h⟩ := den_bind h
    have o1_ := ((pre0.b h1).g (d_laws_eqPattern_good h3))
    obtain ⟨h4, h⟩ | ⟨h4, h⟩ := den_if h
    · have h := den_some h; subst h; exact (o1_.b h4).ret hΓ
    · obtain ⟨h5, h⟩ | ⟨h5, h⟩ := den_if h
      · have h := den_some h; subst h; exact ((o1_.b h4).b h5).ret hΓ
      · have o2_ := ((o1_.b h4).b h5)
        obtain ⟨h6, h⟩ | ⟨h6, h⟩ := den_if h
        · have h := den_some h; subst h; exact (o2_.b h6).ret hΓ
        · have h := den_some h; subst h; exact (o2_.b h6).ret hΓ
def d_laws_eqCondS_L1 (a0_ : List Cond) (a1_ : List Cond) (k1 : Option Bool) : List Cond → Nat → Option Bool
  | [], i1 => (k1 )
  | x1_ :: xs1, i1 => ((atI (a1_) ((i1 : Int))).bind fun x30 => ((d_laws_eqCond (x1_) (x30)).bind fun y32 => (bif !(y32) then (some (false)) else (d_laws_eqCondS_L1 a0_ a1_ k1 xs1 (i1 + 1) ))))
def d_laws_eqCondS (a0_ : List Cond) (a1_ : List Cond) : Option Bool := (bif ((((a0_).map Cond.c).length : Int) : Int) != ((((a1_).map Cond.c).length : Int)) then (some (false)) else (d_laws_eqCondS_L1 a0_ a1_ (some (true)) (a0_) 0 ))
def d_laws_eqCondS_S1 (a0_ : List Cond) (a1_ : List Cond) (ix_ : Int) : St := ⟨[(0, D.sl ((a0_).map Cond.c)), (1, D.sl ((a1_).map Cond.c)), (5, D.int .i64 (ix_))], []⟩
theorem d_laws_eqCondS_L1w (hΓ : Γ.nt = 27) {a0_ : List Cond} {a1_ : List Cond} {r : Bool} {k1 : Option Bool} (hE1 : k1 = some r → Ax Γ N Tryz.f80 (.q [[none]] (D.bool (r))) [1, 1, 1] ⟨[], []⟩) (hm1 : (a0_).length ≤ maxLen) : ∀ (rest : List Cond) (i1 : Nat) , (a0_).drop i1 = rest → d_laws_eqCondS_L1 a0_ a1_ k1 rest i1  = some r → Ar Γ N Tryz.f80 (.q [[none]] (D.bool (r))) [1, 1, 0, 1, 0] (rest.length + 1) (d_laws_eqCondS_S1 a0_ a1_ ((i1 : Int))) := by
  intro rest
  induction rest with
  | nil =>
    intro i1  hd1 h
    rw [d_laws_eqCondS_L1] at h
    refine AWr_succ fun N1 hN1 hS1 => ?_
    exact ((pre0.ge Cond.c hd1).a [.hl 0 [] []]).ex hΓ hN1 (hE1 h)
  | cons x1_ xs1 ih1 =>
    intro i1  hd1 h
    rw [d_laws_eqCondS_L1] at h
    refine AWr_succ fun N1 hN1 hS1 => ?_
    obtain ⟨x30, h31, h⟩ := den_bind h
    obtain ⟨y32, h33, h⟩ := den_bind h
    have o2_ := (((((pre0.lt Cond.c hd1).a [.n 8]).l (map_row Cond.c 5 (dc hd1) rfl)).l (at_row Cond.c 5 h31 rfl)).g (d_laws_eqCond_good h33))
    obtain ⟨h34, h⟩ | ⟨h34, h⟩ := den_if h
    · have h := den_some h; subst h; exact (o2_.b h34).ret hΓ
    · exact ((o2_.b h34).a [.cn [0, 1, 5] []]).ct hΓ hS1 (iS hd1 hm1) (ih1 (i1 + 1)  (dn hd1) h)
theorem d_laws_eqCondS_good {a0_ : List Cond} {a1_ : List Cond} {r : Bool} (h : d_laws_eqCondS a0_ a1_ = some r) : Good Tryz.prog 80 [D.sl ((a0_).map Cond.c), D.sl ((a1_).map Cond.c)] (D.bool (r)) := by
  refine gd Tryz.func80 [[none]] 27 fun hr Γ hΓ => ?_
  rw [d_laws_eqCondS] at h
  obtain ⟨h1, h⟩ | ⟨h1, h⟩ := den_if h
  · have h := den_some h; subst h; exact (pre0.b h1).ret hΓ
  · refine ((pre0.b h1).a [.cn [0, 1, 5] []]).lp hΓ (d_laws_eqCondS_L1w hΓ (fun h => ?_) (by have := (Rdb.sl (hr _ (List.mem_of_getElem? (i := 0) rfl))).1; simpa using this) (a0_) 0  rfl h)
    have h := den_some h; subst h; exact pre0.ret hΓ
def d_laws_eqAction (a0_ : Action) (a1_ : Action) : Option Bool := (bif (a0_.kind : Int) != (a1_.kind) then (some (false)) else ((d_laws_eqPattern (a0_.pat) (a1_.pat)).bind fun y2 => (bif !(y2) then (some (false)) else (some (true)))))
theorem d_laws_eqAction_good {a0_ : Action} {a1_ : Action} {r : Bool} (h : d_laws_eqAction a0_ a1_ = some r) : Good Tryz.prog 131 [D.agg (Action.c a0_), D.agg (Action.c a1_)] (D.bool (r)) := by
  refine gd Tryz.func131 [[none]] 16 fun hr Γ hΓ => ?_
  rw [d_laws_eqAction] at h
  obtain ⟨h1, h⟩ | ⟨h1, h⟩ := den_if h
  · have h := den_some h; subst h; exact (pre0.b h1).ret hΓ
  · obtain ⟨y2, h3, h⟩ := den_bind h
    have o1_ := ((pre0.b h1).g (d_laws_eqPattern_good h3))
    obtain ⟨h4, h⟩ | ⟨h4, h⟩ := den_if h
    · have h := den_some h; subst h; exact (o1_.b h4).ret hΓ
    · have h := den_some h; subst h; exact (o1_.b h4).ret hΓ
def d_laws_eqActionS_L1 (a0_ : List Action) (a1_ : List Action) (k1 : Option Bool) : List Action → Nat → Option Bool
  | [], i1 => (k1 )
  | x1_ :: xs1, i1 => ((atI (a1_) ((i1 : Int))).bind fun x30 => ((d_laws_eqAction (x1_) (x30)).bind fun y32 => (bif !(y32) then (some (false)) else (d_laws_eqActionS_L1 a0_ a1_ k1 xs1 (i1 + 1) ))))
def d_laws_eqActionS (a0_ : List Action) (a1_ : List Action) : Option Bool := (bif ((((a0_).map Action.c).length : Int) : Int) != ((((a1_).map Action.c).length : Int)) then (some (false)) else (d_laws_eqActionS_L1 a0_ a1_ (some (true)) (a0_) 0 ))
def d_laws_eqActionS_S1 (a0_ : List Action) (a1_ : List Action) (ix_ : Int) : St := ⟨[(0, D.sl ((a0_).map Action.c)), (1, D.sl ((a1_).map Action.c)), (5, D.int .i64 (ix_))], []⟩
theorem d_laws_eqActionS_L1w (hΓ : Γ.nt = 27) {a0_ : List Action} {a1_ : List Action} {r : Bool} {k1 : Option Bool} (hE1 : k1 = some r → Ax Γ N Tryz.f81 (.q [[none]] (D.bool (r))) [1, 1, 1] ⟨[], []⟩) (hm1 : (a0_).length ≤ maxLen) : ∀ (rest : List Action) (i1 : Nat) , (a0_).drop i1 = rest → d_laws_eqActionS_L1 a0_ a1_ k1 rest i1  = some r → Ar Γ N Tryz.f81 (.q [[none]] (D.bool (r))) [1, 1, 0, 1, 0] (rest.length + 1) (d_laws_eqActionS_S1 a0_ a1_ ((i1 : Int))) := by
  intro rest
  induction rest with
  | nil =>
    intro i1  hd1 h
    rw [d_laws_eqActionS_L1] at h
    refine AWr_succ fun N1 hN1 hS1 => ?_
    exact ((pre0.ge Action.c hd1).a [.hl 0 [] []]).ex hΓ hN1 (hE1 h)
  | cons x1_ xs1 ih1 =>
    intro i1  hd1 h
    rw [d_laws_eqActionS_L1] at h
    refine AWr_succ fun N1 hN1 hS1 => ?_
    obtain ⟨x30, h31, h⟩ := den_bind h
    obtain ⟨y32, h33, h⟩ := den_bind h
    have o2_ := (((((pre0.lt Action.c hd1).a [.n 8]).l (map_row Action.c 3 (dc hd1) rfl)).l (at_row Action.c 3 h31 rfl)).g (d_laws_eqAction_good h33))
    obtain ⟨h34, h⟩ | ⟨h34, h⟩ := den_if h
    · have h := den_some h; subst h; exact (o2_.b h34).ret hΓ
    · exact ((o2_.b h34).a [.cn [0, 1, 5] []]).ct hΓ hS1 (iS hd1 hm1) (ih1 (i1 + 1)  (dn hd1) h)
theorem d_laws_eqActionS_good {a0_ : List Action} {a1_ : List Action} {r : Bool} (h : d_laws_eqActionS a0_ a1_ = some r) : Good Tryz.prog 81 [D.sl ((a0_).map Action.c), D.sl ((a1_).map Action.c)] (D.bool (r)) := by
  refine gd Tryz.func81 [[none]] 27 fun hr Γ hΓ => ?_
  rw [d_laws_eqActionS] at h
  obtain ⟨h1, h⟩ | ⟨h1, h⟩ := den_if h
  · have h := den_some h; subst h; exact (pre0.b h1).ret hΓ
  · refine ((pre0.b h1).a [.cn [0, 1, 5] []]).lp hΓ (d_laws_eqActionS_L1w hΓ (fun h => ?_) (by have := (Rdb.sl (hr _ (List.mem_of_getElem? (i := 0) rfl))).1; simpa using this) (a0_) 0  rfl h)
    have h := den_some h; subst h; exact pre0.ret hΓ
def d_laws_eqRule (a0_ : Rule) (a1_ : Rule) : Option Bool := (bif !((a0_.name : Bytes) == (a1_.name)) then (some (false)) else (bif (a0_.prio : Int) != (a1_.prio) then (some (false)) else ((d_laws_eqCondS (a0_.conds) (a1_.conds)).bind fun y3 => (bif !(y3) then (some (false)) else ((d_laws_eqActionS (a0_.acts) (a1_.acts)).bind fun y6 => (bif !(y6) then (some (false)) else (some (true))))))))
theorem d_laws_eqRule_good {a0_ : Rule} {a1_ : Rule} {r : Bool} (h : d_laws_eqRule a0_ a1_ = some r) : Good Tryz.prog 31 [D.agg (Rule.c a0_), D.agg (Rule.c a1_)] (D.bool (r)) := by
  refine gd Tryz.func31 [[none]] 27 fun hr Γ hΓ => ?_
  rw [d_laws_eqRule] at h
  obtain ⟨h1, h⟩ | ⟨h1, h⟩ := den_if h
  · have h := den_some h; subst h; exact (pre0.b h1).ret hΓ
  · obtain ⟨h2, h⟩ | ⟨h2, h⟩ := den_if h
    · have h := den_some h; subst h; exact ((pre0.b h1).b h2).ret hΓ
    · obtain ⟨y3, h4, h⟩ := den_bind h
      have o1_ := (((pre0.b h1).b h2).g (d_laws_eqCondS_good h4))
      obtain ⟨h5, h⟩ | ⟨h5, h⟩ := den_if h
      · have h := den_some h; subst h; exact (o1_.b h5).ret hΓ
      · obtain ⟨y6, h7, h⟩ := den_bind h
        have o2_ := ((o1_.b h5).g (d_laws_eqActionS_good h7))
        obtain ⟨h8, h⟩ | ⟨h8, h⟩ := den_if h
        · have h := den_some h; subst h; exact (o2_.b h8).ret hΓ
        · have h := den_some h; subst h; exact (o2_.b h8).ret hΓ
def d_laws_eqRuleS_L1 (a0_ : List Rule) (a1_ : List Rule) (k1 : Option Bool) : List Rule → Nat → Option Bool
  | [], i1 => (k1 )
  | x1_ :: xs1, i1 => ((atI (a1_) ((i1 : Int))).bind fun x30 => ((d_laws_eqRule (x1_) (x30)).bind fun y32 => (bif !(y32) then (some (false)) else (d_laws_eqRuleS_L1 a0_ a1_ k1 xs1 (i1 + 1) ))))
def d_laws_eqRuleS (a0_ : List Rule) (a1_ : List Rule) : Option Bool := (bif ((((a0_).map Rule.c).length : Int) : Int) != ((((a1_).map Rule.c).length : Int)) then (some (false)) else (d_laws_eqRuleS_L1 a0_ a1_ (some (true)) (a0_) 0 ))
def d_laws_eqRuleS_S1 (a0_ : List Rule) (a1_ : List Rule) (ix_ : Int) : St := ⟨[(0, D.sl ((a0_).map Rule.c)), (1, D.sl ((a1_).map Rule.c)), (5, D.int .i64 (ix_))], []⟩
theorem d_laws_eqRuleS_L1w (hΓ : Γ.nt = 27) {a0_ : List Rule} {a1_ : List Rule} {r : Bool} {k1 : Option Bool} (hE1 : k1 = some r → Ax Γ N Tryz.f14 (.q [[none]] (D.bool (r))) [1, 1, 1] ⟨[], []⟩) (hm1 : (a0_).length ≤ maxLen) : ∀ (rest : List Rule) (i1 : Nat) , (a0_).drop i1 = rest → d_laws_eqRuleS_L1 a0_ a1_ k1 rest i1  = some r → Ar Γ N Tryz.f14 (.q [[none]] (D.bool (r))) [1, 1, 0, 1, 0] (rest.length + 1) (d_laws_eqRuleS_S1 a0_ a1_ ((i1 : Int))) := by
  intro rest
  induction rest with
  | nil =>
    intro i1  hd1 h
    rw [d_laws_eqRuleS_L1] at h
    refine AWr_succ fun N1 hN1 hS1 => ?_
    exact ((pre0.ge Rule.c hd1).a [.hl 0 [] []]).ex hΓ hN1 (hE1 h)
  | cons x1_ xs1 ih1 =>
    intro i1  hd1 h
    rw [d_laws_eqRuleS_L1] at h
    refine AWr_succ fun N1 hN1 hS1 => ?_
    obtain ⟨x30, h31, h⟩ := den_bind h
    obtain ⟨y32, h33, h⟩ := den_bind h
    have o2_ := (((((pre0.lt Rule.c hd1).a [.n 8]).l (map_row Rule.c 4 (dc hd1) rfl)).l (at_row Rule.c 4 h31 rfl)).g (d_laws_eqRule_good h33))
    obtain ⟨h34, h⟩ | ⟨h34, h⟩ := den_if h
    · have h := den_some h; subst h; exact (o2_.b h34).ret hΓ
    · exact ((o2_.b h34).a [.cn [0, 1, 5] []]).ct hΓ hS1 (iS hd1 hm1) (ih1 (i1 + 1)  (dn hd1) h)
theorem d_laws_eqRuleS_good {a0_ : List Rule} {a1_ : List Rule} {r : Bool} (h : d_laws_eqRuleS a0_ a1_ = some r) : Good Tryz.prog 14 [D.sl ((a0_).map Rule.c), D.sl ((a1_).map Rule.c)] (D.bool (r)) := by
  refine gd Tryz.func14 [[none]] 27 fun hr Γ hΓ => ?_
  rw [d_laws_eqRuleS] at h
  obtain ⟨h1, h⟩ | ⟨h1, h⟩ := den_if h
  · have h := den_some h; subst h; exact (pre0.b h1).ret hΓ
  · refine ((pre0.b h1).a [.cn [0, 1, 5] []]).lp hΓ (d_laws_eqRuleS_L1w hΓ (fun h => ?_) (by have := (Rdb.sl (hr _ (List.mem_of_getElem? (i := 0) rfl))).1; simpa using this) (a0_) 0  rfl h)
    have h := den_some h; subst h; exact pre0.ret hΓ
end Go.Cx
