/- What functions of the program compute, and the walks that show it. No condition. -/
import Derived.Test.YtlhcfcgghbmhiaaNData
namespace Go.Cx
open Go.RowKit Go.Proofs
set_option linter.unusedVariables false
set_option linter.unusedSimpArgs false
set_option maxRecDepth 100000
variable {Γ : Ctx} {N : Nat → St → Prop}
def d_laws_eqIntS_L1 (a0_ : List Int) (a1_ : List Int) (k1 : Option Bool) : List Int → Nat → Option Bool
  | [], i1 => (k1 )
  | x1_ :: xs1, i1 => ((atI (a1_) ((i1 : Int))).bind fun x22 => (bif (x1_ : Int) != (x22) then (some (false)) else (d_laws_eqIntS_L1 a0_ a1_ k1 xs1 (i1 + 1) )))
def d_laws_eqIntS (a0_ : List Int) (a1_ : List Int) : Option Bool := (bif ((((a0_).map ixx).length : Int) : Int) != ((((a1_).map ixx).length : Int)) then (some (false)) else (d_laws_eqIntS_L1 a0_ a1_ (some (true)) (a0_) 0 ))
def d_laws_eqIntS_S1 (a0_ : List Int) (a1_ : List Int) (ix_ : Int) : St := ⟨[(0, D.sl ((a0_).map ixx)), (1, D.sl ((a1_).map ixx)), (5, D.int .i64 (ix_))], []⟩
theorem d_laws_eqIntS_L1w (hΓ : Γ.nt = 26) {a0_ : List Int} {a1_ : List Int} {r : Bool} {k1 : Option Bool} (hE1 : k1 = some r → Ax Γ N Try.f11 (.q [[none]] (D.bool (r))) [1, 1, 1] ⟨[], []⟩) (hm1 : (a0_).length ≤ maxLen) : ∀ (rest : List Int) (i1 : Nat) , (a0_).drop i1 = rest → d_laws_eqIntS_L1 a0_ a1_ k1 rest i1  = some r → Ar Γ N Try.f11 (.q [[none]] (D.bool (r))) [1, 1, 0, 1, 0] (rest.length + 1) (d_laws_eqIntS_S1 a0_ a1_ ((i1 : Int))) := by
  intro rest
  induction rest with
  | nil =>
    intro i1  hd1 h
    rw [d_laws_eqIntS_L1] at h
    refine AWr_succ fun N1 hN1 hS1 => ?_
    exact ((pre0.ge ixx hd1).a [.hl 0 [] []]).ex hΓ hN1 (hE1 h)
  | cons x1_ xs1 ih1 =>
    intro i1  hd1 h
    rw [d_laws_eqIntS_L1] at h
    refine AWr_succ fun N1 hN1 hS1 => ?_
    obtain ⟨x22, h23, h⟩ := den_bind h
    have o2_ := ((((pre0.lt ixx hd1).a [.n 8]).l (map_row ixx 1 (dc hd1) rfl)).l (at_row ixx 1 h23 rfl))
    obtain ⟨h24, h⟩ | ⟨h24, h⟩ := den_if h
    · have h := den_some h; subst h; exact (o2_.b h24).ret hΓ
    · exact ((o2_.b h24).a [.cn [0, 1, 5] []]).ct hΓ hS1 (iS hd1 hm1) (ih1 (i1 + 1)  (dn hd1) h)
theorem d_laws_eqIntS_good {a0_ : List Int} {a1_ : List Int} {r : Bool} (h : d_laws_eqIntS a0_ a1_ = some r) : Good Try.prog 11 [D.sl ((a0_).map ixx), D.sl ((a1_).map ixx)] (D.bool (r)) := by
  refine gd Try.func11 [[none]] 26 fun hr Γ hΓ => ?_
  rw [d_laws_eqIntS] at h
  obtain ⟨h1, h⟩ | ⟨h1, h⟩ := den_if h
  · have h := den_some h; subst h; exact (pre0.b h1).ret hΓ
  · refine ((pre0.b h1).a [.cn [0, 1, 5] []]).lp hΓ (d_laws_eqIntS_L1w hΓ (fun h => ?_) (by have := (Rdb.sl (hr _ (List.mem_of_getElem? (i := 0) rfl))).1; simpa using this) (a0_) 0  rfl h)
    have h := den_some h; subst h; exact pre0.ret hΓ
def d_laws_eqStringS_L1 (a0_ : List Bytes) (a1_ : List Bytes) (k1 : Option Bool) : List Bytes → Nat → Option Bool
  | [], i1 => (k1 )
  | x1_ :: xs1, i1 => ((atI (a1_) ((i1 : Int))).bind fun x22 => (bif !((x1_ : Bytes) == (x22)) then (some (false)) else (d_laws_eqStringS_L1 a0_ a1_ k1 xs1 (i1 + 1) )))
def d_laws_eqStringS (a0_ : List Bytes) (a1_ : List Bytes) : Option Bool := (bif ((((a0_).map tx).length : Int) : Int) != ((((a1_).map tx).length : Int)) then (some (false)) else (d_laws_eqStringS_L1 a0_ a1_ (some (true)) (a0_) 0 ))
def d_laws_eqStringS_S1 (a0_ : List Bytes) (a1_ : List Bytes) (ix_ : Int) : St := ⟨[(0, D.sl ((a0_).map tx)), (1, D.sl ((a1_).map tx)), (5, D.int .i64 (ix_))], []⟩
theorem d_laws_eqStringS_L1w (hΓ : Γ.nt = 26) {a0_ : List Bytes} {a1_ : List Bytes} {r : Bool} {k1 : Option Bool} (hE1 : k1 = some r → Ax Γ N Try.f99 (.q [[none]] (D.bool (r))) [1, 1, 1] ⟨[], []⟩) (hm1 : (a0_).length ≤ maxLen) : ∀ (rest : List Bytes) (i1 : Nat) , (a0_).drop i1 = rest → d_laws_eqStringS_L1 a0_ a1_ k1 rest i1  = some r → Ar Γ N Try.f99 (.q [[none]] (D.bool (r))) [1, 1, 0, 1, 0] (rest.length + 1) (d_laws_eqStringS_S1 a0_ a1_ ((i1 : Int))) := by
  intro rest
  induction rest with
  | nil =>
    intro i1  hd1 h
    rw [d_laws_eqStringS_L1] at h
    refine AWr_succ fun N1 hN1 hS1 => ?_
    exact ((pre0.ge tx hd1).a [.hl 0 [] []]).ex hΓ hN1 (hE1 h)
  | cons x1_ xs1 ih1 =>
    intro i1  hd1 h
    rw [d_laws_eqStringS_L1] at h
    refine AWr_succ fun N1 hN1 hS1 => ?_
    obtain ⟨x22, h23, h⟩ := den_bind h
    have o2_ := ((((pre0.lt tx hd1).a [.n 8]).l (map_row tx 1 (dc hd1) rfl)).l (at_row tx 1 h23 rfl))
    obtain ⟨h24, h⟩ | ⟨h24, h⟩ := den_if h
    · have h := den_some h; subst h; exact (o2_.b h24).ret hΓ
    · exact ((o2_.b h24).a [.cn [0, 1, 5] []]).ct hΓ hS1 (iS hd1 hm1) (ih1 (i1 + 1)  (dn hd1) h)
theorem d_laws_eqStringS_good {a0_ : List Bytes} {a1_ : List Bytes} {r : Bool} (h : d_laws_eqStringS a0_ a1_ = some r) : Good Try.prog 99 [D.sl ((a0_).map tx), D.sl ((a1_).map tx)] (D.bool (r)) := by
  refine gd Try.func99 [[none]] 26 fun hr Γ hΓ => ?_
  rw [d_laws_eqStringS] at h
  obtain ⟨h1, h⟩ | ⟨h1, h⟩ := den_if h
  · have h := den_some h; subst h; exact (pre0.b h1).ret hΓ
  · refine ((pre0.b h1).a [.cn [0, 1, 5] []]).lp hΓ (d_laws_eqStringS_L1w hΓ (fun h => ?_) (by have := (Rdb.sl (hr _ (List.mem_of_getElem? (i := 0) rfl))).1; simpa using this) (a0_) 0  rfl h)
    have h := den_some h; subst h; exact pre0.ret hΓ
def d_laws_eqPattern (a0_ : Fact) (a1_ : Fact) : Option Bool := (bif !((a0_.rel : Bytes) == (a1_.rel)) then (some (false)) else ((d_laws_eqStringS (a0_.args) (a1_.args)).bind fun y2 => (bif !(y2) then (some (false)) else (some (true)))))
theorem d_laws_eqPattern_good {a0_ : Fact} {a1_ : Fact} {r : Bool} (h : d_laws_eqPattern a0_ a1_ = some r) : Good Try.prog 68 [D.agg (Fact.c a0_), D.agg (Fact.c a1_)] (D.bool (r)) := by
  refine gd Try.func68 [[none]] 16 fun hr Γ hΓ => ?_
  rw [d_laws_eqPattern] at h
  obtain ⟨h1, h⟩ | ⟨h1, h⟩ := den_if h
  · have h := den_some h; subst h; exact (pre0.b h1).ret hΓ
  · obtain ⟨y2, h3, h⟩ := den_bind h
    have o1_ := ((pre0.b h1).g (d_laws_eqStringS_good h3))
    obtain ⟨h4, h⟩ | ⟨h4, h⟩ := den_if h
    · have h := den_some h; subst h; exact (o1_.b h4).ret hΓ
    · have h := den_some h; subst h; exact (o1_.b h4).ret hΓ
def d_laws_eqCond (a0_ : Cond) (a1_ : Cond) : Option Bool := (bif (a0_.kind : Int) != (a1_.kind) then (some (false)) else ((d_laws_eqPattern (a0_.pat) (a1_.pat)).bind fun y2 => (bif !(y2) then (some (false)) else (bif !((a0_.left : Bytes) == (a1_.left)) then (some (false)) else (bif !((a0_.right : Bytes) == (a1_.right)) then (some (false)) else (some (true)))))))
theorem d_laws_eqCond_good {a0_ : Cond} {a1_ : Cond} {r : Bool} (h : d_laws_eqCond a0_ a1_ = some r) : Good Try.prog 42 [D.agg (Cond.c a0_), D.agg (Cond.c a1_)] (D.bool (r)) := by
  refine gd Try.func42 [[none]] 26 fun hr Γ hΓ => ?_
  rw [d_laws_eqCond] at h
  obtain ⟨h1, h⟩ | ⟨h1, h⟩ := den_if h
  · have h := den_some h; subst h; exact (pre0.b h1).ret hΓ
  · obtain ⟨y2, h3, h⟩ := den_bind h
    have o1_ := ((pre0.b h1).g (d_laws_eqPattern_good h3))
    obtain ⟨h4, h⟩ | ⟨h4, h⟩ := den_if h
    · have h := den_some h; subst h; exact (o1_.b h4).ret hΓ
    · obtain ⟨h5, h⟩ | ⟨h5, h⟩ := den_if h
      · have h := den_some h; subst h; exact ((o1_.b h4).b h5).ret hΓ
      · have o2_ := ((o1_.b h4).b h5)
        obtain ⟨h6, h⟩ | ⟨h6, h⟩ := den_if h
        · have h := den_some h; subst h; exact (o2_.b h6).ret hΓ
        · have h := den_some h; subst h; exact (o2_.b h6).ret hΓ
def d_laws_eqCondS_L1 (a0_ : List Cond) (a1_ : List Cond) (k1 : Option Bool) : List Cond → Nat → Option Bool
  | [], i1 => (k1 )
  | x1_ :: xs1, i1 => ((atI (a1_) ((i1 : Int))).bind fun x30 => ((d_laws_eqCond (x1_) (x30)).bind fun y32 => (bif !(y32) then (some (false)) else (d_laws_eqCondS_L1 a0_ a1_ k1 xs1 (i1 + 1) ))))
def d_laws_eqCondS (a0_ : List Cond) (a1_ : List Cond) : Option Bool := (bif ((((a0_).map Cond.c).length : Int) : Int) != ((((a1_).map Cond.c).length : Int)) then (some (false)) else (d_laws_eqCondS_L1 a0_ a1_ (some (true)) (a0_) 0 ))
def d_laws_eqCondS_S1 (a0_ : List Cond) (a1_ : List Cond) (ix_ : Int) : St := ⟨[(0, D.sl ((a0_).map Cond.c)), (1, D.sl ((a1_).map Cond.c)), (5, D.int .i64 (ix_))], []⟩
theorem d_laws_eqCondS_L1w (hΓ : Γ.nt = 27) {a0_ : List Cond} {a1_ : List Cond} {r : Bool} {k1 : Option Bool} (hE1 : k1 = some r → Ax Γ N Try.f18 (.q [[none]] (D.bool (r))) [1, 1, 1] ⟨[], []⟩) (hm1 : (a0_).length ≤ maxLen) : ∀ (rest : List Cond) (i1 : Nat) , (a0_).drop i1 = rest → d_laws_eqCondS_L1 a0_ a1_ k1 rest i1  = some r → Ar Γ N Try.f18 (.q [[none]] (D.bool (r))) [1, 1, 0, 1, 0] (rest.length + 1) (d_laws_eqCondS_S1 a0_ a1_ ((i1 : Int))) := by
  intro rest
  induction rest with
  | nil =>
    intro i1  hd1 h
    rw [d_laws_eqCondS_L1] at h
    refine AWr_succ fun N1 hN1 hS1 => ?_
    exact ((pre0.ge Cond.c hd1).a [.hl 0 [] []]).ex hΓ hN1 (hE1 h)
  | cons x1_ xs1 ih1 =>
    intro i1  hd1 h
    rw [d_laws_eqCondS_L1] at h
    refine AWr_succ fun N1 hN1 hS1 => ?_
    obtain ⟨x30, h31, h⟩ := den_bind h
    obtain ⟨y32, h33, h⟩ := den_bind h
    have o2_ := (((((pre0.lt Cond.c hd1).a [.n 8]).l (map_row Cond.c 5 (dc hd1) rfl)).l (at_row Cond.c 5 h31 rfl)).g (d_laws_eqCond_good h33))
    obtain ⟨h34, h⟩ | ⟨h34, h⟩ := den_if h
    · have h := den_some h; subst h; exact (o2_.b h34).ret hΓ
    · exact ((o2_.b h34).a [.cn [0, 1, 5] []]).ct hΓ hS1 (iS hd1 hm1) (ih1 (i1 + 1)  (dn hd1) h)
theorem d_laws_eqCondS_good {a0_ : List Cond} {a1_ : List Cond} {r : Bool} (h : d_laws_eqCondS a0_ a1_ = some r) : Good Try.prog 18 [D.sl ((a0_).map Cond.c), D.sl ((a1_).map Cond.c)] (D.bool (r)) := by
  refine gd Try.func18 [[none]] 27 fun hr Γ hΓ => ?_
  rw [d_laws_eqCondS] at h
  obtain ⟨h1, h⟩ | ⟨h1, h⟩ := den_if h
  · have h := den_some h; subst h; exact (pre0.b h1).ret hΓ
  · refine ((pre0.b h1).a [.cn [0, 1, 5] []]).lp hΓ (d_laws_eqCondS_L1w hΓ (fun h => ?_) (by have := (Rdb.sl (hr _ (List.mem_of_getElem? (i := 0) rfl))).1; simpa using this) (a0_) 0  rfl h)
    have h := den_some h; subst h; exact pre0.ret hΓ
def d_laws_eqAction (a0_ : Action) (a1_ : Action) : Option Bool := (bif (a0_.kind : Int) != (a1_.kind) then (some (false)) else ((d_laws_eqPattern (a0_.pat) (a1_.pat)).bind fun y2 => (bif !(y2) then (some (false)) else (some (true)))))
theorem d_laws_eqAction_good {a0_ : Action} {a1_ : Action} {r : Bool} (h : d_laws_eqAction a0_ a1_ = some r) : Good Try.prog 112 [D.agg (Action.c a0_), D.agg (Action.c a1_)] (D.bool (r)) := by
  refine gd Try.func112 [[none]] 16 fun hr Γ hΓ => ?_
  rw [d_laws_eqAction] at h
  obtain ⟨h1, h⟩ | ⟨h1, h⟩ := den_if h
  · have h := den_some h; subst h; exact (pre0.b h1).ret hΓ
  · obtain ⟨y2, h3, h⟩ := den_bind h
    have o1_ := ((pre0.b h1).g (d_laws_eqPattern_good h3))
    obtain ⟨h4, h⟩ | ⟨h4, h⟩ := den_if h
    · have h := den_some h; subst h; exact (o1_.b h4).ret hΓ
    · have h := den_some h; subst h; exact (o1_.b h4).ret hΓ
def d_laws_eqActionS_L1 (a0_ : List Action) (a1_ : List Action) (k1 : Option Bool) : List Action → Nat → Option Bool
  | [], i1 => (k1 )
  | x1_ :: xs1, i1 => ((atI (a1_) ((i1 : Int))).bind fun x30 => ((d_laws_eqAction (x1_) (x30)).bind fun y32 => (bif !(y32) then (some (false)) else (d_laws_eqActionS_L1 a0_ a1_ k1 xs1 (i1 + 1) ))))
def d_laws_eqActionS (a0_ : List Action) (a1_ : List Action) : Option Bool := (bif ((((a0_).map Action.c).length : Int) : Int) != ((((a1_).map Action.c).length : Int)) then (some (false)) else (d_laws_eqActionS_L1 a0_ a1_ (some (true)) (a0_) 0 ))
def d_laws_eqActionS_S1 (a0_ : List Action) (a1_ : List Action) (ix_ : Int) : St := ⟨[(0, D.sl ((a0_).map Action.c)), (1, D.sl ((a1_).map Action.c)), (5, D.int .i64 (ix_))], []⟩
theorem d_laws_eqActionS_L1w (hΓ : Γ.nt = 27) {a0_ : List Action} {a1_ : List Action} {r : Bool} {k1 : Option Bool} (hE1 : k1 = some r → Ax Γ N Try.f100 (.q [[none]] (D.bool (r))) [1, 1, 1] ⟨[], []⟩) (hm1 : (a0_).length ≤ maxLen) : ∀ (rest : List Action) (i1 : Nat) , (a0_).drop i1 = rest → d_laws_eqActionS_L1 a0_ a1_ k1 rest i1  = some r → Ar Γ N Try.f100 (.q [[none]] (D.bool (r))) [1, 1, 0, 1, 0] (rest.length + 1) (d_laws_eqActionS_S1 a0_ a1_ ((i1 : Int))) := by
  intro rest
  induction rest with
  | nil =>
    intro i1  hd1 h
    rw [d_laws_eqActionS_L1] at h
    refine AWr_succ fun N1 hN1 hS1 => ?_
    exact ((pre0.ge Action.c hd1).a [.hl 0 [] []]).ex hΓ hN1 (hE1 h)
  | cons x1_ xs1 ih1 =>
    intro i1  hd1 h
    rw [d_laws_eqActionS_L1] at h
    refine AWr_succ fun N1 hN1 hS1 => ?_
    obtain ⟨x30, h31, h⟩ := den_bind h
    obtain ⟨y32, h33, h⟩ := den_bind h
    have o2_ := (((((pre0.lt Action.c hd1).a [.n 8]).l (map_row Action.c 3 (dc hd1) rfl)).l (at_row Action.c 3 h31 rfl)).g (d_laws_eqAction_good h33))
    obtain ⟨h34, h⟩ | ⟨h34, h⟩ := den_if h
    · have h := den_some h; subst h; exact (o2_.b h34).ret hΓ
    · exact ((o2_.b h34).a [.cn [0, 1, 5] []]).ct hΓ hS1 (iS hd1 hm1) (ih1 (i1 + 1)  (dn hd1) h)
theorem d_laws_eqActionS_good {a0_ : List Action} {a1_ : List Action} {r : Bool} (h : d_laws_eqActionS a0_ a1_ = some r) : Good Try.prog 100 [D.sl ((a0_).map Action.c), D.sl ((a1_).map Action.c)] (D.bool (r)) := by
  refine gd Try.func100 [[none]] 27 fun hr Γ hΓ => ?_
  rw [d_laws_eqActionS] at h
  obtain ⟨h1, h⟩ | ⟨h1, h⟩ := den_if h
  · have h := den_some h; subst h; exact (pre0.b h1).ret hΓ
  · refine ((pre0.b h1).a [.cn [0, 1, 5] []]).lp hΓ (d_laws_eqActionS_L1w hΓ (fun h => ?_) (by have := (Rdb.sl (hr _ (List.mem_of_getElem? (i := 0) rfl))).1; simpa using this) (a0_) 0  rfl h)
    have h := den_some h; subst h; exact pre0.ret hΓ
def d_laws_eqRule (a0_ : Rule) (a1_ : Rule) : Option Bool := (bif !((a0_.name : Bytes) == (a1_.name)) then (some (false)) else (bif (a0_.prio : Int) != (a1_.prio) then (some (false)) else ((d_laws_eqCondS (a0_.conds) (a1_.conds)).bind fun y3 => (bif !(y3) then (some (false)) else ((d_laws_eqActionS (a0_.acts) (a1_.acts)).bind fun y6 => (bif !(y6) then (some (false)) else (some (true))))))))
theorem d_laws_eqRule_good {a0_ : Rule} {a1_ : Rule} {r : Bool} (h : d_laws_eqRule a0_ a1_ = some r) : Good Try.prog 69 [D.agg (Rule.c a0_), D.agg (Rule.c a1_)] (D.bool (r)) := by
  refine gd Try.func69 [[none]] 27 fun hr Γ hΓ => ?_
  rw [d_laws_eqRule] at h
  obtain ⟨h1, h⟩ | ⟨h1, h⟩ := den_if h
  · have h := den_some h; subst h; exact (pre0.b h1).ret hΓ
  · obtain ⟨h2, h⟩ | ⟨h2, h⟩ := den_if h
    · have h := den_some h; subst h; exact ((pre0.b h1).b h2).ret hΓ
    · obtain ⟨y3, h4, h⟩ := den_bind h
      have o1_ := (((pre0.b h1).b h2).g (d_laws_eqCondS_good h4))
      obtain ⟨h5, h⟩ | ⟨h5, h⟩ := den_if h
      · have h := den_some h; subst h; exact (o1_.b h5).ret hΓ
      · obtain ⟨y6, h7, h⟩ := den_bind h
        have o2_ := ((o1_.b h5).g (d_laws_eqActionS_good h7))
        obtain ⟨h8, h⟩ | ⟨h8, h⟩ := den_if h
        · have h := den_some h; subst h; exact (o2_.b h8).ret hΓ
        · have h := den_some h; subst h; exact (o2_.b h8).ret hΓ
def d_laws_eqRuleS_L1 (a0_ : List Rule) (a1_ : List Rule) (k1 : Option Bool) : List Rule → Nat → Option Bool
  | [], i1 => (k1 )
  | x1_ :: xs1, i1 => ((atI (a1_) ((i1 : Int))).bind fun x30 => ((d_laws_eqRule (x1_) (x30)).bind fun y32 => (bif !(y32) then (some (false)) else (d_laws_eqRuleS_L1 a0_ a1_ k1 xs1 (i1 + 1) ))))
def d_laws_eqRuleS (a0_ : List Rule) (a1_ : List Rule) : Option Bool := (bif ((((a0_).map Rule.c).length : Int) : Int) != ((((a1_).map Rule.c).length : Int)) then (some (false)) else (d_laws_eqRuleS_L1 a0_ a1_ (some (true)) (a0_) 0 ))
def d_laws_eqRuleS_S1 (a0_ : List Rule) (a1_ : List Rule) (ix_ : Int) : St := ⟨[(0, D.sl ((a0_).map Rule.c)), (1, D.sl ((a1_).map Rule.c)), (5, D.int .i64 (ix_))], []⟩
theorem d_laws_eqRuleS_L1w (hΓ : Γ.nt = 27) {a0_ : List Rule} {a1_ : List Rule} {r : Bool} {k1 : Option Bool} (hE1 : k1 = some r → Ax Γ N Try.f43 (.q [[none]] (D.bool (r))) [1, 1, 1] ⟨[], []⟩) (hm1 : (a0_).length ≤ maxLen) : ∀ (rest : List Rule) (i1 : Nat) , (a0_).drop i1 = rest → d_laws_eqRuleS_L1 a0_ a1_ k1 rest i1  = some r → Ar Γ N Try.f43 (.q [[none]] (D.bool (r))) [1, 1, 0, 1, 0] (rest.length + 1) (d_laws_eqRuleS_S1 a0_ a1_ ((i1 : Int))) := by
  intro rest
  induction rest with
  | nil =>
    intro i1  hd1 h
    rw [d_laws_eqRuleS_L1] at h
    refine AWr_succ fun N1 hN1 hS1 => ?_
    exact ((pre0.ge Rule.c hd1).a [.hl 0 [] []]).ex hΓ hN1 (hE1 h)
  | cons x1_ xs1 ih1 =>
    intro i1  hd1 h
    rw [d_laws_eqRuleS_L1] at h
    refine AWr_succ fun N1 hN1 hS1 => ?_
    obtain ⟨x30, h31, h⟩ := den_bind h
    obtain ⟨y32, h33, h⟩ := den_bind h
    have o2_ := (((((pre0.lt Rule.c hd1).a [.n 8]).l (map_row Rule.c 4 (dc hd1) rfl)).l (at_row Rule.c 4 h31 rfl)).g (d_laws_eqRule_good h33))
    obtain ⟨h34, h⟩ | ⟨h34, h⟩ := den_if h
    · have h := den_some h; subst h; exact (o2_.b h34).ret hΓ
    · exact ((o2_.b h34).a [.cn [0, 1, 5] []]).ct hΓ hS1 (iS hd1 hm1) (ih1 (i1 + 1)  (dn hd1) h)
theorem d_laws_eqRuleS_good {a0_ : List Rule} {a1_ : List Rule} {r : Bool} (h : d_laws_eqRuleS a0_ a1_ = some r) : Good Try.prog 43 [D.sl ((a0_).map Rule.c), D.sl ((a1_).map Rule.c)] (D.bool (r)) := by
  refine gd Try.func43 [[none]] 27 fun hr Γ hΓ => ?_
  rw [d_laws_eqRuleS] at h
  obtain ⟨h1, h⟩ | ⟨h1, h⟩ := den_if h
  · have h := den_some h; subst h; exact (pre0.b h1).ret hΓ
  · refine ((pre0.b h1).a [.cn [0, 1, 5] []]).lp hΓ (d_laws_eqRuleS_L1w hΓ (fun h => ?_) (by have := (Rdb.sl (hr _ (List.mem_of_getElem? (i := 0) rfl))).1; simpa using this) (a0_) 0  rfl h)
    have h := den_some h; subst h; exact pre0.ret hΓ
def d_laws_eqFact (a0_ : Fact) (a1_ : Fact) : Option Bool := (bif !((a0_.rel : Bytes) == (a1_.rel)) then (some (false)) else ((d_laws_eqStringS (a0_.args) (a1_.args)).bind fun y2 => (bif !(y2) then (some (false)) else (some (true)))))
theorem d_laws_eqFact_good {a0_ : Fact} {a1_ : Fact} {r : Bool} (h : d_laws_eqFact a0_ a1_ = some r) : Good Try.prog 72 [D.agg (Fact.c a0_), D.agg (Fact.c a1_)] (D.bool (r)) := by
  refine gd Try.func72 [[none]] 16 fun hr Γ hΓ => ?_
  rw [d_laws_eqFact] at h
  obtain ⟨h1, h⟩ | ⟨h1, h⟩ := den_if h
  · have h := den_some h; subst h; exact (pre0.b h1).ret hΓ
  · obtain ⟨y2, h3, h⟩ := den_bind h
    have o1_ := ((pre0.b h1).g (d_laws_eqStringS_good h3))
    obtain ⟨h4, h⟩ | ⟨h4, h⟩ := den_if h
    · have h := den_some h; subst h; exact (o1_.b h4).ret hΓ
    · have h := den_some h; subst h; exact (o1_.b h4).ret hΓ
def d_laws_eqFactS_L1 (a0_ : List Fact) (a1_ : List Fact) (k1 : Option Bool) : List Fact → Nat → Option Bool
  | [], i1 => (k1 )
  | x1_ :: xs1, i1 => ((atI (a1_) ((i1 : Int))).bind fun x30 => ((d_laws_eqFact (x1_) (x30)).bind fun y32 => (bif !(y32) then (some (false)) else (d_laws_eqFactS_L1 a0_ a1_ k1 xs1 (i1 + 1) ))))
def d_laws_eqFactS (a0_ : List Fact) (a1_ : List Fact) : Option Bool := (bif ((((a0_).map Fact.c).length : Int) : Int) != ((((a1_).map Fact.c).length : Int)) then (some (false)) else (d_laws_eqFactS_L1 a0_ a1_ (some (true)) (a0_) 0 ))
def d_laws_eqFactS_S1 (a0_ : List Fact) (a1_ : List Fact) (ix_ : Int) : St := ⟨[(0, D.sl ((a0_).map Fact.c)), (1, D.sl ((a1_).map Fact.c)), (5, D.int .i64 (ix_))], []⟩
theorem d_laws_eqFactS_L1w (hΓ : Γ.nt = 27) {a0_ : List Fact} {a1_ : List Fact} {r : Bool} {k1 : Option Bool} (hE1 : k1 = some r → Ax Γ N Try.f46 (.q [[none]] (D.bool (r))) [1, 1, 1] ⟨[], []⟩) (hm1 : (a0_).length ≤ maxLen) : ∀ (rest : List Fact) (i1 : Nat) , (a0_).drop i1 = rest → d_laws_eqFactS_L1 a0_ a1_ k1 rest i1  = some r → Ar Γ N Try.f46 (.q [[none]] (D.bool (r))) [1, 1, 0, 1, 0] (rest.length + 1) (d_laws_eqFactS_S1 a0_ a1_ ((i1 : Int))) := by
  intro rest
  induction rest with
  | nil =>
    intro i1  hd1 h
    rw [d_laws_eqFactS_L1] at h
    refine AWr_succ fun N1 hN1 hS1 => ?_
    exact ((pre0.ge Fact.c hd1).a [.hl 0 [] []]).ex hΓ hN1 (hE1 h)
  | cons x1_ xs1 ih1 =>
    intro i1  hd1 h
    rw [d_laws_eqFactS_L1] at h
    refine AWr_succ fun N1 hN1 hS1 => ?_
    obtain ⟨x30, h31, h⟩ := den_bind h
    obtain ⟨y32, h33, h⟩ := den_bind h
    have o2_ := (((((pre0.lt Fact.c hd1).a [.n 8]).l (map_row Fact.c 2 (dc hd1) rfl)).l (at_row Fact.c 2 h31 rfl)).g (d_laws_eqFact_good h33))
    obtain ⟨h34, h⟩ | ⟨h34, h⟩ := den_if h
    · have h := den_some h; subst h; exact (o2_.b h34).ret hΓ
    · exact ((o2_.b h34).a [.cn [0, 1, 5] []]).ct hΓ hS1 (iS hd1 hm1) (ih1 (i1 + 1)  (dn hd1) h)
theorem d_laws_eqFactS_good {a0_ : List Fact} {a1_ : List Fact} {r : Bool} (h : d_laws_eqFactS a0_ a1_ = some r) : Good Try.prog 46 [D.sl ((a0_).map Fact.c), D.sl ((a1_).map Fact.c)] (D.bool (r)) := by
  refine gd Try.func46 [[none]] 27 fun hr Γ hΓ => ?_
  rw [d_laws_eqFactS] at h
  obtain ⟨h1, h⟩ | ⟨h1, h⟩ := den_if h
  · have h := den_some h; subst h; exact (pre0.b h1).ret hΓ
  · refine ((pre0.b h1).a [.cn [0, 1, 5] []]).lp hΓ (d_laws_eqFactS_L1w hΓ (fun h => ?_) (by have := (Rdb.sl (hr _ (List.mem_of_getElem? (i := 0) rfl))).1; simpa using this) (a0_) 0  rfl h)
    have h := den_some h; subst h; exact pre0.ret hΓ
def d_laws_eqAlpha (a0_ : Alpha) (a1_ : Alpha) : Option Bool := ((d_laws_eqPattern (a0_.shape) (a1_.shape)).bind fun y1 => (bif !(y1) then (some (false)) else ((d_laws_eqFactS (a0_.facts) (a1_.facts)).bind fun y4 => (bif !(y4) then (some (false)) else (some (true))))))
theorem d_laws_eqAlpha_good {a0_ : Alpha} {a1_ : Alpha} {r : Bool} (h : d_laws_eqAlpha a0_ a1_ = some r) : Good Try.prog 70 [D.agg (Alpha.c a0_), D.agg (Alpha.c a1_)] (D.bool (r)) := by
  refine gd Try.func70 [[none]] 17 fun hr Γ hΓ => ?_
  rw [d_laws_eqAlpha] at h
  obtain ⟨y1, h2, h⟩ := den_bind h
  obtain ⟨h3, h⟩ | ⟨h3, h⟩ := den_if h
  · have h := den_some h; subst h; exact ((pre0.g (d_laws_eqPattern_good h2)).b h3).ret hΓ
  · obtain ⟨y4, h5, h⟩ := den_bind h
    have o1_ := (((pre0.g (d_laws_eqPattern_good h2)).b h3).g (d_laws_eqFactS_good h5))
    obtain ⟨h6, h⟩ | ⟨h6, h⟩ := den_if h
    · have h := den_some h; subst h; exact (o1_.b h6).ret hΓ
    · have h := den_some h; subst h; exact (o1_.b h6).ret hΓ
def d_laws_eqAlphaS_L1 (a0_ : List Alpha) (a1_ : List Alpha) (k1 : Option Bool) : List Alpha → Nat → Option Bool
  | [], i1 => (k1 )
  | x1_ :: xs1, i1 => ((atI (a1_) ((i1 : Int))).bind fun x30 => ((d_laws_eqAlpha (x1_) (x30)).bind fun y32 => (bif !(y32) then (some (false)) else (d_laws_eqAlphaS_L1 a0_ a1_ k1 xs1 (i1 + 1) ))))
def d_laws_eqAlphaS (a0_ : List Alpha) (a1_ : List Alpha) : Option Bool := (bif ((((a0_).map Alpha.c).length : Int) : Int) != ((((a1_).map Alpha.c).length : Int)) then (some (false)) else (d_laws_eqAlphaS_L1 a0_ a1_ (some (true)) (a0_) 0 ))
def d_laws_eqAlphaS_S1 (a0_ : List Alpha) (a1_ : List Alpha) (ix_ : Int) : St := ⟨[(0, D.sl ((a0_).map Alpha.c)), (1, D.sl ((a1_).map Alpha.c)), (5, D.int .i64 (ix_))], []⟩
theorem d_laws_eqAlphaS_L1w (hΓ : Γ.nt = 27) {a0_ : List Alpha} {a1_ : List Alpha} {r : Bool} {k1 : Option Bool} (hE1 : k1 = some r → Ax Γ N Try.f44 (.q [[none]] (D.bool (r))) [1, 1, 1] ⟨[], []⟩) (hm1 : (a0_).length ≤ maxLen) : ∀ (rest : List Alpha) (i1 : Nat) , (a0_).drop i1 = rest → d_laws_eqAlphaS_L1 a0_ a1_ k1 rest i1  = some r → Ar Γ N Try.f44 (.q [[none]] (D.bool (r))) [1, 1, 0, 1, 0] (rest.length + 1) (d_laws_eqAlphaS_S1 a0_ a1_ ((i1 : Int))) := by
  intro rest
  induction rest with
  | nil =>
    intro i1  hd1 h
    rw [d_laws_eqAlphaS_L1] at h
    refine AWr_succ fun N1 hN1 hS1 => ?_
    exact ((pre0.ge Alpha.c hd1).a [.hl 0 [] []]).ex hΓ hN1 (hE1 h)
  | cons x1_ xs1 ih1 =>
    intro i1  hd1 h
    rw [d_laws_eqAlphaS_L1] at h
    refine AWr_succ fun N1 hN1 hS1 => ?_
    obtain ⟨x30, h31, h⟩ := den_bind h
    obtain ⟨y32, h33, h⟩ := den_bind h
    have o2_ := (((((pre0.lt Alpha.c hd1).a [.n 8]).l (map_row Alpha.c 3 (dc hd1) rfl)).l (at_row Alpha.c 3 h31 rfl)).g (d_laws_eqAlpha_good h33))
    obtain ⟨h34, h⟩ | ⟨h34, h⟩ := den_if h
    · have h := den_some h; subst h; exact (o2_.b h34).ret hΓ
    · exact ((o2_.b h34).a [.cn [0, 1, 5] []]).ct hΓ hS1 (iS hd1 hm1) (ih1 (i1 + 1)  (dn hd1) h)
theorem d_laws_eqAlphaS_good {a0_ : List Alpha} {a1_ : List Alpha} {r : Bool} (h : d_laws_eqAlphaS a0_ a1_ = some r) : Good Try.prog 44 [D.sl ((a0_).map Alpha.c), D.sl ((a1_).map Alpha.c)] (D.bool (r)) := by
  refine gd Try.func44 [[none]] 27 fun hr Γ hΓ => ?_
  rw [d_laws_eqAlphaS] at h
  obtain ⟨h1, h⟩ | ⟨h1, h⟩ := den_if h
  · have h := den_some h; subst h; exact (pre0.b h1).ret hΓ
  · refine ((pre0.b h1).a [.cn [0, 1, 5] []]).lp hΓ (d_laws_eqAlphaS_L1w hΓ (fun h => ?_) (by have := (Rdb.sl (hr _ (List.mem_of_getElem? (i := 0) rfl))).1; simpa using this) (a0_) 0  rfl h)
    have h := den_some h; subst h; exact pre0.ret hΓ
def d_laws_eqPair (a0_ : Pair) (a1_ : Pair) : Option Bool := (bif !((a0_.var : Bytes) == (a1_.var)) then (some (false)) else (bif !((a0_.value : Bytes) == (a1_.value)) then (some (false)) else (some (true))))
theorem d_laws_eqPair_good {a0_ : Pair} {a1_ : Pair} {r : Bool} (h : d_laws_eqPair a0_ a1_ = some r) : Good Try.prog 120 [D.agg (Pair.c a0_), D.agg (Pair.c a1_)] (D.bool (r)) := by
  refine gd Try.func120 [[none]] 15 fun hr Γ hΓ => ?_
  rw [d_laws_eqPair] at h
  obtain ⟨h1, h⟩ | ⟨h1, h⟩ := den_if h
  · have h := den_some h; subst h; exact (pre0.b h1).ret hΓ
  · obtain ⟨h2, h⟩ | ⟨h2, h⟩ := den_if h
    · have h := den_some h; subst h; exact ((pre0.b h1).b h2).ret hΓ
    · have h := den_some h; subst h; exact ((pre0.b h1).b h2).ret hΓ
def d_laws_eqPairS_L1 (a0_ : List Pair) (a1_ : List Pair) (k1 : Option Bool) : List Pair → Nat → Option Bool
  | [], i1 => (k1 )
  | x1_ :: xs1, i1 => ((atI (a1_) ((i1 : Int))).bind fun x30 => ((d_laws_eqPair (x1_) (x30)).bind fun y32 => (bif !(y32) then (some (false)) else (d_laws_eqPairS_L1 a0_ a1_ k1 xs1 (i1 + 1) ))))
def d_laws_eqPairS (a0_ : List Pair) (a1_ : List Pair) : Option Bool := (bif ((((a0_).map Pair.c).length : Int) : Int) != ((((a1_).map Pair.c).length : Int)) then (some (false)) else (d_laws_eqPairS_L1 a0_ a1_ (some (true)) (a0_) 0 ))
def d_laws_eqPairS_S1 (a0_ : List Pair) (a1_ : List Pair) (ix_ : Int) : St := ⟨[(0, D.sl ((a0_).map Pair.c)), (1, D.sl ((a1_).map Pair.c)), (5, D.int .i64 (ix_))], []⟩
theorem d_laws_eqPairS_L1w (hΓ : Γ.nt = 27) {a0_ : List Pair} {a1_ : List Pair} {r : Bool} {k1 : Option Bool} (hE1 : k1 = some r → Ax Γ N Try.f117 (.q [[none]] (D.bool (r))) [1, 1, 1] ⟨[], []⟩) (hm1 : (a0_).length ≤ maxLen) : ∀ (rest : List Pair) (i1 : Nat) , (a0_).drop i1 = rest → d_laws_eqPairS_L1 a0_ a1_ k1 rest i1  = some r → Ar Γ N Try.f117 (.q [[none]] (D.bool (r))) [1, 1, 0, 1, 0] (rest.length + 1) (d_laws_eqPairS_S1 a0_ a1_ ((i1 : Int))) := by
  intro rest
  induction rest with
  | nil =>
    intro i1  hd1 h
    rw [d_laws_eqPairS_L1] at h
    refine AWr_succ fun N1 hN1 hS1 => ?_
    exact ((pre0.ge Pair.c hd1).a [.hl 0 [] []]).ex hΓ hN1 (hE1 h)
  | cons x1_ xs1 ih1 =>
    intro i1  hd1 h
    rw [d_laws_eqPairS_L1] at h
    refine AWr_succ fun N1 hN1 hS1 => ?_
    obtain ⟨x30, h31, h⟩ := den_bind h
    obtain ⟨y32, h33, h⟩ := den_bind h
    have o2_ := (((((pre0.lt Pair.c hd1).a [.n 8]).l (map_row Pair.c 2 (dc hd1) rfl)).l (at_row Pair.c 2 h31 rfl)).g (d_laws_eqPair_good h33))
    obtain ⟨h34, h⟩ | ⟨h34, h⟩ := den_if h
    · have h := den_some h; subst h; exact (o2_.b h34).ret hΓ
    · exact ((o2_.b h34).a [.cn [0, 1, 5] []]).ct hΓ hS1 (iS hd1 hm1) (ih1 (i1 + 1)  (dn hd1) h)
theorem d_laws_eqPairS_good {a0_ : List Pair} {a1_ : List Pair} {r : Bool} (h : d_laws_eqPairS a0_ a1_ = some r) : Good Try.prog 117 [D.sl ((a0_).map Pair.c), D.sl ((a1_).map Pair.c)] (D.bool (r)) := by
  refine gd Try.func117 [[none]] 27 fun hr Γ hΓ => ?_
  rw [d_laws_eqPairS] at h
  obtain ⟨h1, h⟩ | ⟨h1, h⟩ := den_if h
  · have h := den_some h; subst h; exact (pre0.b h1).ret hΓ
  · refine ((pre0.b h1).a [.cn [0, 1, 5] []]).lp hΓ (d_laws_eqPairS_L1w hΓ (fun h => ?_) (by have := (Rdb.sl (hr _ (List.mem_of_getElem? (i := 0) rfl))).1; simpa using this) (a0_) 0  rfl h)
    have h := den_some h; subst h; exact pre0.ret hΓ
def d_laws_eqToken (a0_ : Token) (a1_ : Token) : Option Bool := ((d_laws_eqFactS (a0_.facts) (a1_.facts)).bind fun y1 => (bif !(y1) then (some (false)) else ((d_laws_eqPairS (a0_.bind) (a1_.bind)).bind fun y4 => (bif !(y4) then (some (false)) else (some (true))))))
theorem d_laws_eqToken_good {a0_ : Token} {a1_ : Token} {r : Bool} (h : d_laws_eqToken a0_ a1_ = some r) : Good Try.prog 113 [D.agg (Token.c a0_), D.agg (Token.c a1_)] (D.bool (r)) := by
  refine gd Try.func113 [[none]] 17 fun hr Γ hΓ => ?_
  rw [d_laws_eqToken] at h
  obtain ⟨y1, h2, h⟩ := den_bind h
  obtain ⟨h3, h⟩ | ⟨h3, h⟩ := den_if h
  · have h := den_some h; subst h; exact ((pre0.g (d_laws_eqFactS_good h2)).b h3).ret hΓ
  · obtain ⟨y4, h5, h⟩ := den_bind h
    have o1_ := (((pre0.g (d_laws_eqFactS_good h2)).b h3).g (d_laws_eqPairS_good h5))
    obtain ⟨h6, h⟩ | ⟨h6, h⟩ := den_if h
    · have h := den_some h; subst h; exact (o1_.b h6).ret hΓ
    · have h := den_some h; subst h; exact (o1_.b h6).ret hΓ
def d_laws_eqTokenS_L1 (a0_ : List Token) (a1_ : List Token) (k1 : Option Bool) : List Token → Nat → Option Bool
  | [], i1 => (k1 )
  | x1_ :: xs1, i1 => ((atI (a1_) ((i1 : Int))).bind fun x30 => ((d_laws_eqToken (x1_) (x30)).bind fun y32 => (bif !(y32) then (some (false)) else (d_laws_eqTokenS_L1 a0_ a1_ k1 xs1 (i1 + 1) ))))
def d_laws_eqTokenS (a0_ : List Token) (a1_ : List Token) : Option Bool := (bif ((((a0_).map Token.c).length : Int) : Int) != ((((a1_).map Token.c).length : Int)) then (some (false)) else (d_laws_eqTokenS_L1 a0_ a1_ (some (true)) (a0_) 0 ))
def d_laws_eqTokenS_S1 (a0_ : List Token) (a1_ : List Token) (ix_ : Int) : St := ⟨[(0, D.sl ((a0_).map Token.c)), (1, D.sl ((a1_).map Token.c)), (5, D.int .i64 (ix_))], []⟩
theorem d_laws_eqTokenS_L1w (hΓ : Γ.nt = 27) {a0_ : List Token} {a1_ : List Token} {r : Bool} {k1 : Option Bool} (hE1 : k1 = some r → Ax Γ N Try.f101 (.q [[none]] (D.bool (r))) [1, 1, 1] ⟨[], []⟩) (hm1 : (a0_).length ≤ maxLen) : ∀ (rest : List Token) (i1 : Nat) , (a0_).drop i1 = rest → d_laws_eqTokenS_L1 a0_ a1_ k1 rest i1  = some r → Ar Γ N Try.f101 (.q [[none]] (D.bool (r))) [1, 1, 0, 1, 0] (rest.length + 1) (d_laws_eqTokenS_S1 a0_ a1_ ((i1 : Int))) := by
  intro rest
  induction rest with
  | nil =>
    intro i1  hd1 h
    rw [d_laws_eqTokenS_L1] at h
    refine AWr_succ fun N1 hN1 hS1 => ?_
    exact ((pre0.ge Token.c hd1).a [.hl 0 [] []]).ex hΓ hN1 (hE1 h)
  | cons x1_ xs1 ih1 =>
    intro i1  hd1 h
    rw [d_laws_eqTokenS_L1] at h
    refine AWr_succ fun N1 hN1 hS1 => ?_
    obtain ⟨x30, h31, h⟩ := den_bind h
    obtain ⟨y32, h33, h⟩ := den_bind h
    have o2_ := (((((pre0.lt Token.c hd1).a [.n 8]).l (map_row Token.c 2 (dc hd1) rfl)).l (at_row Token.c 2 h31 rfl)).g (d_laws_eqToken_good h33))
    obtain ⟨h34, h⟩ | ⟨h34, h⟩ := den_if h
    · have h := den_some h; subst h; exact (o2_.b h34).ret hΓ
    · exact ((o2_.b h34).a [.cn [0, 1, 5] []]).ct hΓ hS1 (iS hd1 hm1) (ih1 (i1 + 1)  (dn hd1) h)
theorem d_laws_eqTokenS_good {a0_ : List Token} {a1_ : List Token} {r : Bool} (h : d_laws_eqTokenS a0_ a1_ = some r) : Good Try.prog 101 [D.sl ((a0_).map Token.c), D.sl ((a1_).map Token.c)] (D.bool (r)) := by
  refine gd Try.func101 [[none]] 27 fun hr Γ hΓ => ?_
  rw [d_laws_eqTokenS] at h
  obtain ⟨h1, h⟩ | ⟨h1, h⟩ := den_if h
  · have h := den_some h; subst h; exact (pre0.b h1).ret hΓ
  · refine ((pre0.b h1).a [.cn [0, 1, 5] []]).lp hΓ (d_laws_eqTokenS_L1w hΓ (fun h => ?_) (by have := (Rdb.sl (hr _ (List.mem_of_getElem? (i := 0) rfl))).1; simpa using this) (a0_) 0  rfl h)
    have h := den_some h; subst h; exact pre0.ret hΓ
def d_laws_eqNode (a0_ : Node) (a1_ : Node) : Option Bool := (bif (a0_.parent : Int) != (a1_.parent) then (some (false)) else ((d_laws_eqCond (a0_.cond) (a1_.cond)).bind fun y2 => (bif !(y2) then (some (false)) else (bif (a0_.alpha : Int) != (a1_.alpha) then (some (false)) else ((d_laws_eqTokenS (a0_.tokens) (a1_.tokens)).bind fun y6 => (bif !(y6) then (some (false)) else (some (true))))))))
theorem d_laws_eqNode_good {a0_ : Node} {a1_ : Node} {r : Bool} (h : d_laws_eqNode a0_ a1_ = some r) : Good Try.prog 71 [D.agg (Node.c a0_), D.agg (Node.c a1_)] (D.bool (r)) := by
  refine gd Try.func71 [[none]] 27 fun hr Γ hΓ => ?_
  rw [d_laws_eqNode] at h
  obtain ⟨h1, h⟩ | ⟨h1, h⟩ := den_if h
  · have h := den_some h; subst h; exact (pre0.b h1).ret hΓ
  · obtain ⟨y2, h3, h⟩ := den_bind h
    have o1_ := ((pre0.b h1).g (d_laws_eqCond_good h3))
    obtain ⟨h4, h⟩ | ⟨h4, h⟩ := den_if h
    · have h := den_some h; subst h; exact (o1_.b h4).ret hΓ
    · obtain ⟨h5, h⟩ | ⟨h5, h⟩ := den_if h
      · have h := den_some h; subst h; exact ((o1_.b h4).b h5).ret hΓ
      · obtain ⟨y6, h7, h⟩ := den_bind h
        have o2_ := (((o1_.b h4).b h5).g (d_laws_eqTokenS_good h7))
        obtain ⟨h8, h⟩ | ⟨h8, h⟩ := den_if h
        · have h := den_some h; subst h; exact (o2_.b h8).ret hΓ
        · have h := den_some h; subst h; exact (o2_.b h8).ret hΓ
def d_laws_eqNodeS_L1 (a0_ : List Node) (a1_ : List Node) (k1 : Option Bool) : List Node → Nat → Option Bool
  | [], i1 => (k1 )
  | x1_ :: xs1, i1 => ((atI (a1_) ((i1 : Int))).bind fun x30 => ((d_laws_eqNode (x1_) (x30)).bind fun y32 => (bif !(y32) then (some (false)) else (d_laws_eqNodeS_L1 a0_ a1_ k1 xs1 (i1 + 1) ))))
def d_laws_eqNodeS (a0_ : List Node) (a1_ : List Node) : Option Bool := (bif ((((a0_).map Node.c).length : Int) : Int) != ((((a1_).map Node.c).length : Int)) then (some (false)) else (d_laws_eqNodeS_L1 a0_ a1_ (some (true)) (a0_) 0 ))
def d_laws_eqNodeS_S1 (a0_ : List Node) (a1_ : List Node) (ix_ : Int) : St := ⟨[(0, D.sl ((a0_).map Node.c)), (1, D.sl ((a1_).map Node.c)), (5, D.int .i64 (ix_))], []⟩
theorem d_laws_eqNodeS_L1w (hΓ : Γ.nt = 27) {a0_ : List Node} {a1_ : List Node} {r : Bool} {k1 : Option Bool} (hE1 : k1 = some r → Ax Γ N Try.f45 (.q [[none]] (D.bool (r))) [1, 1, 1] ⟨[], []⟩) (hm1 : (a0_).length ≤ maxLen) : ∀ (rest : List Node) (i1 : Nat) , (a0_).drop i1 = rest → d_laws_eqNodeS_L1 a0_ a1_ k1 rest i1  = some r → Ar Γ N Try.f45 (.q [[none]] (D.bool (r))) [1, 1, 0, 1, 0] (rest.length + 1) (d_laws_eqNodeS_S1 a0_ a1_ ((i1 : Int))) := by
  intro rest
  induction rest with
  | nil =>
    intro i1  hd1 h
    rw [d_laws_eqNodeS_L1] at h
    refine AWr_succ fun N1 hN1 hS1 => ?_
    exact ((pre0.ge Node.c hd1).a [.hl 0 [] []]).ex hΓ hN1 (hE1 h)
  | cons x1_ xs1 ih1 =>
    intro i1  hd1 h
    rw [d_laws_eqNodeS_L1] at h
    refine AWr_succ fun N1 hN1 hS1 => ?_
    obtain ⟨x30, h31, h⟩ := den_bind h
    obtain ⟨y32, h33, h⟩ := den_bind h
    have o2_ := (((((pre0.lt Node.c hd1).a [.n 8]).l (map_row Node.c 8 (dc hd1) rfl)).l (at_row Node.c 8 h31 rfl)).g (d_laws_eqNode_good h33))
    obtain ⟨h34, h⟩ | ⟨h34, h⟩ := den_if h
    · have h := den_some h; subst h; exact (o2_.b h34).ret hΓ
    · exact ((o2_.b h34).a [.cn [0, 1, 5] []]).ct hΓ hS1 (iS hd1 hm1) (ih1 (i1 + 1)  (dn hd1) h)
theorem d_laws_eqNodeS_good {a0_ : List Node} {a1_ : List Node} {r : Bool} (h : d_laws_eqNodeS a0_ a1_ = some r) : Good Try.prog 45 [D.sl ((a0_).map Node.c), D.sl ((a1_).map Node.c)] (D.bool (r)) := by
  refine gd Try.func45 [[none]] 27 fun hr Γ hΓ => ?_
  rw [d_laws_eqNodeS] at h
  obtain ⟨h1, h⟩ | ⟨h1, h⟩ := den_if h
  · have h := den_some h; subst h; exact (pre0.b h1).ret hΓ
  · refine ((pre0.b h1).a [.cn [0, 1, 5] []]).lp hΓ (d_laws_eqNodeS_L1w hΓ (fun h => ?_) (by have := (Rdb.sl (hr _ (List.mem_of_getElem? (i := 0) rfl))).1; simpa using this) (a0_) 0  rfl h)
    have h := den_some h; subst h; exact pre0.ret hΓ
def d_laws_eqNetwork (a0_ : Network) (a1_ : Network) : Option Bool := ((d_laws_eqRuleS (a0_.rules) (a1_.rules)).bind fun y1 => (bif !(y1) then (some (false)) else ((d_laws_eqIntS (a0_.ends) (a1_.ends)).bind fun y4 => (bif !(y4) then (some (false)) else ((d_laws_eqAlphaS (a0_.alphas) (a1_.alphas)).bind fun y7 => (bif !(y7) then (some (false)) else ((d_laws_eqNodeS (a0_.nodes) (a1_.nodes)).bind fun y10 => (bif !(y10) then (some (false)) else ((d_laws_eqFactS (a0_.facts) (a1_.facts)).bind fun y13 => (bif !(y13) then (some (false)) else (bif (a0_.tries : Int) != (a1_.tries) then (some (false)) else (some (true)))))))))))))
theorem d_laws_eqNetwork_good {a0_ : Network} {a1_ : Network} {r : Bool} (h : d_laws_eqNetwork a0_ a1_ = some r) : Good Try.prog 19 [D.agg (Network.c a0_), D.agg (Network.c a1_)] (D.bool (r)) := by
  refine gd Try.func19 [[none]] 40 fun hr Γ hΓ => ?_
  rw [d_laws_eqNetwork] at h
  obtain ⟨y1, h2, h⟩ := den_bind h
  obtain ⟨h3, h⟩ | ⟨h3, h⟩ := den_if h
  · have h := den_some h; subst h; exact ((pre0.g (d_laws_eqRuleS_good h2)).b h3).ret hΓ
  · obtain ⟨y4, h5, h⟩ := den_bind h
    have o1_ := (((pre0.g (d_laws_eqRuleS_good h2)).b h3).g (d_laws_eqIntS_good h5))
    obtain ⟨h6, h⟩ | ⟨h6, h⟩ := den_if h
    · have h := den_some h; subst h; exact (o1_.b h6).ret hΓ
    · obtain ⟨y7, h8, h⟩ := den_bind h
      have o2_ := ((o1_.b h6).g (d_laws_eqAlphaS_good h8))
      obtain ⟨h9, h⟩ | ⟨h9, h⟩ := den_if h
      · have h := den_some h; subst h; exact (o2_.b h9).ret hΓ
      · obtain ⟨y10, h11, h⟩ := den_bind h
        have o3_ := ((o2_.b h9).g (d_laws_eqNodeS_good h11))
        obtain ⟨h12, h⟩ | ⟨h12, h⟩ := den_if h
        · have h := den_some h; subst h; exact (o3_.b h12).ret hΓ
        · obtain ⟨y13, h14, h⟩ := den_bind h
          have o4_ := ((o3_.b h12).g (d_laws_eqFactS_good h14))
          obtain ⟨h15, h⟩ | ⟨h15, h⟩ := den_if h
          · have h := den_some h; subst h; exact (o4_.b h15).ret hΓ
          · obtain ⟨h16, h⟩ | ⟨h16, h⟩ := den_if h
            · have h := den_some h; subst h; exact ((o4_.b h15).b h16).ret hΓ
            · have h := den_some h; subst h; exact ((o4_.b h15).b h16).ret hΓ
end Go.Cx
