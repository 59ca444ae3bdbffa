/- What functions of the program compute, and the walks that show it. No condition. -/
import Derived.Test.YtoeenpcilfhjbaaDoorNData
namespace Go.Cx
open Go.RowKit Go.Proofs
set_option linter.unusedVariables false
set_option linter.unusedSimpArgs false
set_option maxRecDepth 100000
variable {Γ : Ctx} {N : Nat → St → Prop}
def d_laws_eqStringS_L1 (a0_ : List Bytes) (a1_ : List Bytes) (k1 : Option Bool) : List Bytes → Nat → Option Bool
  | [], i1 => (k1 )
  | x1_ :: xs1, i1 => ((atI (a1_) ((i1 : Int))).bind fun x22 => (bif !((x1_ : Bytes) == (x22)) then (some (false)) else (d_laws_eqStringS_L1 a0_ a1_ k1 xs1 (i1 + 1) )))
def d_laws_eqStringS (a0_ : List Bytes) (a1_ : List Bytes) : Option Bool := (bif ((((a0_).map tx).length : Int) : Int) != ((((a1_).map tx).length : Int)) then (some (false)) else (d_laws_eqStringS_L1 a0_ a1_ (some (true)) (a0_) 0 ))
def d_laws_eqStringS_S1 (a0_ : List Bytes) (a1_ : List Bytes) (ix_ : Int) : St := ⟨[(0, D.sl ((a0_).map tx)), (1, D.sl ((a1_).map tx)), (5, D.int .i64 (ix_))], []⟩
theorem d_laws_eqStringS_L1w (hΓ : Γ.nt = 26) {a0_ : List Bytes} {a1_ : List Bytes} {r : Bool} {k1 : Option Bool} (hE1 : k1 = some r → Ax Γ N Tryd.f72 (.q [[none]] (D.bool (r))) [1, 1, 1] ⟨[], []⟩) (hm1 : (a0_).length ≤ maxLen) : ∀ (rest : List Bytes) (i1 : Nat) , (a0_).drop i1 = rest → d_laws_eqStringS_L1 a0_ a1_ k1 rest i1  = some r → Ar Γ N Tryd.f72 (.q [[none]] (D.bool (r))) [1, 1, 0, 1, 0] (rest.length + 1) (d_laws_eqStringS_S1 a0_ a1_ ((i1 : Int))) := by
  intro rest
  induction rest with
  | nil =>
    intro i1  hd1 h
    rw [d_laws_eqStringS_L1] at h
    refine AWr_succ fun N1 hN1 hS1 => ?_
    exact ((pre0.ge tx hd1).a [.hl 0 [] []]).ex hΓ hN1 (hE1 h)
  | cons x1_ xs1 ih1 =>
    intro i1  hd1 h
    rw [d_laws_eqStringS_L1] at h
    refine AWr_succ fun N1 hN1 hS1 => ?_
    obtain ⟨x22, h23, h⟩ := den_bind h
    have o2_ := ((((pre0.lt tx hd1).a [.n 8]).l (map_row tx 1 (dc hd1) rfl)).l (at_row tx 1 h23 rfl))
    obtain ⟨h24, h⟩ | ⟨h24, h⟩ := den_if h
    · have h := den_some h; subst h; exact (o2_.b h24).ret hΓ
    · exact ((o2_.b h24).a [.cn [0, 1, 5] []]).ct hΓ hS1 (iS hd1 hm1) (ih1 (i1 + 1)  (dn hd1) h)
theorem d_laws_eqStringS_good {a0_ : List Bytes} {a1_ : List Bytes} {r : Bool} (h : d_laws_eqStringS a0_ a1_ = some r) : Good Tryd.prog 72 [D.sl ((a0_).map tx), D.sl ((a1_).map tx)] (D.bool (r)) := by
  refine gd Tryd.func72 [[none]] 26 fun hr Γ hΓ => ?_
  rw [d_laws_eqStringS] at h
  obtain ⟨h1, h⟩ | ⟨h1, h⟩ := den_if h
  · have h := den_some h; subst h; exact (pre0.b h1).ret hΓ
  · refine ((pre0.b h1).a [.cn [0, 1, 5] []]).lp hΓ (d_laws_eqStringS_L1w hΓ (fun h => ?_) (by have := (Rdb.sl (hr _ (List.mem_of_getElem? (i := 0) rfl))).1; simpa using this) (a0_) 0  rfl h)
    have h := den_some h; subst h; exact pre0.ret hΓ
def d_laws_eqFact (a0_ : Fact) (a1_ : Fact) : Option Bool := (bif !((a0_.rel : Bytes) == (a1_.rel)) then (some (false)) else ((d_laws_eqStringS (a0_.args) (a1_.args)).bind fun y2 => (bif !(y2) then (some (false)) else (some (true)))))
theorem d_laws_eqFact_good {a0_ : Fact} {a1_ : Fact} {r : Bool} (h : d_laws_eqFact a0_ a1_ = some r) : Good Tryd.prog 55 [D.agg (Fact.c a0_), D.agg (Fact.c a1_)] (D.bool (r)) := by
  refine gd Tryd.func55 [[none]] 16 fun hr Γ hΓ => ?_
  rw [d_laws_eqFact] at h
  obtain ⟨h1, h⟩ | ⟨h1, h⟩ := den_if h
  · have h := den_some h; subst h; exact (pre0.b h1).ret hΓ
  · obtain ⟨y2, h3, h⟩ := den_bind h
    have o1_ := ((pre0.b h1).g (d_laws_eqStringS_good h3))
    obtain ⟨h4, h⟩ | ⟨h4, h⟩ := den_if h
    · have h := den_some h; subst h; exact (o1_.b h4).ret hΓ
    · have h := den_some h; subst h; exact (o1_.b h4).ret hΓ
def d_laws_eqFactS_L1 (a0_ : List Fact) (a1_ : List Fact) (k1 : Option Bool) : List Fact → Nat → Option Bool
  | [], i1 => (k1 )
  | x1_ :: xs1, i1 => ((atI (a1_) ((i1 : Int))).bind fun x30 => ((d_laws_eqFact (x1_) (x30)).bind fun y32 => (bif !(y32) then (some (false)) else (d_laws_eqFactS_L1 a0_ a1_ k1 xs1 (i1 + 1) ))))
def d_laws_eqFactS (a0_ : List Fact) (a1_ : List Fact) : Option Bool := (bif ((((a0_).map Fact.c).length : Int) : Int) != ((((a1_).map Fact.c).length : Int)) then (some (false)) else (d_laws_eqFactS_L1 a0_ a1_ (some (true)) (a0_) 0 ))
def d_laws_eqFactS_S1 (a0_ : List Fact) (a1_ : List Fact) (ix_ : Int) : St := ⟨[(0, D.sl ((a0_).map Fact.c)), (1, D.sl ((a1_).map Fact.c)), (5, D.int .i64 (ix_))], []⟩
theorem d_laws_eqFactS_L1w (hΓ : Γ.nt = 27) {a0_ : List Fact} {a1_ : List Fact} {r : Bool} {k1 : Option Bool} (hE1 : k1 = some r → Ax Γ N Tryd.f36 (.q [[none]] (D.bool (r))) [1, 1, 1] ⟨[], []⟩) (hm1 : (a0_).length ≤ maxLen) : ∀ (rest : List Fact) (i1 : Nat) , (a0_).drop i1 = rest → d_laws_eqFactS_L1 a0_ a1_ k1 rest i1  = some r → Ar Γ N Tryd.f36 (.q [[none]] (D.bool (r))) [1, 1, 0, 1, 0] (rest.length + 1) (d_laws_eqFactS_S1 a0_ a1_ ((i1 : Int))) := by
  intro rest
  induction rest with
  | nil =>
    intro i1  hd1 h
    rw [d_laws_eqFactS_L1] at h
    refine AWr_succ fun N1 hN1 hS1 => ?_
    exact ((pre0.ge Fact.c hd1).a [.hl 0 [] []]).ex hΓ hN1 (hE1 h)
  | cons x1_ xs1 ih1 =>
    intro i1  hd1 h
    rw [d_laws_eqFactS_L1] at h
    refine AWr_succ fun N1 hN1 hS1 => ?_
    obtain ⟨x30, h31, h⟩ := den_bind h
    obtain ⟨y32, h33, h⟩ := den_bind h
    have o2_ := (((((pre0.lt Fact.c hd1).a [.n 8]).l (map_row Fact.c 2 (dc hd1) rfl)).l (at_row Fact.c 2 h31 rfl)).g (d_laws_eqFact_good h33))
    obtain ⟨h34, h⟩ | ⟨h34, h⟩ := den_if h
    · have h := den_some h; subst h; exact (o2_.b h34).ret hΓ
    · exact ((o2_.b h34).a [.cn [0, 1, 5] []]).ct hΓ hS1 (iS hd1 hm1) (ih1 (i1 + 1)  (dn hd1) h)
theorem d_laws_eqFactS_good {a0_ : List Fact} {a1_ : List Fact} {r : Bool} (h : d_laws_eqFactS a0_ a1_ = some r) : Good Tryd.prog 36 [D.sl ((a0_).map Fact.c), D.sl ((a1_).map Fact.c)] (D.bool (r)) := by
  refine gd Tryd.func36 [[none]] 27 fun hr Γ hΓ => ?_
  rw [d_laws_eqFactS] at h
  obtain ⟨h1, h⟩ | ⟨h1, h⟩ := den_if h
  · have h := den_some h; subst h; exact (pre0.b h1).ret hΓ
  · refine ((pre0.b h1).a [.cn [0, 1, 5] []]).lp hΓ (d_laws_eqFactS_L1w hΓ (fun h => ?_) (by have := (Rdb.sl (hr _ (List.mem_of_getElem? (i := 0) rfl))).1; simpa using this) (a0_) 0  rfl h)
    have h := den_some h; subst h; exact pre0.ret hΓ
def d_laws_eqPair (a0_ : Pair) (a1_ : Pair) : Option Bool := (bif !((a0_.var : Bytes) == (a1_.var)) then (some (false)) else (bif !((a0_.value : Bytes) == (a1_.value)) then (some (false)) else (some (true))))
theorem d_laws_eqPair_good {a0_ : Pair} {a1_ : Pair} {r : Bool} (h : d_laws_eqPair a0_ a1_ = some r) : Good Tryd.prog 56 [D.agg (Pair.c a0_), D.agg (Pair.c a1_)] (D.bool (r)) := by
  refine gd Tryd.func56 [[none]] 15 fun hr Γ hΓ => ?_
  rw [d_laws_eqPair] at h
  obtain ⟨h1, h⟩ | ⟨h1, h⟩ := den_if h
  · have h := den_some h; subst h; exact (pre0.b h1).ret hΓ
  · obtain ⟨h2, h⟩ | ⟨h2, h⟩ := den_if h
    · have h := den_some h; subst h; exact ((pre0.b h1).b h2).ret hΓ
    · have h := den_some h; subst h; exact ((pre0.b h1).b h2).ret hΓ
def d_laws_eqPairS_L1 (a0_ : List Pair) (a1_ : List Pair) (k1 : Option Bool) : List Pair → Nat → Option Bool
  | [], i1 => (k1 )
  | x1_ :: xs1, i1 => ((atI (a1_) ((i1 : Int))).bind fun x30 => ((d_laws_eqPair (x1_) (x30)).bind fun y32 => (bif !(y32) then (some (false)) else (d_laws_eqPairS_L1 a0_ a1_ k1 xs1 (i1 + 1) ))))
def d_laws_eqPairS (a0_ : List Pair) (a1_ : List Pair) : Option Bool := (bif ((((a0_).map Pair.c).length : Int) : Int) != ((((a1_).map Pair.c).length : Int)) then (some (false)) else (d_laws_eqPairS_L1 a0_ a1_ (some (true)) (a0_) 0 ))
def d_laws_eqPairS_S1 (a0_ : List Pair) (a1_ : List Pair) (ix_ : Int) : St := ⟨[(0, D.sl ((a0_).map Pair.c)), (1, D.sl ((a1_).map Pair.c)), (5, D.int .i64 (ix_))], []⟩
theorem d_laws_eqPairS_L1w (hΓ : Γ.nt = 27) {a0_ : List Pair} {a1_ : List Pair} {r : Bool} {k1 : Option Bool} (hE1 : k1 = some r → Ax Γ N Tryd.f37 (.q [[none]] (D.bool (r))) [1, 1, 1] ⟨[], []⟩) (hm1 : (a0_).length ≤ maxLen) : ∀ (rest : List Pair) (i1 : Nat) , (a0_).drop i1 = rest → d_laws_eqPairS_L1 a0_ a1_ k1 rest i1  = some r → Ar Γ N Tryd.f37 (.q [[none]] (D.bool (r))) [1, 1, 0, 1, 0] (rest.length + 1) (d_laws_eqPairS_S1 a0_ a1_ ((i1 : Int))) := by
  intro rest
  induction rest with
  | nil =>
    intro i1  hd1 h
    rw [d_laws_eqPairS_L1] at h
    refine AWr_succ fun N1 hN1 hS1 => ?_
    exact ((pre0.ge Pair.c hd1).a [.hl 0 [] []]).ex hΓ hN1 (hE1 h)
  | cons x1_ xs1 ih1 =>
    intro i1  hd1 h
    rw [d_laws_eqPairS_L1] at h
    refine AWr_succ fun N1 hN1 hS1 => ?_
    obtain ⟨x30, h31, h⟩ := den_bind h
    obtain ⟨y32, h33, h⟩ := den_bind h
    have o2_ := (((((pre0.lt Pair.c hd1).a [.n 8]).l (map_row Pair.c 2 (dc hd1) rfl)).l (at_row Pair.c 2 h31 rfl)).g (d_laws_eqPair_good h33))
    obtain ⟨h34, h⟩ | ⟨h34, h⟩ := den_if h
    · have h := den_some h; subst h; exact (o2_.b h34).ret hΓ
    · exact ((o2_.b h34).a [.cn [0, 1, 5] []]).ct hΓ hS1 (iS hd1 hm1) (ih1 (i1 + 1)  (dn hd1) h)
theorem d_laws_eqPairS_good {a0_ : List Pair} {a1_ : List Pair} {r : Bool} (h : d_laws_eqPairS a0_ a1_ = some r) : Good Tryd.prog 37 [D.sl ((a0_).map Pair.c), D.sl ((a1_).map Pair.c)] (D.bool (r)) := by
  refine gd Tryd.func37 [[none]] 27 fun hr Γ hΓ => ?_
  rw [d_laws_eqPairS] at h
  obtain ⟨h1, h⟩ | ⟨h1, h⟩ := den_if h
  · have h := den_some h; subst h; exact (pre0.b h1).ret hΓ
  · refine ((pre0.b h1).a [.cn [0, 1, 5] []]).lp hΓ (d_laws_eqPairS_L1w hΓ (fun h => ?_) (by have := (Rdb.sl (hr _ (List.mem_of_getElem? (i := 0) rfl))).1; simpa using this) (a0_) 0  rfl h)
    have h := den_some h; subst h; exact pre0.ret hΓ
def d_laws_eqMatch (a0_ : Match) (a1_ : Match) : Option Bool := (bif !((a0_.rule : Bytes) == (a1_.rule)) then (some (false)) else ((d_laws_eqFactS (a0_.facts) (a1_.facts)).bind fun y2 => (bif !(y2) then (some (false)) else ((d_laws_eqPairS (a0_.bind) (a1_.bind)).bind fun y5 => (bif !(y5) then (some (false)) else (some (true)))))))
theorem d_laws_eqMatch_good {a0_ : Match} {a1_ : Match} {r : Bool} (h : d_laws_eqMatch a0_ a1_ = some r) : Good Tryd.prog 21 [D.agg (Match.c a0_), D.agg (Match.c a1_)] (D.bool (r)) := by
  refine gd Tryd.func21 [[none]] 22 fun hr Γ hΓ => ?_
  rw [d_laws_eqMatch] at h
  obtain ⟨h1, h⟩ | ⟨h1, h⟩ := den_if h
  · have h := den_some h; subst h; exact (pre0.b h1).ret hΓ
  · obtain ⟨y2, h3, h⟩ := den_bind h
    have o1_ := ((pre0.b h1).g (d_laws_eqFactS_good h3))
    obtain ⟨h4, h⟩ | ⟨h4, h⟩ := den_if h
    · have h := den_some h; subst h; exact (o1_.b h4).ret hΓ
    · obtain ⟨y5, h6, h⟩ := den_bind h
      have o2_ := ((o1_.b h4).g (d_laws_eqPairS_good h6))
      obtain ⟨h7, h⟩ | ⟨h7, h⟩ := den_if h
      · have h := den_some h; subst h; exact (o2_.b h7).ret hΓ
      · have h := den_some h; subst h; exact (o2_.b h7).ret hΓ
def d_laws_eqIntS_L1 (a0_ : List Int) (a1_ : List Int) (k1 : Option Bool) : List Int → Nat → Option Bool
  | [], i1 => (k1 )
  | x1_ :: xs1, i1 => ((atI (a1_) ((i1 : Int))).bind fun x22 => (bif (x1_ : Int) != (x22) then (some (false)) else (d_laws_eqIntS_L1 a0_ a1_ k1 xs1 (i1 + 1) )))
def d_laws_eqIntS (a0_ : List Int) (a1_ : List Int) : Option Bool := (bif ((((a0_).map ixx).length : Int) : Int) != ((((a1_).map ixx).length : Int)) then (some (false)) else (d_laws_eqIntS_L1 a0_ a1_ (some (true)) (a0_) 0 ))
def d_laws_eqIntS_S1 (a0_ : List Int) (a1_ : List Int) (ix_ : Int) : St := ⟨[(0, D.sl ((a0_).map ixx)), (1, D.sl ((a1_).map ixx)), (5, D.int .i64 (ix_))], []⟩
theorem d_laws_eqIntS_L1w (hΓ : Γ.nt = 26) {a0_ : List Int} {a1_ : List Int} {r : Bool} {k1 : Option Bool} (hE1 : k1 = some r → Ax Γ N Tryd.f22 (.q [[none]] (D.bool (r))) [1, 1, 1] ⟨[], []⟩) (hm1 : (a0_).length ≤ maxLen) : ∀ (rest : List Int) (i1 : Nat) , (a0_).drop i1 = rest → d_laws_eqIntS_L1 a0_ a1_ k1 rest i1  = some r → Ar Γ N Tryd.f22 (.q [[none]] (D.bool (r))) [1, 1, 0, 1, 0] (rest.length + 1) (d_laws_eqIntS_S1 a0_ a1_ ((i1 : Int))) := by
  intro rest
  induction rest with
  | nil =>
    intro i1  hd1 h
    rw [d_laws_eqIntS_L1] at h
    refine AWr_succ fun N1 hN1 hS1 => ?_
    exact ((pre0.ge ixx hd1).a [.hl 0 [] []]).ex hΓ hN1 (hE1 h)
  | cons x1_ xs1 ih1 =>
    intro i1  hd1 h
    rw [d_laws_eqIntS_L1] at h
    refine AWr_succ fun N1 hN1 hS1 => ?_
    obtain ⟨x22, h23, h⟩ := den_bind h
    have o2_ := ((((pre0.lt ixx hd1).a [.n 8]).l (map_row ixx 1 (dc hd1) rfl)).l (at_row ixx 1 h23 rfl))
    obtain ⟨h24, h⟩ | ⟨h24, h⟩ := den_if h
    · have h := den_some h; subst h; exact (o2_.b h24).ret hΓ
    · exact ((o2_.b h24).a [.cn [0, 1, 5] []]).ct hΓ hS1 (iS hd1 hm1) (ih1 (i1 + 1)  (dn hd1) h)
theorem d_laws_eqIntS_good {a0_ : List Int} {a1_ : List Int} {r : Bool} (h : d_laws_eqIntS a0_ a1_ = some r) : Good Tryd.prog 22 [D.sl ((a0_).map ixx), D.sl ((a1_).map ixx)] (D.bool (r)) := by
  refine gd Tryd.func22 [[none]] 26 fun hr Γ hΓ => ?_
  rw [d_laws_eqIntS] at h
  obtain ⟨h1, h⟩ | ⟨h1, h⟩ := den_if h
  · have h := den_some h; subst h; exact (pre0.b h1).ret hΓ
  · refine ((pre0.b h1).a [.cn [0, 1, 5] []]).lp hΓ (d_laws_eqIntS_L1w hΓ (fun h => ?_) (by have := (Rdb.sl (hr _ (List.mem_of_getElem? (i := 0) rfl))).1; simpa using this) (a0_) 0  rfl h)
    have h := den_some h; subst h; exact pre0.ret hΓ
def d_laws_eqChoice (a0_ : Choice) (a1_ : Choice) : Option Bool := ((d_laws_eqMatch (a0_.mtch) (a1_.mtch)).bind fun y1 => (bif !(y1) then (some (false)) else (bif (a0_.prio : Int) != (a1_.prio) then (some (false)) else ((d_laws_eqIntS (a0_.times) (a1_.times)).bind fun y5 => (bif !(y5) then (some (false)) else (bif (a0_.spec : Int) != (a1_.spec) then (some (false)) else (bif (a0_.order : Int) != (a1_.order) then (some (false)) else (some (true)))))))))
theorem d_laws_eqChoice_good {a0_ : Choice} {a1_ : Choice} {r : Bool} (h : d_laws_eqChoice a0_ a1_ = some r) : Good Tryd.prog 8 [D.agg (Choice.c a0_), D.agg (Choice.c a1_)] (D.bool (r)) := by
  refine gd Tryd.func8 [[none]] 32 fun hr Γ hΓ => ?_
  rw [d_laws_eqChoice] at h
  obtain ⟨y1, h2, h⟩ := den_bind h
  obtain ⟨h3, h⟩ | ⟨h3, h⟩ := den_if h
  · have h := den_some h; subst h; exact ((pre0.g (d_laws_eqMatch_good h2)).b h3).ret hΓ
  · have o1_ := ((pre0.g (d_laws_eqMatch_good h2)).b h3)
    obtain ⟨h4, h⟩ | ⟨h4, h⟩ := den_if h
    · have h := den_some h; subst h; exact (o1_.b h4).ret hΓ
    · obtain ⟨y5, h6, h⟩ := den_bind h
      have o2_ := ((o1_.b h4).g (d_laws_eqIntS_good h6))
      obtain ⟨h7, h⟩ | ⟨h7, h⟩ := den_if h
      · have h := den_some h; subst h; exact (o2_.b h7).ret hΓ
      · obtain ⟨h8, h⟩ | ⟨h8, h⟩ := den_if h
        · have h := den_some h; subst h; exact ((o2_.b h7).b h8).ret hΓ
        · have o3_ := ((o2_.b h7).b h8)
          obtain ⟨h9, h⟩ | ⟨h9, h⟩ := den_if h
          · have h := den_some h; subst h; exact (o3_.b h9).ret hΓ
          · have h := den_some h; subst h; exact (o3_.b h9).ret hΓ
end Go.Cx
