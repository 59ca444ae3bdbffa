/- What functions of the program compute, and the walks that show it. No condition. -/
import Derived.Test.YtoeenpcilfhjbaaDoorNData
namespace Go.Cx
open Go.RowKit Go.Proofs
set_option linter.unusedVariables false
set_option linter.unusedSimpArgs false
set_option maxRecDepth 100000
variable {Γ : Ctx} {N : Nat → St → Prop}
def d_laws_szStringS_L1 (a0_ : List Bytes) (k1 : Int → Option Int) : List Bytes → Nat → Int → Option Int
  | [], i1, v1_1 => (k1 (v1_1))
  | x1_ :: xs1, i1, v1_1 => (bif decide ((IntKind.i64.wrap ((v1_1) - (((x1_).length : Int))) : Int) < (0)) then (some (-1)) else (d_laws_szStringS_L1 a0_ k1 xs1 (i1 + 1) (IntKind.i64.wrap ((v1_1) - (((x1_).length : Int))))))
def d_laws_szStringS (a0_ : List Bytes) (a1_ : Int) : Option Int := (bif decide ((IntKind.i64.wrap ((a1_) - ((((a0_).map tx).length : Int))) : Int) < (0)) then (some (-1)) else (d_laws_szStringS_L1 a0_ (fun (z1_1 : Int) => (some (z1_1))) (a0_) 0 (IntKind.i64.wrap ((a1_) - ((((a0_).map tx).length : Int))))))
def d_laws_szStringS_S1 (a0_ : List Bytes) (v1_1 : Int) (ix_ : Int) : St := ⟨[(0, D.sl ((a0_).map tx)), (1, D.int .i64 (v1_1)), (5, D.int .i64 (ix_))], []⟩
theorem d_laws_szStringS_L1w (hΓ : Γ.nt = 28) {a0_ : List Bytes} {r : Int} {k1 : Int → Option Int} (hE1 : ∀ (z1_1 : Int), k1 z1_1 = some r → Ax Γ N Tryd.f57 (.q [[none]] (D.int .i64 (r))) [1, 1, 1, 1] ⟨[(1, D.int .i64 (z1_1))], []⟩) (hm1 : (a0_).length ≤ maxLen) : ∀ (rest : List Bytes) (i1 : Nat) (v1_1 : Int), (a0_).drop i1 = rest → d_laws_szStringS_L1 a0_ k1 rest i1 v1_1 = some r → Ar Γ N Tryd.f57 (.q [[none]] (D.int .i64 (r))) [1, 1, 1, 0, 1, 0] (rest.length + 1) (d_laws_szStringS_S1 a0_ v1_1 ((i1 : Int))) := by
  intro rest
  induction rest with
  | nil =>
    intro i1 v1_1 hd1 h
    rw [d_laws_szStringS_L1] at h
    refine AWr_succ fun N1 hN1 hS1 => ?_
    exact ((pre0.ge tx hd1).a [.hl 0 [1] []]).ex hΓ hN1 (hE1 (v1_1) h)
  | cons x1_ xs1 ih1 =>
    intro i1 v1_1 hd1 h
    rw [d_laws_szStringS_L1] at h
    refine AWr_succ fun N1 hN1 hS1 => ?_
    have o2_ := ((pre0.lt tx hd1).l (map_row tx 1 (dc hd1) rfl))
    obtain ⟨h14, h⟩ | ⟨h14, h⟩ := den_if h
    · cases h; exact (o2_.b h14).ret hΓ
    · exact ((o2_.b h14).a [.cn [0, 1, 5] []]).ct hΓ hS1 (iS hd1 hm1) (ih1 (i1 + 1) (IntKind.i64.wrap ((v1_1) - (((x1_).length : Int)))) (dn hd1) h)
theorem d_laws_szStringS_good {a0_ : List Bytes} {a1_ : Int} {r : Int} (h : d_laws_szStringS a0_ a1_ = some r) : Good Tryd.prog 57 [D.sl ((a0_).map tx), D.int .i64 (a1_)] (D.int .i64 (r)) := by
  refine gd Tryd.func57 [[none]] 28 fun hr Γ hΓ => ?_
  rw [d_laws_szStringS] at h
  obtain ⟨h1, h⟩ | ⟨h1, h⟩ := den_if h
  · cases h; exact (pre0.b h1).ret hΓ
  · refine ((pre0.b h1).a [.cn [0, 1, 5] []]).lp hΓ (d_laws_szStringS_L1w hΓ (fun z1_1 h => ?_) (by have := (Rdb.sl (hr _ (List.mem_of_getElem? (i := 0) rfl))).1; simpa using this) (a0_) 0 (IntKind.i64.wrap ((a1_) - ((((a0_).map tx).length : Int)))) rfl h)
    have h := den_some h; subst h; exact pre0.ret hΓ
def d_laws_szFact (a0_ : Fact) (a1_ : Int) : Option Int := (bif decide ((IntKind.i64.wrap ((a1_) - (((a0_.rel).length : Int))) : Int) < (0)) then (some (-1)) else ((d_laws_szStringS (a0_.args) (IntKind.i64.wrap ((a1_) - (((a0_.rel).length : Int))))).bind fun y2 => (bif decide ((y2 : Int) < (0)) then (some (-1)) else (some (y2)))))
theorem d_laws_szFact_good {a0_ : Fact} {a1_ : Int} {r : Int} (h : d_laws_szFact a0_ a1_ = some r) : Good Tryd.prog 38 [D.agg (Fact.c a0_), D.int .i64 (a1_)] (D.int .i64 (r)) := by
  refine gd Tryd.func38 [[none]] 19 fun hr Γ hΓ => ?_
  rw [d_laws_szFact] at h
  obtain ⟨h1, h⟩ | ⟨h1, h⟩ := den_if h
  · cases h; exact (pre0.b h1).ret hΓ
  · obtain ⟨y2, h3, h⟩ := den_bind h
    have o1_ := ((pre0.b h1).g (d_laws_szStringS_good h3))
    obtain ⟨h4, h⟩ | ⟨h4, h⟩ := den_if h
    · cases h; exact (o1_.b h4).ret hΓ
    · have h := den_some h; subst h; exact (o1_.b h4).ret hΓ
def d_laws_szFactS_L1 (a0_ : List Fact) (k1 : Int → Option Int) : List Fact → Nat → Int → Option Int
  | [], i1, v1_1 => (k1 (v1_1))
  | x1_ :: xs1, i1, v1_1 => ((d_laws_szFact (x1_) (v1_1)).bind fun y22 => (bif decide ((y22 : Int) < (0)) then (some (-1)) else (d_laws_szFactS_L1 a0_ k1 xs1 (i1 + 1) (y22))))
def d_laws_szFactS (a0_ : List Fact) (a1_ : Int) : Option Int := (bif decide ((IntKind.i64.wrap ((a1_) - ((((a0_).map Fact.c).length : Int))) : Int) < (0)) then (some (-1)) else (d_laws_szFactS_L1 a0_ (fun (z1_1 : Int) => (some (z1_1))) (a0_) 0 (IntKind.i64.wrap ((a1_) - ((((a0_).map Fact.c).length : Int))))))
def d_laws_szFactS_S1 (a0_ : List Fact) (v1_1 : Int) (ix_ : Int) : St := ⟨[(0, D.sl ((a0_).map Fact.c)), (1, D.int .i64 (v1_1)), (5, D.int .i64 (ix_))], []⟩
theorem d_laws_szFactS_L1w (hΓ : Γ.nt = 27) {a0_ : List Fact} {r : Int} {k1 : Int → Option Int} (hE1 : ∀ (z1_1 : Int), k1 z1_1 = some r → Ax Γ N Tryd.f23 (.q [[none]] (D.int .i64 (r))) [1, 1, 1, 1] ⟨[(1, D.int .i64 (z1_1))], []⟩) (hm1 : (a0_).length ≤ maxLen) : ∀ (rest : List Fact) (i1 : Nat) (v1_1 : Int), (a0_).drop i1 = rest → d_laws_szFactS_L1 a0_ k1 rest i1 v1_1 = some r → Ar Γ N Tryd.f23 (.q [[none]] (D.int .i64 (r))) [1, 1, 1, 0, 1, 0] (rest.length + 1) (d_laws_szFactS_S1 a0_ v1_1 ((i1 : Int))) := by
  intro rest
  induction rest with
  | nil =>
    intro i1 v1_1 hd1 h
    rw [d_laws_szFactS_L1] at h
    refine AWr_succ fun N1 hN1 hS1 => ?_
    exact ((pre0.ge Fact.c hd1).a [.hl 0 [1] []]).ex hΓ hN1 (hE1 (v1_1) h)
  | cons x1_ xs1 ih1 =>
    intro i1 v1_1 hd1 h
    rw [d_laws_szFactS_L1] at h
    refine AWr_succ fun N1 hN1 hS1 => ?_
    obtain ⟨y22, h23, h⟩ := den_bind h
    have o2_ := (((pre0.lt Fact.c hd1).l (map_row Fact.c 2 (dc hd1) rfl)).g (d_laws_szFact_good h23))
    obtain ⟨h24, h⟩ | ⟨h24, h⟩ := den_if h
    · cases h; exact (o2_.b h24).ret hΓ
    · exact ((o2_.b h24).a [.cn [0, 1, 5] []]).ct hΓ hS1 (iS hd1 hm1) (ih1 (i1 + 1) (y22) (dn hd1) h)
theorem d_laws_szFactS_good {a0_ : List Fact} {a1_ : Int} {r : Int} (h : d_laws_szFactS a0_ a1_ = some r) : Good Tryd.prog 23 [D.sl ((a0_).map Fact.c), D.int .i64 (a1_)] (D.int .i64 (r)) := by
  refine gd Tryd.func23 [[none]] 27 fun hr Γ hΓ => ?_
  rw [d_laws_szFactS] at h
  obtain ⟨h1, h⟩ | ⟨h1, h⟩ := den_if h
  · cases h; exact (pre0.b h1).ret hΓ
  · refine ((pre0.b h1).a [.cn [0, 1, 5] []]).lp hΓ (d_laws_szFactS_L1w hΓ (fun z1_1 h => ?_) (by have := (Rdb.sl (hr _ (List.mem_of_getElem? (i := 0) rfl))).1; simpa using this) (a0_) 0 (IntKind.i64.wrap ((a1_) - ((((a0_).map Fact.c).length : Int)))) rfl h)
    have h := den_some h; subst h; exact pre0.ret hΓ
def d_laws_szPair (a0_ : Pair) (a1_ : Int) : Option Int := (bif decide ((IntKind.i64.wrap ((a1_) - (((a0_.var).length : Int))) : Int) < (0)) then (some (-1)) else (bif decide ((IntKind.i64.wrap ((IntKind.i64.wrap ((a1_) - (((a0_.var).length : Int)))) - (((a0_.value).length : Int))) : Int) < (0)) then (some (-1)) else (some (IntKind.i64.wrap ((IntKind.i64.wrap ((a1_) - (((a0_.var).length : Int)))) - (((a0_.value).length : Int)))))))
theorem d_laws_szPair_good {a0_ : Pair} {a1_ : Int} {r : Int} (h : d_laws_szPair a0_ a1_ = some r) : Good Tryd.prog 39 [D.agg (Pair.c a0_), D.int .i64 (a1_)] (D.int .i64 (r)) := by
  refine gd Tryd.func39 [[none]] 20 fun hr Γ hΓ => ?_
  rw [d_laws_szPair] at h
  obtain ⟨h1, h⟩ | ⟨h1, h⟩ := den_if h
  · cases h; exact (pre0.b h1).ret hΓ
  · obtain ⟨h2, h⟩ | ⟨h2, h⟩ := den_if h
    · cases h; exact ((pre0.b h1).b h2).ret hΓ
    · cases h; exact ((pre0.b h1).b h2).ret hΓ
def d_laws_szPairS_L1 (a0_ : List Pair) (k1 : Int → Option Int) : List Pair → Nat → Int → Option Int
  | [], i1, v1_1 => (k1 (v1_1))
  | x1_ :: xs1, i1, v1_1 => ((d_laws_szPair (x1_) (v1_1)).bind fun y22 => (bif decide ((y22 : Int) < (0)) then (some (-1)) else (d_laws_szPairS_L1 a0_ k1 xs1 (i1 + 1) (y22))))
def d_laws_szPairS (a0_ : List Pair) (a1_ : Int) : Option Int := (bif decide ((IntKind.i64.wrap ((a1_) - ((((a0_).map Pair.c).length : Int))) : Int) < (0)) then (some (-1)) else (d_laws_szPairS_L1 a0_ (fun (z1_1 : Int) => (some (z1_1))) (a0_) 0 (IntKind.i64.wrap ((a1_) - ((((a0_).map Pair.c).length : Int))))))
def d_laws_szPairS_S1 (a0_ : List Pair) (v1_1 : Int) (ix_ : Int) : St := ⟨[(0, D.sl ((a0_).map Pair.c)), (1, D.int .i64 (v1_1)), (5, D.int .i64 (ix_))], []⟩
theorem d_laws_szPairS_L1w (hΓ : Γ.nt = 27) {a0_ : List Pair} {r : Int} {k1 : Int → Option Int} (hE1 : ∀ (z1_1 : Int), k1 z1_1 = some r → Ax Γ N Tryd.f24 (.q [[none]] (D.int .i64 (r))) [1, 1, 1, 1] ⟨[(1, D.int .i64 (z1_1))], []⟩) (hm1 : (a0_).length ≤ maxLen) : ∀ (rest : List Pair) (i1 : Nat) (v1_1 : Int), (a0_).drop i1 = rest → d_laws_szPairS_L1 a0_ k1 rest i1 v1_1 = some r → Ar Γ N Tryd.f24 (.q [[none]] (D.int .i64 (r))) [1, 1, 1, 0, 1, 0] (rest.length + 1) (d_laws_szPairS_S1 a0_ v1_1 ((i1 : Int))) := by
  intro rest
  induction rest with
  | nil =>
    intro i1 v1_1 hd1 h
    rw [d_laws_szPairS_L1] at h
    refine AWr_succ fun N1 hN1 hS1 => ?_
    exact ((pre0.ge Pair.c hd1).a [.hl 0 [1] []]).ex hΓ hN1 (hE1 (v1_1) h)
  | cons x1_ xs1 ih1 =>
    intro i1 v1_1 hd1 h
    rw [d_laws_szPairS_L1] at h
    refine AWr_succ fun N1 hN1 hS1 => ?_
    obtain ⟨y22, h23, h⟩ := den_bind h
    have o2_ := (((pre0.lt Pair.c hd1).l (map_row Pair.c 2 (dc hd1) rfl)).g (d_laws_szPair_good h23))
    obtain ⟨h24, h⟩ | ⟨h24, h⟩ := den_if h
    · cases h; exact (o2_.b h24).ret hΓ
    · exact ((o2_.b h24).a [.cn [0, 1, 5] []]).ct hΓ hS1 (iS hd1 hm1) (ih1 (i1 + 1) (y22) (dn hd1) h)
theorem d_laws_szPairS_good {a0_ : List Pair} {a1_ : Int} {r : Int} (h : d_laws_szPairS a0_ a1_ = some r) : Good Tryd.prog 24 [D.sl ((a0_).map Pair.c), D.int .i64 (a1_)] (D.int .i64 (r)) := by
  refine gd Tryd.func24 [[none]] 27 fun hr Γ hΓ => ?_
  rw [d_laws_szPairS] at h
  obtain ⟨h1, h⟩ | ⟨h1, h⟩ := den_if h
  · cases h; exact (pre0.b h1).ret hΓ
  · refine ((pre0.b h1).a [.cn [0, 1, 5] []]).lp hΓ (d_laws_szPairS_L1w hΓ (fun z1_1 h => ?_) (by have := (Rdb.sl (hr _ (List.mem_of_getElem? (i := 0) rfl))).1; simpa using this) (a0_) 0 (IntKind.i64.wrap ((a1_) - ((((a0_).map Pair.c).length : Int)))) rfl h)
    have h := den_some h; subst h; exact pre0.ret hΓ
def d_laws_szMatch (a0_ : Match) (a1_ : Int) : Option Int := (bif decide ((IntKind.i64.wrap ((a1_) - (((a0_.rule).length : Int))) : Int) < (0)) then (some (-1)) else ((d_laws_szFactS (a0_.facts) (IntKind.i64.wrap ((a1_) - (((a0_.rule).length : Int))))).bind fun y2 => (bif decide ((y2 : Int) < (0)) then (some (-1)) else ((d_laws_szPairS (a0_.bind) (y2)).bind fun y5 => (bif decide ((y5 : Int) < (0)) then (some (-1)) else (some (y5)))))))
theorem d_laws_szMatch_good {a0_ : Match} {a1_ : Int} {r : Int} (h : d_laws_szMatch a0_ a1_ = some r) : Good Tryd.prog 9 [D.agg (Match.c a0_), D.int .i64 (a1_)] (D.int .i64 (r)) := by
  refine gd Tryd.func9 [[none]] 25 fun hr Γ hΓ => ?_
  rw [d_laws_szMatch] at h
  obtain ⟨h1, h⟩ | ⟨h1, h⟩ := den_if h
  · cases h; exact (pre0.b h1).ret hΓ
  · obtain ⟨y2, h3, h⟩ := den_bind h
    have o1_ := ((pre0.b h1).g (d_laws_szFactS_good h3))
    obtain ⟨h4, h⟩ | ⟨h4, h⟩ := den_if h
    · cases h; exact (o1_.b h4).ret hΓ
    · obtain ⟨y5, h6, h⟩ := den_bind h
      have o2_ := ((o1_.b h4).g (d_laws_szPairS_good h6))
      obtain ⟨h7, h⟩ | ⟨h7, h⟩ := den_if h
      · cases h; exact (o2_.b h7).ret hΓ
      · have h := den_some h; subst h; exact (o2_.b h7).ret hΓ
def d_laws_szIntS (a0_ : List Int) (a1_ : Int) : Option Int := (bif decide ((IntKind.i64.wrap ((a1_) - ((((a0_).map ixx).length : Int))) : Int) < (0)) then (some (-1)) else (some (IntKind.i64.wrap ((a1_) - ((((a0_).map ixx).length : Int))))))
theorem d_laws_szIntS_good {a0_ : List Int} {a1_ : Int} {r : Int} (h : d_laws_szIntS a0_ a1_ = some r) : Good Tryd.prog 10 [D.sl ((a0_).map ixx), D.int .i64 (a1_)] (D.int .i64 (r)) := by
  refine gd Tryd.func10 [[none]] 12 fun hr Γ hΓ => ?_
  rw [d_laws_szIntS] at h
  obtain ⟨h1, h⟩ | ⟨h1, h⟩ := den_if h
  · cases h; exact (pre0.b h1).ret hΓ
  · cases h; exact (pre0.b h1).ret hΓ
def d_laws_szChoice (a0_ : Choice) (a1_ : Int) : Option Int := ((d_laws_szMatch (a0_.mtch) (a1_)).bind fun y1 => (bif decide ((y1 : Int) < (0)) then (some (-1)) else ((d_laws_szIntS (a0_.times) (y1)).bind fun y4 => (bif decide ((y4 : Int) < (0)) then (some (-1)) else (some (y4))))))
theorem d_laws_szChoice_good {a0_ : Choice} {a1_ : Int} {r : Int} (h : d_laws_szChoice a0_ a1_ = some r) : Good Tryd.prog 4 [D.agg (Choice.c a0_), D.int .i64 (a1_)] (D.int .i64 (r)) := by
  refine gd Tryd.func4 [[none]] 18 fun hr Γ hΓ => ?_
  rw [d_laws_szChoice] at h
  obtain ⟨y1, h2, h⟩ := den_bind h
  obtain ⟨h3, h⟩ | ⟨h3, h⟩ := den_if h
  · cases h; exact ((pre0.g (d_laws_szMatch_good h2)).b h3).ret hΓ
  · obtain ⟨y4, h5, h⟩ := den_bind h
    have o1_ := (((pre0.g (d_laws_szMatch_good h2)).b h3).g (d_laws_szIntS_good h5))
    obtain ⟨h6, h⟩ | ⟨h6, h⟩ := den_if h
    · cases h; exact (o1_.b h6).ret hΓ
    · have h := den_some h; subst h; exact (o1_.b h6).ret hΓ
end Go.Cx
