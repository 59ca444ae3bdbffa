/- What functions of the program compute, and the walks that show it. No condition. -/
import Derived.Test.YtmifcpepeplijaaGreatDoorPAllMatchesNMk
namespace Go.Cx
open Go.RowKit Go.Proofs
set_option linter.unusedVariables false
set_option linter.unusedSimpArgs false
set_option maxRecDepth 100000
variable {Γ : Ctx} {N : Nat → St → Prop}
def d_laws_heldStringS_L1 (a0_ : List Bytes) (k1 : Int → Option Int) : List Bytes → Nat → Int → Option Int
  | [], i1, v1_1 => (k1 (v1_1))
  | x1_ :: xs1, i1, v1_1 => ((d_laws_markText (v1_1)).bind fun y21 => (bif !((x1_ : Bytes) == (y21)) then (some (-1)) else (d_laws_heldStringS_L1 a0_ k1 xs1 (i1 + 1) (IntKind.i64.wrap ((v1_1) + (1))))))
def d_laws_heldStringS (a0_ : List Bytes) (a1_ : Int) : Option Int := (d_laws_heldStringS_L1 a0_ (fun (z1_1 : Int) => (some (z1_1))) (a0_) 0 (a1_))
def d_laws_heldStringS_S1 (a0_ : List Bytes) (v1_1 : Int) (ix_ : Int) : St := ⟨[(0, D.sl ((a0_).map tx)), (1, D.int .i64 (v1_1)), (5, D.int .i64 (ix_))], []⟩
theorem d_laws_heldStringS_L1w (hΓ : Γ.nt = 22) {a0_ : List Bytes} {r : Int} {k1 : Int → Option Int} (hE1 : ∀ (z1_1 : Int), k1 z1_1 = some r → Ax Γ N Tryz.f142 (.q [[none]] (D.int .i64 (r))) [1, 1] ⟨[(1, D.int .i64 (z1_1))], []⟩) (hm1 : (a0_).length ≤ maxLen) : ∀ (rest : List Bytes) (i1 : Nat) (v1_1 : Int), (a0_).drop i1 = rest → d_laws_heldStringS_L1 a0_ k1 rest i1 v1_1 = some r → Ar Γ N Tryz.f142 (.q [[none]] (D.int .i64 (r))) [1, 0, 1, 0] (rest.length + 1) (d_laws_heldStringS_S1 a0_ v1_1 ((i1 : Int))) := by
  intro rest
  induction rest with
  | nil =>
    intro i1 v1_1 hd1 h
    rw [d_laws_heldStringS_L1] at h
    refine AWr_succ fun N1 hN1 hS1 => ?_
    exact ((pre0.ge tx hd1).a [.hl 0 [1] []]).ex hΓ hN1 (hE1 (v1_1) h)
  | cons x1_ xs1 ih1 =>
    intro i1 v1_1 hd1 h
    rw [d_laws_heldStringS_L1] at h
    refine AWr_succ fun N1 hN1 hS1 => ?_
    obtain ⟨y21, h22, h⟩ := den_bind h
    have o2_ := ((((pre0.lt tx hd1).a [.n 6]).l (map_row tx 1 (dc hd1) rfl)).g (d_laws_markText_good h22))
    obtain ⟨h23, h⟩ | ⟨h23, h⟩ := den_if h
    · cases h; exact (o2_.b h23).ret hΓ
    · exact ((o2_.b h23).a [.cn [0, 1, 5] []]).ct hΓ hS1 (iS hd1 hm1) (ih1 (i1 + 1) (IntKind.i64.wrap ((v1_1) + (1))) (dn hd1) h)
theorem d_laws_heldStringS_good {a0_ : List Bytes} {a1_ : Int} {r : Int} (h : d_laws_heldStringS a0_ a1_ = some r) : Good Tryz.prog 142 [D.sl ((a0_).map tx), D.int .i64 (a1_)] (D.int .i64 (r)) := by
  refine gd Tryz.func142 [[none]] 22 fun hr Γ hΓ => ?_
  rw [d_laws_heldStringS] at h
  refine (pre0.a [.cn [0, 1, 5] []]).lp hΓ (d_laws_heldStringS_L1w hΓ (fun z1_1 h => ?_) (by have := (Rdb.sl (hr _ (List.mem_of_getElem? (i := 0) rfl))).1; simpa using this) (a0_) 0 (a1_) rfl h)
  have h := den_some h; subst h; exact pre0.ret hΓ
def d_laws_heldFactS_L1 (a0_ : List Fact) (k1 : Int → Option Int) : List Fact → Nat → Int → Option Int
  | [], i1, v1_1 => (k1 (v1_1))
  | x1_ :: xs1, i1, v1_1 => ((d_laws_markText (v1_1)).bind fun y33 => (bif !((x1_.rel : Bytes) == (y33)) then (some (-1)) else ((d_laws_heldStringS (x1_.args) (IntKind.i64.wrap ((v1_1) + (1)))).bind fun y36 => (bif decide ((y36 : Int) < (0)) then (some (-1)) else (d_laws_heldFactS_L1 a0_ k1 xs1 (i1 + 1) (y36))))))
def d_laws_heldFactS (a0_ : List Fact) (a1_ : Int) : Option Int := (d_laws_heldFactS_L1 a0_ (fun (z1_1 : Int) => (some (z1_1))) (a0_) 0 (a1_))
def d_laws_heldFactS_S1 (a0_ : List Fact) (v1_1 : Int) (ix_ : Int) : St := ⟨[(0, D.sl ((a0_).map Fact.c)), (1, D.int .i64 (v1_1)), (5, D.int .i64 (ix_))], []⟩
theorem d_laws_heldFactS_L1w (hΓ : Γ.nt = 32) {a0_ : List Fact} {r : Int} {k1 : Int → Option Int} (hE1 : ∀ (z1_1 : Int), k1 z1_1 = some r → Ax Γ N Tryz.f94 (.q [[none]] (D.int .i64 (r))) [1, 1] ⟨[(1, D.int .i64 (z1_1))], []⟩) (hm1 : (a0_).length ≤ maxLen) : ∀ (rest : List Fact) (i1 : Nat) (v1_1 : Int), (a0_).drop i1 = rest → d_laws_heldFactS_L1 a0_ k1 rest i1 v1_1 = some r → Ar Γ N Tryz.f94 (.q [[none]] (D.int .i64 (r))) [1, 0, 1, 0] (rest.length + 1) (d_laws_heldFactS_S1 a0_ v1_1 ((i1 : Int))) := by
  intro rest
  induction rest with
  | nil =>
    intro i1 v1_1 hd1 h
    rw [d_laws_heldFactS_L1] at h
    refine AWr_succ fun N1 hN1 hS1 => ?_
    exact ((pre0.ge Fact.c hd1).a [.hl 0 [1] []]).ex hΓ hN1 (hE1 (v1_1) h)
  | cons x1_ xs1 ih1 =>
    intro i1 v1_1 hd1 h
    rw [d_laws_heldFactS_L1] at h
    refine AWr_succ fun N1 hN1 hS1 => ?_
    obtain ⟨y33, h34, h⟩ := den_bind h
    have o3_ := ((((pre0.lt Fact.c hd1).a [.n 7]).l (map_row Fact.c 2 (dc hd1) rfl)).g (d_laws_markText_good h34))
    obtain ⟨h35, h⟩ | ⟨h35, h⟩ := den_if h
    · cases h; exact (o3_.b h35).ret hΓ
    · obtain ⟨y36, h37, h⟩ := den_bind h
      have o4_ := (((o3_.b h35).l (map_row Fact.c 2 (dc hd1) rfl)).g (d_laws_heldStringS_good h37))
      obtain ⟨h38, h⟩ | ⟨h38, h⟩ := den_if h
      · cases h; exact (o4_.b h38).ret hΓ
      · exact ((o4_.b h38).a [.cn [0, 1, 5] []]).ct hΓ hS1 (iS hd1 hm1) (ih1 (i1 + 1) (y36) (dn hd1) h)
theorem d_laws_heldFactS_good {a0_ : List Fact} {a1_ : Int} {r : Int} (h : d_laws_heldFactS a0_ a1_ = some r) : Good Tryz.prog 94 [D.sl ((a0_).map Fact.c), D.int .i64 (a1_)] (D.int .i64 (r)) := by
  refine gd Tryz.func94 [[none]] 32 fun hr Γ hΓ => ?_
  rw [d_laws_heldFactS] at h
  refine (pre0.a [.cn [0, 1, 5] []]).lp hΓ (d_laws_heldFactS_L1w hΓ (fun z1_1 h => ?_) (by have := (Rdb.sl (hr _ (List.mem_of_getElem? (i := 0) rfl))).1; simpa using this) (a0_) 0 (a1_) rfl h)
  have h := den_some h; subst h; exact pre0.ret hΓ
def d_laws_heldPairS_L1 (a0_ : List Pair) (k1 : Int → Option Int) : List Pair → Nat → Int → Option Int
  | [], i1, v1_1 => (k1 (v1_1))
  | x1_ :: xs1, i1, v1_1 => ((d_laws_markText (v1_1)).bind fun y33 => (bif !((x1_.var : Bytes) == (y33)) then (some (-1)) else ((d_laws_markText (IntKind.i64.wrap ((v1_1) + (1)))).bind fun y36 => (bif !((x1_.value : Bytes) == (y36)) then (some (-1)) else (d_laws_heldPairS_L1 a0_ k1 xs1 (i1 + 1) (IntKind.i64.wrap ((IntKind.i64.wrap ((v1_1) + (1))) + (1))))))))
def d_laws_heldPairS (a0_ : List Pair) (a1_ : Int) : Option Int := (d_laws_heldPairS_L1 a0_ (fun (z1_1 : Int) => (some (z1_1))) (a0_) 0 (a1_))
def d_laws_heldPairS_S1 (a0_ : List Pair) (v1_1 : Int) (ix_ : Int) : St := ⟨[(0, D.sl ((a0_).map Pair.c)), (1, D.int .i64 (v1_1)), (5, D.int .i64 (ix_))], []⟩
theorem d_laws_heldPairS_L1w (hΓ : Γ.nt = 33) {a0_ : List Pair} {r : Int} {k1 : Int → Option Int} (hE1 : ∀ (z1_1 : Int), k1 z1_1 = some r → Ax Γ N Tryz.f95 (.q [[none]] (D.int .i64 (r))) [1, 1] ⟨[(1, D.int .i64 (z1_1))], []⟩) (hm1 : (a0_).length ≤ maxLen) : ∀ (rest : List Pair) (i1 : Nat) (v1_1 : Int), (a0_).drop i1 = rest → d_laws_heldPairS_L1 a0_ k1 rest i1 v1_1 = some r → Ar Γ N Tryz.f95 (.q [[none]] (D.int .i64 (r))) [1, 0, 1, 0] (rest.length + 1) (d_laws_heldPairS_S1 a0_ v1_1 ((i1 : Int))) := by
  intro rest
  induction rest with
  | nil =>
    intro i1 v1_1 hd1 h
    rw [d_laws_heldPairS_L1] at h
    refine AWr_succ fun N1 hN1 hS1 => ?_
    exact ((pre0.ge Pair.c hd1).a [.hl 0 [1] []]).ex hΓ hN1 (hE1 (v1_1) h)
  | cons x1_ xs1 ih1 =>
    intro i1 v1_1 hd1 h
    rw [d_laws_heldPairS_L1] at h
    refine AWr_succ fun N1 hN1 hS1 => ?_
    obtain ⟨y33, h34, h⟩ := den_bind h
    have o3_ := ((((pre0.lt Pair.c hd1).a [.n 7]).l (map_row Pair.c 2 (dc hd1) rfl)).g (d_laws_markText_good h34))
    obtain ⟨h35, h⟩ | ⟨h35, h⟩ := den_if h
    · cases h; exact (o3_.b h35).ret hΓ
    · obtain ⟨y36, h37, h⟩ := den_bind h
      have o4_ := ((((o3_.b h35).a [.n 7]).l (map_row Pair.c 2 (dc hd1) rfl)).g (d_laws_markText_good h37))
      obtain ⟨h38, h⟩ | ⟨h38, h⟩ := den_if h
      · cases h; exact (o4_.b h38).ret hΓ
      · exact ((o4_.b h38).a [.cn [0, 1, 5] []]).ct hΓ hS1 (iS hd1 hm1) (ih1 (i1 + 1) (IntKind.i64.wrap ((IntKind.i64.wrap ((v1_1) + (1))) + (1))) (dn hd1) h)
theorem d_laws_heldPairS_good {a0_ : List Pair} {a1_ : Int} {r : Int} (h : d_laws_heldPairS a0_ a1_ = some r) : Good Tryz.prog 95 [D.sl ((a0_).map Pair.c), D.int .i64 (a1_)] (D.int .i64 (r)) := by
  refine gd Tryz.func95 [[none]] 33 fun hr Γ hΓ => ?_
  rw [d_laws_heldPairS] at h
  refine (pre0.a [.cn [0, 1, 5] []]).lp hΓ (d_laws_heldPairS_L1w hΓ (fun z1_1 h => ?_) (by have := (Rdb.sl (hr _ (List.mem_of_getElem? (i := 0) rfl))).1; simpa using this) (a0_) 0 (a1_) rfl h)
  have h := den_some h; subst h; exact pre0.ret hΓ
def d_laws_heldMatchS_L1 (a0_ : List Match) (k1 : Int → Option Int) : List Match → Nat → Int → Option Int
  | [], i1, v1_1 => (k1 (v1_1))
  | x1_ :: xs1, i1, v1_1 => ((d_laws_markText (v1_1)).bind fun y45 => (bif !((x1_.rule : Bytes) == (y45)) then (some (-1)) else ((d_laws_heldFactS (x1_.facts) (IntKind.i64.wrap ((v1_1) + (1)))).bind fun y48 => (bif decide ((y48 : Int) < (0)) then (some (-1)) else ((d_laws_heldPairS (x1_.bind) (y48)).bind fun y51 => (bif decide ((y51 : Int) < (0)) then (some (-1)) else (d_laws_heldMatchS_L1 a0_ k1 xs1 (i1 + 1) (y51))))))))
def d_laws_heldMatchS (a0_ : List Match) (a1_ : Int) : Option Int := (d_laws_heldMatchS_L1 a0_ (fun (z1_1 : Int) => (some (z1_1))) (a0_) 0 (a1_))
def d_laws_heldMatchS_S1 (a0_ : List Match) (v1_1 : Int) (ix_ : Int) : St := ⟨[(0, D.sl ((a0_).map Match.c)), (1, D.int .i64 (v1_1)), (5, D.int .i64 (ix_))], []⟩
theorem d_laws_heldMatchS_L1w (hΓ : Γ.nt = 41) {a0_ : List Match} {r : Int} {k1 : Int → Option Int} (hE1 : ∀ (z1_1 : Int), k1 z1_1 = some r → Ax Γ N Tryz.f35 (.q [[none]] (D.int .i64 (r))) [1, 1] ⟨[(1, D.int .i64 (z1_1))], []⟩) (hm1 : (a0_).length ≤ maxLen) : ∀ (rest : List Match) (i1 : Nat) (v1_1 : Int), (a0_).drop i1 = rest → d_laws_heldMatchS_L1 a0_ k1 rest i1 v1_1 = some r → Ar Γ N Tryz.f35 (.q [[none]] (D.int .i64 (r))) [1, 0, 1, 0] (rest.length + 1) (d_laws_heldMatchS_S1 a0_ v1_1 ((i1 : Int))) := by
  intro rest
  induction rest with
  | nil =>
    intro i1 v1_1 hd1 h
    rw [d_laws_heldMatchS_L1] at h
    refine AWr_succ fun N1 hN1 hS1 => ?_
    exact ((pre0.ge Match.c hd1).a [.hl 0 [1] []]).ex hΓ hN1 (hE1 (v1_1) h)
  | cons x1_ xs1 ih1 =>
    intro i1 v1_1 hd1 h
    rw [d_laws_heldMatchS_L1] at h
    refine AWr_succ fun N1 hN1 hS1 => ?_
    obtain ⟨y45, h46, h⟩ := den_bind h
    have o4_ := ((((pre0.lt Match.c hd1).a [.n 7]).l (map_row Match.c 3 (dc hd1) rfl)).g (d_laws_markText_good h46))
    obtain ⟨h47, h⟩ | ⟨h47, h⟩ := den_if h
    · cases h; exact (o4_.b h47).ret hΓ
    · obtain ⟨y48, h49, h⟩ := den_bind h
      have o5_ := (((o4_.b h47).l (map_row Match.c 3 (dc hd1) rfl)).g (d_laws_heldFactS_good h49))
      obtain ⟨h50, h⟩ | ⟨h50, h⟩ := den_if h
      · cases h; exact (o5_.b h50).ret hΓ
      · obtain ⟨y51, h52, h⟩ := den_bind h
        have o6_ := (((o5_.b h50).l (map_row Match.c 3 (dc hd1) rfl)).g (d_laws_heldPairS_good h52))
        obtain ⟨h53, h⟩ | ⟨h53, h⟩ := den_if h
        · cases h; exact (o6_.b h53).ret hΓ
        · exact ((o6_.b h53).a [.cn [0, 1, 5] []]).ct hΓ hS1 (iS hd1 hm1) (ih1 (i1 + 1) (y51) (dn hd1) h)
theorem d_laws_heldMatchS_good {a0_ : List Match} {a1_ : Int} {r : Int} (h : d_laws_heldMatchS a0_ a1_ = some r) : Good Tryz.prog 35 [D.sl ((a0_).map Match.c), D.int .i64 (a1_)] (D.int .i64 (r)) := by
  refine gd Tryz.func35 [[none]] 41 fun hr Γ hΓ => ?_
  rw [d_laws_heldMatchS] at h
  refine (pre0.a [.cn [0, 1, 5] []]).lp hΓ (d_laws_heldMatchS_L1w hΓ (fun z1_1 h => ?_) (by have := (Rdb.sl (hr _ (List.mem_of_getElem? (i := 0) rfl))).1; simpa using this) (a0_) 0 (a1_) rfl h)
  have h := den_some h; subst h; exact pre0.ret hΓ
end Go.Cx
