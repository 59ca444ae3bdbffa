/- What functions of the program compute, and the walks that show it. No condition. -/
import Derived.Test.YtlhcfcgghbmhiaaPPathOfNMk
namespace Go.Cx
open Go.RowKit Go.Proofs
set_option linter.unusedVariables false
set_option linter.unusedSimpArgs false
set_option maxRecDepth 100000
variable {Γ : Ctx} {N : Nat → St → Prop}
def d_laws_heldIntS_L1 (a0_ : List Int) (k1 : Int → Option Int) : List Int → Nat → Int → Option Int
  | [], i1, v1_1 => (k1 (v1_1))
  | x1_ :: xs1, i1, v1_1 => (bif (x1_ : Int) != (v1_1) then (some (-1)) else (d_laws_heldIntS_L1 a0_ k1 xs1 (i1 + 1) (IntKind.i64.wrap ((v1_1) + (1)))))
def d_laws_heldIntS (a0_ : List Int) (a1_ : Int) : Option Int := (d_laws_heldIntS_L1 a0_ (fun (z1_1 : Int) => (some (z1_1))) (a0_) 0 (a1_))
def d_laws_heldStringS_L1 (a0_ : List Bytes) (k1 : Int → Option Int) : List Bytes → Nat → Int → Option Int
  | [], i1, v1_1 => (k1 (v1_1))
  | x1_ :: xs1, i1, v1_1 => ((d_laws_markText (v1_1)).bind fun y21 => (bif !((x1_ : Bytes) == (y21)) then (some (-1)) else (d_laws_heldStringS_L1 a0_ k1 xs1 (i1 + 1) (IntKind.i64.wrap ((v1_1) + (1))))))
def d_laws_heldStringS (a0_ : List Bytes) (a1_ : Int) : Option Int := (d_laws_heldStringS_L1 a0_ (fun (z1_1 : Int) => (some (z1_1))) (a0_) 0 (a1_))
def d_laws_heldStringS_S1 (a0_ : List Bytes) (v1_1 : Int) (ix_ : Int) : St := ⟨[(0, D.sl ((a0_).map tx)), (1, D.int .i64 (v1_1)), (5, D.int .i64 (ix_))], []⟩
theorem d_laws_heldStringS_L1w (hΓ : Γ.nt = 22) {a0_ : List Bytes} {r : Int} {k1 : Int → Option Int} (hE1 : ∀ (z1_1 : Int), k1 z1_1 = some r → Ax Γ N Try.f53 (.q [[none]] (D.int .i64 (r))) [1, 1] ⟨[(1, D.int .i64 (z1_1))], []⟩) (hm1 : (a0_).length ≤ maxLen) : ∀ (rest : List Bytes) (i1 : Nat) (v1_1 : Int), (a0_).drop i1 = rest → d_laws_heldStringS_L1 a0_ k1 rest i1 v1_1 = some r → Ar Γ N Try.f53 (.q [[none]] (D.int .i64 (r))) [1, 0, 1, 0] (rest.length + 1) (d_laws_heldStringS_S1 a0_ v1_1 ((i1 : Int))) := by
  intro rest
  induction rest with
  | nil =>
    intro i1 v1_1 hd1 h
    rw [d_laws_heldStringS_L1] at h
    refine AWr_succ fun N1 hN1 hS1 => ?_
    exact ((pre0.ge tx hd1).a [.hl 0 [1] []]).ex hΓ hN1 (hE1 (v1_1) h)
  | cons x1_ xs1 ih1 =>
    intro i1 v1_1 hd1 h
    rw [d_laws_heldStringS_L1] at h
    refine AWr_succ fun N1 hN1 hS1 => ?_
    obtain ⟨y21, h22, h⟩ := den_bind h
    have o2_ := ((((pre0.lt tx hd1).a [.n 6]).l (map_row tx 1 (dc hd1) rfl)).g (d_laws_markText_good h22))
    obtain ⟨h23, h⟩ | ⟨h23, h⟩ := den_if h
    · cases h; exact (o2_.b h23).ret hΓ
    · exact ((o2_.b h23).a [.cn [0, 1, 5] []]).ct hΓ hS1 (iS hd1 hm1) (ih1 (i1 + 1) (IntKind.i64.wrap ((v1_1) + (1))) (dn hd1) h)
theorem d_laws_heldStringS_good {a0_ : List Bytes} {a1_ : Int} {r : Int} (h : d_laws_heldStringS a0_ a1_ = some r) : Good Try.prog 53 [D.sl ((a0_).map tx), D.int .i64 (a1_)] (D.int .i64 (r)) := by
  refine gd Try.func53 [[none]] 22 fun hr Γ hΓ => ?_
  rw [d_laws_heldStringS] at h
  refine (pre0.a [.cn [0, 1, 5] []]).lp hΓ (d_laws_heldStringS_L1w hΓ (fun z1_1 h => ?_) (by have := (Rdb.sl (hr _ (List.mem_of_getElem? (i := 0) rfl))).1; simpa using this) (a0_) 0 (a1_) rfl h)
  have h := den_some h; subst h; exact pre0.ret hΓ
def d_laws_heldCondS_L1 (a0_ : List Cond) (k1 : Int → Option Int) : List Cond → Nat → Int → Option Int
  | [], i1, v1_1 => (k1 (v1_1))
  | x1_ :: xs1, i1, v1_1 => (bif (x1_.kind : Int) != (v1_1) then (some (-1)) else ((d_laws_markText (IntKind.i64.wrap ((v1_1) + (1)))).bind fun y62 => (bif !((x1_.pat.rel : Bytes) == (y62)) then (some (-1)) else ((d_laws_heldStringS (x1_.pat.args) (IntKind.i64.wrap ((IntKind.i64.wrap ((v1_1) + (1))) + (1)))).bind fun y65 => (bif decide ((y65 : Int) < (0)) then (some (-1)) else ((d_laws_markText (y65)).bind fun y68 => (bif !((x1_.left : Bytes) == (y68)) then (some (-1)) else ((d_laws_markText (IntKind.i64.wrap ((y65) + (1)))).bind fun y71 => (bif !((x1_.right : Bytes) == (y71)) then (some (-1)) else (d_laws_heldCondS_L1 a0_ k1 xs1 (i1 + 1) (IntKind.i64.wrap ((IntKind.i64.wrap ((y65) + (1))) + (1)))))))))))))
def d_laws_heldCondS (a0_ : List Cond) (a1_ : Int) : Option Int := (d_laws_heldCondS_L1 a0_ (fun (z1_1 : Int) => (some (z1_1))) (a0_) 0 (a1_))
def d_laws_heldCondS_S1 (a0_ : List Cond) (v1_1 : Int) (ix_ : Int) : St := ⟨[(0, D.sl ((a0_).map Cond.c)), (1, D.int .i64 (v1_1)), (5, D.int .i64 (ix_))], []⟩
theorem d_laws_heldCondS_L1w (hΓ : Γ.nt = 63) {a0_ : List Cond} {r : Int} {k1 : Int → Option Int} (hE1 : ∀ (z1_1 : Int), k1 z1_1 = some r → Ax Γ N Try.f22 (.q [[none]] (D.int .i64 (r))) [1, 1] ⟨[(1, D.int .i64 (z1_1))], []⟩) (hm1 : (a0_).length ≤ maxLen) : ∀ (rest : List Cond) (i1 : Nat) (v1_1 : Int), (a0_).drop i1 = rest → d_laws_heldCondS_L1 a0_ k1 rest i1 v1_1 = some r → Ar Γ N Try.f22 (.q [[none]] (D.int .i64 (r))) [1, 0, 1, 0] (rest.length + 1) (d_laws_heldCondS_S1 a0_ v1_1 ((i1 : Int))) := by
  intro rest
  induction rest with
  | nil =>
    intro i1 v1_1 hd1 h
    rw [d_laws_heldCondS_L1] at h
    refine AWr_succ fun N1 hN1 hS1 => ?_
    exact ((pre0.ge Cond.c hd1).a [.hl 0 [1] []]).ex hΓ hN1 (hE1 (v1_1) h)
  | cons x1_ xs1 ih1 =>
    intro i1 v1_1 hd1 h
    rw [d_laws_heldCondS_L1] at h
    refine AWr_succ fun N1 hN1 hS1 => ?_
    have o6_ := ((pre0.lt Cond.c hd1).l (map_row Cond.c 5 (dc hd1) rfl))
    obtain ⟨h61, h⟩ | ⟨h61, h⟩ := den_if h
    · cases h; exact (o6_.b h61).ret hΓ
    · obtain ⟨y62, h63, h⟩ := den_bind h
      have o7_ := ((((o6_.b h61).a [.n 8]).l (map_row Cond.c 5 (dc hd1) rfl)).g (d_laws_markText_good h63))
      obtain ⟨h64, h⟩ | ⟨h64, h⟩ := den_if h
      · cases h; exact (o7_.b h64).ret hΓ
      · obtain ⟨y65, h66, h⟩ := den_bind h
        have o8_ := (((o7_.b h64).l (map_row Cond.c 5 (dc hd1) rfl)).g (d_laws_heldStringS_good h66))
        obtain ⟨h67, h⟩ | ⟨h67, h⟩ := den_if h
        · cases h; exact (o8_.b h67).ret hΓ
        · obtain ⟨y68, h69, h⟩ := den_bind h
          have o9_ := ((((o8_.b h67).a [.n 7]).l (map_row Cond.c 5 (dc hd1) rfl)).g (d_laws_markText_good h69))
          obtain ⟨h70, h⟩ | ⟨h70, h⟩ := den_if h
          · cases h; exact (o9_.b h70).ret hΓ
          · obtain ⟨y71, h72, h⟩ := den_bind h
            have o10_ := ((((o9_.b h70).a [.n 7]).l (map_row Cond.c 5 (dc hd1) rfl)).g (d_laws_markText_good h72))
            obtain ⟨h73, h⟩ | ⟨h73, h⟩ := den_if h
            · cases h; exact (o10_.b h73).ret hΓ
            · exact ((o10_.b h73).a [.cn [0, 1, 5] []]).ct hΓ hS1 (iS hd1 hm1) (ih1 (i1 + 1) (IntKind.i64.wrap ((IntKind.i64.wrap ((y65) + (1))) + (1))) (dn hd1) h)
theorem d_laws_heldCondS_good {a0_ : List Cond} {a1_ : Int} {r : Int} (h : d_laws_heldCondS a0_ a1_ = some r) : Good Try.prog 22 [D.sl ((a0_).map Cond.c), D.int .i64 (a1_)] (D.int .i64 (r)) := by
  refine gd Try.func22 [[none]] 63 fun hr Γ hΓ => ?_
  rw [d_laws_heldCondS] at h
  refine (pre0.a [.cn [0, 1, 5] []]).lp hΓ (d_laws_heldCondS_L1w hΓ (fun z1_1 h => ?_) (by have := (Rdb.sl (hr _ (List.mem_of_getElem? (i := 0) rfl))).1; simpa using this) (a0_) 0 (a1_) rfl h)
  have h := den_some h; subst h; exact pre0.ret hΓ
end Go.Cx
