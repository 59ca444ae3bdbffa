/- What functions of the program compute, and the walks that show it. No condition. -/
import Derived.Test.YtdckcgjimblpkaaGreatDoorPPlainTriesNFn1
namespace Go.Cx
open Go.RowKit Go.Proofs
set_option linter.unusedVariables false
set_option linter.unusedSimpArgs false
set_option maxRecDepth 100000
variable {Γ : Ctx} {N : Nat → St → Prop}
def d_impl_CompareFacts_L1 (a0_ : Fact) (a1_ : Fact) (k1 : Option Int) : List Bytes → Nat → Option Int
  | [], i1 => (k1 )
  | x1_ :: xs1, i1 => (bif decide (((i1 : Int) : Int) < ((((a1_.args).map tx).length : Int))) then ((atI (a1_.args) ((i1 : Int))).bind fun x37 => ((d_impl_CompareAtoms (x1_) (x37)).bind fun y39 => (bif (y39 : Int) != (0) then (some (y39)) else (d_impl_CompareFacts_L1 a0_ a1_ k1 xs1 (i1 + 1) )))) else (k1 ))
def d_impl_CompareFacts (a0_ : Fact) (a1_ : Fact) : Option Int := ((d_strings_Compare (a0_.rel) (a1_.rel)).bind fun y1 => (bif (y1 : Int) != (0) then (some (y1)) else (d_impl_CompareFacts_L1 a0_ a1_ ((d_impl_compareInts ((((a0_.args).map tx).length : Int)) ((((a1_.args).map tx).length : Int))).bind fun y42 => (some (y42))) (a0_.args) 0 )))
def d_impl_CompareFacts_S1 (a0_ : Fact) (a1_ : Fact) (ix_ : Int) : St := ⟨[(2, D.ptr 0 0), (3, D.ptr 1 0), (6, D.int .i64 (ix_))], [Ob.box (Fact.c a0_), Ob.box (Fact.c a1_)]⟩
theorem d_impl_CompareFacts_L1w (hΓ : Γ.nt = 51) {a0_ : Fact} {a1_ : Fact} {r : Int} {k1 : Option Int} (hE1 : k1 = some r → Ax Γ N Tryz.f129 (D.int .i64 (r)) [1, 1, 1] ⟨[(2, D.ptr 0 0), (3, D.ptr 1 0)], [Ob.box (Fact.c a0_), Ob.box (Fact.c a1_)]⟩) (hm1 : (a0_.args).length ≤ maxLen) : ∀ (rest : List Bytes) (i1 : Nat) , (a0_.args).drop i1 = rest → d_impl_CompareFacts_L1 a0_ a1_ k1 rest i1  = some r → Ar Γ N Tryz.f129 (D.int .i64 (r)) [1, 1, 0, 1, 0] (rest.length + 1) (d_impl_CompareFacts_S1 a0_ a1_ ((i1 : Int))) := by
  intro rest
  induction rest with
  | nil =>
    intro i1  hd1 h
    rw [d_impl_CompareFacts_L1] at h
    refine AWr_succ fun N1 hN1 hS1 => ?_
    exact ((((((((pre0.ge tx hd1).ge tx hd1).ge tx hd1).ge tx hd1).ge tx hd1).ge tx hd1).F 1).a [.hl 0 [2, 3] [0, 1]]).ex [[none]] hΓ hN1 (hE1 h)
  | cons x1_ xs1 ih1 =>
    intro i1  hd1 h
    rw [d_impl_CompareFacts_L1] at h
    refine AWr_succ fun N1 hN1 hS1 => ?_
    have o3_ := ((((((pre0.lt tx hd1).lt tx hd1).lt tx hd1).lt tx hd1).lt tx hd1).lt tx hd1)
    obtain ⟨h36, h⟩ | ⟨h36, h⟩ := den_if h
    · obtain ⟨x37, h38, h⟩ := den_bind h
      obtain ⟨y39, h40, h⟩ := den_bind h
      have o4_ := (((((o3_.b h36).a [.n 10]).l (map_row tx 1 (dc hd1) rfl)).l (at_row tx 1 h38 rfl)).g (d_impl_CompareAtoms_good h40))
      obtain ⟨h41, h⟩ | ⟨h41, h⟩ := den_if h
      · have h := den_some h; subst h; exact (o4_.b h41).ret [[none]] hΓ
      · exact ((o4_.b h41).a [.cn [2, 3, 6] [0, 1]]).ct [[none]] hΓ hS1 (iS hd1 hm1) (ih1 (i1 + 1)  (dn hd1) h)
    · exact ((o3_.b h36).a [.hl 0 [2, 3] [0, 1]]).ex [[none]] hΓ hN1 (hE1 h)
theorem d_impl_CompareFacts_good {a0_ : Fact} {a1_ : Fact} {r : Int} (h : d_impl_CompareFacts a0_ a1_ = some r) : Good Tryz.prog 129 [D.agg (Fact.c a0_), D.agg (Fact.c a1_)] (D.int .i64 (r)) := by
  refine gd Tryz.func129 51 fun hr Γ hΓ => ?_
  rw [d_impl_CompareFacts] at h
  obtain ⟨y1, h2, h⟩ := den_bind h
  obtain ⟨h3, h⟩ | ⟨h3, h⟩ := den_if h
  · have h := den_some h; subst h; exact ((pre0.g (d_strings_Compare_good h2)).b h3).ret [[none]] hΓ
  · refine (((pre0.g (d_strings_Compare_good h2)).b h3).a [.cn [2, 3, 6] [0, 1]]).lp [[none]] hΓ (d_impl_CompareFacts_L1w hΓ (fun h => ?_) (by have := (Rdb.sl (Rdb.agg (hr _ (List.mem_of_getElem? (i := 0) rfl)) (.sl ((a0_.args).map tx)) (by simp))).1; simpa using this) (a0_.args) 0  rfl h)
    obtain ⟨y42, h43, h⟩ := den_bind h
    have h := den_some h; subst h; exact (pre0.g (d_impl_compareInts_good h43)).ret [[none]] hΓ
def d_impl_AreFacts_L1 (a0_ : List Fact) (k1 : Option Bool) : List Fact → Nat → Option Bool
  | [], i1 => (k1 )
  | x1_ :: xs1, i1 => ((d_impl_IsFact (x1_)).bind fun y46 => (bif !(y46) then (some (false)) else (bif decide (((i1 : Int) : Int) > (0)) then ((atI (a0_) (IntKind.i64.wrap (((i1 : Int)) - (1)))).bind fun x50 => ((d_impl_CompareFacts (x50) (x1_)).bind fun y52 => (bif decide ((y52 : Int) ≥ (0)) then (some (false)) else (d_impl_AreFacts_L1 a0_ k1 xs1 (i1 + 1) )))) else (d_impl_AreFacts_L1 a0_ k1 xs1 (i1 + 1) ))))
def d_impl_AreFacts (a0_ : List Fact) : Option Bool := (bif decide (((((a0_).map Fact.c).length : Int) : Int) > (24)) then (some (false)) else (d_impl_AreFacts_L1 a0_ (some (true)) (a0_) 0 ))
def d_impl_AreFacts_S1 (a0_ : List Fact) (ix_ : Int) : St := ⟨[(0, D.sl ((a0_).map Fact.c)), (8, D.sl ((a0_).map Fact.c)), (9, D.int .i64 ((((a0_).map Fact.c).length : Int))), (10, D.int .i64 (ix_))], []⟩
theorem d_impl_AreFacts_L1w (hΓ : Γ.nt = 33) {a0_ : List Fact} {r : Bool} {k1 : Option Bool} (hE1 : k1 = some r → Ax Γ N Tryz.f71 (D.bool (r)) [1, 1, 1] ⟨[], []⟩) (hm1 : (a0_).length ≤ maxLen) : ∀ (rest : List Fact) (i1 : Nat) , (a0_).drop i1 = rest → d_impl_AreFacts_L1 a0_ k1 rest i1  = some r → Ar Γ N Tryz.f71 (D.bool (r)) [1, 1, 0, 1, 0] (rest.length + 1) (d_impl_AreFacts_S1 a0_ ((i1 : Int))) := by
  intro rest
  induction rest with
  | nil =>
    intro i1  hd1 h
    rw [d_impl_AreFacts_L1] at h
    refine AWr_succ fun N1 hN1 hS1 => ?_
    exact ((pre0.ge Fact.c hd1).a [.hl 0 [] []]).ex [[none]] hΓ hN1 (hE1 h)
  | cons x1_ xs1 ih1 =>
    intro i1  hd1 h
    rw [d_impl_AreFacts_L1] at h
    refine AWr_succ fun N1 hN1 hS1 => ?_
    obtain ⟨y46, h47, h⟩ := den_bind h
    have o4_ := ((((pre0.lt Fact.c hd1).l (map_row Fact.c 2 (dc hd1) rfl)).a [.n 13]).g (d_impl_IsFact_good h47))
    obtain ⟨h48, h⟩ | ⟨h48, h⟩ := den_if h
    · have h := den_some h; subst h; exact ((((o4_.r 3 h48).a [bF, bF, bF, bF, bF, bF, bF, bF]).r 2 h48).T 1).ret [[none]] hΓ
    · have o5_ := (o4_.r 3 h48)
      obtain ⟨h49, h⟩ | ⟨h49, h⟩ := den_if h
      · obtain ⟨x50, h51, h⟩ := den_bind h
        obtain ⟨y52, h53, h⟩ := den_bind h
        have o6_ := ((((((((o5_.r 4 h49).l (at_row Fact.c 2 h51 rfl)).r 3 h49).g (d_impl_CompareFacts_good h53)).b h49).b h48).b h49).b h48)
        obtain ⟨h54, h⟩ | ⟨h54, h⟩ := den_if h
        · have h := den_some h; subst h; exact (o6_.b h54).ret [[none]] hΓ
        · exact ((o6_.b h54).a [.cn [0, 8, 9, 10] []]).ct [[none]] hΓ hS1 (iS hd1 hm1) (ih1 (i1 + 1)  (dn hd1) h)
      · exact ((((((o5_.r 8 h49).b h48).b h49).b h48).F 1).a [.cn [0, 8, 9, 10] []]).ct [[none]] hΓ hS1 (iS hd1 hm1) (ih1 (i1 + 1)  (dn hd1) h)
theorem d_impl_AreFacts_good {a0_ : List Fact} {r : Bool} (h : d_impl_AreFacts a0_ = some r) : Good Tryz.prog 71 [D.sl ((a0_).map Fact.c)] (D.bool (r)) := by
  refine gd Tryz.func71 33 fun hr Γ hΓ => ?_
  rw [d_impl_AreFacts] at h
  obtain ⟨h1, h⟩ | ⟨h1, h⟩ := den_if h
  · have h := den_some h; subst h; exact (pre0.b h1).ret [[none]] hΓ
  · refine ((pre0.b h1).a [.cn [0, 8, 9, 10] []]).lp [[none]] hΓ (d_impl_AreFacts_L1w hΓ (fun h => ?_) (by have := (Rdb.sl (hr _ (List.mem_of_getElem? (i := 0) rfl))).1; simpa using this) (a0_) 0  rfl h)
    have h := den_some h; subst h; exact pre0.ret [[none]] hΓ
def d_impl_IsBinding_L1 (a0_ : List Pair) (k1 : Option Bool) : List Pair → Nat → Option Bool
  | [], i1 => (k1 )
  | x1_ :: xs1, i1 => ((d_impl_IsVar (x1_.var)).bind fun y50 => (bif !(y50) then (some (false)) else ((d_impl_IsAtom (x1_.value)).bind fun y53 => (bif !(y53) then (some (false)) else (bif decide (((i1 : Int) : Int) > (0)) then ((atI (a0_) (IntKind.i64.wrap (((i1 : Int)) - (1)))).bind fun x57 => (bif !(Op.bytesLess (x57.var) (x1_.var)) then (some (false)) else (d_impl_IsBinding_L1 a0_ k1 xs1 (i1 + 1) ))) else (d_impl_IsBinding_L1 a0_ k1 xs1 (i1 + 1) ))))))
def d_impl_IsBinding (a0_ : List Pair) : Option Bool := (bif decide (((((a0_).map Pair.c).length : Int) : Int) > (6)) then (some (false)) else (d_impl_IsBinding_L1 a0_ (some (true)) (a0_) 0 ))
def d_impl_IsBinding_S1 (a0_ : List Pair) (ix_ : Int) : St := ⟨[(0, D.sl ((a0_).map Pair.c)), (8, D.sl ((a0_).map Pair.c)), (9, D.int .i64 ((((a0_).map Pair.c).length : Int))), (10, D.int .i64 (ix_))], []⟩
theorem d_impl_IsBinding_L1w (hΓ : Γ.nt = 41) {a0_ : List Pair} {r : Bool} {k1 : Option Bool} (hE1 : k1 = some r → Ax Γ N Tryz.f172 (D.bool (r)) [1, 1, 1] ⟨[], []⟩) (hm1 : (a0_).length ≤ maxLen) : ∀ (rest : List Pair) (i1 : Nat) , (a0_).drop i1 = rest → d_impl_IsBinding_L1 a0_ k1 rest i1  = some r → Ar Γ N Tryz.f172 (D.bool (r)) [1, 1, 0, 1, 0] (rest.length + 1) (d_impl_IsBinding_S1 a0_ ((i1 : Int))) := by
  intro rest
  induction rest with
  | nil =>
    intro i1  hd1 h
    rw [d_impl_IsBinding_L1] at h
    refine AWr_succ fun N1 hN1 hS1 => ?_
    exact ((pre0.ge Pair.c hd1).a [.hl 0 [] []]).ex [[none]] hΓ hN1 (hE1 h)
  | cons x1_ xs1 ih1 =>
    intro i1  hd1 h
    rw [d_impl_IsBinding_L1] at h
    refine AWr_succ fun N1 hN1 hS1 => ?_
    obtain ⟨y50, h51, h⟩ := den_bind h
    have o5_ := ((((pre0.lt Pair.c hd1).l (map_row Pair.c 2 (dc hd1) rfl)).a [.n 22]).g (d_impl_IsVar_good h51))
    obtain ⟨h52, h⟩ | ⟨h52, h⟩ := den_if h
    · have h := den_some h; subst h; exact ((((o5_.r 5 h52).T 3).a [bF, bF, bF, bF, bF, bF, bF, bF, bF]).T 3).ret [[none]] hΓ
    · obtain ⟨y53, h54, h⟩ := den_bind h
      have o6_ := (((o5_.r 3 h52).g (d_impl_IsAtom_good h54)).r 2 h52)
      obtain ⟨h55, h⟩ | ⟨h55, h⟩ := den_if h
      · have h := den_some h; subst h; exact ((((o6_.r 3 h55).a [bF, bF, bF, bF, bF, bF, bF, bF, bF]).r 2 h55).T 1).ret [[none]] hΓ
      · have o7_ := (o6_.r 3 h55)
        obtain ⟨h56, h⟩ | ⟨h56, h⟩ := den_if h
        · obtain ⟨x57, h58, h⟩ := den_bind h
          have o8_ := ((((((o7_.r 4 h56).l (at_row Pair.c 2 h58 rfl)).r 5 h56).b h55).b h56).b h55)
          obtain ⟨h59, h⟩ | ⟨h59, h⟩ := den_if h
          · have h := den_some h; subst h; exact (o8_.b h59).ret [[none]] hΓ
          · exact ((o8_.b h59).a [.cn [0, 8, 9, 10] []]).ct [[none]] hΓ hS1 (iS hd1 hm1) (ih1 (i1 + 1)  (dn hd1) h)
        · exact ((((((o7_.r 9 h56).b h55).b h56).b h55).F 1).a [.cn [0, 8, 9, 10] []]).ct [[none]] hΓ hS1 (iS hd1 hm1) (ih1 (i1 + 1)  (dn hd1) h)
theorem d_impl_IsBinding_good {a0_ : List Pair} {r : Bool} (h : d_impl_IsBinding a0_ = some r) : Good Tryz.prog 172 [D.sl ((a0_).map Pair.c)] (D.bool (r)) := by
  refine gd Tryz.func172 41 fun hr Γ hΓ => ?_
  rw [d_impl_IsBinding] at h
  obtain ⟨h1, h⟩ | ⟨h1, h⟩ := den_if h
  · have h := den_some h; subst h; exact (pre0.b h1).ret [[none]] hΓ
  · refine ((pre0.b h1).a [.cn [0, 8, 9, 10] []]).lp [[none]] hΓ (d_impl_IsBinding_L1w hΓ (fun h => ?_) (by have := (Rdb.sl (hr _ (List.mem_of_getElem? (i := 0) rfl))).1; simpa using this) (a0_) 0  rfl h)
    have h := den_some h; subst h; exact pre0.ret [[none]] hΓ
def d_impl_copyPairs (a0_ : List Pair) : Option (List Pair) := (bif room ((([] : List (List D))).length + ((a0_).map Pair.c).length) 32 then (some ((([] : List Pair)) ++ (a0_))) else none)
theorem d_impl_copyPairs_good {a0_ : List Pair} {r : List Pair} (h : d_impl_copyPairs a0_ = some r) : Good Tryz.prog 175 [D.sl ((a0_).map Pair.c)] (D.fr 179 2 ((r).map Pair.c)) := by
  refine gd Tryz.func175 5 fun hr Γ hΓ => ?_
  rw [d_impl_copyPairs] at h
  obtain ⟨h1, h⟩ := den_ok h
  cases h; exact (((pre0.w (room_ok h1)).w (show (∀ r ∈ ((a0_).map Pair.c), r.length = 2) ∧ (true = true → D.flatRows ((a0_).map Pair.c) = true) from ⟨by simp, by simp [D.flatRows, D.flat]⟩)).a [.pro 2, .fl true]).rts [[some (179, 2)]] hΓ (D.fr 179 2 ((([] : List (List D))) ++ ((a0_).map Pair.c))) (by first | rfl | (simp only [mA] <;> rfl))
def d_impl_ValueOf_L1 (a0_ : List Pair) (a1_ : Bytes) (k1 : Option (Bytes × Bool)) : List Pair → Nat → Option (Bytes × Bool)
  | [], i1 => (k1 )
  | x1_ :: xs1, i1 => (bif (x1_.var : Bytes) == (a1_) then (some ((x1_.value, true))) else (d_impl_ValueOf_L1 a0_ a1_ k1 xs1 (i1 + 1) ))
def d_impl_ValueOf (a0_ : List Pair) (a1_ : Bytes) : Option (Bytes × Bool) := ((d_impl_IsAtom (a1_)).bind fun y1 => (bif y1 then (some ((a1_, true))) else ((d_impl_IsVar (a1_)).bind fun y4 => (bif !(y4) then (some (([], false))) else (d_impl_ValueOf_L1 a0_ a1_ (some (([], false))) (a0_) 0 )))))
def d_impl_ValueOf_S1 (a0_ : List Pair) (a1_ : Bytes) (ix_ : Int) : St := ⟨[(1, D.str (a1_)), (14, D.sl ((a0_).map Pair.c)), (15, D.int .i64 ((((a0_).map Pair.c).length : Int))), (16, D.int .i64 (ix_))], []⟩
theorem d_impl_ValueOf_L1w (hΓ : Γ.nt = 27) {a0_ : List Pair} {a1_ : Bytes} {r : Bytes × Bool} {k1 : Option (Bytes × Bool)} (hE1 : k1 = some r → Ax Γ N Tryz.f198 (D.tup [D.str (r.1), D.bool (r.2)]) [1, 1, 1, 1] ⟨[], []⟩) (hm1 : (a0_).length ≤ maxLen) : ∀ (rest : List Pair) (i1 : Nat) , (a0_).drop i1 = rest → d_impl_ValueOf_L1 a0_ a1_ k1 rest i1  = some r → Ar Γ N Tryz.f198 (D.tup [D.str (r.1), D.bool (r.2)]) [1, 1, 1, 0, 1, 0] (rest.length + 1) (d_impl_ValueOf_S1 a0_ a1_ ((i1 : Int))) := by
  intro rest
  induction rest with
  | nil =>
    intro i1  hd1 h
    rw [d_impl_ValueOf_L1] at h
    refine AWr_succ fun N1 hN1 hS1 => ?_
    exact ((pre0.ge Pair.c hd1).a [.hl 0 [] []]).ex [[none], [none]] hΓ hN1 (hE1 h)
  | cons x1_ xs1 ih1 =>
    intro i1  hd1 h
    rw [d_impl_ValueOf_L1] at h
    refine AWr_succ fun N1 hN1 hS1 => ?_
    have o2_ := ((pre0.lt Pair.c hd1).l (map_row Pair.c 2 (dc hd1) rfl))
    obtain ⟨h19, h⟩ | ⟨h19, h⟩ := den_if h
    · cases h; exact (o2_.b h19).ret [[none], [none]] hΓ
    · exact ((o2_.b h19).a [.cn [1, 14, 15, 16] []]).ct [[none], [none]] hΓ hS1 (iS hd1 hm1) (ih1 (i1 + 1)  (dn hd1) h)
theorem d_impl_ValueOf_good {a0_ : List Pair} {a1_ : Bytes} {r : Bytes × Bool} (h : d_impl_ValueOf a0_ a1_ = some r) : Good Tryz.prog 198 [D.sl ((a0_).map Pair.c), D.str (a1_)] (D.tup [D.str (r.1), D.bool (r.2)]) := by
  refine gd Tryz.func198 27 fun hr Γ hΓ => ?_
  rw [d_impl_ValueOf] at h
  obtain ⟨y1, h2, h⟩ := den_bind h
  obtain ⟨h3, h⟩ | ⟨h3, h⟩ := den_if h
  · cases h; exact ((pre0.g (d_impl_IsAtom_good h2)).b h3).ret [[none], [none]] hΓ
  · obtain ⟨y4, h5, h⟩ := den_bind h
    have o3_ := (((pre0.g (d_impl_IsAtom_good h2)).b h3).g (d_impl_IsVar_good h5))
    obtain ⟨h6, h⟩ | ⟨h6, h⟩ := den_if h
    · cases h; exact (o3_.b h6).ret [[none], [none]] hΓ
    · refine ((o3_.b h6).a [.cn [1, 14, 15, 16] []]).lp [[none], [none]] hΓ (d_impl_ValueOf_L1w hΓ (fun h => ?_) (by have := (Rdb.sl (hr _ (List.mem_of_getElem? (i := 0) rfl))).1; simpa using this) (a0_) 0  rfl h)
      cases h; exact pre0.ret [[none], [none]] hΓ
def d_impl_Extend_L1 (a0_ : List Pair) (a1_ : Bytes) (a2_ : Bytes) (k1 : Bool → List Pair → Option ((List Pair) × Bool)) : List Pair → Nat → Bool → List Pair → Option ((List Pair) × Bool)
  | [], i1, v1_11, w1_0 => (k1 (v1_11) (w1_0))
  | x1_ :: xs1, i1, v1_11, w1_0 => (bif !(v1_11) then (bif !(Op.bytesLess (x1_.var) (a1_) || (x1_.var : Bytes) == (a1_)) then (bif room (((w1_0).map Pair.c).length + ([[D.str (a1_), D.str (a2_)]]).length) 32 then (bif room ((((w1_0).map Pair.c) ++ ([[D.str (a1_), D.str (a2_)]])).length + ([[D.str (x1_.var), D.str (x1_.value)]]).length) 32 then (d_impl_Extend_L1 a0_ a1_ a2_ k1 xs1 (i1 + 1) (true) (((w1_0) ++ ([(⟨a1_, a2_⟩ : Pair)])) ++ ([x1_]))) else none) else none) else (bif room (((w1_0).map Pair.c).length + ([[D.str (x1_.var), D.str (x1_.value)]]).length) 32 then (d_impl_Extend_L1 a0_ a1_ a2_ k1 xs1 (i1 + 1) (v1_11) ((w1_0) ++ ([x1_]))) else none)) else (bif room (((w1_0).map Pair.c).length + ([[D.str (x1_.var), D.str (x1_.value)]]).length) 32 then (d_impl_Extend_L1 a0_ a1_ a2_ k1 xs1 (i1 + 1) (v1_11) ((w1_0) ++ ([x1_]))) else none))
def d_impl_Extend (a0_ : List Pair) (a1_ : Bytes) (a2_ : Bytes) : Option ((List Pair) × Bool) := ((d_impl_IsBinding (a0_)).bind fun y1 => (bif !(y1) then (some (([], false))) else ((d_impl_IsVar (a1_)).bind fun y4 => (bif !(y4) then (some (([], false))) else ((d_impl_IsAtom (a2_)).bind fun y7 => (bif !(y7) then (some (([], false))) else ((d_impl_ValueOf (a0_) (a1_)).bind fun y10 => (bif y10.2 then (bif !((y10.1 : Bytes) == (a2_)) then (some (([], false))) else ((d_impl_copyPairs (a0_)).bind fun y14 => (some ((y14, true))))) else (bif decide (((((a0_).map Pair.c).length : Int) : Int) ≥ (6)) then (some (([], false))) else (d_impl_Extend_L1 a0_ a1_ a2_ (fun (z1_11 : Bool) (q1_0 : List Pair) => (bif !(z1_11) then (bif room (((q1_0).map Pair.c).length + ([[D.str (a1_), D.str (a2_)]]).length) 32 then (some (((q1_0) ++ ([(⟨a1_, a2_⟩ : Pair)]), true))) else none) else (some ((q1_0, true))))) (a0_) 0 (false) (([] : List Pair))))))))))))
def d_impl_Extend_S1 (a0_ : List Pair) (a1_ : Bytes) (a2_ : Bytes) (v1_11 : Bool) (W1 : List (List D)) (ix_ : Int) : St := ⟨[(1, D.str (a1_)), (2, D.str (a2_)), (10, D.acc 0), (11, D.bool (v1_11)), (42, D.sl ((a0_).map Pair.c)), (43, D.int .i64 ((((a0_).map Pair.c).length : Int))), (44, D.int .i64 (ix_))], [Ob.row .uq 179 2 (W1)]⟩
theorem d_impl_Extend_L1w (hΓ : Γ.nt = 76) {a0_ : List Pair} {a1_ : Bytes} {a2_ : Bytes} {r : (List Pair) × Bool} {k1 : Bool → List Pair → Option ((List Pair) × Bool)} (hE1 : ∀ (z1_11 : Bool) (q1_0 : List Pair), k1 z1_11 q1_0 = some r → Ax Γ N Tryz.f176 (D.tup [D.fr 179 2 ((r.1).map Pair.c), D.bool (r.2)]) [1, 1, 1, 1, 1, 1, 1] ⟨[(1, D.str (a1_)), (2, D.str (a2_)), (10, D.acc 0), (11, D.bool (z1_11))], [Ob.row .uq 179 2 ((q1_0).map Pair.c)]⟩) (hm1 : (a0_).length ≤ maxLen) : ∀ (rest : List Pair) (i1 : Nat) (v1_11 : Bool) (w1_0 : List Pair), (a0_).drop i1 = rest → d_impl_Extend_L1 a0_ a1_ a2_ k1 rest i1 v1_11 w1_0 = some r → Ar Γ N Tryz.f176 (D.tup [D.fr 179 2 ((r.1).map Pair.c), D.bool (r.2)]) [1, 1, 1, 1, 1, 1, 0, 1, 0] (rest.length + 1) (d_impl_Extend_S1 a0_ a1_ a2_ v1_11 ((w1_0).map Pair.c) ((i1 : Int))) := by
  intro rest
  induction rest with
  | nil =>
    intro i1 v1_11 w1_0 hd1 h
    rw [d_impl_Extend_L1] at h
    refine AWr_succ fun N1 hN1 hS1 => ?_
    exact ((pre0.ge Pair.c hd1).a [.hl 0 [1, 2, 10, 11] [0]]).ex [[some (179, 2)], [none]] hΓ hN1 (hE1 (v1_11) (w1_0) h)
  | cons x1_ xs1 ih1 =>
    intro i1 v1_11 w1_0 hd1 h
    rw [d_impl_Extend_L1] at h
    refine AWr_succ fun N1 hN1 hS1 => ?_
    have o3_ := ((pre0.lt Pair.c hd1).l (map_row Pair.c 2 (dc hd1) rfl))
    obtain ⟨h58, h⟩ | ⟨h58, h⟩ := den_if h
    · have o4_ := (o3_.r 5 h58)
      obtain ⟨h59, h⟩ | ⟨h59, h⟩ := den_if h
      · obtain ⟨h60, h⟩ := den_ok h
        obtain ⟨h61, h⟩ := den_ok h
        exact ((((o4_.b h59).w (room_ok h60)).w (room_ok h61)).a [.cn [1, 2, 10, 11, 42, 43, 44] [5]]).cs [[some (179, 2)], [none]] hΓ hS1 (d_impl_Extend_S1 a0_ a1_ a2_ true ((((w1_0).map Pair.c) ++ ([[D.str (a1_), D.str (a2_)]])) ++ ([[D.str (x1_.var), D.str (x1_.value)]])) (IntKind.i64.wrap (((i1 : Int)) + (1)))) (by first | (simp only [iS hd1 hm1, mA] <;> rfl) | (simp only [iS hd1 hm1, mA, Fact.c, Pair.c, Cond.c, Action.c, Rule.c, Token.c, Match.c, Alpha.c, Node.c, Network.c, Stamp.c] <;> rfl)) (ih1 (i1 + 1) (true) (((w1_0) ++ ([(⟨a1_, a2_⟩ : Pair)])) ++ ([x1_])) (dn hd1) h)
      · obtain ⟨h62, h⟩ := den_ok h
        exact (((o4_.b h59).w (room_ok h62)).a [.cn [1, 2, 10, 11, 42, 43, 44] [3]]).cs [[some (179, 2)], [none]] hΓ hS1 (d_impl_Extend_S1 a0_ a1_ a2_ v1_11 (((w1_0).map Pair.c) ++ ([[D.str (x1_.var), D.str (x1_.value)]])) (IntKind.i64.wrap (((i1 : Int)) + (1)))) (by first | (simp only [iS hd1 hm1, mA] <;> rfl) | (simp only [iS hd1 hm1, mA, Fact.c, Pair.c, Cond.c, Action.c, Rule.c, Token.c, Match.c, Alpha.c, Node.c, Network.c, Stamp.c] <;> rfl)) (ih1 (i1 + 1) (v1_11) ((w1_0) ++ ([x1_])) (dn hd1) h)
    · obtain ⟨h63, h⟩ := den_ok h
      exact ((((o3_.r 5 h58).F 1).w (room_ok h63)).a [.cn [1, 2, 10, 11, 42, 43, 44] [3]]).cs [[some (179, 2)], [none]] hΓ hS1 (d_impl_Extend_S1 a0_ a1_ a2_ v1_11 (((w1_0).map Pair.c) ++ ([[D.str (x1_.var), D.str (x1_.value)]])) (IntKind.i64.wrap (((i1 : Int)) + (1)))) (by first | (simp only [iS hd1 hm1, mA] <;> rfl) | (simp only [iS hd1 hm1, mA, Fact.c, Pair.c, Cond.c, Action.c, Rule.c, Token.c, Match.c, Alpha.c, Node.c, Network.c, Stamp.c] <;> rfl)) (ih1 (i1 + 1) (v1_11) ((w1_0) ++ ([x1_])) (dn hd1) h)
theorem d_impl_Extend_good {a0_ : List Pair} {a1_ : Bytes} {a2_ : Bytes} {r : (List Pair) × Bool} (h : d_impl_Extend a0_ a1_ a2_ = some r) : Good Tryz.prog 176 [D.sl ((a0_).map Pair.c), D.str (a1_), D.str (a2_)] (D.tup [D.fr 179 2 ((r.1).map Pair.c), D.bool (r.2)]) := by
  refine gd Tryz.func176 76 fun hr Γ hΓ => ?_
  rw [d_impl_Extend] at h
  obtain ⟨y1, h2, h⟩ := den_bind h
  obtain ⟨h3, h⟩ | ⟨h3, h⟩ := den_if h
  · cases h; exact (((pre0.g (d_impl_IsBinding_good h2)).r 4 h3).T 5).ret [[some (179, 2)], [none]] hΓ
  · obtain ⟨y4, h5, h⟩ := den_bind h
    have o5_ := ((((pre0.g (d_impl_IsBinding_good h2)).r 2 h3).g (d_impl_IsVar_good h5)).r 2 h3)
    obtain ⟨h6, h⟩ | ⟨h6, h⟩ := den_if h
    · cases h; exact ((o5_.r 4 h6).T 1).ret [[some (179, 2)], [none]] hΓ
    · obtain ⟨y7, h8, h⟩ := den_bind h
      have o6_ := (((o5_.r 2 h6).g (d_impl_IsAtom_good h8)).r 2 h6)
      obtain ⟨h9, h⟩ | ⟨h9, h⟩ := den_if h
      · cases h; exact (o6_.b h9).ret [[some (179, 2)], [none]] hΓ
      · obtain ⟨y10, h11, h⟩ := den_bind h
        have o7_ := ((o6_.b h9).g (d_impl_ValueOf_good h11))
        obtain ⟨h12, h⟩ | ⟨h12, h⟩ := den_if h
        · obtain ⟨h13, h⟩ | ⟨h13, h⟩ := den_if h
          · cases h; exact ((o7_.b h12).b h13).ret [[some (179, 2)], [none]] hΓ
          · obtain ⟨y14, h15, h⟩ := den_bind h
            cases h; exact (((o7_.b h12).b h13).g (d_impl_copyPairs_good h15)).ret [[some (179, 2)], [none]] hΓ
        · obtain ⟨h16, h⟩ | ⟨h16, h⟩ := den_if h
          · cases h; exact ((o7_.b h12).b h16).ret [[some (179, 2)], [none]] hΓ
          · refine (((o7_.b h12).b h16).a [.pro 10, .cn [1, 2, 10, 11, 42, 43, 44] [0]]).lp [[some (179, 2)], [none]] hΓ (d_impl_Extend_L1w hΓ (fun z1_11 q1_0 h => ?_) (by have := (Rdb.sl (hr _ (List.mem_of_getElem? (i := 0) rfl))).1; simpa using this) (a0_) 0 (false) (([] : List Pair)) rfl h)
            obtain ⟨h64, h⟩ | ⟨h64, h⟩ := den_if h
            · obtain ⟨h65, h⟩ := den_ok h
              cases h; exact ((pre0.b h64).w (room_ok h65)).rts [[some (179, 2)], [none]] hΓ (D.tup [D.fr 179 2 (((q1_0).map Pair.c) ++ ([[D.str (a1_), D.str (a2_)]])), D.bool (true)]) (by first | rfl | (simp only [mA] <;> rfl))
            · cases h; exact (pre0.b h64).ret [[some (179, 2)], [none]] hΓ
def d_impl_MatchFact_L1 (a0_ : Fact) (a1_ : Fact) (k1 : List Pair → Option ((List Pair) × Bool)) : List Bytes → Nat → List Pair → Option ((List Pair) × Bool)
  | [], i1, w1_1 => (k1 (w1_1))
  | x1_ :: xs1, i1, w1_1 => ((d_impl_IsAtom (x1_)).bind fun y80 => (bif y80 then ((atI (a1_.args) ((i1 : Int))).bind fun x83 => (bif !((x1_ : Bytes) == (x83)) then (some (([], false))) else (d_impl_MatchFact_L1 a0_ a1_ k1 xs1 (i1 + 1) (w1_1)))) else ((atI (a1_.args) ((i1 : Int))).bind fun x86 => ((d_impl_Extend (w1_1) (x1_) (x86)).bind fun y88 => (bif !(y88.2) then (some (([], false))) else (d_impl_MatchFact_L1 a0_ a1_ k1 xs1 (i1 + 1) (y88.1)))))))
def d_impl_MatchFact (a0_ : Fact) (a1_ : Fact) (a2_ : List Pair) : Option ((List Pair) × Bool) := ((d_impl_IsPattern (a0_)).bind fun y1 => (bif !(y1) then (some (([], false))) else ((d_impl_IsFact (a1_)).bind fun y4 => (bif !(y4) then (some (([], false))) else ((d_impl_IsBinding (a2_)).bind fun y7 => (bif !(y7) then (some (([], false))) else (bif !((a0_.rel : Bytes) == (a1_.rel)) then (some (([], false))) else (bif ((((a0_.args).map tx).length : Int) : Int) != ((((a1_.args).map tx).length : Int)) then (some (([], false))) else ((d_impl_copyPairs (a2_)).bind fun y12 => (d_impl_MatchFact_L1 a0_ a1_ (fun (q1_0 : List Pair) => (some ((q1_0, true)))) (a0_.args) 0 (y12)))))))))))
def d_impl_MatchFact_S1 (a0_ : Fact) (a1_ : Fact) (W0 : List (List D)) (ix_ : Int) : St := ⟨[(4, D.ptr 0 0), (8, D.acc 1), (45, D.sl ((a0_.args).map tx)), (46, D.int .i64 ((((a0_.args).map tx).length : Int))), (47, D.int .i64 (ix_))], [Ob.box (Fact.c a1_), Ob.row .uq 179 2 (W0)]⟩
theorem d_impl_MatchFact_L1w (hΓ : Γ.nt = 77) {a0_ : Fact} {a1_ : Fact} {r : (List Pair) × Bool} {k1 : List Pair → Option ((List Pair) × Bool)} (hE1 : ∀ (q1_0 : List Pair), k1 q1_0 = some r → Ax Γ N Tryz.f131 (D.tup [D.fr 179 2 ((r.1).map Pair.c), D.bool (r.2)]) [1, 1, 1, 1] ⟨[(8, D.acc 0)], [Ob.row .uq 179 2 ((q1_0).map Pair.c)]⟩) (hm1 : (a0_.args).length ≤ maxLen) : ∀ (rest : List Bytes) (i1 : Nat) (w1_1 : List Pair), (a0_.args).drop i1 = rest → d_impl_MatchFact_L1 a0_ a1_ k1 rest i1 w1_1 = some r → Ar Γ N Tryz.f131 (D.tup [D.fr 179 2 ((r.1).map Pair.c), D.bool (r.2)]) [1, 1, 1, 0, 1, 0] (rest.length + 1) (d_impl_MatchFact_S1 a0_ a1_ ((w1_1).map Pair.c) ((i1 : Int))) := by
  intro rest
  induction rest with
  | nil =>
    intro i1 w1_1 hd1 h
    rw [d_impl_MatchFact_L1] at h
    refine AWr_succ fun N1 hN1 hS1 => ?_
    exact ((pre0.ge tx hd1).a [.hl 0 [8] [1]]).ex [[some (179, 2)], [none]] hΓ hN1 (hE1 (w1_1) h)
  | cons x1_ xs1 ih1 =>
    intro i1 w1_1 hd1 h
    rw [d_impl_MatchFact_L1] at h
    refine AWr_succ fun N1 hN1 hS1 => ?_
    obtain ⟨y80, h81, h⟩ := den_bind h
    have o4_ := (((pre0.lt tx hd1).l (map_row tx 1 (dc hd1) rfl)).g (d_impl_IsAtom_good h81))
    obtain ⟨h82, h⟩ | ⟨h82, h⟩ := den_if h
    · obtain ⟨x83, h84, h⟩ := den_bind h
      have o5_ := ((o4_.b h82).l (at_row tx 1 h84 rfl))
      obtain ⟨h85, h⟩ | ⟨h85, h⟩ := den_if h
      · cases h; exact (o5_.b h85).ret [[some (179, 2)], [none]] hΓ
      · exact ((o5_.b h85).a [.cn [4, 8, 45, 46, 47] [0, 1]]).ct [[some (179, 2)], [none]] hΓ hS1 (iS hd1 hm1) (ih1 (i1 + 1) (w1_1) (dn hd1) h)
    · obtain ⟨x86, h87, h⟩ := den_bind h
      obtain ⟨y88, h89, h⟩ := den_bind h
      have o6_ := (((o4_.b h82).l (at_row tx 1 h87 rfl)).g (d_impl_Extend_good h89))
      obtain ⟨h90, h⟩ | ⟨h90, h⟩ := den_if h
      · cases h; exact (o6_.b h90).ret [[some (179, 2)], [none]] hΓ
      · exact ((o6_.b h90).a [.cn [4, 8, 45, 46, 47] [0, 2]]).ct [[some (179, 2)], [none]] hΓ hS1 (iS hd1 hm1) (ih1 (i1 + 1) (y88.1) (dn hd1) h)
theorem d_impl_MatchFact_good {a0_ : Fact} {a1_ : Fact} {a2_ : List Pair} {r : (List Pair) × Bool} (h : d_impl_MatchFact a0_ a1_ a2_ = some r) : Good Tryz.prog 131 [D.agg (Fact.c a0_), D.agg (Fact.c a1_), D.sl ((a2_).map Pair.c)] (D.tup [D.fr 179 2 ((r.1).map Pair.c), D.bool (r.2)]) := by
  refine gd Tryz.func131 77 fun hr Γ hΓ => ?_
  rw [d_impl_MatchFact] at h
  obtain ⟨y1, h2, h⟩ := den_bind h
  obtain ⟨h3, h⟩ | ⟨h3, h⟩ := den_if h
  · cases h; exact (((pre0.g (d_impl_IsPattern_good h2)).r 4 h3).T 19).ret [[some (179, 2)], [none]] hΓ
  · obtain ⟨y4, h5, h⟩ := den_bind h
    have o7_ := ((((pre0.g (d_impl_IsPattern_good h2)).r 2 h3).g (d_impl_IsFact_good h5)).r 2 h3)
    obtain ⟨h6, h⟩ | ⟨h6, h⟩ := den_if h
    · cases h; exact ((o7_.r 4 h6).T 15).ret [[some (179, 2)], [none]] hΓ
    · obtain ⟨y7, h8, h⟩ := den_bind h
      have o8_ := (((o7_.r 2 h6).g (d_impl_IsBinding_good h8)).r 2 h6)
      obtain ⟨h9, h⟩ | ⟨h9, h⟩ := den_if h
      · cases h; exact ((o8_.r 6 h9).T 9).ret [[some (179, 2)], [none]] hΓ
      · have o9_ := (o8_.r 6 h9)
        obtain ⟨h10, h⟩ | ⟨h10, h⟩ := den_if h
        · cases h; exact ((o9_.r 8 h10).T 1).ret [[some (179, 2)], [none]] hΓ
        · have o10_ := (o9_.r 8 h10)
          obtain ⟨h11, h⟩ | ⟨h11, h⟩ := den_if h
          · cases h; exact (o10_.b h11).ret [[some (179, 2)], [none]] hΓ
          · obtain ⟨y12, h13, h⟩ := den_bind h
            refine (((o10_.b h11).g (d_impl_copyPairs_good h13)).a [.cn [4, 8, 45, 46, 47] [1, 2]]).lp [[some (179, 2)], [none]] hΓ (d_impl_MatchFact_L1w hΓ (fun q1_0 h => ?_) (by have := (Rdb.sl (Rdb.agg (hr _ (List.mem_of_getElem? (i := 0) rfl)) (.sl ((a0_.args).map tx)) (by simp))).1; simpa using this) (a0_.args) 0 (y12) rfl h)
            cases h; exact pre0.ret [[some (179, 2)], [none]] hΓ
def d_impl_copyFact (a0_ : Fact) : Option Fact := ((d_impl_copyTexts (a0_.args)).bind fun y1 => (some ((⟨a0_.rel, y1⟩ : Fact))))
theorem d_impl_copyFact_good {a0_ : Fact} {r : Fact} (h : d_impl_copyFact a0_ = some r) : Good Tryz.prog 133 [D.agg (Fact.c a0_)] (D.agg [D.str (r.rel), D.fr 9 1 ((r.args).map tx)]) := by
  refine gd Tryz.func133 9 fun hr Γ hΓ => ?_
  rw [d_impl_copyFact] at h
  obtain ⟨y1, h2, h⟩ := den_bind h
  cases h; exact ((pre0.a [.n 5]).g (d_impl_copyTexts_good h2)).ret [[none, some (9, 1)]] hΓ
def d_impl_MatchingFacts_L1 (a0_ : Fact) (a1_ : List Pair) (a2_ : List Fact) (k1 : List Fact → Option (List Fact)) : List Fact → Nat → List Fact → Option (List Fact)
  | [], i1, w1_1 => (k1 (w1_1))
  | x1_ :: xs1, i1, w1_1 => ((d_impl_MatchFact (a0_) (x1_) (a1_)).bind fun y42 => (bif y42.2 then ((d_impl_copyFact (x1_)).bind fun y45 => (bif room (((w1_1).map Fact.c).length + ([[D.str (y45.rel), D.sl ((y45.args).map tx)]]).length) 40 then (d_impl_MatchingFacts_L1 a0_ a1_ a2_ k1 xs1 (i1 + 1) ((w1_1) ++ ([y45]))) else none)) else (d_impl_MatchingFacts_L1 a0_ a1_ a2_ k1 xs1 (i1 + 1) (w1_1))))
def d_impl_MatchingFacts (a0_ : Fact) (a1_ : List Pair) (a2_ : List Fact) : Option (List Fact) := (d_impl_MatchingFacts_L1 a0_ a1_ a2_ (fun (q1_0 : List Fact) => (some (q1_0))) (a2_) 0 (([] : List Fact)))
def d_impl_MatchingFacts_S1 (a0_ : Fact) (a1_ : List Pair) (a2_ : List Fact) (W0 : List (List D)) (ix_ : Int) : St := ⟨[(1, D.sl ((a1_).map Pair.c)), (3, D.ptr 0 0), (7, D.acc 1), (12, D.sl ((a2_).map Fact.c)), (13, D.int .i64 ((((a2_).map Fact.c).length : Int))), (14, D.int .i64 (ix_))], [Ob.box (Fact.c a0_), Ob.row .uq 111 2 (W0)]⟩
theorem d_impl_MatchingFacts_L1w (hΓ : Γ.nt = 33) {a0_ : Fact} {a1_ : List Pair} {a2_ : List Fact} {r : List Fact} {k1 : List Fact → Option (List Fact)} (hE1 : ∀ (q1_0 : List Fact), k1 q1_0 = some r → Ax Γ N Tryz.f173 (D.fr 111 2 ((r).map Fact.c)) [1, 1, 1] ⟨[(7, D.acc 0)], [Ob.row .uq 111 2 ((q1_0).map Fact.c)]⟩) (hm1 : (a2_).length ≤ maxLen) : ∀ (rest : List Fact) (i1 : Nat) (w1_1 : List Fact), (a2_).drop i1 = rest → d_impl_MatchingFacts_L1 a0_ a1_ a2_ k1 rest i1 w1_1 = some r → Ar Γ N Tryz.f173 (D.fr 111 2 ((r).map Fact.c)) [1, 1, 0, 1, 0] (rest.length + 1) (d_impl_MatchingFacts_S1 a0_ a1_ a2_ ((w1_1).map Fact.c) ((i1 : Int))) := by
  intro rest
  induction rest with
  | nil =>
    intro i1 w1_1 hd1 h
    rw [d_impl_MatchingFacts_L1] at h
    refine AWr_succ fun N1 hN1 hS1 => ?_
    exact ((pre0.ge Fact.c hd1).a [.hl 0 [7] [1]]).ex [[some (111, 2)]] hΓ hN1 (hE1 (w1_1) h)
  | cons x1_ xs1 ih1 =>
    intro i1 w1_1 hd1 h
    rw [d_impl_MatchingFacts_L1] at h
    refine AWr_succ fun N1 hN1 hS1 => ?_
    obtain ⟨y42, h43, h⟩ := den_bind h
    have o2_ := (((pre0.lt Fact.c hd1).l (map_row Fact.c 2 (dc hd1) rfl)).g (d_impl_MatchFact_good h43))
    obtain ⟨h44, h⟩ | ⟨h44, h⟩ := den_if h
    · obtain ⟨y45, h46, h⟩ := den_bind h
      obtain ⟨h47, h⟩ := den_ok h
      exact ((((o2_.b h44).g (d_impl_copyFact_good h46)).w (room_ok h47)).a [.cn [1, 3, 7, 12, 13, 14] [0, 6]]).cs [[some (111, 2)]] hΓ hS1 (d_impl_MatchingFacts_S1 a0_ a1_ a2_ (((w1_1).map Fact.c) ++ ([[D.str (y45.rel), D.sl ((y45.args).map tx)]])) (IntKind.i64.wrap (((i1 : Int)) + (1)))) (by first | (simp only [iS hd1 hm1, mA] <;> rfl) | (simp only [iS hd1 hm1, mA, Fact.c, Pair.c, Cond.c, Action.c, Rule.c, Token.c, Match.c, Alpha.c, Node.c, Network.c, Stamp.c] <;> rfl)) (ih1 (i1 + 1) ((w1_1) ++ ([y45])) (dn hd1) h)
    · exact ((o2_.b h44).a [.cn [1, 3, 7, 12, 13, 14] [0, 1]]).ct [[some (111, 2)]] hΓ hS1 (iS hd1 hm1) (ih1 (i1 + 1) (w1_1) (dn hd1) h)
theorem d_impl_MatchingFacts_good {a0_ : Fact} {a1_ : List Pair} {a2_ : List Fact} {r : List Fact} (h : d_impl_MatchingFacts a0_ a1_ a2_ = some r) : Good Tryz.prog 173 [D.agg (Fact.c a0_), D.sl ((a1_).map Pair.c), D.sl ((a2_).map Fact.c)] (D.fr 111 2 ((r).map Fact.c)) := by
  refine gd Tryz.func173 33 fun hr Γ hΓ => ?_
  rw [d_impl_MatchingFacts] at h
  refine (pre0.a [.pro 7, .cn [1, 3, 7, 12, 13, 14] [0, 1]]).lp [[some (111, 2)]] hΓ (d_impl_MatchingFacts_L1w hΓ (fun q1_0 h => ?_) (by have := (Rdb.sl (hr _ (List.mem_of_getElem? (i := 2) rfl))).1; simpa using this) (a2_) 0 (([] : List Fact)) rfl h)
  have h := den_some h; subst h; exact pre0.ret [[some (111, 2)]] hΓ
def d_impl_IsTest (a0_ : Cond) : Option Bool := ((d_impl_IsCond (a0_)).bind fun y1 => (bif y1 then (some (decide ((a0_.kind : Int) ≥ (3)))) else (some (false))))
theorem d_impl_IsTest_good {a0_ : Cond} {r : Bool} (h : d_impl_IsTest a0_ = some r) : Good Tryz.prog 197 [D.agg (Cond.c a0_)] (D.bool (r)) := by
  refine gd Tryz.func197 10 fun hr Γ hΓ => ?_
  rw [d_impl_IsTest] at h
  obtain ⟨y1, h2, h⟩ := den_bind h
  obtain ⟨h3, h⟩ | ⟨h3, h⟩ := den_if h
  · cases h; exact ((pre0.g (d_impl_IsCond_good h2)).r 4 h3).ret [[none]] hΓ
  · have h := den_some h; subst h; exact ((pre0.g (d_impl_IsCond_good h2)).r 4 h3).ret [[none]] hΓ
def d_impl_HoldsTest (a0_ : Cond) (a1_ : List Pair) : Option Bool := ((d_impl_IsTest (a0_)).bind fun y1 => (bif !(y1) then (some (false)) else ((d_impl_IsBinding (a1_)).bind fun y4 => (bif !(y4) then (some (false)) else ((d_impl_ValueOf (a1_) (a0_.left)).bind fun y7 => ((d_impl_ValueOf (a1_) (a0_.right)).bind fun y9 => (bif !(y7.2) then (some (false)) else (bif !(y9.2) then (some (false)) else (bif (a0_.kind : Int) == (3) then (some ((y7.1 : Bytes) == (y9.1))) else (bif (a0_.kind : Int) == (4) then (some (!((y7.1 : Bytes) == (y9.1)))) else ((d_impl_ParseInt (y7.1)).bind fun y15 => ((d_impl_ParseInt (y9.1)).bind fun y17 => (bif y15.2 then (bif y17.2 then (some (decide ((y15.1 : Int) < (y17.1)))) else (some (false))) else (some (false)))))))))))))))
theorem d_impl_HoldsTest_good {a0_ : Cond} {a1_ : List Pair} {r : Bool} (h : d_impl_HoldsTest a0_ a1_ = some r) : Good Tryz.prog 174 [D.agg (Cond.c a0_), D.sl ((a1_).map Pair.c)] (D.bool (r)) := by
  refine gd Tryz.func174 70 fun hr Γ hΓ => ?_
  rw [d_impl_HoldsTest] at h
  obtain ⟨y1, h2, h⟩ := den_bind h
  obtain ⟨h3, h⟩ | ⟨h3, h⟩ := den_if h
  · have h := den_some h; subst h; exact (((pre0.g (d_impl_IsTest_good h2)).r 4 h3).T 1).ret [[none]] hΓ
  · obtain ⟨y4, h5, h⟩ := den_bind h
    have o1_ := ((((pre0.g (d_impl_IsTest_good h2)).r 2 h3).g (d_impl_IsBinding_good h5)).r 2 h3)
    obtain ⟨h6, h⟩ | ⟨h6, h⟩ := den_if h
    · have h := den_some h; subst h; exact (o1_.b h6).ret [[none]] hΓ
    · obtain ⟨y7, h8, h⟩ := den_bind h
      obtain ⟨y9, h10, h⟩ := den_bind h
      have o2_ := (((o1_.b h6).g (d_impl_ValueOf_good h8)).g (d_impl_ValueOf_good h10))
      obtain ⟨h11, h⟩ | ⟨h11, h⟩ := den_if h
      · have h := den_some h; subst h; exact ((o2_.r 3 h11).T 1).ret [[none]] hΓ
      · have o3_ := (o2_.r 3 h11)
        obtain ⟨h12, h⟩ | ⟨h12, h⟩ := den_if h
        · have h := den_some h; subst h; exact (o3_.b h12).ret [[none]] hΓ
        · obtain ⟨h13, h⟩ | ⟨h13, h⟩ := den_if h
          · cases h; exact ((o3_.b h12).b h13).ret [[none]] hΓ
          · have o4_ := ((o3_.b h12).b h13)
            obtain ⟨h14, h⟩ | ⟨h14, h⟩ := den_if h
            · cases h; exact (o4_.b h14).ret [[none]] hΓ
            · obtain ⟨y15, h16, h⟩ := den_bind h
              obtain ⟨y17, h18, h⟩ := den_bind h
              have o5_ := (((o4_.b h14).g (d_impl_ParseInt_good h16)).g (d_impl_ParseInt_good h18))
              obtain ⟨h19, h⟩ | ⟨h19, h⟩ := den_if h
              · have o6_ := (o5_.r 2 h19)
                obtain ⟨h20, h⟩ | ⟨h20, h⟩ := den_if h
                · cases h; exact (o6_.r 4 h20).ret [[none]] hΓ
                · have h := den_some h; subst h; exact (o6_.r 4 h20).ret [[none]] hΓ
              · have h := den_some h; subst h; exact ((o5_.r 2 h19).F 4).ret [[none]] hΓ
def d_impl_HoldsCond (a0_ : Cond) (a1_ : List Pair) (a2_ : List Fact) : Option Bool := ((d_impl_IsCond (a0_)).bind fun y1 => (bif !(y1) then (some (false)) else ((d_impl_IsBinding (a1_)).bind fun y4 => (bif !(y4) then (some (false)) else (bif (a0_.kind : Int) == (1) then ((d_impl_MatchingFacts (a0_.pat) (a1_) (a2_)).bind fun y8 => (some (decide (((((y8).map Fact.c).length : Int) : Int) > (0))))) else (bif (a0_.kind : Int) == (2) then ((d_impl_MatchingFacts (a0_.pat) (a1_) (a2_)).bind fun y11 => (some (((((y11).map Fact.c).length : Int) : Int) == (0)))) else ((d_impl_HoldsTest (a0_) (a1_)).bind fun y13 => (some (y13)))))))))
theorem d_impl_HoldsCond_good {a0_ : Cond} {a1_ : List Pair} {a2_ : List Fact} {r : Bool} (h : d_impl_HoldsCond a0_ a1_ a2_ = some r) : Good Tryz.prog 130 [D.agg (Cond.c a0_), D.sl ((a1_).map Pair.c), D.sl ((a2_).map Fact.c)] (D.bool (r)) := by
  refine gd Tryz.func130 38 fun hr Γ hΓ => ?_
  rw [d_impl_HoldsCond] at h
  obtain ⟨y1, h2, h⟩ := den_bind h
  obtain ⟨h3, h⟩ | ⟨h3, h⟩ := den_if h
  · have h := den_some h; subst h; exact (((pre0.g (d_impl_IsCond_good h2)).r 4 h3).T 1).ret [[none]] hΓ
  · obtain ⟨y4, h5, h⟩ := den_bind h
    have o1_ := ((((pre0.g (d_impl_IsCond_good h2)).r 2 h3).g (d_impl_IsBinding_good h5)).r 2 h3)
    obtain ⟨h6, h⟩ | ⟨h6, h⟩ := den_if h
    · have h := den_some h; subst h; exact (o1_.b h6).ret [[none]] hΓ
    · obtain ⟨h7, h⟩ | ⟨h7, h⟩ := den_if h
      · obtain ⟨y8, h9, h⟩ := den_bind h
        cases h; exact (((o1_.b h6).b h7).g (d_impl_MatchingFacts_good h9)).ret [[none]] hΓ
      · have o2_ := ((o1_.b h6).b h7)
        obtain ⟨h10, h⟩ | ⟨h10, h⟩ := den_if h
        · obtain ⟨y11, h12, h⟩ := den_bind h
          cases h; exact ((o2_.b h10).g (d_impl_MatchingFacts_good h12)).ret [[none]] hΓ
        · obtain ⟨y13, h14, h⟩ := den_bind h
          have h := den_some h; subst h; exact ((o2_.b h10).g (d_impl_HoldsTest_good h14)).ret [[none]] hΓ
def d_impl_copyFacts_L1 (a0_ : List Fact) (k1 : List Fact → Option (List Fact)) : List Fact → Nat → List Fact → Option (List Fact)
  | [], i1, w1_0 => (k1 (w1_0))
  | x1_ :: xs1, i1, w1_0 => ((d_impl_copyFact (x1_)).bind fun y27 => (bif room (((w1_0).map Fact.c).length + ([[D.str (y27.rel), D.sl ((y27.args).map tx)]]).length) 40 then (d_impl_copyFacts_L1 a0_ k1 xs1 (i1 + 1) ((w1_0) ++ ([y27]))) else none))
def d_impl_copyFacts (a0_ : List Fact) : Option (List Fact) := (d_impl_copyFacts_L1 a0_ (fun (q1_0 : List Fact) => (some (q1_0))) (a0_) 0 (([] : List Fact)))
def d_impl_copyFacts_S1 (a0_ : List Fact) (W0 : List (List D)) (ix_ : Int) : St := ⟨[(3, D.acc 0), (6, D.sl ((a0_).map Fact.c)), (7, D.int .i64 ((((a0_).map Fact.c).length : Int))), (8, D.int .i64 (ix_))], [Ob.row .uq 111 2 (W0)]⟩
theorem d_impl_copyFacts_L1w (hΓ : Γ.nt = 19) {a0_ : List Fact} {r : List Fact} {k1 : List Fact → Option (List Fact)} (hE1 : ∀ (q1_0 : List Fact), k1 q1_0 = some r → Ax Γ N Tryz.f132 (D.fr 111 2 ((r).map Fact.c)) [1, 1, 1] ⟨[(3, D.acc 0)], [Ob.row .uq 111 2 ((q1_0).map Fact.c)]⟩) (hm1 : (a0_).length ≤ maxLen) : ∀ (rest : List Fact) (i1 : Nat) (w1_0 : List Fact), (a0_).drop i1 = rest → d_impl_copyFacts_L1 a0_ k1 rest i1 w1_0 = some r → Ar Γ N Tryz.f132 (D.fr 111 2 ((r).map Fact.c)) [1, 1, 0, 1, 0] (rest.length + 1) (d_impl_copyFacts_S1 a0_ ((w1_0).map Fact.c) ((i1 : Int))) := by
  intro rest
  induction rest with
  | nil =>
    intro i1 w1_0 hd1 h
    rw [d_impl_copyFacts_L1] at h
    refine AWr_succ fun N1 hN1 hS1 => ?_
    exact ((pre0.ge Fact.c hd1).a [.hl 0 [3] [0]]).ex [[some (111, 2)]] hΓ hN1 (hE1 (w1_0) h)
  | cons x1_ xs1 ih1 =>
    intro i1 w1_0 hd1 h
    rw [d_impl_copyFacts_L1] at h
    refine AWr_succ fun N1 hN1 hS1 => ?_
    obtain ⟨y27, h28, h⟩ := den_bind h
    obtain ⟨h29, h⟩ := den_ok h
    exact (((((pre0.lt Fact.c hd1).l (map_row Fact.c 2 (dc hd1) rfl)).g (d_impl_copyFact_good h28)).w (room_ok h29)).a [.cn [3, 6, 7, 8] [4]]).cs [[some (111, 2)]] hΓ hS1 (d_impl_copyFacts_S1 a0_ (((w1_0).map Fact.c) ++ ([[D.str (y27.rel), D.sl ((y27.args).map tx)]])) (IntKind.i64.wrap (((i1 : Int)) + (1)))) (by first | (simp only [iS hd1 hm1, mA] <;> rfl) | (simp only [iS hd1 hm1, mA, Fact.c, Pair.c, Cond.c, Action.c, Rule.c, Token.c, Match.c, Alpha.c, Node.c, Network.c, Stamp.c] <;> rfl)) (ih1 (i1 + 1) ((w1_0) ++ ([y27])) (dn hd1) h)
theorem d_impl_copyFacts_good {a0_ : List Fact} {r : List Fact} (h : d_impl_copyFacts a0_ = some r) : Good Tryz.prog 132 [D.sl ((a0_).map Fact.c)] (D.fr 111 2 ((r).map Fact.c)) := by
  refine gd Tryz.func132 19 fun hr Γ hΓ => ?_
  rw [d_impl_copyFacts] at h
  refine (pre0.a [.pro 3, .cn [3, 6, 7, 8] [0]]).lp [[some (111, 2)]] hΓ (d_impl_copyFacts_L1w hΓ (fun q1_0 h => ?_) (by have := (Rdb.sl (hr _ (List.mem_of_getElem? (i := 0) rfl))).1; simpa using this) (a0_) 0 (([] : List Fact)) rfl h)
  have h := den_some h; subst h; exact pre0.ret [[some (111, 2)]] hΓ
def d_impl_tokensOf_L3 (a0_ : List Cond) (a1_ : List Fact) (i2 : Nat) (w1_0 : List Token) (x2_ : Token) (i1 : Nat) (x1_ : Cond) (k3 : List Token → Option (List Token)) : List Fact → Nat → List Token → Option (List Token)
  | [], i3, w3_1 => (k3 (w3_1))
  | x3_ :: xs3, i3, w3_1 => ((d_impl_MatchFact (x1_.pat) (x3_) (x2_.bind)).bind fun y2571 => (bif y2571.2 then ((d_impl_copyFacts (x2_.facts)).bind fun y2574 => ((d_impl_copyFact (x3_)).bind fun y2576 => (bif room (((y2574).map Fact.c).length + ([[D.str (y2576.rel), D.sl ((y2576.args).map tx)]]).length) 40 then (bif room (((w3_1).map Token.c).length + ([[D.sl (((y2574).map Fact.c) ++ ([[D.str (y2576.rel), D.sl ((y2576.args).map tx)]])), D.sl ((y2571.1).map Pair.c)]]).length) 48 then (d_impl_tokensOf_L3 a0_ a1_ i2 w1_0 x2_ i1 x1_ k3 xs3 (i3 + 1) ((w3_1) ++ ([(⟨(y2574) ++ ([y2576]), y2571.1⟩ : Token)]))) else none) else none))) else (d_impl_tokensOf_L3 a0_ a1_ i2 w1_0 x2_ i1 x1_ k3 xs3 (i3 + 1) (w3_1))))
def d_impl_tokensOf_L2 (a0_ : List Cond) (a1_ : List Fact) (w1_0 : List Token) (i1 : Nat) (x1_ : Cond) (k2 : List Token → Option (List Token)) : List Token → Nat → List Token → Option (List Token)
  | [], i2, w2_1 => (k2 (w2_1))
  | x2_ :: xs2, i2, w2_1 => (bif (x1_.kind : Int) != (1) then ((d_impl_HoldsCond (x1_) (x2_.bind) (a1_)).bind fun y2511 => (bif y2511 then (bif room (((w2_1).map Token.c).length + ([[D.sl ((x2_.facts).map Fact.c), D.sl ((x2_.bind).map Pair.c)]]).length) 48 then (d_impl_tokensOf_L2 a0_ a1_ w1_0 i1 x1_ k2 xs2 (i2 + 1) ((w2_1) ++ ([x2_]))) else none) else (d_impl_tokensOf_L2 a0_ a1_ w1_0 i1 x1_ k2 xs2 (i2 + 1) (w2_1)))) else (bif decide ((a1_).length ≤ maxLen) then (d_impl_tokensOf_L3 a0_ a1_ i2 w1_0 x2_ i1 x1_ (fun (q3_1 : List Token) => (d_impl_tokensOf_L2 a0_ a1_ w1_0 i1 x1_ k2 xs2 (i2 + 1) (q3_1))) (a1_) 0 (w2_1)) else none))
def d_impl_tokensOf_L1 (a0_ : List Cond) (a1_ : List Fact) (k1 : List Token → Option (List Token)) : List Cond → Nat → List Token → Option (List Token)
  | [], i1, w1_0 => (k1 (w1_0))
  | x1_ :: xs1, i1, w1_0 => (bif decide ((w1_0).length ≤ maxLen) then (d_impl_tokensOf_L2 a0_ a1_ w1_0 i1 x1_ (fun (q2_0 : List Token) => (d_impl_tokensOf_L1 a0_ a1_ k1 xs1 (i1 + 1) (q2_0))) (w1_0) 0 (([] : List Token))) else none)
def d_impl_tokensOf (a0_ : List Cond) (a1_ : List Fact) : Option (List Token) := (d_impl_tokensOf_L1 a0_ a1_ (fun (q1_0 : List Token) => (some (q1_0))) (a0_) 0 ([(⟨[], []⟩ : Token)]))
def d_impl_tokensOf_S1 (a0_ : List Cond) (a1_ : List Fact) (W0 : List (List D)) (ix_ : Int) : St := ⟨[(1, D.sl ((a1_).map Fact.c)), (5, D.acc 0), (17, D.sl ((a0_).map Cond.c)), (18, D.int .i64 ((((a0_).map Cond.c).length : Int))), (19, D.int .i64 (ix_))], [Ob.row .sh 169 2 (W0)]⟩
def d_impl_tokensOf_S2 (a0_ : List Cond) (a1_ : List Fact) (w1_0 : List Token) (i1 : Nat) (x1_ : Cond) (W0 : List (List D)) (ix_ : Int) : St := ⟨[(1, D.sl ((a1_).map Fact.c)), (7, D.ptr 0 0), (8, D.acc 1), (17, D.sl ((a0_).map Cond.c)), (18, D.int .i64 ((((a0_).map Cond.c).length : Int))), (19, D.int .i64 ((i1 : Int))), (23, D.acc 2), (24, D.int .i64 ((((w1_0).map Token.c).length : Int))), (25, D.int .i64 (ix_))], [Ob.box [D.int .i64 (x1_.kind), D.str (x1_.pat.rel), D.sl ((x1_.pat.args).map tx), D.str (x1_.left), D.str (x1_.right)], Ob.row .sh 169 2 (W0), Ob.row .sh 169 2 ((w1_0).map Token.c)]⟩
def d_impl_tokensOf_S3 (a0_ : List Cond) (a1_ : List Fact) (i2 : Nat) (w1_0 : List Token) (x2_ : Token) (i1 : Nat) (x1_ : Cond) (W0 : List (List D)) (ix_ : Int) : St := ⟨[(1, D.sl ((a1_).map Fact.c)), (7, D.ptr 0 0), (8, D.acc 1), (10, D.ptr 2 0), (17, D.sl ((a0_).map Cond.c)), (18, D.int .i64 ((((a0_).map Cond.c).length : Int))), (19, D.int .i64 ((i1 : Int))), (23, D.acc 3), (24, D.int .i64 ((((w1_0).map Token.c).length : Int))), (25, D.int .i64 ((i2 : Int))), (41, D.sl ((a1_).map Fact.c)), (42, D.int .i64 ((((a1_).map Fact.c).length : Int))), (43, D.int .i64 (ix_))], [Ob.box [D.int .i64 (x1_.kind), D.str (x1_.pat.rel), D.sl ((x1_.pat.args).map tx), D.str (x1_.left), D.str (x1_.right)], Ob.row .sh 169 2 (W0), Ob.box [D.sl ((x2_.facts).map Fact.c), D.sl ((x2_.bind).map Pair.c)], Ob.row .sh 169 2 ((w1_0).map Token.c)]⟩
theorem d_impl_tokensOf_L3w (hΓ : Γ.nt = 74) {a0_ : List Cond} {a1_ : List Fact} {i2 : Nat} {w1_0 : List Token} {x2_ : Token} {i1 : Nat} {x1_ : Cond} {r : List Token} {k3 : List Token → Option (List Token)} (hE3 : ∀ (q3_1 : List Token), k3 q3_1 = some r → Ax Γ N Tryz.f72 (D.sl ((r).map Token.c)) [1, 1, 0, 1, 0, 0, 1, 1, 0, 0, 1, 1, 0, 1, 0, 0, 1, 1, 1] ⟨[(1, D.sl ((a1_).map Fact.c)), (7, D.ptr 0 0), (8, D.acc 1), (17, D.sl ((a0_).map Cond.c)), (18, D.int .i64 ((((a0_).map Cond.c).length : Int))), (19, D.int .i64 ((i1 : Int))), (23, D.acc 2), (24, D.int .i64 ((((w1_0).map Token.c).length : Int))), (25, D.int .i64 ((i2 : Int)))], [Ob.box [D.int .i64 (x1_.kind), D.str (x1_.pat.rel), D.sl ((x1_.pat.args).map tx), D.str (x1_.left), D.str (x1_.right)], Ob.row .sh 169 2 ((q3_1).map Token.c), Ob.row .sh 169 2 ((w1_0).map Token.c)]⟩) (hm3 : (a1_).length ≤ maxLen) : ∀ (rest : List Fact) (i3 : Nat) (w3_1 : List Token), (a1_).drop i3 = rest → d_impl_tokensOf_L3 a0_ a1_ i2 w1_0 x2_ i1 x1_ k3 rest i3 w3_1 = some r → Ar Γ N Tryz.f72 (D.sl ((r).map Token.c)) [1, 1, 0, 1, 0, 0, 1, 1, 0, 0, 1, 1, 0, 1, 0, 0, 1, 1, 0, 0, 1, 1, 1, 0] (rest.length + 1) (d_impl_tokensOf_S3 a0_ a1_ i2 w1_0 x2_ i1 x1_ ((w3_1).map Token.c) ((i3 : Int))) := by
  intro rest
  induction rest with
  | nil =>
    intro i3 w3_1 hd3 h
    rw [d_impl_tokensOf_L3] at h
    refine AWr_succ fun N3 hN3 hS3 => ?_
    exact ((pre0.ge Fact.c hd3).a [.hl 8 [1, 7, 8, 17, 18, 19, 23, 24, 25] [0, 1, 3]]).ex [[none]] hΓ hN3 (hE3 (w3_1) h)
  | cons x3_ xs3 ih3 =>
    intro i3 w3_1 hd3 h
    rw [d_impl_tokensOf_L3] at h
    refine AWr_succ fun N3 hN3 hS3 => ?_
    obtain ⟨y2571, h2572, h⟩ := den_bind h
    have o92_ := (((pre0.lt Fact.c hd3).l (map_row Fact.c 2 (dc hd3) rfl)).g (d_impl_MatchFact_good h2572))
    obtain ⟨h2573, h⟩ | ⟨h2573, h⟩ := den_if h
    · obtain ⟨y2574, h2575, h⟩ := den_bind h
      obtain ⟨y2576, h2577, h⟩ := den_bind h
      obtain ⟨h2578, h⟩ := den_ok h
      obtain ⟨h2579, h⟩ := den_ok h
      exact (((((((o92_.b h2573).a [.n2 [0, 1, 2, 3, 4, 5, 8, 6, 7, 9, 10, 11, 12] [0, 1, 2, 3, 4, 5, 7, 8, 6, 9, 10, 11, 12] 7 11 [0, 6]]).g (d_impl_copyFacts_good h2575)).g (d_impl_copyFact_good h2577)).w (room_ok h2578)).w (room_ok h2579)).a [.cn [1, 7, 8, 10, 17, 18, 19, 23, 24, 25, 41, 42, 43] [0, 11, 2, 3]]).cs [[none]] hΓ hS3 (d_impl_tokensOf_S3 a0_ a1_ i2 w1_0 x2_ i1 x1_ (((w3_1).map Token.c) ++ ([[D.sl (((y2574).map Fact.c) ++ ([[D.str (y2576.rel), D.sl ((y2576.args).map tx)]])), D.sl ((y2571.1).map Pair.c)]])) (IntKind.i64.wrap (((i3 : Int)) + (1)))) (by first | (simp only [iS hd3 hm3, mA] <;> rfl) | (simp only [iS hd3 hm3, mA, Fact.c, Pair.c, Cond.c, Action.c, Rule.c, Token.c, Match.c, Alpha.c, Node.c, Network.c, Stamp.c] <;> rfl)) (ih3 (i3 + 1) ((w3_1) ++ ([(⟨(y2574) ++ ([y2576]), y2571.1⟩ : Token)])) (dn hd3) h)
    · exact ((o92_.b h2573).a [.cn [1, 7, 8, 10, 17, 18, 19, 23, 24, 25, 41, 42, 43] [0, 1, 2, 3]]).ct [[none]] hΓ hS3 (iS hd3 hm3) (ih3 (i3 + 1) (w3_1) (dn hd3) h)
theorem d_impl_tokensOf_L2w (hΓ : Γ.nt = 74) {a0_ : List Cond} {a1_ : List Fact} {w1_0 : List Token} {i1 : Nat} {x1_ : Cond} {r : List Token} {k2 : List Token → Option (List Token)} (hE2 : ∀ (q2_0 : List Token), k2 q2_0 = some r → Ax Γ N Tryz.f72 (D.sl ((r).map Token.c)) [1, 1, 0, 1, 0, 0, 1, 1, 0, 0, 1, 1, 1] ⟨[(1, D.sl ((a1_).map Fact.c)), (8, D.acc 0), (17, D.sl ((a0_).map Cond.c)), (18, D.int .i64 ((((a0_).map Cond.c).length : Int))), (19, D.int .i64 ((i1 : Int)))], [Ob.row .sh 169 2 ((q2_0).map Token.c)]⟩) (hm2 : (w1_0).length ≤ maxLen) : ∀ (rest : List Token) (i2 : Nat) (w2_1 : List Token), (w1_0).drop i2 = rest → d_impl_tokensOf_L2 a0_ a1_ w1_0 i1 x1_ k2 rest i2 w2_1 = some r → Ar Γ N Tryz.f72 (D.sl ((r).map Token.c)) [1, 1, 0, 1, 0, 0, 1, 1, 0, 0, 1, 1, 0, 1, 0] (rest.length + 1) (d_impl_tokensOf_S2 a0_ a1_ w1_0 i1 x1_ ((w2_1).map Token.c) ((i2 : Int))) := by
  intro rest
  induction rest with
  | nil =>
    intro i2 w2_1 hd2 h
    rw [d_impl_tokensOf_L2] at h
    refine AWr_succ fun N2 hN2 hS2 => ?_
    exact ((pre0.ge Token.c hd2).a [.hl 5 [1, 8, 17, 18, 19] [1]]).ex [[none]] hΓ hN2 (hE2 (w2_1) h)
  | cons x2_ xs2 ih2 =>
    intro i2 w2_1 hd2 h
    rw [d_impl_tokensOf_L2] at h
    refine AWr_succ fun N2 hN2 hS2 => ?_
    have o93_ := (((pre0.lt Token.c hd2).i (own_ixl Token.c 2 (dc hd2))).o 2 2 .sh (map_get Token.c (dc hd2)))
    obtain ⟨h2510, h⟩ | ⟨h2510, h⟩ := den_if h
    · obtain ⟨y2511, h2512, h⟩ := den_bind h
      have o94_ := ((o93_.b h2510).g (d_impl_HoldsCond_good h2512))
      obtain ⟨h2513, h⟩ | ⟨h2513, h⟩ := den_if h
      · obtain ⟨h2514, h⟩ := den_ok h
        exact (((o94_.b h2513).w (room_ok h2514)).a [.cn [1, 7, 8, 17, 18, 19, 23, 24, 25] [0, 5, 2]]).cs [[none]] hΓ hS2 (d_impl_tokensOf_S2 a0_ a1_ w1_0 i1 x1_ (((w2_1).map Token.c) ++ ([[D.sl ((x2_.facts).map Fact.c), D.sl ((x2_.bind).map Pair.c)]])) (IntKind.i64.wrap (((i2 : Int)) + (1)))) (by first | (simp only [iS hd2 hm2, mA] <;> rfl) | (simp only [iS hd2 hm2, mA, Fact.c, Pair.c, Cond.c, Action.c, Rule.c, Token.c, Match.c, Alpha.c, Node.c, Network.c, Stamp.c] <;> rfl)) (ih2 (i2 + 1) ((w2_1) ++ ([x2_])) (dn hd2) h)
      · exact ((o94_.b h2513).a [.cn [1, 7, 8, 17, 18, 19, 23, 24, 25] [0, 1, 2]]).ct [[none]] hΓ hS2 (iS hd2 hm2) (ih2 (i2 + 1) (w2_1) (dn hd2) h)
    · obtain ⟨h2580, h⟩ := den_ok h
      refine ((o93_.b h2510).a [.cn [1, 7, 8, 10, 17, 18, 19, 23, 24, 25, 41, 42, 43] [0, 1, 3, 2]]).lp [[none]] hΓ (d_impl_tokensOf_L3w hΓ (fun q3_1 h => ?_) (of_decide_eq_true h2580) (a1_) 0 (w2_1) rfl h)
      exact (pre0.a [.cn [1, 7, 8, 17, 18, 19, 23, 24, 25] [0, 1, 2]]).ct [[none]] hΓ hS2 (iS hd2 hm2) (ih2 (i2 + 1) (q3_1) (dn hd2) h)
theorem d_impl_tokensOf_L1w (hΓ : Γ.nt = 74) {a0_ : List Cond} {a1_ : List Fact} {r : List Token} {k1 : List Token → Option (List Token)} (hE1 : ∀ (q1_0 : List Token), k1 q1_0 = some r → Ax Γ N Tryz.f72 (D.sl ((r).map Token.c)) [1, 1, 1] ⟨[(5, D.acc 0)], [Ob.row .sh 169 2 ((q1_0).map Token.c)]⟩) (hm1 : (a0_).length ≤ maxLen) : ∀ (rest : List Cond) (i1 : Nat) (w1_0 : List Token), (a0_).drop i1 = rest → d_impl_tokensOf_L1 a0_ a1_ k1 rest i1 w1_0 = some r → Ar Γ N Tryz.f72 (D.sl ((r).map Token.c)) [1, 1, 0, 1, 0] (rest.length + 1) (d_impl_tokensOf_S1 a0_ a1_ ((w1_0).map Token.c) ((i1 : Int))) := by
  intro rest
  induction rest with
  | nil =>
    intro i1 w1_0 hd1 h
    rw [d_impl_tokensOf_L1] at h
    refine AWr_succ fun N1 hN1 hS1 => ?_
    exact ((pre0.ge Cond.c hd1).a [.hl 0 [5] [0]]).ex [[none]] hΓ hN1 (hE1 (w1_0) h)
  | cons x1_ xs1 ih1 =>
    intro i1 w1_0 hd1 h
    rw [d_impl_tokensOf_L1] at h
    refine AWr_succ fun N1 hN1 hS1 => ?_
    obtain ⟨h2581, h⟩ := den_ok h
    refine (((pre0.lt Cond.c hd1).l (map_row Cond.c 5 (dc hd1) rfl)).a [.pro 8, .sk 2, .cn [1, 7, 8, 17, 18, 19, 23, 24, 25] [1, 2, 0]]).lp [[none]] hΓ (d_impl_tokensOf_L2w hΓ (fun q2_0 h => ?_) (of_decide_eq_true h2581) (w1_0) 0 (([] : List Token)) rfl h)
    exact (pre0.a [.cn [1, 5, 17, 18, 19] [0]]).ct [[none]] hΓ hS1 (iS hd1 hm1) (ih1 (i1 + 1) (q2_0) (dn hd1) h)
theorem d_impl_tokensOf_good {a0_ : List Cond} {a1_ : List Fact} {r : List Token} (h : d_impl_tokensOf a0_ a1_ = some r) : Good Tryz.prog 72 [D.sl ((a0_).map Cond.c), D.sl ((a1_).map Fact.c)] (D.sl ((r).map Token.c)) := by
  refine gd Tryz.func72 74 fun hr Γ hΓ => ?_
  rw [d_impl_tokensOf] at h
  refine (pre0.a [.sk 0, .cn [1, 5, 17, 18, 19] [0]]).lps [[none]] hΓ (d_impl_tokensOf_S1 a0_ a1_ ([[D.sl ([]), D.sl ([])]]) 0) (by first | (simp only [mA] <;> rfl) | (simp only [mA, Fact.c, Pair.c, Cond.c, Action.c, Rule.c, Token.c, Match.c, Alpha.c, Node.c, Network.c, Stamp.c] <;> rfl)) (d_impl_tokensOf_L1w hΓ (fun q1_0 h => ?_) (by have := (Rdb.sl (hr _ (List.mem_of_getElem? (i := 0) rfl))).1; simpa using this) (a0_) 0 ([(⟨[], []⟩ : Token)]) rfl h)
  have h := den_some h; subst h; exact pre0.ret [[none]] hΓ
def d_impl_TokenCounts_L1 (a0_ : Rule) (a1_ : List Fact) (k1 : List Int → Option (List Int)) : Nat → Int → List Int → Option (List Int)
  | 0, _, _ => none
  | n1 + 1, v1_6, w1_1 => (bif decide ((v1_6 : Int) ≤ ((((a0_.conds).map Cond.c).length : Int))) then ((pcut ((a0_.conds).map Cond.c).length (none) (some (D.int .i64 (v1_6)))).bind fun p => (fun l36 u37 => ((d_impl_tokensOf (((a0_.conds).take u37).drop l36) (a1_)).bind fun y39 => (bif room (((w1_1).map ixx).length + ([[D.int .i64 ((((y39).map Token.c).length : Int))]]).length) 8 then (d_impl_TokenCounts_L1 a0_ a1_ k1 n1 (IntKind.i64.wrap ((v1_6) + (1))) ((w1_1) ++ ([(((y39).map Token.c).length : Int)]))) else none))) p.1 p.2) else (k1 (w1_1)))
def d_impl_TokenCounts (a0_ : Rule) (a1_ : List Fact) : Option (List Int) := ((d_impl_IsRule (a0_)).bind fun y1 => (bif !(y1) then (some ([])) else ((d_impl_AreFacts (a1_)).bind fun y4 => (bif !(y4) then (some ([])) else (d_impl_TokenCounts_L1 a0_ a1_ (fun (q1_0 : List Int) => (some (q1_0))) fuel (0) (([] : List Int)))))))
def d_impl_TokenCounts_S1 (a0_ : Rule) (a1_ : List Fact) (v1_6 : Int) (W1 : List (List D)) : St := ⟨[(1, D.sl ((a1_).map Fact.c)), (2, D.ptr 0 0), (5, D.acc 1), (6, D.int .i64 (v1_6))], [Ob.box (Rule.c a0_), Ob.row .uq 3 1 (W1)]⟩
theorem d_impl_TokenCounts_L1w (hΓ : Γ.nt = 33) {a0_ : Rule} {a1_ : List Fact} {r : List Int} {k1 : List Int → Option (List Int)} (hE1 : ∀ (q1_0 : List Int), k1 q1_0 = some r → Ax Γ N Tryz.f25 (D.fr 3 1 ((r).map ixx)) [1, 1, 1, 1] ⟨[(5, D.acc 0)], [Ob.row .uq 3 1 ((q1_0).map ixx)]⟩) : ∀ (n1 : Nat) (v1_6 : Int) (w1_1 : List Int), d_impl_TokenCounts_L1 a0_ a1_ k1 n1 v1_6 w1_1 = some r → Ar Γ N Tryz.f25 (D.fr 3 1 ((r).map ixx)) [1, 1, 1, 0, 1, 0] n1 (d_impl_TokenCounts_S1 a0_ a1_ v1_6 ((w1_1).map ixx)) := by
  intro n
  induction n with
  | zero => intro v1_6 w1_1 h; simp [d_impl_TokenCounts_L1] at h
  | succ n1 ih1 =>
    intro v1_6 w1_1 h
    rw [d_impl_TokenCounts_L1] at h
    refine AWr_succ fun N1 hN1 hS1 => ?_
    obtain ⟨h35, h⟩ | ⟨h35, h⟩ := den_if h
    · obtain ⟨⟨l36, u37⟩, h38, h⟩ := den_bind h
      obtain ⟨y39, h40, h⟩ := den_bind h
      obtain ⟨h41, h⟩ := den_ok h
      exact (((((pre0.b h35).w (show pcut ((a0_.conds).map Cond.c).length (none) (some (D.int .i64 (v1_6))) = some (l36, u37) ∧ (((a0_.conds).map Cond.c).all fun r => r.length == 5) = true from ⟨h38, by simp [List.all_eq_true]⟩)).w (show Good Tryz.prog 72 [D.sl ((((a0_.conds).map Cond.c).take u37).drop l36), D.sl ((a1_).map Fact.c)] (D.sl ((y39).map Token.c)) from by simpa only [List.map_append, List.map_cons, List.map_nil, List.map_drop, List.map_take] using d_impl_tokensOf_good h40)).w (room_ok h41)).a [.cut l36 u37, .d (D.sl ((y39).map Token.c)), .cn [1, 2, 5, 6] [0, 3]]).cs [[some (3, 1)]] hΓ hS1 (d_impl_TokenCounts_S1 a0_ a1_ (IntKind.i64.wrap ((v1_6) + (1))) (((w1_1).map ixx) ++ ([[D.int .i64 ((((y39).map Token.c).length : Int))]]))) (by first | (simp only [mA] <;> rfl) | (simp only [mA, Fact.c, Pair.c, Cond.c, Action.c, Rule.c, Token.c, Match.c, Alpha.c, Node.c, Network.c, Stamp.c] <;> rfl)) (ih1 (IntKind.i64.wrap ((v1_6) + (1))) ((w1_1) ++ ([(((y39).map Token.c).length : Int)])) h)
    · exact ((pre0.b h35).a [.hl 0 [5] [1]]).ex [[some (3, 1)]] hΓ hN1 (hE1 (w1_1) h)
theorem d_impl_TokenCounts_good {a0_ : Rule} {a1_ : List Fact} {r : List Int} (h : d_impl_TokenCounts a0_ a1_ = some r) : Good Tryz.prog 25 [D.agg (Rule.c a0_), D.sl ((a1_).map Fact.c)] (D.fr 3 1 ((r).map ixx)) := by
  refine gd Tryz.func25 33 fun hr Γ hΓ => ?_
  rw [d_impl_TokenCounts] at h
  obtain ⟨y1, h2, h⟩ := den_bind h
  obtain ⟨h3, h⟩ | ⟨h3, h⟩ := den_if h
  · cases h; exact (((pre0.g (d_impl_IsRule_good h2)).r 4 h3).T 1).ret [[some (3, 1)]] hΓ
  · obtain ⟨y4, h5, h⟩ := den_bind h
    have o1_ := ((((pre0.g (d_impl_IsRule_good h2)).r 2 h3).g (d_impl_AreFacts_good h5)).r 2 h3)
    obtain ⟨h6, h⟩ | ⟨h6, h⟩ := den_if h
    · cases h; exact (o1_.b h6).ret [[some (3, 1)]] hΓ
    · refine ((o1_.b h6).a [.pro 5, .cn [1, 2, 5, 6] [0, 1]]).lp [[some (3, 1)]] hΓ (d_impl_TokenCounts_L1w hΓ (fun q1_0 h => ?_) fuel (0) (([] : List Int)) h)
      have h := den_some h; subst h; exact pre0.ret [[some (3, 1)]] hΓ
def d_spec_TokenCounts_L1 (a0_ : Rule) (a1_ : List Fact) (k1 : List Int → Option (List Int)) : Nat → Int → List Int → Option (List Int)
  | 0, _, _ => none
  | n1 + 1, v1_6, w1_1 => (bif decide ((v1_6 : Int) ≤ ((((a0_.conds).map Cond.c).length : Int))) then ((d_spec_IsRule (a0_)).bind fun y42 => (bif y42 then ((d_spec_AreFacts (a1_)).bind fun y45 => (bif y45 then ((d_spec_TokensOf (a0_) (v1_6) (a1_)).bind fun y48 => (bif room (((w1_1).map ixx).length + ([[D.int .i64 ((((y48).map Token.c).length : Int))]]).length) 8 then (d_spec_TokenCounts_L1 a0_ a1_ k1 n1 (IntKind.i64.wrap ((v1_6) + (1))) ((w1_1) ++ ([(((y48).map Token.c).length : Int)]))) else none)) else (k1 (w1_1)))) else (k1 (w1_1)))) else (k1 (w1_1)))
def d_spec_TokenCounts (a0_ : Rule) (a1_ : List Fact) : Option (List Int) := (d_spec_TokenCounts_L1 a0_ a1_ (fun (q1_0 : List Int) => (some (q1_0))) fuel (0) (([] : List Int)))
def d_spec_TokenCounts_S1 (a0_ : Rule) (a1_ : List Fact) (v1_6 : Int) (W1 : List (List D)) : St := ⟨[(1, D.sl ((a1_).map Fact.c)), (2, D.ptr 0 0), (5, D.acc 1), (6, D.int .i64 (v1_6))], [Ob.box (Rule.c a0_), Ob.row .uq 3 1 (W1)]⟩
theorem d_spec_TokenCounts_L1w (hΓ : Γ.nt = 32) {a0_ : Rule} {a1_ : List Fact} {r : List Int} {k1 : List Int → Option (List Int)} (hE1 : ∀ (q1_0 : List Int), k1 q1_0 = some r → Ax Γ N Tryz.f24 (D.fr 3 1 ((r).map ixx)) [1, 1, 1] ⟨[(5, D.acc 0)], [Ob.row .uq 3 1 ((q1_0).map ixx)]⟩) : ∀ (n1 : Nat) (v1_6 : Int) (w1_1 : List Int), d_spec_TokenCounts_L1 a0_ a1_ k1 n1 v1_6 w1_1 = some r → Ar Γ N Tryz.f24 (D.fr 3 1 ((r).map ixx)) [1, 1, 0, 1, 0] n1 (d_spec_TokenCounts_S1 a0_ a1_ v1_6 ((w1_1).map ixx)) := by
  intro n
  induction n with
  | zero => intro v1_6 w1_1 h; simp [d_spec_TokenCounts_L1] at h
  | succ n1 ih1 =>
    intro v1_6 w1_1 h
    rw [d_spec_TokenCounts_L1] at h
    refine AWr_succ fun N1 hN1 hS1 => ?_
    obtain ⟨h41, h⟩ | ⟨h41, h⟩ := den_if h
    · obtain ⟨y42, h43, h⟩ := den_bind h
      have o3_ := (((pre0.r 2 h41).g (d_spec_IsRule_good h43)).b h41)
      obtain ⟨h44, h⟩ | ⟨h44, h⟩ := den_if h
      · obtain ⟨y45, h46, h⟩ := den_bind h
        have o4_ := (((o3_.r 2 h44).g (d_spec_AreFacts_good h46)).b h44)
        obtain ⟨h47, h⟩ | ⟨h47, h⟩ := den_if h
        · obtain ⟨y48, h49, h⟩ := den_bind h
          obtain ⟨h50, h⟩ := den_ok h
          exact ((((o4_.b h47).g (d_spec_TokensOf_good h49)).w (room_ok h50)).a [.cn [1, 2, 5, 6] [0, 4]]).cs [[some (3, 1)]] hΓ hS1 (d_spec_TokenCounts_S1 a0_ a1_ (IntKind.i64.wrap ((v1_6) + (1))) (((w1_1).map ixx) ++ ([[D.int .i64 ((((y48).map Token.c).length : Int))]]))) (by first | (simp only [mA] <;> rfl) | (simp only [mA, Fact.c, Pair.c, Cond.c, Action.c, Rule.c, Token.c, Match.c, Alpha.c, Node.c, Network.c, Stamp.c] <;> rfl)) (ih1 (IntKind.i64.wrap ((v1_6) + (1))) ((w1_1) ++ ([(((y48).map Token.c).length : Int)])) h)
        · exact ((o4_.b h47).a [.hl 0 [5] [1]]).ex [[some (3, 1)]] hΓ hN1 (hE1 (w1_1) h)
      · exact (((o3_.r 3 h44).F 1).a [.hl 0 [5] [1]]).ex [[some (3, 1)]] hΓ hN1 (hE1 (w1_1) h)
    · exact (((pre0.r 3 h41).F 4).a [.hl 0 [5] [1]]).ex [[some (3, 1)]] hΓ hN1 (hE1 (w1_1) h)
theorem d_spec_TokenCounts_good {a0_ : Rule} {a1_ : List Fact} {r : List Int} (h : d_spec_TokenCounts a0_ a1_ = some r) : Good Tryz.prog 24 [D.agg (Rule.c a0_), D.sl ((a1_).map Fact.c)] (D.fr 3 1 ((r).map ixx)) := by
  refine gd Tryz.func24 32 fun hr Γ hΓ => ?_
  rw [d_spec_TokenCounts] at h
  refine (pre0.a [.cn [1, 2, 5, 6] [0, 1]]).lp [[some (3, 1)]] hΓ (d_spec_TokenCounts_L1w hΓ (fun q1_0 h => ?_) fuel (0) (([] : List Int)) h)
  have h := den_some h; subst h; exact pre0.ret [[some (3, 1)]] hΓ
def d_spec_FindRule_L1 (a0_ : List Rule) (a1_ : Bytes) (k1 : Option Int) : List Rule → Nat → Option Int
  | [], i1 => (k1 )
  | x1_ :: xs1, i1 => (bif (x1_.name : Bytes) == (a1_) then (some ((i1 : Int))) else (d_spec_FindRule_L1 a0_ a1_ k1 xs1 (i1 + 1) ))
def d_spec_FindRule (a0_ : List Rule) (a1_ : Bytes) : Option Int := (d_spec_FindRule_L1 a0_ a1_ (some (-1)) (a0_) 0 )
def d_spec_FindRule_S1 (a0_ : List Rule) (a1_ : Bytes) (ix_ : Int) : St := ⟨[(0, D.sl ((a0_).map Rule.c)), (1, D.str (a1_)), (5, D.int .i64 (ix_))], []⟩
theorem d_spec_FindRule_L1w (hΓ : Γ.nt = 20) {a0_ : List Rule} {a1_ : Bytes} {r : Int} {k1 : Option Int} (hE1 : k1 = some r → Ax Γ N Tryz.f134 (D.int .i64 (r)) [1, 1] ⟨[], []⟩) (hm1 : (a0_).length ≤ maxLen) : ∀ (rest : List Rule) (i1 : Nat) , (a0_).drop i1 = rest → d_spec_FindRule_L1 a0_ a1_ k1 rest i1  = some r → Ar Γ N Tryz.f134 (D.int .i64 (r)) [1, 0, 1, 0] (rest.length + 1) (d_spec_FindRule_S1 a0_ a1_ ((i1 : Int))) := by
  intro rest
  induction rest with
  | nil =>
    intro i1  hd1 h
    rw [d_spec_FindRule_L1] at h
    refine AWr_succ fun N1 hN1 hS1 => ?_
    exact ((pre0.ge Rule.c hd1).a [.hl 0 [] []]).ex [[none]] hΓ hN1 (hE1 h)
  | cons x1_ xs1 ih1 =>
    intro i1  hd1 h
    rw [d_spec_FindRule_L1] at h
    refine AWr_succ fun N1 hN1 hS1 => ?_
    have o2_ := ((pre0.lt Rule.c hd1).l (map_row Rule.c 4 (dc hd1) rfl))
    obtain ⟨h13, h⟩ | ⟨h13, h⟩ := den_if h
    · cases h; exact (o2_.b h13).ret [[none]] hΓ
    · exact ((o2_.b h13).a [.cn [0, 1, 5] []]).ct [[none]] hΓ hS1 (iS hd1 hm1) (ih1 (i1 + 1)  (dn hd1) h)
theorem d_spec_FindRule_good {a0_ : List Rule} {a1_ : Bytes} {r : Int} (h : d_spec_FindRule a0_ a1_ = some r) : Good Tryz.prog 134 [D.sl ((a0_).map Rule.c), D.str (a1_)] (D.int .i64 (r)) := by
  refine gd Tryz.func134 20 fun hr Γ hΓ => ?_
  rw [d_spec_FindRule] at h
  refine (pre0.a [.cn [0, 1, 5] []]).lp [[none]] hΓ (d_spec_FindRule_L1w hΓ (fun h => ?_) (by have := (Rdb.sl (hr _ (List.mem_of_getElem? (i := 0) rfl))).1; simpa using this) (a0_) 0  rfl h)
  cases h; exact pre0.ret [[none]] hΓ
def d_spec_AreRules_L1 (a0_ : List Rule) (k1 : Option Bool) : List Rule → Nat → Option Bool
  | [], i1 => (k1 )
  | x1_ :: xs1, i1 => ((d_spec_IsRule (x1_)).bind fun y33 => (bif !(y33) then (some (false)) else ((d_spec_FindRule (a0_) (x1_.name)).bind fun y36 => (bif (y36 : Int) != ((i1 : Int)) then (some (false)) else (d_spec_AreRules_L1 a0_ k1 xs1 (i1 + 1) )))))
def d_spec_AreRules (a0_ : List Rule) : Option Bool := (d_spec_AreRules_L1 a0_ (some (decide (((((a0_).map Rule.c).length : Int) : Int) ≤ (6)))) (a0_) 0 )
def d_spec_AreRules_S1 (a0_ : List Rule) (ix_ : Int) : St := ⟨[(0, D.sl ((a0_).map Rule.c)), (3, D.int .i64 (ix_))], []⟩
theorem d_spec_AreRules_L1w (hΓ : Γ.nt = 30) {a0_ : List Rule} {r : Bool} {k1 : Option Bool} (hE1 : k1 = some r → Ax Γ N Tryz.f77 (D.bool (r)) [1, 1] ⟨[(0, D.sl ((a0_).map Rule.c))], []⟩) (hm1 : (a0_).length ≤ maxLen) : ∀ (rest : List Rule) (i1 : Nat) , (a0_).drop i1 = rest → d_spec_AreRules_L1 a0_ k1 rest i1  = some r → Ar Γ N Tryz.f77 (D.bool (r)) [1, 0, 1, 0] (rest.length + 1) (d_spec_AreRules_S1 a0_ ((i1 : Int))) := by
  intro rest
  induction rest with
  | nil =>
    intro i1  hd1 h
    rw [d_spec_AreRules_L1] at h
    refine AWr_succ fun N1 hN1 hS1 => ?_
    exact ((pre0.ge Rule.c hd1).a [.hl 0 [0] []]).ex [[none]] hΓ hN1 (hE1 h)
  | cons x1_ xs1 ih1 =>
    intro i1  hd1 h
    rw [d_spec_AreRules_L1] at h
    refine AWr_succ fun N1 hN1 hS1 => ?_
    obtain ⟨y33, h34, h⟩ := den_bind h
    have o3_ := (((pre0.lt Rule.c hd1).l (map_row Rule.c 4 (dc hd1) rfl)).g (d_spec_IsRule_good h34))
    obtain ⟨h35, h⟩ | ⟨h35, h⟩ := den_if h
    · have h := den_some h; subst h; exact ((o3_.r 10 h35).T 1).ret [[none]] hΓ
    · obtain ⟨y36, h37, h⟩ := den_bind h
      have o4_ := (((((o3_.r 4 h35).l (map_row Rule.c 4 (dc hd1) rfl)).r 3 h35).g (d_spec_FindRule_good h37)).r 3 h35)
      obtain ⟨h38, h⟩ | ⟨h38, h⟩ := den_if h
      · have h := den_some h; subst h; exact (o4_.b h38).ret [[none]] hΓ
      · exact ((o4_.b h38).a [.cn [0, 3] []]).ct [[none]] hΓ hS1 (iS hd1 hm1) (ih1 (i1 + 1)  (dn hd1) h)
theorem d_spec_AreRules_good {a0_ : List Rule} {r : Bool} (h : d_spec_AreRules a0_ = some r) : Good Tryz.prog 77 [D.sl ((a0_).map Rule.c)] (D.bool (r)) := by
  refine gd Tryz.func77 30 fun hr Γ hΓ => ?_
  rw [d_spec_AreRules] at h
  refine (pre0.a [.cn [0, 3] []]).lp [[none]] hΓ (d_spec_AreRules_L1w hΓ (fun h => ?_) (by have := (Rdb.sl (hr _ (List.mem_of_getElem? (i := 0) rfl))).1; simpa using this) (a0_) 0  rfl h)
  cases h; exact pre0.ret [[none]] hΓ
def d_spec_PlainTries_L2 (a0_ : List Rule) (a1_ : List Fact) (i1 : Nat) (x1_ : Rule) (y282 : List Int) (k2 : Int → Option Int) : List Cond → Nat → Int → Option Int
  | [], i2, v2_5 => (k2 (v2_5))
  | x2_ :: xs2, i2, v2_5 => ((d_spec_IsTest (x2_)).bind fun y326 => (bif y326 then (bif decide (i2 < ((y282).map ixx).length) then (((y282)[i2]?).bind fun x330 => (d_spec_PlainTries_L2 a0_ a1_ i1 x1_ y282 k2 xs2 (i2 + 1) (IntKind.i64.wrap ((v2_5) + (x330))))) else none) else (bif decide (i2 < ((y282).map ixx).length) then (((y282)[i2]?).bind fun x333 => (d_spec_PlainTries_L2 a0_ a1_ i1 x1_ y282 k2 xs2 (i2 + 1) (IntKind.i64.wrap ((v2_5) + (IntKind.i64.wrap ((x333) * ((((a1_).map Fact.c).length : Int)))))))) else none)))
def d_spec_PlainTries_L1 (a0_ : List Rule) (a1_ : List Fact) (k1 : Int → Option Int) : List Rule → Nat → Int → Option Int
  | [], i1, v1_5 => (k1 (v1_5))
  | x1_ :: xs1, i1, v1_5 => ((d_spec_TokenCounts (x1_) (a1_)).bind fun y282 => (bif decide ((x1_.conds).length ≤ maxLen) then (d_spec_PlainTries_L2 a0_ a1_ i1 x1_ y282 (fun (z2_5 : Int) => (d_spec_PlainTries_L1 a0_ a1_ k1 xs1 (i1 + 1) (z2_5))) (x1_.conds) 0 (v1_5)) else none))
def d_spec_PlainTries (a0_ : List Rule) (a1_ : List Fact) : Option Int := ((d_spec_AreRules (a0_)).bind fun y1 => (bif !(y1) then (some (-1)) else ((d_spec_AreFacts (a1_)).bind fun y4 => (bif !(y4) then (some (-1)) else (d_spec_PlainTries_L1 a0_ a1_ (fun (z1_5 : Int) => (some (z1_5))) (a0_) 0 (0))))))
def d_spec_PlainTries_S1 (a0_ : List Rule) (a1_ : List Fact) (v1_5 : Int) (ix_ : Int) : St := ⟨[(0, D.sl ((a0_).map Rule.c)), (1, D.sl ((a1_).map Fact.c)), (5, D.int .i64 (v1_5)), (6, D.int .i64 (ix_))], []⟩
def d_spec_PlainTries_S2 (a0_ : List Rule) (a1_ : List Fact) (i1 : Nat) (y282 : List Int) (v2_5 : Int) (ix_ : Int) : St := ⟨[(0, D.sl ((a0_).map Rule.c)), (1, D.sl ((a1_).map Fact.c)), (5, D.int .i64 (v2_5)), (6, D.int .i64 ((i1 : Int))), (7, D.acc 0), (8, D.int .i64 (ix_))], [Ob.row .uq 3 1 ((y282).map ixx)]⟩
theorem d_spec_PlainTries_L2w (hΓ : Γ.nt = 64) {a0_ : List Rule} {a1_ : List Fact} {i1 : Nat} {x1_ : Rule} {y282 : List Int} {r : Int} {k2 : Int → Option Int} (hE2 : ∀ (z2_5 : Int), k2 z2_5 = some r → Ax Γ N Tryz.f32 (D.int .i64 (r)) [1, 1, 1, 0, 1, 0, 0, 1, 1] ⟨[(0, D.sl ((a0_).map Rule.c)), (1, D.sl ((a1_).map Fact.c)), (5, D.int .i64 (z2_5)), (6, D.int .i64 ((i1 : Int)))], []⟩) (hx1 : (a0_)[i1]? = some x1_) (hm2 : (x1_.conds).length ≤ maxLen) : ∀ (rest : List Cond) (i2 : Nat) (v2_5 : Int), (x1_.conds).drop i2 = rest → d_spec_PlainTries_L2 a0_ a1_ i1 x1_ y282 k2 rest i2 v2_5 = some r → Ar Γ N Tryz.f32 (D.int .i64 (r)) [1, 1, 1, 0, 1, 0, 0, 1, 0, 0, 1, 1, 0] (rest.length + 1) (d_spec_PlainTries_S2 a0_ a1_ i1 y282 v2_5 ((i2 : Int))) := by
  intro rest
  induction rest with
  | nil =>
    intro i2 v2_5 hd2 h
    rw [d_spec_PlainTries_L2] at h
    refine AWr_succ fun N2 hN2 hS2 => ?_
    exact (((pre0.l (map_row Rule.c 4 hx1 rfl)).ge Cond.c hd2).a [.hl 3 [0, 1, 5, 6] []]).ex [[none]] hΓ hN2 (hE2 (v2_5) h)
  | cons x2_ xs2 ih2 =>
    intro i2 v2_5 hd2 h
    rw [d_spec_PlainTries_L2] at h
    refine AWr_succ fun N2 hN2 hS2 => ?_
    obtain ⟨y326, h327, h⟩ := den_bind h
    have o12_ := (((((pre0.l (map_row Rule.c 4 hx1 rfl)).lt Cond.c hd2).l (map_row Rule.c 4 hx1 rfl)).l (map_row Cond.c 5 (dc hd2) rfl)).g (d_spec_IsTest_good h327))
    obtain ⟨h328, h⟩ | ⟨h328, h⟩ := den_if h
    · obtain ⟨h329, h⟩ := den_ok h
      obtain ⟨x330, h331, h⟩ := den_bind h
      exact ((((o12_.b h328).i (own_ix 1 h329)).o 1 1 .uq (map_get ixx h331)).a [.cn [0, 1, 5, 6, 7, 8] [0]]).ct [[none]] hΓ hS2 (iS hd2 hm2) (ih2 (i2 + 1) (IntKind.i64.wrap ((v2_5) + (x330))) (dn hd2) h)
    · obtain ⟨h332, h⟩ := den_ok h
      obtain ⟨x333, h334, h⟩ := den_bind h
      exact ((((o12_.b h328).i (own_ix 1 h332)).o 1 1 .uq (map_get ixx h334)).a [.cn [0, 1, 5, 6, 7, 8] [0]]).ct [[none]] hΓ hS2 (iS hd2 hm2) (ih2 (i2 + 1) (IntKind.i64.wrap ((v2_5) + (IntKind.i64.wrap ((x333) * ((((a1_).map Fact.c).length : Int)))))) (dn hd2) h)
theorem d_spec_PlainTries_L1w (hΓ : Γ.nt = 64) {a0_ : List Rule} {a1_ : List Fact} {r : Int} {k1 : Int → Option Int} (hE1 : ∀ (z1_5 : Int), k1 z1_5 = some r → Ax Γ N Tryz.f32 (D.int .i64 (r)) [1, 1, 1, 1] ⟨[(5, D.int .i64 (z1_5))], []⟩) (hm1 : (a0_).length ≤ maxLen) : ∀ (rest : List Rule) (i1 : Nat) (v1_5 : Int), (a0_).drop i1 = rest → d_spec_PlainTries_L1 a0_ a1_ k1 rest i1 v1_5 = some r → Ar Γ N Tryz.f32 (D.int .i64 (r)) [1, 1, 1, 0, 1, 0] (rest.length + 1) (d_spec_PlainTries_S1 a0_ a1_ v1_5 ((i1 : Int))) := by
  intro rest
  induction rest with
  | nil =>
    intro i1 v1_5 hd1 h
    rw [d_spec_PlainTries_L1] at h
    refine AWr_succ fun N1 hN1 hS1 => ?_
    exact ((pre0.ge Rule.c hd1).a [.hl 0 [5] []]).ex [[none]] hΓ hN1 (hE1 (v1_5) h)
  | cons x1_ xs1 ih1 =>
    intro i1 v1_5 hd1 h
    rw [d_spec_PlainTries_L1] at h
    refine AWr_succ fun N1 hN1 hS1 => ?_
    obtain ⟨y282, h283, h⟩ := den_bind h
    obtain ⟨h335, h⟩ := den_ok h
    refine ((((pre0.lt Rule.c hd1).l (map_row Rule.c 4 (dc hd1) rfl)).g (d_spec_TokenCounts_good h283)).a [.cn [0, 1, 5, 6, 7, 8] [0]]).lp [[none]] hΓ (d_spec_PlainTries_L2w hΓ (fun z2_5 h => ?_) ((drop_cons hd1).1) (of_decide_eq_true h335) (x1_.conds) 0 (v1_5) rfl h)
    exact (pre0.a [.cn [0, 1, 5, 6] []]).ct [[none]] hΓ hS1 (iS hd1 hm1) (ih1 (i1 + 1) (z2_5) (dn hd1) h)
theorem d_spec_PlainTries_good {a0_ : List Rule} {a1_ : List Fact} {r : Int} (h : d_spec_PlainTries a0_ a1_ = some r) : Good Tryz.prog 32 [D.sl ((a0_).map Rule.c), D.sl ((a1_).map Fact.c)] (D.int .i64 (r)) := by
  refine gd Tryz.func32 64 fun hr Γ hΓ => ?_
  rw [d_spec_PlainTries] at h
  obtain ⟨y1, h2, h⟩ := den_bind h
  obtain ⟨h3, h⟩ | ⟨h3, h⟩ := den_if h
  · cases h; exact (((pre0.g (d_spec_AreRules_good h2)).r 4 h3).T 1).ret [[none]] hΓ
  · obtain ⟨y4, h5, h⟩ := den_bind h
    have o13_ := ((((pre0.g (d_spec_AreRules_good h2)).r 2 h3).g (d_spec_AreFacts_good h5)).r 2 h3)
    obtain ⟨h6, h⟩ | ⟨h6, h⟩ := den_if h
    · cases h; exact (o13_.b h6).ret [[none]] hΓ
    · refine ((o13_.b h6).a [.cn [0, 1, 5, 6] []]).lp [[none]] hΓ (d_spec_PlainTries_L1w hΓ (fun z1_5 h => ?_) (by have := (Rdb.sl (hr _ (List.mem_of_getElem? (i := 0) rfl))).1; simpa using this) (a0_) 0 (0) rfl h)
      have h := den_some h; subst h; exact pre0.ret [[none]] hΓ
def d_impl_FindRule_L1 (a0_ : List Rule) (a1_ : Bytes) (k1 : Option Int) : List Rule → Nat → Option Int
  | [], i1 => (k1 )
  | x1_ :: xs1, i1 => (bif (x1_.name : Bytes) == (a1_) then (some ((i1 : Int))) else (d_impl_FindRule_L1 a0_ a1_ k1 xs1 (i1 + 1) ))
def d_impl_FindRule (a0_ : List Rule) (a1_ : Bytes) : Option Int := (d_impl_FindRule_L1 a0_ a1_ (some (-1)) (a0_) 0 )
def d_impl_FindRule_S1 (a0_ : List Rule) (a1_ : Bytes) (ix_ : Int) : St := ⟨[(1, D.str (a1_)), (7, D.sl ((a0_).map Rule.c)), (8, D.int .i64 ((((a0_).map Rule.c).length : Int))), (9, D.int .i64 (ix_))], []⟩
theorem d_impl_FindRule_L1w (hΓ : Γ.nt = 20) {a0_ : List Rule} {a1_ : Bytes} {r : Int} {k1 : Option Int} (hE1 : k1 = some r → Ax Γ N Tryz.f135 (D.int .i64 (r)) [1, 1] ⟨[], []⟩) (hm1 : (a0_).length ≤ maxLen) : ∀ (rest : List Rule) (i1 : Nat) , (a0_).drop i1 = rest → d_impl_FindRule_L1 a0_ a1_ k1 rest i1  = some r → Ar Γ N Tryz.f135 (D.int .i64 (r)) [1, 0, 1, 0] (rest.length + 1) (d_impl_FindRule_S1 a0_ a1_ ((i1 : Int))) := by
  intro rest
  induction rest with
  | nil =>
    intro i1  hd1 h
    rw [d_impl_FindRule_L1] at h
    refine AWr_succ fun N1 hN1 hS1 => ?_
    exact ((pre0.ge Rule.c hd1).a [.hl 0 [] []]).ex [[none]] hΓ hN1 (hE1 h)
  | cons x1_ xs1 ih1 =>
    intro i1  hd1 h
    rw [d_impl_FindRule_L1] at h
    refine AWr_succ fun N1 hN1 hS1 => ?_
    have o2_ := ((pre0.lt Rule.c hd1).l (map_row Rule.c 4 (dc hd1) rfl))
    obtain ⟨h13, h⟩ | ⟨h13, h⟩ := den_if h
    · cases h; exact (o2_.b h13).ret [[none]] hΓ
    · exact ((o2_.b h13).a [.cn [1, 7, 8, 9] []]).ct [[none]] hΓ hS1 (iS hd1 hm1) (ih1 (i1 + 1)  (dn hd1) h)
theorem d_impl_FindRule_good {a0_ : List Rule} {a1_ : Bytes} {r : Int} (h : d_impl_FindRule a0_ a1_ = some r) : Good Tryz.prog 135 [D.sl ((a0_).map Rule.c), D.str (a1_)] (D.int .i64 (r)) := by
  refine gd Tryz.func135 20 fun hr Γ hΓ => ?_
  rw [d_impl_FindRule] at h
  refine (pre0.a [.cn [1, 7, 8, 9] []]).lp [[none]] hΓ (d_impl_FindRule_L1w hΓ (fun h => ?_) (by have := (Rdb.sl (hr _ (List.mem_of_getElem? (i := 0) rfl))).1; simpa using this) (a0_) 0  rfl h)
  cases h; exact pre0.ret [[none]] hΓ
def d_impl_AreRules_L1 (a0_ : List Rule) (k1 : Option Bool) : List Rule → Nat → Option Bool
  | [], i1 => (k1 )
  | x1_ :: xs1, i1 => ((d_impl_IsRule (x1_)).bind fun y34 => (bif !(y34) then (some (false)) else ((d_impl_FindRule (a0_) (x1_.name)).bind fun y37 => (bif (y37 : Int) != ((i1 : Int)) then (some (false)) else (d_impl_AreRules_L1 a0_ k1 xs1 (i1 + 1) )))))
def d_impl_AreRules (a0_ : List Rule) : Option Bool := (bif decide (((((a0_).map Rule.c).length : Int) : Int) > (6)) then (some (false)) else (d_impl_AreRules_L1 a0_ (some (true)) (a0_) 0 ))
def d_impl_AreRules_S1 (a0_ : List Rule) (ix_ : Int) : St := ⟨[(0, D.sl ((a0_).map Rule.c)), (8, D.sl ((a0_).map Rule.c)), (9, D.int .i64 ((((a0_).map Rule.c).length : Int))), (10, D.int .i64 (ix_))], []⟩
theorem d_impl_AreRules_L1w (hΓ : Γ.nt = 27) {a0_ : List Rule} {r : Bool} {k1 : Option Bool} (hE1 : k1 = some r → Ax Γ N Tryz.f79 (D.bool (r)) [1, 1, 1] ⟨[], []⟩) (hm1 : (a0_).length ≤ maxLen) : ∀ (rest : List Rule) (i1 : Nat) , (a0_).drop i1 = rest → d_impl_AreRules_L1 a0_ k1 rest i1  = some r → Ar Γ N Tryz.f79 (D.bool (r)) [1, 1, 0, 1, 0] (rest.length + 1) (d_impl_AreRules_S1 a0_ ((i1 : Int))) := by
  intro rest
  induction rest with
  | nil =>
    intro i1  hd1 h
    rw [d_impl_AreRules_L1] at h
    refine AWr_succ fun N1 hN1 hS1 => ?_
    exact ((pre0.ge Rule.c hd1).a [.hl 0 [] []]).ex [[none]] hΓ hN1 (hE1 h)
  | cons x1_ xs1 ih1 =>
    intro i1  hd1 h
    rw [d_impl_AreRules_L1] at h
    refine AWr_succ fun N1 hN1 hS1 => ?_
    obtain ⟨y34, h35, h⟩ := den_bind h
    have o3_ := (((pre0.lt Rule.c hd1).l (map_row Rule.c 4 (dc hd1) rfl)).g (d_impl_IsRule_good h35))
    obtain ⟨h36, h⟩ | ⟨h36, h⟩ := den_if h
    · have h := den_some h; subst h; exact ((o3_.r 7 h36).T 1).ret [[none]] hΓ
    · obtain ⟨y37, h38, h⟩ := den_bind h
      have o4_ := (((o3_.r 4 h36).g (d_impl_FindRule_good h38)).r 3 h36)
      obtain ⟨h39, h⟩ | ⟨h39, h⟩ := den_if h
      · have h := den_some h; subst h; exact (o4_.b h39).ret [[none]] hΓ
      · exact ((o4_.b h39).a [.cn [0, 8, 9, 10] []]).ct [[none]] hΓ hS1 (iS hd1 hm1) (ih1 (i1 + 1)  (dn hd1) h)
theorem d_impl_AreRules_good {a0_ : List Rule} {r : Bool} (h : d_impl_AreRules a0_ = some r) : Good Tryz.prog 79 [D.sl ((a0_).map Rule.c)] (D.bool (r)) := by
  refine gd Tryz.func79 27 fun hr Γ hΓ => ?_
  rw [d_impl_AreRules] at h
  obtain ⟨h1, h⟩ | ⟨h1, h⟩ := den_if h
  · have h := den_some h; subst h; exact (pre0.b h1).ret [[none]] hΓ
  · refine ((pre0.b h1).a [.cn [0, 8, 9, 10] []]).lp [[none]] hΓ (d_impl_AreRules_L1w hΓ (fun h => ?_) (by have := (Rdb.sl (hr _ (List.mem_of_getElem? (i := 0) rfl))).1; simpa using this) (a0_) 0  rfl h)
    have h := den_some h; subst h; exact pre0.ret [[none]] hΓ
def d_impl_PlainTries_L2 (a0_ : List Rule) (a1_ : List Fact) (i1 : Nat) (x1_ : Rule) (y333 : List Int) (k2 : Int → Option Int) : List Cond → Nat → Int → Option Int
  | [], i2, v2_5 => (k2 (v2_5))
  | x2_ :: xs2, i2, v2_5 => (bif (x2_.kind : Int) == (1) then (bif decide (i2 < ((y333).map ixx).length) then (((y333)[i2]?).bind fun x386 => (d_impl_PlainTries_L2 a0_ a1_ i1 x1_ y333 k2 xs2 (i2 + 1) (IntKind.i64.wrap ((v2_5) + (IntKind.i64.wrap ((x386) * ((((a1_).map Fact.c).length : Int)))))))) else none) else (bif (x2_.kind : Int) == (2) then (bif decide (i2 < ((y333).map ixx).length) then (((y333)[i2]?).bind fun x390 => (d_impl_PlainTries_L2 a0_ a1_ i1 x1_ y333 k2 xs2 (i2 + 1) (IntKind.i64.wrap ((v2_5) + (IntKind.i64.wrap ((x390) * ((((a1_).map Fact.c).length : Int)))))))) else none) else (bif decide (i2 < ((y333).map ixx).length) then (((y333)[i2]?).bind fun x393 => (d_impl_PlainTries_L2 a0_ a1_ i1 x1_ y333 k2 xs2 (i2 + 1) (IntKind.i64.wrap ((v2_5) + (x393))))) else none)))
def d_impl_PlainTries_L1 (a0_ : List Rule) (a1_ : List Fact) (k1 : Int → Option Int) : List Rule → Nat → Int → Option Int
  | [], i1, v1_5 => (k1 (v1_5))
  | x1_ :: xs1, i1, v1_5 => ((d_impl_TokenCounts (x1_) (a1_)).bind fun y333 => (bif decide ((x1_.conds).length ≤ maxLen) then (d_impl_PlainTries_L2 a0_ a1_ i1 x1_ y333 (fun (z2_5 : Int) => (d_impl_PlainTries_L1 a0_ a1_ k1 xs1 (i1 + 1) (z2_5))) (x1_.conds) 0 (v1_5)) else none))
def d_impl_PlainTries (a0_ : List Rule) (a1_ : List Fact) : Option Int := ((d_impl_AreRules (a0_)).bind fun y1 => (bif !(y1) then (some (-1)) else ((d_impl_AreFacts (a1_)).bind fun y4 => (bif !(y4) then (some (-1)) else (d_impl_PlainTries_L1 a0_ a1_ (fun (z1_5 : Int) => (some (z1_5))) (a0_) 0 (0))))))
def d_impl_PlainTries_S1 (a0_ : List Rule) (a1_ : List Fact) (v1_5 : Int) (ix_ : Int) : St := ⟨[(1, D.sl ((a1_).map Fact.c)), (5, D.int .i64 (v1_5)), (19, D.sl ((a0_).map Rule.c)), (20, D.int .i64 ((((a0_).map Rule.c).length : Int))), (21, D.int .i64 (ix_))], []⟩
def d_impl_PlainTries_S2 (a0_ : List Rule) (a1_ : List Fact) (i1 : Nat) (x1_ : Rule) (y333 : List Int) (v2_5 : Int) (ix_ : Int) : St := ⟨[(1, D.sl ((a1_).map Fact.c)), (5, D.int .i64 (v2_5)), (8, D.acc 0), (19, D.sl ((a0_).map Rule.c)), (20, D.int .i64 ((((a0_).map Rule.c).length : Int))), (21, D.int .i64 ((i1 : Int))), (29, D.sl ((x1_.conds).map Cond.c)), (30, D.int .i64 ((((x1_.conds).map Cond.c).length : Int))), (31, D.int .i64 (ix_))], [Ob.row .uq 3 1 ((y333).map ixx)]⟩
theorem d_impl_PlainTries_L2w (hΓ : Γ.nt = 62) {a0_ : List Rule} {a1_ : List Fact} {i1 : Nat} {x1_ : Rule} {y333 : List Int} {r : Int} {k2 : Int → Option Int} (hE2 : ∀ (z2_5 : Int), k2 z2_5 = some r → Ax Γ N Tryz.f34 (D.int .i64 (r)) [1, 1, 1, 0, 1, 0, 0, 1, 1, 1] ⟨[(1, D.sl ((a1_).map Fact.c)), (5, D.int .i64 (z2_5)), (19, D.sl ((a0_).map Rule.c)), (20, D.int .i64 ((((a0_).map Rule.c).length : Int))), (21, D.int .i64 ((i1 : Int)))], []⟩) (hm2 : (x1_.conds).length ≤ maxLen) : ∀ (rest : List Cond) (i2 : Nat) (v2_5 : Int), (x1_.conds).drop i2 = rest → d_impl_PlainTries_L2 a0_ a1_ i1 x1_ y333 k2 rest i2 v2_5 = some r → Ar Γ N Tryz.f34 (D.int .i64 (r)) [1, 1, 1, 0, 1, 0, 0, 1, 1, 0, 0, 1, 1, 1, 0] (rest.length + 1) (d_impl_PlainTries_S2 a0_ a1_ i1 x1_ y333 v2_5 ((i2 : Int))) := by
  intro rest
  induction rest with
  | nil =>
    intro i2 v2_5 hd2 h
    rw [d_impl_PlainTries_L2] at h
    refine AWr_succ fun N2 hN2 hS2 => ?_
    exact ((pre0.ge Cond.c hd2).a [.hl 3 [1, 5, 19, 20, 21] []]).ex [[none]] hΓ hN2 (hE2 (v2_5) h)
  | cons x2_ xs2 ih2 =>
    intro i2 v2_5 hd2 h
    rw [d_impl_PlainTries_L2] at h
    refine AWr_succ fun N2 hN2 hS2 => ?_
    have o23_ := ((pre0.lt Cond.c hd2).l (map_row Cond.c 5 (dc hd2) rfl))
    obtain ⟨h384, h⟩ | ⟨h384, h⟩ := den_if h
    · obtain ⟨h385, h⟩ := den_ok h
      obtain ⟨x386, h387, h⟩ := den_bind h
      exact (((((o23_.r 4 h384).T 1).i (own_ix 1 h385)).o 1 1 .uq (map_get ixx h387)).a [.cn [1, 5, 8, 19, 20, 21, 29, 30, 31] [0]]).ct [[none]] hΓ hS2 (iS hd2 hm2) (ih2 (i2 + 1) (IntKind.i64.wrap ((v2_5) + (IntKind.i64.wrap ((x386) * ((((a1_).map Fact.c).length : Int)))))) (dn hd2) h)
    · have o24_ := (o23_.r 4 h384)
      obtain ⟨h388, h⟩ | ⟨h388, h⟩ := den_if h
      · obtain ⟨h389, h⟩ := den_ok h
        obtain ⟨x390, h391, h⟩ := den_bind h
        exact ((((o24_.b h388).i (own_ix 1 h389)).o 1 1 .uq (map_get ixx h391)).a [.cn [1, 5, 8, 19, 20, 21, 29, 30, 31] [0]]).ct [[none]] hΓ hS2 (iS hd2 hm2) (ih2 (i2 + 1) (IntKind.i64.wrap ((v2_5) + (IntKind.i64.wrap ((x390) * ((((a1_).map Fact.c).length : Int)))))) (dn hd2) h)
      · obtain ⟨h392, h⟩ := den_ok h
        obtain ⟨x393, h394, h⟩ := den_bind h
        exact ((((o24_.b h388).i (own_ix 1 h392)).o 1 1 .uq (map_get ixx h394)).a [.cn [1, 5, 8, 19, 20, 21, 29, 30, 31] [0]]).ct [[none]] hΓ hS2 (iS hd2 hm2) (ih2 (i2 + 1) (IntKind.i64.wrap ((v2_5) + (x393))) (dn hd2) h)
theorem d_impl_PlainTries_L1w (hΓ : Γ.nt = 62) {a0_ : List Rule} {a1_ : List Fact} {r : Int} {k1 : Int → Option Int} (hE1 : ∀ (z1_5 : Int), k1 z1_5 = some r → Ax Γ N Tryz.f34 (D.int .i64 (r)) [1, 1, 1, 1] ⟨[(5, D.int .i64 (z1_5))], []⟩) (hm1 : (a0_).length ≤ maxLen) : ∀ (rest : List Rule) (i1 : Nat) (v1_5 : Int), (a0_).drop i1 = rest → d_impl_PlainTries_L1 a0_ a1_ k1 rest i1 v1_5 = some r → Ar Γ N Tryz.f34 (D.int .i64 (r)) [1, 1, 1, 0, 1, 0] (rest.length + 1) (d_impl_PlainTries_S1 a0_ a1_ v1_5 ((i1 : Int))) := by
  intro rest
  induction rest with
  | nil =>
    intro i1 v1_5 hd1 h
    rw [d_impl_PlainTries_L1] at h
    refine AWr_succ fun N1 hN1 hS1 => ?_
    exact ((pre0.ge Rule.c hd1).a [.hl 0 [5] []]).ex [[none]] hΓ hN1 (hE1 (v1_5) h)
  | cons x1_ xs1 ih1 =>
    intro i1 v1_5 hd1 h
    rw [d_impl_PlainTries_L1] at h
    refine AWr_succ fun N1 hN1 hS1 => ?_
    obtain ⟨y333, h334, h⟩ := den_bind h
    obtain ⟨h395, h⟩ := den_ok h
    refine ((((pre0.lt Rule.c hd1).l (map_row Rule.c 4 (dc hd1) rfl)).g (d_impl_TokenCounts_good h334)).a [.cn [1, 5, 8, 19, 20, 21, 29, 30, 31] [1]]).lp [[none]] hΓ (d_impl_PlainTries_L2w hΓ (fun z2_5 h => ?_) (of_decide_eq_true h395) (x1_.conds) 0 (v1_5) rfl h)
    exact (pre0.a [.cn [1, 5, 19, 20, 21] []]).ct [[none]] hΓ hS1 (iS hd1 hm1) (ih1 (i1 + 1) (z2_5) (dn hd1) h)
theorem d_impl_PlainTries_good {a0_ : List Rule} {a1_ : List Fact} {r : Int} (h : d_impl_PlainTries a0_ a1_ = some r) : Good Tryz.prog 34 [D.sl ((a0_).map Rule.c), D.sl ((a1_).map Fact.c)] (D.int .i64 (r)) := by
  refine gd Tryz.func34 62 fun hr Γ hΓ => ?_
  rw [d_impl_PlainTries] at h
  obtain ⟨y1, h2, h⟩ := den_bind h
  obtain ⟨h3, h⟩ | ⟨h3, h⟩ := den_if h
  · cases h; exact (((pre0.g (d_impl_AreRules_good h2)).r 4 h3).T 1).ret [[none]] hΓ
  · obtain ⟨y4, h5, h⟩ := den_bind h
    have o25_ := ((((pre0.g (d_impl_AreRules_good h2)).r 2 h3).g (d_impl_AreFacts_good h5)).r 2 h3)
    obtain ⟨h6, h⟩ | ⟨h6, h⟩ := den_if h
    · cases h; exact (o25_.b h6).ret [[none]] hΓ
    · refine ((o25_.b h6).a [.cn [1, 5, 19, 20, 21] []]).lp [[none]] hΓ (d_impl_PlainTries_L1w hΓ (fun z1_5 h => ?_) (by have := (Rdb.sl (hr _ (List.mem_of_getElem? (i := 0) rfl))).1; simpa using this) (a0_) 0 (0) rfl h)
      have h := den_some h; subst h; exact pre0.ret [[none]] hΓ
end Go.Cx
