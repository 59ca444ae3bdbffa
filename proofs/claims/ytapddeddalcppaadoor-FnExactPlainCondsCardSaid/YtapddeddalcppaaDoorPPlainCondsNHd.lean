/- What functions of the program compute, and the walks that show it. No condition. -/
import Derived.Test.YtapddeddalcppaaDoorPPlainCondsNMk
namespace Go.Cx
open Go.RowKit Go.Proofs
set_option linter.unusedVariables false
set_option linter.unusedSimpArgs false
set_option maxRecDepth 100000
def d_laws_heldStringS_L1 (a0_ : List Bytes) (k1 : Int → Option Int) : List Bytes → Nat → Int → Option Int
  | [], i1, v1_1 => (k1 (v1_1))
  | x1_ :: xs1, i1, v1_1 => ((d_laws_markText (v1_1)).bind fun y21 => (bif !((x1_ : Bytes) == (y21)) then (some (-1)) else (d_laws_heldStringS_L1 a0_ k1 xs1 (i1 + 1) (IntKind.i64.wrap ((v1_1) + (1))))))
def d_laws_heldStringS (a0_ : List Bytes) (a1_ : Int) : Option Int := (d_laws_heldStringS_L1 a0_ (fun (z1_1 : Int) => (some (z1_1))) (a0_) 0 (a1_))
theorem d_laws_heldStringS_L1w {Γ : Ctx} (hΓ : Γ.nt = 22) {N : Nat → St → Prop} {a0_ : List Bytes} {r : Int} {k1 : Int → Option Int} (hE1 : ∀ (z1_1 : Int), k1 z1_1 = some r → AW Tryd.prog Γ (dig (bodyOf Tryd.f53) [1, 1] []).1 (KQ Tryd.prog Γ N (RetQ Tryd.prog Tryd.f53 (D.int .i64 (r))) (dig (bodyOf Tryd.f53) [1, 1] []).2) ⟨[(1, D.int .i64 (z1_1))], []⟩) (hm1 : (a0_).length ≤ maxLen) : ∀ (rest : List Bytes) (i1 : Nat) (v1_1 : Int), (a0_).drop i1 = rest → d_laws_heldStringS_L1 a0_ k1 rest i1 v1_1 = some r → AWr Tryd.prog Γ (dig (bodyOf Tryd.f53) [1, 0, 1, 0, 0] []).1 (KQ Tryd.prog Γ N (RetQ Tryd.prog Tryd.f53 (D.int .i64 (r))) (dig (bodyOf Tryd.f53) [1, 0, 1, 0] []).2) (rest.length + 1) ⟨[(0, D.sl ((a0_).map tx)), (1, D.int .i64 (v1_1)), (5, D.int .i64 ((i1 : Int)))], []⟩ := by
  intro rest
  induction rest with
  | nil =>
    intro i1 v1_1 hd1 h
    rw [d_laws_heldStringS_L1] at h
    refine AWr_succ fun N1 hN1 hS1 => ?_
    have t := AW_N (N := N) (N' := N1) (K0 := (dig (bodyOf Tryd.f53) [1, 0, 1, 0] []).2) (by kernel_rfl) hN1 (hE1 (v1_1) h)
    refine AW_go (n := 2000) [[none]] [.b false, .hl 0 [1] []] (.at_ (dig (bodyOf Tryd.f53) [1, 1] []).1 (dig (bodyOf Tryd.f53) [1, 1] []).2 ⟨[(1, D.int .i64 (v1_1))], []⟩) hΓ mix (by kernel_rfl) (ow ((ltm_false tx (drop_nil hd1))) ow0) ?_
    first | exact t | (simp only [List.map_append, List.map_cons, List.map_nil, List.map_set] at t ⊢; exact t)
  | cons x1_ xs1 ih1 =>
    intro i1 v1_1 hd1 h
    rw [d_laws_heldStringS_L1] at h
    refine AWr_succ fun N1 hN1 hS1 => ?_
    obtain ⟨y21, h22, h⟩ := den_bind h
    rcases den_if h with ⟨h23, h⟩ | ⟨h23, h⟩
    · have h := den_some h
      subst h
      exact AW_go (n := 2000) [[none]] [.b true, .n 6, .row (tx x1_), .d (D.str (y21)), .b true] (.ret (D.int .i64 (-1))) hΓ mix (by kernel_rfl) (ow ((ltm_true tx (drop_cons hd1).2.1)) (ow (map_row tx 1 (drop_cons hd1).1 rfl) (ow (d_laws_markText_good h22) (ow (h23) ow0)))) rfl
    · have t := ih1 (i1 + 1) (IntKind.i64.wrap ((v1_1) + (1))) (drop_cons hd1).2.2 h
      refine AW_go (n := 2000) [[none]] [.b true, .n 6, .row (tx x1_), .d (D.str (y21)), .b false, .cn [0, 1, 5] []] (.cont 0 ⟨[(0, D.sl ((a0_).map tx)), (1, D.int .i64 (IntKind.i64.wrap ((v1_1) + (1)))), (5, D.int .i64 (IntKind.i64.wrap (((i1 : Int)) + (1))))], []⟩) hΓ mix (by kernel_rfl) (ow ((ltm_true tx (drop_cons hd1).2.1)) (ow (map_row tx 1 (drop_cons hd1).1 rfl) (ow (d_laws_markText_good h22) (ow (h23) ow0)))) ?_
      refine (congrFun hS1 _).mpr ?_
      rw [i64_succ (drop_cons hd1).2.1 hm1]
      first | exact t | (simp only [List.map_append, List.map_cons, List.map_nil, List.map_set] at t ⊢; exact t)
theorem d_laws_heldStringS_good {a0_ : List Bytes} {a1_ : Int} {r : Int} (h : d_laws_heldStringS a0_ a1_ = some r) : Good Tryd.prog 53 [D.sl ((a0_).map tx), D.int .i64 (a1_)] (D.int .i64 (r)) := by
  refine Good.of (c := bodyOf Tryd.f53) Tryd.func53 rfl (by decide) (by simp [Tryd.f53]) ?_
  intro hr Γ hΓ
  have hΓ : Γ.nt = 22 := hΓ
  rw [d_laws_heldStringS] at h
  refine (show AW Tryd.prog Γ (bodyOf Tryd.f53) (KQ Tryd.prog Γ (fun _ _ => False) (RetQ Tryd.prog Tryd.f53 (D.int .i64 (r))) []) _ from ?_)
  refine AW_go (n := 2000) [[none]] [.cn [0, 1, 5] []] (.lp (dig (bodyOf Tryd.f53) [1, 0, 1, 0, 0] []).1 (dig (bodyOf Tryd.f53) [1, 0, 1, 0] []).2 ⟨[(0, D.sl ((a0_).map tx)), (1, D.int .i64 (a1_)), (5, D.int .i64 (0))], []⟩) hΓ mix (by kernel_rfl) ow0 (AW_st (by first | rfl | (simp only [List.map_append, List.map_cons, List.map_nil, List.map_set, List.map_replicate] <;> rfl)) (AW_of_r (d_laws_heldStringS_L1w hΓ (fun z1_1 h => ?_) (by have := (Rdb.sl (hr _ (List.mem_of_getElem? (i := 0) rfl))).1; simpa using this) (a0_) 0 (a1_) rfl h)))
  have h := den_some h
  subst h
  exact AW_go (n := 2000) [[none]] [] (.ret (D.int .i64 (z1_1))) hΓ mix (by kernel_rfl) ow0 rfl
def d_laws_heldCondS_L1 (a0_ : List Cond) (k1 : Int → Option Int) : List Cond → Nat → Int → Option Int
  | [], i1, v1_1 => (k1 (v1_1))
  | x1_ :: xs1, i1, v1_1 => (bif (x1_.kind : Int) != (v1_1) then (some (-1)) else ((d_laws_markText (IntKind.i64.wrap ((v1_1) + (1)))).bind fun y62 => (bif !((x1_.pat.rel : Bytes) == (y62)) then (some (-1)) else ((d_laws_heldStringS (x1_.pat.args) (IntKind.i64.wrap ((IntKind.i64.wrap ((v1_1) + (1))) + (1)))).bind fun y65 => (bif decide ((y65 : Int) < (0)) then (some (-1)) else ((d_laws_markText (y65)).bind fun y68 => (bif !((x1_.left : Bytes) == (y68)) then (some (-1)) else ((d_laws_markText (IntKind.i64.wrap ((y65) + (1)))).bind fun y71 => (bif !((x1_.right : Bytes) == (y71)) then (some (-1)) else (d_laws_heldCondS_L1 a0_ k1 xs1 (i1 + 1) (IntKind.i64.wrap ((IntKind.i64.wrap ((y65) + (1))) + (1)))))))))))))
def d_laws_heldCondS (a0_ : List Cond) (a1_ : Int) : Option Int := (d_laws_heldCondS_L1 a0_ (fun (z1_1 : Int) => (some (z1_1))) (a0_) 0 (a1_))
theorem d_laws_heldCondS_L1w {Γ : Ctx} (hΓ : Γ.nt = 63) {N : Nat → St → Prop} {a0_ : List Cond} {r : Int} {k1 : Int → Option Int} (hE1 : ∀ (z1_1 : Int), k1 z1_1 = some r → AW Tryd.prog Γ (dig (bodyOf Tryd.f29) [1, 1] []).1 (KQ Tryd.prog Γ N (RetQ Tryd.prog Tryd.f29 (D.int .i64 (r))) (dig (bodyOf Tryd.f29) [1, 1] []).2) ⟨[(1, D.int .i64 (z1_1))], []⟩) (hm1 : (a0_).length ≤ maxLen) : ∀ (rest : List Cond) (i1 : Nat) (v1_1 : Int), (a0_).drop i1 = rest → d_laws_heldCondS_L1 a0_ k1 rest i1 v1_1 = some r → AWr Tryd.prog Γ (dig (bodyOf Tryd.f29) [1, 0, 1, 0, 0] []).1 (KQ Tryd.prog Γ N (RetQ Tryd.prog Tryd.f29 (D.int .i64 (r))) (dig (bodyOf Tryd.f29) [1, 0, 1, 0] []).2) (rest.length + 1) ⟨[(0, D.sl ((a0_).map Cond.c)), (1, D.int .i64 (v1_1)), (5, D.int .i64 ((i1 : Int)))], []⟩ := by
  intro rest
  induction rest with
  | nil =>
    intro i1 v1_1 hd1 h
    rw [d_laws_heldCondS_L1] at h
    refine AWr_succ fun N1 hN1 hS1 => ?_
    have t := AW_N (N := N) (N' := N1) (K0 := (dig (bodyOf Tryd.f29) [1, 0, 1, 0] []).2) (by kernel_rfl) hN1 (hE1 (v1_1) h)
    refine AW_go (n := 2000) [[none]] [.b false, .hl 0 [1] []] (.at_ (dig (bodyOf Tryd.f29) [1, 1] []).1 (dig (bodyOf Tryd.f29) [1, 1] []).2 ⟨[(1, D.int .i64 (v1_1))], []⟩) hΓ mix (by kernel_rfl) (ow ((ltm_false Cond.c (drop_nil hd1))) ow0) ?_
    first | exact t | (simp only [List.map_append, List.map_cons, List.map_nil, List.map_set] at t ⊢; exact t)
  | cons x1_ xs1 ih1 =>
    intro i1 v1_1 hd1 h
    rw [d_laws_heldCondS_L1] at h
    refine AWr_succ fun N1 hN1 hS1 => ?_
    rcases den_if h with ⟨h61, h⟩ | ⟨h61, h⟩
    · have h := den_some h
      subst h
      exact AW_go (n := 2000) [[none]] [.b true, .row (Cond.c x1_), .b true] (.ret (D.int .i64 (-1))) hΓ mix (by kernel_rfl) (ow ((ltm_true Cond.c (drop_cons hd1).2.1)) (ow (map_row Cond.c 5 (drop_cons hd1).1 rfl) (ow (h61) ow0))) rfl
    · obtain ⟨y62, h63, h⟩ := den_bind h
      rcases den_if h with ⟨h64, h⟩ | ⟨h64, h⟩
      · have h := den_some h
        subst h
        exact AW_go (n := 2000) [[none]] [.b true, .row (Cond.c x1_), .b false, .n 8, .row (Cond.c x1_), .d (D.str (y62)), .b true] (.ret (D.int .i64 (-1))) hΓ mix (by kernel_rfl) (ow ((ltm_true Cond.c (drop_cons hd1).2.1)) (ow (map_row Cond.c 5 (drop_cons hd1).1 rfl) (ow (h61) (ow (map_row Cond.c 5 (drop_cons hd1).1 rfl) (ow (d_laws_markText_good h63) (ow (h64) ow0)))))) rfl
      · obtain ⟨y65, h66, h⟩ := den_bind h
        rcases den_if h with ⟨h67, h⟩ | ⟨h67, h⟩
        · have h := den_some h
          subst h
          exact AW_go (n := 2000) [[none]] [.b true, .row (Cond.c x1_), .b false, .n 8, .row (Cond.c x1_), .d (D.str (y62)), .b false, .row (Cond.c x1_), .d (D.int .i64 (y65)), .b true] (.ret (D.int .i64 (-1))) hΓ mix (by kernel_rfl) (ow ((ltm_true Cond.c (drop_cons hd1).2.1)) (ow (map_row Cond.c 5 (drop_cons hd1).1 rfl) (ow (h61) (ow (map_row Cond.c 5 (drop_cons hd1).1 rfl) (ow (d_laws_markText_good h63) (ow (h64) (ow (map_row Cond.c 5 (drop_cons hd1).1 rfl) (ow (d_laws_heldStringS_good h66) (ow (h67) ow0))))))))) rfl
        · obtain ⟨y68, h69, h⟩ := den_bind h
          rcases den_if h with ⟨h70, h⟩ | ⟨h70, h⟩
          · have h := den_some h
            subst h
            exact AW_go (n := 2000) [[none]] [.b true, .row (Cond.c x1_), .b false, .n 8, .row (Cond.c x1_), .d (D.str (y62)), .b false, .row (Cond.c x1_), .d (D.int .i64 (y65)), .b false, .n 7, .row (Cond.c x1_), .d (D.str (y68)), .b true] (.ret (D.int .i64 (-1))) hΓ mix (by kernel_rfl) (ow ((ltm_true Cond.c (drop_cons hd1).2.1)) (ow (map_row Cond.c 5 (drop_cons hd1).1 rfl) (ow (h61) (ow (map_row Cond.c 5 (drop_cons hd1).1 rfl) (ow (d_laws_markText_good h63) (ow (h64) (ow (map_row Cond.c 5 (drop_cons hd1).1 rfl) (ow (d_laws_heldStringS_good h66) (ow (h67) (ow (map_row Cond.c 5 (drop_cons hd1).1 rfl) (ow (d_laws_markText_good h69) (ow (h70) ow0)))))))))))) rfl
          · obtain ⟨y71, h72, h⟩ := den_bind h
            rcases den_if h with ⟨h73, h⟩ | ⟨h73, h⟩
            · have h := den_some h
              subst h
              exact AW_go (n := 2000) [[none]] [.b true, .row (Cond.c x1_), .b false, .n 8, .row (Cond.c x1_), .d (D.str (y62)), .b false, .row (Cond.c x1_), .d (D.int .i64 (y65)), .b false, .n 7, .row (Cond.c x1_), .d (D.str (y68)), .b false, .n 7, .row (Cond.c x1_), .d (D.str (y71)), .b true] (.ret (D.int .i64 (-1))) hΓ mix (by kernel_rfl) (ow ((ltm_true Cond.c (drop_cons hd1).2.1)) (ow (map_row Cond.c 5 (drop_cons hd1).1 rfl) (ow (h61) (ow (map_row Cond.c 5 (drop_cons hd1).1 rfl) (ow (d_laws_markText_good h63) (ow (h64) (ow (map_row Cond.c 5 (drop_cons hd1).1 rfl) (ow (d_laws_heldStringS_good h66) (ow (h67) (ow (map_row Cond.c 5 (drop_cons hd1).1 rfl) (ow (d_laws_markText_good h69) (ow (h70) (ow (map_row Cond.c 5 (drop_cons hd1).1 rfl) (ow (d_laws_markText_good h72) (ow (h73) ow0))))))))))))))) rfl
            · have t := ih1 (i1 + 1) (IntKind.i64.wrap ((IntKind.i64.wrap ((y65) + (1))) + (1))) (drop_cons hd1).2.2 h
              refine AW_go (n := 2000) [[none]] [.b true, .row (Cond.c x1_), .b false, .n 8, .row (Cond.c x1_), .d (D.str (y62)), .b false, .row (Cond.c x1_), .d (D.int .i64 (y65)), .b false, .n 7, .row (Cond.c x1_), .d (D.str (y68)), .b false, .n 7, .row (Cond.c x1_), .d (D.str (y71)), .b false, .cn [0, 1, 5] []] (.cont 0 ⟨[(0, D.sl ((a0_).map Cond.c)), (1, D.int .i64 (IntKind.i64.wrap ((IntKind.i64.wrap ((y65) + (1))) + (1)))), (5, D.int .i64 (IntKind.i64.wrap (((i1 : Int)) + (1))))], []⟩) hΓ mix (by kernel_rfl) (ow ((ltm_true Cond.c (drop_cons hd1).2.1)) (ow (map_row Cond.c 5 (drop_cons hd1).1 rfl) (ow (h61) (ow (map_row Cond.c 5 (drop_cons hd1).1 rfl) (ow (d_laws_markText_good h63) (ow (h64) (ow (map_row Cond.c 5 (drop_cons hd1).1 rfl) (ow (d_laws_heldStringS_good h66) (ow (h67) (ow (map_row Cond.c 5 (drop_cons hd1).1 rfl) (ow (d_laws_markText_good h69) (ow (h70) (ow (map_row Cond.c 5 (drop_cons hd1).1 rfl) (ow (d_laws_markText_good h72) (ow (h73) ow0))))))))))))))) ?_
              refine (congrFun hS1 _).mpr ?_
              rw [i64_succ (drop_cons hd1).2.1 hm1]
              first | exact t | (simp only [List.map_append, List.map_cons, List.map_nil, List.map_set] at t ⊢; exact t)
theorem d_laws_heldCondS_good {a0_ : List Cond} {a1_ : Int} {r : Int} (h : d_laws_heldCondS a0_ a1_ = some r) : Good Tryd.prog 29 [D.sl ((a0_).map Cond.c), D.int .i64 (a1_)] (D.int .i64 (r)) := by
  refine Good.of (c := bodyOf Tryd.f29) Tryd.func29 rfl (by decide) (by simp [Tryd.f29]) ?_
  intro hr Γ hΓ
  have hΓ : Γ.nt = 63 := hΓ
  rw [d_laws_heldCondS] at h
  refine (show AW Tryd.prog Γ (bodyOf Tryd.f29) (KQ Tryd.prog Γ (fun _ _ => False) (RetQ Tryd.prog Tryd.f29 (D.int .i64 (r))) []) _ from ?_)
  refine AW_go (n := 2000) [[none]] [.cn [0, 1, 5] []] (.lp (dig (bodyOf Tryd.f29) [1, 0, 1, 0, 0] []).1 (dig (bodyOf Tryd.f29) [1, 0, 1, 0] []).2 ⟨[(0, D.sl ((a0_).map Cond.c)), (1, D.int .i64 (a1_)), (5, D.int .i64 (0))], []⟩) hΓ mix (by kernel_rfl) ow0 (AW_st (by first | rfl | (simp only [List.map_append, List.map_cons, List.map_nil, List.map_set, List.map_replicate] <;> rfl)) (AW_of_r (d_laws_heldCondS_L1w hΓ (fun z1_1 h => ?_) (by have := (Rdb.sl (hr _ (List.mem_of_getElem? (i := 0) rfl))).1; simpa using this) (a0_) 0 (a1_) rfl h)))
  have h := den_some h
  subst h
  exact AW_go (n := 2000) [[none]] [] (.ret (D.int .i64 (z1_1))) hΓ mix (by kernel_rfl) ow0 rfl
end Go.Cx
