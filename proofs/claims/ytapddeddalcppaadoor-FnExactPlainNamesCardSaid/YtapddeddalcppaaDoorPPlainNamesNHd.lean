/- What functions of the program compute, and the walks that show it. No condition. -/
import Derived.Test.YtapddeddalcppaaDoorPPlainNamesNMk
namespace Go.Cx
open Go.RowKit Go.Proofs
set_option linter.unusedVariables false
set_option linter.unusedSimpArgs false
set_option maxRecDepth 100000
def d_laws_heldStringS_L1 (a0_ : List Bytes) (k1 : Int → Option Int) : List Bytes → Nat → Int → Option Int
  | [], i1, v1_1 => (k1 (v1_1))
  | x1_ :: xs1, i1, v1_1 => ((d_laws_markText (v1_1)).bind fun y21 => (bif !((x1_ : Bytes) == (y21)) then (some (-1)) else (d_laws_heldStringS_L1 a0_ k1 xs1 (i1 + 1) (IntKind.i64.wrap ((v1_1) + (1))))))
def d_laws_heldStringS (a0_ : List Bytes) (a1_ : Int) : Option Int := (d_laws_heldStringS_L1 a0_ (fun (z1_1 : Int) => (some (z1_1))) (a0_) 0 (a1_))
def d_laws_heldPairS_L1 (a0_ : List Pair) (k1 : Int → Option Int) : List Pair → Nat → Int → Option Int
  | [], i1, v1_1 => (k1 (v1_1))
  | x1_ :: xs1, i1, v1_1 => ((d_laws_markText (v1_1)).bind fun y33 => (bif !((x1_.var : Bytes) == (y33)) then (some (-1)) else ((d_laws_markText (IntKind.i64.wrap ((v1_1) + (1)))).bind fun y36 => (bif !((x1_.value : Bytes) == (y36)) then (some (-1)) else (d_laws_heldPairS_L1 a0_ k1 xs1 (i1 + 1) (IntKind.i64.wrap ((IntKind.i64.wrap ((v1_1) + (1))) + (1))))))))
def d_laws_heldPairS (a0_ : List Pair) (a1_ : Int) : Option Int := (d_laws_heldPairS_L1 a0_ (fun (z1_1 : Int) => (some (z1_1))) (a0_) 0 (a1_))
theorem d_laws_heldPairS_L1w {Γ : Ctx} (hΓ : Γ.nt = 33) {N : Nat → St → Prop} {a0_ : List Pair} {r : Int} {k1 : Int → Option Int} (hE1 : ∀ (z1_1 : Int), k1 z1_1 = some r → AW Tryd.prog Γ (dig (bodyOf Tryd.f24) [1, 1] []).1 (KQ Tryd.prog Γ N (RetQ Tryd.prog Tryd.f24 (D.int .i64 (r))) (dig (bodyOf Tryd.f24) [1, 1] []).2) ⟨[(1, D.int .i64 (z1_1))], []⟩) (hm1 : (a0_).length ≤ maxLen) : ∀ (rest : List Pair) (i1 : Nat) (v1_1 : Int), (a0_).drop i1 = rest → d_laws_heldPairS_L1 a0_ k1 rest i1 v1_1 = some r → AWr Tryd.prog Γ (dig (bodyOf Tryd.f24) [1, 0, 1, 0, 0] []).1 (KQ Tryd.prog Γ N (RetQ Tryd.prog Tryd.f24 (D.int .i64 (r))) (dig (bodyOf Tryd.f24) [1, 0, 1, 0] []).2) (rest.length + 1) ⟨[(0, D.sl ((a0_).map Pair.c)), (1, D.int .i64 (v1_1)), (5, D.int .i64 ((i1 : Int)))], []⟩ := by
  intro rest
  induction rest with
  | nil =>
    intro i1 v1_1 hd1 h
    rw [d_laws_heldPairS_L1] at h
    refine AWr_succ fun N1 hN1 hS1 => ?_
    have t := AW_N (N := N) (N' := N1) (K0 := (dig (bodyOf Tryd.f24) [1, 0, 1, 0] []).2) (by kernel_rfl) hN1 (hE1 (v1_1) h)
    refine AW_go (n := 2000) [[none]] [.b false, .hl 0 [1] []] (.at_ (dig (bodyOf Tryd.f24) [1, 1] []).1 (dig (bodyOf Tryd.f24) [1, 1] []).2 ⟨[(1, D.int .i64 (v1_1))], []⟩) hΓ mix (by kernel_rfl) (ow ((ltm_false Pair.c (drop_nil hd1))) ow0) ?_
    first | exact t | (simp only [List.map_append, List.map_cons, List.map_nil, List.map_set] at t ⊢; exact t)
  | cons x1_ xs1 ih1 =>
    intro i1 v1_1 hd1 h
    rw [d_laws_heldPairS_L1] at h
    refine AWr_succ fun N1 hN1 hS1 => ?_
    obtain ⟨y33, h34, h⟩ := den_bind h
    rcases den_if h with ⟨h35, h⟩ | ⟨h35, h⟩
    · have h := den_some h
      subst h
      exact AW_go (n := 2000) [[none]] [.b true, .n 7, .row (Pair.c x1_), .d (D.str (y33)), .b true] (.ret (D.int .i64 (-1))) hΓ mix (by kernel_rfl) (ow ((ltm_true Pair.c (drop_cons hd1).2.1)) (ow (map_row Pair.c 2 (drop_cons hd1).1 rfl) (ow (d_laws_markText_good h34) (ow (h35) ow0)))) rfl
    · obtain ⟨y36, h37, h⟩ := den_bind h
      rcases den_if h with ⟨h38, h⟩ | ⟨h38, h⟩
      · have h := den_some h
        subst h
        exact AW_go (n := 2000) [[none]] [.b true, .n 7, .row (Pair.c x1_), .d (D.str (y33)), .b false, .n 7, .row (Pair.c x1_), .d (D.str (y36)), .b true] (.ret (D.int .i64 (-1))) hΓ mix (by kernel_rfl) (ow ((ltm_true Pair.c (drop_cons hd1).2.1)) (ow (map_row Pair.c 2 (drop_cons hd1).1 rfl) (ow (d_laws_markText_good h34) (ow (h35) (ow (map_row Pair.c 2 (drop_cons hd1).1 rfl) (ow (d_laws_markText_good h37) (ow (h38) ow0))))))) rfl
      · have t := ih1 (i1 + 1) (IntKind.i64.wrap ((IntKind.i64.wrap ((v1_1) + (1))) + (1))) (drop_cons hd1).2.2 h
        refine AW_go (n := 2000) [[none]] [.b true, .n 7, .row (Pair.c x1_), .d (D.str (y33)), .b false, .n 7, .row (Pair.c x1_), .d (D.str (y36)), .b false, .cn [0, 1, 5] []] (.cont 0 ⟨[(0, D.sl ((a0_).map Pair.c)), (1, D.int .i64 (IntKind.i64.wrap ((IntKind.i64.wrap ((v1_1) + (1))) + (1)))), (5, D.int .i64 (IntKind.i64.wrap (((i1 : Int)) + (1))))], []⟩) hΓ mix (by kernel_rfl) (ow ((ltm_true Pair.c (drop_cons hd1).2.1)) (ow (map_row Pair.c 2 (drop_cons hd1).1 rfl) (ow (d_laws_markText_good h34) (ow (h35) (ow (map_row Pair.c 2 (drop_cons hd1).1 rfl) (ow (d_laws_markText_good h37) (ow (h38) ow0))))))) ?_
        refine (congrFun hS1 _).mpr ?_
        rw [i64_succ (drop_cons hd1).2.1 hm1]
        first | exact t | (simp only [List.map_append, List.map_cons, List.map_nil, List.map_set] at t ⊢; exact t)
theorem d_laws_heldPairS_good {a0_ : List Pair} {a1_ : Int} {r : Int} (h : d_laws_heldPairS a0_ a1_ = some r) : Good Tryd.prog 24 [D.sl ((a0_).map Pair.c), D.int .i64 (a1_)] (D.int .i64 (r)) := by
  refine Good.of (c := bodyOf Tryd.f24) Tryd.func24 rfl (by decide) (by simp [Tryd.f24]) ?_
  intro hr Γ hΓ
  have hΓ : Γ.nt = 33 := hΓ
  rw [d_laws_heldPairS] at h
  refine (show AW Tryd.prog Γ (bodyOf Tryd.f24) (KQ Tryd.prog Γ (fun _ _ => False) (RetQ Tryd.prog Tryd.f24 (D.int .i64 (r))) []) _ from ?_)
  refine AW_go (n := 2000) [[none]] [.cn [0, 1, 5] []] (.lp (dig (bodyOf Tryd.f24) [1, 0, 1, 0, 0] []).1 (dig (bodyOf Tryd.f24) [1, 0, 1, 0] []).2 ⟨[(0, D.sl ((a0_).map Pair.c)), (1, D.int .i64 (a1_)), (5, D.int .i64 (0))], []⟩) hΓ mix (by kernel_rfl) ow0 (AW_st (by first | rfl | (simp only [List.map_append, List.map_cons, List.map_nil, List.map_set, List.map_replicate] <;> rfl)) (AW_of_r (d_laws_heldPairS_L1w hΓ (fun z1_1 h => ?_) (by have := (Rdb.sl (hr _ (List.mem_of_getElem? (i := 0) rfl))).1; simpa using this) (a0_) 0 (a1_) rfl h)))
  have h := den_some h
  subst h
  exact AW_go (n := 2000) [[none]] [] (.ret (D.int .i64 (z1_1))) hΓ mix (by kernel_rfl) ow0 rfl
def d_laws_heldCondS_L1 (a0_ : List Cond) (k1 : Int → Option Int) : List Cond → Nat → Int → Option Int
  | [], i1, v1_1 => (k1 (v1_1))
  | x1_ :: xs1, i1, v1_1 => (bif (x1_.kind : Int) != (v1_1) then (some (-1)) else ((d_laws_markText (IntKind.i64.wrap ((v1_1) + (1)))).bind fun y62 => (bif !((x1_.pat.rel : Bytes) == (y62)) then (some (-1)) else ((d_laws_heldStringS (x1_.pat.args) (IntKind.i64.wrap ((IntKind.i64.wrap ((v1_1) + (1))) + (1)))).bind fun y65 => (bif decide ((y65 : Int) < (0)) then (some (-1)) else ((d_laws_markText (y65)).bind fun y68 => (bif !((x1_.left : Bytes) == (y68)) then (some (-1)) else ((d_laws_markText (IntKind.i64.wrap ((y65) + (1)))).bind fun y71 => (bif !((x1_.right : Bytes) == (y71)) then (some (-1)) else (d_laws_heldCondS_L1 a0_ k1 xs1 (i1 + 1) (IntKind.i64.wrap ((IntKind.i64.wrap ((y65) + (1))) + (1)))))))))))))
def d_laws_heldCondS (a0_ : List Cond) (a1_ : Int) : Option Int := (d_laws_heldCondS_L1 a0_ (fun (z1_1 : Int) => (some (z1_1))) (a0_) 0 (a1_))
end Go.Cx
