/- What functions of the program compute, and the walks that show it. No condition. -/
import Derived.Test.YtapddeddalcppaaDoorNData
namespace Go.Cx
open Go.RowKit Go.Proofs
set_option linter.unusedVariables false
set_option linter.unusedSimpArgs false
set_option maxRecDepth 100000
def d_laws_szStringS_L1 (a0_ : List Bytes) (k1 : Int → Option Int) : List Bytes → Nat → Int → Option Int
  | [], i1, v1_1 => (k1 (v1_1))
  | x1_ :: xs1, i1, v1_1 => (bif decide ((IntKind.i64.wrap ((v1_1) - (((x1_).length : Int))) : Int) < (0)) then (some (-1)) else (d_laws_szStringS_L1 a0_ k1 xs1 (i1 + 1) (IntKind.i64.wrap ((v1_1) - (((x1_).length : Int))))))
def d_laws_szStringS (a0_ : List Bytes) (a1_ : Int) : Option Int := (bif decide ((IntKind.i64.wrap ((a1_) - ((((a0_).map tx).length : Int))) : Int) < (0)) then (some (-1)) else (d_laws_szStringS_L1 a0_ (fun (z1_1 : Int) => (some (z1_1))) (a0_) 0 (IntKind.i64.wrap ((a1_) - ((((a0_).map tx).length : Int))))))
theorem d_laws_szStringS_L1w {Γ : Ctx} (hΓ : Γ.nt = 28) {N : Nat → St → Prop} {a0_ : List Bytes} {r : Int} {k1 : Int → Option Int} (hE1 : ∀ (z1_1 : Int), k1 z1_1 = some r → AW Tryd.prog Γ (dig (bodyOf Tryd.f45) [1, 1, 1, 1] []).1 (KQ Tryd.prog Γ N (RetQ Tryd.prog Tryd.f45 (D.int .i64 (r))) (dig (bodyOf Tryd.f45) [1, 1, 1, 1] []).2) ⟨[(1, D.int .i64 (z1_1))], []⟩) (hm1 : (a0_).length ≤ maxLen) : ∀ (rest : List Bytes) (i1 : Nat) (v1_1 : Int), (a0_).drop i1 = rest → d_laws_szStringS_L1 a0_ k1 rest i1 v1_1 = some r → AWr Tryd.prog Γ (dig (bodyOf Tryd.f45) [1, 1, 1, 0, 1, 0, 0] []).1 (KQ Tryd.prog Γ N (RetQ Tryd.prog Tryd.f45 (D.int .i64 (r))) (dig (bodyOf Tryd.f45) [1, 1, 1, 0, 1, 0] []).2) (rest.length + 1) ⟨[(0, D.sl ((a0_).map tx)), (1, D.int .i64 (v1_1)), (5, D.int .i64 ((i1 : Int)))], []⟩ := by
  intro rest
  induction rest with
  | nil =>
    intro i1 v1_1 hd1 h
    rw [d_laws_szStringS_L1] at h
    refine AWr_succ fun N1 hN1 hS1 => ?_
    have t := AW_N (N := N) (N' := N1) (K0 := (dig (bodyOf Tryd.f45) [1, 1, 1, 0, 1, 0] []).2) (by kernel_rfl) hN1 (hE1 (v1_1) h)
    refine AW_go (n := 2000) [[none]] [.b false, .hl 0 [1] []] (.at_ (dig (bodyOf Tryd.f45) [1, 1, 1, 1] []).1 (dig (bodyOf Tryd.f45) [1, 1, 1, 1] []).2 ⟨[(1, D.int .i64 (v1_1))], []⟩) hΓ mix (by kernel_rfl) (ow ((ltm_false tx (drop_nil hd1))) ow0) ?_
    first | exact t | (simp only [List.map_append, List.map_cons, List.map_nil, List.map_set] at t ⊢; exact t)
  | cons x1_ xs1 ih1 =>
    intro i1 v1_1 hd1 h
    rw [d_laws_szStringS_L1] at h
    refine AWr_succ fun N1 hN1 hS1 => ?_
    rcases den_if h with ⟨h14, h⟩ | ⟨h14, h⟩
    · have h := den_some h
      subst h
      exact AW_go (n := 2000) [[none]] [.b true, .row (tx x1_), .b true] (.ret (D.int .i64 (-1))) hΓ mix (by kernel_rfl) (ow ((ltm_true tx (drop_cons hd1).2.1)) (ow (map_row tx 1 (drop_cons hd1).1 rfl) (ow (h14) ow0))) rfl
    · have t := ih1 (i1 + 1) (IntKind.i64.wrap ((v1_1) - (((x1_).length : Int)))) (drop_cons hd1).2.2 h
      refine AW_go (n := 2000) [[none]] [.b true, .row (tx x1_), .b false, .cn [0, 1, 5] []] (.cont 0 ⟨[(0, D.sl ((a0_).map tx)), (1, D.int .i64 (IntKind.i64.wrap ((v1_1) - (((x1_).length : Int))))), (5, D.int .i64 (IntKind.i64.wrap (((i1 : Int)) + (1))))], []⟩) hΓ mix (by kernel_rfl) (ow ((ltm_true tx (drop_cons hd1).2.1)) (ow (map_row tx 1 (drop_cons hd1).1 rfl) (ow (h14) ow0))) ?_
      refine (congrFun hS1 _).mpr ?_
      rw [i64_succ (drop_cons hd1).2.1 hm1]
      first | exact t | (simp only [List.map_append, List.map_cons, List.map_nil, List.map_set] at t ⊢; exact t)
theorem d_laws_szStringS_good {a0_ : List Bytes} {a1_ : Int} {r : Int} (h : d_laws_szStringS a0_ a1_ = some r) : Good Tryd.prog 45 [D.sl ((a0_).map tx), D.int .i64 (a1_)] (D.int .i64 (r)) := by
  refine Good.of (c := bodyOf Tryd.f45) Tryd.func45 rfl (by decide) (by simp [Tryd.f45]) ?_
  intro hr Γ hΓ
  have hΓ : Γ.nt = 28 := hΓ
  rw [d_laws_szStringS] at h
  refine (show AW Tryd.prog Γ (bodyOf Tryd.f45) (KQ Tryd.prog Γ (fun _ _ => False) (RetQ Tryd.prog Tryd.f45 (D.int .i64 (r))) []) _ from ?_)
  rcases den_if h with ⟨h1, h⟩ | ⟨h1, h⟩
  · have h := den_some h
    subst h
    exact AW_go (n := 2000) [[none]] [.b true] (.ret (D.int .i64 (-1))) hΓ mix (by kernel_rfl) (ow (h1) ow0) rfl
  · refine AW_go (n := 2000) [[none]] [.b false, .cn [0, 1, 5] []] (.lp (dig (bodyOf Tryd.f45) [1, 1, 1, 0, 1, 0, 0] []).1 (dig (bodyOf Tryd.f45) [1, 1, 1, 0, 1, 0] []).2 ⟨[(0, D.sl ((a0_).map tx)), (1, D.int .i64 (IntKind.i64.wrap ((a1_) - ((((a0_).map tx).length : Int))))), (5, D.int .i64 (0))], []⟩) hΓ mix (by kernel_rfl) (ow (h1) ow0) (AW_st (by first | rfl | (simp only [List.map_append, List.map_cons, List.map_nil, List.map_set, List.map_replicate] <;> rfl)) (AW_of_r (d_laws_szStringS_L1w hΓ (fun z1_1 h => ?_) (by have := (Rdb.sl (hr _ (List.mem_of_getElem? (i := 0) rfl))).1; simpa using this) (a0_) 0 (IntKind.i64.wrap ((a1_) - ((((a0_).map tx).length : Int)))) rfl h)))
    have h := den_some h
    subst h
    exact AW_go (n := 2000) [[none]] [] (.ret (D.int .i64 (z1_1))) hΓ mix (by kernel_rfl) ow0 rfl
def d_laws_szPattern (a0_ : Fact) (a1_ : Int) : Option Int := (bif decide ((IntKind.i64.wrap ((a1_) - (((a0_.rel).length : Int))) : Int) < (0)) then (some (-1)) else ((d_laws_szStringS (a0_.args) (IntKind.i64.wrap ((a1_) - (((a0_.rel).length : Int))))).bind fun y2 => (bif decide ((y2 : Int) < (0)) then (some (-1)) else (some (y2)))))
theorem d_laws_szPattern_good {a0_ : Fact} {a1_ : Int} {r : Int} (h : d_laws_szPattern a0_ a1_ = some r) : Good Tryd.prog 9 [D.agg (Fact.c a0_), D.int .i64 (a1_)] (D.int .i64 (r)) := by
  refine Good.of (c := bodyOf Tryd.f9) Tryd.func9 rfl (by decide) (by simp [Tryd.f9]) ?_
  intro hr Γ hΓ
  have hΓ : Γ.nt = 19 := hΓ
  rw [d_laws_szPattern] at h
  refine (show AW Tryd.prog Γ (bodyOf Tryd.f9) (KQ Tryd.prog Γ (fun _ _ => False) (RetQ Tryd.prog Tryd.f9 (D.int .i64 (r))) []) _ from ?_)
  rcases den_if h with ⟨h1, h⟩ | ⟨h1, h⟩
  · have h := den_some h
    subst h
    exact AW_go (n := 2000) [[none]] [.b true] (.ret (D.int .i64 (-1))) hΓ mix (by kernel_rfl) (ow (h1) ow0) rfl
  · obtain ⟨y2, h3, h⟩ := den_bind h
    rcases den_if h with ⟨h4, h⟩ | ⟨h4, h⟩
    · have h := den_some h
      subst h
      exact AW_go (n := 2000) [[none]] [.b false, .d (D.int .i64 (y2)), .b true] (.ret (D.int .i64 (-1))) hΓ mix (by kernel_rfl) (ow (h1) (ow (d_laws_szStringS_good h3) (ow (h4) ow0))) rfl
    · have h := den_some h
      subst h
      exact AW_go (n := 2000) [[none]] [.b false, .d (D.int .i64 (y2)), .b false] (.ret (D.int .i64 (y2))) hΓ mix (by kernel_rfl) (ow (h1) (ow (d_laws_szStringS_good h3) (ow (h4) ow0))) rfl
def d_laws_szCond (a0_ : Cond) (a1_ : Int) : Option Int := ((d_laws_szPattern (a0_.pat) (a1_)).bind fun y1 => (bif decide ((y1 : Int) < (0)) then (some (-1)) else (bif decide ((IntKind.i64.wrap ((y1) - (((a0_.left).length : Int))) : Int) < (0)) then (some (-1)) else (bif decide ((IntKind.i64.wrap ((IntKind.i64.wrap ((y1) - (((a0_.left).length : Int)))) - (((a0_.right).length : Int))) : Int) < (0)) then (some (-1)) else (some (IntKind.i64.wrap ((IntKind.i64.wrap ((y1) - (((a0_.left).length : Int)))) - (((a0_.right).length : Int)))))))))
theorem d_laws_szCond_good {a0_ : Cond} {a1_ : Int} {r : Int} (h : d_laws_szCond a0_ a1_ = some r) : Good Tryd.prog 97 [D.agg (Cond.c a0_), D.int .i64 (a1_)] (D.int .i64 (r)) := by
  refine Good.of (c := bodyOf Tryd.f97) Tryd.func97 rfl (by decide) (by simp [Tryd.f97]) ?_
  intro hr Γ hΓ
  have hΓ : Γ.nt = 26 := hΓ
  rw [d_laws_szCond] at h
  refine (show AW Tryd.prog Γ (bodyOf Tryd.f97) (KQ Tryd.prog Γ (fun _ _ => False) (RetQ Tryd.prog Tryd.f97 (D.int .i64 (r))) []) _ from ?_)
  obtain ⟨y1, h2, h⟩ := den_bind h
  rcases den_if h with ⟨h3, h⟩ | ⟨h3, h⟩
  · have h := den_some h
    subst h
    exact AW_go (n := 2000) [[none]] [.d (D.int .i64 (y1)), .b true] (.ret (D.int .i64 (-1))) hΓ mix (by kernel_rfl) (ow (d_laws_szPattern_good h2) (ow (h3) ow0)) rfl
  · rcases den_if h with ⟨h4, h⟩ | ⟨h4, h⟩
    · have h := den_some h
      subst h
      exact AW_go (n := 2000) [[none]] [.d (D.int .i64 (y1)), .b false, .b true] (.ret (D.int .i64 (-1))) hΓ mix (by kernel_rfl) (ow (d_laws_szPattern_good h2) (ow (h3) (ow (h4) ow0))) rfl
    · rcases den_if h with ⟨h5, h⟩ | ⟨h5, h⟩
      · have h := den_some h
        subst h
        exact AW_go (n := 2000) [[none]] [.d (D.int .i64 (y1)), .b false, .b false, .b true] (.ret (D.int .i64 (-1))) hΓ mix (by kernel_rfl) (ow (d_laws_szPattern_good h2) (ow (h3) (ow (h4) (ow (h5) ow0)))) rfl
      · have h := den_some h
        subst h
        exact AW_go (n := 2000) [[none]] [.d (D.int .i64 (y1)), .b false, .b false, .b false] (.ret (D.int .i64 (IntKind.i64.wrap ((IntKind.i64.wrap ((y1) - (((a0_.left).length : Int)))) - (((a0_.right).length : Int)))))) hΓ mix (by kernel_rfl) (ow (d_laws_szPattern_good h2) (ow (h3) (ow (h4) (ow (h5) ow0)))) rfl
def d_laws_szCondS_L1 (a0_ : List Cond) (k1 : Int → Option Int) : List Cond → Nat → Int → Option Int
  | [], i1, v1_1 => (k1 (v1_1))
  | x1_ :: xs1, i1, v1_1 => ((d_laws_szCond (x1_) (v1_1)).bind fun y22 => (bif decide ((y22 : Int) < (0)) then (some (-1)) else (d_laws_szCondS_L1 a0_ k1 xs1 (i1 + 1) (y22))))
def d_laws_szCondS (a0_ : List Cond) (a1_ : Int) : Option Int := (bif decide ((IntKind.i64.wrap ((a1_) - ((((a0_).map Cond.c).length : Int))) : Int) < (0)) then (some (-1)) else (d_laws_szCondS_L1 a0_ (fun (z1_1 : Int) => (some (z1_1))) (a0_) 0 (IntKind.i64.wrap ((a1_) - ((((a0_).map Cond.c).length : Int))))))
theorem d_laws_szCondS_L1w {Γ : Ctx} (hΓ : Γ.nt = 27) {N : Nat → St → Prop} {a0_ : List Cond} {r : Int} {k1 : Int → Option Int} (hE1 : ∀ (z1_1 : Int), k1 z1_1 = some r → AW Tryd.prog Γ (dig (bodyOf Tryd.f54) [1, 1, 1, 1] []).1 (KQ Tryd.prog Γ N (RetQ Tryd.prog Tryd.f54 (D.int .i64 (r))) (dig (bodyOf Tryd.f54) [1, 1, 1, 1] []).2) ⟨[(1, D.int .i64 (z1_1))], []⟩) (hm1 : (a0_).length ≤ maxLen) : ∀ (rest : List Cond) (i1 : Nat) (v1_1 : Int), (a0_).drop i1 = rest → d_laws_szCondS_L1 a0_ k1 rest i1 v1_1 = some r → AWr Tryd.prog Γ (dig (bodyOf Tryd.f54) [1, 1, 1, 0, 1, 0, 0] []).1 (KQ Tryd.prog Γ N (RetQ Tryd.prog Tryd.f54 (D.int .i64 (r))) (dig (bodyOf Tryd.f54) [1, 1, 1, 0, 1, 0] []).2) (rest.length + 1) ⟨[(0, D.sl ((a0_).map Cond.c)), (1, D.int .i64 (v1_1)), (5, D.int .i64 ((i1 : Int)))], []⟩ := by
  intro rest
  induction rest with
  | nil =>
    intro i1 v1_1 hd1 h
    rw [d_laws_szCondS_L1] at h
    refine AWr_succ fun N1 hN1 hS1 => ?_
    have t := AW_N (N := N) (N' := N1) (K0 := (dig (bodyOf Tryd.f54) [1, 1, 1, 0, 1, 0] []).2) (by kernel_rfl) hN1 (hE1 (v1_1) h)
    refine AW_go (n := 2000) [[none]] [.b false, .hl 0 [1] []] (.at_ (dig (bodyOf Tryd.f54) [1, 1, 1, 1] []).1 (dig (bodyOf Tryd.f54) [1, 1, 1, 1] []).2 ⟨[(1, D.int .i64 (v1_1))], []⟩) hΓ mix (by kernel_rfl) (ow ((ltm_false Cond.c (drop_nil hd1))) ow0) ?_
    first | exact t | (simp only [List.map_append, List.map_cons, List.map_nil, List.map_set] at t ⊢; exact t)
  | cons x1_ xs1 ih1 =>
    intro i1 v1_1 hd1 h
    rw [d_laws_szCondS_L1] at h
    refine AWr_succ fun N1 hN1 hS1 => ?_
    obtain ⟨y22, h23, h⟩ := den_bind h
    rcases den_if h with ⟨h24, h⟩ | ⟨h24, h⟩
    · have h := den_some h
      subst h
      exact AW_go (n := 2000) [[none]] [.b true, .row (Cond.c x1_), .d (D.int .i64 (y22)), .b true] (.ret (D.int .i64 (-1))) hΓ mix (by kernel_rfl) (ow ((ltm_true Cond.c (drop_cons hd1).2.1)) (ow (map_row Cond.c 5 (drop_cons hd1).1 rfl) (ow (d_laws_szCond_good h23) (ow (h24) ow0)))) rfl
    · have t := ih1 (i1 + 1) (y22) (drop_cons hd1).2.2 h
      refine AW_go (n := 2000) [[none]] [.b true, .row (Cond.c x1_), .d (D.int .i64 (y22)), .b false, .cn [0, 1, 5] []] (.cont 0 ⟨[(0, D.sl ((a0_).map Cond.c)), (1, D.int .i64 (y22)), (5, D.int .i64 (IntKind.i64.wrap (((i1 : Int)) + (1))))], []⟩) hΓ mix (by kernel_rfl) (ow ((ltm_true Cond.c (drop_cons hd1).2.1)) (ow (map_row Cond.c 5 (drop_cons hd1).1 rfl) (ow (d_laws_szCond_good h23) (ow (h24) ow0)))) ?_
      refine (congrFun hS1 _).mpr ?_
      rw [i64_succ (drop_cons hd1).2.1 hm1]
      first | exact t | (simp only [List.map_append, List.map_cons, List.map_nil, List.map_set] at t ⊢; exact t)
theorem d_laws_szCondS_good {a0_ : List Cond} {a1_ : Int} {r : Int} (h : d_laws_szCondS a0_ a1_ = some r) : Good Tryd.prog 54 [D.sl ((a0_).map Cond.c), D.int .i64 (a1_)] (D.int .i64 (r)) := by
  refine Good.of (c := bodyOf Tryd.f54) Tryd.func54 rfl (by decide) (by simp [Tryd.f54]) ?_
  intro hr Γ hΓ
  have hΓ : Γ.nt = 27 := hΓ
  rw [d_laws_szCondS] at h
  refine (show AW Tryd.prog Γ (bodyOf Tryd.f54) (KQ Tryd.prog Γ (fun _ _ => False) (RetQ Tryd.prog Tryd.f54 (D.int .i64 (r))) []) _ from ?_)
  rcases den_if h with ⟨h1, h⟩ | ⟨h1, h⟩
  · have h := den_some h
    subst h
    exact AW_go (n := 2000) [[none]] [.b true] (.ret (D.int .i64 (-1))) hΓ mix (by kernel_rfl) (ow (h1) ow0) rfl
  · refine AW_go (n := 2000) [[none]] [.b false, .cn [0, 1, 5] []] (.lp (dig (bodyOf Tryd.f54) [1, 1, 1, 0, 1, 0, 0] []).1 (dig (bodyOf Tryd.f54) [1, 1, 1, 0, 1, 0] []).2 ⟨[(0, D.sl ((a0_).map Cond.c)), (1, D.int .i64 (IntKind.i64.wrap ((a1_) - ((((a0_).map Cond.c).length : Int))))), (5, D.int .i64 (0))], []⟩) hΓ mix (by kernel_rfl) (ow (h1) ow0) (AW_st (by first | rfl | (simp only [List.map_append, List.map_cons, List.map_nil, List.map_set, List.map_replicate] <;> rfl)) (AW_of_r (d_laws_szCondS_L1w hΓ (fun z1_1 h => ?_) (by have := (Rdb.sl (hr _ (List.mem_of_getElem? (i := 0) rfl))).1; simpa using this) (a0_) 0 (IntKind.i64.wrap ((a1_) - ((((a0_).map Cond.c).length : Int)))) rfl h)))
    have h := den_some h
    subst h
    exact AW_go (n := 2000) [[none]] [] (.ret (D.int .i64 (z1_1))) hΓ mix (by kernel_rfl) ow0 rfl
def d_laws_szAction (a0_ : Action) (a1_ : Int) : Option Int := ((d_laws_szPattern (a0_.pat) (a1_)).bind fun y1 => (bif decide ((y1 : Int) < (0)) then (some (-1)) else (some (y1))))
theorem d_laws_szAction_good {a0_ : Action} {a1_ : Int} {r : Int} (h : d_laws_szAction a0_ a1_ = some r) : Good Tryd.prog 98 [D.agg (Action.c a0_), D.int .i64 (a1_)] (D.int .i64 (r)) := by
  refine Good.of (c := bodyOf Tryd.f98) Tryd.func98 rfl (by decide) (by simp [Tryd.f98]) ?_
  intro hr Γ hΓ
  have hΓ : Γ.nt = 12 := hΓ
  rw [d_laws_szAction] at h
  refine (show AW Tryd.prog Γ (bodyOf Tryd.f98) (KQ Tryd.prog Γ (fun _ _ => False) (RetQ Tryd.prog Tryd.f98 (D.int .i64 (r))) []) _ from ?_)
  obtain ⟨y1, h2, h⟩ := den_bind h
  rcases den_if h with ⟨h3, h⟩ | ⟨h3, h⟩
  · have h := den_some h
    subst h
    exact AW_go (n := 2000) [[none]] [.d (D.int .i64 (y1)), .b true] (.ret (D.int .i64 (-1))) hΓ mix (by kernel_rfl) (ow (d_laws_szPattern_good h2) (ow (h3) ow0)) rfl
  · have h := den_some h
    subst h
    exact AW_go (n := 2000) [[none]] [.d (D.int .i64 (y1)), .b false] (.ret (D.int .i64 (y1))) hΓ mix (by kernel_rfl) (ow (d_laws_szPattern_good h2) (ow (h3) ow0)) rfl
def d_laws_szActionS_L1 (a0_ : List Action) (k1 : Int → Option Int) : List Action → Nat → Int → Option Int
  | [], i1, v1_1 => (k1 (v1_1))
  | x1_ :: xs1, i1, v1_1 => ((d_laws_szAction (x1_) (v1_1)).bind fun y22 => (bif decide ((y22 : Int) < (0)) then (some (-1)) else (d_laws_szActionS_L1 a0_ k1 xs1 (i1 + 1) (y22))))
def d_laws_szActionS (a0_ : List Action) (a1_ : Int) : Option Int := (bif decide ((IntKind.i64.wrap ((a1_) - ((((a0_).map Action.c).length : Int))) : Int) < (0)) then (some (-1)) else (d_laws_szActionS_L1 a0_ (fun (z1_1 : Int) => (some (z1_1))) (a0_) 0 (IntKind.i64.wrap ((a1_) - ((((a0_).map Action.c).length : Int))))))
theorem d_laws_szActionS_L1w {Γ : Ctx} (hΓ : Γ.nt = 27) {N : Nat → St → Prop} {a0_ : List Action} {r : Int} {k1 : Int → Option Int} (hE1 : ∀ (z1_1 : Int), k1 z1_1 = some r → AW Tryd.prog Γ (dig (bodyOf Tryd.f55) [1, 1, 1, 1] []).1 (KQ Tryd.prog Γ N (RetQ Tryd.prog Tryd.f55 (D.int .i64 (r))) (dig (bodyOf Tryd.f55) [1, 1, 1, 1] []).2) ⟨[(1, D.int .i64 (z1_1))], []⟩) (hm1 : (a0_).length ≤ maxLen) : ∀ (rest : List Action) (i1 : Nat) (v1_1 : Int), (a0_).drop i1 = rest → d_laws_szActionS_L1 a0_ k1 rest i1 v1_1 = some r → AWr Tryd.prog Γ (dig (bodyOf Tryd.f55) [1, 1, 1, 0, 1, 0, 0] []).1 (KQ Tryd.prog Γ N (RetQ Tryd.prog Tryd.f55 (D.int .i64 (r))) (dig (bodyOf Tryd.f55) [1, 1, 1, 0, 1, 0] []).2) (rest.length + 1) ⟨[(0, D.sl ((a0_).map Action.c)), (1, D.int .i64 (v1_1)), (5, D.int .i64 ((i1 : Int)))], []⟩ := by
  intro rest
  induction rest with
  | nil =>
    intro i1 v1_1 hd1 h
    rw [d_laws_szActionS_L1] at h
    refine AWr_succ fun N1 hN1 hS1 => ?_
    have t := AW_N (N := N) (N' := N1) (K0 := (dig (bodyOf Tryd.f55) [1, 1, 1, 0, 1, 0] []).2) (by kernel_rfl) hN1 (hE1 (v1_1) h)
    refine AW_go (n := 2000) [[none]] [.b false, .hl 0 [1] []] (.at_ (dig (bodyOf Tryd.f55) [1, 1, 1, 1] []).1 (dig (bodyOf Tryd.f55) [1, 1, 1, 1] []).2 ⟨[(1, D.int .i64 (v1_1))], []⟩) hΓ mix (by kernel_rfl) (ow ((ltm_false Action.c (drop_nil hd1))) ow0) ?_
    first | exact t | (simp only [List.map_append, List.map_cons, List.map_nil, List.map_set] at t ⊢; exact t)
  | cons x1_ xs1 ih1 =>
    intro i1 v1_1 hd1 h
    rw [d_laws_szActionS_L1] at h
    refine AWr_succ fun N1 hN1 hS1 => ?_
    obtain ⟨y22, h23, h⟩ := den_bind h
    rcases den_if h with ⟨h24, h⟩ | ⟨h24, h⟩
    · have h := den_some h
      subst h
      exact AW_go (n := 2000) [[none]] [.b true, .row (Action.c x1_), .d (D.int .i64 (y22)), .b true] (.ret (D.int .i64 (-1))) hΓ mix (by kernel_rfl) (ow ((ltm_true Action.c (drop_cons hd1).2.1)) (ow (map_row Action.c 3 (drop_cons hd1).1 rfl) (ow (d_laws_szAction_good h23) (ow (h24) ow0)))) rfl
    · have t := ih1 (i1 + 1) (y22) (drop_cons hd1).2.2 h
      refine AW_go (n := 2000) [[none]] [.b true, .row (Action.c x1_), .d (D.int .i64 (y22)), .b false, .cn [0, 1, 5] []] (.cont 0 ⟨[(0, D.sl ((a0_).map Action.c)), (1, D.int .i64 (y22)), (5, D.int .i64 (IntKind.i64.wrap (((i1 : Int)) + (1))))], []⟩) hΓ mix (by kernel_rfl) (ow ((ltm_true Action.c (drop_cons hd1).2.1)) (ow (map_row Action.c 3 (drop_cons hd1).1 rfl) (ow (d_laws_szAction_good h23) (ow (h24) ow0)))) ?_
      refine (congrFun hS1 _).mpr ?_
      rw [i64_succ (drop_cons hd1).2.1 hm1]
      first | exact t | (simp only [List.map_append, List.map_cons, List.map_nil, List.map_set] at t ⊢; exact t)
theorem d_laws_szActionS_good {a0_ : List Action} {a1_ : Int} {r : Int} (h : d_laws_szActionS a0_ a1_ = some r) : Good Tryd.prog 55 [D.sl ((a0_).map Action.c), D.int .i64 (a1_)] (D.int .i64 (r)) := by
  refine Good.of (c := bodyOf Tryd.f55) Tryd.func55 rfl (by decide) (by simp [Tryd.f55]) ?_
  intro hr Γ hΓ
  have hΓ : Γ.nt = 27 := hΓ
  rw [d_laws_szActionS] at h
  refine (show AW Tryd.prog Γ (bodyOf Tryd.f55) (KQ Tryd.prog Γ (fun _ _ => False) (RetQ Tryd.prog Tryd.f55 (D.int .i64 (r))) []) _ from ?_)
  rcases den_if h with ⟨h1, h⟩ | ⟨h1, h⟩
  · have h := den_some h
    subst h
    exact AW_go (n := 2000) [[none]] [.b true] (.ret (D.int .i64 (-1))) hΓ mix (by kernel_rfl) (ow (h1) ow0) rfl
  · refine AW_go (n := 2000) [[none]] [.b false, .cn [0, 1, 5] []] (.lp (dig (bodyOf Tryd.f55) [1, 1, 1, 0, 1, 0, 0] []).1 (dig (bodyOf Tryd.f55) [1, 1, 1, 0, 1, 0] []).2 ⟨[(0, D.sl ((a0_).map Action.c)), (1, D.int .i64 (IntKind.i64.wrap ((a1_) - ((((a0_).map Action.c).length : Int))))), (5, D.int .i64 (0))], []⟩) hΓ mix (by kernel_rfl) (ow (h1) ow0) (AW_st (by first | rfl | (simp only [List.map_append, List.map_cons, List.map_nil, List.map_set, List.map_replicate] <;> rfl)) (AW_of_r (d_laws_szActionS_L1w hΓ (fun z1_1 h => ?_) (by have := (Rdb.sl (hr _ (List.mem_of_getElem? (i := 0) rfl))).1; simpa using this) (a0_) 0 (IntKind.i64.wrap ((a1_) - ((((a0_).map Action.c).length : Int)))) rfl h)))
    have h := den_some h
    subst h
    exact AW_go (n := 2000) [[none]] [] (.ret (D.int .i64 (z1_1))) hΓ mix (by kernel_rfl) ow0 rfl
def d_laws_szRule (a0_ : Rule) (a1_ : Int) : Option Int := (bif decide ((IntKind.i64.wrap ((a1_) - (((a0_.name).length : Int))) : Int) < (0)) then (some (-1)) else ((d_laws_szCondS (a0_.conds) (IntKind.i64.wrap ((a1_) - (((a0_.name).length : Int))))).bind fun y2 => (bif decide ((y2 : Int) < (0)) then (some (-1)) else ((d_laws_szActionS (a0_.acts) (y2)).bind fun y5 => (bif decide ((y5 : Int) < (0)) then (some (-1)) else (some (y5)))))))
theorem d_laws_szRule_good {a0_ : Rule} {a1_ : Int} {r : Int} (h : d_laws_szRule a0_ a1_ = some r) : Good Tryd.prog 16 [D.agg (Rule.c a0_), D.int .i64 (a1_)] (D.int .i64 (r)) := by
  refine Good.of (c := bodyOf Tryd.f16) Tryd.func16 rfl (by decide) (by simp [Tryd.f16]) ?_
  intro hr Γ hΓ
  have hΓ : Γ.nt = 25 := hΓ
  rw [d_laws_szRule] at h
  refine (show AW Tryd.prog Γ (bodyOf Tryd.f16) (KQ Tryd.prog Γ (fun _ _ => False) (RetQ Tryd.prog Tryd.f16 (D.int .i64 (r))) []) _ from ?_)
  rcases den_if h with ⟨h1, h⟩ | ⟨h1, h⟩
  · have h := den_some h
    subst h
    exact AW_go (n := 2000) [[none]] [.b true] (.ret (D.int .i64 (-1))) hΓ mix (by kernel_rfl) (ow (h1) ow0) rfl
  · obtain ⟨y2, h3, h⟩ := den_bind h
    rcases den_if h with ⟨h4, h⟩ | ⟨h4, h⟩
    · have h := den_some h
      subst h
      exact AW_go (n := 2000) [[none]] [.b false, .d (D.int .i64 (y2)), .b true] (.ret (D.int .i64 (-1))) hΓ mix (by kernel_rfl) (ow (h1) (ow (d_laws_szCondS_good h3) (ow (h4) ow0))) rfl
    · obtain ⟨y5, h6, h⟩ := den_bind h
      rcases den_if h with ⟨h7, h⟩ | ⟨h7, h⟩
      · have h := den_some h
        subst h
        exact AW_go (n := 2000) [[none]] [.b false, .d (D.int .i64 (y2)), .b false, .d (D.int .i64 (y5)), .b true] (.ret (D.int .i64 (-1))) hΓ mix (by kernel_rfl) (ow (h1) (ow (d_laws_szCondS_good h3) (ow (h4) (ow (d_laws_szActionS_good h6) (ow (h7) ow0))))) rfl
      · have h := den_some h
        subst h
        exact AW_go (n := 2000) [[none]] [.b false, .d (D.int .i64 (y2)), .b false, .d (D.int .i64 (y5)), .b false] (.ret (D.int .i64 (y5))) hΓ mix (by kernel_rfl) (ow (h1) (ow (d_laws_szCondS_good h3) (ow (h4) (ow (d_laws_szActionS_good h6) (ow (h7) ow0))))) rfl
end Go.Cx
