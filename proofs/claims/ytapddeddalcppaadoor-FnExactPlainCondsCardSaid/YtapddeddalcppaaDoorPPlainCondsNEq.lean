/- What functions of the program compute, and the walks that show it. No condition. -/
import Derived.Test.YtapddeddalcppaaDoorNData
namespace Go.Cx
open Go.RowKit Go.Proofs
set_option linter.unusedVariables false
set_option linter.unusedSimpArgs false
set_option maxRecDepth 100000
def d_laws_eqStringS_L1 (a0_ : List Bytes) (a1_ : List Bytes) (k1 : Option Bool) : List Bytes → Nat → Option Bool
  | [], i1 => (k1 )
  | x1_ :: xs1, i1 => ((atI (a1_) ((i1 : Int))).bind fun x22 => (bif !((x1_ : Bytes) == (x22)) then (some (false)) else (d_laws_eqStringS_L1 a0_ a1_ k1 xs1 (i1 + 1) )))
def d_laws_eqStringS (a0_ : List Bytes) (a1_ : List Bytes) : Option Bool := (bif ((((a0_).map tx).length : Int) : Int) != ((((a1_).map tx).length : Int)) then (some (false)) else (d_laws_eqStringS_L1 a0_ a1_ (some (true)) (a0_) 0 ))
theorem d_laws_eqStringS_L1w {Γ : Ctx} (hΓ : Γ.nt = 26) {N : Nat → St → Prop} {a0_ : List Bytes} {a1_ : List Bytes} {r : Bool} {k1 : Option Bool} (hE1 : k1 = some r → AW Tryd.prog Γ (dig (bodyOf Tryd.f51) [1, 1, 1] []).1 (KQ Tryd.prog Γ N (RetQ Tryd.prog Tryd.f51 (D.bool (r))) (dig (bodyOf Tryd.f51) [1, 1, 1] []).2) ⟨[], []⟩) (hm1 : (a0_).length ≤ maxLen) : ∀ (rest : List Bytes) (i1 : Nat) , (a0_).drop i1 = rest → d_laws_eqStringS_L1 a0_ a1_ k1 rest i1  = some r → AWr Tryd.prog Γ (dig (bodyOf Tryd.f51) [1, 1, 0, 1, 0, 0] []).1 (KQ Tryd.prog Γ N (RetQ Tryd.prog Tryd.f51 (D.bool (r))) (dig (bodyOf Tryd.f51) [1, 1, 0, 1, 0] []).2) (rest.length + 1) ⟨[(0, D.sl ((a0_).map tx)), (1, D.sl ((a1_).map tx)), (5, D.int .i64 ((i1 : Int)))], []⟩ := by
  intro rest
  induction rest with
  | nil =>
    intro i1  hd1 h
    rw [d_laws_eqStringS_L1] at h
    refine AWr_succ fun N1 hN1 hS1 => ?_
    have t := AW_N (N := N) (N' := N1) (K0 := (dig (bodyOf Tryd.f51) [1, 1, 0, 1, 0] []).2) (by kernel_rfl) hN1 (hE1  h)
    refine AW_go (n := 2000) [[none]] [.b false, .hl 0 [] []] (.at_ (dig (bodyOf Tryd.f51) [1, 1, 1] []).1 (dig (bodyOf Tryd.f51) [1, 1, 1] []).2 ⟨[], []⟩) hΓ mix (by kernel_rfl) (ow ((ltm_false tx (drop_nil hd1))) ow0) ?_
    first | exact t | (simp only [List.map_append, List.map_cons, List.map_nil, List.map_set] at t ⊢; exact t)
  | cons x1_ xs1 ih1 =>
    intro i1  hd1 h
    rw [d_laws_eqStringS_L1] at h
    refine AWr_succ fun N1 hN1 hS1 => ?_
    obtain ⟨x22, h23, h⟩ := den_bind h
    rcases den_if h with ⟨h24, h⟩ | ⟨h24, h⟩
    · have h := den_some h
      subst h
      exact AW_go (n := 2000) [[none]] [.b true, .n 8, .row (tx x1_), .row (tx x22), .b true] (.ret (D.bool (false))) hΓ mix (by kernel_rfl) (ow ((ltm_true tx (drop_cons hd1).2.1)) (ow (map_row tx 1 (drop_cons hd1).1 rfl) (ow (at_row tx 1 h23 rfl) (ow (h24) ow0)))) rfl
    · have t := ih1 (i1 + 1)  (drop_cons hd1).2.2 h
      refine AW_go (n := 2000) [[none]] [.b true, .n 8, .row (tx x1_), .row (tx x22), .b false, .cn [0, 1, 5] []] (.cont 0 ⟨[(0, D.sl ((a0_).map tx)), (1, D.sl ((a1_).map tx)), (5, D.int .i64 (IntKind.i64.wrap (((i1 : Int)) + (1))))], []⟩) hΓ mix (by kernel_rfl) (ow ((ltm_true tx (drop_cons hd1).2.1)) (ow (map_row tx 1 (drop_cons hd1).1 rfl) (ow (at_row tx 1 h23 rfl) (ow (h24) ow0)))) ?_
      refine (congrFun hS1 _).mpr ?_
      rw [i64_succ (drop_cons hd1).2.1 hm1]
      first | exact t | (simp only [List.map_append, List.map_cons, List.map_nil, List.map_set] at t ⊢; exact t)
theorem d_laws_eqStringS_good {a0_ : List Bytes} {a1_ : List Bytes} {r : Bool} (h : d_laws_eqStringS a0_ a1_ = some r) : Good Tryd.prog 51 [D.sl ((a0_).map tx), D.sl ((a1_).map tx)] (D.bool (r)) := by
  refine Good.of (c := bodyOf Tryd.f51) Tryd.func51 rfl (by decide) (by simp [Tryd.f51]) ?_
  intro hr Γ hΓ
  have hΓ : Γ.nt = 26 := hΓ
  rw [d_laws_eqStringS] at h
  refine (show AW Tryd.prog Γ (bodyOf Tryd.f51) (KQ Tryd.prog Γ (fun _ _ => False) (RetQ Tryd.prog Tryd.f51 (D.bool (r))) []) _ from ?_)
  rcases den_if h with ⟨h1, h⟩ | ⟨h1, h⟩
  · have h := den_some h
    subst h
    exact AW_go (n := 2000) [[none]] [.b true] (.ret (D.bool (false))) hΓ mix (by kernel_rfl) (ow (h1) ow0) rfl
  · refine AW_go (n := 2000) [[none]] [.b false, .cn [0, 1, 5] []] (.lp (dig (bodyOf Tryd.f51) [1, 1, 0, 1, 0, 0] []).1 (dig (bodyOf Tryd.f51) [1, 1, 0, 1, 0] []).2 ⟨[(0, D.sl ((a0_).map tx)), (1, D.sl ((a1_).map tx)), (5, D.int .i64 (0))], []⟩) hΓ mix (by kernel_rfl) (ow (h1) ow0) (AW_st (by first | rfl | (simp only [List.map_append, List.map_cons, List.map_nil, List.map_set, List.map_replicate] <;> rfl)) (AW_of_r (d_laws_eqStringS_L1w hΓ (fun h => ?_) (by have := (Rdb.sl (hr _ (List.mem_of_getElem? (i := 0) rfl))).1; simpa using this) (a0_) 0  rfl h)))
    have h := den_some h
    subst h
    exact AW_go (n := 2000) [[none]] [] (.ret (D.bool (true))) hΓ mix (by kernel_rfl) ow0 rfl
def d_laws_eqPattern (a0_ : Fact) (a1_ : Fact) : Option Bool := (bif !((a0_.rel : Bytes) == (a1_.rel)) then (some (false)) else ((d_laws_eqStringS (a0_.args) (a1_.args)).bind fun y2 => (bif !(y2) then (some (false)) else (some (true)))))
theorem d_laws_eqPattern_good {a0_ : Fact} {a1_ : Fact} {r : Bool} (h : d_laws_eqPattern a0_ a1_ = some r) : Good Tryd.prog 13 [D.agg (Fact.c a0_), D.agg (Fact.c a1_)] (D.bool (r)) := by
  refine Good.of (c := bodyOf Tryd.f13) Tryd.func13 rfl (by decide) (by simp [Tryd.f13]) ?_
  intro hr Γ hΓ
  have hΓ : Γ.nt = 16 := hΓ
  rw [d_laws_eqPattern] at h
  refine (show AW Tryd.prog Γ (bodyOf Tryd.f13) (KQ Tryd.prog Γ (fun _ _ => False) (RetQ Tryd.prog Tryd.f13 (D.bool (r))) []) _ from ?_)
  rcases den_if h with ⟨h1, h⟩ | ⟨h1, h⟩
  · have h := den_some h
    subst h
    exact AW_go (n := 2000) [[none]] [.b true] (.ret (D.bool (false))) hΓ mix (by kernel_rfl) (ow (h1) ow0) rfl
  · obtain ⟨y2, h3, h⟩ := den_bind h
    rcases den_if h with ⟨h4, h⟩ | ⟨h4, h⟩
    · have h := den_some h
      subst h
      exact AW_go (n := 2000) [[none]] [.b false, .d (D.bool (y2)), .b true] (.ret (D.bool (false))) hΓ mix (by kernel_rfl) (ow (h1) (ow (d_laws_eqStringS_good h3) (ow (h4) ow0))) rfl
    · have h := den_some h
      subst h
      exact AW_go (n := 2000) [[none]] [.b false, .d (D.bool (y2)), .b false] (.ret (D.bool (true))) hΓ mix (by kernel_rfl) (ow (h1) (ow (d_laws_eqStringS_good h3) (ow (h4) ow0))) rfl
def d_laws_eqCond (a0_ : Cond) (a1_ : Cond) : Option Bool := (bif (a0_.kind : Int) != (a1_.kind) then (some (false)) else ((d_laws_eqPattern (a0_.pat) (a1_.pat)).bind fun y2 => (bif !(y2) then (some (false)) else (bif !((a0_.left : Bytes) == (a1_.left)) then (some (false)) else (bif !((a0_.right : Bytes) == (a1_.right)) then (some (false)) else (some (true)))))))
theorem d_laws_eqCond_good {a0_ : Cond} {a1_ : Cond} {r : Bool} (h : d_laws_eqCond a0_ a1_ = some r) : Good Tryd.prog 63 [D.agg (Cond.c a0_), D.agg (Cond.c a1_)] (D.bool (r)) := by
  refine Good.of (c := bodyOf Tryd.f63) Tryd.func63 rfl (by decide) (by simp [Tryd.f63]) ?_
  intro hr Γ hΓ
  have hΓ : Γ.nt = 26 := hΓ
  rw [d_laws_eqCond] at h
  refine (show AW Tryd.prog Γ (bodyOf Tryd.f63) (KQ Tryd.prog Γ (fun _ _ => False) (RetQ Tryd.prog Tryd.f63 (D.bool (r))) []) _ from ?_)
  rcases den_if h with ⟨h1, h⟩ | ⟨h1, h⟩
  · have h := den_some h
    subst h
    exact AW_go (n := 2000) [[none]] [.b true] (.ret (D.bool (false))) hΓ mix (by kernel_rfl) (ow (h1) ow0) rfl
  · obtain ⟨y2, h3, h⟩ := den_bind h
    rcases den_if h with ⟨h4, h⟩ | ⟨h4, h⟩
    · have h := den_some h
      subst h
      exact AW_go (n := 2000) [[none]] [.b false, .d (D.bool (y2)), .b true] (.ret (D.bool (false))) hΓ mix (by kernel_rfl) (ow (h1) (ow (d_laws_eqPattern_good h3) (ow (h4) ow0))) rfl
    · rcases den_if h with ⟨h5, h⟩ | ⟨h5, h⟩
      · have h := den_some h
        subst h
        exact AW_go (n := 2000) [[none]] [.b false, .d (D.bool (y2)), .b false, .b true] (.ret (D.bool (false))) hΓ mix (by kernel_rfl) (ow (h1) (ow (d_laws_eqPattern_good h3) (ow (h4) (ow (h5) ow0)))) rfl
      · rcases den_if h with ⟨h6, h⟩ | ⟨h6, h⟩
        · have h := den_some h
          subst h
          exact AW_go (n := 2000) [[none]] [.b false, .d (D.bool (y2)), .b false, .b false, .b true] (.ret (D.bool (false))) hΓ mix (by kernel_rfl) (ow (h1) (ow (d_laws_eqPattern_good h3) (ow (h4) (ow (h5) (ow (h6) ow0))))) rfl
        · have h := den_some h
          subst h
          exact AW_go (n := 2000) [[none]] [.b false, .d (D.bool (y2)), .b false, .b false, .b false] (.ret (D.bool (true))) hΓ mix (by kernel_rfl) (ow (h1) (ow (d_laws_eqPattern_good h3) (ow (h4) (ow (h5) (ow (h6) ow0))))) rfl
def d_laws_eqCondS_L1 (a0_ : List Cond) (a1_ : List Cond) (k1 : Option Bool) : List Cond → Nat → Option Bool
  | [], i1 => (k1 )
  | x1_ :: xs1, i1 => ((atI (a1_) ((i1 : Int))).bind fun x30 => ((d_laws_eqCond (x1_) (x30)).bind fun y32 => (bif !(y32) then (some (false)) else (d_laws_eqCondS_L1 a0_ a1_ k1 xs1 (i1 + 1) ))))
def d_laws_eqCondS (a0_ : List Cond) (a1_ : List Cond) : Option Bool := (bif ((((a0_).map Cond.c).length : Int) : Int) != ((((a1_).map Cond.c).length : Int)) then (some (false)) else (d_laws_eqCondS_L1 a0_ a1_ (some (true)) (a0_) 0 ))
theorem d_laws_eqCondS_L1w {Γ : Ctx} (hΓ : Γ.nt = 27) {N : Nat → St → Prop} {a0_ : List Cond} {a1_ : List Cond} {r : Bool} {k1 : Option Bool} (hE1 : k1 = some r → AW Tryd.prog Γ (dig (bodyOf Tryd.f27) [1, 1, 1] []).1 (KQ Tryd.prog Γ N (RetQ Tryd.prog Tryd.f27 (D.bool (r))) (dig (bodyOf Tryd.f27) [1, 1, 1] []).2) ⟨[], []⟩) (hm1 : (a0_).length ≤ maxLen) : ∀ (rest : List Cond) (i1 : Nat) , (a0_).drop i1 = rest → d_laws_eqCondS_L1 a0_ a1_ k1 rest i1  = some r → AWr Tryd.prog Γ (dig (bodyOf Tryd.f27) [1, 1, 0, 1, 0, 0] []).1 (KQ Tryd.prog Γ N (RetQ Tryd.prog Tryd.f27 (D.bool (r))) (dig (bodyOf Tryd.f27) [1, 1, 0, 1, 0] []).2) (rest.length + 1) ⟨[(0, D.sl ((a0_).map Cond.c)), (1, D.sl ((a1_).map Cond.c)), (5, D.int .i64 ((i1 : Int)))], []⟩ := by
  intro rest
  induction rest with
  | nil =>
    intro i1  hd1 h
    rw [d_laws_eqCondS_L1] at h
    refine AWr_succ fun N1 hN1 hS1 => ?_
    have t := AW_N (N := N) (N' := N1) (K0 := (dig (bodyOf Tryd.f27) [1, 1, 0, 1, 0] []).2) (by kernel_rfl) hN1 (hE1  h)
    refine AW_go (n := 2000) [[none]] [.b false, .hl 0 [] []] (.at_ (dig (bodyOf Tryd.f27) [1, 1, 1] []).1 (dig (bodyOf Tryd.f27) [1, 1, 1] []).2 ⟨[], []⟩) hΓ mix (by kernel_rfl) (ow ((ltm_false Cond.c (drop_nil hd1))) ow0) ?_
    first | exact t | (simp only [List.map_append, List.map_cons, List.map_nil, List.map_set] at t ⊢; exact t)
  | cons x1_ xs1 ih1 =>
    intro i1  hd1 h
    rw [d_laws_eqCondS_L1] at h
    refine AWr_succ fun N1 hN1 hS1 => ?_
    obtain ⟨x30, h31, h⟩ := den_bind h
    obtain ⟨y32, h33, h⟩ := den_bind h
    rcases den_if h with ⟨h34, h⟩ | ⟨h34, h⟩
    · have h := den_some h
      subst h
      exact AW_go (n := 2000) [[none]] [.b true, .n 8, .row (Cond.c x1_), .row (Cond.c x30), .d (D.bool (y32)), .b true] (.ret (D.bool (false))) hΓ mix (by kernel_rfl) (ow ((ltm_true Cond.c (drop_cons hd1).2.1)) (ow (map_row Cond.c 5 (drop_cons hd1).1 rfl) (ow (at_row Cond.c 5 h31 rfl) (ow (d_laws_eqCond_good h33) (ow (h34) ow0))))) rfl
    · have t := ih1 (i1 + 1)  (drop_cons hd1).2.2 h
      refine AW_go (n := 2000) [[none]] [.b true, .n 8, .row (Cond.c x1_), .row (Cond.c x30), .d (D.bool (y32)), .b false, .cn [0, 1, 5] []] (.cont 0 ⟨[(0, D.sl ((a0_).map Cond.c)), (1, D.sl ((a1_).map Cond.c)), (5, D.int .i64 (IntKind.i64.wrap (((i1 : Int)) + (1))))], []⟩) hΓ mix (by kernel_rfl) (ow ((ltm_true Cond.c (drop_cons hd1).2.1)) (ow (map_row Cond.c 5 (drop_cons hd1).1 rfl) (ow (at_row Cond.c 5 h31 rfl) (ow (d_laws_eqCond_good h33) (ow (h34) ow0))))) ?_
      refine (congrFun hS1 _).mpr ?_
      rw [i64_succ (drop_cons hd1).2.1 hm1]
      first | exact t | (simp only [List.map_append, List.map_cons, List.map_nil, List.map_set] at t ⊢; exact t)
theorem d_laws_eqCondS_good {a0_ : List Cond} {a1_ : List Cond} {r : Bool} (h : d_laws_eqCondS a0_ a1_ = some r) : Good Tryd.prog 27 [D.sl ((a0_).map Cond.c), D.sl ((a1_).map Cond.c)] (D.bool (r)) := by
  refine Good.of (c := bodyOf Tryd.f27) Tryd.func27 rfl (by decide) (by simp [Tryd.f27]) ?_
  intro hr Γ hΓ
  have hΓ : Γ.nt = 27 := hΓ
  rw [d_laws_eqCondS] at h
  refine (show AW Tryd.prog Γ (bodyOf Tryd.f27) (KQ Tryd.prog Γ (fun _ _ => False) (RetQ Tryd.prog Tryd.f27 (D.bool (r))) []) _ from ?_)
  rcases den_if h with ⟨h1, h⟩ | ⟨h1, h⟩
  · have h := den_some h
    subst h
    exact AW_go (n := 2000) [[none]] [.b true] (.ret (D.bool (false))) hΓ mix (by kernel_rfl) (ow (h1) ow0) rfl
  · refine AW_go (n := 2000) [[none]] [.b false, .cn [0, 1, 5] []] (.lp (dig (bodyOf Tryd.f27) [1, 1, 0, 1, 0, 0] []).1 (dig (bodyOf Tryd.f27) [1, 1, 0, 1, 0] []).2 ⟨[(0, D.sl ((a0_).map Cond.c)), (1, D.sl ((a1_).map Cond.c)), (5, D.int .i64 (0))], []⟩) hΓ mix (by kernel_rfl) (ow (h1) ow0) (AW_st (by first | rfl | (simp only [List.map_append, List.map_cons, List.map_nil, List.map_set, List.map_replicate] <;> rfl)) (AW_of_r (d_laws_eqCondS_L1w hΓ (fun h => ?_) (by have := (Rdb.sl (hr _ (List.mem_of_getElem? (i := 0) rfl))).1; simpa using this) (a0_) 0  rfl h)))
    have h := den_some h
    subst h
    exact AW_go (n := 2000) [[none]] [] (.ret (D.bool (true))) hΓ mix (by kernel_rfl) ow0 rfl
def d_laws_eqAction (a0_ : Action) (a1_ : Action) : Option Bool := (bif (a0_.kind : Int) != (a1_.kind) then (some (false)) else ((d_laws_eqPattern (a0_.pat) (a1_.pat)).bind fun y2 => (bif !(y2) then (some (false)) else (some (true)))))
theorem d_laws_eqAction_good {a0_ : Action} {a1_ : Action} {r : Bool} (h : d_laws_eqAction a0_ a1_ = some r) : Good Tryd.prog 102 [D.agg (Action.c a0_), D.agg (Action.c a1_)] (D.bool (r)) := by
  refine Good.of (c := bodyOf Tryd.f102) Tryd.func102 rfl (by decide) (by simp [Tryd.f102]) ?_
  intro hr Γ hΓ
  have hΓ : Γ.nt = 16 := hΓ
  rw [d_laws_eqAction] at h
  refine (show AW Tryd.prog Γ (bodyOf Tryd.f102) (KQ Tryd.prog Γ (fun _ _ => False) (RetQ Tryd.prog Tryd.f102 (D.bool (r))) []) _ from ?_)
  rcases den_if h with ⟨h1, h⟩ | ⟨h1, h⟩
  · have h := den_some h
    subst h
    exact AW_go (n := 2000) [[none]] [.b true] (.ret (D.bool (false))) hΓ mix (by kernel_rfl) (ow (h1) ow0) rfl
  · obtain ⟨y2, h3, h⟩ := den_bind h
    rcases den_if h with ⟨h4, h⟩ | ⟨h4, h⟩
    · have h := den_some h
      subst h
      exact AW_go (n := 2000) [[none]] [.b false, .d (D.bool (y2)), .b true] (.ret (D.bool (false))) hΓ mix (by kernel_rfl) (ow (h1) (ow (d_laws_eqPattern_good h3) (ow (h4) ow0))) rfl
    · have h := den_some h
      subst h
      exact AW_go (n := 2000) [[none]] [.b false, .d (D.bool (y2)), .b false] (.ret (D.bool (true))) hΓ mix (by kernel_rfl) (ow (h1) (ow (d_laws_eqPattern_good h3) (ow (h4) ow0))) rfl
def d_laws_eqActionS_L1 (a0_ : List Action) (a1_ : List Action) (k1 : Option Bool) : List Action → Nat → Option Bool
  | [], i1 => (k1 )
  | x1_ :: xs1, i1 => ((atI (a1_) ((i1 : Int))).bind fun x30 => ((d_laws_eqAction (x1_) (x30)).bind fun y32 => (bif !(y32) then (some (false)) else (d_laws_eqActionS_L1 a0_ a1_ k1 xs1 (i1 + 1) ))))
def d_laws_eqActionS (a0_ : List Action) (a1_ : List Action) : Option Bool := (bif ((((a0_).map Action.c).length : Int) : Int) != ((((a1_).map Action.c).length : Int)) then (some (false)) else (d_laws_eqActionS_L1 a0_ a1_ (some (true)) (a0_) 0 ))
theorem d_laws_eqActionS_L1w {Γ : Ctx} (hΓ : Γ.nt = 27) {N : Nat → St → Prop} {a0_ : List Action} {a1_ : List Action} {r : Bool} {k1 : Option Bool} (hE1 : k1 = some r → AW Tryd.prog Γ (dig (bodyOf Tryd.f60) [1, 1, 1] []).1 (KQ Tryd.prog Γ N (RetQ Tryd.prog Tryd.f60 (D.bool (r))) (dig (bodyOf Tryd.f60) [1, 1, 1] []).2) ⟨[], []⟩) (hm1 : (a0_).length ≤ maxLen) : ∀ (rest : List Action) (i1 : Nat) , (a0_).drop i1 = rest → d_laws_eqActionS_L1 a0_ a1_ k1 rest i1  = some r → AWr Tryd.prog Γ (dig (bodyOf Tryd.f60) [1, 1, 0, 1, 0, 0] []).1 (KQ Tryd.prog Γ N (RetQ Tryd.prog Tryd.f60 (D.bool (r))) (dig (bodyOf Tryd.f60) [1, 1, 0, 1, 0] []).2) (rest.length + 1) ⟨[(0, D.sl ((a0_).map Action.c)), (1, D.sl ((a1_).map Action.c)), (5, D.int .i64 ((i1 : Int)))], []⟩ := by
  intro rest
  induction rest with
  | nil =>
    intro i1  hd1 h
    rw [d_laws_eqActionS_L1] at h
    refine AWr_succ fun N1 hN1 hS1 => ?_
    have t := AW_N (N := N) (N' := N1) (K0 := (dig (bodyOf Tryd.f60) [1, 1, 0, 1, 0] []).2) (by kernel_rfl) hN1 (hE1  h)
    refine AW_go (n := 2000) [[none]] [.b false, .hl 0 [] []] (.at_ (dig (bodyOf Tryd.f60) [1, 1, 1] []).1 (dig (bodyOf Tryd.f60) [1, 1, 1] []).2 ⟨[], []⟩) hΓ mix (by kernel_rfl) (ow ((ltm_false Action.c (drop_nil hd1))) ow0) ?_
    first | exact t | (simp only [List.map_append, List.map_cons, List.map_nil, List.map_set] at t ⊢; exact t)
  | cons x1_ xs1 ih1 =>
    intro i1  hd1 h
    rw [d_laws_eqActionS_L1] at h
    refine AWr_succ fun N1 hN1 hS1 => ?_
    obtain ⟨x30, h31, h⟩ := den_bind h
    obtain ⟨y32, h33, h⟩ := den_bind h
    rcases den_if h with ⟨h34, h⟩ | ⟨h34, h⟩
    · have h := den_some h
      subst h
      exact AW_go (n := 2000) [[none]] [.b true, .n 8, .row (Action.c x1_), .row (Action.c x30), .d (D.bool (y32)), .b true] (.ret (D.bool (false))) hΓ mix (by kernel_rfl) (ow ((ltm_true Action.c (drop_cons hd1).2.1)) (ow (map_row Action.c 3 (drop_cons hd1).1 rfl) (ow (at_row Action.c 3 h31 rfl) (ow (d_laws_eqAction_good h33) (ow (h34) ow0))))) rfl
    · have t := ih1 (i1 + 1)  (drop_cons hd1).2.2 h
      refine AW_go (n := 2000) [[none]] [.b true, .n 8, .row (Action.c x1_), .row (Action.c x30), .d (D.bool (y32)), .b false, .cn [0, 1, 5] []] (.cont 0 ⟨[(0, D.sl ((a0_).map Action.c)), (1, D.sl ((a1_).map Action.c)), (5, D.int .i64 (IntKind.i64.wrap (((i1 : Int)) + (1))))], []⟩) hΓ mix (by kernel_rfl) (ow ((ltm_true Action.c (drop_cons hd1).2.1)) (ow (map_row Action.c 3 (drop_cons hd1).1 rfl) (ow (at_row Action.c 3 h31 rfl) (ow (d_laws_eqAction_good h33) (ow (h34) ow0))))) ?_
      refine (congrFun hS1 _).mpr ?_
      rw [i64_succ (drop_cons hd1).2.1 hm1]
      first | exact t | (simp only [List.map_append, List.map_cons, List.map_nil, List.map_set] at t ⊢; exact t)
theorem d_laws_eqActionS_good {a0_ : List Action} {a1_ : List Action} {r : Bool} (h : d_laws_eqActionS a0_ a1_ = some r) : Good Tryd.prog 60 [D.sl ((a0_).map Action.c), D.sl ((a1_).map Action.c)] (D.bool (r)) := by
  refine Good.of (c := bodyOf Tryd.f60) Tryd.func60 rfl (by decide) (by simp [Tryd.f60]) ?_
  intro hr Γ hΓ
  have hΓ : Γ.nt = 27 := hΓ
  rw [d_laws_eqActionS] at h
  refine (show AW Tryd.prog Γ (bodyOf Tryd.f60) (KQ Tryd.prog Γ (fun _ _ => False) (RetQ Tryd.prog Tryd.f60 (D.bool (r))) []) _ from ?_)
  rcases den_if h with ⟨h1, h⟩ | ⟨h1, h⟩
  · have h := den_some h
    subst h
    exact AW_go (n := 2000) [[none]] [.b true] (.ret (D.bool (false))) hΓ mix (by kernel_rfl) (ow (h1) ow0) rfl
  · refine AW_go (n := 2000) [[none]] [.b false, .cn [0, 1, 5] []] (.lp (dig (bodyOf Tryd.f60) [1, 1, 0, 1, 0, 0] []).1 (dig (bodyOf Tryd.f60) [1, 1, 0, 1, 0] []).2 ⟨[(0, D.sl ((a0_).map Action.c)), (1, D.sl ((a1_).map Action.c)), (5, D.int .i64 (0))], []⟩) hΓ mix (by kernel_rfl) (ow (h1) ow0) (AW_st (by first | rfl | (simp only [List.map_append, List.map_cons, List.map_nil, List.map_set, List.map_replicate] <;> rfl)) (AW_of_r (d_laws_eqActionS_L1w hΓ (fun h => ?_) (by have := (Rdb.sl (hr _ (List.mem_of_getElem? (i := 0) rfl))).1; simpa using this) (a0_) 0  rfl h)))
    have h := den_some h
    subst h
    exact AW_go (n := 2000) [[none]] [] (.ret (D.bool (true))) hΓ mix (by kernel_rfl) ow0 rfl
def d_laws_eqRule (a0_ : Rule) (a1_ : Rule) : Option Bool := (bif !((a0_.name : Bytes) == (a1_.name)) then (some (false)) else (bif (a0_.prio : Int) != (a1_.prio) then (some (false)) else ((d_laws_eqCondS (a0_.conds) (a1_.conds)).bind fun y3 => (bif !(y3) then (some (false)) else ((d_laws_eqActionS (a0_.acts) (a1_.acts)).bind fun y6 => (bif !(y6) then (some (false)) else (some (true))))))))
theorem d_laws_eqRule_good {a0_ : Rule} {a1_ : Rule} {r : Bool} (h : d_laws_eqRule a0_ a1_ = some r) : Good Tryd.prog 21 [D.agg (Rule.c a0_), D.agg (Rule.c a1_)] (D.bool (r)) := by
  refine Good.of (c := bodyOf Tryd.f21) Tryd.func21 rfl (by decide) (by simp [Tryd.f21]) ?_
  intro hr Γ hΓ
  have hΓ : Γ.nt = 27 := hΓ
  rw [d_laws_eqRule] at h
  refine (show AW Tryd.prog Γ (bodyOf Tryd.f21) (KQ Tryd.prog Γ (fun _ _ => False) (RetQ Tryd.prog Tryd.f21 (D.bool (r))) []) _ from ?_)
  rcases den_if h with ⟨h1, h⟩ | ⟨h1, h⟩
  · have h := den_some h
    subst h
    exact AW_go (n := 2000) [[none]] [.b true] (.ret (D.bool (false))) hΓ mix (by kernel_rfl) (ow (h1) ow0) rfl
  · rcases den_if h with ⟨h2, h⟩ | ⟨h2, h⟩
    · have h := den_some h
      subst h
      exact AW_go (n := 2000) [[none]] [.b false, .b true] (.ret (D.bool (false))) hΓ mix (by kernel_rfl) (ow (h1) (ow (h2) ow0)) rfl
    · obtain ⟨y3, h4, h⟩ := den_bind h
      rcases den_if h with ⟨h5, h⟩ | ⟨h5, h⟩
      · have h := den_some h
        subst h
        exact AW_go (n := 2000) [[none]] [.b false, .b false, .d (D.bool (y3)), .b true] (.ret (D.bool (false))) hΓ mix (by kernel_rfl) (ow (h1) (ow (h2) (ow (d_laws_eqCondS_good h4) (ow (h5) ow0)))) rfl
      · obtain ⟨y6, h7, h⟩ := den_bind h
        rcases den_if h with ⟨h8, h⟩ | ⟨h8, h⟩
        · have h := den_some h
          subst h
          exact AW_go (n := 2000) [[none]] [.b false, .b false, .d (D.bool (y3)), .b false, .d (D.bool (y6)), .b true] (.ret (D.bool (false))) hΓ mix (by kernel_rfl) (ow (h1) (ow (h2) (ow (d_laws_eqCondS_good h4) (ow (h5) (ow (d_laws_eqActionS_good h7) (ow (h8) ow0)))))) rfl
        · have h := den_some h
          subst h
          exact AW_go (n := 2000) [[none]] [.b false, .b false, .d (D.bool (y3)), .b false, .d (D.bool (y6)), .b false] (.ret (D.bool (true))) hΓ mix (by kernel_rfl) (ow (h1) (ow (h2) (ow (d_laws_eqCondS_good h4) (ow (h5) (ow (d_laws_eqActionS_good h7) (ow (h8) ow0)))))) rfl
end Go.Cx
