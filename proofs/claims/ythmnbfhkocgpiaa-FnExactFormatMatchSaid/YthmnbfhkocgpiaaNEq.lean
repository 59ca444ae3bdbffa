/- What functions of the program compute, and the walks that show it. No condition. -/
import Derived.Test.YthmnbfhkocgpiaaNData
namespace Go.Cx
open Go.RowKit Go.Proofs
set_option linter.unusedVariables false
set_option linter.unusedSimpArgs false
set_option maxRecDepth 100000
def d_laws_eqStringS_L1 (a0_ : List Bytes) (a1_ : List Bytes) (k1 : Option Bool) : List Bytes → Nat → Option Bool
  | [], i1 => (k1 )
  | x1_ :: xs1, i1 => ((atI (a1_) ((i1 : Int))).bind fun x22 => (bif !((x1_ : Bytes) == (x22)) then (some (false)) else (d_laws_eqStringS_L1 a0_ a1_ k1 xs1 (i1 + 1) )))

def d_laws_eqStringS (a0_ : List Bytes) (a1_ : List Bytes) : Option Bool := (bif ((((a0_).map tx).length : Int) : Int) != ((((a1_).map tx).length : Int)) then (some (false)) else (d_laws_eqStringS_L1 a0_ a1_ (some (true)) (a0_) 0 ))
theorem d_laws_eqStringS_L1w {Γ : Ctx} (hΓ : Γ.nt = 26) {N : Nat → St → Prop} {a0_ : List Bytes} {a1_ : List Bytes} {r : Bool} {k1 : Option Bool} (hE1 : k1 = some r → AW Try.prog Γ (dig (bodyOf Try.f37) [1, 1, 1] []).1 (KQ Try.prog Γ N (RetQ Try.prog Try.f37 (D.bool (r))) (dig (bodyOf Try.f37) [1, 1, 1] []).2) ⟨[], []⟩) (hm1 : (a0_).length ≤ maxLen) : ∀ (rest : List Bytes) (i1 : Nat) , (a0_).drop i1 = rest → d_laws_eqStringS_L1 a0_ a1_ k1 rest i1  = some r → AWr Try.prog Γ (dig (bodyOf Try.f37) [1, 1, 0, 1, 0, 0] []).1 (KQ Try.prog Γ N (RetQ Try.prog Try.f37 (D.bool (r))) (dig (bodyOf Try.f37) [1, 1, 0, 1, 0] []).2) (rest.length + 1) ⟨[(0, D.sl ((a0_).map tx)), (1, D.sl ((a1_).map tx)), (5, D.int .i64 ((i1 : Int)))], []⟩ := by
  intro rest
  induction rest with
  | nil =>
    intro i1  hd1 h
    rw [d_laws_eqStringS_L1] at h
    refine AWr_succ fun N1 hN1 hS1 => ?_
    have t := AW_N (N := N) (N' := N1) (K0 := (dig (bodyOf Try.f37) [1, 1, 0, 1, 0] []).2) (by kernel_rfl) hN1 (hE1  h)
    refine AW_go (n := 2000) [[none]] [.b false, .hl 0 [] []] (.at_ (dig (bodyOf Try.f37) [1, 1, 1] []).1 (dig (bodyOf Try.f37) [1, 1, 1] []).2 ⟨[], []⟩) hΓ mix (by kernel_rfl) (ow ((ltm_false tx (drop_nil hd1))) ow0) ?_
    first | exact t | (simp only [List.map_append, List.map_cons, List.map_nil, List.map_set] at t ⊢; exact t)
  | cons x1_ xs1 ih1 =>
    intro i1  hd1 h
    rw [d_laws_eqStringS_L1] at h
    refine AWr_succ fun N1 hN1 hS1 => ?_
    obtain ⟨x22, h23, h⟩ := den_bind h
    rcases den_if h with ⟨h24, h⟩ | ⟨h24, h⟩
    · have h := den_some h
      subst h
      exact AW_go (n := 2000) [[none]] [.b true, .n 8, .row (tx x1_), .row (tx x22), .b true] (.ret (D.bool (false))) hΓ mix (by kernel_rfl) (ow ((ltm_true tx (drop_cons hd1).2.1)) (ow (map_row tx 1 (drop_cons hd1).1 rfl) (ow (at_row tx 1 h23 rfl) (ow (h24) ow0)))) rfl
    · have t := ih1 (i1 + 1)  (drop_cons hd1).2.2 h
      refine AW_go (n := 2000) [[none]] [.b true, .n 8, .row (tx x1_), .row (tx x22), .b false, .cn [0, 1, 5] []] (.cont 0 ⟨[(0, D.sl ((a0_).map tx)), (1, D.sl ((a1_).map tx)), (5, D.int .i64 (IntKind.i64.wrap (((i1 : Int)) + (1))))], []⟩) hΓ mix (by kernel_rfl) (ow ((ltm_true tx (drop_cons hd1).2.1)) (ow (map_row tx 1 (drop_cons hd1).1 rfl) (ow (at_row tx 1 h23 rfl) (ow (h24) ow0)))) ?_
      refine (congrFun hS1 _).mpr ?_
      rw [i64_succ (drop_cons hd1).2.1 hm1]
      first | exact t | (simp only [List.map_append, List.map_cons, List.map_nil, List.map_set] at t ⊢; exact t)

theorem d_laws_eqStringS_good {a0_ : List Bytes} {a1_ : List Bytes} {r : Bool} (h : d_laws_eqStringS a0_ a1_ = some r) : Good Try.prog 37 [D.sl ((a0_).map tx), D.sl ((a1_).map tx)] (D.bool (r)) := by
  refine Good.of (c := bodyOf Try.f37) Try.func37 rfl (by decide) (by simp [Try.f37]) ?_
  intro hr Γ hΓ
  have hΓ : Γ.nt = 26 := hΓ
  rw [d_laws_eqStringS] at h
  refine (show AW Try.prog Γ (bodyOf Try.f37) (KQ Try.prog Γ (fun _ _ => False) (RetQ Try.prog Try.f37 (D.bool (r))) []) _ from ?_)
  rcases den_if h with ⟨h1, h⟩ | ⟨h1, h⟩
  · have h := den_some h
    subst h
    exact AW_go (n := 2000) [[none]] [.b true] (.ret (D.bool (false))) hΓ mix (by kernel_rfl) (ow (h1) ow0) rfl
  · refine AW_go (n := 2000) [[none]] [.b false, .cn [0, 1, 5] []] (.lp (dig (bodyOf Try.f37) [1, 1, 0, 1, 0, 0] []).1 (dig (bodyOf Try.f37) [1, 1, 0, 1, 0] []).2 ⟨[(0, D.sl ((a0_).map tx)), (1, D.sl ((a1_).map tx)), (5, D.int .i64 (0))], []⟩) hΓ mix (by kernel_rfl) (ow (h1) ow0) (AW_st (by first | rfl | (simp only [List.map_append, List.map_cons, List.map_nil, List.map_set, List.map_replicate] <;> rfl)) (AW_of_r (d_laws_eqStringS_L1w hΓ (fun h => ?_) (by have := (Rdb.sl (hr _ (List.mem_of_getElem? (i := 0) rfl))).1; simpa using this) (a0_) 0  rfl h)))
    have h := den_some h
    subst h
    exact AW_go (n := 2000) [[none]] [] (.ret (D.bool (true))) hΓ mix (by kernel_rfl) ow0 rfl

def d_laws_eqFact (a0_ : Fact) (a1_ : Fact) : Option Bool := (bif !((a0_.rel : Bytes) == (a1_.rel)) then (some (false)) else ((d_laws_eqStringS (a0_.args) (a1_.args)).bind fun y2 => (bif !(y2) then (some (false)) else (some (true)))))
theorem d_laws_eqFact_good {a0_ : Fact} {a1_ : Fact} {r : Bool} (h : d_laws_eqFact a0_ a1_ = some r) : Good Try.prog 32 [D.agg (Fact.c a0_), D.agg (Fact.c a1_)] (D.bool (r)) := by
  refine Good.of (c := bodyOf Try.f32) Try.func32 rfl (by decide) (by simp [Try.f32]) ?_
  intro hr Γ hΓ
  have hΓ : Γ.nt = 16 := hΓ
  rw [d_laws_eqFact] at h
  refine (show AW Try.prog Γ (bodyOf Try.f32) (KQ Try.prog Γ (fun _ _ => False) (RetQ Try.prog Try.f32 (D.bool (r))) []) _ from ?_)
  rcases den_if h with ⟨h1, h⟩ | ⟨h1, h⟩
  · have h := den_some h
    subst h
    exact AW_go (n := 2000) [[none]] [.b true] (.ret (D.bool (false))) hΓ mix (by kernel_rfl) (ow (h1) ow0) rfl
  · obtain ⟨y2, h3, h⟩ := den_bind h
    rcases den_if h with ⟨h4, h⟩ | ⟨h4, h⟩
    · have h := den_some h
      subst h
      exact AW_go (n := 2000) [[none]] [.b false, .d (D.bool (y2)), .b true] (.ret (D.bool (false))) hΓ mix (by kernel_rfl) (ow (h1) (ow (d_laws_eqStringS_good h3) (ow (h4) ow0))) rfl
    · have h := den_some h
      subst h
      exact AW_go (n := 2000) [[none]] [.b false, .d (D.bool (y2)), .b false] (.ret (D.bool (true))) hΓ mix (by kernel_rfl) (ow (h1) (ow (d_laws_eqStringS_good h3) (ow (h4) ow0))) rfl

def d_laws_eqFactS_L1 (a0_ : List Fact) (a1_ : List Fact) (k1 : Option Bool) : List Fact → Nat → Option Bool
  | [], i1 => (k1 )
  | x1_ :: xs1, i1 => ((atI (a1_) ((i1 : Int))).bind fun x30 => ((d_laws_eqFact (x1_) (x30)).bind fun y32 => (bif !(y32) then (some (false)) else (d_laws_eqFactS_L1 a0_ a1_ k1 xs1 (i1 + 1) ))))

def d_laws_eqFactS (a0_ : List Fact) (a1_ : List Fact) : Option Bool := (bif ((((a0_).map Fact.c).length : Int) : Int) != ((((a1_).map Fact.c).length : Int)) then (some (false)) else (d_laws_eqFactS_L1 a0_ a1_ (some (true)) (a0_) 0 ))
theorem d_laws_eqFactS_L1w {Γ : Ctx} (hΓ : Γ.nt = 27) {N : Nat → St → Prop} {a0_ : List Fact} {a1_ : List Fact} {r : Bool} {k1 : Option Bool} (hE1 : k1 = some r → AW Try.prog Γ (dig (bodyOf Try.f17) [1, 1, 1] []).1 (KQ Try.prog Γ N (RetQ Try.prog Try.f17 (D.bool (r))) (dig (bodyOf Try.f17) [1, 1, 1] []).2) ⟨[], []⟩) (hm1 : (a0_).length ≤ maxLen) : ∀ (rest : List Fact) (i1 : Nat) , (a0_).drop i1 = rest → d_laws_eqFactS_L1 a0_ a1_ k1 rest i1  = some r → AWr Try.prog Γ (dig (bodyOf Try.f17) [1, 1, 0, 1, 0, 0] []).1 (KQ Try.prog Γ N (RetQ Try.prog Try.f17 (D.bool (r))) (dig (bodyOf Try.f17) [1, 1, 0, 1, 0] []).2) (rest.length + 1) ⟨[(0, D.sl ((a0_).map Fact.c)), (1, D.sl ((a1_).map Fact.c)), (5, D.int .i64 ((i1 : Int)))], []⟩ := by
  intro rest
  induction rest with
  | nil =>
    intro i1  hd1 h
    rw [d_laws_eqFactS_L1] at h
    refine AWr_succ fun N1 hN1 hS1 => ?_
    have t := AW_N (N := N) (N' := N1) (K0 := (dig (bodyOf Try.f17) [1, 1, 0, 1, 0] []).2) (by kernel_rfl) hN1 (hE1  h)
    refine AW_go (n := 2000) [[none]] [.b false, .hl 0 [] []] (.at_ (dig (bodyOf Try.f17) [1, 1, 1] []).1 (dig (bodyOf Try.f17) [1, 1, 1] []).2 ⟨[], []⟩) hΓ mix (by kernel_rfl) (ow ((ltm_false Fact.c (drop_nil hd1))) ow0) ?_
    first | exact t | (simp only [List.map_append, List.map_cons, List.map_nil, List.map_set] at t ⊢; exact t)
  | cons x1_ xs1 ih1 =>
    intro i1  hd1 h
    rw [d_laws_eqFactS_L1] at h
    refine AWr_succ fun N1 hN1 hS1 => ?_
    obtain ⟨x30, h31, h⟩ := den_bind h
    obtain ⟨y32, h33, h⟩ := den_bind h
    rcases den_if h with ⟨h34, h⟩ | ⟨h34, h⟩
    · have h := den_some h
      subst h
      exact AW_go (n := 2000) [[none]] [.b true, .n 8, .row (Fact.c x1_), .row (Fact.c x30), .d (D.bool (y32)), .b true] (.ret (D.bool (false))) hΓ mix (by kernel_rfl) (ow ((ltm_true Fact.c (drop_cons hd1).2.1)) (ow (map_row Fact.c 2 (drop_cons hd1).1 rfl) (ow (at_row Fact.c 2 h31 rfl) (ow (d_laws_eqFact_good h33) (ow (h34) ow0))))) rfl
    · have t := ih1 (i1 + 1)  (drop_cons hd1).2.2 h
      refine AW_go (n := 2000) [[none]] [.b true, .n 8, .row (Fact.c x1_), .row (Fact.c x30), .d (D.bool (y32)), .b false, .cn [0, 1, 5] []] (.cont 0 ⟨[(0, D.sl ((a0_).map Fact.c)), (1, D.sl ((a1_).map Fact.c)), (5, D.int .i64 (IntKind.i64.wrap (((i1 : Int)) + (1))))], []⟩) hΓ mix (by kernel_rfl) (ow ((ltm_true Fact.c (drop_cons hd1).2.1)) (ow (map_row Fact.c 2 (drop_cons hd1).1 rfl) (ow (at_row Fact.c 2 h31 rfl) (ow (d_laws_eqFact_good h33) (ow (h34) ow0))))) ?_
      refine (congrFun hS1 _).mpr ?_
      rw [i64_succ (drop_cons hd1).2.1 hm1]
      first | exact t | (simp only [List.map_append, List.map_cons, List.map_nil, List.map_set] at t ⊢; exact t)

theorem d_laws_eqFactS_good {a0_ : List Fact} {a1_ : List Fact} {r : Bool} (h : d_laws_eqFactS a0_ a1_ = some r) : Good Try.prog 17 [D.sl ((a0_).map Fact.c), D.sl ((a1_).map Fact.c)] (D.bool (r)) := by
  refine Good.of (c := bodyOf Try.f17) Try.func17 rfl (by decide) (by simp [Try.f17]) ?_
  intro hr Γ hΓ
  have hΓ : Γ.nt = 27 := hΓ
  rw [d_laws_eqFactS] at h
  refine (show AW Try.prog Γ (bodyOf Try.f17) (KQ Try.prog Γ (fun _ _ => False) (RetQ Try.prog Try.f17 (D.bool (r))) []) _ from ?_)
  rcases den_if h with ⟨h1, h⟩ | ⟨h1, h⟩
  · have h := den_some h
    subst h
    exact AW_go (n := 2000) [[none]] [.b true] (.ret (D.bool (false))) hΓ mix (by kernel_rfl) (ow (h1) ow0) rfl
  · refine AW_go (n := 2000) [[none]] [.b false, .cn [0, 1, 5] []] (.lp (dig (bodyOf Try.f17) [1, 1, 0, 1, 0, 0] []).1 (dig (bodyOf Try.f17) [1, 1, 0, 1, 0] []).2 ⟨[(0, D.sl ((a0_).map Fact.c)), (1, D.sl ((a1_).map Fact.c)), (5, D.int .i64 (0))], []⟩) hΓ mix (by kernel_rfl) (ow (h1) ow0) (AW_st (by first | rfl | (simp only [List.map_append, List.map_cons, List.map_nil, List.map_set, List.map_replicate] <;> rfl)) (AW_of_r (d_laws_eqFactS_L1w hΓ (fun h => ?_) (by have := (Rdb.sl (hr _ (List.mem_of_getElem? (i := 0) rfl))).1; simpa using this) (a0_) 0  rfl h)))
    have h := den_some h
    subst h
    exact AW_go (n := 2000) [[none]] [] (.ret (D.bool (true))) hΓ mix (by kernel_rfl) ow0 rfl

def d_laws_eqPair (a0_ : Pair) (a1_ : Pair) : Option Bool := (bif !((a0_.var : Bytes) == (a1_.var)) then (some (false)) else (bif !((a0_.value : Bytes) == (a1_.value)) then (some (false)) else (some (true))))
theorem d_laws_eqPair_good {a0_ : Pair} {a1_ : Pair} {r : Bool} (h : d_laws_eqPair a0_ a1_ = some r) : Good Try.prog 33 [D.agg (Pair.c a0_), D.agg (Pair.c a1_)] (D.bool (r)) := by
  refine Good.of (c := bodyOf Try.f33) Try.func33 rfl (by decide) (by simp [Try.f33]) ?_
  intro hr Γ hΓ
  have hΓ : Γ.nt = 15 := hΓ
  rw [d_laws_eqPair] at h
  refine (show AW Try.prog Γ (bodyOf Try.f33) (KQ Try.prog Γ (fun _ _ => False) (RetQ Try.prog Try.f33 (D.bool (r))) []) _ from ?_)
  rcases den_if h with ⟨h1, h⟩ | ⟨h1, h⟩
  · have h := den_some h
    subst h
    exact AW_go (n := 2000) [[none]] [.b true] (.ret (D.bool (false))) hΓ mix (by kernel_rfl) (ow (h1) ow0) rfl
  · rcases den_if h with ⟨h2, h⟩ | ⟨h2, h⟩
    · have h := den_some h
      subst h
      exact AW_go (n := 2000) [[none]] [.b false, .b true] (.ret (D.bool (false))) hΓ mix (by kernel_rfl) (ow (h1) (ow (h2) ow0)) rfl
    · have h := den_some h
      subst h
      exact AW_go (n := 2000) [[none]] [.b false, .b false] (.ret (D.bool (true))) hΓ mix (by kernel_rfl) (ow (h1) (ow (h2) ow0)) rfl

def d_laws_eqPairS_L1 (a0_ : List Pair) (a1_ : List Pair) (k1 : Option Bool) : List Pair → Nat → Option Bool
  | [], i1 => (k1 )
  | x1_ :: xs1, i1 => ((atI (a1_) ((i1 : Int))).bind fun x30 => ((d_laws_eqPair (x1_) (x30)).bind fun y32 => (bif !(y32) then (some (false)) else (d_laws_eqPairS_L1 a0_ a1_ k1 xs1 (i1 + 1) ))))

def d_laws_eqPairS (a0_ : List Pair) (a1_ : List Pair) : Option Bool := (bif ((((a0_).map Pair.c).length : Int) : Int) != ((((a1_).map Pair.c).length : Int)) then (some (false)) else (d_laws_eqPairS_L1 a0_ a1_ (some (true)) (a0_) 0 ))
theorem d_laws_eqPairS_L1w {Γ : Ctx} (hΓ : Γ.nt = 27) {N : Nat → St → Prop} {a0_ : List Pair} {a1_ : List Pair} {r : Bool} {k1 : Option Bool} (hE1 : k1 = some r → AW Try.prog Γ (dig (bodyOf Try.f18) [1, 1, 1] []).1 (KQ Try.prog Γ N (RetQ Try.prog Try.f18 (D.bool (r))) (dig (bodyOf Try.f18) [1, 1, 1] []).2) ⟨[], []⟩) (hm1 : (a0_).length ≤ maxLen) : ∀ (rest : List Pair) (i1 : Nat) , (a0_).drop i1 = rest → d_laws_eqPairS_L1 a0_ a1_ k1 rest i1  = some r → AWr Try.prog Γ (dig (bodyOf Try.f18) [1, 1, 0, 1, 0, 0] []).1 (KQ Try.prog Γ N (RetQ Try.prog Try.f18 (D.bool (r))) (dig (bodyOf Try.f18) [1, 1, 0, 1, 0] []).2) (rest.length + 1) ⟨[(0, D.sl ((a0_).map Pair.c)), (1, D.sl ((a1_).map Pair.c)), (5, D.int .i64 ((i1 : Int)))], []⟩ := by
  intro rest
  induction rest with
  | nil =>
    intro i1  hd1 h
    rw [d_laws_eqPairS_L1] at h
    refine AWr_succ fun N1 hN1 hS1 => ?_
    have t := AW_N (N := N) (N' := N1) (K0 := (dig (bodyOf Try.f18) [1, 1, 0, 1, 0] []).2) (by kernel_rfl) hN1 (hE1  h)
    refine AW_go (n := 2000) [[none]] [.b false, .hl 0 [] []] (.at_ (dig (bodyOf Try.f18) [1, 1, 1] []).1 (dig (bodyOf Try.f18) [1, 1, 1] []).2 ⟨[], []⟩) hΓ mix (by kernel_rfl) (ow ((ltm_false Pair.c (drop_nil hd1))) ow0) ?_
    first | exact t | (simp only [List.map_append, List.map_cons, List.map_nil, List.map_set] at t ⊢; exact t)
  | cons x1_ xs1 ih1 =>
    intro i1  hd1 h
    rw [d_laws_eqPairS_L1] at h
    refine AWr_succ fun N1 hN1 hS1 => ?_
    obtain ⟨x30, h31, h⟩ := den_bind h
    obtain ⟨y32, h33, h⟩ := den_bind h
    rcases den_if h with ⟨h34, h⟩ | ⟨h34, h⟩
    · have h := den_some h
      subst h
      exact AW_go (n := 2000) [[none]] [.b true, .n 8, .row (Pair.c x1_), .row (Pair.c x30), .d (D.bool (y32)), .b true] (.ret (D.bool (false))) hΓ mix (by kernel_rfl) (ow ((ltm_true Pair.c (drop_cons hd1).2.1)) (ow (map_row Pair.c 2 (drop_cons hd1).1 rfl) (ow (at_row Pair.c 2 h31 rfl) (ow (d_laws_eqPair_good h33) (ow (h34) ow0))))) rfl
    · have t := ih1 (i1 + 1)  (drop_cons hd1).2.2 h
      refine AW_go (n := 2000) [[none]] [.b true, .n 8, .row (Pair.c x1_), .row (Pair.c x30), .d (D.bool (y32)), .b false, .cn [0, 1, 5] []] (.cont 0 ⟨[(0, D.sl ((a0_).map Pair.c)), (1, D.sl ((a1_).map Pair.c)), (5, D.int .i64 (IntKind.i64.wrap (((i1 : Int)) + (1))))], []⟩) hΓ mix (by kernel_rfl) (ow ((ltm_true Pair.c (drop_cons hd1).2.1)) (ow (map_row Pair.c 2 (drop_cons hd1).1 rfl) (ow (at_row Pair.c 2 h31 rfl) (ow (d_laws_eqPair_good h33) (ow (h34) ow0))))) ?_
      refine (congrFun hS1 _).mpr ?_
      rw [i64_succ (drop_cons hd1).2.1 hm1]
      first | exact t | (simp only [List.map_append, List.map_cons, List.map_nil, List.map_set] at t ⊢; exact t)

theorem d_laws_eqPairS_good {a0_ : List Pair} {a1_ : List Pair} {r : Bool} (h : d_laws_eqPairS a0_ a1_ = some r) : Good Try.prog 18 [D.sl ((a0_).map Pair.c), D.sl ((a1_).map Pair.c)] (D.bool (r)) := by
  refine Good.of (c := bodyOf Try.f18) Try.func18 rfl (by decide) (by simp [Try.f18]) ?_
  intro hr Γ hΓ
  have hΓ : Γ.nt = 27 := hΓ
  rw [d_laws_eqPairS] at h
  refine (show AW Try.prog Γ (bodyOf Try.f18) (KQ Try.prog Γ (fun _ _ => False) (RetQ Try.prog Try.f18 (D.bool (r))) []) _ from ?_)
  rcases den_if h with ⟨h1, h⟩ | ⟨h1, h⟩
  · have h := den_some h
    subst h
    exact AW_go (n := 2000) [[none]] [.b true] (.ret (D.bool (false))) hΓ mix (by kernel_rfl) (ow (h1) ow0) rfl
  · refine AW_go (n := 2000) [[none]] [.b false, .cn [0, 1, 5] []] (.lp (dig (bodyOf Try.f18) [1, 1, 0, 1, 0, 0] []).1 (dig (bodyOf Try.f18) [1, 1, 0, 1, 0] []).2 ⟨[(0, D.sl ((a0_).map Pair.c)), (1, D.sl ((a1_).map Pair.c)), (5, D.int .i64 (0))], []⟩) hΓ mix (by kernel_rfl) (ow (h1) ow0) (AW_st (by first | rfl | (simp only [List.map_append, List.map_cons, List.map_nil, List.map_set, List.map_replicate] <;> rfl)) (AW_of_r (d_laws_eqPairS_L1w hΓ (fun h => ?_) (by have := (Rdb.sl (hr _ (List.mem_of_getElem? (i := 0) rfl))).1; simpa using this) (a0_) 0  rfl h)))
    have h := den_some h
    subst h
    exact AW_go (n := 2000) [[none]] [] (.ret (D.bool (true))) hΓ mix (by kernel_rfl) ow0 rfl

def d_laws_eqMatch (a0_ : Match) (a1_ : Match) : Option Bool := (bif !((a0_.rule : Bytes) == (a1_.rule)) then (some (false)) else ((d_laws_eqFactS (a0_.facts) (a1_.facts)).bind fun y2 => (bif !(y2) then (some (false)) else ((d_laws_eqPairS (a0_.bind) (a1_.bind)).bind fun y5 => (bif !(y5) then (some (false)) else (some (true)))))))
theorem d_laws_eqMatch_good {a0_ : Match} {a1_ : Match} {r : Bool} (h : d_laws_eqMatch a0_ a1_ = some r) : Good Try.prog 8 [D.agg (Match.c a0_), D.agg (Match.c a1_)] (D.bool (r)) := by
  refine Good.of (c := bodyOf Try.f8) Try.func8 rfl (by decide) (by simp [Try.f8]) ?_
  intro hr Γ hΓ
  have hΓ : Γ.nt = 22 := hΓ
  rw [d_laws_eqMatch] at h
  refine (show AW Try.prog Γ (bodyOf Try.f8) (KQ Try.prog Γ (fun _ _ => False) (RetQ Try.prog Try.f8 (D.bool (r))) []) _ from ?_)
  rcases den_if h with ⟨h1, h⟩ | ⟨h1, h⟩
  · have h := den_some h
    subst h
    exact AW_go (n := 2000) [[none]] [.b true] (.ret (D.bool (false))) hΓ mix (by kernel_rfl) (ow (h1) ow0) rfl
  · obtain ⟨y2, h3, h⟩ := den_bind h
    rcases den_if h with ⟨h4, h⟩ | ⟨h4, h⟩
    · have h := den_some h
      subst h
      exact AW_go (n := 2000) [[none]] [.b false, .d (D.bool (y2)), .b true] (.ret (D.bool (false))) hΓ mix (by kernel_rfl) (ow (h1) (ow (d_laws_eqFactS_good h3) (ow (h4) ow0))) rfl
    · obtain ⟨y5, h6, h⟩ := den_bind h
      rcases den_if h with ⟨h7, h⟩ | ⟨h7, h⟩
      · have h := den_some h
        subst h
        exact AW_go (n := 2000) [[none]] [.b false, .d (D.bool (y2)), .b false, .d (D.bool (y5)), .b true] (.ret (D.bool (false))) hΓ mix (by kernel_rfl) (ow (h1) (ow (d_laws_eqFactS_good h3) (ow (h4) (ow (d_laws_eqPairS_good h6) (ow (h7) ow0))))) rfl
      · have h := den_some h
        subst h
        exact AW_go (n := 2000) [[none]] [.b false, .d (D.bool (y2)), .b false, .d (D.bool (y5)), .b false] (.ret (D.bool (true))) hΓ mix (by kernel_rfl) (ow (h1) (ow (d_laws_eqFactS_good h3) (ow (h4) (ow (d_laws_eqPairS_good h6) (ow (h7) ow0))))) rfl

end Go.Cx
