/- What functions of the program compute, and the walks that show it. No condition. -/
import Derived.Test.YtocmmccbfnhfpaaNLay
namespace Go.Cx
open Go.RowKit Go.Proofs
set_option linter.unusedVariables false
set_option linter.unusedSimpArgs false
set_option maxRecDepth 100000
def d_spec_l1SameTexts_L1 (a0_ : List Bytes) (a1_ : List Bytes) (k1 : Option Bool) : List Bytes → Nat → Option Bool
  | [], i1 => (k1 )
  | x1_ :: xs1, i1 => ((atI (a1_) ((i1 : Int))).bind fun x22 => (bif !((x1_ : Bytes) == (x22)) then (some (false)) else (d_spec_l1SameTexts_L1 a0_ a1_ k1 xs1 (i1 + 1) )))
def d_spec_l1SameTexts (a0_ : List Bytes) (a1_ : List Bytes) : Option Bool := (bif ((((a0_).map tx).length : Int) : Int) != ((((a1_).map tx).length : Int)) then (some (false)) else (d_spec_l1SameTexts_L1 a0_ a1_ (some (true)) (a0_) 0 ))
theorem d_spec_l1SameTexts_L1w {Γ : Ctx} (hΓ : Γ.nt = 26) {N : Nat → St → Prop} {a0_ : List Bytes} {a1_ : List Bytes} {r : Bool} {k1 : Option Bool} (hE1 : k1 = some r → AW Try.prog Γ (dig (bodyOf Try.f174) [1, 1, 1] []).1 (KQ Try.prog Γ N (RetQ Try.prog Try.f174 (D.bool (r))) (dig (bodyOf Try.f174) [1, 1, 1] []).2) ⟨[], []⟩) (hm1 : (a0_).length ≤ maxLen) : ∀ (rest : List Bytes) (i1 : Nat) , (a0_).drop i1 = rest → d_spec_l1SameTexts_L1 a0_ a1_ k1 rest i1  = some r → AWr Try.prog Γ (dig (bodyOf Try.f174) [1, 1, 0, 1, 0, 0] []).1 (KQ Try.prog Γ N (RetQ Try.prog Try.f174 (D.bool (r))) (dig (bodyOf Try.f174) [1, 1, 0, 1, 0] []).2) (rest.length + 1) ⟨[(0, D.sl ((a0_).map tx)), (1, D.sl ((a1_).map tx)), (5, D.int .i64 ((i1 : Int)))], []⟩ := by
  intro rest
  induction rest with
  | nil =>
    intro i1  hd1 h
    rw [d_spec_l1SameTexts_L1] at h
    refine AWr_succ fun N1 hN1 hS1 => ?_
    have t := AW_N (N := N) (N' := N1) (K0 := (dig (bodyOf Try.f174) [1, 1, 0, 1, 0] []).2) (by kernel_rfl) hN1 (hE1  h)
    refine AW_go (n := 2000) [[none]] [.b false, .hl 0 [] []] (.at_ (dig (bodyOf Try.f174) [1, 1, 1] []).1 (dig (bodyOf Try.f174) [1, 1, 1] []).2 ⟨[], []⟩) hΓ mix (by kernel_rfl) (ow ((ltm_false tx (drop_nil hd1))) ow0) ?_
    first | exact t | (simp only [List.map_append, List.map_cons, List.map_nil, List.map_set] at t ⊢; exact t)
  | cons x1_ xs1 ih1 =>
    intro i1  hd1 h
    rw [d_spec_l1SameTexts_L1] at h
    refine AWr_succ fun N1 hN1 hS1 => ?_
    obtain ⟨x22, h23, h⟩ := den_bind h
    rcases den_if h with ⟨h24, h⟩ | ⟨h24, h⟩
    · have h := den_some h
      subst h
      exact AW_go (n := 2000) [[none]] [.b true, .n 8, .row (tx x1_), .row (tx x22), .b true] (.ret (D.bool (false))) hΓ mix (by kernel_rfl) (ow ((ltm_true tx (drop_cons hd1).2.1)) (ow (map_row tx 1 (drop_cons hd1).1 rfl) (ow (at_row tx 1 h23 rfl) (ow (h24) ow0)))) rfl
    · have t := ih1 (i1 + 1)  (drop_cons hd1).2.2 h
      refine AW_go (n := 2000) [[none]] [.b true, .n 8, .row (tx x1_), .row (tx x22), .b false, .cn [0, 1, 5] []] (.cont 0 ⟨[(0, D.sl ((a0_).map tx)), (1, D.sl ((a1_).map tx)), (5, D.int .i64 (IntKind.i64.wrap (((i1 : Int)) + (1))))], []⟩) hΓ mix (by kernel_rfl) (ow ((ltm_true tx (drop_cons hd1).2.1)) (ow (map_row tx 1 (drop_cons hd1).1 rfl) (ow (at_row tx 1 h23 rfl) (ow (h24) ow0)))) ?_
      refine (congrFun hS1 _).mpr ?_
      rw [i64_succ (drop_cons hd1).2.1 hm1]
      first | exact t | (simp only [List.map_append, List.map_cons, List.map_nil, List.map_set] at t ⊢; exact t)
theorem d_spec_l1SameTexts_good {a0_ : List Bytes} {a1_ : List Bytes} {r : Bool} (h : d_spec_l1SameTexts a0_ a1_ = some r) : Good Try.prog 174 [D.sl ((a0_).map tx), D.sl ((a1_).map tx)] (D.bool (r)) := by
  refine Good.of (c := bodyOf Try.f174) Try.func174 rfl (by decide) (by simp [Try.f174]) ?_
  intro hr Γ hΓ
  have hΓ : Γ.nt = 26 := hΓ
  rw [d_spec_l1SameTexts] at h
  refine (show AW Try.prog Γ (bodyOf Try.f174) (KQ Try.prog Γ (fun _ _ => False) (RetQ Try.prog Try.f174 (D.bool (r))) []) _ from ?_)
  rcases den_if h with ⟨h1, h⟩ | ⟨h1, h⟩
  · have h := den_some h
    subst h
    exact AW_go (n := 2000) [[none]] [.b true] (.ret (D.bool (false))) hΓ mix (by kernel_rfl) (ow (h1) ow0) rfl
  · refine AW_go (n := 2000) [[none]] [.b false, .cn [0, 1, 5] []] (.lp (dig (bodyOf Try.f174) [1, 1, 0, 1, 0, 0] []).1 (dig (bodyOf Try.f174) [1, 1, 0, 1, 0] []).2 ⟨[(0, D.sl ((a0_).map tx)), (1, D.sl ((a1_).map tx)), (5, D.int .i64 (0))], []⟩) hΓ mix (by kernel_rfl) (ow (h1) ow0) (AW_st (by first | rfl | (simp only [List.map_append, List.map_cons, List.map_nil, List.map_set, List.map_replicate] <;> rfl)) (AW_of_r (d_spec_l1SameTexts_L1w hΓ (fun h => ?_) (by have := (Rdb.sl (hr _ (List.mem_of_getElem? (i := 0) rfl))).1; simpa using this) (a0_) 0  rfl h)))
    have h := den_some h
    subst h
    exact AW_go (n := 2000) [[none]] [] (.ret (D.bool (true))) hΓ mix (by kernel_rfl) ow0 rfl
def d_spec_l2Same (a0_ : Fact) (a1_ : Fact) : Option Bool := (bif (a0_.rel : Bytes) == (a1_.rel) then ((d_spec_l1SameTexts (a0_.args) (a1_.args)).bind fun y2 => (some (y2))) else (some (false)))
theorem d_spec_l2Same_good {a0_ : Fact} {a1_ : Fact} {r : Bool} (h : d_spec_l2Same a0_ a1_ = some r) : Good Try.prog 136 [D.agg (Fact.c a0_), D.agg (Fact.c a1_)] (D.bool (r)) := by
  refine Good.of (c := bodyOf Try.f136) Try.func136 rfl (by decide) (by simp [Try.f136]) ?_
  intro hr Γ hΓ
  have hΓ : Γ.nt = 17 := hΓ
  rw [d_spec_l2Same] at h
  refine (show AW Try.prog Γ (bodyOf Try.f136) (KQ Try.prog Γ (fun _ _ => False) (RetQ Try.prog Try.f136 (D.bool (r))) []) _ from ?_)
  rcases den_if h with ⟨h1, h⟩ | ⟨h1, h⟩
  · obtain ⟨y2, h3, h⟩ := den_bind h
    have h := den_some h
    subst h
    exact AW_go (n := 2000) [[none]] [.b true, .b true, .b true, .b true, .b true, .d (D.bool (y2)), .b true] (.ret (D.bool (y2))) hΓ mix (by kernel_rfl) (ow (h1) (ow (h1) (ow (h1) (ow (h1) (ow (h1) (ow (d_spec_l1SameTexts_good h3) (ow (h1) ow0))))))) rfl
  · have h := den_some h
    subst h
    exact AW_go (n := 2000) [[none]] [.b false, .b false, .b false, .b false, .b false, .b false] (.ret (D.bool (false))) hΓ mix (by kernel_rfl) (ow (h1) (ow (h1) (ow (h1) (ow (h1) (ow (h1) (ow (h1) ow0)))))) rfl
def d_spec_TimeOf_L1 (a0_ : List Stamp) (a1_ : Fact) (k1 : Option Int) : List Stamp → Nat → Option Int
  | [], i1 => (k1 )
  | x1_ :: xs1, i1 => ((d_spec_l2Same (x1_.fact) (a1_)).bind fun y21 => (bif y21 then (some (x1_.time)) else (d_spec_TimeOf_L1 a0_ a1_ k1 xs1 (i1 + 1) )))
def d_spec_TimeOf (a0_ : List Stamp) (a1_ : Fact) : Option Int := (d_spec_TimeOf_L1 a0_ a1_ (some (0)) (a0_) 0 )
theorem d_spec_TimeOf_L1w {Γ : Ctx} (hΓ : Γ.nt = 24) {N : Nat → St → Prop} {a0_ : List Stamp} {a1_ : Fact} {r : Int} {k1 : Option Int} (hE1 : k1 = some r → AW Try.prog Γ (dig (bodyOf Try.f77) [1, 1] []).1 (KQ Try.prog Γ N (RetQ Try.prog Try.f77 (D.int .i64 (r))) (dig (bodyOf Try.f77) [1, 1] []).2) ⟨[], []⟩) (hm1 : (a0_).length ≤ maxLen) : ∀ (rest : List Stamp) (i1 : Nat) , (a0_).drop i1 = rest → d_spec_TimeOf_L1 a0_ a1_ k1 rest i1  = some r → AWr Try.prog Γ (dig (bodyOf Try.f77) [1, 0, 1, 0, 0] []).1 (KQ Try.prog Γ N (RetQ Try.prog Try.f77 (D.int .i64 (r))) (dig (bodyOf Try.f77) [1, 0, 1, 0] []).2) (rest.length + 1) ⟨[(0, D.sl ((a0_).map Stamp.c)), (3, D.ptr 0 0), (5, D.int .i64 ((i1 : Int)))], [Ob.box (Fact.c a1_)]⟩ := by
  intro rest
  induction rest with
  | nil =>
    intro i1  hd1 h
    rw [d_spec_TimeOf_L1] at h
    refine AWr_succ fun N1 hN1 hS1 => ?_
    have t := AW_N (N := N) (N' := N1) (K0 := (dig (bodyOf Try.f77) [1, 0, 1, 0] []).2) (by kernel_rfl) hN1 (hE1  h)
    refine AW_go (n := 2000) [[none]] [.b false, .hl 0 [] []] (.at_ (dig (bodyOf Try.f77) [1, 1] []).1 (dig (bodyOf Try.f77) [1, 1] []).2 ⟨[], []⟩) hΓ mix (by kernel_rfl) (ow ((ltm_false Stamp.c (drop_nil hd1))) ow0) ?_
    first | exact t | (simp only [List.map_append, List.map_cons, List.map_nil, List.map_set] at t ⊢; exact t)
  | cons x1_ xs1 ih1 =>
    intro i1  hd1 h
    rw [d_spec_TimeOf_L1] at h
    refine AWr_succ fun N1 hN1 hS1 => ?_
    obtain ⟨y21, h22, h⟩ := den_bind h
    rcases den_if h with ⟨h23, h⟩ | ⟨h23, h⟩
    · have h := den_some h
      subst h
      exact AW_go (n := 2000) [[none]] [.b true, .n 6, .row (Stamp.c x1_), .d (D.bool (y21)), .b true, .row (Stamp.c x1_)] (.ret (D.int .i64 (x1_.time))) hΓ mix (by kernel_rfl) (ow ((ltm_true Stamp.c (drop_cons hd1).2.1)) (ow (map_row Stamp.c 3 (drop_cons hd1).1 rfl) (ow (d_spec_l2Same_good h22) (ow (h23) (ow (map_row Stamp.c 3 (drop_cons hd1).1 rfl) ow0))))) rfl
    · have t := ih1 (i1 + 1)  (drop_cons hd1).2.2 h
      refine AW_go (n := 2000) [[none]] [.b true, .n 6, .row (Stamp.c x1_), .d (D.bool (y21)), .b false, .cn [0, 3, 5] [0]] (.cont 0 ⟨[(0, D.sl ((a0_).map Stamp.c)), (3, D.ptr 0 0), (5, D.int .i64 (IntKind.i64.wrap (((i1 : Int)) + (1))))], [Ob.box (Fact.c a1_)]⟩) hΓ mix (by kernel_rfl) (ow ((ltm_true Stamp.c (drop_cons hd1).2.1)) (ow (map_row Stamp.c 3 (drop_cons hd1).1 rfl) (ow (d_spec_l2Same_good h22) (ow (h23) ow0)))) ?_
      refine (congrFun hS1 _).mpr ?_
      rw [i64_succ (drop_cons hd1).2.1 hm1]
      first | exact t | (simp only [List.map_append, List.map_cons, List.map_nil, List.map_set] at t ⊢; exact t)
theorem d_spec_TimeOf_good {a0_ : List Stamp} {a1_ : Fact} {r : Int} (h : d_spec_TimeOf a0_ a1_ = some r) : Good Try.prog 77 [D.sl ((a0_).map Stamp.c), D.agg (Fact.c a1_)] (D.int .i64 (r)) := by
  refine Good.of (c := bodyOf Try.f77) Try.func77 rfl (by decide) (by simp [Try.f77]) ?_
  intro hr Γ hΓ
  have hΓ : Γ.nt = 24 := hΓ
  rw [d_spec_TimeOf] at h
  refine (show AW Try.prog Γ (bodyOf Try.f77) (KQ Try.prog Γ (fun _ _ => False) (RetQ Try.prog Try.f77 (D.int .i64 (r))) []) _ from ?_)
  refine AW_go (n := 2000) [[none]] [.cn [0, 3, 5] [0]] (.lp (dig (bodyOf Try.f77) [1, 0, 1, 0, 0] []).1 (dig (bodyOf Try.f77) [1, 0, 1, 0] []).2 ⟨[(0, D.sl ((a0_).map Stamp.c)), (3, D.ptr 0 0), (5, D.int .i64 (0))], [Ob.box (Fact.c a1_)]⟩) hΓ mix (by kernel_rfl) ow0 (AW_st (by first | rfl | (simp only [List.map_append, List.map_cons, List.map_nil, List.map_set, List.map_replicate] <;> rfl)) (AW_of_r (d_spec_TimeOf_L1w hΓ (fun h => ?_) (by have := (Rdb.sl (hr _ (List.mem_of_getElem? (i := 0) rfl))).1; simpa using this) (a0_) 0  rfl h)))
  have h := den_some h
  subst h
  exact AW_go (n := 2000) [[none]] [] (.ret (D.int .i64 (0))) hΓ mix (by kernel_rfl) ow0 rfl
def d_spec_TimesOf_L1 (a0_ : List Stamp) (a1_ : List Fact) (k1 : List Int → Option (List Int)) : List Fact → Nat → List Int → Option (List Int)
  | [], i1, w1_0 => (k1 (w1_0))
  | x1_ :: xs1, i1, w1_0 => ((d_spec_TimeOf (a0_) (x1_)).bind fun y27 => (bif room (((w1_0).map ixx).length + ([[D.int .i64 (y27)]]).length) 8 then (d_spec_TimesOf_L1 a0_ a1_ k1 xs1 (i1 + 1) ((w1_0) ++ ([y27]))) else none))
def d_spec_TimesOf (a0_ : List Stamp) (a1_ : List Fact) : Option (List Int) := (d_spec_TimesOf_L1 a0_ a1_ (fun (q1_0 : List Int) => (some (q1_0))) (a1_) 0 (([] : List Int)))
theorem d_spec_TimesOf_L1w {Γ : Ctx} (hΓ : Γ.nt = 24) {N : Nat → St → Prop} {a0_ : List Stamp} {a1_ : List Fact} {r : List Int} {k1 : List Int → Option (List Int)} (hE1 : ∀ (q1_0 : List Int), k1 q1_0 = some r → AW Try.prog Γ (dig (bodyOf Try.f25) [1, 1, 1] []).1 (KQ Try.prog Γ N (RetQ Try.prog Try.f25 (D.fr 3 1 ((r).map ixx))) (dig (bodyOf Try.f25) [1, 1, 1] []).2) ⟨[(5, D.acc 0)], [Ob.row .uq 3 1 ((q1_0).map ixx)]⟩) (hm1 : (a1_).length ≤ maxLen) : ∀ (rest : List Fact) (i1 : Nat) (w1_0 : List Int), (a1_).drop i1 = rest → d_spec_TimesOf_L1 a0_ a1_ k1 rest i1 w1_0 = some r → AWr Try.prog Γ (dig (bodyOf Try.f25) [1, 1, 0, 1, 0, 0] []).1 (KQ Try.prog Γ N (RetQ Try.prog Try.f25 (D.fr 3 1 ((r).map ixx))) (dig (bodyOf Try.f25) [1, 1, 0, 1, 0] []).2) (rest.length + 1) ⟨[(0, D.sl ((a0_).map Stamp.c)), (1, D.sl ((a1_).map Fact.c)), (5, D.acc 0), (6, D.int .i64 ((i1 : Int)))], [Ob.row .uq 3 1 ((w1_0).map ixx)]⟩ := by
  intro rest
  induction rest with
  | nil =>
    intro i1 w1_0 hd1 h
    rw [d_spec_TimesOf_L1] at h
    refine AWr_succ fun N1 hN1 hS1 => ?_
    have t := AW_N (N := N) (N' := N1) (K0 := (dig (bodyOf Try.f25) [1, 1, 0, 1, 0] []).2) (by kernel_rfl) hN1 (hE1 (w1_0) h)
    refine AW_go (n := 2000) [[some (3, 1)]] [.b false, .hl 0 [5] [0]] (.at_ (dig (bodyOf Try.f25) [1, 1, 1] []).1 (dig (bodyOf Try.f25) [1, 1, 1] []).2 ⟨[(5, D.acc 0)], [Ob.row .uq 3 1 ((w1_0).map ixx)]⟩) hΓ mix (by kernel_rfl) (ow ((ltm_false Fact.c (drop_nil hd1))) ow0) ?_
    first | exact t | (simp only [List.map_append, List.map_cons, List.map_nil, List.map_set] at t ⊢; exact t)
  | cons x1_ xs1 ih1 =>
    intro i1 w1_0 hd1 h
    rw [d_spec_TimesOf_L1] at h
    refine AWr_succ fun N1 hN1 hS1 => ?_
    obtain ⟨y27, h28, h⟩ := den_bind h
    obtain ⟨h29, h⟩ := den_ok h
    have t := ih1 (i1 + 1) ((w1_0) ++ ([y27])) (drop_cons hd1).2.2 h
    refine AW_go (n := 2000) [[some (3, 1)]] [.b true, .row (Fact.c x1_), .d (D.int .i64 (y27)), .cn [0, 1, 5, 6] [2]] (.cont 0 ⟨[(0, D.sl ((a0_).map Stamp.c)), (1, D.sl ((a1_).map Fact.c)), (5, D.acc 0), (6, D.int .i64 (IntKind.i64.wrap (((i1 : Int)) + (1))))], [Ob.row .uq 3 1 (((w1_0).map ixx) ++ ([[D.int .i64 (y27)]]))]⟩) hΓ mix (by kernel_rfl) (ow ((ltm_true Fact.c (drop_cons hd1).2.1)) (ow (map_row Fact.c 2 (drop_cons hd1).1 rfl) (ow (d_spec_TimeOf_good h28) (ow (room_ok h29) ow0)))) ?_
    refine (congrFun hS1 _).mpr ?_
    rw [i64_succ (drop_cons hd1).2.1 hm1]
    first | exact t | (simp only [List.map_append, List.map_cons, List.map_nil, List.map_set] at t ⊢; exact t)
theorem d_spec_TimesOf_good {a0_ : List Stamp} {a1_ : List Fact} {r : List Int} (h : d_spec_TimesOf a0_ a1_ = some r) : Good Try.prog 25 [D.sl ((a0_).map Stamp.c), D.sl ((a1_).map Fact.c)] (D.fr 3 1 ((r).map ixx)) := by
  refine Good.of (c := bodyOf Try.f25) Try.func25 rfl (by decide) (by simp [Try.f25]) ?_
  intro hr Γ hΓ
  have hΓ : Γ.nt = 24 := hΓ
  rw [d_spec_TimesOf] at h
  refine (show AW Try.prog Γ (bodyOf Try.f25) (KQ Try.prog Γ (fun _ _ => False) (RetQ Try.prog Try.f25 (D.fr 3 1 ((r).map ixx))) []) _ from ?_)
  refine AW_go (n := 2000) [[some (3, 1)]] [.cn [0, 1, 5, 6] [0]] (.lp (dig (bodyOf Try.f25) [1, 1, 0, 1, 0, 0] []).1 (dig (bodyOf Try.f25) [1, 1, 0, 1, 0] []).2 ⟨[(0, D.sl ((a0_).map Stamp.c)), (1, D.sl ((a1_).map Fact.c)), (5, D.acc 0), (6, D.int .i64 (0))], [Ob.row .uq 3 1 (([] : List (List D)))]⟩) hΓ mix (by kernel_rfl) ow0 (AW_st (by first | rfl | (simp only [List.map_append, List.map_cons, List.map_nil, List.map_set, List.map_replicate] <;> rfl)) (AW_of_r (d_spec_TimesOf_L1w hΓ (fun q1_0 h => ?_) (by have := (Rdb.sl (hr _ (List.mem_of_getElem? (i := 1) rfl))).1; simpa using this) (a1_) 0 (([] : List Int)) rfl h)))
  have h := den_some h
  subst h
  exact AW_go (n := 2000) [[some (3, 1)]] [] (.ret (D.fr 3 1 ((q1_0).map ixx))) hΓ mix (by kernel_rfl) ow0 rfl
def d_impl_sameTexts_L1 (a0_ : List Bytes) (a1_ : List Bytes) (k1 : Option Bool) : List Bytes → Nat → Option Bool
  | [], i1 => (k1 )
  | x1_ :: xs1, i1 => ((atI (a1_) ((i1 : Int))).bind fun x22 => (bif !((x1_ : Bytes) == (x22)) then (some (false)) else (d_impl_sameTexts_L1 a0_ a1_ k1 xs1 (i1 + 1) )))
def d_impl_sameTexts (a0_ : List Bytes) (a1_ : List Bytes) : Option Bool := (bif ((((a0_).map tx).length : Int) : Int) != ((((a1_).map tx).length : Int)) then (some (false)) else (d_impl_sameTexts_L1 a0_ a1_ (some (true)) (a0_) 0 ))
theorem d_impl_sameTexts_L1w {Γ : Ctx} (hΓ : Γ.nt = 26) {N : Nat → St → Prop} {a0_ : List Bytes} {a1_ : List Bytes} {r : Bool} {k1 : Option Bool} (hE1 : k1 = some r → AW Try.prog Γ (dig (bodyOf Try.f164) [1, 1, 1] []).1 (KQ Try.prog Γ N (RetQ Try.prog Try.f164 (D.bool (r))) (dig (bodyOf Try.f164) [1, 1, 1] []).2) ⟨[], []⟩) (hm1 : (a0_).length ≤ maxLen) : ∀ (rest : List Bytes) (i1 : Nat) , (a0_).drop i1 = rest → d_impl_sameTexts_L1 a0_ a1_ k1 rest i1  = some r → AWr Try.prog Γ (dig (bodyOf Try.f164) [1, 1, 0, 1, 0, 0] []).1 (KQ Try.prog Γ N (RetQ Try.prog Try.f164 (D.bool (r))) (dig (bodyOf Try.f164) [1, 1, 0, 1, 0] []).2) (rest.length + 1) ⟨[(0, D.sl ((a0_).map tx)), (1, D.sl ((a1_).map tx)), (12, D.int .i64 ((((a0_).map tx).length : Int))), (13, D.int .i64 ((i1 : Int)))], []⟩ := by
  intro rest
  induction rest with
  | nil =>
    intro i1  hd1 h
    rw [d_impl_sameTexts_L1] at h
    refine AWr_succ fun N1 hN1 hS1 => ?_
    have t := AW_N (N := N) (N' := N1) (K0 := (dig (bodyOf Try.f164) [1, 1, 0, 1, 0] []).2) (by kernel_rfl) hN1 (hE1  h)
    refine AW_go (n := 2000) [[none]] [.b false, .hl 0 [] []] (.at_ (dig (bodyOf Try.f164) [1, 1, 1] []).1 (dig (bodyOf Try.f164) [1, 1, 1] []).2 ⟨[], []⟩) hΓ mix (by kernel_rfl) (ow ((ltm_false tx (drop_nil hd1))) ow0) ?_
    first | exact t | (simp only [List.map_append, List.map_cons, List.map_nil, List.map_set] at t ⊢; exact t)
  | cons x1_ xs1 ih1 =>
    intro i1  hd1 h
    rw [d_impl_sameTexts_L1] at h
    refine AWr_succ fun N1 hN1 hS1 => ?_
    obtain ⟨x22, h23, h⟩ := den_bind h
    rcases den_if h with ⟨h24, h⟩ | ⟨h24, h⟩
    · have h := den_some h
      subst h
      exact AW_go (n := 2000) [[none]] [.b true, .n 8, .row (tx x1_), .row (tx x22), .b true] (.ret (D.bool (false))) hΓ mix (by kernel_rfl) (ow ((ltm_true tx (drop_cons hd1).2.1)) (ow (map_row tx 1 (drop_cons hd1).1 rfl) (ow (at_row tx 1 h23 rfl) (ow (h24) ow0)))) rfl
    · have t := ih1 (i1 + 1)  (drop_cons hd1).2.2 h
      refine AW_go (n := 2000) [[none]] [.b true, .n 8, .row (tx x1_), .row (tx x22), .b false, .cn [0, 1, 12, 13] []] (.cont 0 ⟨[(0, D.sl ((a0_).map tx)), (1, D.sl ((a1_).map tx)), (12, D.int .i64 ((((a0_).map tx).length : Int))), (13, D.int .i64 (IntKind.i64.wrap (((i1 : Int)) + (1))))], []⟩) hΓ mix (by kernel_rfl) (ow ((ltm_true tx (drop_cons hd1).2.1)) (ow (map_row tx 1 (drop_cons hd1).1 rfl) (ow (at_row tx 1 h23 rfl) (ow (h24) ow0)))) ?_
      refine (congrFun hS1 _).mpr ?_
      rw [i64_succ (drop_cons hd1).2.1 hm1]
      first | exact t | (simp only [List.map_append, List.map_cons, List.map_nil, List.map_set] at t ⊢; exact t)
theorem d_impl_sameTexts_good {a0_ : List Bytes} {a1_ : List Bytes} {r : Bool} (h : d_impl_sameTexts a0_ a1_ = some r) : Good Try.prog 164 [D.sl ((a0_).map tx), D.sl ((a1_).map tx)] (D.bool (r)) := by
  refine Good.of (c := bodyOf Try.f164) Try.func164 rfl (by decide) (by simp [Try.f164]) ?_
  intro hr Γ hΓ
  have hΓ : Γ.nt = 26 := hΓ
  rw [d_impl_sameTexts] at h
  refine (show AW Try.prog Γ (bodyOf Try.f164) (KQ Try.prog Γ (fun _ _ => False) (RetQ Try.prog Try.f164 (D.bool (r))) []) _ from ?_)
  rcases den_if h with ⟨h1, h⟩ | ⟨h1, h⟩
  · have h := den_some h
    subst h
    exact AW_go (n := 2000) [[none]] [.b true] (.ret (D.bool (false))) hΓ mix (by kernel_rfl) (ow (h1) ow0) rfl
  · refine AW_go (n := 2000) [[none]] [.b false, .cn [0, 1, 12, 13] []] (.lp (dig (bodyOf Try.f164) [1, 1, 0, 1, 0, 0] []).1 (dig (bodyOf Try.f164) [1, 1, 0, 1, 0] []).2 ⟨[(0, D.sl ((a0_).map tx)), (1, D.sl ((a1_).map tx)), (12, D.int .i64 ((((a0_).map tx).length : Int))), (13, D.int .i64 (0))], []⟩) hΓ mix (by kernel_rfl) (ow (h1) ow0) (AW_st (by first | rfl | (simp only [List.map_append, List.map_cons, List.map_nil, List.map_set, List.map_replicate] <;> rfl)) (AW_of_r (d_impl_sameTexts_L1w hΓ (fun h => ?_) (by have := (Rdb.sl (hr _ (List.mem_of_getElem? (i := 0) rfl))).1; simpa using this) (a0_) 0  rfl h)))
    have h := den_some h
    subst h
    exact AW_go (n := 2000) [[none]] [] (.ret (D.bool (true))) hΓ mix (by kernel_rfl) ow0 rfl
def d_impl_sameFact (a0_ : Fact) (a1_ : Fact) : Option Bool := (bif (a0_.rel : Bytes) == (a1_.rel) then ((d_impl_sameTexts (a0_.args) (a1_.args)).bind fun y2 => (some (y2))) else (some (false)))
theorem d_impl_sameFact_good {a0_ : Fact} {a1_ : Fact} {r : Bool} (h : d_impl_sameFact a0_ a1_ = some r) : Good Try.prog 138 [D.agg (Fact.c a0_), D.agg (Fact.c a1_)] (D.bool (r)) := by
  refine Good.of (c := bodyOf Try.f138) Try.func138 rfl (by decide) (by simp [Try.f138]) ?_
  intro hr Γ hΓ
  have hΓ : Γ.nt = 17 := hΓ
  rw [d_impl_sameFact] at h
  refine (show AW Try.prog Γ (bodyOf Try.f138) (KQ Try.prog Γ (fun _ _ => False) (RetQ Try.prog Try.f138 (D.bool (r))) []) _ from ?_)
  rcases den_if h with ⟨h1, h⟩ | ⟨h1, h⟩
  · obtain ⟨y2, h3, h⟩ := den_bind h
    have h := den_some h
    subst h
    exact AW_go (n := 2000) [[none]] [.b true, .b true, .b true, .b true, .b true, .d (D.bool (y2)), .b true] (.ret (D.bool (y2))) hΓ mix (by kernel_rfl) (ow (h1) (ow (h1) (ow (h1) (ow (h1) (ow (h1) (ow (d_impl_sameTexts_good h3) (ow (h1) ow0))))))) rfl
  · have h := den_some h
    subst h
    exact AW_go (n := 2000) [[none]] [.b false, .b false, .b false, .b false, .b false, .b false] (.ret (D.bool (false))) hΓ mix (by kernel_rfl) (ow (h1) (ow (h1) (ow (h1) (ow (h1) (ow (h1) (ow (h1) ow0)))))) rfl
def d_impl_TimeOf_L1 (a0_ : List Stamp) (a1_ : Fact) (k1 : Option Int) : List Stamp → Nat → Option Int
  | [], i1 => (k1 )
  | x1_ :: xs1, i1 => ((d_impl_sameFact (x1_.fact) (a1_)).bind fun y21 => (bif y21 then (some (x1_.time)) else (d_impl_TimeOf_L1 a0_ a1_ k1 xs1 (i1 + 1) )))
def d_impl_TimeOf (a0_ : List Stamp) (a1_ : Fact) : Option Int := (d_impl_TimeOf_L1 a0_ a1_ (some (0)) (a0_) 0 )
theorem d_impl_TimeOf_L1w {Γ : Ctx} (hΓ : Γ.nt = 20) {N : Nat → St → Prop} {a0_ : List Stamp} {a1_ : Fact} {r : Int} {k1 : Option Int} (hE1 : k1 = some r → AW Try.prog Γ (dig (bodyOf Try.f79) [1, 1] []).1 (KQ Try.prog Γ N (RetQ Try.prog Try.f79 (D.int .i64 (r))) (dig (bodyOf Try.f79) [1, 1] []).2) ⟨[], []⟩) (hm1 : (a0_).length ≤ maxLen) : ∀ (rest : List Stamp) (i1 : Nat) , (a0_).drop i1 = rest → d_impl_TimeOf_L1 a0_ a1_ k1 rest i1  = some r → AWr Try.prog Γ (dig (bodyOf Try.f79) [1, 0, 1, 0, 0] []).1 (KQ Try.prog Γ N (RetQ Try.prog Try.f79 (D.int .i64 (r))) (dig (bodyOf Try.f79) [1, 0, 1, 0] []).2) (rest.length + 1) ⟨[(3, D.ptr 0 0), (7, D.sl ((a0_).map Stamp.c)), (8, D.int .i64 ((((a0_).map Stamp.c).length : Int))), (9, D.int .i64 ((i1 : Int)))], [Ob.box (Fact.c a1_)]⟩ := by
  intro rest
  induction rest with
  | nil =>
    intro i1  hd1 h
    rw [d_impl_TimeOf_L1] at h
    refine AWr_succ fun N1 hN1 hS1 => ?_
    have t := AW_N (N := N) (N' := N1) (K0 := (dig (bodyOf Try.f79) [1, 0, 1, 0] []).2) (by kernel_rfl) hN1 (hE1  h)
    refine AW_go (n := 2000) [[none]] [.b false, .hl 0 [] []] (.at_ (dig (bodyOf Try.f79) [1, 1] []).1 (dig (bodyOf Try.f79) [1, 1] []).2 ⟨[], []⟩) hΓ mix (by kernel_rfl) (ow ((ltm_false Stamp.c (drop_nil hd1))) ow0) ?_
    first | exact t | (simp only [List.map_append, List.map_cons, List.map_nil, List.map_set] at t ⊢; exact t)
  | cons x1_ xs1 ih1 =>
    intro i1  hd1 h
    rw [d_impl_TimeOf_L1] at h
    refine AWr_succ fun N1 hN1 hS1 => ?_
    obtain ⟨y21, h22, h⟩ := den_bind h
    rcases den_if h with ⟨h23, h⟩ | ⟨h23, h⟩
    · have h := den_some h
      subst h
      exact AW_go (n := 2000) [[none]] [.b true, .row (Stamp.c x1_), .d (D.bool (y21)), .b true] (.ret (D.int .i64 (x1_.time))) hΓ mix (by kernel_rfl) (ow ((ltm_true Stamp.c (drop_cons hd1).2.1)) (ow (map_row Stamp.c 3 (drop_cons hd1).1 rfl) (ow (d_impl_sameFact_good h22) (ow (h23) ow0)))) rfl
    · have t := ih1 (i1 + 1)  (drop_cons hd1).2.2 h
      refine AW_go (n := 2000) [[none]] [.b true, .row (Stamp.c x1_), .d (D.bool (y21)), .b false, .cn [3, 7, 8, 9] [0]] (.cont 0 ⟨[(3, D.ptr 0 0), (7, D.sl ((a0_).map Stamp.c)), (8, D.int .i64 ((((a0_).map Stamp.c).length : Int))), (9, D.int .i64 (IntKind.i64.wrap (((i1 : Int)) + (1))))], [Ob.box (Fact.c a1_)]⟩) hΓ mix (by kernel_rfl) (ow ((ltm_true Stamp.c (drop_cons hd1).2.1)) (ow (map_row Stamp.c 3 (drop_cons hd1).1 rfl) (ow (d_impl_sameFact_good h22) (ow (h23) ow0)))) ?_
      refine (congrFun hS1 _).mpr ?_
      rw [i64_succ (drop_cons hd1).2.1 hm1]
      first | exact t | (simp only [List.map_append, List.map_cons, List.map_nil, List.map_set] at t ⊢; exact t)
theorem d_impl_TimeOf_good {a0_ : List Stamp} {a1_ : Fact} {r : Int} (h : d_impl_TimeOf a0_ a1_ = some r) : Good Try.prog 79 [D.sl ((a0_).map Stamp.c), D.agg (Fact.c a1_)] (D.int .i64 (r)) := by
  refine Good.of (c := bodyOf Try.f79) Try.func79 rfl (by decide) (by simp [Try.f79]) ?_
  intro hr Γ hΓ
  have hΓ : Γ.nt = 20 := hΓ
  rw [d_impl_TimeOf] at h
  refine (show AW Try.prog Γ (bodyOf Try.f79) (KQ Try.prog Γ (fun _ _ => False) (RetQ Try.prog Try.f79 (D.int .i64 (r))) []) _ from ?_)
  refine AW_go (n := 2000) [[none]] [.cn [3, 7, 8, 9] [0]] (.lp (dig (bodyOf Try.f79) [1, 0, 1, 0, 0] []).1 (dig (bodyOf Try.f79) [1, 0, 1, 0] []).2 ⟨[(3, D.ptr 0 0), (7, D.sl ((a0_).map Stamp.c)), (8, D.int .i64 ((((a0_).map Stamp.c).length : Int))), (9, D.int .i64 (0))], [Ob.box (Fact.c a1_)]⟩) hΓ mix (by kernel_rfl) ow0 (AW_st (by first | rfl | (simp only [List.map_append, List.map_cons, List.map_nil, List.map_set, List.map_replicate] <;> rfl)) (AW_of_r (d_impl_TimeOf_L1w hΓ (fun h => ?_) (by have := (Rdb.sl (hr _ (List.mem_of_getElem? (i := 0) rfl))).1; simpa using this) (a0_) 0  rfl h)))
  have h := den_some h
  subst h
  exact AW_go (n := 2000) [[none]] [] (.ret (D.int .i64 (0))) hΓ mix (by kernel_rfl) ow0 rfl
def d_impl_TimesOf_L1 (a0_ : List Stamp) (a1_ : List Fact) (k1 : List Int → Option (List Int)) : List Fact → Nat → List Int → Option (List Int)
  | [], i1, w1_0 => (k1 (w1_0))
  | x1_ :: xs1, i1, w1_0 => ((d_impl_TimeOf (a0_) (x1_)).bind fun y27 => (bif room (((w1_0).map ixx).length + ([[D.int .i64 (y27)]]).length) 8 then (d_impl_TimesOf_L1 a0_ a1_ k1 xs1 (i1 + 1) ((w1_0) ++ ([y27]))) else none))
def d_impl_TimesOf (a0_ : List Stamp) (a1_ : List Fact) : Option (List Int) := (d_impl_TimesOf_L1 a0_ a1_ (fun (q1_0 : List Int) => (some (q1_0))) (a1_) 0 (([] : List Int)))
theorem d_impl_TimesOf_L1w {Γ : Ctx} (hΓ : Γ.nt = 22) {N : Nat → St → Prop} {a0_ : List Stamp} {a1_ : List Fact} {r : List Int} {k1 : List Int → Option (List Int)} (hE1 : ∀ (q1_0 : List Int), k1 q1_0 = some r → AW Try.prog Γ (dig (bodyOf Try.f27) [1, 1, 1] []).1 (KQ Try.prog Γ N (RetQ Try.prog Try.f27 (D.fr 3 1 ((r).map ixx))) (dig (bodyOf Try.f27) [1, 1, 1] []).2) ⟨[(5, D.acc 0)], [Ob.row .uq 3 1 ((q1_0).map ixx)]⟩) (hm1 : (a1_).length ≤ maxLen) : ∀ (rest : List Fact) (i1 : Nat) (w1_0 : List Int), (a1_).drop i1 = rest → d_impl_TimesOf_L1 a0_ a1_ k1 rest i1 w1_0 = some r → AWr Try.prog Γ (dig (bodyOf Try.f27) [1, 1, 0, 1, 0, 0] []).1 (KQ Try.prog Γ N (RetQ Try.prog Try.f27 (D.fr 3 1 ((r).map ixx))) (dig (bodyOf Try.f27) [1, 1, 0, 1, 0] []).2) (rest.length + 1) ⟨[(0, D.sl ((a0_).map Stamp.c)), (5, D.acc 0), (8, D.sl ((a1_).map Fact.c)), (9, D.int .i64 ((((a1_).map Fact.c).length : Int))), (10, D.int .i64 ((i1 : Int)))], [Ob.row .uq 3 1 ((w1_0).map ixx)]⟩ := by
  intro rest
  induction rest with
  | nil =>
    intro i1 w1_0 hd1 h
    rw [d_impl_TimesOf_L1] at h
    refine AWr_succ fun N1 hN1 hS1 => ?_
    have t := AW_N (N := N) (N' := N1) (K0 := (dig (bodyOf Try.f27) [1, 1, 0, 1, 0] []).2) (by kernel_rfl) hN1 (hE1 (w1_0) h)
    refine AW_go (n := 2000) [[some (3, 1)]] [.b false, .hl 0 [5] [0]] (.at_ (dig (bodyOf Try.f27) [1, 1, 1] []).1 (dig (bodyOf Try.f27) [1, 1, 1] []).2 ⟨[(5, D.acc 0)], [Ob.row .uq 3 1 ((w1_0).map ixx)]⟩) hΓ mix (by kernel_rfl) (ow ((ltm_false Fact.c (drop_nil hd1))) ow0) ?_
    first | exact t | (simp only [List.map_append, List.map_cons, List.map_nil, List.map_set] at t ⊢; exact t)
  | cons x1_ xs1 ih1 =>
    intro i1 w1_0 hd1 h
    rw [d_impl_TimesOf_L1] at h
    refine AWr_succ fun N1 hN1 hS1 => ?_
    obtain ⟨y27, h28, h⟩ := den_bind h
    obtain ⟨h29, h⟩ := den_ok h
    have t := ih1 (i1 + 1) ((w1_0) ++ ([y27])) (drop_cons hd1).2.2 h
    refine AW_go (n := 2000) [[some (3, 1)]] [.b true, .row (Fact.c x1_), .d (D.int .i64 (y27)), .cn [0, 5, 8, 9, 10] [3]] (.cont 0 ⟨[(0, D.sl ((a0_).map Stamp.c)), (5, D.acc 0), (8, D.sl ((a1_).map Fact.c)), (9, D.int .i64 ((((a1_).map Fact.c).length : Int))), (10, D.int .i64 (IntKind.i64.wrap (((i1 : Int)) + (1))))], [Ob.row .uq 3 1 (((w1_0).map ixx) ++ ([[D.int .i64 (y27)]]))]⟩) hΓ mix (by kernel_rfl) (ow ((ltm_true Fact.c (drop_cons hd1).2.1)) (ow (map_row Fact.c 2 (drop_cons hd1).1 rfl) (ow (d_impl_TimeOf_good h28) (ow (room_ok h29) ow0)))) ?_
    refine (congrFun hS1 _).mpr ?_
    rw [i64_succ (drop_cons hd1).2.1 hm1]
    first | exact t | (simp only [List.map_append, List.map_cons, List.map_nil, List.map_set] at t ⊢; exact t)
theorem d_impl_TimesOf_good {a0_ : List Stamp} {a1_ : List Fact} {r : List Int} (h : d_impl_TimesOf a0_ a1_ = some r) : Good Try.prog 27 [D.sl ((a0_).map Stamp.c), D.sl ((a1_).map Fact.c)] (D.fr 3 1 ((r).map ixx)) := by
  refine Good.of (c := bodyOf Try.f27) Try.func27 rfl (by decide) (by simp [Try.f27]) ?_
  intro hr Γ hΓ
  have hΓ : Γ.nt = 22 := hΓ
  rw [d_impl_TimesOf] at h
  refine (show AW Try.prog Γ (bodyOf Try.f27) (KQ Try.prog Γ (fun _ _ => False) (RetQ Try.prog Try.f27 (D.fr 3 1 ((r).map ixx))) []) _ from ?_)
  refine AW_go (n := 2000) [[some (3, 1)]] [.pro 5, .cn [0, 5, 8, 9, 10] [0]] (.lp (dig (bodyOf Try.f27) [1, 1, 0, 1, 0, 0] []).1 (dig (bodyOf Try.f27) [1, 1, 0, 1, 0] []).2 ⟨[(0, D.sl ((a0_).map Stamp.c)), (5, D.acc 0), (8, D.sl ((a1_).map Fact.c)), (9, D.int .i64 ((((a1_).map Fact.c).length : Int))), (10, D.int .i64 (0))], [Ob.row .uq 3 1 (([] : List (List D)))]⟩) hΓ mix (by kernel_rfl) ow0 (AW_st (by first | rfl | (simp only [List.map_append, List.map_cons, List.map_nil, List.map_set, List.map_replicate] <;> rfl)) (AW_of_r (d_impl_TimesOf_L1w hΓ (fun q1_0 h => ?_) (by have := (Rdb.sl (hr _ (List.mem_of_getElem? (i := 1) rfl))).1; simpa using this) (a1_) 0 (([] : List Int)) rfl h)))
  have h := den_some h
  subst h
  exact AW_go (n := 2000) [[some (3, 1)]] [] (.ret (D.fr 3 1 ((q1_0).map ixx))) hΓ mix (by kernel_rfl) ow0 rfl
end Go.Cx
