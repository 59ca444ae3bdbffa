/- What functions of the program compute, and the walks that show it. No condition. -/
import Derived.Test.YtocmmccbfnhfpaaNLay
namespace Go.Cx
open Go.RowKit Go.Proofs
set_option linter.unusedVariables false
set_option linter.unusedSimpArgs false
set_option maxRecDepth 100000
def d_spec_l1SameTexts_L1 (a0_ : List Bytes) (a1_ : List Bytes) (k1 : Option Bool) : List Bytes → Nat → Option Bool
  | [], i1 => (k1 )
  | x1_ :: xs1, i1 => ((atI (a1_) ((i1 : Int))).bind fun x22 => (bif !((x1_ : Bytes) == (x22)) then (some (false)) else (d_spec_l1SameTexts_L1 a0_ a1_ k1 xs1 (i1 + 1) )))
def d_spec_l1SameTexts (a0_ : List Bytes) (a1_ : List Bytes) : Option Bool := (bif ((((a0_).map tx).length : Int) : Int) != ((((a1_).map tx).length : Int)) then (some (false)) else (d_spec_l1SameTexts_L1 a0_ a1_ (some (true)) (a0_) 0 ))
theorem d_spec_l1SameTexts_L1w {Γ : Ctx} (hΓ : Γ.nt = 26) {N : Nat → St → Prop} {a0_ : List Bytes} {a1_ : List Bytes} {r : Bool} {k1 : Option Bool} (hE1 : k1 = some r → AW Try.prog Γ (dig (bodyOf Try.f174) [1, 1, 1] []).1 (KQ Try.prog Γ N (RetQ Try.prog Try.f174 (D.bool (r))) (dig (bodyOf Try.f174) [1, 1, 1] []).2) ⟨[], []⟩) (hm1 : (a0_).length ≤ maxLen) : ∀ (rest : List Bytes) (i1 : Nat) , (a0_).drop i1 = rest → d_spec_l1SameTexts_L1 a0_ a1_ k1 rest i1  = some r → AWr Try.prog Γ (dig (bodyOf Try.f174) [1, 1, 0, 1, 0, 0] []).1 (KQ Try.prog Γ N (RetQ Try.prog Try.f174 (D.bool (r))) (dig (bodyOf Try.f174) [1, 1, 0, 1, 0] []).2) (rest.length + 1) ⟨[(0, D.sl ((a0_).map tx)), (1, D.sl ((a1_).map tx)), (5, D.int .i64 ((i1 : Int)))], []⟩ := by
  intro rest
  induction rest with
  | nil =>
    intro i1  hd1 h
    rw [d_spec_l1SameTexts_L1] at h
    refine AWr_succ fun N1 hN1 hS1 => ?_
    have t := AW_N (N := N) (N' := N1) (K0 := (dig (bodyOf Try.f174) [1, 1, 0, 1, 0] []).2) (by kernel_rfl) hN1 (hE1  h)
    refine AW_go (n := 2000) [[none]] [.b false, .hl 0 [] []] (.at_ (dig (bodyOf Try.f174) [1, 1, 1] []).1 (dig (bodyOf Try.f174) [1, 1, 1] []).2 ⟨[], []⟩) hΓ mix (by kernel_rfl) (ow ((ltm_false tx (drop_nil hd1))) ow0) ?_
    first | exact t | (simp only [List.map_append, List.map_cons, List.map_nil, List.map_set] at t ⊢; exact t)
  | cons x1_ xs1 ih1 =>
    intro i1  hd1 h
    rw [d_spec_l1SameTexts_L1] at h
    refine AWr_succ fun N1 hN1 hS1 => ?_
    obtain ⟨x22, h23, h⟩ := den_bind h
    rcases den_if h with ⟨h24, h⟩ | ⟨h24, h⟩
    · have h := den_some h
      subst h
      exact AW_go (n := 2000) [[none]] [.b true, .n 8, .row (tx x1_), .row (tx x22), .b true] (.ret (D.bool (false))) hΓ mix (by kernel_rfl) (ow ((ltm_true tx (drop_cons hd1).2.1)) (ow (map_row tx 1 (drop_cons hd1).1 rfl) (ow (at_row tx 1 h23 rfl) (ow (h24) ow0)))) rfl
    · have t := ih1 (i1 + 1)  (drop_cons hd1).2.2 h
      refine AW_go (n := 2000) [[none]] [.b true, .n 8, .row (tx x1_), .row (tx x22), .b false, .cn [0, 1, 5] []] (.cont 0 ⟨[(0, D.sl ((a0_).map tx)), (1, D.sl ((a1_).map tx)), (5, D.int .i64 (IntKind.i64.wrap (((i1 : Int)) + (1))))], []⟩) hΓ mix (by kernel_rfl) (ow ((ltm_true tx (drop_cons hd1).2.1)) (ow (map_row tx 1 (drop_cons hd1).1 rfl) (ow (at_row tx 1 h23 rfl) (ow (h24) ow0)))) ?_
      refine (congrFun hS1 _).mpr ?_
      rw [i64_succ (drop_cons hd1).2.1 hm1]
      first | exact t | (simp only [List.map_append, List.map_cons, List.map_nil, List.map_set] at t ⊢; exact t)
theorem d_spec_l1SameTexts_good {a0_ : List Bytes} {a1_ : List Bytes} {r : Bool} (h : d_spec_l1SameTexts a0_ a1_ = some r) : Good Try.prog 174 [D.sl ((a0_).map tx), D.sl ((a1_).map tx)] (D.bool (r)) := by
  refine Good.of (c := bodyOf Try.f174) Try.func174 rfl (by decide) (by simp [Try.f174]) ?_
  intro hr Γ hΓ
  have hΓ : Γ.nt = 26 := hΓ
  rw [d_spec_l1SameTexts] at h
  refine (show AW Try.prog Γ (bodyOf Try.f174) (KQ Try.prog Γ (fun _ _ => False) (RetQ Try.prog Try.f174 (D.bool (r))) []) _ from ?_)
  rcases den_if h with ⟨h1, h⟩ | ⟨h1, h⟩
  · have h := den_some h
    subst h
    exact AW_go (n := 2000) [[none]] [.b true] (.ret (D.bool (false))) hΓ mix (by kernel_rfl) (ow (h1) ow0) rfl
  · refine AW_go (n := 2000) [[none]] [.b false, .cn [0, 1, 5] []] (.lp (dig (bodyOf Try.f174) [1, 1, 0, 1, 0, 0] []).1 (dig (bodyOf Try.f174) [1, 1, 0, 1, 0] []).2 ⟨[(0, D.sl ((a0_).map tx)), (1, D.sl ((a1_).map tx)), (5, D.int .i64 (0))], []⟩) hΓ mix (by kernel_rfl) (ow (h1) ow0) (AW_st (by first | rfl | (simp only [List.map_append, List.map_cons, List.map_nil, List.map_set, List.map_replicate] <;> rfl)) (AW_of_r (d_spec_l1SameTexts_L1w hΓ (fun h => ?_) (by have := (Rdb.sl (hr _ (List.mem_of_getElem? (i := 0) rfl))).1; simpa using this) (a0_) 0  rfl h)))
    have h := den_some h
    subst h
    exact AW_go (n := 2000) [[none]] [] (.ret (D.bool (true))) hΓ mix (by kernel_rfl) ow0 rfl
def d_spec_l2Same (a0_ : Fact) (a1_ : Fact) : Option Bool := (bif (a0_.rel : Bytes) == (a1_.rel) then ((d_spec_l1SameTexts (a0_.args) (a1_.args)).bind fun y2 => (some (y2))) else (some (false)))
theorem d_spec_l2Same_good {a0_ : Fact} {a1_ : Fact} {r : Bool} (h : d_spec_l2Same a0_ a1_ = some r) : Good Try.prog 136 [D.agg (Fact.c a0_), D.agg (Fact.c a1_)] (D.bool (r)) := by
  refine Good.of (c := bodyOf Try.f136) Try.func136 rfl (by decide) (by simp [Try.f136]) ?_
  intro hr Γ hΓ
  have hΓ : Γ.nt = 17 := hΓ
  rw [d_spec_l2Same] at h
  refine (show AW Try.prog Γ (bodyOf Try.f136) (KQ Try.prog Γ (fun _ _ => False) (RetQ Try.prog Try.f136 (D.bool (r))) []) _ from ?_)
  rcases den_if h with ⟨h1, h⟩ | ⟨h1, h⟩
  · obtain ⟨y2, h3, h⟩ := den_bind h
    have h := den_some h
    subst h
    exact AW_go (n := 2000) [[none]] [.b true, .b true, .b true, .b true, .b true, .d (D.bool (y2)), .b true] (.ret (D.bool (y2))) hΓ mix (by kernel_rfl) (ow (h1) (ow (h1) (ow (h1) (ow (h1) (ow (h1) (ow (d_spec_l1SameTexts_good h3) (ow (h1) ow0))))))) rfl
  · have h := den_some h
    subst h
    exact AW_go (n := 2000) [[none]] [.b false, .b false, .b false, .b false, .b false, .b false] (.ret (D.bool (false))) hΓ mix (by kernel_rfl) (ow (h1) (ow (h1) (ow (h1) (ow (h1) (ow (h1) (ow (h1) ow0)))))) rfl
def d_impl_sameTexts_L1 (a0_ : List Bytes) (a1_ : List Bytes) (k1 : Option Bool) : List Bytes → Nat → Option Bool
  | [], i1 => (k1 )
  | x1_ :: xs1, i1 => ((atI (a1_) ((i1 : Int))).bind fun x22 => (bif !((x1_ : Bytes) == (x22)) then (some (false)) else (d_impl_sameTexts_L1 a0_ a1_ k1 xs1 (i1 + 1) )))
def d_impl_sameTexts (a0_ : List Bytes) (a1_ : List Bytes) : Option Bool := (bif ((((a0_).map tx).length : Int) : Int) != ((((a1_).map tx).length : Int)) then (some (false)) else (d_impl_sameTexts_L1 a0_ a1_ (some (true)) (a0_) 0 ))
theorem d_impl_sameTexts_L1w {Γ : Ctx} (hΓ : Γ.nt = 26) {N : Nat → St → Prop} {a0_ : List Bytes} {a1_ : List Bytes} {r : Bool} {k1 : Option Bool} (hE1 : k1 = some r → AW Try.prog Γ (dig (bodyOf Try.f164) [1, 1, 1] []).1 (KQ Try.prog Γ N (RetQ Try.prog Try.f164 (D.bool (r))) (dig (bodyOf Try.f164) [1, 1, 1] []).2) ⟨[], []⟩) (hm1 : (a0_).length ≤ maxLen) : ∀ (rest : List Bytes) (i1 : Nat) , (a0_).drop i1 = rest → d_impl_sameTexts_L1 a0_ a1_ k1 rest i1  = some r → AWr Try.prog Γ (dig (bodyOf Try.f164) [1, 1, 0, 1, 0, 0] []).1 (KQ Try.prog Γ N (RetQ Try.prog Try.f164 (D.bool (r))) (dig (bodyOf Try.f164) [1, 1, 0, 1, 0] []).2) (rest.length + 1) ⟨[(0, D.sl ((a0_).map tx)), (1, D.sl ((a1_).map tx)), (12, D.int .i64 ((((a0_).map tx).length : Int))), (13, D.int .i64 ((i1 : Int)))], []⟩ := by
  intro rest
  induction rest with
  | nil =>
    intro i1  hd1 h
    rw [d_impl_sameTexts_L1] at h
    refine AWr_succ fun N1 hN1 hS1 => ?_
    have t := AW_N (N := N) (N' := N1) (K0 := (dig (bodyOf Try.f164) [1, 1, 0, 1, 0] []).2) (by kernel_rfl) hN1 (hE1  h)
    refine AW_go (n := 2000) [[none]] [.b false, .hl 0 [] []] (.at_ (dig (bodyOf Try.f164) [1, 1, 1] []).1 (dig (bodyOf Try.f164) [1, 1, 1] []).2 ⟨[], []⟩) hΓ mix (by kernel_rfl) (ow ((ltm_false tx (drop_nil hd1))) ow0) ?_
    first | exact t | (simp only [List.map_append, List.map_cons, List.map_nil, List.map_set] at t ⊢; exact t)
  | cons x1_ xs1 ih1 =>
    intro i1  hd1 h
    rw [d_impl_sameTexts_L1] at h
    refine AWr_succ fun N1 hN1 hS1 => ?_
    obtain ⟨x22, h23, h⟩ := den_bind h
    rcases den_if h with ⟨h24, h⟩ | ⟨h24, h⟩
    · have h := den_some h
      subst h
      exact AW_go (n := 2000) [[none]] [.b true, .n 8, .row (tx x1_), .row (tx x22), .b true] (.ret (D.bool (false))) hΓ mix (by kernel_rfl) (ow ((ltm_true tx (drop_cons hd1).2.1)) (ow (map_row tx 1 (drop_cons hd1).1 rfl) (ow (at_row tx 1 h23 rfl) (ow (h24) ow0)))) rfl
    · have t := ih1 (i1 + 1)  (drop_cons hd1).2.2 h
      refine AW_go (n := 2000) [[none]] [.b true, .n 8, .row (tx x1_), .row (tx x22), .b false, .cn [0, 1, 12, 13] []] (.cont 0 ⟨[(0, D.sl ((a0_).map tx)), (1, D.sl ((a1_).map tx)), (12, D.int .i64 ((((a0_).map tx).length : Int))), (13, D.int .i64 (IntKind.i64.wrap (((i1 : Int)) + (1))))], []⟩) hΓ mix (by kernel_rfl) (ow ((ltm_true tx (drop_cons hd1).2.1)) (ow (map_row tx 1 (drop_cons hd1).1 rfl) (ow (at_row tx 1 h23 rfl) (ow (h24) ow0)))) ?_
      refine (congrFun hS1 _).mpr ?_
      rw [i64_succ (drop_cons hd1).2.1 hm1]
      first | exact t | (simp only [List.map_append, List.map_cons, List.map_nil, List.map_set] at t ⊢; exact t)
theorem d_impl_sameTexts_good {a0_ : List Bytes} {a1_ : List Bytes} {r : Bool} (h : d_impl_sameTexts a0_ a1_ = some r) : Good Try.prog 164 [D.sl ((a0_).map tx), D.sl ((a1_).map tx)] (D.bool (r)) := by
  refine Good.of (c := bodyOf Try.f164) Try.func164 rfl (by decide) (by simp [Try.f164]) ?_
  intro hr Γ hΓ
  have hΓ : Γ.nt = 26 := hΓ
  rw [d_impl_sameTexts] at h
  refine (show AW Try.prog Γ (bodyOf Try.f164) (KQ Try.prog Γ (fun _ _ => False) (RetQ Try.prog Try.f164 (D.bool (r))) []) _ from ?_)
  rcases den_if h with ⟨h1, h⟩ | ⟨h1, h⟩
  · have h := den_some h
    subst h
    exact AW_go (n := 2000) [[none]] [.b true] (.ret (D.bool (false))) hΓ mix (by kernel_rfl) (ow (h1) ow0) rfl
  · refine AW_go (n := 2000) [[none]] [.b false, .cn [0, 1, 12, 13] []] (.lp (dig (bodyOf Try.f164) [1, 1, 0, 1, 0, 0] []).1 (dig (bodyOf Try.f164) [1, 1, 0, 1, 0] []).2 ⟨[(0, D.sl ((a0_).map tx)), (1, D.sl ((a1_).map tx)), (12, D.int .i64 ((((a0_).map tx).length : Int))), (13, D.int .i64 (0))], []⟩) hΓ mix (by kernel_rfl) (ow (h1) ow0) (AW_st (by first | rfl | (simp only [List.map_append, List.map_cons, List.map_nil, List.map_set, List.map_replicate] <;> rfl)) (AW_of_r (d_impl_sameTexts_L1w hΓ (fun h => ?_) (by have := (Rdb.sl (hr _ (List.mem_of_getElem? (i := 0) rfl))).1; simpa using this) (a0_) 0  rfl h)))
    have h := den_some h
    subst h
    exact AW_go (n := 2000) [[none]] [] (.ret (D.bool (true))) hΓ mix (by kernel_rfl) ow0 rfl
def d_impl_sameFact (a0_ : Fact) (a1_ : Fact) : Option Bool := (bif (a0_.rel : Bytes) == (a1_.rel) then ((d_impl_sameTexts (a0_.args) (a1_.args)).bind fun y2 => (some (y2))) else (some (false)))
theorem d_impl_sameFact_good {a0_ : Fact} {a1_ : Fact} {r : Bool} (h : d_impl_sameFact a0_ a1_ = some r) : Good Try.prog 138 [D.agg (Fact.c a0_), D.agg (Fact.c a1_)] (D.bool (r)) := by
  refine Good.of (c := bodyOf Try.f138) Try.func138 rfl (by decide) (by simp [Try.f138]) ?_
  intro hr Γ hΓ
  have hΓ : Γ.nt = 17 := hΓ
  rw [d_impl_sameFact] at h
  refine (show AW Try.prog Γ (bodyOf Try.f138) (KQ Try.prog Γ (fun _ _ => False) (RetQ Try.prog Try.f138 (D.bool (r))) []) _ from ?_)
  rcases den_if h with ⟨h1, h⟩ | ⟨h1, h⟩
  · obtain ⟨y2, h3, h⟩ := den_bind h
    have h := den_some h
    subst h
    exact AW_go (n := 2000) [[none]] [.b true, .b true, .b true, .b true, .b true, .d (D.bool (y2)), .b true] (.ret (D.bool (y2))) hΓ mix (by kernel_rfl) (ow (h1) (ow (h1) (ow (h1) (ow (h1) (ow (h1) (ow (d_impl_sameTexts_good h3) (ow (h1) ow0))))))) rfl
  · have h := den_some h
    subst h
    exact AW_go (n := 2000) [[none]] [.b false, .b false, .b false, .b false, .b false, .b false] (.ret (D.bool (false))) hΓ mix (by kernel_rfl) (ow (h1) (ow (h1) (ow (h1) (ow (h1) (ow (h1) (ow (h1) ow0)))))) rfl
def d_spec_SamePattern (a0_ : Fact) (a1_ : Fact) : Option Bool := (bif (a0_.rel : Bytes) == (a1_.rel) then ((d_spec_l1SameTexts (a0_.args) (a1_.args)).bind fun y2 => (some (y2))) else (some (false)))
theorem d_spec_SamePattern_good {a0_ : Fact} {a1_ : Fact} {r : Bool} (h : d_spec_SamePattern a0_ a1_ = some r) : Good Try.prog 160 [D.agg (Fact.c a0_), D.agg (Fact.c a1_)] (D.bool (r)) := by
  refine Good.of (c := bodyOf Try.f160) Try.func160 rfl (by decide) (by simp [Try.f160]) ?_
  intro hr Γ hΓ
  have hΓ : Γ.nt = 17 := hΓ
  rw [d_spec_SamePattern] at h
  refine (show AW Try.prog Γ (bodyOf Try.f160) (KQ Try.prog Γ (fun _ _ => False) (RetQ Try.prog Try.f160 (D.bool (r))) []) _ from ?_)
  rcases den_if h with ⟨h1, h⟩ | ⟨h1, h⟩
  · obtain ⟨y2, h3, h⟩ := den_bind h
    have h := den_some h
    subst h
    exact AW_go (n := 2000) [[none]] [.b true, .b true, .b true, .b true, .b true, .d (D.bool (y2)), .b true] (.ret (D.bool (y2))) hΓ mix (by kernel_rfl) (ow (h1) (ow (h1) (ow (h1) (ow (h1) (ow (h1) (ow (d_spec_l1SameTexts_good h3) (ow (h1) ow0))))))) rfl
  · have h := den_some h
    subst h
    exact AW_go (n := 2000) [[none]] [.b false, .b false, .b false, .b false, .b false, .b false] (.ret (D.bool (false))) hΓ mix (by kernel_rfl) (ow (h1) (ow (h1) (ow (h1) (ow (h1) (ow (h1) (ow (h1) ow0)))))) rfl
def d_spec_SameCond (a0_ : Cond) (a1_ : Cond) : Option Bool := (bif (a0_.kind : Int) == (a1_.kind) then ((d_spec_SamePattern (a0_.pat) (a1_.pat)).bind fun y2 => (bif y2 then (bif (a0_.left : Bytes) == (a1_.left) then (some ((a0_.right : Bytes) == (a1_.right))) else (some (false))) else (some (false)))) else (some (false)))
theorem d_spec_SameCond_good {a0_ : Cond} {a1_ : Cond} {r : Bool} (h : d_spec_SameCond a0_ a1_ = some r) : Good Try.prog 161 [D.agg (Cond.c a0_), D.agg (Cond.c a1_)] (D.bool (r)) := by
  refine Good.of (c := bodyOf Try.f161) Try.func161 rfl (by decide) (by simp [Try.f161]) ?_
  intro hr Γ hΓ
  have hΓ : Γ.nt = 31 := hΓ
  rw [d_spec_SameCond] at h
  refine (show AW Try.prog Γ (bodyOf Try.f161) (KQ Try.prog Γ (fun _ _ => False) (RetQ Try.prog Try.f161 (D.bool (r))) []) _ from ?_)
  rcases den_if h with ⟨h1, h⟩ | ⟨h1, h⟩
  · obtain ⟨y2, h3, h⟩ := den_bind h
    rcases den_if h with ⟨h4, h⟩ | ⟨h4, h⟩
    · rcases den_if h with ⟨h5, h⟩ | ⟨h5, h⟩
      · have h := den_some h
        subst h
        exact AW_go (n := 2000) [[none]] [.b true, .b true, .b true, .b true, .b true, .d (D.bool (y2)), .b true, .b true, .b true, .b true, .b true, .b true, .b true, .b true, .b true, .b true, .b true, .b true, .b true] (.ret (D.bool ((a0_.right : Bytes) == (a1_.right)))) hΓ mix (by kernel_rfl) (ow (h1) (ow (h1) (ow (h1) (ow (h1) (ow (h1) (ow (d_spec_SamePattern_good h3) (ow (h1) (ow (h4) (ow (h4) (ow (h4) (ow (h4) (ow (h4) (ow (h4) (ow (h5) (ow (h5) (ow (h5) (ow (h5) (ow (h5) (ow (h5) ow0))))))))))))))))))) rfl
      · have h := den_some h
        subst h
        exact AW_go (n := 2000) [[none]] [.b true, .b true, .b true, .b true, .b true, .d (D.bool (y2)), .b true, .b true, .b true, .b true, .b true, .b true, .b true, .b false, .b false, .b false, .b false, .b false, .b false] (.ret (D.bool (false))) hΓ mix (by kernel_rfl) (ow (h1) (ow (h1) (ow (h1) (ow (h1) (ow (h1) (ow (d_spec_SamePattern_good h3) (ow (h1) (ow (h4) (ow (h4) (ow (h4) (ow (h4) (ow (h4) (ow (h4) (ow (h5) (ow (h5) (ow (h5) (ow (h5) (ow (h5) (ow (h5) ow0))))))))))))))))))) rfl
    · have h := den_some h
      subst h
      exact AW_go (n := 2000) [[none]] [.b true, .b true, .b true, .b true, .b true, .d (D.bool (y2)), .b true, .b false, .b false, .b false, .b false, .b false, .b false, .b false, .b false, .b false, .b false, .b false, .b false] (.ret (D.bool (false))) hΓ mix (by kernel_rfl) (ow (h1) (ow (h1) (ow (h1) (ow (h1) (ow (h1) (ow (d_spec_SamePattern_good h3) (ow (h1) (ow (h4) (ow (h4) (ow (h4) (ow (h4) (ow (h4) (ow (h4) (ow (show (false) = false from rfl) (ow (show (false) = false from rfl) (ow (show (false) = false from rfl) (ow (show (false) = false from rfl) (ow (show (false) = false from rfl) (ow (show (false) = false from rfl) ow0))))))))))))))))))) rfl
  · have h := den_some h
    subst h
    exact AW_go (n := 2000) [[none]] [.b false, .b false, .b false, .b false, .b false, .b false, .b false, .b false, .b false, .b false, .b false, .b false, .b false, .b false, .b false, .b false, .b false, .b false] (.ret (D.bool (false))) hΓ mix (by kernel_rfl) (ow (h1) (ow (h1) (ow (h1) (ow (h1) (ow (h1) (ow (h1) (ow (show (false) = false from rfl) (ow (show (false) = false from rfl) (ow (show (false) = false from rfl) (ow (show (false) = false from rfl) (ow (show (false) = false from rfl) (ow (show (false) = false from rfl) (ow (show (false) = false from rfl) (ow (show (false) = false from rfl) (ow (show (false) = false from rfl) (ow (show (false) = false from rfl) (ow (show (false) = false from rfl) (ow (show (false) = false from rfl) ow0)))))))))))))))))) rfl
def d_spec_l7SameForm_L1 (a0_ : Network) (a1_ : Network) (k1 : Option Bool) : List Alpha → Nat → Option Bool
  | [], i1 => (k1 )
  | x1_ :: xs1, i1 => ((atI (a1_.alphas) ((i1 : Int))).bind fun x32 => ((d_spec_SamePattern (x1_.shape) (x32.shape)).bind fun y34 => (bif !(y34) then (some (false)) else (d_spec_l7SameForm_L1 a0_ a1_ k1 xs1 (i1 + 1) ))))
def d_spec_l7SameForm_L2 (a0_ : Network) (a1_ : Network) (k2 : Option Bool) : List Node → Nat → Option Bool
  | [], i2 => (k2 )
  | x2_ :: xs2, i2 => ((atI (a1_.nodes) ((i2 : Int))).bind fun x73 => (bif (x2_.parent : Int) != (x73.parent) then (some (false)) else (bif (x2_.alpha : Int) != (x73.alpha) then (some (false)) else ((d_spec_SameCond (x2_.cond) (x73.cond)).bind fun y77 => (bif !(y77) then (some (false)) else (d_spec_l7SameForm_L2 a0_ a1_ k2 xs2 (i2 + 1) ))))))
def d_spec_l7SameForm_L3 (a0_ : Network) (a1_ : Network) (k3 : Option Bool) : List Int → Nat → Option Bool
  | [], i3 => (k3 )
  | x3_ :: xs3, i3 => ((atI (a1_.ends) ((i3 : Int))).bind fun x100 => (bif (x3_ : Int) != (x100) then (some (false)) else (d_spec_l7SameForm_L3 a0_ a1_ k3 xs3 (i3 + 1) )))
def d_spec_l7SameForm (a0_ : Network) (a1_ : Network) : Option Bool := (bif ((((a0_.alphas).map Alpha.c).length : Int) : Int) != ((((a1_.alphas).map Alpha.c).length : Int)) then (some (false)) else (bif ((((a0_.nodes).map Node.c).length : Int) : Int) != ((((a1_.nodes).map Node.c).length : Int)) then (some (false)) else (bif ((((a0_.ends).map ixx).length : Int) : Int) != ((((a1_.ends).map ixx).length : Int)) then (some (false)) else (d_spec_l7SameForm_L1 a0_ a1_ (d_spec_l7SameForm_L2 a0_ a1_ (d_spec_l7SameForm_L3 a0_ a1_ (some (true)) (a0_.ends) 0 ) (a0_.nodes) 0 ) (a0_.alphas) 0 ))))
theorem d_spec_l7SameForm_L1w {Γ : Ctx} (hΓ : Γ.nt = 123) {N : Nat → St → Prop} {a0_ : Network} {a1_ : Network} {r : Bool} {k1 : Option Bool} (hE1 : k1 = some r → AW Try.prog Γ (dig (bodyOf Try.f109) [1, 1, 1] []).1 (KQ Try.prog Γ N (RetQ Try.prog Try.f109 (D.bool (r))) (dig (bodyOf Try.f109) [1, 1, 1] []).2) ⟨[(2, D.ptr 0 0), (3, D.ptr 1 0)], [Ob.box (Network.c a0_), Ob.box (Network.c a1_)]⟩) (hm1 : (a0_.alphas).length ≤ maxLen) : ∀ (rest : List Alpha) (i1 : Nat) , (a0_.alphas).drop i1 = rest → d_spec_l7SameForm_L1 a0_ a1_ k1 rest i1  = some r → AWr Try.prog Γ (dig (bodyOf Try.f109) [1, 1, 0, 1, 0, 0] []).1 (KQ Try.prog Γ N (RetQ Try.prog Try.f109 (D.bool (r))) (dig (bodyOf Try.f109) [1, 1, 0, 1, 0] []).2) (rest.length + 1) ⟨[(2, D.ptr 0 0), (3, D.ptr 1 0), (5, D.int .i64 ((i1 : Int)))], [Ob.box (Network.c a0_), Ob.box (Network.c a1_)]⟩ := by
  intro rest
  induction rest with
  | nil =>
    intro i1  hd1 h
    rw [d_spec_l7SameForm_L1] at h
    refine AWr_succ fun N1 hN1 hS1 => ?_
    have t := AW_N (N := N) (N' := N1) (K0 := (dig (bodyOf Try.f109) [1, 1, 0, 1, 0] []).2) (by kernel_rfl) hN1 (hE1  h)
    refine AW_go (n := 2000) [[none]] [.b false, .hl 0 [2, 3] [0, 1]] (.at_ (dig (bodyOf Try.f109) [1, 1, 1] []).1 (dig (bodyOf Try.f109) [1, 1, 1] []).2 ⟨[(2, D.ptr 0 0), (3, D.ptr 1 0)], [Ob.box (Network.c a0_), Ob.box (Network.c a1_)]⟩) hΓ mix (by kernel_rfl) (ow ((ltm_false Alpha.c (drop_nil hd1))) ow0) ?_
    first | exact t | (simp only [List.map_append, List.map_cons, List.map_nil, List.map_set] at t ⊢; exact t)
  | cons x1_ xs1 ih1 =>
    intro i1  hd1 h
    rw [d_spec_l7SameForm_L1] at h
    refine AWr_succ fun N1 hN1 hS1 => ?_
    obtain ⟨x32, h33, h⟩ := den_bind h
    obtain ⟨y34, h35, h⟩ := den_bind h
    rcases den_if h with ⟨h36, h⟩ | ⟨h36, h⟩
    · have h := den_some h
      subst h
      exact AW_go (n := 2000) [[none]] [.b true, .n 12, .row (Alpha.c x1_), .row (Alpha.c x32), .d (D.bool (y34)), .b true] (.ret (D.bool (false))) hΓ mix (by kernel_rfl) (ow ((ltm_true Alpha.c (drop_cons hd1).2.1)) (ow (map_row Alpha.c 3 (drop_cons hd1).1 rfl) (ow (at_row Alpha.c 3 h33 rfl) (ow (d_spec_SamePattern_good h35) (ow (h36) ow0))))) rfl
    · have t := ih1 (i1 + 1)  (drop_cons hd1).2.2 h
      refine AW_go (n := 2000) [[none]] [.b true, .n 12, .row (Alpha.c x1_), .row (Alpha.c x32), .d (D.bool (y34)), .b false, .cn [2, 3, 5] [0, 1]] (.cont 0 ⟨[(2, D.ptr 0 0), (3, D.ptr 1 0), (5, D.int .i64 (IntKind.i64.wrap (((i1 : Int)) + (1))))], [Ob.box (Network.c a0_), Ob.box (Network.c a1_)]⟩) hΓ mix (by kernel_rfl) (ow ((ltm_true Alpha.c (drop_cons hd1).2.1)) (ow (map_row Alpha.c 3 (drop_cons hd1).1 rfl) (ow (at_row Alpha.c 3 h33 rfl) (ow (d_spec_SamePattern_good h35) (ow (h36) ow0))))) ?_
      refine (congrFun hS1 _).mpr ?_
      rw [i64_succ (drop_cons hd1).2.1 hm1]
      first | exact t | (simp only [List.map_append, List.map_cons, List.map_nil, List.map_set] at t ⊢; exact t)
theorem d_spec_l7SameForm_L2w {Γ : Ctx} (hΓ : Γ.nt = 123) {N : Nat → St → Prop} {a0_ : Network} {a1_ : Network} {r : Bool} {k2 : Option Bool} (hE2 : k2 = some r → AW Try.prog Γ (dig (bodyOf Try.f109) [1, 1, 1, 1] []).1 (KQ Try.prog Γ N (RetQ Try.prog Try.f109 (D.bool (r))) (dig (bodyOf Try.f109) [1, 1, 1, 1] []).2) ⟨[(2, D.ptr 0 0), (3, D.ptr 1 0)], [Ob.box (Network.c a0_), Ob.box (Network.c a1_)]⟩) (hm2 : (a0_.nodes).length ≤ maxLen) : ∀ (rest : List Node) (i2 : Nat) , (a0_.nodes).drop i2 = rest → d_spec_l7SameForm_L2 a0_ a1_ k2 rest i2  = some r → AWr Try.prog Γ (dig (bodyOf Try.f109) [1, 1, 1, 0, 1, 0, 0] []).1 (KQ Try.prog Γ N (RetQ Try.prog Try.f109 (D.bool (r))) (dig (bodyOf Try.f109) [1, 1, 1, 0, 1, 0] []).2) (rest.length + 1) ⟨[(2, D.ptr 0 0), (3, D.ptr 1 0), (6, D.int .i64 ((i2 : Int)))], [Ob.box (Network.c a0_), Ob.box (Network.c a1_)]⟩ := by
  intro rest
  induction rest with
  | nil =>
    intro i2  hd2 h
    rw [d_spec_l7SameForm_L2] at h
    refine AWr_succ fun N2 hN2 hS2 => ?_
    have t := AW_N (N := N) (N' := N2) (K0 := (dig (bodyOf Try.f109) [1, 1, 1, 0, 1, 0] []).2) (by kernel_rfl) hN2 (hE2  h)
    refine AW_go (n := 2000) [[none]] [.b false, .hl 0 [2, 3] [0, 1]] (.at_ (dig (bodyOf Try.f109) [1, 1, 1, 1] []).1 (dig (bodyOf Try.f109) [1, 1, 1, 1] []).2 ⟨[(2, D.ptr 0 0), (3, D.ptr 1 0)], [Ob.box (Network.c a0_), Ob.box (Network.c a1_)]⟩) hΓ mix (by kernel_rfl) (ow ((ltm_false Node.c (drop_nil hd2))) ow0) ?_
    first | exact t | (simp only [List.map_append, List.map_cons, List.map_nil, List.map_set] at t ⊢; exact t)
  | cons x2_ xs2 ih2 =>
    intro i2  hd2 h
    rw [d_spec_l7SameForm_L2] at h
    refine AWr_succ fun N2 hN2 hS2 => ?_
    obtain ⟨x73, h74, h⟩ := den_bind h
    rcases den_if h with ⟨h75, h⟩ | ⟨h75, h⟩
    · have h := den_some h
      subst h
      exact AW_go (n := 2000) [[none]] [.b true, .n 41, .row (Node.c x2_), .row (Node.c x73), .b true, .b true, .b true, .b true, .b true, .b true, .b true, .b true, .b true, .b true, .b true, .b true, .b true, .b true, .b true, .b true, .b true, .b true, .b true, .b true, .b true, .b true, .b true, .b true, .b true, .b true, .b true, .b true, .b true, .b true] (.ret (D.bool (false))) hΓ mix (by kernel_rfl) (ow ((ltm_true Node.c (drop_cons hd2).2.1)) (ow (map_row Node.c 8 (drop_cons hd2).1 rfl) (ow (at_row Node.c 8 h74 rfl) (ow (h75) (ow (h75) (ow (h75) (ow (h75) (ow (h75) (ow (h75) (ow (h75) (ow (h75) (ow (h75) (ow (h75) (ow (h75) (ow (h75) (ow (h75) (ow (h75) (ow (show (true) = true from rfl) (ow (show (true) = true from rfl) (ow (show (true) = true from rfl) (ow (show (true) = true from rfl) (ow (show (true) = true from rfl) (ow (show (true) = true from rfl) (ow (show (true) = true from rfl) (ow (show (true) = true from rfl) (ow (show (true) = true from rfl) (ow (show (true) = true from rfl) (ow (show (true) = true from rfl) (ow (show (true) = true from rfl) (ow (show (true) = true from rfl) (ow (show (true) = true from rfl) (ow (show (true) = true from rfl) (ow (show (true) = true from rfl) ow0))))))))))))))))))))))))))))))))) rfl
    · rcases den_if h with ⟨h76, h⟩ | ⟨h76, h⟩
      · have h := den_some h
        subst h
        exact AW_go (n := 2000) [[none]] [.b true, .n 41, .row (Node.c x2_), .row (Node.c x73), .b false, .b false, .b false, .b false, .row (Node.c x2_), .b false, .b false, .b false, .b false, .b false, .b false, .row (Node.c x73), .b false, .b false, .b false, .b false, .b true, .b true, .b true, .b true, .b true, .b true, .b true, .b true, .b true, .b true, .b true, .b true, .b true, .b true, .b true, .b true] (.ret (D.bool (false))) hΓ mix (by kernel_rfl) (ow ((ltm_true Node.c (drop_cons hd2).2.1)) (ow (map_row Node.c 8 (drop_cons hd2).1 rfl) (ow (at_row Node.c 8 h74 rfl) (ow (h75) (ow (h75) (ow (h75) (ow (h75) (ow (map_row Node.c 8 (drop_cons hd2).1 rfl) (ow (h75) (ow (h75) (ow (h75) (ow (h75) (ow (h75) (ow (h75) (ow (at_row Node.c 8 h74 rfl) (ow (h75) (ow (h75) (ow (h75) (ow (h75) (ow (h76) (ow (h76) (ow (h76) (ow (h76) (ow (h76) (ow (h76) (ow (h76) (ow (h76) (ow (h76) (ow (h76) (ow (h76) (ow (h76) (ow (h76) (ow (h76) (ow (h76) (ow (show (true) = true from rfl) ow0))))))))))))))))))))))))))))))))))) rfl
      · obtain ⟨y77, h78, h⟩ := den_bind h
        rcases den_if h with ⟨h79, h⟩ | ⟨h79, h⟩
        · have h := den_some h
          subst h
          exact AW_go (n := 2000) [[none]] [.b true, .n 41, .row (Node.c x2_), .row (Node.c x73), .b false, .b false, .b false, .b false, .row (Node.c x2_), .b false, .b false, .b false, .b false, .b false, .b false, .row (Node.c x73), .b false, .b false, .b false, .b false, .b false, .b false, .b false, .b false, .row (Node.c x2_), .b false, .b false, .b false, .b false, .b false, .b false, .row (Node.c x73), .b false, .b false, .b false, .d (D.bool (y77)), .b false, .b false, .b true] (.ret (D.bool (false))) hΓ mix (by kernel_rfl) (ow ((ltm_true Node.c (drop_cons hd2).2.1)) (ow (map_row Node.c 8 (drop_cons hd2).1 rfl) (ow (at_row Node.c 8 h74 rfl) (ow (h75) (ow (h75) (ow (h75) (ow (h75) (ow (map_row Node.c 8 (drop_cons hd2).1 rfl) (ow (h75) (ow (h75) (ow (h75) (ow (h75) (ow (h75) (ow (h75) (ow (at_row Node.c 8 h74 rfl) (ow (h75) (ow (h75) (ow (h75) (ow (h75) (ow (h76) (ow (h76) (ow (h76) (ow (h76) (ow (map_row Node.c 8 (drop_cons hd2).1 rfl) (ow (h76) (ow (h76) (ow (h76) (ow (h76) (ow (h76) (ow (h76) (ow (at_row Node.c 8 h74 rfl) (ow (h76) (ow (h76) (ow (h76) (ow (d_spec_SameCond_good h78) (ow (h76) (ow (h76) (ow (h79) ow0)))))))))))))))))))))))))))))))))))))) rfl
        · have t := ih2 (i2 + 1)  (drop_cons hd2).2.2 h
          refine AW_go (n := 2000) [[none]] [.b true, .n 41, .row (Node.c x2_), .row (Node.c x73), .b false, .b false, .b false, .b false, .row (Node.c x2_), .b false, .b false, .b false, .b false, .b false, .b false, .row (Node.c x73), .b false, .b false, .b false, .b false, .b false, .b false, .b false, .b false, .row (Node.c x2_), .b false, .b false, .b false, .b false, .b false, .b false, .row (Node.c x73), .b false, .b false, .b false, .d (D.bool (y77)), .b false, .b false, .b false, .cn [2, 3, 6] [0, 1]] (.cont 0 ⟨[(2, D.ptr 0 0), (3, D.ptr 1 0), (6, D.int .i64 (IntKind.i64.wrap (((i2 : Int)) + (1))))], [Ob.box (Network.c a0_), Ob.box (Network.c a1_)]⟩) hΓ mix (by kernel_rfl) (ow ((ltm_true Node.c (drop_cons hd2).2.1)) (ow (map_row Node.c 8 (drop_cons hd2).1 rfl) (ow (at_row Node.c 8 h74 rfl) (ow (h75) (ow (h75) (ow (h75) (ow (h75) (ow (map_row Node.c 8 (drop_cons hd2).1 rfl) (ow (h75) (ow (h75) (ow (h75) (ow (h75) (ow (h75) (ow (h75) (ow (at_row Node.c 8 h74 rfl) (ow (h75) (ow (h75) (ow (h75) (ow (h75) (ow (h76) (ow (h76) (ow (h76) (ow (h76) (ow (map_row Node.c 8 (drop_cons hd2).1 rfl) (ow (h76) (ow (h76) (ow (h76) (ow (h76) (ow (h76) (ow (h76) (ow (at_row Node.c 8 h74 rfl) (ow (h76) (ow (h76) (ow (h76) (ow (d_spec_SameCond_good h78) (ow (h76) (ow (h76) (ow (h79) ow0)))))))))))))))))))))))))))))))))))))) ?_
          refine (congrFun hS2 _).mpr ?_
          rw [i64_succ (drop_cons hd2).2.1 hm2]
          first | exact t | (simp only [List.map_append, List.map_cons, List.map_nil, List.map_set] at t ⊢; exact t)
theorem d_spec_l7SameForm_L3w {Γ : Ctx} (hΓ : Γ.nt = 123) {N : Nat → St → Prop} {a0_ : Network} {a1_ : Network} {r : Bool} {k3 : Option Bool} (hE3 : k3 = some r → AW Try.prog Γ (dig (bodyOf Try.f109) [1, 1, 1, 1, 1] []).1 (KQ Try.prog Γ N (RetQ Try.prog Try.f109 (D.bool (r))) (dig (bodyOf Try.f109) [1, 1, 1, 1, 1] []).2) ⟨[], []⟩) (hm3 : (a0_.ends).length ≤ maxLen) : ∀ (rest : List Int) (i3 : Nat) , (a0_.ends).drop i3 = rest → d_spec_l7SameForm_L3 a0_ a1_ k3 rest i3  = some r → AWr Try.prog Γ (dig (bodyOf Try.f109) [1, 1, 1, 1, 0, 1, 0, 0] []).1 (KQ Try.prog Γ N (RetQ Try.prog Try.f109 (D.bool (r))) (dig (bodyOf Try.f109) [1, 1, 1, 1, 0, 1, 0] []).2) (rest.length + 1) ⟨[(2, D.ptr 0 0), (3, D.ptr 1 0), (7, D.int .i64 ((i3 : Int)))], [Ob.box (Network.c a0_), Ob.box (Network.c a1_)]⟩ := by
  intro rest
  induction rest with
  | nil =>
    intro i3  hd3 h
    rw [d_spec_l7SameForm_L3] at h
    refine AWr_succ fun N3 hN3 hS3 => ?_
    have t := AW_N (N := N) (N' := N3) (K0 := (dig (bodyOf Try.f109) [1, 1, 1, 1, 0, 1, 0] []).2) (by kernel_rfl) hN3 (hE3  h)
    refine AW_go (n := 2000) [[none]] [.b false, .hl 0 [] []] (.at_ (dig (bodyOf Try.f109) [1, 1, 1, 1, 1] []).1 (dig (bodyOf Try.f109) [1, 1, 1, 1, 1] []).2 ⟨[], []⟩) hΓ mix (by kernel_rfl) (ow ((ltm_false ixx (drop_nil hd3))) ow0) ?_
    first | exact t | (simp only [List.map_append, List.map_cons, List.map_nil, List.map_set] at t ⊢; exact t)
  | cons x3_ xs3 ih3 =>
    intro i3  hd3 h
    rw [d_spec_l7SameForm_L3] at h
    refine AWr_succ fun N3 hN3 hS3 => ?_
    obtain ⟨x100, h101, h⟩ := den_bind h
    rcases den_if h with ⟨h102, h⟩ | ⟨h102, h⟩
    · have h := den_some h
      subst h
      exact AW_go (n := 2000) [[none]] [.b true, .n 10, .row (ixx x3_), .row (ixx x100), .b true] (.ret (D.bool (false))) hΓ mix (by kernel_rfl) (ow ((ltm_true ixx (drop_cons hd3).2.1)) (ow (map_row ixx 1 (drop_cons hd3).1 rfl) (ow (at_row ixx 1 h101 rfl) (ow (h102) ow0)))) rfl
    · have t := ih3 (i3 + 1)  (drop_cons hd3).2.2 h
      refine AW_go (n := 2000) [[none]] [.b true, .n 10, .row (ixx x3_), .row (ixx x100), .b false, .cn [2, 3, 7] [0, 1]] (.cont 0 ⟨[(2, D.ptr 0 0), (3, D.ptr 1 0), (7, D.int .i64 (IntKind.i64.wrap (((i3 : Int)) + (1))))], [Ob.box (Network.c a0_), Ob.box (Network.c a1_)]⟩) hΓ mix (by kernel_rfl) (ow ((ltm_true ixx (drop_cons hd3).2.1)) (ow (map_row ixx 1 (drop_cons hd3).1 rfl) (ow (at_row ixx 1 h101 rfl) (ow (h102) ow0)))) ?_
      refine (congrFun hS3 _).mpr ?_
      rw [i64_succ (drop_cons hd3).2.1 hm3]
      first | exact t | (simp only [List.map_append, List.map_cons, List.map_nil, List.map_set] at t ⊢; exact t)
theorem d_spec_l7SameForm_good {a0_ : Network} {a1_ : Network} {r : Bool} (h : d_spec_l7SameForm a0_ a1_ = some r) : Good Try.prog 109 [D.agg (Network.c a0_), D.agg (Network.c a1_)] (D.bool (r)) := by
  refine Good.of (c := bodyOf Try.f109) Try.func109 rfl (by decide) (by simp [Try.f109]) ?_
  intro hr Γ hΓ
  have hΓ : Γ.nt = 123 := hΓ
  rw [d_spec_l7SameForm] at h
  refine (show AW Try.prog Γ (bodyOf Try.f109) (KQ Try.prog Γ (fun _ _ => False) (RetQ Try.prog Try.f109 (D.bool (r))) []) _ from ?_)
  rcases den_if h with ⟨h1, h⟩ | ⟨h1, h⟩
  · have h := den_some h
    subst h
    exact AW_go (n := 2000) [[none]] [.b true, .b true, .b true, .b true, .b true, .b true, .b true, .b true, .b true, .b true, .b true, .b true, .b true, .b true, .b true, .b true, .b true] (.ret (D.bool (false))) hΓ mix (by kernel_rfl) (ow (h1) (ow (h1) (ow (h1) (ow (h1) (ow (h1) (ow (h1) (ow (h1) (ow (h1) (ow (show (true) = true from rfl) (ow (show (true) = true from rfl) (ow (show (true) = true from rfl) (ow (show (true) = true from rfl) (ow (show (true) = true from rfl) (ow (show (true) = true from rfl) (ow (show (true) = true from rfl) (ow (show (true) = true from rfl) (ow (show (true) = true from rfl) ow0))))))))))))))))) rfl
  · rcases den_if h with ⟨h2, h⟩ | ⟨h2, h⟩
    · have h := den_some h
      subst h
      exact AW_go (n := 2000) [[none]] [.b false, .b false, .b false, .b false, .b false, .b false, .b false, .b false, .b true, .b true, .b true, .b true, .b true, .b true, .b true, .b true, .b true] (.ret (D.bool (false))) hΓ mix (by kernel_rfl) (ow (h1) (ow (h1) (ow (h1) (ow (h1) (ow (h1) (ow (h1) (ow (h1) (ow (h1) (ow (h2) (ow (h2) (ow (h2) (ow (h2) (ow (h2) (ow (h2) (ow (h2) (ow (h2) (ow (show (true) = true from rfl) ow0))))))))))))))))) rfl
    · rcases den_if h with ⟨h3, h⟩ | ⟨h3, h⟩
      · have h := den_some h
        subst h
        exact AW_go (n := 2000) [[none]] [.b false, .b false, .b false, .b false, .b false, .b false, .b false, .b false, .b false, .b false, .b false, .b false, .b false, .b false, .b false, .b false, .b true] (.ret (D.bool (false))) hΓ mix (by kernel_rfl) (ow (h1) (ow (h1) (ow (h1) (ow (h1) (ow (h1) (ow (h1) (ow (h1) (ow (h1) (ow (h2) (ow (h2) (ow (h2) (ow (h2) (ow (h2) (ow (h2) (ow (h2) (ow (h2) (ow (h3) ow0))))))))))))))))) rfl
      · refine AW_go (n := 2000) [[none]] [.b false, .b false, .b false, .b false, .b false, .b false, .b false, .b false, .b false, .b false, .b false, .b false, .b false, .b false, .b false, .b false, .b false, .cn [2, 3, 5] [0, 1]] (.lp (dig (bodyOf Try.f109) [1, 1, 0, 1, 0, 0] []).1 (dig (bodyOf Try.f109) [1, 1, 0, 1, 0] []).2 ⟨[(2, D.ptr 0 0), (3, D.ptr 1 0), (5, D.int .i64 (0))], [Ob.box (Network.c a0_), Ob.box (Network.c a1_)]⟩) hΓ mix (by kernel_rfl) (ow (h1) (ow (h1) (ow (h1) (ow (h1) (ow (h1) (ow (h1) (ow (h1) (ow (h1) (ow (h2) (ow (h2) (ow (h2) (ow (h2) (ow (h2) (ow (h2) (ow (h2) (ow (h2) (ow (h3) ow0))))))))))))))))) (AW_st (by first | rfl | (simp only [List.map_append, List.map_cons, List.map_nil, List.map_set, List.map_replicate] <;> rfl)) (AW_of_r (d_spec_l7SameForm_L1w hΓ (fun h => ?_) (by have := (Rdb.sl (Rdb.agg (hr _ (List.mem_of_getElem? (i := 0) rfl)) (.sl ((a0_.alphas).map Alpha.c)) (by simp))).1; simpa using this) (a0_.alphas) 0  rfl h)))
        refine AW_go (n := 2000) [[none]] [.cn [2, 3, 6] [0, 1]] (.lp (dig (bodyOf Try.f109) [1, 1, 1, 0, 1, 0, 0] []).1 (dig (bodyOf Try.f109) [1, 1, 1, 0, 1, 0] []).2 ⟨[(2, D.ptr 0 0), (3, D.ptr 1 0), (6, D.int .i64 (0))], [Ob.box (Network.c a0_), Ob.box (Network.c a1_)]⟩) hΓ mix (by kernel_rfl) ow0 (AW_st (by first | rfl | (simp only [List.map_append, List.map_cons, List.map_nil, List.map_set, List.map_replicate] <;> rfl)) (AW_of_r (d_spec_l7SameForm_L2w hΓ (fun h => ?_) (by have := (Rdb.sl (Rdb.agg (hr _ (List.mem_of_getElem? (i := 0) rfl)) (.sl ((a0_.nodes).map Node.c)) (by simp))).1; simpa using this) (a0_.nodes) 0  rfl h)))
        refine AW_go (n := 2000) [[none]] [.cn [2, 3, 7] [0, 1]] (.lp (dig (bodyOf Try.f109) [1, 1, 1, 1, 0, 1, 0, 0] []).1 (dig (bodyOf Try.f109) [1, 1, 1, 1, 0, 1, 0] []).2 ⟨[(2, D.ptr 0 0), (3, D.ptr 1 0), (7, D.int .i64 (0))], [Ob.box (Network.c a0_), Ob.box (Network.c a1_)]⟩) hΓ mix (by kernel_rfl) ow0 (AW_st (by first | rfl | (simp only [List.map_append, List.map_cons, List.map_nil, List.map_set, List.map_replicate] <;> rfl)) (AW_of_r (d_spec_l7SameForm_L3w hΓ (fun h => ?_) (by have := (Rdb.sl (Rdb.agg (hr _ (List.mem_of_getElem? (i := 0) rfl)) (.sl ((a0_.ends).map ixx)) (by simp))).1; simpa using this) (a0_.ends) 0  rfl h)))
        have h := den_some h
        subst h
        exact AW_go (n := 2000) [[none]] [] (.ret (D.bool (true))) hΓ mix (by kernel_rfl) ow0 rfl
def d_spec_SameFacts_L1 (a0_ : List Fact) (a1_ : List Fact) (k1 : Option Bool) : List Fact → Nat → Option Bool
  | [], i1 => (k1 )
  | x1_ :: xs1, i1 => ((atI (a1_) ((i1 : Int))).bind fun x30 => ((d_spec_l2Same (x1_) (x30)).bind fun y32 => (bif !(y32) then (some (false)) else (d_spec_SameFacts_L1 a0_ a1_ k1 xs1 (i1 + 1) ))))
def d_spec_SameFacts (a0_ : List Fact) (a1_ : List Fact) : Option Bool := (bif ((((a0_).map Fact.c).length : Int) : Int) != ((((a1_).map Fact.c).length : Int)) then (some (false)) else (d_spec_SameFacts_L1 a0_ a1_ (some (true)) (a0_) 0 ))
theorem d_spec_SameFacts_L1w {Γ : Ctx} (hΓ : Γ.nt = 27) {N : Nat → St → Prop} {a0_ : List Fact} {a1_ : List Fact} {r : Bool} {k1 : Option Bool} (hE1 : k1 = some r → AW Try.prog Γ (dig (bodyOf Try.f110) [1, 1, 1] []).1 (KQ Try.prog Γ N (RetQ Try.prog Try.f110 (D.bool (r))) (dig (bodyOf Try.f110) [1, 1, 1] []).2) ⟨[], []⟩) (hm1 : (a0_).length ≤ maxLen) : ∀ (rest : List Fact) (i1 : Nat) , (a0_).drop i1 = rest → d_spec_SameFacts_L1 a0_ a1_ k1 rest i1  = some r → AWr Try.prog Γ (dig (bodyOf Try.f110) [1, 1, 0, 1, 0, 0] []).1 (KQ Try.prog Γ N (RetQ Try.prog Try.f110 (D.bool (r))) (dig (bodyOf Try.f110) [1, 1, 0, 1, 0] []).2) (rest.length + 1) ⟨[(0, D.sl ((a0_).map Fact.c)), (1, D.sl ((a1_).map Fact.c)), (5, D.int .i64 ((i1 : Int)))], []⟩ := by
  intro rest
  induction rest with
  | nil =>
    intro i1  hd1 h
    rw [d_spec_SameFacts_L1] at h
    refine AWr_succ fun N1 hN1 hS1 => ?_
    have t := AW_N (N := N) (N' := N1) (K0 := (dig (bodyOf Try.f110) [1, 1, 0, 1, 0] []).2) (by kernel_rfl) hN1 (hE1  h)
    refine AW_go (n := 2000) [[none]] [.b false, .hl 0 [] []] (.at_ (dig (bodyOf Try.f110) [1, 1, 1] []).1 (dig (bodyOf Try.f110) [1, 1, 1] []).2 ⟨[], []⟩) hΓ mix (by kernel_rfl) (ow ((ltm_false Fact.c (drop_nil hd1))) ow0) ?_
    first | exact t | (simp only [List.map_append, List.map_cons, List.map_nil, List.map_set] at t ⊢; exact t)
  | cons x1_ xs1 ih1 =>
    intro i1  hd1 h
    rw [d_spec_SameFacts_L1] at h
    refine AWr_succ fun N1 hN1 hS1 => ?_
    obtain ⟨x30, h31, h⟩ := den_bind h
    obtain ⟨y32, h33, h⟩ := den_bind h
    rcases den_if h with ⟨h34, h⟩ | ⟨h34, h⟩
    · have h := den_some h
      subst h
      exact AW_go (n := 2000) [[none]] [.b true, .n 8, .row (Fact.c x1_), .row (Fact.c x30), .d (D.bool (y32)), .b true] (.ret (D.bool (false))) hΓ mix (by kernel_rfl) (ow ((ltm_true Fact.c (drop_cons hd1).2.1)) (ow (map_row Fact.c 2 (drop_cons hd1).1 rfl) (ow (at_row Fact.c 2 h31 rfl) (ow (d_spec_l2Same_good h33) (ow (h34) ow0))))) rfl
    · have t := ih1 (i1 + 1)  (drop_cons hd1).2.2 h
      refine AW_go (n := 2000) [[none]] [.b true, .n 8, .row (Fact.c x1_), .row (Fact.c x30), .d (D.bool (y32)), .b false, .cn [0, 1, 5] []] (.cont 0 ⟨[(0, D.sl ((a0_).map Fact.c)), (1, D.sl ((a1_).map Fact.c)), (5, D.int .i64 (IntKind.i64.wrap (((i1 : Int)) + (1))))], []⟩) hΓ mix (by kernel_rfl) (ow ((ltm_true Fact.c (drop_cons hd1).2.1)) (ow (map_row Fact.c 2 (drop_cons hd1).1 rfl) (ow (at_row Fact.c 2 h31 rfl) (ow (d_spec_l2Same_good h33) (ow (h34) ow0))))) ?_
      refine (congrFun hS1 _).mpr ?_
      rw [i64_succ (drop_cons hd1).2.1 hm1]
      first | exact t | (simp only [List.map_append, List.map_cons, List.map_nil, List.map_set] at t ⊢; exact t)
theorem d_spec_SameFacts_good {a0_ : List Fact} {a1_ : List Fact} {r : Bool} (h : d_spec_SameFacts a0_ a1_ = some r) : Good Try.prog 110 [D.sl ((a0_).map Fact.c), D.sl ((a1_).map Fact.c)] (D.bool (r)) := by
  refine Good.of (c := bodyOf Try.f110) Try.func110 rfl (by decide) (by simp [Try.f110]) ?_
  intro hr Γ hΓ
  have hΓ : Γ.nt = 27 := hΓ
  rw [d_spec_SameFacts] at h
  refine (show AW Try.prog Γ (bodyOf Try.f110) (KQ Try.prog Γ (fun _ _ => False) (RetQ Try.prog Try.f110 (D.bool (r))) []) _ from ?_)
  rcases den_if h with ⟨h1, h⟩ | ⟨h1, h⟩
  · have h := den_some h
    subst h
    exact AW_go (n := 2000) [[none]] [.b true] (.ret (D.bool (false))) hΓ mix (by kernel_rfl) (ow (h1) ow0) rfl
  · refine AW_go (n := 2000) [[none]] [.b false, .cn [0, 1, 5] []] (.lp (dig (bodyOf Try.f110) [1, 1, 0, 1, 0, 0] []).1 (dig (bodyOf Try.f110) [1, 1, 0, 1, 0] []).2 ⟨[(0, D.sl ((a0_).map Fact.c)), (1, D.sl ((a1_).map Fact.c)), (5, D.int .i64 (0))], []⟩) hΓ mix (by kernel_rfl) (ow (h1) ow0) (AW_st (by first | rfl | (simp only [List.map_append, List.map_cons, List.map_nil, List.map_set, List.map_replicate] <;> rfl)) (AW_of_r (d_spec_SameFacts_L1w hΓ (fun h => ?_) (by have := (Rdb.sl (hr _ (List.mem_of_getElem? (i := 0) rfl))).1; simpa using this) (a0_) 0  rfl h)))
    have h := den_some h
    subst h
    exact AW_go (n := 2000) [[none]] [] (.ret (D.bool (true))) hΓ mix (by kernel_rfl) ow0 rfl
def d_spec_SameRule_L1 (a0_ : Rule) (a1_ : Rule) (k1 : Option Bool) : List Cond → Nat → Option Bool
  | [], i1 => (k1 )
  | x1_ :: xs1, i1 => ((atI (a1_.conds) ((i1 : Int))).bind fun x33 => ((d_spec_SameCond (x1_) (x33)).bind fun y35 => (bif !(y35) then (some (false)) else (d_spec_SameRule_L1 a0_ a1_ k1 xs1 (i1 + 1) ))))
def d_spec_SameRule_L2 (a0_ : Rule) (a1_ : Rule) (k2 : Option Bool) : List Action → Nat → Option Bool
  | [], i2 => (k2 )
  | x2_ :: xs2, i2 => ((atI (a1_.acts) ((i2 : Int))).bind fun x70 => (bif (x2_.kind : Int) != (x70.kind) then (some (false)) else ((d_spec_SamePattern (x2_.pat) (x70.pat)).bind fun y73 => (bif !(y73) then (some (false)) else (d_spec_SameRule_L2 a0_ a1_ k2 xs2 (i2 + 1) )))))
def d_spec_SameRule (a0_ : Rule) (a1_ : Rule) : Option Bool := (bif !((a0_.name : Bytes) == (a1_.name)) then (some (false)) else (bif (a0_.prio : Int) != (a1_.prio) then (some (false)) else (bif ((((a0_.conds).map Cond.c).length : Int) : Int) != ((((a1_.conds).map Cond.c).length : Int)) then (some (false)) else (bif ((((a0_.acts).map Action.c).length : Int) : Int) != ((((a1_.acts).map Action.c).length : Int)) then (some (false)) else (d_spec_SameRule_L1 a0_ a1_ (d_spec_SameRule_L2 a0_ a1_ (some (true)) (a0_.acts) 0 ) (a0_.conds) 0 )))))
theorem d_spec_SameRule_L1w {Γ : Ctx} (hΓ : Γ.nt = 92) {N : Nat → St → Prop} {a0_ : Rule} {a1_ : Rule} {r : Bool} {k1 : Option Bool} (hE1 : k1 = some r → AW Try.prog Γ (dig (bodyOf Try.f111) [1, 1, 1] []).1 (KQ Try.prog Γ N (RetQ Try.prog Try.f111 (D.bool (r))) (dig (bodyOf Try.f111) [1, 1, 1] []).2) ⟨[(2, D.ptr 0 0), (3, D.ptr 1 0)], [Ob.box (Rule.c a0_), Ob.box (Rule.c a1_)]⟩) (hm1 : (a0_.conds).length ≤ maxLen) : ∀ (rest : List Cond) (i1 : Nat) , (a0_.conds).drop i1 = rest → d_spec_SameRule_L1 a0_ a1_ k1 rest i1  = some r → AWr Try.prog Γ (dig (bodyOf Try.f111) [1, 1, 0, 1, 0, 0] []).1 (KQ Try.prog Γ N (RetQ Try.prog Try.f111 (D.bool (r))) (dig (bodyOf Try.f111) [1, 1, 0, 1, 0] []).2) (rest.length + 1) ⟨[(2, D.ptr 0 0), (3, D.ptr 1 0), (5, D.int .i64 ((i1 : Int)))], [Ob.box (Rule.c a0_), Ob.box (Rule.c a1_)]⟩ := by
  intro rest
  induction rest with
  | nil =>
    intro i1  hd1 h
    rw [d_spec_SameRule_L1] at h
    refine AWr_succ fun N1 hN1 hS1 => ?_
    have t := AW_N (N := N) (N' := N1) (K0 := (dig (bodyOf Try.f111) [1, 1, 0, 1, 0] []).2) (by kernel_rfl) hN1 (hE1  h)
    refine AW_go (n := 2000) [[none]] [.b false, .hl 0 [2, 3] [0, 1]] (.at_ (dig (bodyOf Try.f111) [1, 1, 1] []).1 (dig (bodyOf Try.f111) [1, 1, 1] []).2 ⟨[(2, D.ptr 0 0), (3, D.ptr 1 0)], [Ob.box (Rule.c a0_), Ob.box (Rule.c a1_)]⟩) hΓ mix (by kernel_rfl) (ow ((ltm_false Cond.c (drop_nil hd1))) ow0) ?_
    first | exact t | (simp only [List.map_append, List.map_cons, List.map_nil, List.map_set] at t ⊢; exact t)
  | cons x1_ xs1 ih1 =>
    intro i1  hd1 h
    rw [d_spec_SameRule_L1] at h
    refine AWr_succ fun N1 hN1 hS1 => ?_
    obtain ⟨x33, h34, h⟩ := den_bind h
    obtain ⟨y35, h36, h⟩ := den_bind h
    rcases den_if h with ⟨h37, h⟩ | ⟨h37, h⟩
    · have h := den_some h
      subst h
      exact AW_go (n := 2000) [[none]] [.b true, .n 10, .row (Cond.c x1_), .row (Cond.c x33), .d (D.bool (y35)), .b true] (.ret (D.bool (false))) hΓ mix (by kernel_rfl) (ow ((ltm_true Cond.c (drop_cons hd1).2.1)) (ow (map_row Cond.c 5 (drop_cons hd1).1 rfl) (ow (at_row Cond.c 5 h34 rfl) (ow (d_spec_SameCond_good h36) (ow (h37) ow0))))) rfl
    · have t := ih1 (i1 + 1)  (drop_cons hd1).2.2 h
      refine AW_go (n := 2000) [[none]] [.b true, .n 10, .row (Cond.c x1_), .row (Cond.c x33), .d (D.bool (y35)), .b false, .cn [2, 3, 5] [0, 1]] (.cont 0 ⟨[(2, D.ptr 0 0), (3, D.ptr 1 0), (5, D.int .i64 (IntKind.i64.wrap (((i1 : Int)) + (1))))], [Ob.box (Rule.c a0_), Ob.box (Rule.c a1_)]⟩) hΓ mix (by kernel_rfl) (ow ((ltm_true Cond.c (drop_cons hd1).2.1)) (ow (map_row Cond.c 5 (drop_cons hd1).1 rfl) (ow (at_row Cond.c 5 h34 rfl) (ow (d_spec_SameCond_good h36) (ow (h37) ow0))))) ?_
      refine (congrFun hS1 _).mpr ?_
      rw [i64_succ (drop_cons hd1).2.1 hm1]
      first | exact t | (simp only [List.map_append, List.map_cons, List.map_nil, List.map_set] at t ⊢; exact t)
theorem d_spec_SameRule_L2w {Γ : Ctx} (hΓ : Γ.nt = 92) {N : Nat → St → Prop} {a0_ : Rule} {a1_ : Rule} {r : Bool} {k2 : Option Bool} (hE2 : k2 = some r → AW Try.prog Γ (dig (bodyOf Try.f111) [1, 1, 1, 1] []).1 (KQ Try.prog Γ N (RetQ Try.prog Try.f111 (D.bool (r))) (dig (bodyOf Try.f111) [1, 1, 1, 1] []).2) ⟨[], []⟩) (hm2 : (a0_.acts).length ≤ maxLen) : ∀ (rest : List Action) (i2 : Nat) , (a0_.acts).drop i2 = rest → d_spec_SameRule_L2 a0_ a1_ k2 rest i2  = some r → AWr Try.prog Γ (dig (bodyOf Try.f111) [1, 1, 1, 0, 1, 0, 0] []).1 (KQ Try.prog Γ N (RetQ Try.prog Try.f111 (D.bool (r))) (dig (bodyOf Try.f111) [1, 1, 1, 0, 1, 0] []).2) (rest.length + 1) ⟨[(2, D.ptr 0 0), (3, D.ptr 1 0), (6, D.int .i64 ((i2 : Int)))], [Ob.box (Rule.c a0_), Ob.box (Rule.c a1_)]⟩ := by
  intro rest
  induction rest with
  | nil =>
    intro i2  hd2 h
    rw [d_spec_SameRule_L2] at h
    refine AWr_succ fun N2 hN2 hS2 => ?_
    have t := AW_N (N := N) (N' := N2) (K0 := (dig (bodyOf Try.f111) [1, 1, 1, 0, 1, 0] []).2) (by kernel_rfl) hN2 (hE2  h)
    refine AW_go (n := 2000) [[none]] [.b false, .hl 0 [] []] (.at_ (dig (bodyOf Try.f111) [1, 1, 1, 1] []).1 (dig (bodyOf Try.f111) [1, 1, 1, 1] []).2 ⟨[], []⟩) hΓ mix (by kernel_rfl) (ow ((ltm_false Action.c (drop_nil hd2))) ow0) ?_
    first | exact t | (simp only [List.map_append, List.map_cons, List.map_nil, List.map_set] at t ⊢; exact t)
  | cons x2_ xs2 ih2 =>
    intro i2  hd2 h
    rw [d_spec_SameRule_L2] at h
    refine AWr_succ fun N2 hN2 hS2 => ?_
    obtain ⟨x70, h71, h⟩ := den_bind h
    rcases den_if h with ⟨h72, h⟩ | ⟨h72, h⟩
    · have h := den_some h
      subst h
      exact AW_go (n := 2000) [[none]] [.b true, .n 26, .row (Action.c x2_), .row (Action.c x70), .b true, .b true, .b true, .b true, .b true, .b true, .b true, .b true, .b true, .b true, .b true, .b true, .b true, .b true, .b true, .b true] (.ret (D.bool (false))) hΓ mix (by kernel_rfl) (ow ((ltm_true Action.c (drop_cons hd2).2.1)) (ow (map_row Action.c 3 (drop_cons hd2).1 rfl) (ow (at_row Action.c 3 h71 rfl) (ow (h72) (ow (h72) (ow (h72) (ow (h72) (ow (h72) (ow (h72) (ow (h72) (ow (h72) (ow (h72) (ow (h72) (ow (h72) (ow (h72) (ow (h72) (ow (h72) (ow (h72) (ow (show (true) = true from rfl) ow0))))))))))))))))))) rfl
    · obtain ⟨y73, h74, h⟩ := den_bind h
      rcases den_if h with ⟨h75, h⟩ | ⟨h75, h⟩
      · have h := den_some h
        subst h
        exact AW_go (n := 2000) [[none]] [.b true, .n 26, .row (Action.c x2_), .row (Action.c x70), .b false, .b false, .b false, .b false, .row (Action.c x2_), .b false, .b false, .b false, .b false, .b false, .b false, .row (Action.c x70), .b false, .b false, .b false, .d (D.bool (y73)), .b false, .b false, .b true] (.ret (D.bool (false))) hΓ mix (by kernel_rfl) (ow ((ltm_true Action.c (drop_cons hd2).2.1)) (ow (map_row Action.c 3 (drop_cons hd2).1 rfl) (ow (at_row Action.c 3 h71 rfl) (ow (h72) (ow (h72) (ow (h72) (ow (h72) (ow (map_row Action.c 3 (drop_cons hd2).1 rfl) (ow (h72) (ow (h72) (ow (h72) (ow (h72) (ow (h72) (ow (h72) (ow (at_row Action.c 3 h71 rfl) (ow (h72) (ow (h72) (ow (h72) (ow (d_spec_SamePattern_good h74) (ow (h72) (ow (h72) (ow (h75) ow0)))))))))))))))))))))) rfl
      · have t := ih2 (i2 + 1)  (drop_cons hd2).2.2 h
        refine AW_go (n := 2000) [[none]] [.b true, .n 26, .row (Action.c x2_), .row (Action.c x70), .b false, .b false, .b false, .b false, .row (Action.c x2_), .b false, .b false, .b false, .b false, .b false, .b false, .row (Action.c x70), .b false, .b false, .b false, .d (D.bool (y73)), .b false, .b false, .b false, .cn [2, 3, 6] [0, 1]] (.cont 0 ⟨[(2, D.ptr 0 0), (3, D.ptr 1 0), (6, D.int .i64 (IntKind.i64.wrap (((i2 : Int)) + (1))))], [Ob.box (Rule.c a0_), Ob.box (Rule.c a1_)]⟩) hΓ mix (by kernel_rfl) (ow ((ltm_true Action.c (drop_cons hd2).2.1)) (ow (map_row Action.c 3 (drop_cons hd2).1 rfl) (ow (at_row Action.c 3 h71 rfl) (ow (h72) (ow (h72) (ow (h72) (ow (h72) (ow (map_row Action.c 3 (drop_cons hd2).1 rfl) (ow (h72) (ow (h72) (ow (h72) (ow (h72) (ow (h72) (ow (h72) (ow (at_row Action.c 3 h71 rfl) (ow (h72) (ow (h72) (ow (h72) (ow (d_spec_SamePattern_good h74) (ow (h72) (ow (h72) (ow (h75) ow0)))))))))))))))))))))) ?_
        refine (congrFun hS2 _).mpr ?_
        rw [i64_succ (drop_cons hd2).2.1 hm2]
        first | exact t | (simp only [List.map_append, List.map_cons, List.map_nil, List.map_set] at t ⊢; exact t)
theorem d_spec_SameRule_good {a0_ : Rule} {a1_ : Rule} {r : Bool} (h : d_spec_SameRule a0_ a1_ = some r) : Good Try.prog 111 [D.agg (Rule.c a0_), D.agg (Rule.c a1_)] (D.bool (r)) := by
  refine Good.of (c := bodyOf Try.f111) Try.func111 rfl (by decide) (by simp [Try.f111]) ?_
  intro hr Γ hΓ
  have hΓ : Γ.nt = 92 := hΓ
  rw [d_spec_SameRule] at h
  refine (show AW Try.prog Γ (bodyOf Try.f111) (KQ Try.prog Γ (fun _ _ => False) (RetQ Try.prog Try.f111 (D.bool (r))) []) _ from ?_)
  rcases den_if h with ⟨h1, h⟩ | ⟨h1, h⟩
  · have h := den_some h
    subst h
    exact AW_go (n := 2000) [[none]] [.b true, .b true, .b true, .b true, .b true, .b true, .b true, .b true, .b true, .b true, .b true, .b true, .b true, .b true, .b true, .b true, .b true, .b true, .b true, .b true, .b true, .b true, .b true] (.ret (D.bool (false))) hΓ mix (by kernel_rfl) (ow (h1) (ow (h1) (ow (h1) (ow (h1) (ow (h1) (ow (h1) (ow (show (true) = true from rfl) (ow (show (true) = true from rfl) (ow (show (true) = true from rfl) (ow (show (true) = true from rfl) (ow (show (true) = true from rfl) (ow (show (true) = true from rfl) (ow (show (true) = true from rfl) (ow (show (true) = true from rfl) (ow (show (true) = true from rfl) (ow (show (true) = true from rfl) (ow (show (true) = true from rfl) (ow (show (true) = true from rfl) (ow (show (true) = true from rfl) (ow (show (true) = true from rfl) (ow (show (true) = true from rfl) (ow (show (true) = true from rfl) (ow (show (true) = true from rfl) ow0))))))))))))))))))))))) rfl
  · rcases den_if h with ⟨h2, h⟩ | ⟨h2, h⟩
    · have h := den_some h
      subst h
      exact AW_go (n := 2000) [[none]] [.b false, .b false, .b false, .b false, .b false, .b false, .b true, .b true, .b true, .b true, .b true, .b true, .b true, .b true, .b true, .b true, .b true, .b true, .b true, .b true, .b true, .b true, .b true] (.ret (D.bool (false))) hΓ mix (by kernel_rfl) (ow (h1) (ow (h1) (ow (h1) (ow (h1) (ow (h1) (ow (h1) (ow (h2) (ow (h2) (ow (h2) (ow (h2) (ow (h2) (ow (h2) (ow (h2) (ow (h2) (ow (show (true) = true from rfl) (ow (show (true) = true from rfl) (ow (show (true) = true from rfl) (ow (show (true) = true from rfl) (ow (show (true) = true from rfl) (ow (show (true) = true from rfl) (ow (show (true) = true from rfl) (ow (show (true) = true from rfl) (ow (show (true) = true from rfl) ow0))))))))))))))))))))))) rfl
    · rcases den_if h with ⟨h3, h⟩ | ⟨h3, h⟩
      · have h := den_some h
        subst h
        exact AW_go (n := 2000) [[none]] [.b false, .b false, .b false, .b false, .b false, .b false, .b false, .b false, .b false, .b false, .b false, .b false, .b false, .b false, .b true, .b true, .b true, .b true, .b true, .b true, .b true, .b true, .b true] (.ret (D.bool (false))) hΓ mix (by kernel_rfl) (ow (h1) (ow (h1) (ow (h1) (ow (h1) (ow (h1) (ow (h1) (ow (h2) (ow (h2) (ow (h2) (ow (h2) (ow (h2) (ow (h2) (ow (h2) (ow (h2) (ow (h3) (ow (h3) (ow (h3) (ow (h3) (ow (h3) (ow (h3) (ow (h3) (ow (h3) (ow (show (true) = true from rfl) ow0))))))))))))))))))))))) rfl
      · rcases den_if h with ⟨h4, h⟩ | ⟨h4, h⟩
        · have h := den_some h
          subst h
          exact AW_go (n := 2000) [[none]] [.b false, .b false, .b false, .b false, .b false, .b false, .b false, .b false, .b false, .b false, .b false, .b false, .b false, .b false, .b false, .b false, .b false, .b false, .b false, .b false, .b false, .b false, .b true] (.ret (D.bool (false))) hΓ mix (by kernel_rfl) (ow (h1) (ow (h1) (ow (h1) (ow (h1) (ow (h1) (ow (h1) (ow (h2) (ow (h2) (ow (h2) (ow (h2) (ow (h2) (ow (h2) (ow (h2) (ow (h2) (ow (h3) (ow (h3) (ow (h3) (ow (h3) (ow (h3) (ow (h3) (ow (h3) (ow (h3) (ow (h4) ow0))))))))))))))))))))))) rfl
        · refine AW_go (n := 2000) [[none]] [.b false, .b false, .b false, .b false, .b false, .b false, .b false, .b false, .b false, .b false, .b false, .b false, .b false, .b false, .b false, .b false, .b false, .b false, .b false, .b false, .b false, .b false, .b false, .cn [2, 3, 5] [0, 1]] (.lp (dig (bodyOf Try.f111) [1, 1, 0, 1, 0, 0] []).1 (dig (bodyOf Try.f111) [1, 1, 0, 1, 0] []).2 ⟨[(2, D.ptr 0 0), (3, D.ptr 1 0), (5, D.int .i64 (0))], [Ob.box (Rule.c a0_), Ob.box (Rule.c a1_)]⟩) hΓ mix (by kernel_rfl) (ow (h1) (ow (h1) (ow (h1) (ow (h1) (ow (h1) (ow (h1) (ow (h2) (ow (h2) (ow (h2) (ow (h2) (ow (h2) (ow (h2) (ow (h2) (ow (h2) (ow (h3) (ow (h3) (ow (h3) (ow (h3) (ow (h3) (ow (h3) (ow (h3) (ow (h3) (ow (h4) ow0))))))))))))))))))))))) (AW_st (by first | rfl | (simp only [List.map_append, List.map_cons, List.map_nil, List.map_set, List.map_replicate] <;> rfl)) (AW_of_r (d_spec_SameRule_L1w hΓ (fun h => ?_) (by have := (Rdb.sl (Rdb.agg (hr _ (List.mem_of_getElem? (i := 0) rfl)) (.sl ((a0_.conds).map Cond.c)) (by simp))).1; simpa using this) (a0_.conds) 0  rfl h)))
          refine AW_go (n := 2000) [[none]] [.cn [2, 3, 6] [0, 1]] (.lp (dig (bodyOf Try.f111) [1, 1, 1, 0, 1, 0, 0] []).1 (dig (bodyOf Try.f111) [1, 1, 1, 0, 1, 0] []).2 ⟨[(2, D.ptr 0 0), (3, D.ptr 1 0), (6, D.int .i64 (0))], [Ob.box (Rule.c a0_), Ob.box (Rule.c a1_)]⟩) hΓ mix (by kernel_rfl) ow0 (AW_st (by first | rfl | (simp only [List.map_append, List.map_cons, List.map_nil, List.map_set, List.map_replicate] <;> rfl)) (AW_of_r (d_spec_SameRule_L2w hΓ (fun h => ?_) (by have := (Rdb.sl (Rdb.agg (hr _ (List.mem_of_getElem? (i := 0) rfl)) (.sl ((a0_.acts).map Action.c)) (by simp))).1; simpa using this) (a0_.acts) 0  rfl h)))
          have h := den_some h
          subst h
          exact AW_go (n := 2000) [[none]] [] (.ret (D.bool (true))) hΓ mix (by kernel_rfl) ow0 rfl
def d_spec_l6SameBinding_L1 (a0_ : List Pair) (a1_ : List Pair) (k1 : Option Bool) : List Pair → Nat → Option Bool
  | [], i1 => (k1 )
  | x1_ :: xs1, i1 => ((atI (a1_) ((i1 : Int))).bind fun x22 => (bif !((x1_.var : Bytes) == (x22.var) && (x1_.value : Bytes) == (x22.value)) then (some (false)) else (d_spec_l6SameBinding_L1 a0_ a1_ k1 xs1 (i1 + 1) )))
def d_spec_l6SameBinding (a0_ : List Pair) (a1_ : List Pair) : Option Bool := (bif ((((a0_).map Pair.c).length : Int) : Int) != ((((a1_).map Pair.c).length : Int)) then (some (false)) else (d_spec_l6SameBinding_L1 a0_ a1_ (some (true)) (a0_) 0 ))
theorem d_spec_l6SameBinding_L1w {Γ : Ctx} (hΓ : Γ.nt = 26) {N : Nat → St → Prop} {a0_ : List Pair} {a1_ : List Pair} {r : Bool} {k1 : Option Bool} (hE1 : k1 = some r → AW Try.prog Γ (dig (bodyOf Try.f162) [1, 1, 1] []).1 (KQ Try.prog Γ N (RetQ Try.prog Try.f162 (D.bool (r))) (dig (bodyOf Try.f162) [1, 1, 1] []).2) ⟨[], []⟩) (hm1 : (a0_).length ≤ maxLen) : ∀ (rest : List Pair) (i1 : Nat) , (a0_).drop i1 = rest → d_spec_l6SameBinding_L1 a0_ a1_ k1 rest i1  = some r → AWr Try.prog Γ (dig (bodyOf Try.f162) [1, 1, 0, 1, 0, 0] []).1 (KQ Try.prog Γ N (RetQ Try.prog Try.f162 (D.bool (r))) (dig (bodyOf Try.f162) [1, 1, 0, 1, 0] []).2) (rest.length + 1) ⟨[(0, D.sl ((a0_).map Pair.c)), (1, D.sl ((a1_).map Pair.c)), (5, D.int .i64 ((i1 : Int)))], []⟩ := by
  intro rest
  induction rest with
  | nil =>
    intro i1  hd1 h
    rw [d_spec_l6SameBinding_L1] at h
    refine AWr_succ fun N1 hN1 hS1 => ?_
    have t := AW_N (N := N) (N' := N1) (K0 := (dig (bodyOf Try.f162) [1, 1, 0, 1, 0] []).2) (by kernel_rfl) hN1 (hE1  h)
    refine AW_go (n := 2000) [[none]] [.b false, .hl 0 [] []] (.at_ (dig (bodyOf Try.f162) [1, 1, 1] []).1 (dig (bodyOf Try.f162) [1, 1, 1] []).2 ⟨[], []⟩) hΓ mix (by kernel_rfl) (ow ((ltm_false Pair.c (drop_nil hd1))) ow0) ?_
    first | exact t | (simp only [List.map_append, List.map_cons, List.map_nil, List.map_set] at t ⊢; exact t)
  | cons x1_ xs1 ih1 =>
    intro i1  hd1 h
    rw [d_spec_l6SameBinding_L1] at h
    refine AWr_succ fun N1 hN1 hS1 => ?_
    obtain ⟨x22, h23, h⟩ := den_bind h
    rcases den_if h with ⟨h24, h⟩ | ⟨h24, h⟩
    · have h := den_some h
      subst h
      exact AW_go (n := 2000) [[none]] [.b true, .n 8, .row (Pair.c x1_), .row (Pair.c x22), .b true] (.ret (D.bool (false))) hΓ mix (by kernel_rfl) (ow ((ltm_true Pair.c (drop_cons hd1).2.1)) (ow (map_row Pair.c 2 (drop_cons hd1).1 rfl) (ow (at_row Pair.c 2 h23 rfl) (ow (h24) ow0)))) rfl
    · have t := ih1 (i1 + 1)  (drop_cons hd1).2.2 h
      refine AW_go (n := 2000) [[none]] [.b true, .n 8, .row (Pair.c x1_), .row (Pair.c x22), .b false, .cn [0, 1, 5] []] (.cont 0 ⟨[(0, D.sl ((a0_).map Pair.c)), (1, D.sl ((a1_).map Pair.c)), (5, D.int .i64 (IntKind.i64.wrap (((i1 : Int)) + (1))))], []⟩) hΓ mix (by kernel_rfl) (ow ((ltm_true Pair.c (drop_cons hd1).2.1)) (ow (map_row Pair.c 2 (drop_cons hd1).1 rfl) (ow (at_row Pair.c 2 h23 rfl) (ow (h24) ow0)))) ?_
      refine (congrFun hS1 _).mpr ?_
      rw [i64_succ (drop_cons hd1).2.1 hm1]
      first | exact t | (simp only [List.map_append, List.map_cons, List.map_nil, List.map_set] at t ⊢; exact t)
theorem d_spec_l6SameBinding_good {a0_ : List Pair} {a1_ : List Pair} {r : Bool} (h : d_spec_l6SameBinding a0_ a1_ = some r) : Good Try.prog 162 [D.sl ((a0_).map Pair.c), D.sl ((a1_).map Pair.c)] (D.bool (r)) := by
  refine Good.of (c := bodyOf Try.f162) Try.func162 rfl (by decide) (by simp [Try.f162]) ?_
  intro hr Γ hΓ
  have hΓ : Γ.nt = 26 := hΓ
  rw [d_spec_l6SameBinding] at h
  refine (show AW Try.prog Γ (bodyOf Try.f162) (KQ Try.prog Γ (fun _ _ => False) (RetQ Try.prog Try.f162 (D.bool (r))) []) _ from ?_)
  rcases den_if h with ⟨h1, h⟩ | ⟨h1, h⟩
  · have h := den_some h
    subst h
    exact AW_go (n := 2000) [[none]] [.b true] (.ret (D.bool (false))) hΓ mix (by kernel_rfl) (ow (h1) ow0) rfl
  · refine AW_go (n := 2000) [[none]] [.b false, .cn [0, 1, 5] []] (.lp (dig (bodyOf Try.f162) [1, 1, 0, 1, 0, 0] []).1 (dig (bodyOf Try.f162) [1, 1, 0, 1, 0] []).2 ⟨[(0, D.sl ((a0_).map Pair.c)), (1, D.sl ((a1_).map Pair.c)), (5, D.int .i64 (0))], []⟩) hΓ mix (by kernel_rfl) (ow (h1) ow0) (AW_st (by first | rfl | (simp only [List.map_append, List.map_cons, List.map_nil, List.map_set, List.map_replicate] <;> rfl)) (AW_of_r (d_spec_l6SameBinding_L1w hΓ (fun h => ?_) (by have := (Rdb.sl (hr _ (List.mem_of_getElem? (i := 0) rfl))).1; simpa using this) (a0_) 0  rfl h)))
    have h := den_some h
    subst h
    exact AW_go (n := 2000) [[none]] [] (.ret (D.bool (true))) hΓ mix (by kernel_rfl) ow0 rfl
end Go.Cx
