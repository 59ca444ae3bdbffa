/- What functions of the program compute, and the walks that show it. No condition. -/
import Derived.Test.YtocmmccbfnhfpaaPSameMemoriesNFn1
namespace Go.Cx
open Go.RowKit Go.Proofs
set_option linter.unusedVariables false
set_option linter.unusedSimpArgs false
set_option maxRecDepth 100000
def d_spec_l7SameTokens_L1 (a0_ : List Token) (a1_ : List Token) (k1 : Option Bool) : List Token → Nat → Option Bool
  | [], i1 => (k1 )
  | x1_ :: xs1, i1 => ((atI (a1_) ((i1 : Int))).bind fun x42 => ((d_spec_SameFacts (x1_.facts) (x42.facts)).bind fun y44 => (bif !(y44) then (some (false)) else ((d_spec_l6SameBinding (x1_.bind) (x42.bind)).bind fun y47 => (bif !(y47) then (some (false)) else (d_spec_l7SameTokens_L1 a0_ a1_ k1 xs1 (i1 + 1) ))))))
def d_spec_l7SameTokens (a0_ : List Token) (a1_ : List Token) : Option Bool := (bif ((((a0_).map Token.c).length : Int) : Int) != ((((a1_).map Token.c).length : Int)) then (some (false)) else (d_spec_l7SameTokens_L1 a0_ a1_ (some (true)) (a0_) 0 ))
theorem d_spec_l7SameTokens_L1w {Γ : Ctx} (hΓ : Γ.nt = 43) {N : Nat → St → Prop} {a0_ : List Token} {a1_ : List Token} {r : Bool} {k1 : Option Bool} (hE1 : k1 = some r → AW Try.prog Γ (dig (bodyOf Try.f112) [1, 1, 1] []).1 (KQ Try.prog Γ N (RetQ Try.prog Try.f112 (D.bool (r))) (dig (bodyOf Try.f112) [1, 1, 1] []).2) ⟨[], []⟩) (hm1 : (a0_).length ≤ maxLen) : ∀ (rest : List Token) (i1 : Nat) , (a0_).drop i1 = rest → d_spec_l7SameTokens_L1 a0_ a1_ k1 rest i1  = some r → AWr Try.prog Γ (dig (bodyOf Try.f112) [1, 1, 0, 1, 0, 0] []).1 (KQ Try.prog Γ N (RetQ Try.prog Try.f112 (D.bool (r))) (dig (bodyOf Try.f112) [1, 1, 0, 1, 0] []).2) (rest.length + 1) ⟨[(0, D.sl ((a0_).map Token.c)), (1, D.sl ((a1_).map Token.c)), (5, D.int .i64 ((i1 : Int)))], []⟩ := by
  intro rest
  induction rest with
  | nil =>
    intro i1  hd1 h
    rw [d_spec_l7SameTokens_L1] at h
    refine AWr_succ fun N1 hN1 hS1 => ?_
    have t := AW_N (N := N) (N' := N1) (K0 := (dig (bodyOf Try.f112) [1, 1, 0, 1, 0] []).2) (by kernel_rfl) hN1 (hE1  h)
    refine AW_go (n := 2000) [[none]] [.b false, .hl 0 [] []] (.at_ (dig (bodyOf Try.f112) [1, 1, 1] []).1 (dig (bodyOf Try.f112) [1, 1, 1] []).2 ⟨[], []⟩) hΓ mix (by kernel_rfl) (ow ((ltm_false Token.c (drop_nil hd1))) ow0) ?_
    first | exact t | (simp only [List.map_append, List.map_cons, List.map_nil, List.map_set] at t ⊢; exact t)
  | cons x1_ xs1 ih1 =>
    intro i1  hd1 h
    rw [d_spec_l7SameTokens_L1] at h
    refine AWr_succ fun N1 hN1 hS1 => ?_
    obtain ⟨x42, h43, h⟩ := den_bind h
    obtain ⟨y44, h45, h⟩ := den_bind h
    rcases den_if h with ⟨h46, h⟩ | ⟨h46, h⟩
    · have h := den_some h
      subst h
      exact AW_go (n := 2000) [[none]] [.b true, .n 23, .row (Token.c x1_), .row (Token.c x42), .d (D.bool (y44)), .b true, .b true, .b true, .b true, .b true, .b true, .b true, .b true, .b true, .b true, .b true, .b true, .b true, .b true] (.ret (D.bool (false))) hΓ mix (by kernel_rfl) (ow ((ltm_true Token.c (drop_cons hd1).2.1)) (ow (map_row Token.c 2 (drop_cons hd1).1 rfl) (ow (at_row Token.c 2 h43 rfl) (ow (d_spec_SameFacts_good h45) (ow (h46) (ow (h46) (ow (h46) (ow (h46) (ow (h46) (ow (h46) (ow (h46) (ow (h46) (ow (h46) (ow (h46) (ow (h46) (ow (h46) (ow (h46) (ow (show (true) = true from rfl) ow0)))))))))))))))))) rfl
    · obtain ⟨y47, h48, h⟩ := den_bind h
      rcases den_if h with ⟨h49, h⟩ | ⟨h49, h⟩
      · have h := den_some h
        subst h
        exact AW_go (n := 2000) [[none]] [.b true, .n 23, .row (Token.c x1_), .row (Token.c x42), .d (D.bool (y44)), .b false, .b false, .b false, .row (Token.c x1_), .b false, .b false, .b false, .b false, .b false, .row (Token.c x42), .b false, .b false, .b false, .d (D.bool (y47)), .b false, .b false, .b true] (.ret (D.bool (false))) hΓ mix (by kernel_rfl) (ow ((ltm_true Token.c (drop_cons hd1).2.1)) (ow (map_row Token.c 2 (drop_cons hd1).1 rfl) (ow (at_row Token.c 2 h43 rfl) (ow (d_spec_SameFacts_good h45) (ow (h46) (ow (h46) (ow (h46) (ow (map_row Token.c 2 (drop_cons hd1).1 rfl) (ow (h46) (ow (h46) (ow (h46) (ow (h46) (ow (h46) (ow (at_row Token.c 2 h43 rfl) (ow (h46) (ow (h46) (ow (h46) (ow (d_spec_l6SameBinding_good h48) (ow (h46) (ow (h46) (ow (h49) ow0))))))))))))))))))))) rfl
      · have t := ih1 (i1 + 1)  (drop_cons hd1).2.2 h
        refine AW_go (n := 2000) [[none]] [.b true, .n 23, .row (Token.c x1_), .row (Token.c x42), .d (D.bool (y44)), .b false, .b false, .b false, .row (Token.c x1_), .b false, .b false, .b false, .b false, .b false, .row (Token.c x42), .b false, .b false, .b false, .d (D.bool (y47)), .b false, .b false, .b false, .cn [0, 1, 5] []] (.cont 0 ⟨[(0, D.sl ((a0_).map Token.c)), (1, D.sl ((a1_).map Token.c)), (5, D.int .i64 (IntKind.i64.wrap (((i1 : Int)) + (1))))], []⟩) hΓ mix (by kernel_rfl) (ow ((ltm_true Token.c (drop_cons hd1).2.1)) (ow (map_row Token.c 2 (drop_cons hd1).1 rfl) (ow (at_row Token.c 2 h43 rfl) (ow (d_spec_SameFacts_good h45) (ow (h46) (ow (h46) (ow (h46) (ow (map_row Token.c 2 (drop_cons hd1).1 rfl) (ow (h46) (ow (h46) (ow (h46) (ow (h46) (ow (h46) (ow (at_row Token.c 2 h43 rfl) (ow (h46) (ow (h46) (ow (h46) (ow (d_spec_l6SameBinding_good h48) (ow (h46) (ow (h46) (ow (h49) ow0))))))))))))))))))))) ?_
        refine (congrFun hS1 _).mpr ?_
        rw [i64_succ (drop_cons hd1).2.1 hm1]
        first | exact t | (simp only [List.map_append, List.map_cons, List.map_nil, List.map_set] at t ⊢; exact t)
theorem d_spec_l7SameTokens_good {a0_ : List Token} {a1_ : List Token} {r : Bool} (h : d_spec_l7SameTokens a0_ a1_ = some r) : Good Try.prog 112 [D.sl ((a0_).map Token.c), D.sl ((a1_).map Token.c)] (D.bool (r)) := by
  refine Good.of (c := bodyOf Try.f112) Try.func112 rfl (by decide) (by simp [Try.f112]) ?_
  intro hr Γ hΓ
  have hΓ : Γ.nt = 43 := hΓ
  rw [d_spec_l7SameTokens] at h
  refine (show AW Try.prog Γ (bodyOf Try.f112) (KQ Try.prog Γ (fun _ _ => False) (RetQ Try.prog Try.f112 (D.bool (r))) []) _ from ?_)
  rcases den_if h with ⟨h1, h⟩ | ⟨h1, h⟩
  · have h := den_some h
    subst h
    exact AW_go (n := 2000) [[none]] [.b true] (.ret (D.bool (false))) hΓ mix (by kernel_rfl) (ow (h1) ow0) rfl
  · refine AW_go (n := 2000) [[none]] [.b false, .cn [0, 1, 5] []] (.lp (dig (bodyOf Try.f112) [1, 1, 0, 1, 0, 0] []).1 (dig (bodyOf Try.f112) [1, 1, 0, 1, 0] []).2 ⟨[(0, D.sl ((a0_).map Token.c)), (1, D.sl ((a1_).map Token.c)), (5, D.int .i64 (0))], []⟩) hΓ mix (by kernel_rfl) (ow (h1) ow0) (AW_st (by first | rfl | (simp only [List.map_append, List.map_cons, List.map_nil, List.map_set, List.map_replicate] <;> rfl)) (AW_of_r (d_spec_l7SameTokens_L1w hΓ (fun h => ?_) (by have := (Rdb.sl (hr _ (List.mem_of_getElem? (i := 0) rfl))).1; simpa using this) (a0_) 0  rfl h)))
    have h := den_some h
    subst h
    exact AW_go (n := 2000) [[none]] [] (.ret (D.bool (true))) hΓ mix (by kernel_rfl) ow0 rfl
def d_spec_SameMemories_L1 (a0_ : Network) (a1_ : Network) (k1 : Option Bool) : List Rule → Nat → Option Bool
  | [], i1 => (k1 )
  | x1_ :: xs1, i1 => ((atI (a1_.rules) ((i1 : Int))).bind fun x36 => ((d_spec_SameRule (x1_) (x36)).bind fun y38 => (bif !(y38) then (some (false)) else (d_spec_SameMemories_L1 a0_ a1_ k1 xs1 (i1 + 1) ))))
def d_spec_SameMemories_L2 (a0_ : Network) (a1_ : Network) (k2 : Option Bool) : List Alpha → Nat → Option Bool
  | [], i2 => (k2 )
  | x2_ :: xs2, i2 => ((atI (a1_.alphas) ((i2 : Int))).bind fun x69 => ((d_spec_SameFacts (x2_.facts) (x69.facts)).bind fun y71 => (bif !(y71) then (some (false)) else (d_spec_SameMemories_L2 a0_ a1_ k2 xs2 (i2 + 1) ))))
def d_spec_SameMemories_L3 (a0_ : Network) (a1_ : Network) (k3 : Option Bool) : List Node → Nat → Option Bool
  | [], i3 => (k3 )
  | x3_ :: xs3, i3 => ((atI (a1_.nodes) ((i3 : Int))).bind fun x102 => ((d_spec_l7SameTokens (x3_.tokens) (x102.tokens)).bind fun y104 => (bif !(y104) then (some (false)) else (d_spec_SameMemories_L3 a0_ a1_ k3 xs3 (i3 + 1) ))))
def d_spec_SameMemories (a0_ : Network) (a1_ : Network) : Option Bool := ((d_spec_l7SameForm (a0_) (a1_)).bind fun y1 => (bif !(y1) then (some (false)) else ((d_spec_SameFacts (a0_.facts) (a1_.facts)).bind fun y4 => (bif !(y4) then (some (false)) else (bif ((((a0_.rules).map Rule.c).length : Int) : Int) != ((((a1_.rules).map Rule.c).length : Int)) then (some (false)) else (d_spec_SameMemories_L1 a0_ a1_ (d_spec_SameMemories_L2 a0_ a1_ (d_spec_SameMemories_L3 a0_ a1_ (some (true)) (a0_.nodes) 0 ) (a0_.alphas) 0 ) (a0_.rules) 0 ))))))
theorem d_spec_SameMemories_L1w {Γ : Ctx} (hΓ : Γ.nt = 90) {N : Nat → St → Prop} {a0_ : Network} {a1_ : Network} {r : Bool} {k1 : Option Bool} (hE1 : k1 = some r → AW Try.prog Γ (dig (bodyOf Try.f58) [1, 1, 1] []).1 (KQ Try.prog Γ N (RetQ Try.prog Try.f58 (D.bool (r))) (dig (bodyOf Try.f58) [1, 1, 1] []).2) ⟨[(2, D.ptr 0 0), (3, D.ptr 1 0)], [Ob.box (Network.c a0_), Ob.box (Network.c a1_)]⟩) (hm1 : (a0_.rules).length ≤ maxLen) : ∀ (rest : List Rule) (i1 : Nat) , (a0_.rules).drop i1 = rest → d_spec_SameMemories_L1 a0_ a1_ k1 rest i1  = some r → AWr Try.prog Γ (dig (bodyOf Try.f58) [1, 1, 0, 1, 0, 0] []).1 (KQ Try.prog Γ N (RetQ Try.prog Try.f58 (D.bool (r))) (dig (bodyOf Try.f58) [1, 1, 0, 1, 0] []).2) (rest.length + 1) ⟨[(2, D.ptr 0 0), (3, D.ptr 1 0), (5, D.int .i64 ((i1 : Int)))], [Ob.box (Network.c a0_), Ob.box (Network.c a1_)]⟩ := by
  intro rest
  induction rest with
  | nil =>
    intro i1  hd1 h
    rw [d_spec_SameMemories_L1] at h
    refine AWr_succ fun N1 hN1 hS1 => ?_
    have t := AW_N (N := N) (N' := N1) (K0 := (dig (bodyOf Try.f58) [1, 1, 0, 1, 0] []).2) (by kernel_rfl) hN1 (hE1  h)
    refine AW_go (n := 2000) [[none]] [.b false, .hl 0 [2, 3] [0, 1]] (.at_ (dig (bodyOf Try.f58) [1, 1, 1] []).1 (dig (bodyOf Try.f58) [1, 1, 1] []).2 ⟨[(2, D.ptr 0 0), (3, D.ptr 1 0)], [Ob.box (Network.c a0_), Ob.box (Network.c a1_)]⟩) hΓ mix (by kernel_rfl) (ow ((ltm_false Rule.c (drop_nil hd1))) ow0) ?_
    first | exact t | (simp only [List.map_append, List.map_cons, List.map_nil, List.map_set] at t ⊢; exact t)
  | cons x1_ xs1 ih1 =>
    intro i1  hd1 h
    rw [d_spec_SameMemories_L1] at h
    refine AWr_succ fun N1 hN1 hS1 => ?_
    obtain ⟨x36, h37, h⟩ := den_bind h
    obtain ⟨y38, h39, h⟩ := den_bind h
    rcases den_if h with ⟨h40, h⟩ | ⟨h40, h⟩
    · have h := den_some h
      subst h
      exact AW_go (n := 2000) [[none]] [.b true, .n 10, .row (Rule.c x1_), .row (Rule.c x36), .d (D.bool (y38)), .b true] (.ret (D.bool (false))) hΓ mix (by kernel_rfl) (ow ((ltm_true Rule.c (drop_cons hd1).2.1)) (ow (map_row Rule.c 4 (drop_cons hd1).1 rfl) (ow (at_row Rule.c 4 h37 rfl) (ow (d_spec_SameRule_good h39) (ow (h40) ow0))))) rfl
    · have t := ih1 (i1 + 1)  (drop_cons hd1).2.2 h
      refine AW_go (n := 2000) [[none]] [.b true, .n 10, .row (Rule.c x1_), .row (Rule.c x36), .d (D.bool (y38)), .b false, .cn [2, 3, 5] [0, 1]] (.cont 0 ⟨[(2, D.ptr 0 0), (3, D.ptr 1 0), (5, D.int .i64 (IntKind.i64.wrap (((i1 : Int)) + (1))))], [Ob.box (Network.c a0_), Ob.box (Network.c a1_)]⟩) hΓ mix (by kernel_rfl) (ow ((ltm_true Rule.c (drop_cons hd1).2.1)) (ow (map_row Rule.c 4 (drop_cons hd1).1 rfl) (ow (at_row Rule.c 4 h37 rfl) (ow (d_spec_SameRule_good h39) (ow (h40) ow0))))) ?_
      refine (congrFun hS1 _).mpr ?_
      rw [i64_succ (drop_cons hd1).2.1 hm1]
      first | exact t | (simp only [List.map_append, List.map_cons, List.map_nil, List.map_set] at t ⊢; exact t)
theorem d_spec_SameMemories_L2w {Γ : Ctx} (hΓ : Γ.nt = 90) {N : Nat → St → Prop} {a0_ : Network} {a1_ : Network} {r : Bool} {k2 : Option Bool} (hE2 : k2 = some r → AW Try.prog Γ (dig (bodyOf Try.f58) [1, 1, 1, 1] []).1 (KQ Try.prog Γ N (RetQ Try.prog Try.f58 (D.bool (r))) (dig (bodyOf Try.f58) [1, 1, 1, 1] []).2) ⟨[(2, D.ptr 0 0), (3, D.ptr 1 0)], [Ob.box (Network.c a0_), Ob.box (Network.c a1_)]⟩) (hm2 : (a0_.alphas).length ≤ maxLen) : ∀ (rest : List Alpha) (i2 : Nat) , (a0_.alphas).drop i2 = rest → d_spec_SameMemories_L2 a0_ a1_ k2 rest i2  = some r → AWr Try.prog Γ (dig (bodyOf Try.f58) [1, 1, 1, 0, 1, 0, 0] []).1 (KQ Try.prog Γ N (RetQ Try.prog Try.f58 (D.bool (r))) (dig (bodyOf Try.f58) [1, 1, 1, 0, 1, 0] []).2) (rest.length + 1) ⟨[(2, D.ptr 0 0), (3, D.ptr 1 0), (6, D.int .i64 ((i2 : Int)))], [Ob.box (Network.c a0_), Ob.box (Network.c a1_)]⟩ := by
  intro rest
  induction rest with
  | nil =>
    intro i2  hd2 h
    rw [d_spec_SameMemories_L2] at h
    refine AWr_succ fun N2 hN2 hS2 => ?_
    have t := AW_N (N := N) (N' := N2) (K0 := (dig (bodyOf Try.f58) [1, 1, 1, 0, 1, 0] []).2) (by kernel_rfl) hN2 (hE2  h)
    refine AW_go (n := 2000) [[none]] [.b false, .hl 0 [2, 3] [0, 1]] (.at_ (dig (bodyOf Try.f58) [1, 1, 1, 1] []).1 (dig (bodyOf Try.f58) [1, 1, 1, 1] []).2 ⟨[(2, D.ptr 0 0), (3, D.ptr 1 0)], [Ob.box (Network.c a0_), Ob.box (Network.c a1_)]⟩) hΓ mix (by kernel_rfl) (ow ((ltm_false Alpha.c (drop_nil hd2))) ow0) ?_
    first | exact t | (simp only [List.map_append, List.map_cons, List.map_nil, List.map_set] at t ⊢; exact t)
  | cons x2_ xs2 ih2 =>
    intro i2  hd2 h
    rw [d_spec_SameMemories_L2] at h
    refine AWr_succ fun N2 hN2 hS2 => ?_
    obtain ⟨x69, h70, h⟩ := den_bind h
    obtain ⟨y71, h72, h⟩ := den_bind h
    rcases den_if h with ⟨h73, h⟩ | ⟨h73, h⟩
    · have h := den_some h
      subst h
      exact AW_go (n := 2000) [[none]] [.b true, .n 12, .row (Alpha.c x2_), .row (Alpha.c x69), .d (D.bool (y71)), .b true] (.ret (D.bool (false))) hΓ mix (by kernel_rfl) (ow ((ltm_true Alpha.c (drop_cons hd2).2.1)) (ow (map_row Alpha.c 3 (drop_cons hd2).1 rfl) (ow (at_row Alpha.c 3 h70 rfl) (ow (d_spec_SameFacts_good h72) (ow (h73) ow0))))) rfl
    · have t := ih2 (i2 + 1)  (drop_cons hd2).2.2 h
      refine AW_go (n := 2000) [[none]] [.b true, .n 12, .row (Alpha.c x2_), .row (Alpha.c x69), .d (D.bool (y71)), .b false, .cn [2, 3, 6] [0, 1]] (.cont 0 ⟨[(2, D.ptr 0 0), (3, D.ptr 1 0), (6, D.int .i64 (IntKind.i64.wrap (((i2 : Int)) + (1))))], [Ob.box (Network.c a0_), Ob.box (Network.c a1_)]⟩) hΓ mix (by kernel_rfl) (ow ((ltm_true Alpha.c (drop_cons hd2).2.1)) (ow (map_row Alpha.c 3 (drop_cons hd2).1 rfl) (ow (at_row Alpha.c 3 h70 rfl) (ow (d_spec_SameFacts_good h72) (ow (h73) ow0))))) ?_
      refine (congrFun hS2 _).mpr ?_
      rw [i64_succ (drop_cons hd2).2.1 hm2]
      first | exact t | (simp only [List.map_append, List.map_cons, List.map_nil, List.map_set] at t ⊢; exact t)
theorem d_spec_SameMemories_L3w {Γ : Ctx} (hΓ : Γ.nt = 90) {N : Nat → St → Prop} {a0_ : Network} {a1_ : Network} {r : Bool} {k3 : Option Bool} (hE3 : k3 = some r → AW Try.prog Γ (dig (bodyOf Try.f58) [1, 1, 1, 1, 1] []).1 (KQ Try.prog Γ N (RetQ Try.prog Try.f58 (D.bool (r))) (dig (bodyOf Try.f58) [1, 1, 1, 1, 1] []).2) ⟨[], []⟩) (hm3 : (a0_.nodes).length ≤ maxLen) : ∀ (rest : List Node) (i3 : Nat) , (a0_.nodes).drop i3 = rest → d_spec_SameMemories_L3 a0_ a1_ k3 rest i3  = some r → AWr Try.prog Γ (dig (bodyOf Try.f58) [1, 1, 1, 1, 0, 1, 0, 0] []).1 (KQ Try.prog Γ N (RetQ Try.prog Try.f58 (D.bool (r))) (dig (bodyOf Try.f58) [1, 1, 1, 1, 0, 1, 0] []).2) (rest.length + 1) ⟨[(2, D.ptr 0 0), (3, D.ptr 1 0), (7, D.int .i64 ((i3 : Int)))], [Ob.box (Network.c a0_), Ob.box (Network.c a1_)]⟩ := by
  intro rest
  induction rest with
  | nil =>
    intro i3  hd3 h
    rw [d_spec_SameMemories_L3] at h
    refine AWr_succ fun N3 hN3 hS3 => ?_
    have t := AW_N (N := N) (N' := N3) (K0 := (dig (bodyOf Try.f58) [1, 1, 1, 1, 0, 1, 0] []).2) (by kernel_rfl) hN3 (hE3  h)
    refine AW_go (n := 2000) [[none]] [.b false, .hl 0 [] []] (.at_ (dig (bodyOf Try.f58) [1, 1, 1, 1, 1] []).1 (dig (bodyOf Try.f58) [1, 1, 1, 1, 1] []).2 ⟨[], []⟩) hΓ mix (by kernel_rfl) (ow ((ltm_false Node.c (drop_nil hd3))) ow0) ?_
    first | exact t | (simp only [List.map_append, List.map_cons, List.map_nil, List.map_set] at t ⊢; exact t)
  | cons x3_ xs3 ih3 =>
    intro i3  hd3 h
    rw [d_spec_SameMemories_L3] at h
    refine AWr_succ fun N3 hN3 hS3 => ?_
    obtain ⟨x102, h103, h⟩ := den_bind h
    obtain ⟨y104, h105, h⟩ := den_bind h
    rcases den_if h with ⟨h106, h⟩ | ⟨h106, h⟩
    · have h := den_some h
      subst h
      exact AW_go (n := 2000) [[none]] [.b true, .n 12, .row (Node.c x3_), .row (Node.c x102), .d (D.bool (y104)), .b true] (.ret (D.bool (false))) hΓ mix (by kernel_rfl) (ow ((ltm_true Node.c (drop_cons hd3).2.1)) (ow (map_row Node.c 8 (drop_cons hd3).1 rfl) (ow (at_row Node.c 8 h103 rfl) (ow (d_spec_l7SameTokens_good h105) (ow (h106) ow0))))) rfl
    · have t := ih3 (i3 + 1)  (drop_cons hd3).2.2 h
      refine AW_go (n := 2000) [[none]] [.b true, .n 12, .row (Node.c x3_), .row (Node.c x102), .d (D.bool (y104)), .b false, .cn [2, 3, 7] [0, 1]] (.cont 0 ⟨[(2, D.ptr 0 0), (3, D.ptr 1 0), (7, D.int .i64 (IntKind.i64.wrap (((i3 : Int)) + (1))))], [Ob.box (Network.c a0_), Ob.box (Network.c a1_)]⟩) hΓ mix (by kernel_rfl) (ow ((ltm_true Node.c (drop_cons hd3).2.1)) (ow (map_row Node.c 8 (drop_cons hd3).1 rfl) (ow (at_row Node.c 8 h103 rfl) (ow (d_spec_l7SameTokens_good h105) (ow (h106) ow0))))) ?_
      refine (congrFun hS3 _).mpr ?_
      rw [i64_succ (drop_cons hd3).2.1 hm3]
      first | exact t | (simp only [List.map_append, List.map_cons, List.map_nil, List.map_set] at t ⊢; exact t)
theorem d_spec_SameMemories_good {a0_ : Network} {a1_ : Network} {r : Bool} (h : d_spec_SameMemories a0_ a1_ = some r) : Good Try.prog 58 [D.agg (Network.c a0_), D.agg (Network.c a1_)] (D.bool (r)) := by
  refine Good.of (c := bodyOf Try.f58) Try.func58 rfl (by decide) (by simp [Try.f58]) ?_
  intro hr Γ hΓ
  have hΓ : Γ.nt = 90 := hΓ
  rw [d_spec_SameMemories] at h
  refine (show AW Try.prog Γ (bodyOf Try.f58) (KQ Try.prog Γ (fun _ _ => False) (RetQ Try.prog Try.f58 (D.bool (r))) []) _ from ?_)
  obtain ⟨y1, h2, h⟩ := den_bind h
  rcases den_if h with ⟨h3, h⟩ | ⟨h3, h⟩
  · have h := den_some h
    subst h
    exact AW_go (n := 2000) [[none]] [.d (D.bool (y1)), .b true, .b true, .b true, .b true, .b true, .b true, .b true, .b true, .b true, .b true, .b true, .b true, .b true, .b true, .b true, .b true] (.ret (D.bool (false))) hΓ mix (by kernel_rfl) (ow (d_spec_l7SameForm_good h2) (ow (h3) (ow (h3) (ow (h3) (ow (h3) (ow (h3) (ow (h3) (ow (h3) (ow (show (true) = true from rfl) (ow (show (true) = true from rfl) (ow (show (true) = true from rfl) (ow (show (true) = true from rfl) (ow (show (true) = true from rfl) (ow (show (true) = true from rfl) (ow (show (true) = true from rfl) (ow (show (true) = true from rfl) (ow (show (true) = true from rfl) ow0))))))))))))))))) rfl
  · obtain ⟨y4, h5, h⟩ := den_bind h
    rcases den_if h with ⟨h6, h⟩ | ⟨h6, h⟩
    · have h := den_some h
      subst h
      exact AW_go (n := 2000) [[none]] [.d (D.bool (y1)), .b false, .b false, .b false, .b false, .b false, .d (D.bool (y4)), .b false, .b false, .b true, .b true, .b true, .b true, .b true, .b true, .b true, .b true, .b true] (.ret (D.bool (false))) hΓ mix (by kernel_rfl) (ow (d_spec_l7SameForm_good h2) (ow (h3) (ow (h3) (ow (h3) (ow (h3) (ow (h3) (ow (d_spec_SameFacts_good h5) (ow (h3) (ow (h3) (ow (h6) (ow (h6) (ow (h6) (ow (h6) (ow (h6) (ow (h6) (ow (h6) (ow (h6) (ow (show (true) = true from rfl) ow0)))))))))))))))))) rfl
    · rcases den_if h with ⟨h7, h⟩ | ⟨h7, h⟩
      · have h := den_some h
        subst h
        exact AW_go (n := 2000) [[none]] [.d (D.bool (y1)), .b false, .b false, .b false, .b false, .b false, .d (D.bool (y4)), .b false, .b false, .b false, .b false, .b false, .b false, .b false, .b false, .b false, .b false, .b true] (.ret (D.bool (false))) hΓ mix (by kernel_rfl) (ow (d_spec_l7SameForm_good h2) (ow (h3) (ow (h3) (ow (h3) (ow (h3) (ow (h3) (ow (d_spec_SameFacts_good h5) (ow (h3) (ow (h3) (ow (h6) (ow (h6) (ow (h6) (ow (h6) (ow (h6) (ow (h6) (ow (h6) (ow (h6) (ow (h7) ow0)))))))))))))))))) rfl
      · refine AW_go (n := 2000) [[none]] [.d (D.bool (y1)), .b false, .b false, .b false, .b false, .b false, .d (D.bool (y4)), .b false, .b false, .b false, .b false, .b false, .b false, .b false, .b false, .b false, .b false, .b false, .cn [2, 3, 5] [0, 1]] (.lp (dig (bodyOf Try.f58) [1, 1, 0, 1, 0, 0] []).1 (dig (bodyOf Try.f58) [1, 1, 0, 1, 0] []).2 ⟨[(2, D.ptr 0 0), (3, D.ptr 1 0), (5, D.int .i64 (0))], [Ob.box (Network.c a0_), Ob.box (Network.c a1_)]⟩) hΓ mix (by kernel_rfl) (ow (d_spec_l7SameForm_good h2) (ow (h3) (ow (h3) (ow (h3) (ow (h3) (ow (h3) (ow (d_spec_SameFacts_good h5) (ow (h3) (ow (h3) (ow (h6) (ow (h6) (ow (h6) (ow (h6) (ow (h6) (ow (h6) (ow (h6) (ow (h6) (ow (h7) ow0)))))))))))))))))) (AW_st (by first | rfl | (simp only [List.map_append, List.map_cons, List.map_nil, List.map_set, List.map_replicate] <;> rfl)) (AW_of_r (d_spec_SameMemories_L1w hΓ (fun h => ?_) (by have := (Rdb.sl (Rdb.agg (hr _ (List.mem_of_getElem? (i := 0) rfl)) (.sl ((a0_.rules).map Rule.c)) (by simp))).1; simpa using this) (a0_.rules) 0  rfl h)))
        refine AW_go (n := 2000) [[none]] [.cn [2, 3, 6] [0, 1]] (.lp (dig (bodyOf Try.f58) [1, 1, 1, 0, 1, 0, 0] []).1 (dig (bodyOf Try.f58) [1, 1, 1, 0, 1, 0] []).2 ⟨[(2, D.ptr 0 0), (3, D.ptr 1 0), (6, D.int .i64 (0))], [Ob.box (Network.c a0_), Ob.box (Network.c a1_)]⟩) hΓ mix (by kernel_rfl) ow0 (AW_st (by first | rfl | (simp only [List.map_append, List.map_cons, List.map_nil, List.map_set, List.map_replicate] <;> rfl)) (AW_of_r (d_spec_SameMemories_L2w hΓ (fun h => ?_) (by have := (Rdb.sl (Rdb.agg (hr _ (List.mem_of_getElem? (i := 0) rfl)) (.sl ((a0_.alphas).map Alpha.c)) (by simp))).1; simpa using this) (a0_.alphas) 0  rfl h)))
        refine AW_go (n := 2000) [[none]] [.cn [2, 3, 7] [0, 1]] (.lp (dig (bodyOf Try.f58) [1, 1, 1, 1, 0, 1, 0, 0] []).1 (dig (bodyOf Try.f58) [1, 1, 1, 1, 0, 1, 0] []).2 ⟨[(2, D.ptr 0 0), (3, D.ptr 1 0), (7, D.int .i64 (0))], [Ob.box (Network.c a0_), Ob.box (Network.c a1_)]⟩) hΓ mix (by kernel_rfl) ow0 (AW_st (by first | rfl | (simp only [List.map_append, List.map_cons, List.map_nil, List.map_set, List.map_replicate] <;> rfl)) (AW_of_r (d_spec_SameMemories_L3w hΓ (fun h => ?_) (by have := (Rdb.sl (Rdb.agg (hr _ (List.mem_of_getElem? (i := 0) rfl)) (.sl ((a0_.nodes).map Node.c)) (by simp))).1; simpa using this) (a0_.nodes) 0  rfl h)))
        have h := den_some h
        subst h
        exact AW_go (n := 2000) [[none]] [] (.ret (D.bool (true))) hΓ mix (by kernel_rfl) ow0 rfl
def d_impl_SamePattern (a0_ : Fact) (a1_ : Fact) : Option Bool := (bif (a0_.rel : Bytes) == (a1_.rel) then ((d_impl_sameTexts (a0_.args) (a1_.args)).bind fun y2 => (some (y2))) else (some (false)))
theorem d_impl_SamePattern_good {a0_ : Fact} {a1_ : Fact} {r : Bool} (h : d_impl_SamePattern a0_ a1_ = some r) : Good Try.prog 116 [D.agg (Fact.c a0_), D.agg (Fact.c a1_)] (D.bool (r)) := by
  refine Good.of (c := bodyOf Try.f116) Try.func116 rfl (by decide) (by simp [Try.f116]) ?_
  intro hr Γ hΓ
  have hΓ : Γ.nt = 17 := hΓ
  rw [d_impl_SamePattern] at h
  refine (show AW Try.prog Γ (bodyOf Try.f116) (KQ Try.prog Γ (fun _ _ => False) (RetQ Try.prog Try.f116 (D.bool (r))) []) _ from ?_)
  rcases den_if h with ⟨h1, h⟩ | ⟨h1, h⟩
  · obtain ⟨y2, h3, h⟩ := den_bind h
    have h := den_some h
    subst h
    exact AW_go (n := 2000) [[none]] [.b true, .b true, .b true, .b true, .b true, .d (D.bool (y2)), .b true] (.ret (D.bool (y2))) hΓ mix (by kernel_rfl) (ow (h1) (ow (h1) (ow (h1) (ow (h1) (ow (h1) (ow (d_impl_sameTexts_good h3) (ow (h1) ow0))))))) rfl
  · have h := den_some h
    subst h
    exact AW_go (n := 2000) [[none]] [.b false, .b false, .b false, .b false, .b false, .b false] (.ret (D.bool (false))) hΓ mix (by kernel_rfl) (ow (h1) (ow (h1) (ow (h1) (ow (h1) (ow (h1) (ow (h1) ow0)))))) rfl
def d_impl_SameCond (a0_ : Cond) (a1_ : Cond) : Option Bool := (bif (a0_.kind : Int) == (a1_.kind) then (bif (a0_.left : Bytes) == (a1_.left) then (bif (a0_.right : Bytes) == (a1_.right) then ((d_impl_SamePattern (a0_.pat) (a1_.pat)).bind fun y4 => (some (y4))) else (some (false))) else (some (false))) else (some (false)))
theorem d_impl_SameCond_good {a0_ : Cond} {a1_ : Cond} {r : Bool} (h : d_impl_SameCond a0_ a1_ = some r) : Good Try.prog 117 [D.agg (Cond.c a0_), D.agg (Cond.c a1_)] (D.bool (r)) := by
  refine Good.of (c := bodyOf Try.f117) Try.func117 rfl (by decide) (by simp [Try.f117]) ?_
  intro hr Γ hΓ
  have hΓ : Γ.nt = 31 := hΓ
  rw [d_impl_SameCond] at h
  refine (show AW Try.prog Γ (bodyOf Try.f117) (KQ Try.prog Γ (fun _ _ => False) (RetQ Try.prog Try.f117 (D.bool (r))) []) _ from ?_)
  rcases den_if h with ⟨h1, h⟩ | ⟨h1, h⟩
  · rcases den_if h with ⟨h2, h⟩ | ⟨h2, h⟩
    · rcases den_if h with ⟨h3, h⟩ | ⟨h3, h⟩
      · obtain ⟨y4, h5, h⟩ := den_bind h
        have h := den_some h
        subst h
        exact AW_go (n := 2000) [[none]] [.b true, .b true, .b true, .b true, .b true, .b true, .b true, .b true, .b true, .b true, .b true, .b true, .b true, .b true, .b true, .b true, .b true, .d (D.bool (y4)), .b true] (.ret (D.bool (y4))) hΓ mix (by kernel_rfl) (ow (h1) (ow (h1) (ow (h1) (ow (h1) (ow (h1) (ow (h1) (ow (h2) (ow (h2) (ow (h2) (ow (h2) (ow (h2) (ow (h2) (ow (h3) (ow (h3) (ow (h3) (ow (h3) (ow (h3) (ow (d_impl_SamePattern_good h5) (ow (h3) ow0))))))))))))))))))) rfl
      · have h := den_some h
        subst h
        exact AW_go (n := 2000) [[none]] [.b true, .b true, .b true, .b true, .b true, .b true, .b true, .b true, .b true, .b true, .b true, .b true, .b false, .b false, .b false, .b false, .b false, .b false] (.ret (D.bool (false))) hΓ mix (by kernel_rfl) (ow (h1) (ow (h1) (ow (h1) (ow (h1) (ow (h1) (ow (h1) (ow (h2) (ow (h2) (ow (h2) (ow (h2) (ow (h2) (ow (h2) (ow (h3) (ow (h3) (ow (h3) (ow (h3) (ow (h3) (ow (h3) ow0)))))))))))))))))) rfl
    · have h := den_some h
      subst h
      exact AW_go (n := 2000) [[none]] [.b true, .b true, .b true, .b true, .b true, .b true, .b false, .b false, .b false, .b false, .b false, .b false, .b false, .b false, .b false, .b false, .b false, .b false] (.ret (D.bool (false))) hΓ mix (by kernel_rfl) (ow (h1) (ow (h1) (ow (h1) (ow (h1) (ow (h1) (ow (h1) (ow (h2) (ow (h2) (ow (h2) (ow (h2) (ow (h2) (ow (h2) (ow (show (false) = false from rfl) (ow (show (false) = false from rfl) (ow (show (false) = false from rfl) (ow (show (false) = false from rfl) (ow (show (false) = false from rfl) (ow (show (false) = false from rfl) ow0)))))))))))))))))) rfl
  · have h := den_some h
    subst h
    exact AW_go (n := 2000) [[none]] [.b false, .b false, .b false, .b false, .b false, .b false, .b false, .b false, .b false, .b false, .b false, .b false, .b false, .b false, .b false, .b false, .b false, .b false] (.ret (D.bool (false))) hΓ mix (by kernel_rfl) (ow (h1) (ow (h1) (ow (h1) (ow (h1) (ow (h1) (ow (h1) (ow (show (false) = false from rfl) (ow (show (false) = false from rfl) (ow (show (false) = false from rfl) (ow (show (false) = false from rfl) (ow (show (false) = false from rfl) (ow (show (false) = false from rfl) (ow (show (false) = false from rfl) (ow (show (false) = false from rfl) (ow (show (false) = false from rfl) (ow (show (false) = false from rfl) (ow (show (false) = false from rfl) (ow (show (false) = false from rfl) ow0)))))))))))))))))) rfl
def d_impl_SameRule_L1 (a0_ : Rule) (a1_ : Rule) (k1 : Option Bool) : List Cond → Nat → Option Bool
  | [], i1 => (k1 )
  | x1_ :: xs1, i1 => ((atI (a1_.conds) ((i1 : Int))).bind fun x33 => ((d_impl_SameCond (x1_) (x33)).bind fun y35 => (bif !(y35) then (some (false)) else (d_impl_SameRule_L1 a0_ a1_ k1 xs1 (i1 + 1) ))))
def d_impl_SameRule_L2 (a0_ : Rule) (a1_ : Rule) (k2 : Option Bool) : List Action → Nat → Option Bool
  | [], i2 => (k2 )
  | x2_ :: xs2, i2 => ((atI (a1_.acts) ((i2 : Int))).bind fun x70 => (bif (x2_.kind : Int) != (x70.kind) then (some (false)) else ((d_impl_SamePattern (x2_.pat) (x70.pat)).bind fun y73 => (bif !(y73) then (some (false)) else (d_impl_SameRule_L2 a0_ a1_ k2 xs2 (i2 + 1) )))))
def d_impl_SameRule (a0_ : Rule) (a1_ : Rule) : Option Bool := (bif !((a0_.name : Bytes) == (a1_.name)) then (some (false)) else (bif (a0_.prio : Int) != (a1_.prio) then (some (false)) else (bif ((((a0_.conds).map Cond.c).length : Int) : Int) != ((((a1_.conds).map Cond.c).length : Int)) then (some (false)) else (bif ((((a0_.acts).map Action.c).length : Int) : Int) != ((((a1_.acts).map Action.c).length : Int)) then (some (false)) else (d_impl_SameRule_L1 a0_ a1_ (d_impl_SameRule_L2 a0_ a1_ (some (true)) (a0_.acts) 0 ) (a0_.conds) 0 )))))
theorem d_impl_SameRule_L1w {Γ : Ctx} (hΓ : Γ.nt = 92) {N : Nat → St → Prop} {a0_ : Rule} {a1_ : Rule} {r : Bool} {k1 : Option Bool} (hE1 : k1 = some r → AW Try.prog Γ (dig (bodyOf Try.f163) [1, 1, 1] []).1 (KQ Try.prog Γ N (RetQ Try.prog Try.f163 (D.bool (r))) (dig (bodyOf Try.f163) [1, 1, 1] []).2) ⟨[(2, D.ptr 0 0), (3, D.ptr 1 0)], [Ob.box (Rule.c a0_), Ob.box (Rule.c a1_)]⟩) (hm1 : (a0_.conds).length ≤ maxLen) : ∀ (rest : List Cond) (i1 : Nat) , (a0_.conds).drop i1 = rest → d_impl_SameRule_L1 a0_ a1_ k1 rest i1  = some r → AWr Try.prog Γ (dig (bodyOf Try.f163) [1, 1, 0, 1, 0, 0] []).1 (KQ Try.prog Γ N (RetQ Try.prog Try.f163 (D.bool (r))) (dig (bodyOf Try.f163) [1, 1, 0, 1, 0] []).2) (rest.length + 1) ⟨[(2, D.ptr 0 0), (3, D.ptr 1 0), (39, D.int .i64 ((((a0_.conds).map Cond.c).length : Int))), (40, D.int .i64 ((i1 : Int)))], [Ob.box (Rule.c a0_), Ob.box (Rule.c a1_)]⟩ := by
  intro rest
  induction rest with
  | nil =>
    intro i1  hd1 h
    rw [d_impl_SameRule_L1] at h
    refine AWr_succ fun N1 hN1 hS1 => ?_
    have t := AW_N (N := N) (N' := N1) (K0 := (dig (bodyOf Try.f163) [1, 1, 0, 1, 0] []).2) (by kernel_rfl) hN1 (hE1  h)
    refine AW_go (n := 2000) [[none]] [.b false, .hl 0 [2, 3] [0, 1]] (.at_ (dig (bodyOf Try.f163) [1, 1, 1] []).1 (dig (bodyOf Try.f163) [1, 1, 1] []).2 ⟨[(2, D.ptr 0 0), (3, D.ptr 1 0)], [Ob.box (Rule.c a0_), Ob.box (Rule.c a1_)]⟩) hΓ mix (by kernel_rfl) (ow ((ltm_false Cond.c (drop_nil hd1))) ow0) ?_
    first | exact t | (simp only [List.map_append, List.map_cons, List.map_nil, List.map_set] at t ⊢; exact t)
  | cons x1_ xs1 ih1 =>
    intro i1  hd1 h
    rw [d_impl_SameRule_L1] at h
    refine AWr_succ fun N1 hN1 hS1 => ?_
    obtain ⟨x33, h34, h⟩ := den_bind h
    obtain ⟨y35, h36, h⟩ := den_bind h
    rcases den_if h with ⟨h37, h⟩ | ⟨h37, h⟩
    · have h := den_some h
      subst h
      exact AW_go (n := 2000) [[none]] [.b true, .n 10, .row (Cond.c x1_), .row (Cond.c x33), .d (D.bool (y35)), .b true] (.ret (D.bool (false))) hΓ mix (by kernel_rfl) (ow ((ltm_true Cond.c (drop_cons hd1).2.1)) (ow (map_row Cond.c 5 (drop_cons hd1).1 rfl) (ow (at_row Cond.c 5 h34 rfl) (ow (d_impl_SameCond_good h36) (ow (h37) ow0))))) rfl
    · have t := ih1 (i1 + 1)  (drop_cons hd1).2.2 h
      refine AW_go (n := 2000) [[none]] [.b true, .n 10, .row (Cond.c x1_), .row (Cond.c x33), .d (D.bool (y35)), .b false, .cn [2, 3, 39, 40] [0, 1]] (.cont 0 ⟨[(2, D.ptr 0 0), (3, D.ptr 1 0), (39, D.int .i64 ((((a0_.conds).map Cond.c).length : Int))), (40, D.int .i64 (IntKind.i64.wrap (((i1 : Int)) + (1))))], [Ob.box (Rule.c a0_), Ob.box (Rule.c a1_)]⟩) hΓ mix (by kernel_rfl) (ow ((ltm_true Cond.c (drop_cons hd1).2.1)) (ow (map_row Cond.c 5 (drop_cons hd1).1 rfl) (ow (at_row Cond.c 5 h34 rfl) (ow (d_impl_SameCond_good h36) (ow (h37) ow0))))) ?_
      refine (congrFun hS1 _).mpr ?_
      rw [i64_succ (drop_cons hd1).2.1 hm1]
      first | exact t | (simp only [List.map_append, List.map_cons, List.map_nil, List.map_set] at t ⊢; exact t)
theorem d_impl_SameRule_L2w {Γ : Ctx} (hΓ : Γ.nt = 92) {N : Nat → St → Prop} {a0_ : Rule} {a1_ : Rule} {r : Bool} {k2 : Option Bool} (hE2 : k2 = some r → AW Try.prog Γ (dig (bodyOf Try.f163) [1, 1, 1, 1] []).1 (KQ Try.prog Γ N (RetQ Try.prog Try.f163 (D.bool (r))) (dig (bodyOf Try.f163) [1, 1, 1, 1] []).2) ⟨[], []⟩) (hm2 : (a0_.acts).length ≤ maxLen) : ∀ (rest : List Action) (i2 : Nat) , (a0_.acts).drop i2 = rest → d_impl_SameRule_L2 a0_ a1_ k2 rest i2  = some r → AWr Try.prog Γ (dig (bodyOf Try.f163) [1, 1, 1, 0, 1, 0, 0] []).1 (KQ Try.prog Γ N (RetQ Try.prog Try.f163 (D.bool (r))) (dig (bodyOf Try.f163) [1, 1, 1, 0, 1, 0] []).2) (rest.length + 1) ⟨[(2, D.ptr 0 0), (3, D.ptr 1 0), (58, D.int .i64 ((((a0_.acts).map Action.c).length : Int))), (59, D.int .i64 ((i2 : Int)))], [Ob.box (Rule.c a0_), Ob.box (Rule.c a1_)]⟩ := by
  intro rest
  induction rest with
  | nil =>
    intro i2  hd2 h
    rw [d_impl_SameRule_L2] at h
    refine AWr_succ fun N2 hN2 hS2 => ?_
    have t := AW_N (N := N) (N' := N2) (K0 := (dig (bodyOf Try.f163) [1, 1, 1, 0, 1, 0] []).2) (by kernel_rfl) hN2 (hE2  h)
    refine AW_go (n := 2000) [[none]] [.b false, .hl 0 [] []] (.at_ (dig (bodyOf Try.f163) [1, 1, 1, 1] []).1 (dig (bodyOf Try.f163) [1, 1, 1, 1] []).2 ⟨[], []⟩) hΓ mix (by kernel_rfl) (ow ((ltm_false Action.c (drop_nil hd2))) ow0) ?_
    first | exact t | (simp only [List.map_append, List.map_cons, List.map_nil, List.map_set] at t ⊢; exact t)
  | cons x2_ xs2 ih2 =>
    intro i2  hd2 h
    rw [d_impl_SameRule_L2] at h
    refine AWr_succ fun N2 hN2 hS2 => ?_
    obtain ⟨x70, h71, h⟩ := den_bind h
    rcases den_if h with ⟨h72, h⟩ | ⟨h72, h⟩
    · have h := den_some h
      subst h
      exact AW_go (n := 2000) [[none]] [.b true, .n 26, .row (Action.c x2_), .row (Action.c x70), .b true, .b true, .b true, .b true, .b true, .b true, .b true, .b true, .b true, .b true, .b true, .b true, .b true, .b true, .b true, .b true] (.ret (D.bool (false))) hΓ mix (by kernel_rfl) (ow ((ltm_true Action.c (drop_cons hd2).2.1)) (ow (map_row Action.c 3 (drop_cons hd2).1 rfl) (ow (at_row Action.c 3 h71 rfl) (ow (h72) (ow (h72) (ow (h72) (ow (h72) (ow (h72) (ow (h72) (ow (h72) (ow (h72) (ow (h72) (ow (h72) (ow (h72) (ow (h72) (ow (h72) (ow (h72) (ow (h72) (ow (show (true) = true from rfl) ow0))))))))))))))))))) rfl
    · obtain ⟨y73, h74, h⟩ := den_bind h
      rcases den_if h with ⟨h75, h⟩ | ⟨h75, h⟩
      · have h := den_some h
        subst h
        exact AW_go (n := 2000) [[none]] [.b true, .n 26, .row (Action.c x2_), .row (Action.c x70), .b false, .b false, .b false, .b false, .row (Action.c x2_), .b false, .b false, .b false, .b false, .b false, .b false, .row (Action.c x70), .b false, .b false, .b false, .d (D.bool (y73)), .b false, .b false, .b true] (.ret (D.bool (false))) hΓ mix (by kernel_rfl) (ow ((ltm_true Action.c (drop_cons hd2).2.1)) (ow (map_row Action.c 3 (drop_cons hd2).1 rfl) (ow (at_row Action.c 3 h71 rfl) (ow (h72) (ow (h72) (ow (h72) (ow (h72) (ow (map_row Action.c 3 (drop_cons hd2).1 rfl) (ow (h72) (ow (h72) (ow (h72) (ow (h72) (ow (h72) (ow (h72) (ow (at_row Action.c 3 h71 rfl) (ow (h72) (ow (h72) (ow (h72) (ow (d_impl_SamePattern_good h74) (ow (h72) (ow (h72) (ow (h75) ow0)))))))))))))))))))))) rfl
      · have t := ih2 (i2 + 1)  (drop_cons hd2).2.2 h
        refine AW_go (n := 2000) [[none]] [.b true, .n 26, .row (Action.c x2_), .row (Action.c x70), .b false, .b false, .b false, .b false, .row (Action.c x2_), .b false, .b false, .b false, .b false, .b false, .b false, .row (Action.c x70), .b false, .b false, .b false, .d (D.bool (y73)), .b false, .b false, .b false, .cn [2, 3, 58, 59] [0, 1]] (.cont 0 ⟨[(2, D.ptr 0 0), (3, D.ptr 1 0), (58, D.int .i64 ((((a0_.acts).map Action.c).length : Int))), (59, D.int .i64 (IntKind.i64.wrap (((i2 : Int)) + (1))))], [Ob.box (Rule.c a0_), Ob.box (Rule.c a1_)]⟩) hΓ mix (by kernel_rfl) (ow ((ltm_true Action.c (drop_cons hd2).2.1)) (ow (map_row Action.c 3 (drop_cons hd2).1 rfl) (ow (at_row Action.c 3 h71 rfl) (ow (h72) (ow (h72) (ow (h72) (ow (h72) (ow (map_row Action.c 3 (drop_cons hd2).1 rfl) (ow (h72) (ow (h72) (ow (h72) (ow (h72) (ow (h72) (ow (h72) (ow (at_row Action.c 3 h71 rfl) (ow (h72) (ow (h72) (ow (h72) (ow (d_impl_SamePattern_good h74) (ow (h72) (ow (h72) (ow (h75) ow0)))))))))))))))))))))) ?_
        refine (congrFun hS2 _).mpr ?_
        rw [i64_succ (drop_cons hd2).2.1 hm2]
        first | exact t | (simp only [List.map_append, List.map_cons, List.map_nil, List.map_set] at t ⊢; exact t)
theorem d_impl_SameRule_good {a0_ : Rule} {a1_ : Rule} {r : Bool} (h : d_impl_SameRule a0_ a1_ = some r) : Good Try.prog 163 [D.agg (Rule.c a0_), D.agg (Rule.c a1_)] (D.bool (r)) := by
  refine Good.of (c := bodyOf Try.f163) Try.func163 rfl (by decide) (by simp [Try.f163]) ?_
  intro hr Γ hΓ
  have hΓ : Γ.nt = 92 := hΓ
  rw [d_impl_SameRule] at h
  refine (show AW Try.prog Γ (bodyOf Try.f163) (KQ Try.prog Γ (fun _ _ => False) (RetQ Try.prog Try.f163 (D.bool (r))) []) _ from ?_)
  rcases den_if h with ⟨h1, h⟩ | ⟨h1, h⟩
  · have h := den_some h
    subst h
    exact AW_go (n := 2000) [[none]] [.b true, .b true, .b true, .b true, .b true, .b true, .b true, .b true, .b true, .b true, .b true, .b true, .b true, .b true, .b true, .b true, .b true, .b true, .b true, .b true, .b true, .b true, .b true] (.ret (D.bool (false))) hΓ mix (by kernel_rfl) (ow (h1) (ow (h1) (ow (h1) (ow (h1) (ow (h1) (ow (h1) (ow (show (true) = true from rfl) (ow (show (true) = true from rfl) (ow (show (true) = true from rfl) (ow (show (true) = true from rfl) (ow (show (true) = true from rfl) (ow (show (true) = true from rfl) (ow (show (true) = true from rfl) (ow (show (true) = true from rfl) (ow (show (true) = true from rfl) (ow (show (true) = true from rfl) (ow (show (true) = true from rfl) (ow (show (true) = true from rfl) (ow (show (true) = true from rfl) (ow (show (true) = true from rfl) (ow (show (true) = true from rfl) (ow (show (true) = true from rfl) (ow (show (true) = true from rfl) ow0))))))))))))))))))))))) rfl
  · rcases den_if h with ⟨h2, h⟩ | ⟨h2, h⟩
    · have h := den_some h
      subst h
      exact AW_go (n := 2000) [[none]] [.b false, .b false, .b false, .b false, .b false, .b false, .b true, .b true, .b true, .b true, .b true, .b true, .b true, .b true, .b true, .b true, .b true, .b true, .b true, .b true, .b true, .b true, .b true] (.ret (D.bool (false))) hΓ mix (by kernel_rfl) (ow (h1) (ow (h1) (ow (h1) (ow (h1) (ow (h1) (ow (h1) (ow (h2) (ow (h2) (ow (h2) (ow (h2) (ow (h2) (ow (h2) (ow (h2) (ow (h2) (ow (show (true) = true from rfl) (ow (show (true) = true from rfl) (ow (show (true) = true from rfl) (ow (show (true) = true from rfl) (ow (show (true) = true from rfl) (ow (show (true) = true from rfl) (ow (show (true) = true from rfl) (ow (show (true) = true from rfl) (ow (show (true) = true from rfl) ow0))))))))))))))))))))))) rfl
    · rcases den_if h with ⟨h3, h⟩ | ⟨h3, h⟩
      · have h := den_some h
        subst h
        exact AW_go (n := 2000) [[none]] [.b false, .b false, .b false, .b false, .b false, .b false, .b false, .b false, .b false, .b false, .b false, .b false, .b false, .b false, .b true, .b true, .b true, .b true, .b true, .b true, .b true, .b true, .b true] (.ret (D.bool (false))) hΓ mix (by kernel_rfl) (ow (h1) (ow (h1) (ow (h1) (ow (h1) (ow (h1) (ow (h1) (ow (h2) (ow (h2) (ow (h2) (ow (h2) (ow (h2) (ow (h2) (ow (h2) (ow (h2) (ow (h3) (ow (h3) (ow (h3) (ow (h3) (ow (h3) (ow (h3) (ow (h3) (ow (h3) (ow (show (true) = true from rfl) ow0))))))))))))))))))))))) rfl
      · rcases den_if h with ⟨h4, h⟩ | ⟨h4, h⟩
        · have h := den_some h
          subst h
          exact AW_go (n := 2000) [[none]] [.b false, .b false, .b false, .b false, .b false, .b false, .b false, .b false, .b false, .b false, .b false, .b false, .b false, .b false, .b false, .b false, .b false, .b false, .b false, .b false, .b false, .b false, .b true] (.ret (D.bool (false))) hΓ mix (by kernel_rfl) (ow (h1) (ow (h1) (ow (h1) (ow (h1) (ow (h1) (ow (h1) (ow (h2) (ow (h2) (ow (h2) (ow (h2) (ow (h2) (ow (h2) (ow (h2) (ow (h2) (ow (h3) (ow (h3) (ow (h3) (ow (h3) (ow (h3) (ow (h3) (ow (h3) (ow (h3) (ow (h4) ow0))))))))))))))))))))))) rfl
        · refine AW_go (n := 2000) [[none]] [.b false, .b false, .b false, .b false, .b false, .b false, .b false, .b false, .b false, .b false, .b false, .b false, .b false, .b false, .b false, .b false, .b false, .b false, .b false, .b false, .b false, .b false, .b false, .cn [2, 3, 39, 40] [0, 1]] (.lp (dig (bodyOf Try.f163) [1, 1, 0, 1, 0, 0] []).1 (dig (bodyOf Try.f163) [1, 1, 0, 1, 0] []).2 ⟨[(2, D.ptr 0 0), (3, D.ptr 1 0), (39, D.int .i64 ((((a0_.conds).map Cond.c).length : Int))), (40, D.int .i64 (0))], [Ob.box (Rule.c a0_), Ob.box (Rule.c a1_)]⟩) hΓ mix (by kernel_rfl) (ow (h1) (ow (h1) (ow (h1) (ow (h1) (ow (h1) (ow (h1) (ow (h2) (ow (h2) (ow (h2) (ow (h2) (ow (h2) (ow (h2) (ow (h2) (ow (h2) (ow (h3) (ow (h3) (ow (h3) (ow (h3) (ow (h3) (ow (h3) (ow (h3) (ow (h3) (ow (h4) ow0))))))))))))))))))))))) (AW_st (by first | rfl | (simp only [List.map_append, List.map_cons, List.map_nil, List.map_set, List.map_replicate] <;> rfl)) (AW_of_r (d_impl_SameRule_L1w hΓ (fun h => ?_) (by have := (Rdb.sl (Rdb.agg (hr _ (List.mem_of_getElem? (i := 0) rfl)) (.sl ((a0_.conds).map Cond.c)) (by simp))).1; simpa using this) (a0_.conds) 0  rfl h)))
          refine AW_go (n := 2000) [[none]] [.cn [2, 3, 58, 59] [0, 1]] (.lp (dig (bodyOf Try.f163) [1, 1, 1, 0, 1, 0, 0] []).1 (dig (bodyOf Try.f163) [1, 1, 1, 0, 1, 0] []).2 ⟨[(2, D.ptr 0 0), (3, D.ptr 1 0), (58, D.int .i64 ((((a0_.acts).map Action.c).length : Int))), (59, D.int .i64 (0))], [Ob.box (Rule.c a0_), Ob.box (Rule.c a1_)]⟩) hΓ mix (by kernel_rfl) ow0 (AW_st (by first | rfl | (simp only [List.map_append, List.map_cons, List.map_nil, List.map_set, List.map_replicate] <;> rfl)) (AW_of_r (d_impl_SameRule_L2w hΓ (fun h => ?_) (by have := (Rdb.sl (Rdb.agg (hr _ (List.mem_of_getElem? (i := 0) rfl)) (.sl ((a0_.acts).map Action.c)) (by simp))).1; simpa using this) (a0_.acts) 0  rfl h)))
          have h := den_some h
          subst h
          exact AW_go (n := 2000) [[none]] [] (.ret (D.bool (true))) hΓ mix (by kernel_rfl) ow0 rfl
def d_impl_sameRules_L1 (a0_ : List Rule) (a1_ : List Rule) (k1 : Option Bool) : List Rule → Nat → Option Bool
  | [], i1 => (k1 )
  | x1_ :: xs1, i1 => ((atI (a1_) ((i1 : Int))).bind fun x30 => ((d_impl_SameRule (x1_) (x30)).bind fun y32 => (bif !(y32) then (some (false)) else (d_impl_sameRules_L1 a0_ a1_ k1 xs1 (i1 + 1) ))))
def d_impl_sameRules (a0_ : List Rule) (a1_ : List Rule) : Option Bool := (bif ((((a0_).map Rule.c).length : Int) : Int) != ((((a1_).map Rule.c).length : Int)) then (some (false)) else (d_impl_sameRules_L1 a0_ a1_ (some (true)) (a0_) 0 ))
theorem d_impl_sameRules_L1w {Γ : Ctx} (hΓ : Γ.nt = 27) {N : Nat → St → Prop} {a0_ : List Rule} {a1_ : List Rule} {r : Bool} {k1 : Option Bool} (hE1 : k1 = some r → AW Try.prog Γ (dig (bodyOf Try.f113) [1, 1, 1] []).1 (KQ Try.prog Γ N (RetQ Try.prog Try.f113 (D.bool (r))) (dig (bodyOf Try.f113) [1, 1, 1] []).2) ⟨[], []⟩) (hm1 : (a0_).length ≤ maxLen) : ∀ (rest : List Rule) (i1 : Nat) , (a0_).drop i1 = rest → d_impl_sameRules_L1 a0_ a1_ k1 rest i1  = some r → AWr Try.prog Γ (dig (bodyOf Try.f113) [1, 1, 0, 1, 0, 0] []).1 (KQ Try.prog Γ N (RetQ Try.prog Try.f113 (D.bool (r))) (dig (bodyOf Try.f113) [1, 1, 0, 1, 0] []).2) (rest.length + 1) ⟨[(0, D.sl ((a0_).map Rule.c)), (1, D.sl ((a1_).map Rule.c)), (12, D.int .i64 ((((a0_).map Rule.c).length : Int))), (13, D.int .i64 ((i1 : Int)))], []⟩ := by
  intro rest
  induction rest with
  | nil =>
    intro i1  hd1 h
    rw [d_impl_sameRules_L1] at h
    refine AWr_succ fun N1 hN1 hS1 => ?_
    have t := AW_N (N := N) (N' := N1) (K0 := (dig (bodyOf Try.f113) [1, 1, 0, 1, 0] []).2) (by kernel_rfl) hN1 (hE1  h)
    refine AW_go (n := 2000) [[none]] [.b false, .hl 0 [] []] (.at_ (dig (bodyOf Try.f113) [1, 1, 1] []).1 (dig (bodyOf Try.f113) [1, 1, 1] []).2 ⟨[], []⟩) hΓ mix (by kernel_rfl) (ow ((ltm_false Rule.c (drop_nil hd1))) ow0) ?_
    first | exact t | (simp only [List.map_append, List.map_cons, List.map_nil, List.map_set] at t ⊢; exact t)
  | cons x1_ xs1 ih1 =>
    intro i1  hd1 h
    rw [d_impl_sameRules_L1] at h
    refine AWr_succ fun N1 hN1 hS1 => ?_
    obtain ⟨x30, h31, h⟩ := den_bind h
    obtain ⟨y32, h33, h⟩ := den_bind h
    rcases den_if h with ⟨h34, h⟩ | ⟨h34, h⟩
    · have h := den_some h
      subst h
      exact AW_go (n := 2000) [[none]] [.b true, .n 8, .row (Rule.c x1_), .row (Rule.c x30), .d (D.bool (y32)), .b true] (.ret (D.bool (false))) hΓ mix (by kernel_rfl) (ow ((ltm_true Rule.c (drop_cons hd1).2.1)) (ow (map_row Rule.c 4 (drop_cons hd1).1 rfl) (ow (at_row Rule.c 4 h31 rfl) (ow (d_impl_SameRule_good h33) (ow (h34) ow0))))) rfl
    · have t := ih1 (i1 + 1)  (drop_cons hd1).2.2 h
      refine AW_go (n := 2000) [[none]] [.b true, .n 8, .row (Rule.c x1_), .row (Rule.c x30), .d (D.bool (y32)), .b false, .cn [0, 1, 12, 13] []] (.cont 0 ⟨[(0, D.sl ((a0_).map Rule.c)), (1, D.sl ((a1_).map Rule.c)), (12, D.int .i64 ((((a0_).map Rule.c).length : Int))), (13, D.int .i64 (IntKind.i64.wrap (((i1 : Int)) + (1))))], []⟩) hΓ mix (by kernel_rfl) (ow ((ltm_true Rule.c (drop_cons hd1).2.1)) (ow (map_row Rule.c 4 (drop_cons hd1).1 rfl) (ow (at_row Rule.c 4 h31 rfl) (ow (d_impl_SameRule_good h33) (ow (h34) ow0))))) ?_
      refine (congrFun hS1 _).mpr ?_
      rw [i64_succ (drop_cons hd1).2.1 hm1]
      first | exact t | (simp only [List.map_append, List.map_cons, List.map_nil, List.map_set] at t ⊢; exact t)
theorem d_impl_sameRules_good {a0_ : List Rule} {a1_ : List Rule} {r : Bool} (h : d_impl_sameRules a0_ a1_ = some r) : Good Try.prog 113 [D.sl ((a0_).map Rule.c), D.sl ((a1_).map Rule.c)] (D.bool (r)) := by
  refine Good.of (c := bodyOf Try.f113) Try.func113 rfl (by decide) (by simp [Try.f113]) ?_
  intro hr Γ hΓ
  have hΓ : Γ.nt = 27 := hΓ
  rw [d_impl_sameRules] at h
  refine (show AW Try.prog Γ (bodyOf Try.f113) (KQ Try.prog Γ (fun _ _ => False) (RetQ Try.prog Try.f113 (D.bool (r))) []) _ from ?_)
  rcases den_if h with ⟨h1, h⟩ | ⟨h1, h⟩
  · have h := den_some h
    subst h
    exact AW_go (n := 2000) [[none]] [.b true] (.ret (D.bool (false))) hΓ mix (by kernel_rfl) (ow (h1) ow0) rfl
  · refine AW_go (n := 2000) [[none]] [.b false, .cn [0, 1, 12, 13] []] (.lp (dig (bodyOf Try.f113) [1, 1, 0, 1, 0, 0] []).1 (dig (bodyOf Try.f113) [1, 1, 0, 1, 0] []).2 ⟨[(0, D.sl ((a0_).map Rule.c)), (1, D.sl ((a1_).map Rule.c)), (12, D.int .i64 ((((a0_).map Rule.c).length : Int))), (13, D.int .i64 (0))], []⟩) hΓ mix (by kernel_rfl) (ow (h1) ow0) (AW_st (by first | rfl | (simp only [List.map_append, List.map_cons, List.map_nil, List.map_set, List.map_replicate] <;> rfl)) (AW_of_r (d_impl_sameRules_L1w hΓ (fun h => ?_) (by have := (Rdb.sl (hr _ (List.mem_of_getElem? (i := 0) rfl))).1; simpa using this) (a0_) 0  rfl h)))
    have h := den_some h
    subst h
    exact AW_go (n := 2000) [[none]] [] (.ret (D.bool (true))) hΓ mix (by kernel_rfl) ow0 rfl
def d_impl_sameInts_L1 (a0_ : List Int) (a1_ : List Int) (k1 : Option Bool) : List Int → Nat → Option Bool
  | [], i1 => (k1 )
  | x1_ :: xs1, i1 => ((atI (a1_) ((i1 : Int))).bind fun x22 => (bif (x1_ : Int) != (x22) then (some (false)) else (d_impl_sameInts_L1 a0_ a1_ k1 xs1 (i1 + 1) )))
def d_impl_sameInts (a0_ : List Int) (a1_ : List Int) : Option Bool := (bif ((((a0_).map ixx).length : Int) : Int) != ((((a1_).map ixx).length : Int)) then (some (false)) else (d_impl_sameInts_L1 a0_ a1_ (some (true)) (a0_) 0 ))
theorem d_impl_sameInts_L1w {Γ : Ctx} (hΓ : Γ.nt = 26) {N : Nat → St → Prop} {a0_ : List Int} {a1_ : List Int} {r : Bool} {k1 : Option Bool} (hE1 : k1 = some r → AW Try.prog Γ (dig (bodyOf Try.f114) [1, 1, 1] []).1 (KQ Try.prog Γ N (RetQ Try.prog Try.f114 (D.bool (r))) (dig (bodyOf Try.f114) [1, 1, 1] []).2) ⟨[], []⟩) (hm1 : (a0_).length ≤ maxLen) : ∀ (rest : List Int) (i1 : Nat) , (a0_).drop i1 = rest → d_impl_sameInts_L1 a0_ a1_ k1 rest i1  = some r → AWr Try.prog Γ (dig (bodyOf Try.f114) [1, 1, 0, 1, 0, 0] []).1 (KQ Try.prog Γ N (RetQ Try.prog Try.f114 (D.bool (r))) (dig (bodyOf Try.f114) [1, 1, 0, 1, 0] []).2) (rest.length + 1) ⟨[(0, D.sl ((a0_).map ixx)), (1, D.sl ((a1_).map ixx)), (12, D.int .i64 ((((a0_).map ixx).length : Int))), (13, D.int .i64 ((i1 : Int)))], []⟩ := by
  intro rest
  induction rest with
  | nil =>
    intro i1  hd1 h
    rw [d_impl_sameInts_L1] at h
    refine AWr_succ fun N1 hN1 hS1 => ?_
    have t := AW_N (N := N) (N' := N1) (K0 := (dig (bodyOf Try.f114) [1, 1, 0, 1, 0] []).2) (by kernel_rfl) hN1 (hE1  h)
    refine AW_go (n := 2000) [[none]] [.b false, .hl 0 [] []] (.at_ (dig (bodyOf Try.f114) [1, 1, 1] []).1 (dig (bodyOf Try.f114) [1, 1, 1] []).2 ⟨[], []⟩) hΓ mix (by kernel_rfl) (ow ((ltm_false ixx (drop_nil hd1))) ow0) ?_
    first | exact t | (simp only [List.map_append, List.map_cons, List.map_nil, List.map_set] at t ⊢; exact t)
  | cons x1_ xs1 ih1 =>
    intro i1  hd1 h
    rw [d_impl_sameInts_L1] at h
    refine AWr_succ fun N1 hN1 hS1 => ?_
    obtain ⟨x22, h23, h⟩ := den_bind h
    rcases den_if h with ⟨h24, h⟩ | ⟨h24, h⟩
    · have h := den_some h
      subst h
      exact AW_go (n := 2000) [[none]] [.b true, .n 8, .row (ixx x1_), .row (ixx x22), .b true] (.ret (D.bool (false))) hΓ mix (by kernel_rfl) (ow ((ltm_true ixx (drop_cons hd1).2.1)) (ow (map_row ixx 1 (drop_cons hd1).1 rfl) (ow (at_row ixx 1 h23 rfl) (ow (h24) ow0)))) rfl
    · have t := ih1 (i1 + 1)  (drop_cons hd1).2.2 h
      refine AW_go (n := 2000) [[none]] [.b true, .n 8, .row (ixx x1_), .row (ixx x22), .b false, .cn [0, 1, 12, 13] []] (.cont 0 ⟨[(0, D.sl ((a0_).map ixx)), (1, D.sl ((a1_).map ixx)), (12, D.int .i64 ((((a0_).map ixx).length : Int))), (13, D.int .i64 (IntKind.i64.wrap (((i1 : Int)) + (1))))], []⟩) hΓ mix (by kernel_rfl) (ow ((ltm_true ixx (drop_cons hd1).2.1)) (ow (map_row ixx 1 (drop_cons hd1).1 rfl) (ow (at_row ixx 1 h23 rfl) (ow (h24) ow0)))) ?_
      refine (congrFun hS1 _).mpr ?_
      rw [i64_succ (drop_cons hd1).2.1 hm1]
      first | exact t | (simp only [List.map_append, List.map_cons, List.map_nil, List.map_set] at t ⊢; exact t)
theorem d_impl_sameInts_good {a0_ : List Int} {a1_ : List Int} {r : Bool} (h : d_impl_sameInts a0_ a1_ = some r) : Good Try.prog 114 [D.sl ((a0_).map ixx), D.sl ((a1_).map ixx)] (D.bool (r)) := by
  refine Good.of (c := bodyOf Try.f114) Try.func114 rfl (by decide) (by simp [Try.f114]) ?_
  intro hr Γ hΓ
  have hΓ : Γ.nt = 26 := hΓ
  rw [d_impl_sameInts] at h
  refine (show AW Try.prog Γ (bodyOf Try.f114) (KQ Try.prog Γ (fun _ _ => False) (RetQ Try.prog Try.f114 (D.bool (r))) []) _ from ?_)
  rcases den_if h with ⟨h1, h⟩ | ⟨h1, h⟩
  · have h := den_some h
    subst h
    exact AW_go (n := 2000) [[none]] [.b true] (.ret (D.bool (false))) hΓ mix (by kernel_rfl) (ow (h1) ow0) rfl
  · refine AW_go (n := 2000) [[none]] [.b false, .cn [0, 1, 12, 13] []] (.lp (dig (bodyOf Try.f114) [1, 1, 0, 1, 0, 0] []).1 (dig (bodyOf Try.f114) [1, 1, 0, 1, 0] []).2 ⟨[(0, D.sl ((a0_).map ixx)), (1, D.sl ((a1_).map ixx)), (12, D.int .i64 ((((a0_).map ixx).length : Int))), (13, D.int .i64 (0))], []⟩) hΓ mix (by kernel_rfl) (ow (h1) ow0) (AW_st (by first | rfl | (simp only [List.map_append, List.map_cons, List.map_nil, List.map_set, List.map_replicate] <;> rfl)) (AW_of_r (d_impl_sameInts_L1w hΓ (fun h => ?_) (by have := (Rdb.sl (hr _ (List.mem_of_getElem? (i := 0) rfl))).1; simpa using this) (a0_) 0  rfl h)))
    have h := den_some h
    subst h
    exact AW_go (n := 2000) [[none]] [] (.ret (D.bool (true))) hΓ mix (by kernel_rfl) ow0 rfl
def d_impl_SameFacts_L1 (a0_ : List Fact) (a1_ : List Fact) (k1 : Option Bool) : List Fact → Nat → Option Bool
  | [], i1 => (k1 )
  | x1_ :: xs1, i1 => ((atI (a1_) ((i1 : Int))).bind fun x30 => ((d_impl_sameFact (x1_) (x30)).bind fun y32 => (bif !(y32) then (some (false)) else (d_impl_SameFacts_L1 a0_ a1_ k1 xs1 (i1 + 1) ))))
def d_impl_SameFacts (a0_ : List Fact) (a1_ : List Fact) : Option Bool := (bif ((((a0_).map Fact.c).length : Int) : Int) != ((((a1_).map Fact.c).length : Int)) then (some (false)) else (d_impl_SameFacts_L1 a0_ a1_ (some (true)) (a0_) 0 ))
theorem d_impl_SameFacts_L1w {Γ : Ctx} (hΓ : Γ.nt = 27) {N : Nat → St → Prop} {a0_ : List Fact} {a1_ : List Fact} {r : Bool} {k1 : Option Bool} (hE1 : k1 = some r → AW Try.prog Γ (dig (bodyOf Try.f115) [1, 1, 1] []).1 (KQ Try.prog Γ N (RetQ Try.prog Try.f115 (D.bool (r))) (dig (bodyOf Try.f115) [1, 1, 1] []).2) ⟨[], []⟩) (hm1 : (a0_).length ≤ maxLen) : ∀ (rest : List Fact) (i1 : Nat) , (a0_).drop i1 = rest → d_impl_SameFacts_L1 a0_ a1_ k1 rest i1  = some r → AWr Try.prog Γ (dig (bodyOf Try.f115) [1, 1, 0, 1, 0, 0] []).1 (KQ Try.prog Γ N (RetQ Try.prog Try.f115 (D.bool (r))) (dig (bodyOf Try.f115) [1, 1, 0, 1, 0] []).2) (rest.length + 1) ⟨[(0, D.sl ((a0_).map Fact.c)), (1, D.sl ((a1_).map Fact.c)), (12, D.int .i64 ((((a0_).map Fact.c).length : Int))), (13, D.int .i64 ((i1 : Int)))], []⟩ := by
  intro rest
  induction rest with
  | nil =>
    intro i1  hd1 h
    rw [d_impl_SameFacts_L1] at h
    refine AWr_succ fun N1 hN1 hS1 => ?_
    have t := AW_N (N := N) (N' := N1) (K0 := (dig (bodyOf Try.f115) [1, 1, 0, 1, 0] []).2) (by kernel_rfl) hN1 (hE1  h)
    refine AW_go (n := 2000) [[none]] [.b false, .hl 0 [] []] (.at_ (dig (bodyOf Try.f115) [1, 1, 1] []).1 (dig (bodyOf Try.f115) [1, 1, 1] []).2 ⟨[], []⟩) hΓ mix (by kernel_rfl) (ow ((ltm_false Fact.c (drop_nil hd1))) ow0) ?_
    first | exact t | (simp only [List.map_append, List.map_cons, List.map_nil, List.map_set] at t ⊢; exact t)
  | cons x1_ xs1 ih1 =>
    intro i1  hd1 h
    rw [d_impl_SameFacts_L1] at h
    refine AWr_succ fun N1 hN1 hS1 => ?_
    obtain ⟨x30, h31, h⟩ := den_bind h
    obtain ⟨y32, h33, h⟩ := den_bind h
    rcases den_if h with ⟨h34, h⟩ | ⟨h34, h⟩
    · have h := den_some h
      subst h
      exact AW_go (n := 2000) [[none]] [.b true, .n 8, .row (Fact.c x1_), .row (Fact.c x30), .d (D.bool (y32)), .b true] (.ret (D.bool (false))) hΓ mix (by kernel_rfl) (ow ((ltm_true Fact.c (drop_cons hd1).2.1)) (ow (map_row Fact.c 2 (drop_cons hd1).1 rfl) (ow (at_row Fact.c 2 h31 rfl) (ow (d_impl_sameFact_good h33) (ow (h34) ow0))))) rfl
    · have t := ih1 (i1 + 1)  (drop_cons hd1).2.2 h
      refine AW_go (n := 2000) [[none]] [.b true, .n 8, .row (Fact.c x1_), .row (Fact.c x30), .d (D.bool (y32)), .b false, .cn [0, 1, 12, 13] []] (.cont 0 ⟨[(0, D.sl ((a0_).map Fact.c)), (1, D.sl ((a1_).map Fact.c)), (12, D.int .i64 ((((a0_).map Fact.c).length : Int))), (13, D.int .i64 (IntKind.i64.wrap (((i1 : Int)) + (1))))], []⟩) hΓ mix (by kernel_rfl) (ow ((ltm_true Fact.c (drop_cons hd1).2.1)) (ow (map_row Fact.c 2 (drop_cons hd1).1 rfl) (ow (at_row Fact.c 2 h31 rfl) (ow (d_impl_sameFact_good h33) (ow (h34) ow0))))) ?_
      refine (congrFun hS1 _).mpr ?_
      rw [i64_succ (drop_cons hd1).2.1 hm1]
      first | exact t | (simp only [List.map_append, List.map_cons, List.map_nil, List.map_set] at t ⊢; exact t)
theorem d_impl_SameFacts_good {a0_ : List Fact} {a1_ : List Fact} {r : Bool} (h : d_impl_SameFacts a0_ a1_ = some r) : Good Try.prog 115 [D.sl ((a0_).map Fact.c), D.sl ((a1_).map Fact.c)] (D.bool (r)) := by
  refine Good.of (c := bodyOf Try.f115) Try.func115 rfl (by decide) (by simp [Try.f115]) ?_
  intro hr Γ hΓ
  have hΓ : Γ.nt = 27 := hΓ
  rw [d_impl_SameFacts] at h
  refine (show AW Try.prog Γ (bodyOf Try.f115) (KQ Try.prog Γ (fun _ _ => False) (RetQ Try.prog Try.f115 (D.bool (r))) []) _ from ?_)
  rcases den_if h with ⟨h1, h⟩ | ⟨h1, h⟩
  · have h := den_some h
    subst h
    exact AW_go (n := 2000) [[none]] [.b true] (.ret (D.bool (false))) hΓ mix (by kernel_rfl) (ow (h1) ow0) rfl
  · refine AW_go (n := 2000) [[none]] [.b false, .cn [0, 1, 12, 13] []] (.lp (dig (bodyOf Try.f115) [1, 1, 0, 1, 0, 0] []).1 (dig (bodyOf Try.f115) [1, 1, 0, 1, 0] []).2 ⟨[(0, D.sl ((a0_).map Fact.c)), (1, D.sl ((a1_).map Fact.c)), (12, D.int .i64 ((((a0_).map Fact.c).length : Int))), (13, D.int .i64 (0))], []⟩) hΓ mix (by kernel_rfl) (ow (h1) ow0) (AW_st (by first | rfl | (simp only [List.map_append, List.map_cons, List.map_nil, List.map_set, List.map_replicate] <;> rfl)) (AW_of_r (d_impl_SameFacts_L1w hΓ (fun h => ?_) (by have := (Rdb.sl (hr _ (List.mem_of_getElem? (i := 0) rfl))).1; simpa using this) (a0_) 0  rfl h)))
    have h := den_some h
    subst h
    exact AW_go (n := 2000) [[none]] [] (.ret (D.bool (true))) hΓ mix (by kernel_rfl) ow0 rfl
def d_impl_samePairs_L1 (a0_ : List Pair) (a1_ : List Pair) (k1 : Option Bool) : List Pair → Nat → Option Bool
  | [], i1 => (k1 )
  | x1_ :: xs1, i1 => ((atI (a1_) ((i1 : Int))).bind fun x22 => (bif !((x1_.var : Bytes) == (x22.var) && (x1_.value : Bytes) == (x22.value)) then (some (false)) else (d_impl_samePairs_L1 a0_ a1_ k1 xs1 (i1 + 1) )))
def d_impl_samePairs (a0_ : List Pair) (a1_ : List Pair) : Option Bool := (bif ((((a0_).map Pair.c).length : Int) : Int) != ((((a1_).map Pair.c).length : Int)) then (some (false)) else (d_impl_samePairs_L1 a0_ a1_ (some (true)) (a0_) 0 ))
theorem d_impl_samePairs_L1w {Γ : Ctx} (hΓ : Γ.nt = 26) {N : Nat → St → Prop} {a0_ : List Pair} {a1_ : List Pair} {r : Bool} {k1 : Option Bool} (hE1 : k1 = some r → AW Try.prog Γ (dig (bodyOf Try.f165) [1, 1, 1] []).1 (KQ Try.prog Γ N (RetQ Try.prog Try.f165 (D.bool (r))) (dig (bodyOf Try.f165) [1, 1, 1] []).2) ⟨[], []⟩) (hm1 : (a0_).length ≤ maxLen) : ∀ (rest : List Pair) (i1 : Nat) , (a0_).drop i1 = rest → d_impl_samePairs_L1 a0_ a1_ k1 rest i1  = some r → AWr Try.prog Γ (dig (bodyOf Try.f165) [1, 1, 0, 1, 0, 0] []).1 (KQ Try.prog Γ N (RetQ Try.prog Try.f165 (D.bool (r))) (dig (bodyOf Try.f165) [1, 1, 0, 1, 0] []).2) (rest.length + 1) ⟨[(0, D.sl ((a0_).map Pair.c)), (1, D.sl ((a1_).map Pair.c)), (12, D.int .i64 ((((a0_).map Pair.c).length : Int))), (13, D.int .i64 ((i1 : Int)))], []⟩ := by
  intro rest
  induction rest with
  | nil =>
    intro i1  hd1 h
    rw [d_impl_samePairs_L1] at h
    refine AWr_succ fun N1 hN1 hS1 => ?_
    have t := AW_N (N := N) (N' := N1) (K0 := (dig (bodyOf Try.f165) [1, 1, 0, 1, 0] []).2) (by kernel_rfl) hN1 (hE1  h)
    refine AW_go (n := 2000) [[none]] [.b false, .hl 0 [] []] (.at_ (dig (bodyOf Try.f165) [1, 1, 1] []).1 (dig (bodyOf Try.f165) [1, 1, 1] []).2 ⟨[], []⟩) hΓ mix (by kernel_rfl) (ow ((ltm_false Pair.c (drop_nil hd1))) ow0) ?_
    first | exact t | (simp only [List.map_append, List.map_cons, List.map_nil, List.map_set] at t ⊢; exact t)
  | cons x1_ xs1 ih1 =>
    intro i1  hd1 h
    rw [d_impl_samePairs_L1] at h
    refine AWr_succ fun N1 hN1 hS1 => ?_
    obtain ⟨x22, h23, h⟩ := den_bind h
    rcases den_if h with ⟨h24, h⟩ | ⟨h24, h⟩
    · have h := den_some h
      subst h
      exact AW_go (n := 2000) [[none]] [.b true, .n 8, .row (Pair.c x1_), .row (Pair.c x22), .b true] (.ret (D.bool (false))) hΓ mix (by kernel_rfl) (ow ((ltm_true Pair.c (drop_cons hd1).2.1)) (ow (map_row Pair.c 2 (drop_cons hd1).1 rfl) (ow (at_row Pair.c 2 h23 rfl) (ow (h24) ow0)))) rfl
    · have t := ih1 (i1 + 1)  (drop_cons hd1).2.2 h
      refine AW_go (n := 2000) [[none]] [.b true, .n 8, .row (Pair.c x1_), .row (Pair.c x22), .b false, .cn [0, 1, 12, 13] []] (.cont 0 ⟨[(0, D.sl ((a0_).map Pair.c)), (1, D.sl ((a1_).map Pair.c)), (12, D.int .i64 ((((a0_).map Pair.c).length : Int))), (13, D.int .i64 (IntKind.i64.wrap (((i1 : Int)) + (1))))], []⟩) hΓ mix (by kernel_rfl) (ow ((ltm_true Pair.c (drop_cons hd1).2.1)) (ow (map_row Pair.c 2 (drop_cons hd1).1 rfl) (ow (at_row Pair.c 2 h23 rfl) (ow (h24) ow0)))) ?_
      refine (congrFun hS1 _).mpr ?_
      rw [i64_succ (drop_cons hd1).2.1 hm1]
      first | exact t | (simp only [List.map_append, List.map_cons, List.map_nil, List.map_set] at t ⊢; exact t)
theorem d_impl_samePairs_good {a0_ : List Pair} {a1_ : List Pair} {r : Bool} (h : d_impl_samePairs a0_ a1_ = some r) : Good Try.prog 165 [D.sl ((a0_).map Pair.c), D.sl ((a1_).map Pair.c)] (D.bool (r)) := by
  refine Good.of (c := bodyOf Try.f165) Try.func165 rfl (by decide) (by simp [Try.f165]) ?_
  intro hr Γ hΓ
  have hΓ : Γ.nt = 26 := hΓ
  rw [d_impl_samePairs] at h
  refine (show AW Try.prog Γ (bodyOf Try.f165) (KQ Try.prog Γ (fun _ _ => False) (RetQ Try.prog Try.f165 (D.bool (r))) []) _ from ?_)
  rcases den_if h with ⟨h1, h⟩ | ⟨h1, h⟩
  · have h := den_some h
    subst h
    exact AW_go (n := 2000) [[none]] [.b true] (.ret (D.bool (false))) hΓ mix (by kernel_rfl) (ow (h1) ow0) rfl
  · refine AW_go (n := 2000) [[none]] [.b false, .cn [0, 1, 12, 13] []] (.lp (dig (bodyOf Try.f165) [1, 1, 0, 1, 0, 0] []).1 (dig (bodyOf Try.f165) [1, 1, 0, 1, 0] []).2 ⟨[(0, D.sl ((a0_).map Pair.c)), (1, D.sl ((a1_).map Pair.c)), (12, D.int .i64 ((((a0_).map Pair.c).length : Int))), (13, D.int .i64 (0))], []⟩) hΓ mix (by kernel_rfl) (ow (h1) ow0) (AW_st (by first | rfl | (simp only [List.map_append, List.map_cons, List.map_nil, List.map_set, List.map_replicate] <;> rfl)) (AW_of_r (d_impl_samePairs_L1w hΓ (fun h => ?_) (by have := (Rdb.sl (hr _ (List.mem_of_getElem? (i := 0) rfl))).1; simpa using this) (a0_) 0  rfl h)))
    have h := den_some h
    subst h
    exact AW_go (n := 2000) [[none]] [] (.ret (D.bool (true))) hΓ mix (by kernel_rfl) ow0 rfl
def d_impl_sameTokens_L1 (a0_ : List Token) (a1_ : List Token) (k1 : Option Bool) : List Token → Nat → Option Bool
  | [], i1 => (k1 )
  | x1_ :: xs1, i1 => ((atI (a1_) ((i1 : Int))).bind fun x42 => ((d_impl_SameFacts (x1_.facts) (x42.facts)).bind fun y44 => (bif !(y44) then (some (false)) else ((d_impl_samePairs (x1_.bind) (x42.bind)).bind fun y47 => (bif !(y47) then (some (false)) else (d_impl_sameTokens_L1 a0_ a1_ k1 xs1 (i1 + 1) ))))))
def d_impl_sameTokens (a0_ : List Token) (a1_ : List Token) : Option Bool := (bif ((((a0_).map Token.c).length : Int) : Int) != ((((a1_).map Token.c).length : Int)) then (some (false)) else (d_impl_sameTokens_L1 a0_ a1_ (some (true)) (a0_) 0 ))
theorem d_impl_sameTokens_L1w {Γ : Ctx} (hΓ : Γ.nt = 43) {N : Nat → St → Prop} {a0_ : List Token} {a1_ : List Token} {r : Bool} {k1 : Option Bool} (hE1 : k1 = some r → AW Try.prog Γ (dig (bodyOf Try.f118) [1, 1, 1] []).1 (KQ Try.prog Γ N (RetQ Try.prog Try.f118 (D.bool (r))) (dig (bodyOf Try.f118) [1, 1, 1] []).2) ⟨[], []⟩) (hm1 : (a0_).length ≤ maxLen) : ∀ (rest : List Token) (i1 : Nat) , (a0_).drop i1 = rest → d_impl_sameTokens_L1 a0_ a1_ k1 rest i1  = some r → AWr Try.prog Γ (dig (bodyOf Try.f118) [1, 1, 0, 1, 0, 0] []).1 (KQ Try.prog Γ N (RetQ Try.prog Try.f118 (D.bool (r))) (dig (bodyOf Try.f118) [1, 1, 0, 1, 0] []).2) (rest.length + 1) ⟨[(0, D.sl ((a0_).map Token.c)), (1, D.sl ((a1_).map Token.c)), (12, D.int .i64 ((((a0_).map Token.c).length : Int))), (13, D.int .i64 ((i1 : Int)))], []⟩ := by
  intro rest
  induction rest with
  | nil =>
    intro i1  hd1 h
    rw [d_impl_sameTokens_L1] at h
    refine AWr_succ fun N1 hN1 hS1 => ?_
    have t := AW_N (N := N) (N' := N1) (K0 := (dig (bodyOf Try.f118) [1, 1, 0, 1, 0] []).2) (by kernel_rfl) hN1 (hE1  h)
    refine AW_go (n := 2000) [[none]] [.b false, .hl 0 [] []] (.at_ (dig (bodyOf Try.f118) [1, 1, 1] []).1 (dig (bodyOf Try.f118) [1, 1, 1] []).2 ⟨[], []⟩) hΓ mix (by kernel_rfl) (ow ((ltm_false Token.c (drop_nil hd1))) ow0) ?_
    first | exact t | (simp only [List.map_append, List.map_cons, List.map_nil, List.map_set] at t ⊢; exact t)
  | cons x1_ xs1 ih1 =>
    intro i1  hd1 h
    rw [d_impl_sameTokens_L1] at h
    refine AWr_succ fun N1 hN1 hS1 => ?_
    obtain ⟨x42, h43, h⟩ := den_bind h
    obtain ⟨y44, h45, h⟩ := den_bind h
    rcases den_if h with ⟨h46, h⟩ | ⟨h46, h⟩
    · have h := den_some h
      subst h
      exact AW_go (n := 2000) [[none]] [.b true, .n 23, .row (Token.c x1_), .row (Token.c x42), .d (D.bool (y44)), .b true, .b true, .b true, .b true, .b true, .b true, .b true, .b true, .b true, .b true, .b true, .b true, .b true, .b true] (.ret (D.bool (false))) hΓ mix (by kernel_rfl) (ow ((ltm_true Token.c (drop_cons hd1).2.1)) (ow (map_row Token.c 2 (drop_cons hd1).1 rfl) (ow (at_row Token.c 2 h43 rfl) (ow (d_impl_SameFacts_good h45) (ow (h46) (ow (h46) (ow (h46) (ow (h46) (ow (h46) (ow (h46) (ow (h46) (ow (h46) (ow (h46) (ow (h46) (ow (h46) (ow (h46) (ow (h46) (ow (show (true) = true from rfl) ow0)))))))))))))))))) rfl
    · obtain ⟨y47, h48, h⟩ := den_bind h
      rcases den_if h with ⟨h49, h⟩ | ⟨h49, h⟩
      · have h := den_some h
        subst h
        exact AW_go (n := 2000) [[none]] [.b true, .n 23, .row (Token.c x1_), .row (Token.c x42), .d (D.bool (y44)), .b false, .b false, .b false, .row (Token.c x1_), .b false, .b false, .b false, .b false, .b false, .row (Token.c x42), .b false, .b false, .b false, .d (D.bool (y47)), .b false, .b false, .b true] (.ret (D.bool (false))) hΓ mix (by kernel_rfl) (ow ((ltm_true Token.c (drop_cons hd1).2.1)) (ow (map_row Token.c 2 (drop_cons hd1).1 rfl) (ow (at_row Token.c 2 h43 rfl) (ow (d_impl_SameFacts_good h45) (ow (h46) (ow (h46) (ow (h46) (ow (map_row Token.c 2 (drop_cons hd1).1 rfl) (ow (h46) (ow (h46) (ow (h46) (ow (h46) (ow (h46) (ow (at_row Token.c 2 h43 rfl) (ow (h46) (ow (h46) (ow (h46) (ow (d_impl_samePairs_good h48) (ow (h46) (ow (h46) (ow (h49) ow0))))))))))))))))))))) rfl
      · have t := ih1 (i1 + 1)  (drop_cons hd1).2.2 h
        refine AW_go (n := 2000) [[none]] [.b true, .n 23, .row (Token.c x1_), .row (Token.c x42), .d (D.bool (y44)), .b false, .b false, .b false, .row (Token.c x1_), .b false, .b false, .b false, .b false, .b false, .row (Token.c x42), .b false, .b false, .b false, .d (D.bool (y47)), .b false, .b false, .b false, .cn [0, 1, 12, 13] []] (.cont 0 ⟨[(0, D.sl ((a0_).map Token.c)), (1, D.sl ((a1_).map Token.c)), (12, D.int .i64 ((((a0_).map Token.c).length : Int))), (13, D.int .i64 (IntKind.i64.wrap (((i1 : Int)) + (1))))], []⟩) hΓ mix (by kernel_rfl) (ow ((ltm_true Token.c (drop_cons hd1).2.1)) (ow (map_row Token.c 2 (drop_cons hd1).1 rfl) (ow (at_row Token.c 2 h43 rfl) (ow (d_impl_SameFacts_good h45) (ow (h46) (ow (h46) (ow (h46) (ow (map_row Token.c 2 (drop_cons hd1).1 rfl) (ow (h46) (ow (h46) (ow (h46) (ow (h46) (ow (h46) (ow (at_row Token.c 2 h43 rfl) (ow (h46) (ow (h46) (ow (h46) (ow (d_impl_samePairs_good h48) (ow (h46) (ow (h46) (ow (h49) ow0))))))))))))))))))))) ?_
        refine (congrFun hS1 _).mpr ?_
        rw [i64_succ (drop_cons hd1).2.1 hm1]
        first | exact t | (simp only [List.map_append, List.map_cons, List.map_nil, List.map_set] at t ⊢; exact t)
theorem d_impl_sameTokens_good {a0_ : List Token} {a1_ : List Token} {r : Bool} (h : d_impl_sameTokens a0_ a1_ = some r) : Good Try.prog 118 [D.sl ((a0_).map Token.c), D.sl ((a1_).map Token.c)] (D.bool (r)) := by
  refine Good.of (c := bodyOf Try.f118) Try.func118 rfl (by decide) (by simp [Try.f118]) ?_
  intro hr Γ hΓ
  have hΓ : Γ.nt = 43 := hΓ
  rw [d_impl_sameTokens] at h
  refine (show AW Try.prog Γ (bodyOf Try.f118) (KQ Try.prog Γ (fun _ _ => False) (RetQ Try.prog Try.f118 (D.bool (r))) []) _ from ?_)
  rcases den_if h with ⟨h1, h⟩ | ⟨h1, h⟩
  · have h := den_some h
    subst h
    exact AW_go (n := 2000) [[none]] [.b true] (.ret (D.bool (false))) hΓ mix (by kernel_rfl) (ow (h1) ow0) rfl
  · refine AW_go (n := 2000) [[none]] [.b false, .cn [0, 1, 12, 13] []] (.lp (dig (bodyOf Try.f118) [1, 1, 0, 1, 0, 0] []).1 (dig (bodyOf Try.f118) [1, 1, 0, 1, 0] []).2 ⟨[(0, D.sl ((a0_).map Token.c)), (1, D.sl ((a1_).map Token.c)), (12, D.int .i64 ((((a0_).map Token.c).length : Int))), (13, D.int .i64 (0))], []⟩) hΓ mix (by kernel_rfl) (ow (h1) ow0) (AW_st (by first | rfl | (simp only [List.map_append, List.map_cons, List.map_nil, List.map_set, List.map_replicate] <;> rfl)) (AW_of_r (d_impl_sameTokens_L1w hΓ (fun h => ?_) (by have := (Rdb.sl (hr _ (List.mem_of_getElem? (i := 0) rfl))).1; simpa using this) (a0_) 0  rfl h)))
    have h := den_some h
    subst h
    exact AW_go (n := 2000) [[none]] [] (.ret (D.bool (true))) hΓ mix (by kernel_rfl) ow0 rfl
def d_impl_SameMemories_L1 (a0_ : Network) (a1_ : Network) (k1 : Option Bool) : List Alpha → Nat → Option Bool
  | [], i1 => (k1 )
  | x1_ :: xs1, i1 => ((atI (a1_.alphas) ((i1 : Int))).bind fun x52 => ((d_impl_SamePattern (x1_.shape) (x52.shape)).bind fun y54 => (bif !(y54) then (some (false)) else ((d_impl_SameFacts (x1_.facts) (x52.facts)).bind fun y57 => (bif !(y57) then (some (false)) else (d_impl_SameMemories_L1 a0_ a1_ k1 xs1 (i1 + 1) ))))))
def d_impl_SameMemories_L2 (a0_ : Network) (a1_ : Network) (k2 : Option Bool) : List Node → Nat → Option Bool
  | [], i2 => (k2 )
  | x2_ :: xs2, i2 => ((atI (a1_.nodes) ((i2 : Int))).bind fun x108 => (bif (x2_.parent : Int) != (x108.parent) then (some (false)) else (bif (x2_.alpha : Int) != (x108.alpha) then (some (false)) else ((d_impl_SameCond (x2_.cond) (x108.cond)).bind fun y112 => (bif !(y112) then (some (false)) else ((d_impl_sameTokens (x2_.tokens) (x108.tokens)).bind fun y115 => (bif !(y115) then (some (false)) else (d_impl_SameMemories_L2 a0_ a1_ k2 xs2 (i2 + 1) ))))))))
def d_impl_SameMemories (a0_ : Network) (a1_ : Network) : Option Bool := ((d_impl_sameRules (a0_.rules) (a1_.rules)).bind fun y1 => (bif !(y1) then (some (false)) else ((d_impl_sameInts (a0_.ends) (a1_.ends)).bind fun y4 => (bif !(y4) then (some (false)) else ((d_impl_SameFacts (a0_.facts) (a1_.facts)).bind fun y7 => (bif !(y7) then (some (false)) else (bif ((((a0_.alphas).map Alpha.c).length : Int) : Int) != ((((a1_.alphas).map Alpha.c).length : Int)) then (some (false)) else (bif ((((a0_.nodes).map Node.c).length : Int) : Int) != ((((a1_.nodes).map Node.c).length : Int)) then (some (false)) else (d_impl_SameMemories_L1 a0_ a1_ (d_impl_SameMemories_L2 a0_ a1_ (some (true)) (a0_.nodes) 0 ) (a0_.alphas) 0 )))))))))
theorem d_impl_SameMemories_L1w {Γ : Ctx} (hΓ : Γ.nt = 131) {N : Nat → St → Prop} {a0_ : Network} {a1_ : Network} {r : Bool} {k1 : Option Bool} (hE1 : k1 = some r → AW Try.prog Γ (dig (bodyOf Try.f59) [1, 1, 1] []).1 (KQ Try.prog Γ N (RetQ Try.prog Try.f59 (D.bool (r))) (dig (bodyOf Try.f59) [1, 1, 1] []).2) ⟨[(2, D.ptr 0 0), (3, D.ptr 1 0)], [Ob.box (Network.c a0_), Ob.box (Network.c a1_)]⟩) (hm1 : (a0_.alphas).length ≤ maxLen) : ∀ (rest : List Alpha) (i1 : Nat) , (a0_.alphas).drop i1 = rest → d_impl_SameMemories_L1 a0_ a1_ k1 rest i1  = some r → AWr Try.prog Γ (dig (bodyOf Try.f59) [1, 1, 0, 1, 0, 0] []).1 (KQ Try.prog Γ N (RetQ Try.prog Try.f59 (D.bool (r))) (dig (bodyOf Try.f59) [1, 1, 0, 1, 0] []).2) (rest.length + 1) ⟨[(2, D.ptr 0 0), (3, D.ptr 1 0), (51, D.int .i64 ((((a0_.alphas).map Alpha.c).length : Int))), (52, D.int .i64 ((i1 : Int)))], [Ob.box (Network.c a0_), Ob.box (Network.c a1_)]⟩ := by
  intro rest
  induction rest with
  | nil =>
    intro i1  hd1 h
    rw [d_impl_SameMemories_L1] at h
    refine AWr_succ fun N1 hN1 hS1 => ?_
    have t := AW_N (N := N) (N' := N1) (K0 := (dig (bodyOf Try.f59) [1, 1, 0, 1, 0] []).2) (by kernel_rfl) hN1 (hE1  h)
    refine AW_go (n := 2000) [[none]] [.b false, .hl 0 [2, 3] [0, 1]] (.at_ (dig (bodyOf Try.f59) [1, 1, 1] []).1 (dig (bodyOf Try.f59) [1, 1, 1] []).2 ⟨[(2, D.ptr 0 0), (3, D.ptr 1 0)], [Ob.box (Network.c a0_), Ob.box (Network.c a1_)]⟩) hΓ mix (by kernel_rfl) (ow ((ltm_false Alpha.c (drop_nil hd1))) ow0) ?_
    first | exact t | (simp only [List.map_append, List.map_cons, List.map_nil, List.map_set] at t ⊢; exact t)
  | cons x1_ xs1 ih1 =>
    intro i1  hd1 h
    rw [d_impl_SameMemories_L1] at h
    refine AWr_succ fun N1 hN1 hS1 => ?_
    obtain ⟨x52, h53, h⟩ := den_bind h
    obtain ⟨y54, h55, h⟩ := den_bind h
    rcases den_if h with ⟨h56, h⟩ | ⟨h56, h⟩
    · have h := den_some h
      subst h
      exact AW_go (n := 2000) [[none]] [.b true, .n 27, .row (Alpha.c x1_), .row (Alpha.c x52), .d (D.bool (y54)), .b true, .b true, .b true, .b true, .b true, .b true, .b true, .b true, .b true, .b true, .b true, .b true, .b true, .b true, .b true, .b true] (.ret (D.bool (false))) hΓ mix (by kernel_rfl) (ow ((ltm_true Alpha.c (drop_cons hd1).2.1)) (ow (map_row Alpha.c 3 (drop_cons hd1).1 rfl) (ow (at_row Alpha.c 3 h53 rfl) (ow (d_impl_SamePattern_good h55) (ow (h56) (ow (h56) (ow (h56) (ow (h56) (ow (h56) (ow (h56) (ow (h56) (ow (h56) (ow (h56) (ow (h56) (ow (h56) (ow (h56) (ow (h56) (ow (h56) (ow (h56) (ow (show (true) = true from rfl) ow0)))))))))))))))))))) rfl
    · obtain ⟨y57, h58, h⟩ := den_bind h
      rcases den_if h with ⟨h59, h⟩ | ⟨h59, h⟩
      · have h := den_some h
        subst h
        exact AW_go (n := 2000) [[none]] [.b true, .n 27, .row (Alpha.c x1_), .row (Alpha.c x52), .d (D.bool (y54)), .b false, .b false, .b false, .b false, .row (Alpha.c x1_), .b false, .b false, .b false, .b false, .b false, .b false, .row (Alpha.c x52), .b false, .b false, .b false, .d (D.bool (y57)), .b false, .b false, .b true] (.ret (D.bool (false))) hΓ mix (by kernel_rfl) (ow ((ltm_true Alpha.c (drop_cons hd1).2.1)) (ow (map_row Alpha.c 3 (drop_cons hd1).1 rfl) (ow (at_row Alpha.c 3 h53 rfl) (ow (d_impl_SamePattern_good h55) (ow (h56) (ow (h56) (ow (h56) (ow (h56) (ow (map_row Alpha.c 3 (drop_cons hd1).1 rfl) (ow (h56) (ow (h56) (ow (h56) (ow (h56) (ow (h56) (ow (h56) (ow (at_row Alpha.c 3 h53 rfl) (ow (h56) (ow (h56) (ow (h56) (ow (d_impl_SameFacts_good h58) (ow (h56) (ow (h56) (ow (h59) ow0))))))))))))))))))))))) rfl
      · have t := ih1 (i1 + 1)  (drop_cons hd1).2.2 h
        refine AW_go (n := 2000) [[none]] [.b true, .n 27, .row (Alpha.c x1_), .row (Alpha.c x52), .d (D.bool (y54)), .b false, .b false, .b false, .b false, .row (Alpha.c x1_), .b false, .b false, .b false, .b false, .b false, .b false, .row (Alpha.c x52), .b false, .b false, .b false, .d (D.bool (y57)), .b false, .b false, .b false, .cn [2, 3, 51, 52] [0, 1]] (.cont 0 ⟨[(2, D.ptr 0 0), (3, D.ptr 1 0), (51, D.int .i64 ((((a0_.alphas).map Alpha.c).length : Int))), (52, D.int .i64 (IntKind.i64.wrap (((i1 : Int)) + (1))))], [Ob.box (Network.c a0_), Ob.box (Network.c a1_)]⟩) hΓ mix (by kernel_rfl) (ow ((ltm_true Alpha.c (drop_cons hd1).2.1)) (ow (map_row Alpha.c 3 (drop_cons hd1).1 rfl) (ow (at_row Alpha.c 3 h53 rfl) (ow (d_impl_SamePattern_good h55) (ow (h56) (ow (h56) (ow (h56) (ow (h56) (ow (map_row Alpha.c 3 (drop_cons hd1).1 rfl) (ow (h56) (ow (h56) (ow (h56) (ow (h56) (ow (h56) (ow (h56) (ow (at_row Alpha.c 3 h53 rfl) (ow (h56) (ow (h56) (ow (h56) (ow (d_impl_SameFacts_good h58) (ow (h56) (ow (h56) (ow (h59) ow0))))))))))))))))))))))) ?_
        refine (congrFun hS1 _).mpr ?_
        rw [i64_succ (drop_cons hd1).2.1 hm1]
        first | exact t | (simp only [List.map_append, List.map_cons, List.map_nil, List.map_set] at t ⊢; exact t)
theorem d_impl_SameMemories_L2w {Γ : Ctx} (hΓ : Γ.nt = 131) {N : Nat → St → Prop} {a0_ : Network} {a1_ : Network} {r : Bool} {k2 : Option Bool} (hE2 : k2 = some r → AW Try.prog Γ (dig (bodyOf Try.f59) [1, 1, 1, 1] []).1 (KQ Try.prog Γ N (RetQ Try.prog Try.f59 (D.bool (r))) (dig (bodyOf Try.f59) [1, 1, 1, 1] []).2) ⟨[], []⟩) (hm2 : (a0_.nodes).length ≤ maxLen) : ∀ (rest : List Node) (i2 : Nat) , (a0_.nodes).drop i2 = rest → d_impl_SameMemories_L2 a0_ a1_ k2 rest i2  = some r → AWr Try.prog Γ (dig (bodyOf Try.f59) [1, 1, 1, 0, 1, 0, 0] []).1 (KQ Try.prog Γ N (RetQ Try.prog Try.f59 (D.bool (r))) (dig (bodyOf Try.f59) [1, 1, 1, 0, 1, 0] []).2) (rest.length + 1) ⟨[(2, D.ptr 0 0), (3, D.ptr 1 0), (88, D.int .i64 ((((a0_.nodes).map Node.c).length : Int))), (89, D.int .i64 ((i2 : Int)))], [Ob.box (Network.c a0_), Ob.box (Network.c a1_)]⟩ := by
  intro rest
  induction rest with
  | nil =>
    intro i2  hd2 h
    rw [d_impl_SameMemories_L2] at h
    refine AWr_succ fun N2 hN2 hS2 => ?_
    have t := AW_N (N := N) (N' := N2) (K0 := (dig (bodyOf Try.f59) [1, 1, 1, 0, 1, 0] []).2) (by kernel_rfl) hN2 (hE2  h)
    refine AW_go (n := 2000) [[none]] [.b false, .hl 0 [] []] (.at_ (dig (bodyOf Try.f59) [1, 1, 1, 1] []).1 (dig (bodyOf Try.f59) [1, 1, 1, 1] []).2 ⟨[], []⟩) hΓ mix (by kernel_rfl) (ow ((ltm_false Node.c (drop_nil hd2))) ow0) ?_
    first | exact t | (simp only [List.map_append, List.map_cons, List.map_nil, List.map_set] at t ⊢; exact t)
  | cons x2_ xs2 ih2 =>
    intro i2  hd2 h
    rw [d_impl_SameMemories_L2] at h
    refine AWr_succ fun N2 hN2 hS2 => ?_
    obtain ⟨x108, h109, h⟩ := den_bind h
    rcases den_if h with ⟨h110, h⟩ | ⟨h110, h⟩
    · have h := den_some h
      subst h
      exact AW_go (n := 2000) [[none]] [.b true, .n 13, .row (Node.c x2_), .row (Node.c x108), .b true, .b true, .b true, .b true, .b true, .b true, .b true, .b true, .b true, .b true, .b true, .b true, .b true, .b true, .b true, .b true, .b true, .b true, .b true, .b true, .b true] (.ret (D.bool (false))) hΓ mix (by kernel_rfl) (ow ((ltm_true Node.c (drop_cons hd2).2.1)) (ow (map_row Node.c 8 (drop_cons hd2).1 rfl) (ow (at_row Node.c 8 h109 rfl) (ow (h110) (ow (h110) (ow (h110) (ow (h110) (ow (h110) (ow (h110) (ow (show (true) = true from rfl) (ow (show (true) = true from rfl) (ow (show (true) = true from rfl) (ow (show (true) = true from rfl) (ow (show (true) = true from rfl) (ow (show (true) = true from rfl) (ow (show (true) = true from rfl) (ow (show (true) = true from rfl) (ow (show (true) = true from rfl) (ow (show (true) = true from rfl) (ow (show (true) = true from rfl) (ow (show (true) = true from rfl) (ow (show (true) = true from rfl) (ow (show (true) = true from rfl) (ow (show (true) = true from rfl) ow0)))))))))))))))))))))))) rfl
    · rcases den_if h with ⟨h111, h⟩ | ⟨h111, h⟩
      · have h := den_some h
        subst h
        exact AW_go (n := 2000) [[none]] [.b true, .n 13, .row (Node.c x2_), .row (Node.c x108), .b false, .b false, .b false, .b false, .b false, .b false, .b true, .b true, .b true, .b true, .b true, .b true, .b true, .b true, .b true, .b true, .b true, .b true, .b true, .b true, .b true] (.ret (D.bool (false))) hΓ mix (by kernel_rfl) (ow ((ltm_true Node.c (drop_cons hd2).2.1)) (ow (map_row Node.c 8 (drop_cons hd2).1 rfl) (ow (at_row Node.c 8 h109 rfl) (ow (h110) (ow (h110) (ow (h110) (ow (h110) (ow (h110) (ow (h110) (ow (h111) (ow (h111) (ow (h111) (ow (h111) (ow (h111) (ow (h111) (ow (h111) (ow (show (true) = true from rfl) (ow (show (true) = true from rfl) (ow (show (true) = true from rfl) (ow (show (true) = true from rfl) (ow (show (true) = true from rfl) (ow (show (true) = true from rfl) (ow (show (true) = true from rfl) (ow (show (true) = true from rfl) ow0)))))))))))))))))))))))) rfl
      · obtain ⟨y112, h113, h⟩ := den_bind h
        rcases den_if h with ⟨h114, h⟩ | ⟨h114, h⟩
        · have h := den_some h
          subst h
          exact AW_go (n := 2000) [[none]] [.b true, .n 13, .row (Node.c x2_), .row (Node.c x108), .b false, .b false, .b false, .b false, .b false, .b false, .b false, .b false, .b false, .b false, .b false, .d (D.bool (y112)), .b false, .b false, .b true, .b true, .b true, .b true, .b true, .b true, .b true, .b true] (.ret (D.bool (false))) hΓ mix (by kernel_rfl) (ow ((ltm_true Node.c (drop_cons hd2).2.1)) (ow (map_row Node.c 8 (drop_cons hd2).1 rfl) (ow (at_row Node.c 8 h109 rfl) (ow (h110) (ow (h110) (ow (h110) (ow (h110) (ow (h110) (ow (h110) (ow (h111) (ow (h111) (ow (h111) (ow (h111) (ow (h111) (ow (d_impl_SameCond_good h113) (ow (h111) (ow (h111) (ow (h114) (ow (h114) (ow (h114) (ow (h114) (ow (h114) (ow (h114) (ow (h114) (ow (show (true) = true from rfl) ow0))))))))))))))))))))))))) rfl
        · obtain ⟨y115, h116, h⟩ := den_bind h
          rcases den_if h with ⟨h117, h⟩ | ⟨h117, h⟩
          · have h := den_some h
            subst h
            exact AW_go (n := 2000) [[none]] [.b true, .n 13, .row (Node.c x2_), .row (Node.c x108), .b false, .b false, .b false, .b false, .b false, .b false, .b false, .b false, .b false, .b false, .b false, .d (D.bool (y112)), .b false, .b false, .b false, .b false, .b false, .b false, .b false, .d (D.bool (y115)), .b false, .b false, .b true] (.ret (D.bool (false))) hΓ mix (by kernel_rfl) (ow ((ltm_true Node.c (drop_cons hd2).2.1)) (ow (map_row Node.c 8 (drop_cons hd2).1 rfl) (ow (at_row Node.c 8 h109 rfl) (ow (h110) (ow (h110) (ow (h110) (ow (h110) (ow (h110) (ow (h110) (ow (h111) (ow (h111) (ow (h111) (ow (h111) (ow (h111) (ow (d_impl_SameCond_good h113) (ow (h111) (ow (h111) (ow (h114) (ow (h114) (ow (h114) (ow (h114) (ow (h114) (ow (d_impl_sameTokens_good h116) (ow (h114) (ow (h114) (ow (h117) ow0)))))))))))))))))))))))))) rfl
          · have t := ih2 (i2 + 1)  (drop_cons hd2).2.2 h
            refine AW_go (n := 2000) [[none]] [.b true, .n 13, .row (Node.c x2_), .row (Node.c x108), .b false, .b false, .b false, .b false, .b false, .b false, .b false, .b false, .b false, .b false, .b false, .d (D.bool (y112)), .b false, .b false, .b false, .b false, .b false, .b false, .b false, .d (D.bool (y115)), .b false, .b false, .b false, .cn [2, 3, 88, 89] [0, 1]] (.cont 0 ⟨[(2, D.ptr 0 0), (3, D.ptr 1 0), (88, D.int .i64 ((((a0_.nodes).map Node.c).length : Int))), (89, D.int .i64 (IntKind.i64.wrap (((i2 : Int)) + (1))))], [Ob.box (Network.c a0_), Ob.box (Network.c a1_)]⟩) hΓ mix (by kernel_rfl) (ow ((ltm_true Node.c (drop_cons hd2).2.1)) (ow (map_row Node.c 8 (drop_cons hd2).1 rfl) (ow (at_row Node.c 8 h109 rfl) (ow (h110) (ow (h110) (ow (h110) (ow (h110) (ow (h110) (ow (h110) (ow (h111) (ow (h111) (ow (h111) (ow (h111) (ow (h111) (ow (d_impl_SameCond_good h113) (ow (h111) (ow (h111) (ow (h114) (ow (h114) (ow (h114) (ow (h114) (ow (h114) (ow (d_impl_sameTokens_good h116) (ow (h114) (ow (h114) (ow (h117) ow0)))))))))))))))))))))))))) ?_
            refine (congrFun hS2 _).mpr ?_
            rw [i64_succ (drop_cons hd2).2.1 hm2]
            first | exact t | (simp only [List.map_append, List.map_cons, List.map_nil, List.map_set] at t ⊢; exact t)
theorem d_impl_SameMemories_good {a0_ : Network} {a1_ : Network} {r : Bool} (h : d_impl_SameMemories a0_ a1_ = some r) : Good Try.prog 59 [D.agg (Network.c a0_), D.agg (Network.c a1_)] (D.bool (r)) := by
  refine Good.of (c := bodyOf Try.f59) Try.func59 rfl (by decide) (by simp [Try.f59]) ?_
  intro hr Γ hΓ
  have hΓ : Γ.nt = 131 := hΓ
  rw [d_impl_SameMemories] at h
  refine (show AW Try.prog Γ (bodyOf Try.f59) (KQ Try.prog Γ (fun _ _ => False) (RetQ Try.prog Try.f59 (D.bool (r))) []) _ from ?_)
  obtain ⟨y1, h2, h⟩ := den_bind h
  rcases den_if h with ⟨h3, h⟩ | ⟨h3, h⟩
  · have h := den_some h
    subst h
    exact AW_go (n := 2000) [[none]] [.d (D.bool (y1)), .b true, .b true, .b true, .b true, .b true, .b true, .b true, .b true, .b true, .b true, .b true, .b true, .b true, .b true, .b true, .b true, .b true, .b true, .b true, .b true, .b true, .b true, .b true, .b true, .b true, .b true, .b true, .b true, .b true, .b true, .b true] (.ret (D.bool (false))) hΓ mix (by kernel_rfl) (ow (d_impl_sameRules_good h2) (ow (h3) (ow (h3) (ow (h3) (ow (h3) (ow (h3) (ow (h3) (ow (h3) (ow (show (true) = true from rfl) (ow (show (true) = true from rfl) (ow (show (true) = true from rfl) (ow (show (true) = true from rfl) (ow (show (true) = true from rfl) (ow (show (true) = true from rfl) (ow (show (true) = true from rfl) (ow (show (true) = true from rfl) (ow (show (true) = true from rfl) (ow (show (true) = true from rfl) (ow (show (true) = true from rfl) (ow (show (true) = true from rfl) (ow (show (true) = true from rfl) (ow (show (true) = true from rfl) (ow (show (true) = true from rfl) (ow (show (true) = true from rfl) (ow (show (true) = true from rfl) (ow (show (true) = true from rfl) (ow (show (true) = true from rfl) (ow (show (true) = true from rfl) (ow (show (true) = true from rfl) (ow (show (true) = true from rfl) (ow (show (true) = true from rfl) (ow (show (true) = true from rfl) ow0)))))))))))))))))))))))))))))))) rfl
  · obtain ⟨y4, h5, h⟩ := den_bind h
    rcases den_if h with ⟨h6, h⟩ | ⟨h6, h⟩
    · have h := den_some h
      subst h
      exact AW_go (n := 2000) [[none]] [.d (D.bool (y1)), .b false, .b false, .b false, .b false, .b false, .d (D.bool (y4)), .b false, .b false, .b true, .b true, .b true, .b true, .b true, .b true, .b true, .b true, .b true, .b true, .b true, .b true, .b true, .b true, .b true, .b true, .b true, .b true, .b true, .b true, .b true, .b true, .b true, .b true] (.ret (D.bool (false))) hΓ mix (by kernel_rfl) (ow (d_impl_sameRules_good h2) (ow (h3) (ow (h3) (ow (h3) (ow (h3) (ow (h3) (ow (d_impl_sameInts_good h5) (ow (h3) (ow (h3) (ow (h6) (ow (h6) (ow (h6) (ow (h6) (ow (h6) (ow (h6) (ow (h6) (ow (show (true) = true from rfl) (ow (show (true) = true from rfl) (ow (show (true) = true from rfl) (ow (show (true) = true from rfl) (ow (show (true) = true from rfl) (ow (show (true) = true from rfl) (ow (show (true) = true from rfl) (ow (show (true) = true from rfl) (ow (show (true) = true from rfl) (ow (show (true) = true from rfl) (ow (show (true) = true from rfl) (ow (show (true) = true from rfl) (ow (show (true) = true from rfl) (ow (show (true) = true from rfl) (ow (show (true) = true from rfl) (ow (show (true) = true from rfl) (ow (show (true) = true from rfl) ow0))))))))))))))))))))))))))))))))) rfl
    · obtain ⟨y7, h8, h⟩ := den_bind h
      rcases den_if h with ⟨h9, h⟩ | ⟨h9, h⟩
      · have h := den_some h
        subst h
        exact AW_go (n := 2000) [[none]] [.d (D.bool (y1)), .b false, .b false, .b false, .b false, .b false, .d (D.bool (y4)), .b false, .b false, .b false, .b false, .b false, .b false, .b false, .d (D.bool (y7)), .b false, .b false, .b true, .b true, .b true, .b true, .b true, .b true, .b true, .b true, .b true, .b true, .b true, .b true, .b true, .b true, .b true, .b true, .b true] (.ret (D.bool (false))) hΓ mix (by kernel_rfl) (ow (d_impl_sameRules_good h2) (ow (h3) (ow (h3) (ow (h3) (ow (h3) (ow (h3) (ow (d_impl_sameInts_good h5) (ow (h3) (ow (h3) (ow (h6) (ow (h6) (ow (h6) (ow (h6) (ow (h6) (ow (d_impl_SameFacts_good h8) (ow (h6) (ow (h6) (ow (h9) (ow (h9) (ow (h9) (ow (h9) (ow (h9) (ow (h9) (ow (h9) (ow (h9) (ow (show (true) = true from rfl) (ow (show (true) = true from rfl) (ow (show (true) = true from rfl) (ow (show (true) = true from rfl) (ow (show (true) = true from rfl) (ow (show (true) = true from rfl) (ow (show (true) = true from rfl) (ow (show (true) = true from rfl) (ow (show (true) = true from rfl) ow0)))))))))))))))))))))))))))))))))) rfl
      · rcases den_if h with ⟨h10, h⟩ | ⟨h10, h⟩
        · have h := den_some h
          subst h
          exact AW_go (n := 2000) [[none]] [.d (D.bool (y1)), .b false, .b false, .b false, .b false, .b false, .d (D.bool (y4)), .b false, .b false, .b false, .b false, .b false, .b false, .b false, .d (D.bool (y7)), .b false, .b false, .b false, .b false, .b false, .b false, .b false, .b false, .b false, .b false, .b true, .b true, .b true, .b true, .b true, .b true, .b true, .b true, .b true] (.ret (D.bool (false))) hΓ mix (by kernel_rfl) (ow (d_impl_sameRules_good h2) (ow (h3) (ow (h3) (ow (h3) (ow (h3) (ow (h3) (ow (d_impl_sameInts_good h5) (ow (h3) (ow (h3) (ow (h6) (ow (h6) (ow (h6) (ow (h6) (ow (h6) (ow (d_impl_SameFacts_good h8) (ow (h6) (ow (h6) (ow (h9) (ow (h9) (ow (h9) (ow (h9) (ow (h9) (ow (h9) (ow (h9) (ow (h9) (ow (h10) (ow (h10) (ow (h10) (ow (h10) (ow (h10) (ow (h10) (ow (h10) (ow (h10) (ow (show (true) = true from rfl) ow0)))))))))))))))))))))))))))))))))) rfl
        · rcases den_if h with ⟨h11, h⟩ | ⟨h11, h⟩
          · have h := den_some h
            subst h
            exact AW_go (n := 2000) [[none]] [.d (D.bool (y1)), .b false, .b false, .b false, .b false, .b false, .d (D.bool (y4)), .b false, .b false, .b false, .b false, .b false, .b false, .b false, .d (D.bool (y7)), .b false, .b false, .b false, .b false, .b false, .b false, .b false, .b false, .b false, .b false, .b false, .b false, .b false, .b false, .b false, .b false, .b false, .b false, .b true] (.ret (D.bool (false))) hΓ mix (by kernel_rfl) (ow (d_impl_sameRules_good h2) (ow (h3) (ow (h3) (ow (h3) (ow (h3) (ow (h3) (ow (d_impl_sameInts_good h5) (ow (h3) (ow (h3) (ow (h6) (ow (h6) (ow (h6) (ow (h6) (ow (h6) (ow (d_impl_SameFacts_good h8) (ow (h6) (ow (h6) (ow (h9) (ow (h9) (ow (h9) (ow (h9) (ow (h9) (ow (h9) (ow (h9) (ow (h9) (ow (h10) (ow (h10) (ow (h10) (ow (h10) (ow (h10) (ow (h10) (ow (h10) (ow (h10) (ow (h11) ow0)))))))))))))))))))))))))))))))))) rfl
          · refine AW_go (n := 2000) [[none]] [.d (D.bool (y1)), .b false, .b false, .b false, .b false, .b false, .d (D.bool (y4)), .b false, .b false, .b false, .b false, .b false, .b false, .b false, .d (D.bool (y7)), .b false, .b false, .b false, .b false, .b false, .b false, .b false, .b false, .b false, .b false, .b false, .b false, .b false, .b false, .b false, .b false, .b false, .b false, .b false, .cn [2, 3, 51, 52] [0, 1]] (.lp (dig (bodyOf Try.f59) [1, 1, 0, 1, 0, 0] []).1 (dig (bodyOf Try.f59) [1, 1, 0, 1, 0] []).2 ⟨[(2, D.ptr 0 0), (3, D.ptr 1 0), (51, D.int .i64 ((((a0_.alphas).map Alpha.c).length : Int))), (52, D.int .i64 (0))], [Ob.box (Network.c a0_), Ob.box (Network.c a1_)]⟩) hΓ mix (by kernel_rfl) (ow (d_impl_sameRules_good h2) (ow (h3) (ow (h3) (ow (h3) (ow (h3) (ow (h3) (ow (d_impl_sameInts_good h5) (ow (h3) (ow (h3) (ow (h6) (ow (h6) (ow (h6) (ow (h6) (ow (h6) (ow (d_impl_SameFacts_good h8) (ow (h6) (ow (h6) (ow (h9) (ow (h9) (ow (h9) (ow (h9) (ow (h9) (ow (h9) (ow (h9) (ow (h9) (ow (h10) (ow (h10) (ow (h10) (ow (h10) (ow (h10) (ow (h10) (ow (h10) (ow (h10) (ow (h11) ow0)))))))))))))))))))))))))))))))))) (AW_st (by first | rfl | (simp only [List.map_append, List.map_cons, List.map_nil, List.map_set, List.map_replicate] <;> rfl)) (AW_of_r (d_impl_SameMemories_L1w hΓ (fun h => ?_) (by have := (Rdb.sl (Rdb.agg (hr _ (List.mem_of_getElem? (i := 0) rfl)) (.sl ((a0_.alphas).map Alpha.c)) (by simp))).1; simpa using this) (a0_.alphas) 0  rfl h)))
            refine AW_go (n := 2000) [[none]] [.cn [2, 3, 88, 89] [0, 1]] (.lp (dig (bodyOf Try.f59) [1, 1, 1, 0, 1, 0, 0] []).1 (dig (bodyOf Try.f59) [1, 1, 1, 0, 1, 0] []).2 ⟨[(2, D.ptr 0 0), (3, D.ptr 1 0), (88, D.int .i64 ((((a0_.nodes).map Node.c).length : Int))), (89, D.int .i64 (0))], [Ob.box (Network.c a0_), Ob.box (Network.c a1_)]⟩) hΓ mix (by kernel_rfl) ow0 (AW_st (by first | rfl | (simp only [List.map_append, List.map_cons, List.map_nil, List.map_set, List.map_replicate] <;> rfl)) (AW_of_r (d_impl_SameMemories_L2w hΓ (fun h => ?_) (by have := (Rdb.sl (Rdb.agg (hr _ (List.mem_of_getElem? (i := 0) rfl)) (.sl ((a0_.nodes).map Node.c)) (by simp))).1; simpa using this) (a0_.nodes) 0  rfl h)))
            have h := den_some h
            subst h
            exact AW_go (n := 2000) [[none]] [] (.ret (D.bool (true))) hΓ mix (by kernel_rfl) ow0 rfl
end Go.Cx
