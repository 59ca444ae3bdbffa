/- What functions of the program compute, and the walks that show it. No condition. -/
import Derived.Test.YtocmmccbfnhfpaaPAreRulesNFn2
namespace Go.Cx
open Go.RowKit Go.Proofs
set_option linter.unusedVariables false
set_option linter.unusedSimpArgs false
set_option maxRecDepth 100000
def d_impl_IsRule_L1 (a0_ : Rule) (k1 : Option Bool) : List Cond → Nat → Option Bool
  | [], i1 => (k1 )
  | x1_ :: xs1, i1 => ((d_impl_IsCond (x1_)).bind fun y62 => (bif !(y62) then (some (false)) else (bif ((i1 : Int) : Int) == (0) then (bif (x1_.kind : Int) != (1) then (some (false)) else ((d_impl_condFits (a0_) ((i1 : Int))).bind fun y67 => (bif !(y67) then (some (false)) else (d_impl_IsRule_L1 a0_ k1 xs1 (i1 + 1) )))) else ((d_impl_condFits (a0_) ((i1 : Int))).bind fun y70 => (bif !(y70) then (some (false)) else (d_impl_IsRule_L1 a0_ k1 xs1 (i1 + 1) ))))))
def d_impl_IsRule_L3 (a0_ : Rule) (y73 : List Bytes) (i2 : Nat) (y206 : List Bytes) (k3 : Option Bool) : List Bytes → Nat → Option Bool
  | [], i3 => (k3 )
  | x3_ :: xs3, i3 => ((d_impl_hasText (y73) (x3_)).bind fun y229 => (bif !(y229) then (some (false)) else (d_impl_IsRule_L3 a0_ y73 i2 y206 k3 xs3 (i3 + 1) )))
def d_impl_IsRule_L2 (a0_ : Rule) (y73 : List Bytes) (k2 : Option Bool) : List Action → Nat → Option Bool
  | [], i2 => (k2 )
  | x2_ :: xs2, i2 => ((d_impl_IsAction (x2_)).bind fun y203 => (bif !(y203) then (some (false)) else ((d_impl_varsAmong (x2_.pat.args)).bind fun y206 => (bif decide ((y206).length ≤ maxLen) then (d_impl_IsRule_L3 a0_ y73 i2 y206 (d_impl_IsRule_L2 a0_ y73 k2 xs2 (i2 + 1) ) (y206) 0 ) else none))))
def d_impl_IsRule (a0_ : Rule) : Option Bool := ((d_impl_IsName (a0_.name)).bind fun y1 => (bif !(y1) then (some (false)) else (bif decide ((a0_.prio : Int) < (0)) then (some (false)) else (bif decide ((a0_.prio : Int) > (9)) then (some (false)) else (bif decide (((((a0_.conds).map Cond.c).length : Int) : Int) < (1)) then (some (false)) else (bif decide (((((a0_.conds).map Cond.c).length : Int) : Int) > (4)) then (some (false)) else (bif decide (((((a0_.acts).map Action.c).length : Int) : Int) < (1)) then (some (false)) else (bif decide (((((a0_.acts).map Action.c).length : Int) : Int) > (2)) then (some (false)) else (d_impl_IsRule_L1 a0_ ((d_impl_BoundVars (a0_) ((((a0_.conds).map Cond.c).length : Int))).bind fun y73 => (d_impl_IsRule_L2 a0_ y73 ((d_impl_condVarsOf (a0_.conds)).bind fun y233 => ((d_impl_SortedTexts (y233)).bind fun y235 => (some (decide (((((y235).map tx).length : Int) : Int) ≤ (6)))))) (a0_.acts) 0 )) (a0_.conds) 0 )))))))))
theorem d_impl_IsRule_L1w {Γ : Ctx} (hΓ : Γ.nt = 111) {N : Nat → St → Prop} {a0_ : Rule} {r : Bool} {k1 : Option Bool} (hE1 : k1 = some r → AW Try.prog Γ (dig (bodyOf Try.f61) [1, 1, 1] []).1 (KQ Try.prog Γ N (RetQ Try.prog Try.f61 (D.bool (r))) (dig (bodyOf Try.f61) [1, 1, 1] []).2) ⟨[(1, D.ptr 0 0)], [Ob.box (Rule.c a0_)]⟩) (hm1 : (a0_.conds).length ≤ maxLen) : ∀ (rest : List Cond) (i1 : Nat) , (a0_.conds).drop i1 = rest → d_impl_IsRule_L1 a0_ k1 rest i1  = some r → AWr Try.prog Γ (dig (bodyOf Try.f61) [1, 1, 0, 1, 0, 0] []).1 (KQ Try.prog Γ N (RetQ Try.prog Try.f61 (D.bool (r))) (dig (bodyOf Try.f61) [1, 1, 0, 1, 0] []).2) (rest.length + 1) ⟨[(1, D.ptr 0 0), (49, D.sl ((a0_.conds).map Cond.c)), (50, D.int .i64 ((((a0_.conds).map Cond.c).length : Int))), (51, D.int .i64 ((i1 : Int)))], [Ob.box (Rule.c a0_)]⟩ := by
  intro rest
  induction rest with
  | nil =>
    intro i1  hd1 h
    rw [d_impl_IsRule_L1] at h
    refine AWr_succ fun N1 hN1 hS1 => ?_
    have t := AW_N (N := N) (N' := N1) (K0 := (dig (bodyOf Try.f61) [1, 1, 0, 1, 0] []).2) (by kernel_rfl) hN1 (hE1  h)
    refine AW_go (n := 2000) [[none]] [.b false, .hl 0 [1] [0]] (.at_ (dig (bodyOf Try.f61) [1, 1, 1] []).1 (dig (bodyOf Try.f61) [1, 1, 1] []).2 ⟨[(1, D.ptr 0 0)], [Ob.box (Rule.c a0_)]⟩) hΓ mix (by kernel_rfl) (ow ((ltm_false Cond.c (drop_nil hd1))) ow0) ?_
    first | exact t | (simp only [List.map_append, List.map_cons, List.map_nil, List.map_set] at t ⊢; exact t)
  | cons x1_ xs1 ih1 =>
    intro i1  hd1 h
    rw [d_impl_IsRule_L1] at h
    refine AWr_succ fun N1 hN1 hS1 => ?_
    obtain ⟨y62, h63, h⟩ := den_bind h
    rcases den_if h with ⟨h64, h⟩ | ⟨h64, h⟩
    · have h := den_some h
      subst h
      exact AW_go (n := 2000) [[none]] [.b true, .row (Cond.c x1_), .d (D.bool (y62)), .b true, .b true, .b true, .b false, .b false, .b false, .b true, .b true, .b true, .b true, .b true, .b true, .b true, .b true] (.ret (D.bool (false))) hΓ mix (by kernel_rfl) (ow ((ltm_true Cond.c (drop_cons hd1).2.1)) (ow (map_row Cond.c 5 (drop_cons hd1).1 rfl) (ow (d_impl_IsCond_good h63) (ow (h64) (ow (h64) (ow (h64) (ow (h64) (ow (h64) (ow (show (true) = true from rfl) (ow (show (true) = true from rfl) (ow (show (true) = true from rfl) (ow (show (true) = true from rfl) (ow (show (true) = true from rfl) (ow (show (true) = true from rfl) ow0)))))))))))))) rfl
    · rcases den_if h with ⟨h65, h⟩ | ⟨h65, h⟩
      · rcases den_if h with ⟨h66, h⟩ | ⟨h66, h⟩
        · have h := den_some h
          subst h
          exact AW_go (n := 2000) [[none]] [.b true, .row (Cond.c x1_), .d (D.bool (y62)), .b false, .b false, .b false, .b true, .b true, .b true, .b false, .b true, .b false, .b true, .b true, .b true, .b true, .b true, .b true] (.ret (D.bool (false))) hΓ mix (by kernel_rfl) (ow ((ltm_true Cond.c (drop_cons hd1).2.1)) (ow (map_row Cond.c 5 (drop_cons hd1).1 rfl) (ow (d_impl_IsCond_good h63) (ow (h64) (ow (h64) (ow (h64) (ow (h65) (ow (h65) (ow (h65) (ow (h64) (ow (h65) (ow (h64) (ow (h66) (ow (h66) (ow (h66) (ow (h66) (ow (h66) (ow (show (true) = true from rfl) ow0)))))))))))))))))) rfl
        · obtain ⟨y67, h68, h⟩ := den_bind h
          rcases den_if h with ⟨h69, h⟩ | ⟨h69, h⟩
          · have h := den_some h
            subst h
            exact AW_go (n := 2000) [[none]] [.b true, .row (Cond.c x1_), .d (D.bool (y62)), .b false, .b false, .b false, .b true, .b true, .b true, .b false, .b true, .b false, .b false, .b false, .b false, .d (D.bool (y67)), .b false, .b false, .b true] (.ret (D.bool (false))) hΓ mix (by kernel_rfl) (ow ((ltm_true Cond.c (drop_cons hd1).2.1)) (ow (map_row Cond.c 5 (drop_cons hd1).1 rfl) (ow (d_impl_IsCond_good h63) (ow (h64) (ow (h64) (ow (h64) (ow (h65) (ow (h65) (ow (h65) (ow (h64) (ow (h65) (ow (h64) (ow (h66) (ow (h66) (ow (h66) (ow (d_impl_condFits_good h68) (ow (h66) (ow (h66) (ow (h69) ow0))))))))))))))))))) rfl
          · have t := ih1 (i1 + 1)  (drop_cons hd1).2.2 h
            refine AW_go (n := 2000) [[none]] [.b true, .row (Cond.c x1_), .d (D.bool (y62)), .b false, .b false, .b false, .b true, .b true, .b true, .b false, .b true, .b false, .b false, .b false, .b false, .d (D.bool (y67)), .b false, .b false, .b false, .cn [1, 49, 50, 51] [0]] (.cont 0 ⟨[(1, D.ptr 0 0), (49, D.sl ((a0_.conds).map Cond.c)), (50, D.int .i64 ((((a0_.conds).map Cond.c).length : Int))), (51, D.int .i64 (IntKind.i64.wrap (((i1 : Int)) + (1))))], [Ob.box (Rule.c a0_)]⟩) hΓ mix (by kernel_rfl) (ow ((ltm_true Cond.c (drop_cons hd1).2.1)) (ow (map_row Cond.c 5 (drop_cons hd1).1 rfl) (ow (d_impl_IsCond_good h63) (ow (h64) (ow (h64) (ow (h64) (ow (h65) (ow (h65) (ow (h65) (ow (h64) (ow (h65) (ow (h64) (ow (h66) (ow (h66) (ow (h66) (ow (d_impl_condFits_good h68) (ow (h66) (ow (h66) (ow (h69) ow0))))))))))))))))))) ?_
            refine (congrFun hS1 _).mpr ?_
            rw [i64_succ (drop_cons hd1).2.1 hm1]
            first | exact t | (simp only [List.map_append, List.map_cons, List.map_nil, List.map_set] at t ⊢; exact t)
      · obtain ⟨y70, h71, h⟩ := den_bind h
        rcases den_if h with ⟨h72, h⟩ | ⟨h72, h⟩
        · have h := den_some h
          subst h
          exact AW_go (n := 2000) [[none]] [.b true, .row (Cond.c x1_), .d (D.bool (y62)), .b false, .b false, .b false, .b false, .b false, .b false, .b false, .b false, .b false, .b false, .b false, .b false, .d (D.bool (y70)), .b false, .b false, .b true] (.ret (D.bool (false))) hΓ mix (by kernel_rfl) (ow ((ltm_true Cond.c (drop_cons hd1).2.1)) (ow (map_row Cond.c 5 (drop_cons hd1).1 rfl) (ow (d_impl_IsCond_good h63) (ow (h64) (ow (h64) (ow (h64) (ow (h65) (ow (h65) (ow (h65) (ow (h64) (ow (h65) (ow (h64) (ow (show (false) = false from rfl) (ow (show (false) = false from rfl) (ow (show (false) = false from rfl) (ow (d_impl_condFits_good h71) (ow (show (false) = false from rfl) (ow (show (false) = false from rfl) (ow (h72) ow0))))))))))))))))))) rfl
        · have t := ih1 (i1 + 1)  (drop_cons hd1).2.2 h
          refine AW_go (n := 2000) [[none]] [.b true, .row (Cond.c x1_), .d (D.bool (y62)), .b false, .b false, .b false, .b false, .b false, .b false, .b false, .b false, .b false, .b false, .b false, .b false, .d (D.bool (y70)), .b false, .b false, .b false, .cn [1, 49, 50, 51] [0]] (.cont 0 ⟨[(1, D.ptr 0 0), (49, D.sl ((a0_.conds).map Cond.c)), (50, D.int .i64 ((((a0_.conds).map Cond.c).length : Int))), (51, D.int .i64 (IntKind.i64.wrap (((i1 : Int)) + (1))))], [Ob.box (Rule.c a0_)]⟩) hΓ mix (by kernel_rfl) (ow ((ltm_true Cond.c (drop_cons hd1).2.1)) (ow (map_row Cond.c 5 (drop_cons hd1).1 rfl) (ow (d_impl_IsCond_good h63) (ow (h64) (ow (h64) (ow (h64) (ow (h65) (ow (h65) (ow (h65) (ow (h64) (ow (h65) (ow (h64) (ow (show (false) = false from rfl) (ow (show (false) = false from rfl) (ow (show (false) = false from rfl) (ow (d_impl_condFits_good h71) (ow (show (false) = false from rfl) (ow (show (false) = false from rfl) (ow (h72) ow0))))))))))))))))))) ?_
          refine (congrFun hS1 _).mpr ?_
          rw [i64_succ (drop_cons hd1).2.1 hm1]
          first | exact t | (simp only [List.map_append, List.map_cons, List.map_nil, List.map_set] at t ⊢; exact t)
theorem d_impl_IsRule_L3w {Γ : Ctx} (hΓ : Γ.nt = 111) {N : Nat → St → Prop} {a0_ : Rule} {y73 : List Bytes} {i2 : Nat} {y206 : List Bytes} {r : Bool} {k3 : Option Bool} (hE3 : k3 = some r → AW Try.prog Γ (dig (bodyOf Try.f61) [1, 1, 1, 1, 0, 1, 0, 0, 1, 1, 1] []).1 (KQ Try.prog Γ N (RetQ Try.prog Try.f61 (D.bool (r))) (dig (bodyOf Try.f61) [1, 1, 1, 1, 0, 1, 0, 0, 1, 1, 1] []).2) ⟨[(1, D.ptr 0 0), (5, D.acc 1), (81, D.sl ((a0_.acts).map Action.c)), (82, D.int .i64 ((((a0_.acts).map Action.c).length : Int))), (83, D.int .i64 ((i2 : Int)))], [Ob.box (Rule.c a0_), Ob.row .uq 9 1 ((y73).map tx)]⟩) (hm3 : (y206).length ≤ maxLen) : ∀ (rest : List Bytes) (i3 : Nat) , (y206).drop i3 = rest → d_impl_IsRule_L3 a0_ y73 i2 y206 k3 rest i3  = some r → AWr Try.prog Γ (dig (bodyOf Try.f61) [1, 1, 1, 1, 0, 1, 0, 0, 1, 1, 0, 0, 1, 1, 1, 0, 0] []).1 (KQ Try.prog Γ N (RetQ Try.prog Try.f61 (D.bool (r))) (dig (bodyOf Try.f61) [1, 1, 1, 1, 0, 1, 0, 0, 1, 1, 0, 0, 1, 1, 1, 0] []).2) (rest.length + 1) ⟨[(1, D.ptr 0 0), (5, D.acc 1), (81, D.sl ((a0_.acts).map Action.c)), (82, D.int .i64 ((((a0_.acts).map Action.c).length : Int))), (83, D.int .i64 ((i2 : Int))), (93, D.acc 2), (94, D.int .i64 ((((y206).map tx).length : Int))), (95, D.int .i64 ((i3 : Int)))], [Ob.box (Rule.c a0_), Ob.row .uq 9 1 ((y73).map tx), Ob.row .uq 9 1 ((y206).map tx)]⟩ := by
  intro rest
  induction rest with
  | nil =>
    intro i3  hd3 h
    rw [d_impl_IsRule_L3] at h
    refine AWr_succ fun N3 hN3 hS3 => ?_
    have t := AW_N (N := N) (N' := N3) (K0 := (dig (bodyOf Try.f61) [1, 1, 1, 1, 0, 1, 0, 0, 1, 1, 0, 0, 1, 1, 1, 0] []).2) (by kernel_rfl) hN3 (hE3  h)
    refine AW_go (n := 2000) [[none]] [.b false, .hl 3 [1, 5, 81, 82, 83] [0, 1]] (.at_ (dig (bodyOf Try.f61) [1, 1, 1, 1, 0, 1, 0, 0, 1, 1, 1] []).1 (dig (bodyOf Try.f61) [1, 1, 1, 1, 0, 1, 0, 0, 1, 1, 1] []).2 ⟨[(1, D.ptr 0 0), (5, D.acc 1), (81, D.sl ((a0_.acts).map Action.c)), (82, D.int .i64 ((((a0_.acts).map Action.c).length : Int))), (83, D.int .i64 ((i2 : Int)))], [Ob.box (Rule.c a0_), Ob.row .uq 9 1 ((y73).map tx)]⟩) hΓ mix (by kernel_rfl) (ow ((ltm_false tx (drop_nil hd3))) ow0) ?_
    first | exact t | (simp only [List.map_append, List.map_cons, List.map_nil, List.map_set] at t ⊢; exact t)
  | cons x3_ xs3 ih3 =>
    intro i3  hd3 h
    rw [d_impl_IsRule_L3] at h
    refine AWr_succ fun N3 hN3 hS3 => ?_
    obtain ⟨y229, h230, h⟩ := den_bind h
    rcases den_if h with ⟨h231, h⟩ | ⟨h231, h⟩
    · have h := den_some h
      subst h
      exact AW_go (n := 2000) [[none]] [.b true, .ix i3, .row [D.str (x3_)], .d (D.bool (y229)), .b true] (.ret (D.bool (false))) hΓ mix (by kernel_rfl) (ow ((ltm_true tx (drop_cons hd3).2.1)) (ow (own_ixl tx 1 (drop_cons hd3).1) (ow (show 1 = 1 ∧ RK.opn .uq = true ∧ ((y206).map tx)[i3]? = some [D.str (x3_)] ∧ 1 ≤ 1 from ⟨rfl, rfl, map_get tx (drop_cons hd3).1, by omega⟩) (ow (d_impl_hasText_good h230) (ow (h231) ow0))))) rfl
    · have t := ih3 (i3 + 1)  (drop_cons hd3).2.2 h
      refine AW_go (n := 2000) [[none]] [.b true, .ix i3, .row [D.str (x3_)], .d (D.bool (y229)), .b false, .cn [1, 5, 81, 82, 83, 93, 94, 95] [0, 1, 2]] (.cont 1 ⟨[(1, D.ptr 0 0), (5, D.acc 1), (81, D.sl ((a0_.acts).map Action.c)), (82, D.int .i64 ((((a0_.acts).map Action.c).length : Int))), (83, D.int .i64 ((i2 : Int))), (93, D.acc 2), (94, D.int .i64 ((((y206).map tx).length : Int))), (95, D.int .i64 (IntKind.i64.wrap (((i3 : Int)) + (1))))], [Ob.box (Rule.c a0_), Ob.row .uq 9 1 ((y73).map tx), Ob.row .uq 9 1 ((y206).map tx)]⟩) hΓ mix (by kernel_rfl) (ow ((ltm_true tx (drop_cons hd3).2.1)) (ow (own_ixl tx 1 (drop_cons hd3).1) (ow (show 1 = 1 ∧ RK.opn .uq = true ∧ ((y206).map tx)[i3]? = some [D.str (x3_)] ∧ 1 ≤ 1 from ⟨rfl, rfl, map_get tx (drop_cons hd3).1, by omega⟩) (ow (d_impl_hasText_good h230) (ow (h231) ow0))))) ?_
      refine (congrFun hS3 _).mpr ?_
      rw [i64_succ (drop_cons hd3).2.1 hm3]
      first | exact t | (simp only [List.map_append, List.map_cons, List.map_nil, List.map_set] at t ⊢; exact t)
theorem d_impl_IsRule_L2w {Γ : Ctx} (hΓ : Γ.nt = 111) {N : Nat → St → Prop} {a0_ : Rule} {y73 : List Bytes} {r : Bool} {k2 : Option Bool} (hE2 : k2 = some r → AW Try.prog Γ (dig (bodyOf Try.f61) [1, 1, 1, 1, 1] []).1 (KQ Try.prog Γ N (RetQ Try.prog Try.f61 (D.bool (r))) (dig (bodyOf Try.f61) [1, 1, 1, 1, 1] []).2) ⟨[(1, D.ptr 0 0)], [Ob.box (Rule.c a0_)]⟩) (hm2 : (a0_.acts).length ≤ maxLen) : ∀ (rest : List Action) (i2 : Nat) , (a0_.acts).drop i2 = rest → d_impl_IsRule_L2 a0_ y73 k2 rest i2  = some r → AWr Try.prog Γ (dig (bodyOf Try.f61) [1, 1, 1, 1, 0, 1, 0, 0] []).1 (KQ Try.prog Γ N (RetQ Try.prog Try.f61 (D.bool (r))) (dig (bodyOf Try.f61) [1, 1, 1, 1, 0, 1, 0] []).2) (rest.length + 1) ⟨[(1, D.ptr 0 0), (5, D.acc 1), (81, D.sl ((a0_.acts).map Action.c)), (82, D.int .i64 ((((a0_.acts).map Action.c).length : Int))), (83, D.int .i64 ((i2 : Int)))], [Ob.box (Rule.c a0_), Ob.row .uq 9 1 ((y73).map tx)]⟩ := by
  intro rest
  induction rest with
  | nil =>
    intro i2  hd2 h
    rw [d_impl_IsRule_L2] at h
    refine AWr_succ fun N2 hN2 hS2 => ?_
    have t := AW_N (N := N) (N' := N2) (K0 := (dig (bodyOf Try.f61) [1, 1, 1, 1, 0, 1, 0] []).2) (by kernel_rfl) hN2 (hE2  h)
    refine AW_go (n := 2000) [[none]] [.b false, .hl 0 [1] [0]] (.at_ (dig (bodyOf Try.f61) [1, 1, 1, 1, 1] []).1 (dig (bodyOf Try.f61) [1, 1, 1, 1, 1] []).2 ⟨[(1, D.ptr 0 0)], [Ob.box (Rule.c a0_)]⟩) hΓ mix (by kernel_rfl) (ow ((ltm_false Action.c (drop_nil hd2))) ow0) ?_
    first | exact t | (simp only [List.map_append, List.map_cons, List.map_nil, List.map_set] at t ⊢; exact t)
  | cons x2_ xs2 ih2 =>
    intro i2  hd2 h
    rw [d_impl_IsRule_L2] at h
    refine AWr_succ fun N2 hN2 hS2 => ?_
    obtain ⟨y203, h204, h⟩ := den_bind h
    rcases den_if h with ⟨h205, h⟩ | ⟨h205, h⟩
    · have h := den_some h
      subst h
      exact AW_go (n := 2000) [[none]] [.b true, .row (Action.c x2_), .d (D.bool (y203)), .b true] (.ret (D.bool (false))) hΓ mix (by kernel_rfl) (ow ((ltm_true Action.c (drop_cons hd2).2.1)) (ow (map_row Action.c 3 (drop_cons hd2).1 rfl) (ow (d_impl_IsAction_good h204) (ow (h205) ow0)))) rfl
    · obtain ⟨y206, h207, h⟩ := den_bind h
      obtain ⟨h232, h⟩ := den_ok h
      refine AW_go (n := 2000) [[none]] [.b true, .row (Action.c x2_), .d (D.bool (y203)), .b false, .d (D.fr 9 1 ((y206).map tx)), .cn [1, 5, 81, 82, 83, 93, 94, 95] [0, 1, 3]] (.lp (dig (bodyOf Try.f61) [1, 1, 1, 1, 0, 1, 0, 0, 1, 1, 0, 0, 1, 1, 1, 0, 0] []).1 (dig (bodyOf Try.f61) [1, 1, 1, 1, 0, 1, 0, 0, 1, 1, 0, 0, 1, 1, 1, 0] []).2 ⟨[(1, D.ptr 0 0), (5, D.acc 1), (81, D.sl ((a0_.acts).map Action.c)), (82, D.int .i64 ((((a0_.acts).map Action.c).length : Int))), (83, D.int .i64 ((i2 : Int))), (93, D.acc 2), (94, D.int .i64 ((((y206).map tx).length : Int))), (95, D.int .i64 (0))], [Ob.box (Rule.c a0_), Ob.row .uq 9 1 ((y73).map tx), Ob.row .uq 9 1 ((y206).map tx)]⟩) hΓ mix (by kernel_rfl) (ow ((ltm_true Action.c (drop_cons hd2).2.1)) (ow (map_row Action.c 3 (drop_cons hd2).1 rfl) (ow (d_impl_IsAction_good h204) (ow (h205) (ow (d_impl_varsAmong_good h207) ow0))))) (AW_st (by first | rfl | (simp only [List.map_append, List.map_cons, List.map_nil, List.map_set, List.map_replicate] <;> rfl)) (AW_of_r (d_impl_IsRule_L3w hΓ (fun h => ?_) (of_decide_eq_true h232) (y206) 0  rfl h)))
      have t := ih2 (i2 + 1)  (drop_cons hd2).2.2 h
      refine AW_go (n := 2000) [[none]] [.cn [1, 5, 81, 82, 83] [0, 1]] (.cont 0 ⟨[(1, D.ptr 0 0), (5, D.acc 1), (81, D.sl ((a0_.acts).map Action.c)), (82, D.int .i64 ((((a0_.acts).map Action.c).length : Int))), (83, D.int .i64 (IntKind.i64.wrap (((i2 : Int)) + (1))))], [Ob.box (Rule.c a0_), Ob.row .uq 9 1 ((y73).map tx)]⟩) hΓ mix (by kernel_rfl) ow0 ?_
      refine (congrFun hS2 _).mpr ?_
      rw [i64_succ (drop_cons hd2).2.1 hm2]
      first | exact t | (simp only [List.map_append, List.map_cons, List.map_nil, List.map_set] at t ⊢; exact t)
theorem d_impl_IsRule_good {a0_ : Rule} {r : Bool} (h : d_impl_IsRule a0_ = some r) : Good Try.prog 61 [D.agg (Rule.c a0_)] (D.bool (r)) := by
  refine Good.of (c := bodyOf Try.f61) Try.func61 rfl (by decide) (by simp [Try.f61]) ?_
  intro hr Γ hΓ
  have hΓ : Γ.nt = 111 := hΓ
  rw [d_impl_IsRule] at h
  refine (show AW Try.prog Γ (bodyOf Try.f61) (KQ Try.prog Γ (fun _ _ => False) (RetQ Try.prog Try.f61 (D.bool (r))) []) _ from ?_)
  obtain ⟨y1, h2, h⟩ := den_bind h
  rcases den_if h with ⟨h3, h⟩ | ⟨h3, h⟩
  · have h := den_some h
    subst h
    exact AW_go (n := 2000) [[none]] [.d (D.bool (y1)), .b true, .b true, .b true, .b true, .b true, .b true, .b true, .b true, .b true, .b true, .b true, .b true, .b true, .b true, .b true, .b true, .b true, .b true, .b true, .b true, .b true, .b true, .b true, .b true, .b true, .b true, .b true, .b true, .b true] (.ret (D.bool (false))) hΓ mix (by kernel_rfl) (ow (d_impl_IsName_good h2) (ow (h3) (ow (h3) (ow (h3) (ow (h3) (ow (show (true) = true from rfl) (ow (show (true) = true from rfl) (ow (show (true) = true from rfl) (ow (show (true) = true from rfl) (ow (show (true) = true from rfl) (ow (show (true) = true from rfl) (ow (show (true) = true from rfl) (ow (show (true) = true from rfl) (ow (show (true) = true from rfl) (ow (show (true) = true from rfl) (ow (show (true) = true from rfl) (ow (show (true) = true from rfl) (ow (show (true) = true from rfl) (ow (show (true) = true from rfl) (ow (show (true) = true from rfl) (ow (show (true) = true from rfl) (ow (show (true) = true from rfl) (ow (show (true) = true from rfl) (ow (show (true) = true from rfl) (ow (show (true) = true from rfl) (ow (show (true) = true from rfl) (ow (show (true) = true from rfl) (ow (show (true) = true from rfl) (ow (show (true) = true from rfl) (ow (show (true) = true from rfl) ow0)))))))))))))))))))))))))))))) rfl
  · rcases den_if h with ⟨h4, h⟩ | ⟨h4, h⟩
    · have h := den_some h
      subst h
      exact AW_go (n := 2000) [[none]] [.d (D.bool (y1)), .b false, .b false, .b false, .b false, .b true, .b true, .b true, .b true, .b true, .b true, .b true, .b true, .b true, .b true, .b true, .b true, .b true, .b true, .b true, .b true, .b true, .b true, .b true, .b true, .b true, .b true, .b true, .b true, .b true] (.ret (D.bool (false))) hΓ mix (by kernel_rfl) (ow (d_impl_IsName_good h2) (ow (h3) (ow (h3) (ow (h3) (ow (h3) (ow (h4) (ow (h4) (ow (h4) (ow (h4) (ow (show (true) = true from rfl) (ow (show (true) = true from rfl) (ow (show (true) = true from rfl) (ow (show (true) = true from rfl) (ow (show (true) = true from rfl) (ow (show (true) = true from rfl) (ow (show (true) = true from rfl) (ow (show (true) = true from rfl) (ow (show (true) = true from rfl) (ow (show (true) = true from rfl) (ow (show (true) = true from rfl) (ow (show (true) = true from rfl) (ow (show (true) = true from rfl) (ow (show (true) = true from rfl) (ow (show (true) = true from rfl) (ow (show (true) = true from rfl) (ow (show (true) = true from rfl) (ow (show (true) = true from rfl) (ow (show (true) = true from rfl) (ow (show (true) = true from rfl) (ow (show (true) = true from rfl) ow0)))))))))))))))))))))))))))))) rfl
    · rcases den_if h with ⟨h5, h⟩ | ⟨h5, h⟩
      · have h := den_some h
        subst h
        exact AW_go (n := 2000) [[none]] [.d (D.bool (y1)), .b false, .b false, .b false, .b false, .b false, .b false, .b false, .b false, .b true, .b true, .b true, .b true, .b true, .b true, .b true, .b true, .b true, .b true, .b true, .b true, .b true, .b true, .b true, .b true, .b true, .b true, .b true, .b true, .b true] (.ret (D.bool (false))) hΓ mix (by kernel_rfl) (ow (d_impl_IsName_good h2) (ow (h3) (ow (h3) (ow (h3) (ow (h3) (ow (h4) (ow (h4) (ow (h4) (ow (h4) (ow (h5) (ow (h5) (ow (h5) (ow (h5) (ow (h5) (ow (show (true) = true from rfl) (ow (show (true) = true from rfl) (ow (show (true) = true from rfl) (ow (show (true) = true from rfl) (ow (show (true) = true from rfl) (ow (show (true) = true from rfl) (ow (show (true) = true from rfl) (ow (show (true) = true from rfl) (ow (show (true) = true from rfl) (ow (show (true) = true from rfl) (ow (show (true) = true from rfl) (ow (show (true) = true from rfl) (ow (show (true) = true from rfl) (ow (show (true) = true from rfl) (ow (show (true) = true from rfl) (ow (show (true) = true from rfl) ow0)))))))))))))))))))))))))))))) rfl
      · rcases den_if h with ⟨h6, h⟩ | ⟨h6, h⟩
        · have h := den_some h
          subst h
          exact AW_go (n := 2000) [[none]] [.d (D.bool (y1)), .b false, .b false, .b false, .b false, .b false, .b false, .b false, .b false, .b false, .b false, .b false, .b false, .b false, .b true, .b true, .b true, .b true, .b true, .b true, .b true, .b true, .b true, .b true, .b true, .b true, .b true, .b true, .b true, .b true] (.ret (D.bool (false))) hΓ mix (by kernel_rfl) (ow (d_impl_IsName_good h2) (ow (h3) (ow (h3) (ow (h3) (ow (h3) (ow (h4) (ow (h4) (ow (h4) (ow (h4) (ow (h5) (ow (h5) (ow (h5) (ow (h5) (ow (h5) (ow (h6) (ow (h6) (ow (h6) (ow (h6) (ow (h6) (ow (show (true) = true from rfl) (ow (show (true) = true from rfl) (ow (show (true) = true from rfl) (ow (show (true) = true from rfl) (ow (show (true) = true from rfl) (ow (show (true) = true from rfl) (ow (show (true) = true from rfl) (ow (show (true) = true from rfl) (ow (show (true) = true from rfl) (ow (show (true) = true from rfl) (ow (show (true) = true from rfl) ow0)))))))))))))))))))))))))))))) rfl
        · rcases den_if h with ⟨h7, h⟩ | ⟨h7, h⟩
          · have h := den_some h
            subst h
            exact AW_go (n := 2000) [[none]] [.d (D.bool (y1)), .b false, .b false, .b false, .b false, .b false, .b false, .b false, .b false, .b false, .b false, .b false, .b false, .b false, .b false, .b false, .b false, .b false, .b false, .b true, .b true, .b true, .b true, .b true, .b true, .b true, .b true, .b true, .b true, .b true] (.ret (D.bool (false))) hΓ mix (by kernel_rfl) (ow (d_impl_IsName_good h2) (ow (h3) (ow (h3) (ow (h3) (ow (h3) (ow (h4) (ow (h4) (ow (h4) (ow (h4) (ow (h5) (ow (h5) (ow (h5) (ow (h5) (ow (h5) (ow (h6) (ow (h6) (ow (h6) (ow (h6) (ow (h6) (ow (h7) (ow (h7) (ow (h7) (ow (h7) (ow (h7) (ow (show (true) = true from rfl) (ow (show (true) = true from rfl) (ow (show (true) = true from rfl) (ow (show (true) = true from rfl) (ow (show (true) = true from rfl) (ow (show (true) = true from rfl) ow0)))))))))))))))))))))))))))))) rfl
          · rcases den_if h with ⟨h8, h⟩ | ⟨h8, h⟩
            · have h := den_some h
              subst h
              exact AW_go (n := 2000) [[none]] [.d (D.bool (y1)), .b false, .b false, .b false, .b false, .b false, .b false, .b false, .b false, .b false, .b false, .b false, .b false, .b false, .b false, .b false, .b false, .b false, .b false, .b false, .b false, .b false, .b false, .b false, .b true, .b true, .b true, .b true, .b true, .b true] (.ret (D.bool (false))) hΓ mix (by kernel_rfl) (ow (d_impl_IsName_good h2) (ow (h3) (ow (h3) (ow (h3) (ow (h3) (ow (h4) (ow (h4) (ow (h4) (ow (h4) (ow (h5) (ow (h5) (ow (h5) (ow (h5) (ow (h5) (ow (h6) (ow (h6) (ow (h6) (ow (h6) (ow (h6) (ow (h7) (ow (h7) (ow (h7) (ow (h7) (ow (h7) (ow (h8) (ow (h8) (ow (h8) (ow (h8) (ow (h8) (ow (show (true) = true from rfl) ow0)))))))))))))))))))))))))))))) rfl
            · rcases den_if h with ⟨h9, h⟩ | ⟨h9, h⟩
              · have h := den_some h
                subst h
                exact AW_go (n := 2000) [[none]] [.d (D.bool (y1)), .b false, .b false, .b false, .b false, .b false, .b false, .b false, .b false, .b false, .b false, .b false, .b false, .b false, .b false, .b false, .b false, .b false, .b false, .b false, .b false, .b false, .b false, .b false, .b false, .b false, .b false, .b false, .b false, .b true] (.ret (D.bool (false))) hΓ mix (by kernel_rfl) (ow (d_impl_IsName_good h2) (ow (h3) (ow (h3) (ow (h3) (ow (h3) (ow (h4) (ow (h4) (ow (h4) (ow (h4) (ow (h5) (ow (h5) (ow (h5) (ow (h5) (ow (h5) (ow (h6) (ow (h6) (ow (h6) (ow (h6) (ow (h6) (ow (h7) (ow (h7) (ow (h7) (ow (h7) (ow (h7) (ow (h8) (ow (h8) (ow (h8) (ow (h8) (ow (h8) (ow (h9) ow0)))))))))))))))))))))))))))))) rfl
              · refine AW_go (n := 2000) [[none]] [.d (D.bool (y1)), .b false, .b false, .b false, .b false, .b false, .b false, .b false, .b false, .b false, .b false, .b false, .b false, .b false, .b false, .b false, .b false, .b false, .b false, .b false, .b false, .b false, .b false, .b false, .b false, .b false, .b false, .b false, .b false, .b false, .cn [1, 49, 50, 51] [0]] (.lp (dig (bodyOf Try.f61) [1, 1, 0, 1, 0, 0] []).1 (dig (bodyOf Try.f61) [1, 1, 0, 1, 0] []).2 ⟨[(1, D.ptr 0 0), (49, D.sl ((a0_.conds).map Cond.c)), (50, D.int .i64 ((((a0_.conds).map Cond.c).length : Int))), (51, D.int .i64 (0))], [Ob.box (Rule.c a0_)]⟩) hΓ mix (by kernel_rfl) (ow (d_impl_IsName_good h2) (ow (h3) (ow (h3) (ow (h3) (ow (h3) (ow (h4) (ow (h4) (ow (h4) (ow (h4) (ow (h5) (ow (h5) (ow (h5) (ow (h5) (ow (h5) (ow (h6) (ow (h6) (ow (h6) (ow (h6) (ow (h6) (ow (h7) (ow (h7) (ow (h7) (ow (h7) (ow (h7) (ow (h8) (ow (h8) (ow (h8) (ow (h8) (ow (h8) (ow (h9) ow0)))))))))))))))))))))))))))))) (AW_st (by first | rfl | (simp only [List.map_append, List.map_cons, List.map_nil, List.map_set, List.map_replicate] <;> rfl)) (AW_of_r (d_impl_IsRule_L1w hΓ (fun h => ?_) (by have := (Rdb.sl (Rdb.agg (hr _ (List.mem_of_getElem? (i := 0) rfl)) (.sl ((a0_.conds).map Cond.c)) (by simp))).1; simpa using this) (a0_.conds) 0  rfl h)))
                obtain ⟨y73, h74, h⟩ := den_bind h
                refine AW_go (n := 2000) [[none]] [.d (D.fr 9 1 ((y73).map tx)), .cn [1, 5, 81, 82, 83] [0, 1]] (.lp (dig (bodyOf Try.f61) [1, 1, 1, 1, 0, 1, 0, 0] []).1 (dig (bodyOf Try.f61) [1, 1, 1, 1, 0, 1, 0] []).2 ⟨[(1, D.ptr 0 0), (5, D.acc 1), (81, D.sl ((a0_.acts).map Action.c)), (82, D.int .i64 ((((a0_.acts).map Action.c).length : Int))), (83, D.int .i64 (0))], [Ob.box (Rule.c a0_), Ob.row .uq 9 1 ((y73).map tx)]⟩) hΓ mix (by kernel_rfl) (ow (d_impl_BoundVars_good h74) ow0) (AW_st (by first | rfl | (simp only [List.map_append, List.map_cons, List.map_nil, List.map_set, List.map_replicate] <;> rfl)) (AW_of_r (d_impl_IsRule_L2w hΓ (fun h => ?_) (by have := (Rdb.sl (Rdb.agg (hr _ (List.mem_of_getElem? (i := 0) rfl)) (.sl ((a0_.acts).map Action.c)) (by simp))).1; simpa using this) (a0_.acts) 0  rfl h)))
                obtain ⟨y233, h234, h⟩ := den_bind h
                obtain ⟨y235, h236, h⟩ := den_bind h
                have h := den_some h
                subst h
                exact AW_go (n := 2000) [[none]] [.d (D.fr 9 1 ((y233).map tx)), .d (D.fr 9 1 ((y235).map tx))] (.ret (D.bool (decide (((((y235).map tx).length : Int) : Int) ≤ (6))))) hΓ mix (by kernel_rfl) (ow (d_impl_condVarsOf_good h234) (ow (d_impl_SortedTexts_good h236) ow0)) rfl
def d_spec_FindRule_L1 (a0_ : List Rule) (a1_ : Bytes) (k1 : Option Int) : List Rule → Nat → Option Int
  | [], i1 => (k1 )
  | x1_ :: xs1, i1 => (bif (x1_.name : Bytes) == (a1_) then (some ((i1 : Int))) else (d_spec_FindRule_L1 a0_ a1_ k1 xs1 (i1 + 1) ))
def d_spec_FindRule (a0_ : List Rule) (a1_ : Bytes) : Option Int := (d_spec_FindRule_L1 a0_ a1_ (some (-1)) (a0_) 0 )
theorem d_spec_FindRule_L1w {Γ : Ctx} (hΓ : Γ.nt = 20) {N : Nat → St → Prop} {a0_ : List Rule} {a1_ : Bytes} {r : Int} {k1 : Option Int} (hE1 : k1 = some r → AW Try.prog Γ (dig (bodyOf Try.f131) [1, 1] []).1 (KQ Try.prog Γ N (RetQ Try.prog Try.f131 (D.int .i64 (r))) (dig (bodyOf Try.f131) [1, 1] []).2) ⟨[], []⟩) (hm1 : (a0_).length ≤ maxLen) : ∀ (rest : List Rule) (i1 : Nat) , (a0_).drop i1 = rest → d_spec_FindRule_L1 a0_ a1_ k1 rest i1  = some r → AWr Try.prog Γ (dig (bodyOf Try.f131) [1, 0, 1, 0, 0] []).1 (KQ Try.prog Γ N (RetQ Try.prog Try.f131 (D.int .i64 (r))) (dig (bodyOf Try.f131) [1, 0, 1, 0] []).2) (rest.length + 1) ⟨[(0, D.sl ((a0_).map Rule.c)), (1, D.str (a1_)), (5, D.int .i64 ((i1 : Int)))], []⟩ := by
  intro rest
  induction rest with
  | nil =>
    intro i1  hd1 h
    rw [d_spec_FindRule_L1] at h
    refine AWr_succ fun N1 hN1 hS1 => ?_
    have t := AW_N (N := N) (N' := N1) (K0 := (dig (bodyOf Try.f131) [1, 0, 1, 0] []).2) (by kernel_rfl) hN1 (hE1  h)
    refine AW_go (n := 2000) [[none]] [.b false, .hl 0 [] []] (.at_ (dig (bodyOf Try.f131) [1, 1] []).1 (dig (bodyOf Try.f131) [1, 1] []).2 ⟨[], []⟩) hΓ mix (by kernel_rfl) (ow ((ltm_false Rule.c (drop_nil hd1))) ow0) ?_
    first | exact t | (simp only [List.map_append, List.map_cons, List.map_nil, List.map_set] at t ⊢; exact t)
  | cons x1_ xs1 ih1 =>
    intro i1  hd1 h
    rw [d_spec_FindRule_L1] at h
    refine AWr_succ fun N1 hN1 hS1 => ?_
    rcases den_if h with ⟨h13, h⟩ | ⟨h13, h⟩
    · have h := den_some h
      subst h
      exact AW_go (n := 2000) [[none]] [.b true, .row (Rule.c x1_), .b true] (.ret (D.int .i64 ((i1 : Int)))) hΓ mix (by kernel_rfl) (ow ((ltm_true Rule.c (drop_cons hd1).2.1)) (ow (map_row Rule.c 4 (drop_cons hd1).1 rfl) (ow (h13) ow0))) rfl
    · have t := ih1 (i1 + 1)  (drop_cons hd1).2.2 h
      refine AW_go (n := 2000) [[none]] [.b true, .row (Rule.c x1_), .b false, .cn [0, 1, 5] []] (.cont 0 ⟨[(0, D.sl ((a0_).map Rule.c)), (1, D.str (a1_)), (5, D.int .i64 (IntKind.i64.wrap (((i1 : Int)) + (1))))], []⟩) hΓ mix (by kernel_rfl) (ow ((ltm_true Rule.c (drop_cons hd1).2.1)) (ow (map_row Rule.c 4 (drop_cons hd1).1 rfl) (ow (h13) ow0))) ?_
      refine (congrFun hS1 _).mpr ?_
      rw [i64_succ (drop_cons hd1).2.1 hm1]
      first | exact t | (simp only [List.map_append, List.map_cons, List.map_nil, List.map_set] at t ⊢; exact t)
theorem d_spec_FindRule_good {a0_ : List Rule} {a1_ : Bytes} {r : Int} (h : d_spec_FindRule a0_ a1_ = some r) : Good Try.prog 131 [D.sl ((a0_).map Rule.c), D.str (a1_)] (D.int .i64 (r)) := by
  refine Good.of (c := bodyOf Try.f131) Try.func131 rfl (by decide) (by simp [Try.f131]) ?_
  intro hr Γ hΓ
  have hΓ : Γ.nt = 20 := hΓ
  rw [d_spec_FindRule] at h
  refine (show AW Try.prog Γ (bodyOf Try.f131) (KQ Try.prog Γ (fun _ _ => False) (RetQ Try.prog Try.f131 (D.int .i64 (r))) []) _ from ?_)
  refine AW_go (n := 2000) [[none]] [.cn [0, 1, 5] []] (.lp (dig (bodyOf Try.f131) [1, 0, 1, 0, 0] []).1 (dig (bodyOf Try.f131) [1, 0, 1, 0] []).2 ⟨[(0, D.sl ((a0_).map Rule.c)), (1, D.str (a1_)), (5, D.int .i64 (0))], []⟩) hΓ mix (by kernel_rfl) ow0 (AW_st (by first | rfl | (simp only [List.map_append, List.map_cons, List.map_nil, List.map_set, List.map_replicate] <;> rfl)) (AW_of_r (d_spec_FindRule_L1w hΓ (fun h => ?_) (by have := (Rdb.sl (hr _ (List.mem_of_getElem? (i := 0) rfl))).1; simpa using this) (a0_) 0  rfl h)))
  have h := den_some h
  subst h
  exact AW_go (n := 2000) [[none]] [] (.ret (D.int .i64 (-1))) hΓ mix (by kernel_rfl) ow0 rfl
def d_spec_AreRules_L1 (a0_ : List Rule) (k1 : Option Bool) : List Rule → Nat → Option Bool
  | [], i1 => (k1 )
  | x1_ :: xs1, i1 => ((d_spec_IsRule (x1_)).bind fun y33 => (bif !(y33) then (some (false)) else ((d_spec_FindRule (a0_) (x1_.name)).bind fun y36 => (bif (y36 : Int) != ((i1 : Int)) then (some (false)) else (d_spec_AreRules_L1 a0_ k1 xs1 (i1 + 1) )))))
def d_spec_AreRules (a0_ : List Rule) : Option Bool := (d_spec_AreRules_L1 a0_ (some (decide (((((a0_).map Rule.c).length : Int) : Int) ≤ (6)))) (a0_) 0 )
theorem d_spec_AreRules_L1w {Γ : Ctx} (hΓ : Γ.nt = 30) {N : Nat → St → Prop} {a0_ : List Rule} {r : Bool} {k1 : Option Bool} (hE1 : k1 = some r → AW Try.prog Γ (dig (bodyOf Try.f65) [1, 1] []).1 (KQ Try.prog Γ N (RetQ Try.prog Try.f65 (D.bool (r))) (dig (bodyOf Try.f65) [1, 1] []).2) ⟨[(0, D.sl ((a0_).map Rule.c))], []⟩) (hm1 : (a0_).length ≤ maxLen) : ∀ (rest : List Rule) (i1 : Nat) , (a0_).drop i1 = rest → d_spec_AreRules_L1 a0_ k1 rest i1  = some r → AWr Try.prog Γ (dig (bodyOf Try.f65) [1, 0, 1, 0, 0] []).1 (KQ Try.prog Γ N (RetQ Try.prog Try.f65 (D.bool (r))) (dig (bodyOf Try.f65) [1, 0, 1, 0] []).2) (rest.length + 1) ⟨[(0, D.sl ((a0_).map Rule.c)), (3, D.int .i64 ((i1 : Int)))], []⟩ := by
  intro rest
  induction rest with
  | nil =>
    intro i1  hd1 h
    rw [d_spec_AreRules_L1] at h
    refine AWr_succ fun N1 hN1 hS1 => ?_
    have t := AW_N (N := N) (N' := N1) (K0 := (dig (bodyOf Try.f65) [1, 0, 1, 0] []).2) (by kernel_rfl) hN1 (hE1  h)
    refine AW_go (n := 2000) [[none]] [.b false, .hl 0 [0] []] (.at_ (dig (bodyOf Try.f65) [1, 1] []).1 (dig (bodyOf Try.f65) [1, 1] []).2 ⟨[(0, D.sl ((a0_).map Rule.c))], []⟩) hΓ mix (by kernel_rfl) (ow ((ltm_false Rule.c (drop_nil hd1))) ow0) ?_
    first | exact t | (simp only [List.map_append, List.map_cons, List.map_nil, List.map_set] at t ⊢; exact t)
  | cons x1_ xs1 ih1 =>
    intro i1  hd1 h
    rw [d_spec_AreRules_L1] at h
    refine AWr_succ fun N1 hN1 hS1 => ?_
    obtain ⟨y33, h34, h⟩ := den_bind h
    rcases den_if h with ⟨h35, h⟩ | ⟨h35, h⟩
    · have h := den_some h
      subst h
      exact AW_go (n := 2000) [[none]] [.b true, .row (Rule.c x1_), .d (D.bool (y33)), .b true, .b true, .b true, .b true, .b true, .b true, .b true, .b true, .b true, .b true, .b true] (.ret (D.bool (false))) hΓ mix (by kernel_rfl) (ow ((ltm_true Rule.c (drop_cons hd1).2.1)) (ow (map_row Rule.c 4 (drop_cons hd1).1 rfl) (ow (d_spec_IsRule_good h34) (ow (h35) (ow (h35) (ow (h35) (ow (h35) (ow (h35) (ow (h35) (ow (h35) (ow (h35) (ow (h35) (ow (h35) (ow (show (true) = true from rfl) ow0)))))))))))))) rfl
    · obtain ⟨y36, h37, h⟩ := den_bind h
      rcases den_if h with ⟨h38, h⟩ | ⟨h38, h⟩
      · have h := den_some h
        subst h
        exact AW_go (n := 2000) [[none]] [.b true, .row (Rule.c x1_), .d (D.bool (y33)), .b false, .b false, .b false, .b false, .row (Rule.c x1_), .b false, .b false, .b false, .d (D.int .i64 (y36)), .b false, .b false, .b false, .b true] (.ret (D.bool (false))) hΓ mix (by kernel_rfl) (ow ((ltm_true Rule.c (drop_cons hd1).2.1)) (ow (map_row Rule.c 4 (drop_cons hd1).1 rfl) (ow (d_spec_IsRule_good h34) (ow (h35) (ow (h35) (ow (h35) (ow (h35) (ow (map_row Rule.c 4 (drop_cons hd1).1 rfl) (ow (h35) (ow (h35) (ow (h35) (ow (d_spec_FindRule_good h37) (ow (h35) (ow (h35) (ow (h35) (ow (h38) ow0)))))))))))))))) rfl
      · have t := ih1 (i1 + 1)  (drop_cons hd1).2.2 h
        refine AW_go (n := 2000) [[none]] [.b true, .row (Rule.c x1_), .d (D.bool (y33)), .b false, .b false, .b false, .b false, .row (Rule.c x1_), .b false, .b false, .b false, .d (D.int .i64 (y36)), .b false, .b false, .b false, .b false, .cn [0, 3] []] (.cont 0 ⟨[(0, D.sl ((a0_).map Rule.c)), (3, D.int .i64 (IntKind.i64.wrap (((i1 : Int)) + (1))))], []⟩) hΓ mix (by kernel_rfl) (ow ((ltm_true Rule.c (drop_cons hd1).2.1)) (ow (map_row Rule.c 4 (drop_cons hd1).1 rfl) (ow (d_spec_IsRule_good h34) (ow (h35) (ow (h35) (ow (h35) (ow (h35) (ow (map_row Rule.c 4 (drop_cons hd1).1 rfl) (ow (h35) (ow (h35) (ow (h35) (ow (d_spec_FindRule_good h37) (ow (h35) (ow (h35) (ow (h35) (ow (h38) ow0)))))))))))))))) ?_
        refine (congrFun hS1 _).mpr ?_
        rw [i64_succ (drop_cons hd1).2.1 hm1]
        first | exact t | (simp only [List.map_append, List.map_cons, List.map_nil, List.map_set] at t ⊢; exact t)
theorem d_spec_AreRules_good {a0_ : List Rule} {r : Bool} (h : d_spec_AreRules a0_ = some r) : Good Try.prog 65 [D.sl ((a0_).map Rule.c)] (D.bool (r)) := by
  refine Good.of (c := bodyOf Try.f65) Try.func65 rfl (by decide) (by simp [Try.f65]) ?_
  intro hr Γ hΓ
  have hΓ : Γ.nt = 30 := hΓ
  rw [d_spec_AreRules] at h
  refine (show AW Try.prog Γ (bodyOf Try.f65) (KQ Try.prog Γ (fun _ _ => False) (RetQ Try.prog Try.f65 (D.bool (r))) []) _ from ?_)
  refine AW_go (n := 2000) [[none]] [.cn [0, 3] []] (.lp (dig (bodyOf Try.f65) [1, 0, 1, 0, 0] []).1 (dig (bodyOf Try.f65) [1, 0, 1, 0] []).2 ⟨[(0, D.sl ((a0_).map Rule.c)), (3, D.int .i64 (0))], []⟩) hΓ mix (by kernel_rfl) ow0 (AW_st (by first | rfl | (simp only [List.map_append, List.map_cons, List.map_nil, List.map_set, List.map_replicate] <;> rfl)) (AW_of_r (d_spec_AreRules_L1w hΓ (fun h => ?_) (by have := (Rdb.sl (hr _ (List.mem_of_getElem? (i := 0) rfl))).1; simpa using this) (a0_) 0  rfl h)))
  have h := den_some h
  subst h
  exact AW_go (n := 2000) [[none]] [] (.ret (D.bool (decide (((((a0_).map Rule.c).length : Int) : Int) ≤ (6))))) hΓ mix (by kernel_rfl) ow0 rfl
def d_impl_FindRule_L1 (a0_ : List Rule) (a1_ : Bytes) (k1 : Option Int) : List Rule → Nat → Option Int
  | [], i1 => (k1 )
  | x1_ :: xs1, i1 => (bif (x1_.name : Bytes) == (a1_) then (some ((i1 : Int))) else (d_impl_FindRule_L1 a0_ a1_ k1 xs1 (i1 + 1) ))
def d_impl_FindRule (a0_ : List Rule) (a1_ : Bytes) : Option Int := (d_impl_FindRule_L1 a0_ a1_ (some (-1)) (a0_) 0 )
theorem d_impl_FindRule_L1w {Γ : Ctx} (hΓ : Γ.nt = 20) {N : Nat → St → Prop} {a0_ : List Rule} {a1_ : Bytes} {r : Int} {k1 : Option Int} (hE1 : k1 = some r → AW Try.prog Γ (dig (bodyOf Try.f132) [1, 1] []).1 (KQ Try.prog Γ N (RetQ Try.prog Try.f132 (D.int .i64 (r))) (dig (bodyOf Try.f132) [1, 1] []).2) ⟨[], []⟩) (hm1 : (a0_).length ≤ maxLen) : ∀ (rest : List Rule) (i1 : Nat) , (a0_).drop i1 = rest → d_impl_FindRule_L1 a0_ a1_ k1 rest i1  = some r → AWr Try.prog Γ (dig (bodyOf Try.f132) [1, 0, 1, 0, 0] []).1 (KQ Try.prog Γ N (RetQ Try.prog Try.f132 (D.int .i64 (r))) (dig (bodyOf Try.f132) [1, 0, 1, 0] []).2) (rest.length + 1) ⟨[(1, D.str (a1_)), (7, D.sl ((a0_).map Rule.c)), (8, D.int .i64 ((((a0_).map Rule.c).length : Int))), (9, D.int .i64 ((i1 : Int)))], []⟩ := by
  intro rest
  induction rest with
  | nil =>
    intro i1  hd1 h
    rw [d_impl_FindRule_L1] at h
    refine AWr_succ fun N1 hN1 hS1 => ?_
    have t := AW_N (N := N) (N' := N1) (K0 := (dig (bodyOf Try.f132) [1, 0, 1, 0] []).2) (by kernel_rfl) hN1 (hE1  h)
    refine AW_go (n := 2000) [[none]] [.b false, .hl 0 [] []] (.at_ (dig (bodyOf Try.f132) [1, 1] []).1 (dig (bodyOf Try.f132) [1, 1] []).2 ⟨[], []⟩) hΓ mix (by kernel_rfl) (ow ((ltm_false Rule.c (drop_nil hd1))) ow0) ?_
    first | exact t | (simp only [List.map_append, List.map_cons, List.map_nil, List.map_set] at t ⊢; exact t)
  | cons x1_ xs1 ih1 =>
    intro i1  hd1 h
    rw [d_impl_FindRule_L1] at h
    refine AWr_succ fun N1 hN1 hS1 => ?_
    rcases den_if h with ⟨h13, h⟩ | ⟨h13, h⟩
    · have h := den_some h
      subst h
      exact AW_go (n := 2000) [[none]] [.b true, .row (Rule.c x1_), .b true] (.ret (D.int .i64 ((i1 : Int)))) hΓ mix (by kernel_rfl) (ow ((ltm_true Rule.c (drop_cons hd1).2.1)) (ow (map_row Rule.c 4 (drop_cons hd1).1 rfl) (ow (h13) ow0))) rfl
    · have t := ih1 (i1 + 1)  (drop_cons hd1).2.2 h
      refine AW_go (n := 2000) [[none]] [.b true, .row (Rule.c x1_), .b false, .cn [1, 7, 8, 9] []] (.cont 0 ⟨[(1, D.str (a1_)), (7, D.sl ((a0_).map Rule.c)), (8, D.int .i64 ((((a0_).map Rule.c).length : Int))), (9, D.int .i64 (IntKind.i64.wrap (((i1 : Int)) + (1))))], []⟩) hΓ mix (by kernel_rfl) (ow ((ltm_true Rule.c (drop_cons hd1).2.1)) (ow (map_row Rule.c 4 (drop_cons hd1).1 rfl) (ow (h13) ow0))) ?_
      refine (congrFun hS1 _).mpr ?_
      rw [i64_succ (drop_cons hd1).2.1 hm1]
      first | exact t | (simp only [List.map_append, List.map_cons, List.map_nil, List.map_set] at t ⊢; exact t)
theorem d_impl_FindRule_good {a0_ : List Rule} {a1_ : Bytes} {r : Int} (h : d_impl_FindRule a0_ a1_ = some r) : Good Try.prog 132 [D.sl ((a0_).map Rule.c), D.str (a1_)] (D.int .i64 (r)) := by
  refine Good.of (c := bodyOf Try.f132) Try.func132 rfl (by decide) (by simp [Try.f132]) ?_
  intro hr Γ hΓ
  have hΓ : Γ.nt = 20 := hΓ
  rw [d_impl_FindRule] at h
  refine (show AW Try.prog Γ (bodyOf Try.f132) (KQ Try.prog Γ (fun _ _ => False) (RetQ Try.prog Try.f132 (D.int .i64 (r))) []) _ from ?_)
  refine AW_go (n := 2000) [[none]] [.cn [1, 7, 8, 9] []] (.lp (dig (bodyOf Try.f132) [1, 0, 1, 0, 0] []).1 (dig (bodyOf Try.f132) [1, 0, 1, 0] []).2 ⟨[(1, D.str (a1_)), (7, D.sl ((a0_).map Rule.c)), (8, D.int .i64 ((((a0_).map Rule.c).length : Int))), (9, D.int .i64 (0))], []⟩) hΓ mix (by kernel_rfl) ow0 (AW_st (by first | rfl | (simp only [List.map_append, List.map_cons, List.map_nil, List.map_set, List.map_replicate] <;> rfl)) (AW_of_r (d_impl_FindRule_L1w hΓ (fun h => ?_) (by have := (Rdb.sl (hr _ (List.mem_of_getElem? (i := 0) rfl))).1; simpa using this) (a0_) 0  rfl h)))
  have h := den_some h
  subst h
  exact AW_go (n := 2000) [[none]] [] (.ret (D.int .i64 (-1))) hΓ mix (by kernel_rfl) ow0 rfl
def d_impl_AreRules_L1 (a0_ : List Rule) (k1 : Option Bool) : List Rule → Nat → Option Bool
  | [], i1 => (k1 )
  | x1_ :: xs1, i1 => ((d_impl_IsRule (x1_)).bind fun y34 => (bif !(y34) then (some (false)) else ((d_impl_FindRule (a0_) (x1_.name)).bind fun y37 => (bif (y37 : Int) != ((i1 : Int)) then (some (false)) else (d_impl_AreRules_L1 a0_ k1 xs1 (i1 + 1) )))))
def d_impl_AreRules (a0_ : List Rule) : Option Bool := (bif decide (((((a0_).map Rule.c).length : Int) : Int) > (6)) then (some (false)) else (d_impl_AreRules_L1 a0_ (some (true)) (a0_) 0 ))
theorem d_impl_AreRules_L1w {Γ : Ctx} (hΓ : Γ.nt = 27) {N : Nat → St → Prop} {a0_ : List Rule} {r : Bool} {k1 : Option Bool} (hE1 : k1 = some r → AW Try.prog Γ (dig (bodyOf Try.f67) [1, 1, 1] []).1 (KQ Try.prog Γ N (RetQ Try.prog Try.f67 (D.bool (r))) (dig (bodyOf Try.f67) [1, 1, 1] []).2) ⟨[], []⟩) (hm1 : (a0_).length ≤ maxLen) : ∀ (rest : List Rule) (i1 : Nat) , (a0_).drop i1 = rest → d_impl_AreRules_L1 a0_ k1 rest i1  = some r → AWr Try.prog Γ (dig (bodyOf Try.f67) [1, 1, 0, 1, 0, 0] []).1 (KQ Try.prog Γ N (RetQ Try.prog Try.f67 (D.bool (r))) (dig (bodyOf Try.f67) [1, 1, 0, 1, 0] []).2) (rest.length + 1) ⟨[(0, D.sl ((a0_).map Rule.c)), (8, D.sl ((a0_).map Rule.c)), (9, D.int .i64 ((((a0_).map Rule.c).length : Int))), (10, D.int .i64 ((i1 : Int)))], []⟩ := by
  intro rest
  induction rest with
  | nil =>
    intro i1  hd1 h
    rw [d_impl_AreRules_L1] at h
    refine AWr_succ fun N1 hN1 hS1 => ?_
    have t := AW_N (N := N) (N' := N1) (K0 := (dig (bodyOf Try.f67) [1, 1, 0, 1, 0] []).2) (by kernel_rfl) hN1 (hE1  h)
    refine AW_go (n := 2000) [[none]] [.b false, .hl 0 [] []] (.at_ (dig (bodyOf Try.f67) [1, 1, 1] []).1 (dig (bodyOf Try.f67) [1, 1, 1] []).2 ⟨[], []⟩) hΓ mix (by kernel_rfl) (ow ((ltm_false Rule.c (drop_nil hd1))) ow0) ?_
    first | exact t | (simp only [List.map_append, List.map_cons, List.map_nil, List.map_set] at t ⊢; exact t)
  | cons x1_ xs1 ih1 =>
    intro i1  hd1 h
    rw [d_impl_AreRules_L1] at h
    refine AWr_succ fun N1 hN1 hS1 => ?_
    obtain ⟨y34, h35, h⟩ := den_bind h
    rcases den_if h with ⟨h36, h⟩ | ⟨h36, h⟩
    · have h := den_some h
      subst h
      exact AW_go (n := 2000) [[none]] [.b true, .row (Rule.c x1_), .d (D.bool (y34)), .b true, .b true, .b true, .b true, .b true, .b true, .b true, .b true] (.ret (D.bool (false))) hΓ mix (by kernel_rfl) (ow ((ltm_true Rule.c (drop_cons hd1).2.1)) (ow (map_row Rule.c 4 (drop_cons hd1).1 rfl) (ow (d_impl_IsRule_good h35) (ow (h36) (ow (h36) (ow (h36) (ow (h36) (ow (h36) (ow (h36) (ow (h36) (ow (show (true) = true from rfl) ow0))))))))))) rfl
    · obtain ⟨y37, h38, h⟩ := den_bind h
      rcases den_if h with ⟨h39, h⟩ | ⟨h39, h⟩
      · have h := den_some h
        subst h
        exact AW_go (n := 2000) [[none]] [.b true, .row (Rule.c x1_), .d (D.bool (y34)), .b false, .b false, .b false, .b false, .d (D.int .i64 (y37)), .b false, .b false, .b false, .b true] (.ret (D.bool (false))) hΓ mix (by kernel_rfl) (ow ((ltm_true Rule.c (drop_cons hd1).2.1)) (ow (map_row Rule.c 4 (drop_cons hd1).1 rfl) (ow (d_impl_IsRule_good h35) (ow (h36) (ow (h36) (ow (h36) (ow (h36) (ow (d_impl_FindRule_good h38) (ow (h36) (ow (h36) (ow (h36) (ow (h39) ow0)))))))))))) rfl
      · have t := ih1 (i1 + 1)  (drop_cons hd1).2.2 h
        refine AW_go (n := 2000) [[none]] [.b true, .row (Rule.c x1_), .d (D.bool (y34)), .b false, .b false, .b false, .b false, .d (D.int .i64 (y37)), .b false, .b false, .b false, .b false, .cn [0, 8, 9, 10] []] (.cont 0 ⟨[(0, D.sl ((a0_).map Rule.c)), (8, D.sl ((a0_).map Rule.c)), (9, D.int .i64 ((((a0_).map Rule.c).length : Int))), (10, D.int .i64 (IntKind.i64.wrap (((i1 : Int)) + (1))))], []⟩) hΓ mix (by kernel_rfl) (ow ((ltm_true Rule.c (drop_cons hd1).2.1)) (ow (map_row Rule.c 4 (drop_cons hd1).1 rfl) (ow (d_impl_IsRule_good h35) (ow (h36) (ow (h36) (ow (h36) (ow (h36) (ow (d_impl_FindRule_good h38) (ow (h36) (ow (h36) (ow (h36) (ow (h39) ow0)))))))))))) ?_
        refine (congrFun hS1 _).mpr ?_
        rw [i64_succ (drop_cons hd1).2.1 hm1]
        first | exact t | (simp only [List.map_append, List.map_cons, List.map_nil, List.map_set] at t ⊢; exact t)
theorem d_impl_AreRules_good {a0_ : List Rule} {r : Bool} (h : d_impl_AreRules a0_ = some r) : Good Try.prog 67 [D.sl ((a0_).map Rule.c)] (D.bool (r)) := by
  refine Good.of (c := bodyOf Try.f67) Try.func67 rfl (by decide) (by simp [Try.f67]) ?_
  intro hr Γ hΓ
  have hΓ : Γ.nt = 27 := hΓ
  rw [d_impl_AreRules] at h
  refine (show AW Try.prog Γ (bodyOf Try.f67) (KQ Try.prog Γ (fun _ _ => False) (RetQ Try.prog Try.f67 (D.bool (r))) []) _ from ?_)
  rcases den_if h with ⟨h1, h⟩ | ⟨h1, h⟩
  · have h := den_some h
    subst h
    exact AW_go (n := 2000) [[none]] [.b true] (.ret (D.bool (false))) hΓ mix (by kernel_rfl) (ow (h1) ow0) rfl
  · refine AW_go (n := 2000) [[none]] [.b false, .cn [0, 8, 9, 10] []] (.lp (dig (bodyOf Try.f67) [1, 1, 0, 1, 0, 0] []).1 (dig (bodyOf Try.f67) [1, 1, 0, 1, 0] []).2 ⟨[(0, D.sl ((a0_).map Rule.c)), (8, D.sl ((a0_).map Rule.c)), (9, D.int .i64 ((((a0_).map Rule.c).length : Int))), (10, D.int .i64 (0))], []⟩) hΓ mix (by kernel_rfl) (ow (h1) ow0) (AW_st (by first | rfl | (simp only [List.map_append, List.map_cons, List.map_nil, List.map_set, List.map_replicate] <;> rfl)) (AW_of_r (d_impl_AreRules_L1w hΓ (fun h => ?_) (by have := (Rdb.sl (hr _ (List.mem_of_getElem? (i := 0) rfl))).1; simpa using this) (a0_) 0  rfl h)))
    have h := den_some h
    subst h
    exact AW_go (n := 2000) [[none]] [] (.ret (D.bool (true))) hΓ mix (by kernel_rfl) ow0 rfl
end Go.Cx
