/- What functions of the program compute, and the walks that show it. No condition. -/
import Derived.Test.YtapddeddalcppaaDoorNData
namespace Go.Cx
open Go.RowKit Go.Proofs
set_option linter.unusedVariables false
set_option linter.unusedSimpArgs false
set_option maxRecDepth 100000
def d_laws_eqStringS_L1 (a0_ : List Bytes) (a1_ : List Bytes) (k1 : Option Bool) : List Bytes → Nat → Option Bool
  | [], i1 => (k1 )
  | x1_ :: xs1, i1 => ((atI (a1_) ((i1 : Int))).bind fun x22 => (bif !((x1_ : Bytes) == (x22)) then (some (false)) else (d_laws_eqStringS_L1 a0_ a1_ k1 xs1 (i1 + 1) )))
def d_laws_eqStringS (a0_ : List Bytes) (a1_ : List Bytes) : Option Bool := (bif ((((a0_).map tx).length : Int) : Int) != ((((a1_).map tx).length : Int)) then (some (false)) else (d_laws_eqStringS_L1 a0_ a1_ (some (true)) (a0_) 0 ))
theorem d_laws_eqStringS_L1w {Γ : Ctx} (hΓ : Γ.nt = 26) {N : Nat → St → Prop} {a0_ : List Bytes} {a1_ : List Bytes} {r : Bool} {k1 : Option Bool} (hE1 : k1 = some r → AW Tryd.prog Γ (dig (bodyOf Tryd.f51) [1, 1, 1] []).1 (KQ Tryd.prog Γ N (RetQ Tryd.prog Tryd.f51 (D.bool (r))) (dig (bodyOf Tryd.f51) [1, 1, 1] []).2) ⟨[], []⟩) (hm1 : (a0_).length ≤ maxLen) : ∀ (rest : List Bytes) (i1 : Nat) , (a0_).drop i1 = rest → d_laws_eqStringS_L1 a0_ a1_ k1 rest i1  = some r → AWr Tryd.prog Γ (dig (bodyOf Tryd.f51) [1, 1, 0, 1, 0, 0] []).1 (KQ Tryd.prog Γ N (RetQ Tryd.prog Tryd.f51 (D.bool (r))) (dig (bodyOf Tryd.f51) [1, 1, 0, 1, 0] []).2) (rest.length + 1) ⟨[(0, D.sl ((a0_).map tx)), (1, D.sl ((a1_).map tx)), (5, D.int .i64 ((i1 : Int)))], []⟩ := by
  intro rest
  induction rest with
  | nil =>
    intro i1  hd1 h
    rw [d_laws_eqStringS_L1] at h
    refine AWr_succ fun N1 hN1 hS1 => ?_
    have t := AW_N (N := N) (N' := N1) (K0 := (dig (bodyOf Tryd.f51) [1, 1, 0, 1, 0] []).2) (by kernel_rfl) hN1 (hE1  h)
    refine AW_go (n := 2000) [[none]] [.b false, .hl 0 [] []] (.at_ (dig (bodyOf Tryd.f51) [1, 1, 1] []).1 (dig (bodyOf Tryd.f51) [1, 1, 1] []).2 ⟨[], []⟩) hΓ mix (by kernel_rfl) (ow ((ltm_false tx (drop_nil hd1))) ow0) ?_
    first | exact t | (simp only [List.map_append, List.map_cons, List.map_nil, List.map_set] at t ⊢; exact t)
  | cons x1_ xs1 ih1 =>
    intro i1  hd1 h
    rw [d_laws_eqStringS_L1] at h
    refine AWr_succ fun N1 hN1 hS1 => ?_
    obtain ⟨x22, h23, h⟩ := den_bind h
    rcases den_if h with ⟨h24, h⟩ | ⟨h24, h⟩
    · have h := den_some h
      subst h
      exact AW_go (n := 2000) [[none]] [.b true, .n 8, .row (tx x1_), .row (tx x22), .b true] (.ret (D.bool (false))) hΓ mix (by kernel_rfl) (ow ((ltm_true tx (drop_cons hd1).2.1)) (ow (map_row tx 1 (drop_cons hd1).1 rfl) (ow (at_row tx 1 h23 rfl) (ow (h24) ow0)))) rfl
    · have t := ih1 (i1 + 1)  (drop_cons hd1).2.2 h
      refine AW_go (n := 2000) [[none]] [.b true, .n 8, .row (tx x1_), .row (tx x22), .b false, .cn [0, 1, 5] []] (.cont 0 ⟨[(0, D.sl ((a0_).map tx)), (1, D.sl ((a1_).map tx)), (5, D.int .i64 (IntKind.i64.wrap (((i1 : Int)) + (1))))], []⟩) hΓ mix (by kernel_rfl) (ow ((ltm_true tx (drop_cons hd1).2.1)) (ow (map_row tx 1 (drop_cons hd1).1 rfl) (ow (at_row tx 1 h23 rfl) (ow (h24) ow0)))) ?_
      refine (congrFun hS1 _).mpr ?_
      rw [i64_succ (drop_cons hd1).2.1 hm1]
      first | exact t | (simp only [List.map_append, List.map_cons, List.map_nil, List.map_set] at t ⊢; exact t)
theorem d_laws_eqStringS_good {a0_ : List Bytes} {a1_ : List Bytes} {r : Bool} (h : d_laws_eqStringS a0_ a1_ = some r) : Good Tryd.prog 51 [D.sl ((a0_).map tx), D.sl ((a1_).map tx)] (D.bool (r)) := by
  refine Good.of (c := bodyOf Tryd.f51) Tryd.func51 rfl (by decide) (by simp [Tryd.f51]) ?_
  intro hr Γ hΓ
  have hΓ : Γ.nt = 26 := hΓ
  rw [d_laws_eqStringS] at h
  refine (show AW Tryd.prog Γ (bodyOf Tryd.f51) (KQ Tryd.prog Γ (fun _ _ => False) (RetQ Tryd.prog Tryd.f51 (D.bool (r))) []) _ from ?_)
  rcases den_if h with ⟨h1, h⟩ | ⟨h1, h⟩
  · have h := den_some h
    subst h
    exact AW_go (n := 2000) [[none]] [.b true] (.ret (D.bool (false))) hΓ mix (by kernel_rfl) (ow (h1) ow0) rfl
  · refine AW_go (n := 2000) [[none]] [.b false, .cn [0, 1, 5] []] (.lp (dig (bodyOf Tryd.f51) [1, 1, 0, 1, 0, 0] []).1 (dig (bodyOf Tryd.f51) [1, 1, 0, 1, 0] []).2 ⟨[(0, D.sl ((a0_).map tx)), (1, D.sl ((a1_).map tx)), (5, D.int .i64 (0))], []⟩) hΓ mix (by kernel_rfl) (ow (h1) ow0) (AW_st (by first | rfl | (simp only [List.map_append, List.map_cons, List.map_nil, List.map_set, List.map_replicate] <;> rfl)) (AW_of_r (d_laws_eqStringS_L1w hΓ (fun h => ?_) (by have := (Rdb.sl (hr _ (List.mem_of_getElem? (i := 0) rfl))).1; simpa using this) (a0_) 0  rfl h)))
    have h := den_some h
    subst h
    exact AW_go (n := 2000) [[none]] [] (.ret (D.bool (true))) hΓ mix (by kernel_rfl) ow0 rfl
def d_laws_eqPattern (a0_ : Fact) (a1_ : Fact) : Option Bool := (bif !((a0_.rel : Bytes) == (a1_.rel)) then (some (false)) else ((d_laws_eqStringS (a0_.args) (a1_.args)).bind fun y2 => (bif !(y2) then (some (false)) else (some (true)))))
theorem d_laws_eqPattern_good {a0_ : Fact} {a1_ : Fact} {r : Bool} (h : d_laws_eqPattern a0_ a1_ = some r) : Good Tryd.prog 13 [D.agg (Fact.c a0_), D.agg (Fact.c a1_)] (D.bool (r)) := by
  refine Good.of (c := bodyOf Tryd.f13) Tryd.func13 rfl (by decide) (by simp [Tryd.f13]) ?_
  intro hr Γ hΓ
  have hΓ : Γ.nt = 16 := hΓ
  rw [d_laws_eqPattern] at h
  refine (show AW Tryd.prog Γ (bodyOf Tryd.f13) (KQ Tryd.prog Γ (fun _ _ => False) (RetQ Tryd.prog Tryd.f13 (D.bool (r))) []) _ from ?_)
  rcases den_if h with ⟨h1, h⟩ | ⟨h1, h⟩
  · have h := den_some h
    subst h
    exact AW_go (n := 2000) [[none]] [.b true] (.ret (D.bool (false))) hΓ mix (by kernel_rfl) (ow (h1) ow0) rfl
  · obtain ⟨y2, h3, h⟩ := den_bind h
    rcases den_if h with ⟨h4, h⟩ | ⟨h4, h⟩
    · have h := den_some h
      subst h
      exact AW_go (n := 2000) [[none]] [.b false, .d (D.bool (y2)), .b true] (.ret (D.bool (false))) hΓ mix (by kernel_rfl) (ow (h1) (ow (d_laws_eqStringS_good h3) (ow (h4) ow0))) rfl
    · have h := den_some h
      subst h
      exact AW_go (n := 2000) [[none]] [.b false, .d (D.bool (y2)), .b false] (.ret (D.bool (true))) hΓ mix (by kernel_rfl) (ow (h1) (ow (d_laws_eqStringS_good h3) (ow (h4) ow0))) rfl
end Go.Cx
