/- What functions of the program compute, and the walks that show it. No condition. -/
import Derived.Test.YtocmmccbfnhfpaaPAreRulesNFn1
namespace Go.Cx
open Go.RowKit Go.Proofs
set_option linter.unusedVariables false
set_option linter.unusedSimpArgs false
set_option maxRecDepth 100000
def d_spec_IsName (a0_ : Bytes) : Option Bool := ((d_spec_IsAtom (a0_)).bind fun y1 => (bif y1 then ((atI (a0_) (0)).bind fun b4 => ((d_spec_l1In (IntKind.i64.wrap (b4.toNat)) (97) (122)).bind fun y6 => (some (y6)))) else (some (false))))
theorem d_spec_IsName_good {a0_ : Bytes} {r : Bool} (h : d_spec_IsName a0_ = some r) : Good Try.prog 119 [D.str (a0_)] (D.bool (r)) := by
  refine Good.of (c := bodyOf Try.f119) Try.func119 rfl (by decide) (by simp [Try.f119]) ?_
  intro hr Γ hΓ
  have hΓ : Γ.nt = 11 := hΓ
  rw [d_spec_IsName] at h
  refine (show AW Try.prog Γ (bodyOf Try.f119) (KQ Try.prog Γ (fun _ _ => False) (RetQ Try.prog Try.f119 (D.bool (r))) []) _ from ?_)
  obtain ⟨y1, h2, h⟩ := den_bind h
  rcases den_if h with ⟨h3, h⟩ | ⟨h3, h⟩
  · obtain ⟨b4, h5, h⟩ := den_bind h
    obtain ⟨y6, h7, h⟩ := den_bind h
    have h := den_some h
    subst h
    exact AW_go (n := 2000) [[none]] [.d (D.bool (y1)), .b true, .b true, .ch b4, .b true, .b true, .d (D.bool (y6)), .b true] (.ret (D.bool (y6))) hΓ mix (by kernel_rfl) (ow (d_spec_IsAtom_good h2) (ow (h3) (ow (h3) (ow (at_str h5) (ow (h3) (ow (h3) (ow (d_spec_l1In_good h7) (ow (h3) ow0)))))))) rfl
  · have h := den_some h
    subst h
    exact AW_go (n := 2000) [[none]] [.d (D.bool (y1)), .b false, .b false, .b false, .b false, .b false] (.ret (D.bool (false))) hΓ mix (by kernel_rfl) (ow (d_spec_IsAtom_good h2) (ow (h3) (ow (h3) (ow (h3) (ow (h3) (ow (h3) ow0)))))) rfl
def d_spec_IsTerm (a0_ : Bytes) : Option Bool := ((d_spec_IsAtom (a0_)).bind fun y1 => (bif y1 then (some (true)) else ((d_spec_IsVar (a0_)).bind fun y4 => (some (y4)))))
theorem d_spec_IsTerm_good {a0_ : Bytes} {r : Bool} (h : d_spec_IsTerm a0_ = some r) : Good Try.prog 168 [D.str (a0_)] (D.bool (r)) := by
  refine Good.of (c := bodyOf Try.f168) Try.func168 rfl (by decide) (by simp [Try.f168]) ?_
  intro hr Γ hΓ
  have hΓ : Γ.nt = 9 := hΓ
  rw [d_spec_IsTerm] at h
  refine (show AW Try.prog Γ (bodyOf Try.f168) (KQ Try.prog Γ (fun _ _ => False) (RetQ Try.prog Try.f168 (D.bool (r))) []) _ from ?_)
  obtain ⟨y1, h2, h⟩ := den_bind h
  rcases den_if h with ⟨h3, h⟩ | ⟨h3, h⟩
  · have h := den_some h
    subst h
    exact AW_go (n := 2000) [[none]] [.d (D.bool (y1)), .b true, .b true, .b true] (.ret (D.bool (true))) hΓ mix (by kernel_rfl) (ow (d_spec_IsAtom_good h2) (ow (h3) (ow (h3) (ow (h3) ow0)))) rfl
  · obtain ⟨y4, h5, h⟩ := den_bind h
    have h := den_some h
    subst h
    exact AW_go (n := 2000) [[none]] [.d (D.bool (y1)), .b false, .b false, .d (D.bool (y4)), .b false] (.ret (D.bool (y4))) hΓ mix (by kernel_rfl) (ow (d_spec_IsAtom_good h2) (ow (h3) (ow (h3) (ow (d_spec_IsVar_good h5) (ow (h3) ow0))))) rfl
def d_spec_IsPattern_L1 (a0_ : Fact) (k1 : Option Bool) : List Bytes → Nat → Option Bool
  | [], i1 => (k1 )
  | x1_ :: xs1, i1 => ((d_spec_IsTerm (x1_)).bind fun y21 => (bif !(y21) then (some (false)) else (d_spec_IsPattern_L1 a0_ k1 xs1 (i1 + 1) )))
def d_spec_IsPattern (a0_ : Fact) : Option Bool := (d_spec_IsPattern_L1 a0_ ((d_spec_IsName (a0_.rel)).bind fun y24 => (bif y24 then (some (decide (((((a0_.args).map tx).length : Int) : Int) ≤ (3)))) else (some (false)))) (a0_.args) 0 )
theorem d_spec_IsPattern_L1w {Γ : Ctx} (hΓ : Γ.nt = 27) {N : Nat → St → Prop} {a0_ : Fact} {r : Bool} {k1 : Option Bool} (hE1 : k1 = some r → AW Try.prog Γ (dig (bodyOf Try.f167) [1, 1] []).1 (KQ Try.prog Γ N (RetQ Try.prog Try.f167 (D.bool (r))) (dig (bodyOf Try.f167) [1, 1] []).2) ⟨[(1, D.ptr 0 0)], [Ob.box (Fact.c a0_)]⟩) (hm1 : (a0_.args).length ≤ maxLen) : ∀ (rest : List Bytes) (i1 : Nat) , (a0_.args).drop i1 = rest → d_spec_IsPattern_L1 a0_ k1 rest i1  = some r → AWr Try.prog Γ (dig (bodyOf Try.f167) [1, 0, 1, 0, 0] []).1 (KQ Try.prog Γ N (RetQ Try.prog Try.f167 (D.bool (r))) (dig (bodyOf Try.f167) [1, 0, 1, 0] []).2) (rest.length + 1) ⟨[(1, D.ptr 0 0), (3, D.int .i64 ((i1 : Int)))], [Ob.box (Fact.c a0_)]⟩ := by
  intro rest
  induction rest with
  | nil =>
    intro i1  hd1 h
    rw [d_spec_IsPattern_L1] at h
    refine AWr_succ fun N1 hN1 hS1 => ?_
    have t := AW_N (N := N) (N' := N1) (K0 := (dig (bodyOf Try.f167) [1, 0, 1, 0] []).2) (by kernel_rfl) hN1 (hE1  h)
    refine AW_go (n := 2000) [[none]] [.b false, .hl 0 [1] [0]] (.at_ (dig (bodyOf Try.f167) [1, 1] []).1 (dig (bodyOf Try.f167) [1, 1] []).2 ⟨[(1, D.ptr 0 0)], [Ob.box (Fact.c a0_)]⟩) hΓ mix (by kernel_rfl) (ow ((ltm_false tx (drop_nil hd1))) ow0) ?_
    first | exact t | (simp only [List.map_append, List.map_cons, List.map_nil, List.map_set] at t ⊢; exact t)
  | cons x1_ xs1 ih1 =>
    intro i1  hd1 h
    rw [d_spec_IsPattern_L1] at h
    refine AWr_succ fun N1 hN1 hS1 => ?_
    obtain ⟨y21, h22, h⟩ := den_bind h
    rcases den_if h with ⟨h23, h⟩ | ⟨h23, h⟩
    · have h := den_some h
      subst h
      exact AW_go (n := 2000) [[none]] [.b true, .row (tx x1_), .d (D.bool (y21)), .b true] (.ret (D.bool (false))) hΓ mix (by kernel_rfl) (ow ((ltm_true tx (drop_cons hd1).2.1)) (ow (map_row tx 1 (drop_cons hd1).1 rfl) (ow (d_spec_IsTerm_good h22) (ow (h23) ow0)))) rfl
    · have t := ih1 (i1 + 1)  (drop_cons hd1).2.2 h
      refine AW_go (n := 2000) [[none]] [.b true, .row (tx x1_), .d (D.bool (y21)), .b false, .cn [1, 3] [0]] (.cont 0 ⟨[(1, D.ptr 0 0), (3, D.int .i64 (IntKind.i64.wrap (((i1 : Int)) + (1))))], [Ob.box (Fact.c a0_)]⟩) hΓ mix (by kernel_rfl) (ow ((ltm_true tx (drop_cons hd1).2.1)) (ow (map_row tx 1 (drop_cons hd1).1 rfl) (ow (d_spec_IsTerm_good h22) (ow (h23) ow0)))) ?_
      refine (congrFun hS1 _).mpr ?_
      rw [i64_succ (drop_cons hd1).2.1 hm1]
      first | exact t | (simp only [List.map_append, List.map_cons, List.map_nil, List.map_set] at t ⊢; exact t)
theorem d_spec_IsPattern_good {a0_ : Fact} {r : Bool} (h : d_spec_IsPattern a0_ = some r) : Good Try.prog 167 [D.agg (Fact.c a0_)] (D.bool (r)) := by
  refine Good.of (c := bodyOf Try.f167) Try.func167 rfl (by decide) (by simp [Try.f167]) ?_
  intro hr Γ hΓ
  have hΓ : Γ.nt = 27 := hΓ
  rw [d_spec_IsPattern] at h
  refine (show AW Try.prog Γ (bodyOf Try.f167) (KQ Try.prog Γ (fun _ _ => False) (RetQ Try.prog Try.f167 (D.bool (r))) []) _ from ?_)
  refine AW_go (n := 2000) [[none]] [.cn [1, 3] [0]] (.lp (dig (bodyOf Try.f167) [1, 0, 1, 0, 0] []).1 (dig (bodyOf Try.f167) [1, 0, 1, 0] []).2 ⟨[(1, D.ptr 0 0), (3, D.int .i64 (0))], [Ob.box (Fact.c a0_)]⟩) hΓ mix (by kernel_rfl) ow0 (AW_st (by first | rfl | (simp only [List.map_append, List.map_cons, List.map_nil, List.map_set, List.map_replicate] <;> rfl)) (AW_of_r (d_spec_IsPattern_L1w hΓ (fun h => ?_) (by have := (Rdb.sl (Rdb.agg (hr _ (List.mem_of_getElem? (i := 0) rfl)) (.sl ((a0_.args).map tx)) (by simp))).1; simpa using this) (a0_.args) 0  rfl h)))
  obtain ⟨y24, h25, h⟩ := den_bind h
  rcases den_if h with ⟨h26, h⟩ | ⟨h26, h⟩
  · have h := den_some h
    subst h
    exact AW_go (n := 2000) [[none]] [.d (D.bool (y24)), .b true, .b true, .b true, .b true, .b true] (.ret (D.bool (decide (((((a0_.args).map tx).length : Int) : Int) ≤ (3))))) hΓ mix (by kernel_rfl) (ow (d_spec_IsName_good h25) (ow (h26) (ow (h26) (ow (h26) (ow (h26) (ow (h26) ow0)))))) rfl
  · have h := den_some h
    subst h
    exact AW_go (n := 2000) [[none]] [.d (D.bool (y24)), .b false, .b false, .b false, .b false, .b false] (.ret (D.bool (false))) hΓ mix (by kernel_rfl) (ow (d_spec_IsName_good h25) (ow (h26) (ow (h26) (ow (h26) (ow (h26) (ow (h26) ow0)))))) rfl
def d_spec_IsCond (a0_ : Cond) : Option Bool := (bif (a0_.kind : Int) == (1) then ((d_spec_IsPattern (a0_.pat)).bind fun y2 => (bif y2 then (bif (a0_.left : Bytes) == ([]) then (some ((a0_.right : Bytes) == ([]))) else (some (false))) else (some (false)))) else (bif (a0_.kind : Int) == (2) then ((d_spec_IsPattern (a0_.pat)).bind fun y7 => (bif y7 then (bif (a0_.left : Bytes) == ([]) then (some ((a0_.right : Bytes) == ([]))) else (some (false))) else (some (false)))) else (bif (a0_.kind : Int) == (3) then (bif (a0_.pat.rel : Bytes) == ([]) then (bif ((((a0_.pat.args).map tx).length : Int) : Int) == (0) then ((d_spec_IsTerm (a0_.left)).bind fun y14 => (bif y14 then ((d_spec_IsTerm (a0_.right)).bind fun y17 => (some (y17))) else (some (false)))) else (some (false))) else (some (false))) else (bif (a0_.kind : Int) == (4) then (bif (a0_.pat.rel : Bytes) == ([]) then (bif ((((a0_.pat.args).map tx).length : Int) : Int) == (0) then ((d_spec_IsTerm (a0_.left)).bind fun y22 => (bif y22 then ((d_spec_IsTerm (a0_.right)).bind fun y25 => (some (y25))) else (some (false)))) else (some (false))) else (some (false))) else (bif (a0_.kind : Int) == (5) then (bif (a0_.pat.rel : Bytes) == ([]) then (bif ((((a0_.pat.args).map tx).length : Int) : Int) == (0) then ((d_spec_IsTerm (a0_.left)).bind fun y30 => (bif y30 then ((d_spec_IsTerm (a0_.right)).bind fun y33 => (some (y33))) else (some (false)))) else (some (false))) else (some (false))) else (some (false)))))))
theorem d_spec_IsCond_good {a0_ : Cond} {r : Bool} (h : d_spec_IsCond a0_ = some r) : Good Try.prog 120 [D.agg (Cond.c a0_)] (D.bool (r)) := by
  refine Good.of (c := bodyOf Try.f120) Try.func120 rfl (by decide) (by simp [Try.f120]) ?_
  intro hr Γ hΓ
  have hΓ : Γ.nt = 46 := hΓ
  rw [d_spec_IsCond] at h
  refine (show AW Try.prog Γ (bodyOf Try.f120) (KQ Try.prog Γ (fun _ _ => False) (RetQ Try.prog Try.f120 (D.bool (r))) []) _ from ?_)
  rcases den_if h with ⟨h1, h⟩ | ⟨h1, h⟩
  · obtain ⟨y2, h3, h⟩ := den_bind h
    rcases den_if h with ⟨h4, h⟩ | ⟨h4, h⟩
    · rcases den_if h with ⟨h5, h⟩ | ⟨h5, h⟩
      · have h := den_some h
        subst h
        exact AW_go (n := 2000) [[none]] [.b true, .b true, .d (D.bool (y2)), .b true, .b true, .b true, .b true, .b true, .b true, .b true, .b true] (.ret (D.bool ((a0_.right : Bytes) == ([])))) hΓ mix (by kernel_rfl) (ow (h1) (ow (h1) (ow (d_spec_IsPattern_good h3) (ow (h4) (ow (h4) (ow (h4) (ow (h4) (ow (h5) (ow (h5) (ow (h5) (ow (h5) ow0))))))))))) rfl
      · have h := den_some h
        subst h
        exact AW_go (n := 2000) [[none]] [.b true, .b true, .d (D.bool (y2)), .b true, .b true, .b true, .b true, .b false, .b false, .b false, .b false] (.ret (D.bool (false))) hΓ mix (by kernel_rfl) (ow (h1) (ow (h1) (ow (d_spec_IsPattern_good h3) (ow (h4) (ow (h4) (ow (h4) (ow (h4) (ow (h5) (ow (h5) (ow (h5) (ow (h5) ow0))))))))))) rfl
    · have h := den_some h
      subst h
      exact AW_go (n := 2000) [[none]] [.b true, .b true, .d (D.bool (y2)), .b false, .b false, .b false, .b false, .b false, .b false, .b false, .b false] (.ret (D.bool (false))) hΓ mix (by kernel_rfl) (ow (h1) (ow (h1) (ow (d_spec_IsPattern_good h3) (ow (h4) (ow (h4) (ow (h4) (ow (h4) (ow (show (false) = false from rfl) (ow (show (false) = false from rfl) (ow (show (false) = false from rfl) (ow (show (false) = false from rfl) ow0))))))))))) rfl
  · rcases den_if h with ⟨h6, h⟩ | ⟨h6, h⟩
    · obtain ⟨y7, h8, h⟩ := den_bind h
      rcases den_if h with ⟨h9, h⟩ | ⟨h9, h⟩
      · rcases den_if h with ⟨h10, h⟩ | ⟨h10, h⟩
        · have h := den_some h
          subst h
          exact AW_go (n := 2000) [[none]] [.b false, .b true, .d (D.bool (y7)), .b true, .b true, .b true, .b true, .b true, .b true, .b true, .b true] (.ret (D.bool ((a0_.right : Bytes) == ([])))) hΓ mix (by kernel_rfl) (ow (h1) (ow (h6) (ow (d_spec_IsPattern_good h8) (ow (h9) (ow (h9) (ow (h9) (ow (h9) (ow (h10) (ow (h10) (ow (h10) (ow (h10) ow0))))))))))) rfl
        · have h := den_some h
          subst h
          exact AW_go (n := 2000) [[none]] [.b false, .b true, .d (D.bool (y7)), .b true, .b true, .b true, .b true, .b false, .b false, .b false, .b false] (.ret (D.bool (false))) hΓ mix (by kernel_rfl) (ow (h1) (ow (h6) (ow (d_spec_IsPattern_good h8) (ow (h9) (ow (h9) (ow (h9) (ow (h9) (ow (h10) (ow (h10) (ow (h10) (ow (h10) ow0))))))))))) rfl
      · have h := den_some h
        subst h
        exact AW_go (n := 2000) [[none]] [.b false, .b true, .d (D.bool (y7)), .b false, .b false, .b false, .b false, .b false, .b false, .b false, .b false] (.ret (D.bool (false))) hΓ mix (by kernel_rfl) (ow (h1) (ow (h6) (ow (d_spec_IsPattern_good h8) (ow (h9) (ow (h9) (ow (h9) (ow (h9) (ow (show (false) = false from rfl) (ow (show (false) = false from rfl) (ow (show (false) = false from rfl) (ow (show (false) = false from rfl) ow0))))))))))) rfl
    · rcases den_if h with ⟨h11, h⟩ | ⟨h11, h⟩
      · rcases den_if h with ⟨h12, h⟩ | ⟨h12, h⟩
        · rcases den_if h with ⟨h13, h⟩ | ⟨h13, h⟩
          · obtain ⟨y14, h15, h⟩ := den_bind h
            rcases den_if h with ⟨h16, h⟩ | ⟨h16, h⟩
            · obtain ⟨y17, h18, h⟩ := den_bind h
              have h := den_some h
              subst h
              exact AW_go (n := 2000) [[none]] [.b false, .b false, .b true, .b true, .b true, .b true, .b true, .b true, .b true, .b true, .b true, .b true, .b true, .d (D.bool (y14)), .b true, .b true, .b true, .b true, .d (D.bool (y17)), .b true] (.ret (D.bool (y17))) hΓ mix (by kernel_rfl) (ow (h1) (ow (h6) (ow (h11) (ow (h11) (ow (h12) (ow (h12) (ow (h12) (ow (h12) (ow (h12) (ow (h12) (ow (h13) (ow (h13) (ow (h13) (ow (d_spec_IsTerm_good h15) (ow (h13) (ow (h16) (ow (h16) (ow (h16) (ow (d_spec_IsTerm_good h18) (ow (h16) ow0)))))))))))))))))))) rfl
            · have h := den_some h
              subst h
              exact AW_go (n := 2000) [[none]] [.b false, .b false, .b true, .b true, .b true, .b true, .b true, .b true, .b true, .b true, .b true, .b true, .b true, .d (D.bool (y14)), .b true, .b false, .b false, .b false, .b false] (.ret (D.bool (false))) hΓ mix (by kernel_rfl) (ow (h1) (ow (h6) (ow (h11) (ow (h11) (ow (h12) (ow (h12) (ow (h12) (ow (h12) (ow (h12) (ow (h12) (ow (h13) (ow (h13) (ow (h13) (ow (d_spec_IsTerm_good h15) (ow (h13) (ow (h16) (ow (h16) (ow (h16) (ow (h16) ow0))))))))))))))))))) rfl
          · have h := den_some h
            subst h
            exact AW_go (n := 2000) [[none]] [.b false, .b false, .b true, .b true, .b true, .b true, .b true, .b true, .b true, .b true, .b false, .b false, .b false, .b false, .b false, .b false, .b false, .b false] (.ret (D.bool (false))) hΓ mix (by kernel_rfl) (ow (h1) (ow (h6) (ow (h11) (ow (h11) (ow (h12) (ow (h12) (ow (h12) (ow (h12) (ow (h12) (ow (h12) (ow (h13) (ow (h13) (ow (h13) (ow (h13) (ow (show (false) = false from rfl) (ow (show (false) = false from rfl) (ow (show (false) = false from rfl) (ow (show (false) = false from rfl) ow0)))))))))))))))))) rfl
        · have h := den_some h
          subst h
          exact AW_go (n := 2000) [[none]] [.b false, .b false, .b true, .b true, .b false, .b false, .b false, .b false, .b false, .b false, .b false, .b false, .b false, .b false, .b false, .b false, .b false, .b false] (.ret (D.bool (false))) hΓ mix (by kernel_rfl) (ow (h1) (ow (h6) (ow (h11) (ow (h11) (ow (h12) (ow (h12) (ow (h12) (ow (h12) (ow (h12) (ow (h12) (ow (show (false) = false from rfl) (ow (show (false) = false from rfl) (ow (show (false) = false from rfl) (ow (show (false) = false from rfl) (ow (show (false) = false from rfl) (ow (show (false) = false from rfl) (ow (show (false) = false from rfl) (ow (show (false) = false from rfl) ow0)))))))))))))))))) rfl
      · rcases den_if h with ⟨h19, h⟩ | ⟨h19, h⟩
        · rcases den_if h with ⟨h20, h⟩ | ⟨h20, h⟩
          · rcases den_if h with ⟨h21, h⟩ | ⟨h21, h⟩
            · obtain ⟨y22, h23, h⟩ := den_bind h
              rcases den_if h with ⟨h24, h⟩ | ⟨h24, h⟩
              · obtain ⟨y25, h26, h⟩ := den_bind h
                have h := den_some h
                subst h
                exact AW_go (n := 2000) [[none]] [.b false, .b false, .b false, .b true, .b true, .b true, .b true, .b true, .b true, .b true, .b true, .b true, .b true, .b true, .d (D.bool (y22)), .b true, .b true, .b true, .b true, .d (D.bool (y25)), .b true] (.ret (D.bool (y25))) hΓ mix (by kernel_rfl) (ow (h1) (ow (h6) (ow (h11) (ow (h19) (ow (h19) (ow (h20) (ow (h20) (ow (h20) (ow (h20) (ow (h20) (ow (h20) (ow (h21) (ow (h21) (ow (h21) (ow (d_spec_IsTerm_good h23) (ow (h21) (ow (h24) (ow (h24) (ow (h24) (ow (d_spec_IsTerm_good h26) (ow (h24) ow0))))))))))))))))))))) rfl
              · have h := den_some h
                subst h
                exact AW_go (n := 2000) [[none]] [.b false, .b false, .b false, .b true, .b true, .b true, .b true, .b true, .b true, .b true, .b true, .b true, .b true, .b true, .d (D.bool (y22)), .b true, .b false, .b false, .b false, .b false] (.ret (D.bool (false))) hΓ mix (by kernel_rfl) (ow (h1) (ow (h6) (ow (h11) (ow (h19) (ow (h19) (ow (h20) (ow (h20) (ow (h20) (ow (h20) (ow (h20) (ow (h20) (ow (h21) (ow (h21) (ow (h21) (ow (d_spec_IsTerm_good h23) (ow (h21) (ow (h24) (ow (h24) (ow (h24) (ow (h24) ow0)))))))))))))))))))) rfl
            · have h := den_some h
              subst h
              exact AW_go (n := 2000) [[none]] [.b false, .b false, .b false, .b true, .b true, .b true, .b true, .b true, .b true, .b true, .b true, .b false, .b false, .b false, .b false, .b false, .b false, .b false, .b false] (.ret (D.bool (false))) hΓ mix (by kernel_rfl) (ow (h1) (ow (h6) (ow (h11) (ow (h19) (ow (h19) (ow (h20) (ow (h20) (ow (h20) (ow (h20) (ow (h20) (ow (h20) (ow (h21) (ow (h21) (ow (h21) (ow (h21) (ow (show (false) = false from rfl) (ow (show (false) = false from rfl) (ow (show (false) = false from rfl) (ow (show (false) = false from rfl) ow0))))))))))))))))))) rfl
          · have h := den_some h
            subst h
            exact AW_go (n := 2000) [[none]] [.b false, .b false, .b false, .b true, .b true, .b false, .b false, .b false, .b false, .b false, .b false, .b false, .b false, .b false, .b false, .b false, .b false, .b false, .b false] (.ret (D.bool (false))) hΓ mix (by kernel_rfl) (ow (h1) (ow (h6) (ow (h11) (ow (h19) (ow (h19) (ow (h20) (ow (h20) (ow (h20) (ow (h20) (ow (h20) (ow (h20) (ow (show (false) = false from rfl) (ow (show (false) = false from rfl) (ow (show (false) = false from rfl) (ow (show (false) = false from rfl) (ow (show (false) = false from rfl) (ow (show (false) = false from rfl) (ow (show (false) = false from rfl) (ow (show (false) = false from rfl) ow0))))))))))))))))))) rfl
        · rcases den_if h with ⟨h27, h⟩ | ⟨h27, h⟩
          · rcases den_if h with ⟨h28, h⟩ | ⟨h28, h⟩
            · rcases den_if h with ⟨h29, h⟩ | ⟨h29, h⟩
              · obtain ⟨y30, h31, h⟩ := den_bind h
                rcases den_if h with ⟨h32, h⟩ | ⟨h32, h⟩
                · obtain ⟨y33, h34, h⟩ := den_bind h
                  have h := den_some h
                  subst h
                  exact AW_go (n := 2000) [[none]] [.b false, .b false, .b false, .b false, .b true, .b true, .b true, .b true, .b true, .b true, .b true, .b true, .b true, .b true, .d (D.bool (y30)), .b true, .b true, .b true, .b true, .d (D.bool (y33)), .b true] (.ret (D.bool (y33))) hΓ mix (by kernel_rfl) (ow (h1) (ow (h6) (ow (h11) (ow (h19) (ow (h27) (ow (h28) (ow (h28) (ow (h28) (ow (h28) (ow (h28) (ow (h28) (ow (h29) (ow (h29) (ow (h29) (ow (d_spec_IsTerm_good h31) (ow (h29) (ow (h32) (ow (h32) (ow (h32) (ow (d_spec_IsTerm_good h34) (ow (h32) ow0))))))))))))))))))))) rfl
                · have h := den_some h
                  subst h
                  exact AW_go (n := 2000) [[none]] [.b false, .b false, .b false, .b false, .b true, .b true, .b true, .b true, .b true, .b true, .b true, .b true, .b true, .b true, .d (D.bool (y30)), .b true, .b false, .b false, .b false, .b false] (.ret (D.bool (false))) hΓ mix (by kernel_rfl) (ow (h1) (ow (h6) (ow (h11) (ow (h19) (ow (h27) (ow (h28) (ow (h28) (ow (h28) (ow (h28) (ow (h28) (ow (h28) (ow (h29) (ow (h29) (ow (h29) (ow (d_spec_IsTerm_good h31) (ow (h29) (ow (h32) (ow (h32) (ow (h32) (ow (h32) ow0)))))))))))))))))))) rfl
              · have h := den_some h
                subst h
                exact AW_go (n := 2000) [[none]] [.b false, .b false, .b false, .b false, .b true, .b true, .b true, .b true, .b true, .b true, .b true, .b false, .b false, .b false, .b false, .b false, .b false, .b false, .b false] (.ret (D.bool (false))) hΓ mix (by kernel_rfl) (ow (h1) (ow (h6) (ow (h11) (ow (h19) (ow (h27) (ow (h28) (ow (h28) (ow (h28) (ow (h28) (ow (h28) (ow (h28) (ow (h29) (ow (h29) (ow (h29) (ow (h29) (ow (show (false) = false from rfl) (ow (show (false) = false from rfl) (ow (show (false) = false from rfl) (ow (show (false) = false from rfl) ow0))))))))))))))))))) rfl
            · have h := den_some h
              subst h
              exact AW_go (n := 2000) [[none]] [.b false, .b false, .b false, .b false, .b true, .b false, .b false, .b false, .b false, .b false, .b false, .b false, .b false, .b false, .b false, .b false, .b false, .b false, .b false] (.ret (D.bool (false))) hΓ mix (by kernel_rfl) (ow (h1) (ow (h6) (ow (h11) (ow (h19) (ow (h27) (ow (h28) (ow (h28) (ow (h28) (ow (h28) (ow (h28) (ow (h28) (ow (show (false) = false from rfl) (ow (show (false) = false from rfl) (ow (show (false) = false from rfl) (ow (show (false) = false from rfl) (ow (show (false) = false from rfl) (ow (show (false) = false from rfl) (ow (show (false) = false from rfl) (ow (show (false) = false from rfl) ow0))))))))))))))))))) rfl
          · have h := den_some h
            subst h
            exact AW_go (n := 2000) [[none]] [.b false, .b false, .b false, .b false, .b false] (.ret (D.bool (false))) hΓ mix (by kernel_rfl) (ow (h1) (ow (h6) (ow (h11) (ow (h19) (ow (h27) ow0))))) rfl
def d_spec_l1HasText_L1 (a0_ : List Bytes) (a1_ : Bytes) (k1 : Option Bool) : List Bytes → Nat → Option Bool
  | [], i1 => (k1 )
  | x1_ :: xs1, i1 => (bif (x1_ : Bytes) == (a1_) then (some (true)) else (d_spec_l1HasText_L1 a0_ a1_ k1 xs1 (i1 + 1) ))
def d_spec_l1HasText (a0_ : List Bytes) (a1_ : Bytes) : Option Bool := (d_spec_l1HasText_L1 a0_ a1_ (some (false)) (a0_) 0 )
theorem d_spec_l1HasText_L1w {Γ : Ctx} (hΓ : Γ.nt = 18) {N : Nat → St → Prop} {a0_ : List Bytes} {a1_ : Bytes} {r : Bool} {k1 : Option Bool} (hE1 : k1 = some r → AW Try.prog Γ (dig (bodyOf Try.f121) [1, 1] []).1 (KQ Try.prog Γ N (RetQ Try.prog Try.f121 (D.bool (r))) (dig (bodyOf Try.f121) [1, 1] []).2) ⟨[], []⟩) (hm1 : (a0_).length ≤ maxLen) : ∀ (rest : List Bytes) (i1 : Nat) , (a0_).drop i1 = rest → d_spec_l1HasText_L1 a0_ a1_ k1 rest i1  = some r → AWr Try.prog Γ (dig (bodyOf Try.f121) [1, 0, 1, 0, 0] []).1 (KQ Try.prog Γ N (RetQ Try.prog Try.f121 (D.bool (r))) (dig (bodyOf Try.f121) [1, 0, 1, 0] []).2) (rest.length + 1) ⟨[(0, D.sl ((a0_).map tx)), (1, D.str (a1_)), (5, D.int .i64 ((i1 : Int)))], []⟩ := by
  intro rest
  induction rest with
  | nil =>
    intro i1  hd1 h
    rw [d_spec_l1HasText_L1] at h
    refine AWr_succ fun N1 hN1 hS1 => ?_
    have t := AW_N (N := N) (N' := N1) (K0 := (dig (bodyOf Try.f121) [1, 0, 1, 0] []).2) (by kernel_rfl) hN1 (hE1  h)
    refine AW_go (n := 2000) [[none]] [.b false, .hl 0 [] []] (.at_ (dig (bodyOf Try.f121) [1, 1] []).1 (dig (bodyOf Try.f121) [1, 1] []).2 ⟨[], []⟩) hΓ mix (by kernel_rfl) (ow ((ltm_false tx (drop_nil hd1))) ow0) ?_
    first | exact t | (simp only [List.map_append, List.map_cons, List.map_nil, List.map_set] at t ⊢; exact t)
  | cons x1_ xs1 ih1 =>
    intro i1  hd1 h
    rw [d_spec_l1HasText_L1] at h
    refine AWr_succ fun N1 hN1 hS1 => ?_
    rcases den_if h with ⟨h13, h⟩ | ⟨h13, h⟩
    · have h := den_some h
      subst h
      exact AW_go (n := 2000) [[none]] [.b true, .row (tx x1_), .b true] (.ret (D.bool (true))) hΓ mix (by kernel_rfl) (ow ((ltm_true tx (drop_cons hd1).2.1)) (ow (map_row tx 1 (drop_cons hd1).1 rfl) (ow (h13) ow0))) rfl
    · have t := ih1 (i1 + 1)  (drop_cons hd1).2.2 h
      refine AW_go (n := 2000) [[none]] [.b true, .row (tx x1_), .b false, .cn [0, 1, 5] []] (.cont 0 ⟨[(0, D.sl ((a0_).map tx)), (1, D.str (a1_)), (5, D.int .i64 (IntKind.i64.wrap (((i1 : Int)) + (1))))], []⟩) hΓ mix (by kernel_rfl) (ow ((ltm_true tx (drop_cons hd1).2.1)) (ow (map_row tx 1 (drop_cons hd1).1 rfl) (ow (h13) ow0))) ?_
      refine (congrFun hS1 _).mpr ?_
      rw [i64_succ (drop_cons hd1).2.1 hm1]
      first | exact t | (simp only [List.map_append, List.map_cons, List.map_nil, List.map_set] at t ⊢; exact t)
theorem d_spec_l1HasText_good {a0_ : List Bytes} {a1_ : Bytes} {r : Bool} (h : d_spec_l1HasText a0_ a1_ = some r) : Good Try.prog 121 [D.sl ((a0_).map tx), D.str (a1_)] (D.bool (r)) := by
  refine Good.of (c := bodyOf Try.f121) Try.func121 rfl (by decide) (by simp [Try.f121]) ?_
  intro hr Γ hΓ
  have hΓ : Γ.nt = 18 := hΓ
  rw [d_spec_l1HasText] at h
  refine (show AW Try.prog Γ (bodyOf Try.f121) (KQ Try.prog Γ (fun _ _ => False) (RetQ Try.prog Try.f121 (D.bool (r))) []) _ from ?_)
  refine AW_go (n := 2000) [[none]] [.cn [0, 1, 5] []] (.lp (dig (bodyOf Try.f121) [1, 0, 1, 0, 0] []).1 (dig (bodyOf Try.f121) [1, 0, 1, 0] []).2 ⟨[(0, D.sl ((a0_).map tx)), (1, D.str (a1_)), (5, D.int .i64 (0))], []⟩) hΓ mix (by kernel_rfl) ow0 (AW_st (by first | rfl | (simp only [List.map_append, List.map_cons, List.map_nil, List.map_set, List.map_replicate] <;> rfl)) (AW_of_r (d_spec_l1HasText_L1w hΓ (fun h => ?_) (by have := (Rdb.sl (hr _ (List.mem_of_getElem? (i := 0) rfl))).1; simpa using this) (a0_) 0  rfl h)))
  have h := den_some h
  subst h
  exact AW_go (n := 2000) [[none]] [] (.ret (D.bool (false))) hΓ mix (by kernel_rfl) ow0 rfl
def d_spec_IsTest (a0_ : Cond) : Option Bool := ((d_spec_IsCond (a0_)).bind fun y1 => (bif y1 then (some (decide ((a0_.kind : Int) ≥ (3)))) else (some (false))))
theorem d_spec_IsTest_good {a0_ : Cond} {r : Bool} (h : d_spec_IsTest a0_ = some r) : Good Try.prog 122 [D.agg (Cond.c a0_)] (D.bool (r)) := by
  refine Good.of (c := bodyOf Try.f122) Try.func122 rfl (by decide) (by simp [Try.f122]) ?_
  intro hr Γ hΓ
  have hΓ : Γ.nt = 10 := hΓ
  rw [d_spec_IsTest] at h
  refine (show AW Try.prog Γ (bodyOf Try.f122) (KQ Try.prog Γ (fun _ _ => False) (RetQ Try.prog Try.f122 (D.bool (r))) []) _ from ?_)
  obtain ⟨y1, h2, h⟩ := den_bind h
  rcases den_if h with ⟨h3, h⟩ | ⟨h3, h⟩
  · have h := den_some h
    subst h
    exact AW_go (n := 2000) [[none]] [.d (D.bool (y1)), .b true, .b true, .b true, .b true] (.ret (D.bool (decide ((a0_.kind : Int) ≥ (3))))) hΓ mix (by kernel_rfl) (ow (d_spec_IsCond_good h2) (ow (h3) (ow (h3) (ow (h3) (ow (h3) ow0))))) rfl
  · have h := den_some h
    subst h
    exact AW_go (n := 2000) [[none]] [.d (D.bool (y1)), .b false, .b false, .b false, .b false] (.ret (D.bool (false))) hΓ mix (by kernel_rfl) (ow (d_spec_IsCond_good h2) (ow (h3) (ow (h3) (ow (h3) (ow (h3) ow0))))) rfl
def d_spec_l5Elsewhere_L1 (a0_ : Rule) (a1_ : Int) (a2_ : Bytes) (k1 : Option Bool) : List Cond → Nat → Option Bool
  | [], i1 => (k1 )
  | x1_ :: xs1, i1 => (bif ((i1 : Int) : Int) != (a1_) then ((d_spec_CondVars (x1_)).bind fun y34 => ((d_spec_l1HasText (y34) (a2_)).bind fun y36 => (bif y36 then (some (true)) else (d_spec_l5Elsewhere_L1 a0_ a1_ a2_ k1 xs1 (i1 + 1) )))) else (d_spec_l5Elsewhere_L1 a0_ a1_ a2_ k1 xs1 (i1 + 1) ))
def d_spec_l5Elsewhere_L2 (a0_ : Rule) (a2_ : Bytes) (k2 : Option Bool) : List Action → Nat → Option Bool
  | [], i2 => (k2 )
  | x2_ :: xs2, i2 => ((d_spec_VarsOf (x2_.pat)).bind fun y67 => ((d_spec_l1HasText (y67) (a2_)).bind fun y69 => (bif y69 then (some (true)) else (d_spec_l5Elsewhere_L2 a0_ a2_ k2 xs2 (i2 + 1) ))))
def d_spec_l5Elsewhere (a0_ : Rule) (a1_ : Int) (a2_ : Bytes) : Option Bool := (d_spec_l5Elsewhere_L1 a0_ a1_ a2_ (d_spec_l5Elsewhere_L2 a0_ a2_ (some (false)) (a0_.acts) 0 ) (a0_.conds) 0 )
theorem d_spec_l5Elsewhere_L1w {Γ : Ctx} (hΓ : Γ.nt = 45) {N : Nat → St → Prop} {a0_ : Rule} {a1_ : Int} {a2_ : Bytes} {r : Bool} {k1 : Option Bool} (hE1 : k1 = some r → AW Try.prog Γ (dig (bodyOf Try.f123) [1, 1] []).1 (KQ Try.prog Γ N (RetQ Try.prog Try.f123 (D.bool (r))) (dig (bodyOf Try.f123) [1, 1] []).2) ⟨[(2, D.str (a2_)), (3, D.ptr 0 0)], [Ob.box (Rule.c a0_)]⟩) (hm1 : (a0_.conds).length ≤ maxLen) : ∀ (rest : List Cond) (i1 : Nat) , (a0_.conds).drop i1 = rest → d_spec_l5Elsewhere_L1 a0_ a1_ a2_ k1 rest i1  = some r → AWr Try.prog Γ (dig (bodyOf Try.f123) [1, 0, 1, 0, 0] []).1 (KQ Try.prog Γ N (RetQ Try.prog Try.f123 (D.bool (r))) (dig (bodyOf Try.f123) [1, 0, 1, 0] []).2) (rest.length + 1) ⟨[(1, D.int .i64 (a1_)), (2, D.str (a2_)), (3, D.ptr 0 0), (7, D.int .i64 ((i1 : Int)))], [Ob.box (Rule.c a0_)]⟩ := by
  intro rest
  induction rest with
  | nil =>
    intro i1  hd1 h
    rw [d_spec_l5Elsewhere_L1] at h
    refine AWr_succ fun N1 hN1 hS1 => ?_
    have t := AW_N (N := N) (N' := N1) (K0 := (dig (bodyOf Try.f123) [1, 0, 1, 0] []).2) (by kernel_rfl) hN1 (hE1  h)
    refine AW_go (n := 2000) [[none]] [.b false, .hl 0 [2, 3] [0]] (.at_ (dig (bodyOf Try.f123) [1, 1] []).1 (dig (bodyOf Try.f123) [1, 1] []).2 ⟨[(2, D.str (a2_)), (3, D.ptr 0 0)], [Ob.box (Rule.c a0_)]⟩) hΓ mix (by kernel_rfl) (ow ((ltm_false Cond.c (drop_nil hd1))) ow0) ?_
    first | exact t | (simp only [List.map_append, List.map_cons, List.map_nil, List.map_set] at t ⊢; exact t)
  | cons x1_ xs1 ih1 =>
    intro i1  hd1 h
    rw [d_spec_l5Elsewhere_L1] at h
    refine AWr_succ fun N1 hN1 hS1 => ?_
    rcases den_if h with ⟨h33, h⟩ | ⟨h33, h⟩
    · obtain ⟨y34, h35, h⟩ := den_bind h
      obtain ⟨y36, h37, h⟩ := den_bind h
      rcases den_if h with ⟨h38, h⟩ | ⟨h38, h⟩
      · have h := den_some h
        subst h
        exact AW_go (n := 2000) [[none]] [.b true, .b true, .b true, .b true, .b true, .row (Cond.c x1_), .b true, .b true, .d (D.fr 9 1 ((y34).map tx)), .b true, .b true, .d (D.bool (y36)), .b true, .b true] (.ret (D.bool (true))) hΓ mix (by kernel_rfl) (ow ((ltm_true Cond.c (drop_cons hd1).2.1)) (ow (h33) (ow (h33) (ow (h33) (ow (h33) (ow (map_row Cond.c 5 (drop_cons hd1).1 rfl) (ow (h33) (ow (h33) (ow (d_spec_CondVars_good h35) (ow (h33) (ow (h33) (ow (d_spec_l1HasText_good h37) (ow (h33) (ow (h38) ow0)))))))))))))) rfl
      · have t := ih1 (i1 + 1)  (drop_cons hd1).2.2 h
        refine AW_go (n := 2000) [[none]] [.b true, .b true, .b true, .b true, .b true, .row (Cond.c x1_), .b true, .b true, .d (D.fr 9 1 ((y34).map tx)), .b true, .b true, .d (D.bool (y36)), .b true, .b false, .cn [1, 2, 3, 7] [0]] (.cont 0 ⟨[(1, D.int .i64 (a1_)), (2, D.str (a2_)), (3, D.ptr 0 0), (7, D.int .i64 (IntKind.i64.wrap (((i1 : Int)) + (1))))], [Ob.box (Rule.c a0_)]⟩) hΓ mix (by kernel_rfl) (ow ((ltm_true Cond.c (drop_cons hd1).2.1)) (ow (h33) (ow (h33) (ow (h33) (ow (h33) (ow (map_row Cond.c 5 (drop_cons hd1).1 rfl) (ow (h33) (ow (h33) (ow (d_spec_CondVars_good h35) (ow (h33) (ow (h33) (ow (d_spec_l1HasText_good h37) (ow (h33) (ow (h38) ow0)))))))))))))) ?_
        refine (congrFun hS1 _).mpr ?_
        rw [i64_succ (drop_cons hd1).2.1 hm1]
        first | exact t | (simp only [List.map_append, List.map_cons, List.map_nil, List.map_set] at t ⊢; exact t)
    · have t := ih1 (i1 + 1)  (drop_cons hd1).2.2 h
      refine AW_go (n := 2000) [[none]] [.b true, .b false, .b false, .b false, .b false, .b false, .b false, .b false, .b false, .b false, .b false, .cn [1, 2, 3, 7] [0]] (.cont 0 ⟨[(1, D.int .i64 (a1_)), (2, D.str (a2_)), (3, D.ptr 0 0), (7, D.int .i64 (IntKind.i64.wrap (((i1 : Int)) + (1))))], [Ob.box (Rule.c a0_)]⟩) hΓ mix (by kernel_rfl) (ow ((ltm_true Cond.c (drop_cons hd1).2.1)) (ow (h33) (ow (h33) (ow (h33) (ow (h33) (ow (h33) (ow (h33) (ow (h33) (ow (h33) (ow (h33) (ow (show (false) = false from rfl) ow0))))))))))) ?_
      refine (congrFun hS1 _).mpr ?_
      rw [i64_succ (drop_cons hd1).2.1 hm1]
      first | exact t | (simp only [List.map_append, List.map_cons, List.map_nil, List.map_set] at t ⊢; exact t)
theorem d_spec_l5Elsewhere_L2w {Γ : Ctx} (hΓ : Γ.nt = 45) {N : Nat → St → Prop} {a0_ : Rule} {a2_ : Bytes} {r : Bool} {k2 : Option Bool} (hE2 : k2 = some r → AW Try.prog Γ (dig (bodyOf Try.f123) [1, 1, 1] []).1 (KQ Try.prog Γ N (RetQ Try.prog Try.f123 (D.bool (r))) (dig (bodyOf Try.f123) [1, 1, 1] []).2) ⟨[], []⟩) (hm2 : (a0_.acts).length ≤ maxLen) : ∀ (rest : List Action) (i2 : Nat) , (a0_.acts).drop i2 = rest → d_spec_l5Elsewhere_L2 a0_ a2_ k2 rest i2  = some r → AWr Try.prog Γ (dig (bodyOf Try.f123) [1, 1, 0, 1, 0, 0] []).1 (KQ Try.prog Γ N (RetQ Try.prog Try.f123 (D.bool (r))) (dig (bodyOf Try.f123) [1, 1, 0, 1, 0] []).2) (rest.length + 1) ⟨[(2, D.str (a2_)), (3, D.ptr 0 0), (8, D.int .i64 ((i2 : Int)))], [Ob.box (Rule.c a0_)]⟩ := by
  intro rest
  induction rest with
  | nil =>
    intro i2  hd2 h
    rw [d_spec_l5Elsewhere_L2] at h
    refine AWr_succ fun N2 hN2 hS2 => ?_
    have t := AW_N (N := N) (N' := N2) (K0 := (dig (bodyOf Try.f123) [1, 1, 0, 1, 0] []).2) (by kernel_rfl) hN2 (hE2  h)
    refine AW_go (n := 2000) [[none]] [.b false, .hl 0 [] []] (.at_ (dig (bodyOf Try.f123) [1, 1, 1] []).1 (dig (bodyOf Try.f123) [1, 1, 1] []).2 ⟨[], []⟩) hΓ mix (by kernel_rfl) (ow ((ltm_false Action.c (drop_nil hd2))) ow0) ?_
    first | exact t | (simp only [List.map_append, List.map_cons, List.map_nil, List.map_set] at t ⊢; exact t)
  | cons x2_ xs2 ih2 =>
    intro i2  hd2 h
    rw [d_spec_l5Elsewhere_L2] at h
    refine AWr_succ fun N2 hN2 hS2 => ?_
    obtain ⟨y67, h68, h⟩ := den_bind h
    obtain ⟨y69, h70, h⟩ := den_bind h
    rcases den_if h with ⟨h71, h⟩ | ⟨h71, h⟩
    · have h := den_some h
      subst h
      exact AW_go (n := 2000) [[none]] [.b true, .row (Action.c x2_), .d (D.fr 9 1 ((y67).map tx)), .d (D.bool (y69)), .b true] (.ret (D.bool (true))) hΓ mix (by kernel_rfl) (ow ((ltm_true Action.c (drop_cons hd2).2.1)) (ow (map_row Action.c 3 (drop_cons hd2).1 rfl) (ow (d_spec_VarsOf_good h68) (ow (d_spec_l1HasText_good h70) (ow (h71) ow0))))) rfl
    · have t := ih2 (i2 + 1)  (drop_cons hd2).2.2 h
      refine AW_go (n := 2000) [[none]] [.b true, .row (Action.c x2_), .d (D.fr 9 1 ((y67).map tx)), .d (D.bool (y69)), .b false, .cn [2, 3, 8] [0]] (.cont 0 ⟨[(2, D.str (a2_)), (3, D.ptr 0 0), (8, D.int .i64 (IntKind.i64.wrap (((i2 : Int)) + (1))))], [Ob.box (Rule.c a0_)]⟩) hΓ mix (by kernel_rfl) (ow ((ltm_true Action.c (drop_cons hd2).2.1)) (ow (map_row Action.c 3 (drop_cons hd2).1 rfl) (ow (d_spec_VarsOf_good h68) (ow (d_spec_l1HasText_good h70) (ow (h71) ow0))))) ?_
      refine (congrFun hS2 _).mpr ?_
      rw [i64_succ (drop_cons hd2).2.1 hm2]
      first | exact t | (simp only [List.map_append, List.map_cons, List.map_nil, List.map_set] at t ⊢; exact t)
theorem d_spec_l5Elsewhere_good {a0_ : Rule} {a1_ : Int} {a2_ : Bytes} {r : Bool} (h : d_spec_l5Elsewhere a0_ a1_ a2_ = some r) : Good Try.prog 123 [D.agg (Rule.c a0_), D.int .i64 (a1_), D.str (a2_)] (D.bool (r)) := by
  refine Good.of (c := bodyOf Try.f123) Try.func123 rfl (by decide) (by simp [Try.f123]) ?_
  intro hr Γ hΓ
  have hΓ : Γ.nt = 45 := hΓ
  rw [d_spec_l5Elsewhere] at h
  refine (show AW Try.prog Γ (bodyOf Try.f123) (KQ Try.prog Γ (fun _ _ => False) (RetQ Try.prog Try.f123 (D.bool (r))) []) _ from ?_)
  refine AW_go (n := 2000) [[none]] [.cn [1, 2, 3, 7] [0]] (.lp (dig (bodyOf Try.f123) [1, 0, 1, 0, 0] []).1 (dig (bodyOf Try.f123) [1, 0, 1, 0] []).2 ⟨[(1, D.int .i64 (a1_)), (2, D.str (a2_)), (3, D.ptr 0 0), (7, D.int .i64 (0))], [Ob.box (Rule.c a0_)]⟩) hΓ mix (by kernel_rfl) ow0 (AW_st (by first | rfl | (simp only [List.map_append, List.map_cons, List.map_nil, List.map_set, List.map_replicate] <;> rfl)) (AW_of_r (d_spec_l5Elsewhere_L1w hΓ (fun h => ?_) (by have := (Rdb.sl (Rdb.agg (hr _ (List.mem_of_getElem? (i := 0) rfl)) (.sl ((a0_.conds).map Cond.c)) (by simp))).1; simpa using this) (a0_.conds) 0  rfl h)))
  refine AW_go (n := 2000) [[none]] [.cn [2, 3, 8] [0]] (.lp (dig (bodyOf Try.f123) [1, 1, 0, 1, 0, 0] []).1 (dig (bodyOf Try.f123) [1, 1, 0, 1, 0] []).2 ⟨[(2, D.str (a2_)), (3, D.ptr 0 0), (8, D.int .i64 (0))], [Ob.box (Rule.c a0_)]⟩) hΓ mix (by kernel_rfl) ow0 (AW_st (by first | rfl | (simp only [List.map_append, List.map_cons, List.map_nil, List.map_set, List.map_replicate] <;> rfl)) (AW_of_r (d_spec_l5Elsewhere_L2w hΓ (fun h => ?_) (by have := (Rdb.sl (Rdb.agg (hr _ (List.mem_of_getElem? (i := 0) rfl)) (.sl ((a0_.acts).map Action.c)) (by simp))).1; simpa using this) (a0_.acts) 0  rfl h)))
  have h := den_some h
  subst h
  exact AW_go (n := 2000) [[none]] [] (.ret (D.bool (false))) hΓ mix (by kernel_rfl) ow0 rfl
def d_spec_IsAction (a0_ : Action) : Option Bool := (bif (a0_.kind : Int) == (1) then ((d_spec_IsPattern (a0_.pat)).bind fun y2 => (some (y2))) else (bif (a0_.kind : Int) == (2) then ((d_spec_IsPattern (a0_.pat)).bind fun y5 => (some (y5))) else (bif (a0_.kind : Int) == (3) then (bif (a0_.pat.rel : Bytes) == ([]) then (some (((((a0_.pat.args).map tx).length : Int) : Int) == (0))) else (some (false))) else (some (false)))))
theorem d_spec_IsAction_good {a0_ : Action} {r : Bool} (h : d_spec_IsAction a0_ = some r) : Good Try.prog 124 [D.agg (Action.c a0_)] (D.bool (r)) := by
  refine Good.of (c := bodyOf Try.f124) Try.func124 rfl (by decide) (by simp [Try.f124]) ?_
  intro hr Γ hΓ
  have hΓ : Γ.nt = 24 := hΓ
  rw [d_spec_IsAction] at h
  refine (show AW Try.prog Γ (bodyOf Try.f124) (KQ Try.prog Γ (fun _ _ => False) (RetQ Try.prog Try.f124 (D.bool (r))) []) _ from ?_)
  rcases den_if h with ⟨h1, h⟩ | ⟨h1, h⟩
  · obtain ⟨y2, h3, h⟩ := den_bind h
    have h := den_some h
    subst h
    exact AW_go (n := 2000) [[none]] [.b true, .b true, .d (D.bool (y2))] (.ret (D.bool (y2))) hΓ mix (by kernel_rfl) (ow (h1) (ow (h1) (ow (d_spec_IsPattern_good h3) ow0))) rfl
  · rcases den_if h with ⟨h4, h⟩ | ⟨h4, h⟩
    · obtain ⟨y5, h6, h⟩ := den_bind h
      have h := den_some h
      subst h
      exact AW_go (n := 2000) [[none]] [.b false, .b true, .d (D.bool (y5))] (.ret (D.bool (y5))) hΓ mix (by kernel_rfl) (ow (h1) (ow (h4) (ow (d_spec_IsPattern_good h6) ow0))) rfl
    · rcases den_if h with ⟨h7, h⟩ | ⟨h7, h⟩
      · rcases den_if h with ⟨h8, h⟩ | ⟨h8, h⟩
        · have h := den_some h
          subst h
          exact AW_go (n := 2000) [[none]] [.b false, .b false, .b true, .b true, .b true, .b true, .b true, .b true, .b true] (.ret (D.bool (((((a0_.pat.args).map tx).length : Int) : Int) == (0)))) hΓ mix (by kernel_rfl) (ow (h1) (ow (h4) (ow (h7) (ow (h8) (ow (h8) (ow (h8) (ow (h8) (ow (h8) (ow (h8) ow0))))))))) rfl
        · have h := den_some h
          subst h
          exact AW_go (n := 2000) [[none]] [.b false, .b false, .b true, .b false, .b false, .b false, .b false, .b false, .b false] (.ret (D.bool (false))) hΓ mix (by kernel_rfl) (ow (h1) (ow (h4) (ow (h7) (ow (h8) (ow (h8) (ow (h8) (ow (h8) (ow (h8) (ow (h8) ow0))))))))) rfl
      · have h := den_some h
        subst h
        exact AW_go (n := 2000) [[none]] [.b false, .b false, .b false] (.ret (D.bool (false))) hΓ mix (by kernel_rfl) (ow (h1) (ow (h4) (ow (h7) ow0))) rfl
def d_spec_IsRule_L2 (a0_ : Rule) (y13 : List Bytes) (i1 : Nat) (x1_ : Cond) (y648 : List Bytes) (y650 : List Bytes) (k2 : Option Bool) : List Bytes → Nat → Option Bool
  | [], i2 => (k2 )
  | x2_ :: xs2, i2 => ((d_spec_l1HasText (y648) (x2_)).bind fun y710 => ((d_spec_IsTest (x1_)).bind fun y712 => (bif y712 then (bif !(y710) then (some (false)) else (bif (x1_.kind : Int) == (2) then (d_spec_IsRule_L2 a0_ y13 i1 x1_ y648 y650 k2 xs2 (i2 + 1) ) else (d_spec_IsRule_L2 a0_ y13 i1 x1_ y648 y650 k2 xs2 (i2 + 1) ))) else (bif (x1_.kind : Int) == (2) then (bif !(y710) then ((d_spec_l5Elsewhere (a0_) ((i1 : Int)) (x2_)).bind fun y719 => (bif y719 then (some (false)) else (d_spec_IsRule_L2 a0_ y13 i1 x1_ y648 y650 k2 xs2 (i2 + 1) ))) else (d_spec_IsRule_L2 a0_ y13 i1 x1_ y648 y650 k2 xs2 (i2 + 1) )) else (d_spec_IsRule_L2 a0_ y13 i1 x1_ y648 y650 k2 xs2 (i2 + 1) )))))
def d_spec_IsRule_L3 (a0_ : Rule) (y13 : List Bytes) (i1 : Nat) (x1_ : Cond) (y723 : List Bytes) (y725 : List Bytes) (k3 : Option Bool) : List Bytes → Nat → Option Bool
  | [], i3 => (k3 )
  | x3_ :: xs3, i3 => ((d_spec_l1HasText (y723) (x3_)).bind fun y785 => ((d_spec_IsTest (x1_)).bind fun y787 => (bif y787 then (bif !(y785) then (some (false)) else (bif (x1_.kind : Int) == (2) then (d_spec_IsRule_L3 a0_ y13 i1 x1_ y723 y725 k3 xs3 (i3 + 1) ) else (d_spec_IsRule_L3 a0_ y13 i1 x1_ y723 y725 k3 xs3 (i3 + 1) ))) else (bif (x1_.kind : Int) == (2) then (bif !(y785) then ((d_spec_l5Elsewhere (a0_) ((i1 : Int)) (x3_)).bind fun y794 => (bif y794 then (some (false)) else (d_spec_IsRule_L3 a0_ y13 i1 x1_ y723 y725 k3 xs3 (i3 + 1) ))) else (d_spec_IsRule_L3 a0_ y13 i1 x1_ y723 y725 k3 xs3 (i3 + 1) )) else (d_spec_IsRule_L3 a0_ y13 i1 x1_ y723 y725 k3 xs3 (i3 + 1) )))))
def d_spec_IsRule_L1 (a0_ : Rule) (y13 : List Bytes) (k1 : Option Bool) : List Cond → Nat → Option Bool
  | [], i1 => (k1 )
  | x1_ :: xs1, i1 => ((d_spec_IsCond (x1_)).bind fun y643 => (bif !(y643) then (some (false)) else (bif ((i1 : Int) : Int) == (0) then (bif (x1_.kind : Int) != (1) then (some (false)) else ((d_spec_BoundVars (a0_) ((i1 : Int))).bind fun y648 => ((d_spec_CondVars (x1_)).bind fun y650 => (bif decide ((y650).length ≤ maxLen) then (d_spec_IsRule_L2 a0_ y13 i1 x1_ y648 y650 (d_spec_IsRule_L1 a0_ y13 k1 xs1 (i1 + 1) ) (y650) 0 ) else none)))) else ((d_spec_BoundVars (a0_) ((i1 : Int))).bind fun y723 => ((d_spec_CondVars (x1_)).bind fun y725 => (bif decide ((y725).length ≤ maxLen) then (d_spec_IsRule_L3 a0_ y13 i1 x1_ y723 y725 (d_spec_IsRule_L1 a0_ y13 k1 xs1 (i1 + 1) ) (y725) 0 ) else none))))))
def d_spec_IsRule_L5 (a0_ : Rule) (y13 : List Bytes) (i4 : Nat) (y929 : List Bytes) (k5 : Option Bool) : List Bytes → Nat → Option Bool
  | [], i5 => (k5 )
  | x5_ :: xs5, i5 => ((d_spec_l1HasText (y13) (x5_)).bind fun y952 => (bif !(y952) then (some (false)) else (d_spec_IsRule_L5 a0_ y13 i4 y929 k5 xs5 (i5 + 1) )))
def d_spec_IsRule_L4 (a0_ : Rule) (y13 : List Bytes) (k4 : Option Bool) : List Action → Nat → Option Bool
  | [], i4 => (k4 )
  | x4_ :: xs4, i4 => ((d_spec_IsAction (x4_)).bind fun y926 => (bif !(y926) then (some (false)) else ((d_spec_VarsOf (x4_.pat)).bind fun y929 => (bif decide ((y929).length ≤ maxLen) then (d_spec_IsRule_L5 a0_ y13 i4 y929 (d_spec_IsRule_L4 a0_ y13 k4 xs4 (i4 + 1) ) (y929) 0 ) else none))))
def d_spec_IsRule (a0_ : Rule) : Option Bool := ((d_spec_IsName (a0_.name)).bind fun y1 => (bif !(y1) then (some (false)) else ((d_spec_l1In (a0_.prio) (0) (9)).bind fun y4 => (bif !(y4) then (some (false)) else ((d_spec_l1In ((((a0_.conds).map Cond.c).length : Int)) (1) (4)).bind fun y7 => (bif !(y7) then (some (false)) else ((d_spec_l1In ((((a0_.acts).map Action.c).length : Int)) (1) (2)).bind fun y10 => (bif !(y10) then (some (false)) else ((d_spec_BoundVars (a0_) ((((a0_.conds).map Cond.c).length : Int))).bind fun y13 => (d_spec_IsRule_L1 a0_ y13 (d_spec_IsRule_L4 a0_ y13 ((d_spec_RuleVars (a0_)).bind fun y956 => (some (decide (((((y956).map tx).length : Int) : Int) ≤ (6))))) (a0_.acts) 0 ) (a0_.conds) 0 ))))))))))
theorem d_spec_IsRule_L2w {Γ : Ctx} (hΓ : Γ.nt = 145) {N : Nat → St → Prop} {a0_ : Rule} {y13 : List Bytes} {i1 : Nat} {x1_ : Cond} {y648 : List Bytes} {y650 : List Bytes} {r : Bool} {k2 : Option Bool} (hE2 : k2 = some r → AW Try.prog Γ (dig (bodyOf Try.f60) [1, 1, 1, 0, 1, 0, 0, 1, 1] []).1 (KQ Try.prog Γ N (RetQ Try.prog Try.f60 (D.bool (r))) (dig (bodyOf Try.f60) [1, 1, 1, 0, 1, 0, 0, 1, 1] []).2) ⟨[(1, D.ptr 0 0), (3, D.acc 1), (4, D.int .i64 ((i1 : Int)))], [Ob.box (Rule.c a0_), Ob.row .uq 9 1 ((y13).map tx)]⟩) (hm2 : (y650).length ≤ maxLen) : ∀ (rest : List Bytes) (i2 : Nat) , (y650).drop i2 = rest → d_spec_IsRule_L2 a0_ y13 i1 x1_ y648 y650 k2 rest i2  = some r → AWr Try.prog Γ (dig (bodyOf Try.f60) [1, 1, 1, 0, 1, 0, 0, 1, 0, 0, 1, 1, 1, 1, 1, 0, 0] []).1 (KQ Try.prog Γ N (RetQ Try.prog Try.f60 (D.bool (r))) (dig (bodyOf Try.f60) [1, 1, 1, 0, 1, 0, 0, 1, 0, 0, 1, 1, 1, 1, 1, 0] []).2) (rest.length + 1) ⟨[(1, D.ptr 0 0), (3, D.acc 1), (4, D.int .i64 ((i1 : Int))), (5, D.ptr 2 0), (6, D.acc 3), (7, D.acc 4), (8, D.int .i64 ((i2 : Int)))], [Ob.box (Rule.c a0_), Ob.row .uq 9 1 ((y13).map tx), Ob.box [D.int .i64 (x1_.kind), D.str (x1_.pat.rel), D.sl ((x1_.pat.args).map tx), D.str (x1_.left), D.str (x1_.right)], Ob.row .uq 9 1 ((y648).map tx), Ob.row .uq 9 1 ((y650).map tx)]⟩ := by
  intro rest
  induction rest with
  | nil =>
    intro i2  hd2 h
    rw [d_spec_IsRule_L2] at h
    refine AWr_succ fun N2 hN2 hS2 => ?_
    have t := AW_N (N := N) (N' := N2) (K0 := (dig (bodyOf Try.f60) [1, 1, 1, 0, 1, 0, 0, 1, 0, 0, 1, 1, 1, 1, 1, 0] []).2) (by kernel_rfl) hN2 (hE2  h)
    refine AW_go (n := 2000) [[none]] [.b false, .hl 3 [1, 3, 4] [0, 1]] (.at_ (dig (bodyOf Try.f60) [1, 1, 1, 0, 1, 0, 0, 1, 1] []).1 (dig (bodyOf Try.f60) [1, 1, 1, 0, 1, 0, 0, 1, 1] []).2 ⟨[(1, D.ptr 0 0), (3, D.acc 1), (4, D.int .i64 ((i1 : Int)))], [Ob.box (Rule.c a0_), Ob.row .uq 9 1 ((y13).map tx)]⟩) hΓ mix (by kernel_rfl) (ow ((ltm_false tx (drop_nil hd2))) ow0) ?_
    first | exact t | (simp only [List.map_append, List.map_cons, List.map_nil, List.map_set] at t ⊢; exact t)
  | cons x2_ xs2 ih2 =>
    intro i2  hd2 h
    rw [d_spec_IsRule_L2] at h
    refine AWr_succ fun N2 hN2 hS2 => ?_
    obtain ⟨y710, h711, h⟩ := den_bind h
    obtain ⟨y712, h713, h⟩ := den_bind h
    rcases den_if h with ⟨h714, h⟩ | ⟨h714, h⟩
    · rcases den_if h with ⟨h715, h⟩ | ⟨h715, h⟩
      · have h := den_some h
        subst h
        exact AW_go (n := 2000) [[none]] [.b true, .ix i2, .row [D.str (x2_)], .d (D.bool (y710)), .n 21, .d (D.bool (y712)), .b true, .b true, .b true, .b true, .b true, .b true, .b true, .b false, .b false, .b true, .b true, .b false, .b false, .b false, .b false, .b false, .b false, .b false, .b true, .b true, .b true] (.ret (D.bool (false))) hΓ mix (by kernel_rfl) (ow ((ltm_true tx (drop_cons hd2).2.1)) (ow (own_ixl tx 1 (drop_cons hd2).1) (ow (show 1 = 1 ∧ RK.opn .uq = true ∧ ((y650).map tx)[i2]? = some [D.str (x2_)] ∧ 1 ≤ 1 from ⟨rfl, rfl, map_get tx (drop_cons hd2).1, by omega⟩) (ow (d_spec_l1HasText_good h711) (ow (d_spec_IsTest_good h713) (ow (h714) (ow (h714) (ow (h714) (ow (h715) (ow (h715) (ow (h715) (ow (h715) (ow (h715) (ow (h715) (ow (h715) (ow (h715) (ow (show (true) = true from rfl) ow0))))))))))))))))) rfl
      · rcases den_if h with ⟨h716, h⟩ | ⟨h716, h⟩
        · have t := ih2 (i2 + 1)  (drop_cons hd2).2.2 h
          refine AW_go (n := 2000) [[none]] [.b true, .ix i2, .row [D.str (x2_)], .d (D.bool (y710)), .n 21, .d (D.bool (y712)), .b true, .b true, .b true, .b false, .b false, .b false, .b false, .b true, .b true, .b false, .b true, .b false, .b false, .b false, .b false, .b false, .b false, .b false, .b false, .b false, .b false, .b false, .b false, .cn [1, 3, 4, 5, 6, 7, 8] [0, 1, 2, 3, 4]] (.cont 1 ⟨[(1, D.ptr 0 0), (3, D.acc 1), (4, D.int .i64 ((i1 : Int))), (5, D.ptr 2 0), (6, D.acc 3), (7, D.acc 4), (8, D.int .i64 (IntKind.i64.wrap (((i2 : Int)) + (1))))], [Ob.box (Rule.c a0_), Ob.row .uq 9 1 ((y13).map tx), Ob.box [D.int .i64 (x1_.kind), D.str (x1_.pat.rel), D.sl ((x1_.pat.args).map tx), D.str (x1_.left), D.str (x1_.right)], Ob.row .uq 9 1 ((y648).map tx), Ob.row .uq 9 1 ((y650).map tx)]⟩) hΓ mix (by kernel_rfl) (ow ((ltm_true tx (drop_cons hd2).2.1)) (ow (own_ixl tx 1 (drop_cons hd2).1) (ow (show 1 = 1 ∧ RK.opn .uq = true ∧ ((y650).map tx)[i2]? = some [D.str (x2_)] ∧ 1 ≤ 1 from ⟨rfl, rfl, map_get tx (drop_cons hd2).1, by omega⟩) (ow (d_spec_l1HasText_good h711) (ow (d_spec_IsTest_good h713) (ow (h714) (ow (h714) (ow (h714) (ow (h715) (ow (h715) (ow (h715) (ow (h715) (ow (h716) (ow (h716) (ow (h715) (ow (h716) (ow (h715) (ow (h715) (ow (h715) (ow (h715) (ow (h715) (ow (h715) (ow (h715) (ow (h715) (ow (h715) (ow (h715) (ow (h715) (ow (show (false) = false from rfl) ow0)))))))))))))))))))))))))))) ?_
          refine (congrFun hS2 _).mpr ?_
          rw [i64_succ (drop_cons hd2).2.1 hm2]
          first | exact t | (simp only [List.map_append, List.map_cons, List.map_nil, List.map_set] at t ⊢; exact t)
        · have t := ih2 (i2 + 1)  (drop_cons hd2).2.2 h
          refine AW_go (n := 2000) [[none]] [.b true, .ix i2, .row [D.str (x2_)], .d (D.bool (y710)), .n 21, .d (D.bool (y712)), .b true, .b true, .b true, .b false, .b false, .b false, .b false, .b false, .b false, .b false, .b false, .b false, .b false, .b false, .b false, .b false, .b false, .b false, .b false, .b false, .b false, .b false, .b false, .cn [1, 3, 4, 5, 6, 7, 8] [0, 1, 2, 3, 4]] (.cont 1 ⟨[(1, D.ptr 0 0), (3, D.acc 1), (4, D.int .i64 ((i1 : Int))), (5, D.ptr 2 0), (6, D.acc 3), (7, D.acc 4), (8, D.int .i64 (IntKind.i64.wrap (((i2 : Int)) + (1))))], [Ob.box (Rule.c a0_), Ob.row .uq 9 1 ((y13).map tx), Ob.box [D.int .i64 (x1_.kind), D.str (x1_.pat.rel), D.sl ((x1_.pat.args).map tx), D.str (x1_.left), D.str (x1_.right)], Ob.row .uq 9 1 ((y648).map tx), Ob.row .uq 9 1 ((y650).map tx)]⟩) hΓ mix (by kernel_rfl) (ow ((ltm_true tx (drop_cons hd2).2.1)) (ow (own_ixl tx 1 (drop_cons hd2).1) (ow (show 1 = 1 ∧ RK.opn .uq = true ∧ ((y650).map tx)[i2]? = some [D.str (x2_)] ∧ 1 ≤ 1 from ⟨rfl, rfl, map_get tx (drop_cons hd2).1, by omega⟩) (ow (d_spec_l1HasText_good h711) (ow (d_spec_IsTest_good h713) (ow (h714) (ow (h714) (ow (h714) (ow (h715) (ow (h715) (ow (h715) (ow (h715) (ow (h716) (ow (h716) (ow (h715) (ow (h716) (ow (h715) (ow (show (false) = false from rfl) (ow (show (false) = false from rfl) (ow (show (false) = false from rfl) (ow (show (false) = false from rfl) (ow (show (false) = false from rfl) (ow (show (false) = false from rfl) (ow (show (false) = false from rfl) (ow (h715) (ow (show (false) = false from rfl) (ow (h715) (ow (show (false) = false from rfl) ow0)))))))))))))))))))))))))))) ?_
          refine (congrFun hS2 _).mpr ?_
          rw [i64_succ (drop_cons hd2).2.1 hm2]
          first | exact t | (simp only [List.map_append, List.map_cons, List.map_nil, List.map_set] at t ⊢; exact t)
    · rcases den_if h with ⟨h717, h⟩ | ⟨h717, h⟩
      · rcases den_if h with ⟨h718, h⟩ | ⟨h718, h⟩
        · obtain ⟨y719, h720, h⟩ := den_bind h
          rcases den_if h with ⟨h721, h⟩ | ⟨h721, h⟩
          · have h := den_some h
            subst h
            exact AW_go (n := 2000) [[none]] [.b true, .ix i2, .row [D.str (x2_)], .d (D.bool (y710)), .n 21, .d (D.bool (y712)), .b false, .b false, .b false, .b false, .b false, .b false, .b false, .b true, .b true, .b false, .b true, .b false, .b true, .b true, .b true, .b true, .b true, .ix i2, .b true, .row [D.str (x2_)], .b true, .d (D.bool (y719)), .b false, .b true, .b false, .b true] (.ret (D.bool (false))) hΓ mix (by kernel_rfl) (ow ((ltm_true tx (drop_cons hd2).2.1)) (ow (own_ixl tx 1 (drop_cons hd2).1) (ow (show 1 = 1 ∧ RK.opn .uq = true ∧ ((y650).map tx)[i2]? = some [D.str (x2_)] ∧ 1 ≤ 1 from ⟨rfl, rfl, map_get tx (drop_cons hd2).1, by omega⟩) (ow (d_spec_l1HasText_good h711) (ow (d_spec_IsTest_good h713) (ow (h714) (ow (h714) (ow (h714) (ow (show (false) = false from rfl) (ow (show (false) = false from rfl) (ow (show (false) = false from rfl) (ow (show (false) = false from rfl) (ow (h717) (ow (h717) (ow (show (false) = false from rfl) (ow (h717) (ow (show (false) = false from rfl) (ow (h718) (ow (h718) (ow (h718) (ow (h718) (ow (h718) (ow (own_ixl tx 1 (drop_cons hd2).1) (ow (h718) (ow (show 1 = 1 ∧ RK.opn .uq = true ∧ ((y650).map tx)[i2]? = some [D.str (x2_)] ∧ 1 ≤ 1 from ⟨rfl, rfl, map_get tx (drop_cons hd2).1, by omega⟩) (ow (h718) (ow (d_spec_l5Elsewhere_good h720) (ow (show (false) = false from rfl) (ow (h718) (ow (show (false) = false from rfl) (ow (h721) ow0))))))))))))))))))))))))))))))) rfl
          · have t := ih2 (i2 + 1)  (drop_cons hd2).2.2 h
            refine AW_go (n := 2000) [[none]] [.b true, .ix i2, .row [D.str (x2_)], .d (D.bool (y710)), .n 21, .d (D.bool (y712)), .b false, .b false, .b false, .b false, .b false, .b false, .b false, .b true, .b true, .b false, .b true, .b false, .b true, .b true, .b true, .b true, .b true, .ix i2, .b true, .row [D.str (x2_)], .b true, .d (D.bool (y719)), .b false, .b true, .b false, .b false, .cn [1, 3, 4, 5, 6, 7, 8] [0, 1, 2, 3, 4]] (.cont 1 ⟨[(1, D.ptr 0 0), (3, D.acc 1), (4, D.int .i64 ((i1 : Int))), (5, D.ptr 2 0), (6, D.acc 3), (7, D.acc 4), (8, D.int .i64 (IntKind.i64.wrap (((i2 : Int)) + (1))))], [Ob.box (Rule.c a0_), Ob.row .uq 9 1 ((y13).map tx), Ob.box [D.int .i64 (x1_.kind), D.str (x1_.pat.rel), D.sl ((x1_.pat.args).map tx), D.str (x1_.left), D.str (x1_.right)], Ob.row .uq 9 1 ((y648).map tx), Ob.row .uq 9 1 ((y650).map tx)]⟩) hΓ mix (by kernel_rfl) (ow ((ltm_true tx (drop_cons hd2).2.1)) (ow (own_ixl tx 1 (drop_cons hd2).1) (ow (show 1 = 1 ∧ RK.opn .uq = true ∧ ((y650).map tx)[i2]? = some [D.str (x2_)] ∧ 1 ≤ 1 from ⟨rfl, rfl, map_get tx (drop_cons hd2).1, by omega⟩) (ow (d_spec_l1HasText_good h711) (ow (d_spec_IsTest_good h713) (ow (h714) (ow (h714) (ow (h714) (ow (show (false) = false from rfl) (ow (show (false) = false from rfl) (ow (show (false) = false from rfl) (ow (show (false) = false from rfl) (ow (h717) (ow (h717) (ow (show (false) = false from rfl) (ow (h717) (ow (show (false) = false from rfl) (ow (h718) (ow (h718) (ow (h718) (ow (h718) (ow (h718) (ow (own_ixl tx 1 (drop_cons hd2).1) (ow (h718) (ow (show 1 = 1 ∧ RK.opn .uq = true ∧ ((y650).map tx)[i2]? = some [D.str (x2_)] ∧ 1 ≤ 1 from ⟨rfl, rfl, map_get tx (drop_cons hd2).1, by omega⟩) (ow (h718) (ow (d_spec_l5Elsewhere_good h720) (ow (show (false) = false from rfl) (ow (h718) (ow (show (false) = false from rfl) (ow (h721) ow0))))))))))))))))))))))))))))))) ?_
            refine (congrFun hS2 _).mpr ?_
            rw [i64_succ (drop_cons hd2).2.1 hm2]
            first | exact t | (simp only [List.map_append, List.map_cons, List.map_nil, List.map_set] at t ⊢; exact t)
        · have t := ih2 (i2 + 1)  (drop_cons hd2).2.2 h
          refine AW_go (n := 2000) [[none]] [.b true, .ix i2, .row [D.str (x2_)], .d (D.bool (y710)), .n 21, .d (D.bool (y712)), .b false, .b false, .b false, .b false, .b false, .b false, .b false, .b true, .b true, .b false, .b true, .b false, .b false, .b false, .b false, .b false, .b false, .b false, .b false, .b false, .b false, .b false, .b false, .cn [1, 3, 4, 5, 6, 7, 8] [0, 1, 2, 3, 4]] (.cont 1 ⟨[(1, D.ptr 0 0), (3, D.acc 1), (4, D.int .i64 ((i1 : Int))), (5, D.ptr 2 0), (6, D.acc 3), (7, D.acc 4), (8, D.int .i64 (IntKind.i64.wrap (((i2 : Int)) + (1))))], [Ob.box (Rule.c a0_), Ob.row .uq 9 1 ((y13).map tx), Ob.box [D.int .i64 (x1_.kind), D.str (x1_.pat.rel), D.sl ((x1_.pat.args).map tx), D.str (x1_.left), D.str (x1_.right)], Ob.row .uq 9 1 ((y648).map tx), Ob.row .uq 9 1 ((y650).map tx)]⟩) hΓ mix (by kernel_rfl) (ow ((ltm_true tx (drop_cons hd2).2.1)) (ow (own_ixl tx 1 (drop_cons hd2).1) (ow (show 1 = 1 ∧ RK.opn .uq = true ∧ ((y650).map tx)[i2]? = some [D.str (x2_)] ∧ 1 ≤ 1 from ⟨rfl, rfl, map_get tx (drop_cons hd2).1, by omega⟩) (ow (d_spec_l1HasText_good h711) (ow (d_spec_IsTest_good h713) (ow (h714) (ow (h714) (ow (h714) (ow (show (false) = false from rfl) (ow (show (false) = false from rfl) (ow (show (false) = false from rfl) (ow (show (false) = false from rfl) (ow (h717) (ow (h717) (ow (show (false) = false from rfl) (ow (h717) (ow (show (false) = false from rfl) (ow (h718) (ow (h718) (ow (h718) (ow (h718) (ow (h718) (ow (h718) (ow (h718) (ow (show (false) = false from rfl) (ow (h718) (ow (show (false) = false from rfl) (ow (show (false) = false from rfl) ow0)))))))))))))))))))))))))))) ?_
          refine (congrFun hS2 _).mpr ?_
          rw [i64_succ (drop_cons hd2).2.1 hm2]
          first | exact t | (simp only [List.map_append, List.map_cons, List.map_nil, List.map_set] at t ⊢; exact t)
      · have t := ih2 (i2 + 1)  (drop_cons hd2).2.2 h
        refine AW_go (n := 2000) [[none]] [.b true, .ix i2, .row [D.str (x2_)], .d (D.bool (y710)), .n 21, .d (D.bool (y712)), .b false, .b false, .b false, .b false, .b false, .b false, .b false, .b false, .b false, .b false, .b false, .b false, .b false, .b false, .b false, .b false, .b false, .b false, .b false, .b false, .b false, .b false, .b false, .cn [1, 3, 4, 5, 6, 7, 8] [0, 1, 2, 3, 4]] (.cont 1 ⟨[(1, D.ptr 0 0), (3, D.acc 1), (4, D.int .i64 ((i1 : Int))), (5, D.ptr 2 0), (6, D.acc 3), (7, D.acc 4), (8, D.int .i64 (IntKind.i64.wrap (((i2 : Int)) + (1))))], [Ob.box (Rule.c a0_), Ob.row .uq 9 1 ((y13).map tx), Ob.box [D.int .i64 (x1_.kind), D.str (x1_.pat.rel), D.sl ((x1_.pat.args).map tx), D.str (x1_.left), D.str (x1_.right)], Ob.row .uq 9 1 ((y648).map tx), Ob.row .uq 9 1 ((y650).map tx)]⟩) hΓ mix (by kernel_rfl) (ow ((ltm_true tx (drop_cons hd2).2.1)) (ow (own_ixl tx 1 (drop_cons hd2).1) (ow (show 1 = 1 ∧ RK.opn .uq = true ∧ ((y650).map tx)[i2]? = some [D.str (x2_)] ∧ 1 ≤ 1 from ⟨rfl, rfl, map_get tx (drop_cons hd2).1, by omega⟩) (ow (d_spec_l1HasText_good h711) (ow (d_spec_IsTest_good h713) (ow (h714) (ow (h714) (ow (h714) (ow (show (false) = false from rfl) (ow (show (false) = false from rfl) (ow (show (false) = false from rfl) (ow (show (false) = false from rfl) (ow (h717) (ow (h717) (ow (show (false) = false from rfl) (ow (h717) (ow (show (false) = false from rfl) (ow (show (false) = false from rfl) (ow (show (false) = false from rfl) (ow (show (false) = false from rfl) (ow (show (false) = false from rfl) (ow (show (false) = false from rfl) (ow (show (false) = false from rfl) (ow (show (false) = false from rfl) (ow (show (false) = false from rfl) (ow (show (false) = false from rfl) (ow (show (false) = false from rfl) (ow (show (false) = false from rfl) ow0)))))))))))))))))))))))))))) ?_
        refine (congrFun hS2 _).mpr ?_
        rw [i64_succ (drop_cons hd2).2.1 hm2]
        first | exact t | (simp only [List.map_append, List.map_cons, List.map_nil, List.map_set] at t ⊢; exact t)
theorem d_spec_IsRule_L3w {Γ : Ctx} (hΓ : Γ.nt = 145) {N : Nat → St → Prop} {a0_ : Rule} {y13 : List Bytes} {i1 : Nat} {x1_ : Cond} {y723 : List Bytes} {y725 : List Bytes} {r : Bool} {k3 : Option Bool} (hE3 : k3 = some r → AW Try.prog Γ (dig (bodyOf Try.f60) [1, 1, 1, 0, 1, 0, 0, 1, 1] []).1 (KQ Try.prog Γ N (RetQ Try.prog Try.f60 (D.bool (r))) (dig (bodyOf Try.f60) [1, 1, 1, 0, 1, 0, 0, 1, 1] []).2) ⟨[(1, D.ptr 0 0), (3, D.acc 1), (4, D.int .i64 ((i1 : Int)))], [Ob.box (Rule.c a0_), Ob.row .uq 9 1 ((y13).map tx)]⟩) (hm3 : (y725).length ≤ maxLen) : ∀ (rest : List Bytes) (i3 : Nat) , (y725).drop i3 = rest → d_spec_IsRule_L3 a0_ y13 i1 x1_ y723 y725 k3 rest i3  = some r → AWr Try.prog Γ (dig (bodyOf Try.f60) [1, 1, 1, 0, 1, 0, 0, 1, 0, 0, 1, 1, 1, 1, 1, 0, 0] []).1 (KQ Try.prog Γ N (RetQ Try.prog Try.f60 (D.bool (r))) (dig (bodyOf Try.f60) [1, 1, 1, 0, 1, 0, 0, 1, 0, 0, 1, 1, 1, 1, 1, 0] []).2) (rest.length + 1) ⟨[(1, D.ptr 0 0), (3, D.acc 1), (4, D.int .i64 ((i1 : Int))), (5, D.ptr 2 0), (6, D.acc 3), (7, D.acc 4), (8, D.int .i64 ((i3 : Int)))], [Ob.box (Rule.c a0_), Ob.row .uq 9 1 ((y13).map tx), Ob.box [D.int .i64 (x1_.kind), D.str (x1_.pat.rel), D.sl ((x1_.pat.args).map tx), D.str (x1_.left), D.str (x1_.right)], Ob.row .uq 9 1 ((y723).map tx), Ob.row .uq 9 1 ((y725).map tx)]⟩ := by
  intro rest
  induction rest with
  | nil =>
    intro i3  hd3 h
    rw [d_spec_IsRule_L3] at h
    refine AWr_succ fun N3 hN3 hS3 => ?_
    have t := AW_N (N := N) (N' := N3) (K0 := (dig (bodyOf Try.f60) [1, 1, 1, 0, 1, 0, 0, 1, 0, 0, 1, 1, 1, 1, 1, 0] []).2) (by kernel_rfl) hN3 (hE3  h)
    refine AW_go (n := 2000) [[none]] [.b false, .hl 3 [1, 3, 4] [0, 1]] (.at_ (dig (bodyOf Try.f60) [1, 1, 1, 0, 1, 0, 0, 1, 1] []).1 (dig (bodyOf Try.f60) [1, 1, 1, 0, 1, 0, 0, 1, 1] []).2 ⟨[(1, D.ptr 0 0), (3, D.acc 1), (4, D.int .i64 ((i1 : Int)))], [Ob.box (Rule.c a0_), Ob.row .uq 9 1 ((y13).map tx)]⟩) hΓ mix (by kernel_rfl) (ow ((ltm_false tx (drop_nil hd3))) ow0) ?_
    first | exact t | (simp only [List.map_append, List.map_cons, List.map_nil, List.map_set] at t ⊢; exact t)
  | cons x3_ xs3 ih3 =>
    intro i3  hd3 h
    rw [d_spec_IsRule_L3] at h
    refine AWr_succ fun N3 hN3 hS3 => ?_
    obtain ⟨y785, h786, h⟩ := den_bind h
    obtain ⟨y787, h788, h⟩ := den_bind h
    rcases den_if h with ⟨h789, h⟩ | ⟨h789, h⟩
    · rcases den_if h with ⟨h790, h⟩ | ⟨h790, h⟩
      · have h := den_some h
        subst h
        exact AW_go (n := 2000) [[none]] [.b true, .ix i3, .row [D.str (x3_)], .d (D.bool (y785)), .n 21, .d (D.bool (y787)), .b true, .b true, .b true, .b true, .b true, .b true, .b true, .b false, .b false, .b true, .b true, .b false, .b false, .b false, .b false, .b false, .b false, .b false, .b true, .b true, .b true] (.ret (D.bool (false))) hΓ mix (by kernel_rfl) (ow ((ltm_true tx (drop_cons hd3).2.1)) (ow (own_ixl tx 1 (drop_cons hd3).1) (ow (show 1 = 1 ∧ RK.opn .uq = true ∧ ((y725).map tx)[i3]? = some [D.str (x3_)] ∧ 1 ≤ 1 from ⟨rfl, rfl, map_get tx (drop_cons hd3).1, by omega⟩) (ow (d_spec_l1HasText_good h786) (ow (d_spec_IsTest_good h788) (ow (h789) (ow (h789) (ow (h789) (ow (h790) (ow (h790) (ow (h790) (ow (h790) (ow (h790) (ow (h790) (ow (h790) (ow (h790) (ow (show (true) = true from rfl) ow0))))))))))))))))) rfl
      · rcases den_if h with ⟨h791, h⟩ | ⟨h791, h⟩
        · have t := ih3 (i3 + 1)  (drop_cons hd3).2.2 h
          refine AW_go (n := 2000) [[none]] [.b true, .ix i3, .row [D.str (x3_)], .d (D.bool (y785)), .n 21, .d (D.bool (y787)), .b true, .b true, .b true, .b false, .b false, .b false, .b false, .b true, .b true, .b false, .b true, .b false, .b false, .b false, .b false, .b false, .b false, .b false, .b false, .b false, .b false, .b false, .b false, .cn [1, 3, 4, 5, 6, 7, 8] [0, 1, 2, 3, 4]] (.cont 1 ⟨[(1, D.ptr 0 0), (3, D.acc 1), (4, D.int .i64 ((i1 : Int))), (5, D.ptr 2 0), (6, D.acc 3), (7, D.acc 4), (8, D.int .i64 (IntKind.i64.wrap (((i3 : Int)) + (1))))], [Ob.box (Rule.c a0_), Ob.row .uq 9 1 ((y13).map tx), Ob.box [D.int .i64 (x1_.kind), D.str (x1_.pat.rel), D.sl ((x1_.pat.args).map tx), D.str (x1_.left), D.str (x1_.right)], Ob.row .uq 9 1 ((y723).map tx), Ob.row .uq 9 1 ((y725).map tx)]⟩) hΓ mix (by kernel_rfl) (ow ((ltm_true tx (drop_cons hd3).2.1)) (ow (own_ixl tx 1 (drop_cons hd3).1) (ow (show 1 = 1 ∧ RK.opn .uq = true ∧ ((y725).map tx)[i3]? = some [D.str (x3_)] ∧ 1 ≤ 1 from ⟨rfl, rfl, map_get tx (drop_cons hd3).1, by omega⟩) (ow (d_spec_l1HasText_good h786) (ow (d_spec_IsTest_good h788) (ow (h789) (ow (h789) (ow (h789) (ow (h790) (ow (h790) (ow (h790) (ow (h790) (ow (h791) (ow (h791) (ow (h790) (ow (h791) (ow (h790) (ow (h790) (ow (h790) (ow (h790) (ow (h790) (ow (h790) (ow (h790) (ow (h790) (ow (h790) (ow (h790) (ow (h790) (ow (show (false) = false from rfl) ow0)))))))))))))))))))))))))))) ?_
          refine (congrFun hS3 _).mpr ?_
          rw [i64_succ (drop_cons hd3).2.1 hm3]
          first | exact t | (simp only [List.map_append, List.map_cons, List.map_nil, List.map_set] at t ⊢; exact t)
        · have t := ih3 (i3 + 1)  (drop_cons hd3).2.2 h
          refine AW_go (n := 2000) [[none]] [.b true, .ix i3, .row [D.str (x3_)], .d (D.bool (y785)), .n 21, .d (D.bool (y787)), .b true, .b true, .b true, .b false, .b false, .b false, .b false, .b false, .b false, .b false, .b false, .b false, .b false, .b false, .b false, .b false, .b false, .b false, .b false, .b false, .b false, .b false, .b false, .cn [1, 3, 4, 5, 6, 7, 8] [0, 1, 2, 3, 4]] (.cont 1 ⟨[(1, D.ptr 0 0), (3, D.acc 1), (4, D.int .i64 ((i1 : Int))), (5, D.ptr 2 0), (6, D.acc 3), (7, D.acc 4), (8, D.int .i64 (IntKind.i64.wrap (((i3 : Int)) + (1))))], [Ob.box (Rule.c a0_), Ob.row .uq 9 1 ((y13).map tx), Ob.box [D.int .i64 (x1_.kind), D.str (x1_.pat.rel), D.sl ((x1_.pat.args).map tx), D.str (x1_.left), D.str (x1_.right)], Ob.row .uq 9 1 ((y723).map tx), Ob.row .uq 9 1 ((y725).map tx)]⟩) hΓ mix (by kernel_rfl) (ow ((ltm_true tx (drop_cons hd3).2.1)) (ow (own_ixl tx 1 (drop_cons hd3).1) (ow (show 1 = 1 ∧ RK.opn .uq = true ∧ ((y725).map tx)[i3]? = some [D.str (x3_)] ∧ 1 ≤ 1 from ⟨rfl, rfl, map_get tx (drop_cons hd3).1, by omega⟩) (ow (d_spec_l1HasText_good h786) (ow (d_spec_IsTest_good h788) (ow (h789) (ow (h789) (ow (h789) (ow (h790) (ow (h790) (ow (h790) (ow (h790) (ow (h791) (ow (h791) (ow (h790) (ow (h791) (ow (h790) (ow (show (false) = false from rfl) (ow (show (false) = false from rfl) (ow (show (false) = false from rfl) (ow (show (false) = false from rfl) (ow (show (false) = false from rfl) (ow (show (false) = false from rfl) (ow (show (false) = false from rfl) (ow (h790) (ow (show (false) = false from rfl) (ow (h790) (ow (show (false) = false from rfl) ow0)))))))))))))))))))))))))))) ?_
          refine (congrFun hS3 _).mpr ?_
          rw [i64_succ (drop_cons hd3).2.1 hm3]
          first | exact t | (simp only [List.map_append, List.map_cons, List.map_nil, List.map_set] at t ⊢; exact t)
    · rcases den_if h with ⟨h792, h⟩ | ⟨h792, h⟩
      · rcases den_if h with ⟨h793, h⟩ | ⟨h793, h⟩
        · obtain ⟨y794, h795, h⟩ := den_bind h
          rcases den_if h with ⟨h796, h⟩ | ⟨h796, h⟩
          · have h := den_some h
            subst h
            exact AW_go (n := 2000) [[none]] [.b true, .ix i3, .row [D.str (x3_)], .d (D.bool (y785)), .n 21, .d (D.bool (y787)), .b false, .b false, .b false, .b false, .b false, .b false, .b false, .b true, .b true, .b false, .b true, .b false, .b true, .b true, .b true, .b true, .b true, .ix i3, .b true, .row [D.str (x3_)], .b true, .d (D.bool (y794)), .b false, .b true, .b false, .b true] (.ret (D.bool (false))) hΓ mix (by kernel_rfl) (ow ((ltm_true tx (drop_cons hd3).2.1)) (ow (own_ixl tx 1 (drop_cons hd3).1) (ow (show 1 = 1 ∧ RK.opn .uq = true ∧ ((y725).map tx)[i3]? = some [D.str (x3_)] ∧ 1 ≤ 1 from ⟨rfl, rfl, map_get tx (drop_cons hd3).1, by omega⟩) (ow (d_spec_l1HasText_good h786) (ow (d_spec_IsTest_good h788) (ow (h789) (ow (h789) (ow (h789) (ow (show (false) = false from rfl) (ow (show (false) = false from rfl) (ow (show (false) = false from rfl) (ow (show (false) = false from rfl) (ow (h792) (ow (h792) (ow (show (false) = false from rfl) (ow (h792) (ow (show (false) = false from rfl) (ow (h793) (ow (h793) (ow (h793) (ow (h793) (ow (h793) (ow (own_ixl tx 1 (drop_cons hd3).1) (ow (h793) (ow (show 1 = 1 ∧ RK.opn .uq = true ∧ ((y725).map tx)[i3]? = some [D.str (x3_)] ∧ 1 ≤ 1 from ⟨rfl, rfl, map_get tx (drop_cons hd3).1, by omega⟩) (ow (h793) (ow (d_spec_l5Elsewhere_good h795) (ow (show (false) = false from rfl) (ow (h793) (ow (show (false) = false from rfl) (ow (h796) ow0))))))))))))))))))))))))))))))) rfl
          · have t := ih3 (i3 + 1)  (drop_cons hd3).2.2 h
            refine AW_go (n := 2000) [[none]] [.b true, .ix i3, .row [D.str (x3_)], .d (D.bool (y785)), .n 21, .d (D.bool (y787)), .b false, .b false, .b false, .b false, .b false, .b false, .b false, .b true, .b true, .b false, .b true, .b false, .b true, .b true, .b true, .b true, .b true, .ix i3, .b true, .row [D.str (x3_)], .b true, .d (D.bool (y794)), .b false, .b true, .b false, .b false, .cn [1, 3, 4, 5, 6, 7, 8] [0, 1, 2, 3, 4]] (.cont 1 ⟨[(1, D.ptr 0 0), (3, D.acc 1), (4, D.int .i64 ((i1 : Int))), (5, D.ptr 2 0), (6, D.acc 3), (7, D.acc 4), (8, D.int .i64 (IntKind.i64.wrap (((i3 : Int)) + (1))))], [Ob.box (Rule.c a0_), Ob.row .uq 9 1 ((y13).map tx), Ob.box [D.int .i64 (x1_.kind), D.str (x1_.pat.rel), D.sl ((x1_.pat.args).map tx), D.str (x1_.left), D.str (x1_.right)], Ob.row .uq 9 1 ((y723).map tx), Ob.row .uq 9 1 ((y725).map tx)]⟩) hΓ mix (by kernel_rfl) (ow ((ltm_true tx (drop_cons hd3).2.1)) (ow (own_ixl tx 1 (drop_cons hd3).1) (ow (show 1 = 1 ∧ RK.opn .uq = true ∧ ((y725).map tx)[i3]? = some [D.str (x3_)] ∧ 1 ≤ 1 from ⟨rfl, rfl, map_get tx (drop_cons hd3).1, by omega⟩) (ow (d_spec_l1HasText_good h786) (ow (d_spec_IsTest_good h788) (ow (h789) (ow (h789) (ow (h789) (ow (show (false) = false from rfl) (ow (show (false) = false from rfl) (ow (show (false) = false from rfl) (ow (show (false) = false from rfl) (ow (h792) (ow (h792) (ow (show (false) = false from rfl) (ow (h792) (ow (show (false) = false from rfl) (ow (h793) (ow (h793) (ow (h793) (ow (h793) (ow (h793) (ow (own_ixl tx 1 (drop_cons hd3).1) (ow (h793) (ow (show 1 = 1 ∧ RK.opn .uq = true ∧ ((y725).map tx)[i3]? = some [D.str (x3_)] ∧ 1 ≤ 1 from ⟨rfl, rfl, map_get tx (drop_cons hd3).1, by omega⟩) (ow (h793) (ow (d_spec_l5Elsewhere_good h795) (ow (show (false) = false from rfl) (ow (h793) (ow (show (false) = false from rfl) (ow (h796) ow0))))))))))))))))))))))))))))))) ?_
            refine (congrFun hS3 _).mpr ?_
            rw [i64_succ (drop_cons hd3).2.1 hm3]
            first | exact t | (simp only [List.map_append, List.map_cons, List.map_nil, List.map_set] at t ⊢; exact t)
        · have t := ih3 (i3 + 1)  (drop_cons hd3).2.2 h
          refine AW_go (n := 2000) [[none]] [.b true, .ix i3, .row [D.str (x3_)], .d (D.bool (y785)), .n 21, .d (D.bool (y787)), .b false, .b false, .b false, .b false, .b false, .b false, .b false, .b true, .b true, .b false, .b true, .b false, .b false, .b false, .b false, .b false, .b false, .b false, .b false, .b false, .b false, .b false, .b false, .cn [1, 3, 4, 5, 6, 7, 8] [0, 1, 2, 3, 4]] (.cont 1 ⟨[(1, D.ptr 0 0), (3, D.acc 1), (4, D.int .i64 ((i1 : Int))), (5, D.ptr 2 0), (6, D.acc 3), (7, D.acc 4), (8, D.int .i64 (IntKind.i64.wrap (((i3 : Int)) + (1))))], [Ob.box (Rule.c a0_), Ob.row .uq 9 1 ((y13).map tx), Ob.box [D.int .i64 (x1_.kind), D.str (x1_.pat.rel), D.sl ((x1_.pat.args).map tx), D.str (x1_.left), D.str (x1_.right)], Ob.row .uq 9 1 ((y723).map tx), Ob.row .uq 9 1 ((y725).map tx)]⟩) hΓ mix (by kernel_rfl) (ow ((ltm_true tx (drop_cons hd3).2.1)) (ow (own_ixl tx 1 (drop_cons hd3).1) (ow (show 1 = 1 ∧ RK.opn .uq = true ∧ ((y725).map tx)[i3]? = some [D.str (x3_)] ∧ 1 ≤ 1 from ⟨rfl, rfl, map_get tx (drop_cons hd3).1, by omega⟩) (ow (d_spec_l1HasText_good h786) (ow (d_spec_IsTest_good h788) (ow (h789) (ow (h789) (ow (h789) (ow (show (false) = false from rfl) (ow (show (false) = false from rfl) (ow (show (false) = false from rfl) (ow (show (false) = false from rfl) (ow (h792) (ow (h792) (ow (show (false) = false from rfl) (ow (h792) (ow (show (false) = false from rfl) (ow (h793) (ow (h793) (ow (h793) (ow (h793) (ow (h793) (ow (h793) (ow (h793) (ow (show (false) = false from rfl) (ow (h793) (ow (show (false) = false from rfl) (ow (show (false) = false from rfl) ow0)))))))))))))))))))))))))))) ?_
          refine (congrFun hS3 _).mpr ?_
          rw [i64_succ (drop_cons hd3).2.1 hm3]
          first | exact t | (simp only [List.map_append, List.map_cons, List.map_nil, List.map_set] at t ⊢; exact t)
      · have t := ih3 (i3 + 1)  (drop_cons hd3).2.2 h
        refine AW_go (n := 2000) [[none]] [.b true, .ix i3, .row [D.str (x3_)], .d (D.bool (y785)), .n 21, .d (D.bool (y787)), .b false, .b false, .b false, .b false, .b false, .b false, .b false, .b false, .b false, .b false, .b false, .b false, .b false, .b false, .b false, .b false, .b false, .b false, .b false, .b false, .b false, .b false, .b false, .cn [1, 3, 4, 5, 6, 7, 8] [0, 1, 2, 3, 4]] (.cont 1 ⟨[(1, D.ptr 0 0), (3, D.acc 1), (4, D.int .i64 ((i1 : Int))), (5, D.ptr 2 0), (6, D.acc 3), (7, D.acc 4), (8, D.int .i64 (IntKind.i64.wrap (((i3 : Int)) + (1))))], [Ob.box (Rule.c a0_), Ob.row .uq 9 1 ((y13).map tx), Ob.box [D.int .i64 (x1_.kind), D.str (x1_.pat.rel), D.sl ((x1_.pat.args).map tx), D.str (x1_.left), D.str (x1_.right)], Ob.row .uq 9 1 ((y723).map tx), Ob.row .uq 9 1 ((y725).map tx)]⟩) hΓ mix (by kernel_rfl) (ow ((ltm_true tx (drop_cons hd3).2.1)) (ow (own_ixl tx 1 (drop_cons hd3).1) (ow (show 1 = 1 ∧ RK.opn .uq = true ∧ ((y725).map tx)[i3]? = some [D.str (x3_)] ∧ 1 ≤ 1 from ⟨rfl, rfl, map_get tx (drop_cons hd3).1, by omega⟩) (ow (d_spec_l1HasText_good h786) (ow (d_spec_IsTest_good h788) (ow (h789) (ow (h789) (ow (h789) (ow (show (false) = false from rfl) (ow (show (false) = false from rfl) (ow (show (false) = false from rfl) (ow (show (false) = false from rfl) (ow (h792) (ow (h792) (ow (show (false) = false from rfl) (ow (h792) (ow (show (false) = false from rfl) (ow (show (false) = false from rfl) (ow (show (false) = false from rfl) (ow (show (false) = false from rfl) (ow (show (false) = false from rfl) (ow (show (false) = false from rfl) (ow (show (false) = false from rfl) (ow (show (false) = false from rfl) (ow (show (false) = false from rfl) (ow (show (false) = false from rfl) (ow (show (false) = false from rfl) (ow (show (false) = false from rfl) ow0)))))))))))))))))))))))))))) ?_
        refine (congrFun hS3 _).mpr ?_
        rw [i64_succ (drop_cons hd3).2.1 hm3]
        first | exact t | (simp only [List.map_append, List.map_cons, List.map_nil, List.map_set] at t ⊢; exact t)
theorem d_spec_IsRule_L1w {Γ : Ctx} (hΓ : Γ.nt = 145) {N : Nat → St → Prop} {a0_ : Rule} {y13 : List Bytes} {r : Bool} {k1 : Option Bool} (hE1 : k1 = some r → AW Try.prog Γ (dig (bodyOf Try.f60) [1, 1, 1, 1] []).1 (KQ Try.prog Γ N (RetQ Try.prog Try.f60 (D.bool (r))) (dig (bodyOf Try.f60) [1, 1, 1, 1] []).2) ⟨[(1, D.ptr 0 0), (3, D.acc 1)], [Ob.box (Rule.c a0_), Ob.row .uq 9 1 ((y13).map tx)]⟩) (hm1 : (a0_.conds).length ≤ maxLen) : ∀ (rest : List Cond) (i1 : Nat) , (a0_.conds).drop i1 = rest → d_spec_IsRule_L1 a0_ y13 k1 rest i1  = some r → AWr Try.prog Γ (dig (bodyOf Try.f60) [1, 1, 1, 0, 1, 0, 0] []).1 (KQ Try.prog Γ N (RetQ Try.prog Try.f60 (D.bool (r))) (dig (bodyOf Try.f60) [1, 1, 1, 0, 1, 0] []).2) (rest.length + 1) ⟨[(1, D.ptr 0 0), (3, D.acc 1), (4, D.int .i64 ((i1 : Int)))], [Ob.box (Rule.c a0_), Ob.row .uq 9 1 ((y13).map tx)]⟩ := by
  intro rest
  induction rest with
  | nil =>
    intro i1  hd1 h
    rw [d_spec_IsRule_L1] at h
    refine AWr_succ fun N1 hN1 hS1 => ?_
    have t := AW_N (N := N) (N' := N1) (K0 := (dig (bodyOf Try.f60) [1, 1, 1, 0, 1, 0] []).2) (by kernel_rfl) hN1 (hE1  h)
    refine AW_go (n := 2000) [[none]] [.b false, .hl 0 [1, 3] [0, 1]] (.at_ (dig (bodyOf Try.f60) [1, 1, 1, 1] []).1 (dig (bodyOf Try.f60) [1, 1, 1, 1] []).2 ⟨[(1, D.ptr 0 0), (3, D.acc 1)], [Ob.box (Rule.c a0_), Ob.row .uq 9 1 ((y13).map tx)]⟩) hΓ mix (by kernel_rfl) (ow ((ltm_false Cond.c (drop_nil hd1))) ow0) ?_
    first | exact t | (simp only [List.map_append, List.map_cons, List.map_nil, List.map_set] at t ⊢; exact t)
  | cons x1_ xs1 ih1 =>
    intro i1  hd1 h
    rw [d_spec_IsRule_L1] at h
    refine AWr_succ fun N1 hN1 hS1 => ?_
    obtain ⟨y643, h644, h⟩ := den_bind h
    rcases den_if h with ⟨h645, h⟩ | ⟨h645, h⟩
    · have h := den_some h
      subst h
      exact AW_go (n := 2000) [[none]] [.b true, .row (Cond.c x1_), .d (D.bool (y643)), .b true, .b true, .b true, .b false, .b false, .b false, .b true, .b true, .b true] (.ret (D.bool (false))) hΓ mix (by kernel_rfl) (ow ((ltm_true Cond.c (drop_cons hd1).2.1)) (ow (map_row Cond.c 5 (drop_cons hd1).1 rfl) (ow (d_spec_IsCond_good h644) (ow (h645) (ow (h645) (ow (h645) (ow (h645) (ow (h645) (ow (show (true) = true from rfl) ow0))))))))) rfl
    · rcases den_if h with ⟨h646, h⟩ | ⟨h646, h⟩
      · rcases den_if h with ⟨h647, h⟩ | ⟨h647, h⟩
        · have h := den_some h
          subst h
          exact AW_go (n := 2000) [[none]] [.b true, .row (Cond.c x1_), .d (D.bool (y643)), .b false, .b false, .b false, .b true, .b true, .b true, .b false, .b true, .b false, .b true] (.ret (D.bool (false))) hΓ mix (by kernel_rfl) (ow ((ltm_true Cond.c (drop_cons hd1).2.1)) (ow (map_row Cond.c 5 (drop_cons hd1).1 rfl) (ow (d_spec_IsCond_good h644) (ow (h645) (ow (h645) (ow (h645) (ow (h646) (ow (h646) (ow (h646) (ow (h645) (ow (h646) (ow (h645) (ow (h647) ow0))))))))))))) rfl
        · obtain ⟨y648, h649, h⟩ := den_bind h
          obtain ⟨y650, h651, h⟩ := den_bind h
          obtain ⟨h722, h⟩ := den_ok h
          refine AW_go (n := 2000) [[none]] [.b true, .row (Cond.c x1_), .d (D.bool (y643)), .b false, .b false, .b false, .b true, .b true, .b true, .b false, .b true, .b false, .b false, .d (D.fr 9 1 ((y648).map tx)), .d (D.fr 9 1 ((y650).map tx)), .cn [1, 3, 4, 5, 6, 7, 8] [0, 1, 2, 3, 4]] (.lp (dig (bodyOf Try.f60) [1, 1, 1, 0, 1, 0, 0, 1, 0, 0, 1, 1, 1, 1, 1, 0, 0] []).1 (dig (bodyOf Try.f60) [1, 1, 1, 0, 1, 0, 0, 1, 0, 0, 1, 1, 1, 1, 1, 0] []).2 ⟨[(1, D.ptr 0 0), (3, D.acc 1), (4, D.int .i64 ((i1 : Int))), (5, D.ptr 2 0), (6, D.acc 3), (7, D.acc 4), (8, D.int .i64 (0))], [Ob.box (Rule.c a0_), Ob.row .uq 9 1 ((y13).map tx), Ob.box [D.int .i64 (x1_.kind), D.str (x1_.pat.rel), D.sl ((x1_.pat.args).map tx), D.str (x1_.left), D.str (x1_.right)], Ob.row .uq 9 1 ((y648).map tx), Ob.row .uq 9 1 ((y650).map tx)]⟩) hΓ mix (by kernel_rfl) (ow ((ltm_true Cond.c (drop_cons hd1).2.1)) (ow (map_row Cond.c 5 (drop_cons hd1).1 rfl) (ow (d_spec_IsCond_good h644) (ow (h645) (ow (h645) (ow (h645) (ow (h646) (ow (h646) (ow (h646) (ow (h645) (ow (h646) (ow (h645) (ow (h647) (ow (d_spec_BoundVars_good h649) (ow (d_spec_CondVars_good h651) ow0))))))))))))))) (AW_st (by first | rfl | (simp only [List.map_append, List.map_cons, List.map_nil, List.map_set, List.map_replicate] <;> rfl)) (AW_of_r (d_spec_IsRule_L2w hΓ (fun h => ?_) (of_decide_eq_true h722) (y650) 0  rfl h)))
          have t := ih1 (i1 + 1)  (drop_cons hd1).2.2 h
          refine AW_go (n := 2000) [[none]] [.cn [1, 3, 4] [0, 1]] (.cont 0 ⟨[(1, D.ptr 0 0), (3, D.acc 1), (4, D.int .i64 (IntKind.i64.wrap (((i1 : Int)) + (1))))], [Ob.box (Rule.c a0_), Ob.row .uq 9 1 ((y13).map tx)]⟩) hΓ mix (by kernel_rfl) ow0 ?_
          refine (congrFun hS1 _).mpr ?_
          rw [i64_succ (drop_cons hd1).2.1 hm1]
          first | exact t | (simp only [List.map_append, List.map_cons, List.map_nil, List.map_set] at t ⊢; exact t)
      · obtain ⟨y723, h724, h⟩ := den_bind h
        obtain ⟨y725, h726, h⟩ := den_bind h
        obtain ⟨h797, h⟩ := den_ok h
        refine AW_go (n := 2000) [[none]] [.b true, .row (Cond.c x1_), .d (D.bool (y643)), .b false, .b false, .b false, .b false, .b false, .b false, .b false, .b false, .b false, .b false, .d (D.fr 9 1 ((y723).map tx)), .d (D.fr 9 1 ((y725).map tx)), .cn [1, 3, 4, 5, 6, 7, 8] [0, 1, 2, 3, 4]] (.lp (dig (bodyOf Try.f60) [1, 1, 1, 0, 1, 0, 0, 1, 0, 0, 1, 1, 1, 1, 1, 0, 0] []).1 (dig (bodyOf Try.f60) [1, 1, 1, 0, 1, 0, 0, 1, 0, 0, 1, 1, 1, 1, 1, 0] []).2 ⟨[(1, D.ptr 0 0), (3, D.acc 1), (4, D.int .i64 ((i1 : Int))), (5, D.ptr 2 0), (6, D.acc 3), (7, D.acc 4), (8, D.int .i64 (0))], [Ob.box (Rule.c a0_), Ob.row .uq 9 1 ((y13).map tx), Ob.box [D.int .i64 (x1_.kind), D.str (x1_.pat.rel), D.sl ((x1_.pat.args).map tx), D.str (x1_.left), D.str (x1_.right)], Ob.row .uq 9 1 ((y723).map tx), Ob.row .uq 9 1 ((y725).map tx)]⟩) hΓ mix (by kernel_rfl) (ow ((ltm_true Cond.c (drop_cons hd1).2.1)) (ow (map_row Cond.c 5 (drop_cons hd1).1 rfl) (ow (d_spec_IsCond_good h644) (ow (h645) (ow (h645) (ow (h645) (ow (h646) (ow (h646) (ow (h646) (ow (h645) (ow (h646) (ow (h645) (ow (show (false) = false from rfl) (ow (d_spec_BoundVars_good h724) (ow (d_spec_CondVars_good h726) ow0))))))))))))))) (AW_st (by first | rfl | (simp only [List.map_append, List.map_cons, List.map_nil, List.map_set, List.map_replicate] <;> rfl)) (AW_of_r (d_spec_IsRule_L3w hΓ (fun h => ?_) (of_decide_eq_true h797) (y725) 0  rfl h)))
        have t := ih1 (i1 + 1)  (drop_cons hd1).2.2 h
        refine AW_go (n := 2000) [[none]] [.cn [1, 3, 4] [0, 1]] (.cont 0 ⟨[(1, D.ptr 0 0), (3, D.acc 1), (4, D.int .i64 (IntKind.i64.wrap (((i1 : Int)) + (1))))], [Ob.box (Rule.c a0_), Ob.row .uq 9 1 ((y13).map tx)]⟩) hΓ mix (by kernel_rfl) ow0 ?_
        refine (congrFun hS1 _).mpr ?_
        rw [i64_succ (drop_cons hd1).2.1 hm1]
        first | exact t | (simp only [List.map_append, List.map_cons, List.map_nil, List.map_set] at t ⊢; exact t)
theorem d_spec_IsRule_L5w {Γ : Ctx} (hΓ : Γ.nt = 145) {N : Nat → St → Prop} {a0_ : Rule} {y13 : List Bytes} {i4 : Nat} {y929 : List Bytes} {r : Bool} {k5 : Option Bool} (hE5 : k5 = some r → AW Try.prog Γ (dig (bodyOf Try.f60) [1, 1, 1, 1, 0, 1, 0, 0, 1, 1] []).1 (KQ Try.prog Γ N (RetQ Try.prog Try.f60 (D.bool (r))) (dig (bodyOf Try.f60) [1, 1, 1, 1, 0, 1, 0, 0, 1, 1] []).2) ⟨[(1, D.ptr 0 0), (3, D.acc 1), (10, D.int .i64 ((i4 : Int)))], [Ob.box (Rule.c a0_), Ob.row .uq 9 1 ((y13).map tx)]⟩) (hm5 : (y929).length ≤ maxLen) : ∀ (rest : List Bytes) (i5 : Nat) , (y929).drop i5 = rest → d_spec_IsRule_L5 a0_ y13 i4 y929 k5 rest i5  = some r → AWr Try.prog Γ (dig (bodyOf Try.f60) [1, 1, 1, 1, 0, 1, 0, 0, 1, 0, 0, 1, 1, 1, 0, 0] []).1 (KQ Try.prog Γ N (RetQ Try.prog Try.f60 (D.bool (r))) (dig (bodyOf Try.f60) [1, 1, 1, 1, 0, 1, 0, 0, 1, 0, 0, 1, 1, 1, 0] []).2) (rest.length + 1) ⟨[(1, D.ptr 0 0), (3, D.acc 1), (10, D.int .i64 ((i4 : Int))), (11, D.acc 2), (12, D.int .i64 ((i5 : Int)))], [Ob.box (Rule.c a0_), Ob.row .uq 9 1 ((y13).map tx), Ob.row .uq 9 1 ((y929).map tx)]⟩ := by
  intro rest
  induction rest with
  | nil =>
    intro i5  hd5 h
    rw [d_spec_IsRule_L5] at h
    refine AWr_succ fun N5 hN5 hS5 => ?_
    have t := AW_N (N := N) (N' := N5) (K0 := (dig (bodyOf Try.f60) [1, 1, 1, 1, 0, 1, 0, 0, 1, 0, 0, 1, 1, 1, 0] []).2) (by kernel_rfl) hN5 (hE5  h)
    refine AW_go (n := 2000) [[none]] [.b false, .hl 3 [1, 3, 10] [0, 1]] (.at_ (dig (bodyOf Try.f60) [1, 1, 1, 1, 0, 1, 0, 0, 1, 1] []).1 (dig (bodyOf Try.f60) [1, 1, 1, 1, 0, 1, 0, 0, 1, 1] []).2 ⟨[(1, D.ptr 0 0), (3, D.acc 1), (10, D.int .i64 ((i4 : Int)))], [Ob.box (Rule.c a0_), Ob.row .uq 9 1 ((y13).map tx)]⟩) hΓ mix (by kernel_rfl) (ow ((ltm_false tx (drop_nil hd5))) ow0) ?_
    first | exact t | (simp only [List.map_append, List.map_cons, List.map_nil, List.map_set] at t ⊢; exact t)
  | cons x5_ xs5 ih5 =>
    intro i5  hd5 h
    rw [d_spec_IsRule_L5] at h
    refine AWr_succ fun N5 hN5 hS5 => ?_
    obtain ⟨y952, h953, h⟩ := den_bind h
    rcases den_if h with ⟨h954, h⟩ | ⟨h954, h⟩
    · have h := den_some h
      subst h
      exact AW_go (n := 2000) [[none]] [.b true, .ix i5, .row [D.str (x5_)], .d (D.bool (y952)), .b true] (.ret (D.bool (false))) hΓ mix (by kernel_rfl) (ow ((ltm_true tx (drop_cons hd5).2.1)) (ow (own_ixl tx 1 (drop_cons hd5).1) (ow (show 1 = 1 ∧ RK.opn .uq = true ∧ ((y929).map tx)[i5]? = some [D.str (x5_)] ∧ 1 ≤ 1 from ⟨rfl, rfl, map_get tx (drop_cons hd5).1, by omega⟩) (ow (d_spec_l1HasText_good h953) (ow (h954) ow0))))) rfl
    · have t := ih5 (i5 + 1)  (drop_cons hd5).2.2 h
      refine AW_go (n := 2000) [[none]] [.b true, .ix i5, .row [D.str (x5_)], .d (D.bool (y952)), .b false, .cn [1, 3, 10, 11, 12] [0, 1, 2]] (.cont 1 ⟨[(1, D.ptr 0 0), (3, D.acc 1), (10, D.int .i64 ((i4 : Int))), (11, D.acc 2), (12, D.int .i64 (IntKind.i64.wrap (((i5 : Int)) + (1))))], [Ob.box (Rule.c a0_), Ob.row .uq 9 1 ((y13).map tx), Ob.row .uq 9 1 ((y929).map tx)]⟩) hΓ mix (by kernel_rfl) (ow ((ltm_true tx (drop_cons hd5).2.1)) (ow (own_ixl tx 1 (drop_cons hd5).1) (ow (show 1 = 1 ∧ RK.opn .uq = true ∧ ((y929).map tx)[i5]? = some [D.str (x5_)] ∧ 1 ≤ 1 from ⟨rfl, rfl, map_get tx (drop_cons hd5).1, by omega⟩) (ow (d_spec_l1HasText_good h953) (ow (h954) ow0))))) ?_
      refine (congrFun hS5 _).mpr ?_
      rw [i64_succ (drop_cons hd5).2.1 hm5]
      first | exact t | (simp only [List.map_append, List.map_cons, List.map_nil, List.map_set] at t ⊢; exact t)
theorem d_spec_IsRule_L4w {Γ : Ctx} (hΓ : Γ.nt = 145) {N : Nat → St → Prop} {a0_ : Rule} {y13 : List Bytes} {r : Bool} {k4 : Option Bool} (hE4 : k4 = some r → AW Try.prog Γ (dig (bodyOf Try.f60) [1, 1, 1, 1, 1] []).1 (KQ Try.prog Γ N (RetQ Try.prog Try.f60 (D.bool (r))) (dig (bodyOf Try.f60) [1, 1, 1, 1, 1] []).2) ⟨[(1, D.ptr 0 0)], [Ob.box (Rule.c a0_)]⟩) (hm4 : (a0_.acts).length ≤ maxLen) : ∀ (rest : List Action) (i4 : Nat) , (a0_.acts).drop i4 = rest → d_spec_IsRule_L4 a0_ y13 k4 rest i4  = some r → AWr Try.prog Γ (dig (bodyOf Try.f60) [1, 1, 1, 1, 0, 1, 0, 0] []).1 (KQ Try.prog Γ N (RetQ Try.prog Try.f60 (D.bool (r))) (dig (bodyOf Try.f60) [1, 1, 1, 1, 0, 1, 0] []).2) (rest.length + 1) ⟨[(1, D.ptr 0 0), (3, D.acc 1), (10, D.int .i64 ((i4 : Int)))], [Ob.box (Rule.c a0_), Ob.row .uq 9 1 ((y13).map tx)]⟩ := by
  intro rest
  induction rest with
  | nil =>
    intro i4  hd4 h
    rw [d_spec_IsRule_L4] at h
    refine AWr_succ fun N4 hN4 hS4 => ?_
    have t := AW_N (N := N) (N' := N4) (K0 := (dig (bodyOf Try.f60) [1, 1, 1, 1, 0, 1, 0] []).2) (by kernel_rfl) hN4 (hE4  h)
    refine AW_go (n := 2000) [[none]] [.b false, .hl 0 [1] [0]] (.at_ (dig (bodyOf Try.f60) [1, 1, 1, 1, 1] []).1 (dig (bodyOf Try.f60) [1, 1, 1, 1, 1] []).2 ⟨[(1, D.ptr 0 0)], [Ob.box (Rule.c a0_)]⟩) hΓ mix (by kernel_rfl) (ow ((ltm_false Action.c (drop_nil hd4))) ow0) ?_
    first | exact t | (simp only [List.map_append, List.map_cons, List.map_nil, List.map_set] at t ⊢; exact t)
  | cons x4_ xs4 ih4 =>
    intro i4  hd4 h
    rw [d_spec_IsRule_L4] at h
    refine AWr_succ fun N4 hN4 hS4 => ?_
    obtain ⟨y926, h927, h⟩ := den_bind h
    rcases den_if h with ⟨h928, h⟩ | ⟨h928, h⟩
    · have h := den_some h
      subst h
      exact AW_go (n := 2000) [[none]] [.b true, .row (Action.c x4_), .d (D.bool (y926)), .b true] (.ret (D.bool (false))) hΓ mix (by kernel_rfl) (ow ((ltm_true Action.c (drop_cons hd4).2.1)) (ow (map_row Action.c 3 (drop_cons hd4).1 rfl) (ow (d_spec_IsAction_good h927) (ow (h928) ow0)))) rfl
    · obtain ⟨y929, h930, h⟩ := den_bind h
      obtain ⟨h955, h⟩ := den_ok h
      refine AW_go (n := 2000) [[none]] [.b true, .row (Action.c x4_), .d (D.bool (y926)), .b false, .row (Action.c x4_), .d (D.fr 9 1 ((y929).map tx)), .cn [1, 3, 10, 11, 12] [0, 1, 2]] (.lp (dig (bodyOf Try.f60) [1, 1, 1, 1, 0, 1, 0, 0, 1, 0, 0, 1, 1, 1, 0, 0] []).1 (dig (bodyOf Try.f60) [1, 1, 1, 1, 0, 1, 0, 0, 1, 0, 0, 1, 1, 1, 0] []).2 ⟨[(1, D.ptr 0 0), (3, D.acc 1), (10, D.int .i64 ((i4 : Int))), (11, D.acc 2), (12, D.int .i64 (0))], [Ob.box (Rule.c a0_), Ob.row .uq 9 1 ((y13).map tx), Ob.row .uq 9 1 ((y929).map tx)]⟩) hΓ mix (by kernel_rfl) (ow ((ltm_true Action.c (drop_cons hd4).2.1)) (ow (map_row Action.c 3 (drop_cons hd4).1 rfl) (ow (d_spec_IsAction_good h927) (ow (h928) (ow (map_row Action.c 3 (drop_cons hd4).1 rfl) (ow (d_spec_VarsOf_good h930) ow0)))))) (AW_st (by first | rfl | (simp only [List.map_append, List.map_cons, List.map_nil, List.map_set, List.map_replicate] <;> rfl)) (AW_of_r (d_spec_IsRule_L5w hΓ (fun h => ?_) (of_decide_eq_true h955) (y929) 0  rfl h)))
      have t := ih4 (i4 + 1)  (drop_cons hd4).2.2 h
      refine AW_go (n := 2000) [[none]] [.cn [1, 3, 10] [0, 1]] (.cont 0 ⟨[(1, D.ptr 0 0), (3, D.acc 1), (10, D.int .i64 (IntKind.i64.wrap (((i4 : Int)) + (1))))], [Ob.box (Rule.c a0_), Ob.row .uq 9 1 ((y13).map tx)]⟩) hΓ mix (by kernel_rfl) ow0 ?_
      refine (congrFun hS4 _).mpr ?_
      rw [i64_succ (drop_cons hd4).2.1 hm4]
      first | exact t | (simp only [List.map_append, List.map_cons, List.map_nil, List.map_set] at t ⊢; exact t)
theorem d_spec_IsRule_good {a0_ : Rule} {r : Bool} (h : d_spec_IsRule a0_ = some r) : Good Try.prog 60 [D.agg (Rule.c a0_)] (D.bool (r)) := by
  refine Good.of (c := bodyOf Try.f60) Try.func60 rfl (by decide) (by simp [Try.f60]) ?_
  intro hr Γ hΓ
  have hΓ : Γ.nt = 145 := hΓ
  rw [d_spec_IsRule] at h
  refine (show AW Try.prog Γ (bodyOf Try.f60) (KQ Try.prog Γ (fun _ _ => False) (RetQ Try.prog Try.f60 (D.bool (r))) []) _ from ?_)
  obtain ⟨y1, h2, h⟩ := den_bind h
  rcases den_if h with ⟨h3, h⟩ | ⟨h3, h⟩
  · have h := den_some h
    subst h
    exact AW_go (n := 2000) [[none]] [.d (D.bool (y1)), .b true, .b true, .b true, .b true, .b true, .b true, .b true, .b true, .b true, .b true, .b true, .b true, .b true, .b true, .b true, .b true, .b true, .b true] (.ret (D.bool (false))) hΓ mix (by kernel_rfl) (ow (d_spec_IsName_good h2) (ow (h3) (ow (h3) (ow (h3) (ow (h3) (ow (h3) (ow (show (true) = true from rfl) (ow (show (true) = true from rfl) (ow (show (true) = true from rfl) (ow (show (true) = true from rfl) (ow (show (true) = true from rfl) (ow (show (true) = true from rfl) (ow (show (true) = true from rfl) (ow (show (true) = true from rfl) (ow (show (true) = true from rfl) (ow (show (true) = true from rfl) (ow (show (true) = true from rfl) (ow (show (true) = true from rfl) (ow (show (true) = true from rfl) ow0))))))))))))))))))) rfl
  · obtain ⟨y4, h5, h⟩ := den_bind h
    rcases den_if h with ⟨h6, h⟩ | ⟨h6, h⟩
    · have h := den_some h
      subst h
      exact AW_go (n := 2000) [[none]] [.d (D.bool (y1)), .b false, .b false, .b false, .d (D.bool (y4)), .b false, .b false, .b true, .b true, .b true, .b true, .b true, .b true, .b true, .b true, .b true, .b true, .b true, .b true, .b true] (.ret (D.bool (false))) hΓ mix (by kernel_rfl) (ow (d_spec_IsName_good h2) (ow (h3) (ow (h3) (ow (h3) (ow (d_spec_l1In_good h5) (ow (h3) (ow (h3) (ow (h6) (ow (h6) (ow (h6) (ow (h6) (ow (h6) (ow (h6) (ow (show (true) = true from rfl) (ow (show (true) = true from rfl) (ow (show (true) = true from rfl) (ow (show (true) = true from rfl) (ow (show (true) = true from rfl) (ow (show (true) = true from rfl) (ow (show (true) = true from rfl) ow0)))))))))))))))))))) rfl
    · obtain ⟨y7, h8, h⟩ := den_bind h
      rcases den_if h with ⟨h9, h⟩ | ⟨h9, h⟩
      · have h := den_some h
        subst h
        exact AW_go (n := 2000) [[none]] [.d (D.bool (y1)), .b false, .b false, .b false, .d (D.bool (y4)), .b false, .b false, .b false, .b false, .b false, .b false, .d (D.bool (y7)), .b false, .b false, .b true, .b true, .b true, .b true, .b true, .b true, .b true] (.ret (D.bool (false))) hΓ mix (by kernel_rfl) (ow (d_spec_IsName_good h2) (ow (h3) (ow (h3) (ow (h3) (ow (d_spec_l1In_good h5) (ow (h3) (ow (h3) (ow (h6) (ow (h6) (ow (h6) (ow (h6) (ow (d_spec_l1In_good h8) (ow (h6) (ow (h6) (ow (h9) (ow (h9) (ow (h9) (ow (h9) (ow (h9) (ow (h9) (ow (show (true) = true from rfl) ow0))))))))))))))))))))) rfl
      · obtain ⟨y10, h11, h⟩ := den_bind h
        rcases den_if h with ⟨h12, h⟩ | ⟨h12, h⟩
        · have h := den_some h
          subst h
          exact AW_go (n := 2000) [[none]] [.d (D.bool (y1)), .b false, .b false, .b false, .d (D.bool (y4)), .b false, .b false, .b false, .b false, .b false, .b false, .d (D.bool (y7)), .b false, .b false, .b false, .b false, .b false, .b false, .d (D.bool (y10)), .b false, .b false, .b true] (.ret (D.bool (false))) hΓ mix (by kernel_rfl) (ow (d_spec_IsName_good h2) (ow (h3) (ow (h3) (ow (h3) (ow (d_spec_l1In_good h5) (ow (h3) (ow (h3) (ow (h6) (ow (h6) (ow (h6) (ow (h6) (ow (d_spec_l1In_good h8) (ow (h6) (ow (h6) (ow (h9) (ow (h9) (ow (h9) (ow (h9) (ow (d_spec_l1In_good h11) (ow (h9) (ow (h9) (ow (h12) ow0)))))))))))))))))))))) rfl
        · obtain ⟨y13, h14, h⟩ := den_bind h
          refine AW_go (n := 2000) [[none]] [.d (D.bool (y1)), .b false, .b false, .b false, .d (D.bool (y4)), .b false, .b false, .b false, .b false, .b false, .b false, .d (D.bool (y7)), .b false, .b false, .b false, .b false, .b false, .b false, .d (D.bool (y10)), .b false, .b false, .b false, .d (D.fr 9 1 ((y13).map tx)), .cn [1, 3, 4] [0, 1]] (.lp (dig (bodyOf Try.f60) [1, 1, 1, 0, 1, 0, 0] []).1 (dig (bodyOf Try.f60) [1, 1, 1, 0, 1, 0] []).2 ⟨[(1, D.ptr 0 0), (3, D.acc 1), (4, D.int .i64 (0))], [Ob.box (Rule.c a0_), Ob.row .uq 9 1 ((y13).map tx)]⟩) hΓ mix (by kernel_rfl) (ow (d_spec_IsName_good h2) (ow (h3) (ow (h3) (ow (h3) (ow (d_spec_l1In_good h5) (ow (h3) (ow (h3) (ow (h6) (ow (h6) (ow (h6) (ow (h6) (ow (d_spec_l1In_good h8) (ow (h6) (ow (h6) (ow (h9) (ow (h9) (ow (h9) (ow (h9) (ow (d_spec_l1In_good h11) (ow (h9) (ow (h9) (ow (h12) (ow (d_spec_BoundVars_good h14) ow0))))))))))))))))))))))) (AW_st (by first | rfl | (simp only [List.map_append, List.map_cons, List.map_nil, List.map_set, List.map_replicate] <;> rfl)) (AW_of_r (d_spec_IsRule_L1w hΓ (fun h => ?_) (by have := (Rdb.sl (Rdb.agg (hr _ (List.mem_of_getElem? (i := 0) rfl)) (.sl ((a0_.conds).map Cond.c)) (by simp))).1; simpa using this) (a0_.conds) 0  rfl h)))
          refine AW_go (n := 2000) [[none]] [.cn [1, 3, 10] [0, 1]] (.lp (dig (bodyOf Try.f60) [1, 1, 1, 1, 0, 1, 0, 0] []).1 (dig (bodyOf Try.f60) [1, 1, 1, 1, 0, 1, 0] []).2 ⟨[(1, D.ptr 0 0), (3, D.acc 1), (10, D.int .i64 (0))], [Ob.box (Rule.c a0_), Ob.row .uq 9 1 ((y13).map tx)]⟩) hΓ mix (by kernel_rfl) ow0 (AW_st (by first | rfl | (simp only [List.map_append, List.map_cons, List.map_nil, List.map_set, List.map_replicate] <;> rfl)) (AW_of_r (d_spec_IsRule_L4w hΓ (fun h => ?_) (by have := (Rdb.sl (Rdb.agg (hr _ (List.mem_of_getElem? (i := 0) rfl)) (.sl ((a0_.acts).map Action.c)) (by simp))).1; simpa using this) (a0_.acts) 0  rfl h)))
          obtain ⟨y956, h957, h⟩ := den_bind h
          have h := den_some h
          subst h
          exact AW_go (n := 2000) [[none]] [.d (D.fr 9 1 ((y956).map tx))] (.ret (D.bool (decide (((((y956).map tx).length : Int) : Int) ≤ (6))))) hΓ mix (by kernel_rfl) (ow (d_spec_RuleVars_good h957) ow0) rfl
def d_impl_IsName (a0_ : Bytes) : Option Bool := ((d_impl_IsAtom (a0_)).bind fun y1 => (bif y1 then ((atI (a0_) (0)).bind fun b4 => (some (decide ((b4.toNat : Int) ≥ (97))))) else (some (false))))
theorem d_impl_IsName_good {a0_ : Bytes} {r : Bool} (h : d_impl_IsName a0_ = some r) : Good Try.prog 125 [D.str (a0_)] (D.bool (r)) := by
  refine Good.of (c := bodyOf Try.f125) Try.func125 rfl (by decide) (by simp [Try.f125]) ?_
  intro hr Γ hΓ
  have hΓ : Γ.nt = 10 := hΓ
  rw [d_impl_IsName] at h
  refine (show AW Try.prog Γ (bodyOf Try.f125) (KQ Try.prog Γ (fun _ _ => False) (RetQ Try.prog Try.f125 (D.bool (r))) []) _ from ?_)
  obtain ⟨y1, h2, h⟩ := den_bind h
  rcases den_if h with ⟨h3, h⟩ | ⟨h3, h⟩
  · obtain ⟨b4, h5, h⟩ := den_bind h
    have h := den_some h
    subst h
    exact AW_go (n := 2000) [[none]] [.d (D.bool (y1)), .b true, .b true, .ch b4, .b true, .b true] (.ret (D.bool (decide ((b4.toNat : Int) ≥ (97))))) hΓ mix (by kernel_rfl) (ow (d_impl_IsAtom_good h2) (ow (h3) (ow (h3) (ow (at_str h5) (ow (h3) (ow (h3) ow0)))))) rfl
  · have h := den_some h
    subst h
    exact AW_go (n := 2000) [[none]] [.d (D.bool (y1)), .b false, .b false, .b false, .b false] (.ret (D.bool (false))) hΓ mix (by kernel_rfl) (ow (d_impl_IsAtom_good h2) (ow (h3) (ow (h3) (ow (h3) (ow (h3) ow0))))) rfl
def d_impl_IsTerm (a0_ : Bytes) : Option Bool := ((d_impl_IsAtom (a0_)).bind fun y1 => (bif y1 then (some (true)) else ((d_impl_IsVar (a0_)).bind fun y4 => (some (y4)))))
theorem d_impl_IsTerm_good {a0_ : Bytes} {r : Bool} (h : d_impl_IsTerm a0_ = some r) : Good Try.prog 171 [D.str (a0_)] (D.bool (r)) := by
  refine Good.of (c := bodyOf Try.f171) Try.func171 rfl (by decide) (by simp [Try.f171]) ?_
  intro hr Γ hΓ
  have hΓ : Γ.nt = 9 := hΓ
  rw [d_impl_IsTerm] at h
  refine (show AW Try.prog Γ (bodyOf Try.f171) (KQ Try.prog Γ (fun _ _ => False) (RetQ Try.prog Try.f171 (D.bool (r))) []) _ from ?_)
  obtain ⟨y1, h2, h⟩ := den_bind h
  rcases den_if h with ⟨h3, h⟩ | ⟨h3, h⟩
  · have h := den_some h
    subst h
    exact AW_go (n := 2000) [[none]] [.d (D.bool (y1)), .b true, .b true, .b true] (.ret (D.bool (true))) hΓ mix (by kernel_rfl) (ow (d_impl_IsAtom_good h2) (ow (h3) (ow (h3) (ow (h3) ow0)))) rfl
  · obtain ⟨y4, h5, h⟩ := den_bind h
    have h := den_some h
    subst h
    exact AW_go (n := 2000) [[none]] [.d (D.bool (y1)), .b false, .b false, .d (D.bool (y4)), .b false] (.ret (D.bool (y4))) hΓ mix (by kernel_rfl) (ow (d_impl_IsAtom_good h2) (ow (h3) (ow (h3) (ow (d_impl_IsVar_good h5) (ow (h3) ow0))))) rfl
def d_impl_IsPattern_L1 (a0_ : Fact) (k1 : Option Bool) : List Bytes → Nat → Option Bool
  | [], i1 => (k1 )
  | x1_ :: xs1, i1 => ((d_impl_IsTerm (x1_)).bind fun y25 => (bif !(y25) then (some (false)) else (d_impl_IsPattern_L1 a0_ k1 xs1 (i1 + 1) )))
def d_impl_IsPattern (a0_ : Fact) : Option Bool := ((d_impl_IsName (a0_.rel)).bind fun y1 => (bif !(y1) then (some (false)) else (bif decide (((((a0_.args).map tx).length : Int) : Int) > (3)) then (some (false)) else (d_impl_IsPattern_L1 a0_ (some (true)) (a0_.args) 0 ))))
theorem d_impl_IsPattern_L1w {Γ : Ctx} (hΓ : Γ.nt = 26) {N : Nat → St → Prop} {a0_ : Fact} {r : Bool} {k1 : Option Bool} (hE1 : k1 = some r → AW Try.prog Γ (dig (bodyOf Try.f170) [1, 1, 1] []).1 (KQ Try.prog Γ N (RetQ Try.prog Try.f170 (D.bool (r))) (dig (bodyOf Try.f170) [1, 1, 1] []).2) ⟨[], []⟩) (hm1 : (a0_.args).length ≤ maxLen) : ∀ (rest : List Bytes) (i1 : Nat) , (a0_.args).drop i1 = rest → d_impl_IsPattern_L1 a0_ k1 rest i1  = some r → AWr Try.prog Γ (dig (bodyOf Try.f170) [1, 1, 0, 1, 0, 0] []).1 (KQ Try.prog Γ N (RetQ Try.prog Try.f170 (D.bool (r))) (dig (bodyOf Try.f170) [1, 1, 0, 1, 0] []).2) (rest.length + 1) ⟨[(16, D.sl ((a0_.args).map tx)), (17, D.int .i64 ((((a0_.args).map tx).length : Int))), (18, D.int .i64 ((i1 : Int)))], []⟩ := by
  intro rest
  induction rest with
  | nil =>
    intro i1  hd1 h
    rw [d_impl_IsPattern_L1] at h
    refine AWr_succ fun N1 hN1 hS1 => ?_
    have t := AW_N (N := N) (N' := N1) (K0 := (dig (bodyOf Try.f170) [1, 1, 0, 1, 0] []).2) (by kernel_rfl) hN1 (hE1  h)
    refine AW_go (n := 2000) [[none]] [.b false, .hl 0 [] []] (.at_ (dig (bodyOf Try.f170) [1, 1, 1] []).1 (dig (bodyOf Try.f170) [1, 1, 1] []).2 ⟨[], []⟩) hΓ mix (by kernel_rfl) (ow ((ltm_false tx (drop_nil hd1))) ow0) ?_
    first | exact t | (simp only [List.map_append, List.map_cons, List.map_nil, List.map_set] at t ⊢; exact t)
  | cons x1_ xs1 ih1 =>
    intro i1  hd1 h
    rw [d_impl_IsPattern_L1] at h
    refine AWr_succ fun N1 hN1 hS1 => ?_
    obtain ⟨y25, h26, h⟩ := den_bind h
    rcases den_if h with ⟨h27, h⟩ | ⟨h27, h⟩
    · have h := den_some h
      subst h
      exact AW_go (n := 2000) [[none]] [.b true, .row (tx x1_), .d (D.bool (y25)), .b true] (.ret (D.bool (false))) hΓ mix (by kernel_rfl) (ow ((ltm_true tx (drop_cons hd1).2.1)) (ow (map_row tx 1 (drop_cons hd1).1 rfl) (ow (d_impl_IsTerm_good h26) (ow (h27) ow0)))) rfl
    · have t := ih1 (i1 + 1)  (drop_cons hd1).2.2 h
      refine AW_go (n := 2000) [[none]] [.b true, .row (tx x1_), .d (D.bool (y25)), .b false, .cn [16, 17, 18] []] (.cont 0 ⟨[(16, D.sl ((a0_.args).map tx)), (17, D.int .i64 ((((a0_.args).map tx).length : Int))), (18, D.int .i64 (IntKind.i64.wrap (((i1 : Int)) + (1))))], []⟩) hΓ mix (by kernel_rfl) (ow ((ltm_true tx (drop_cons hd1).2.1)) (ow (map_row tx 1 (drop_cons hd1).1 rfl) (ow (d_impl_IsTerm_good h26) (ow (h27) ow0)))) ?_
      refine (congrFun hS1 _).mpr ?_
      rw [i64_succ (drop_cons hd1).2.1 hm1]
      first | exact t | (simp only [List.map_append, List.map_cons, List.map_nil, List.map_set] at t ⊢; exact t)
theorem d_impl_IsPattern_good {a0_ : Fact} {r : Bool} (h : d_impl_IsPattern a0_ = some r) : Good Try.prog 170 [D.agg (Fact.c a0_)] (D.bool (r)) := by
  refine Good.of (c := bodyOf Try.f170) Try.func170 rfl (by decide) (by simp [Try.f170]) ?_
  intro hr Γ hΓ
  have hΓ : Γ.nt = 26 := hΓ
  rw [d_impl_IsPattern] at h
  refine (show AW Try.prog Γ (bodyOf Try.f170) (KQ Try.prog Γ (fun _ _ => False) (RetQ Try.prog Try.f170 (D.bool (r))) []) _ from ?_)
  obtain ⟨y1, h2, h⟩ := den_bind h
  rcases den_if h with ⟨h3, h⟩ | ⟨h3, h⟩
  · have h := den_some h
    subst h
    exact AW_go (n := 2000) [[none]] [.d (D.bool (y1)), .b true, .b true, .b true, .b true, .b true, .b true] (.ret (D.bool (false))) hΓ mix (by kernel_rfl) (ow (d_impl_IsName_good h2) (ow (h3) (ow (h3) (ow (h3) (ow (h3) (ow (h3) (ow (show (true) = true from rfl) ow0))))))) rfl
  · rcases den_if h with ⟨h4, h⟩ | ⟨h4, h⟩
    · have h := den_some h
      subst h
      exact AW_go (n := 2000) [[none]] [.d (D.bool (y1)), .b false, .b false, .b false, .b false, .b false, .b true] (.ret (D.bool (false))) hΓ mix (by kernel_rfl) (ow (d_impl_IsName_good h2) (ow (h3) (ow (h3) (ow (h3) (ow (h3) (ow (h3) (ow (h4) ow0))))))) rfl
    · refine AW_go (n := 2000) [[none]] [.d (D.bool (y1)), .b false, .b false, .b false, .b false, .b false, .b false, .cn [16, 17, 18] []] (.lp (dig (bodyOf Try.f170) [1, 1, 0, 1, 0, 0] []).1 (dig (bodyOf Try.f170) [1, 1, 0, 1, 0] []).2 ⟨[(16, D.sl ((a0_.args).map tx)), (17, D.int .i64 ((((a0_.args).map tx).length : Int))), (18, D.int .i64 (0))], []⟩) hΓ mix (by kernel_rfl) (ow (d_impl_IsName_good h2) (ow (h3) (ow (h3) (ow (h3) (ow (h3) (ow (h3) (ow (h4) ow0))))))) (AW_st (by first | rfl | (simp only [List.map_append, List.map_cons, List.map_nil, List.map_set, List.map_replicate] <;> rfl)) (AW_of_r (d_impl_IsPattern_L1w hΓ (fun h => ?_) (by have := (Rdb.sl (Rdb.agg (hr _ (List.mem_of_getElem? (i := 0) rfl)) (.sl ((a0_.args).map tx)) (by simp))).1; simpa using this) (a0_.args) 0  rfl h)))
      have h := den_some h
      subst h
      exact AW_go (n := 2000) [[none]] [] (.ret (D.bool (true))) hΓ mix (by kernel_rfl) ow0 rfl
def d_impl_zeroPattern (a0_ : Fact) : Option Bool := (bif (a0_.rel : Bytes) == ([]) then (some (((((a0_.args).map tx).length : Int) : Int) == (0))) else (some (false)))
theorem d_impl_zeroPattern_good {a0_ : Fact} {r : Bool} (h : d_impl_zeroPattern a0_ = some r) : Good Try.prog 172 [D.agg (Fact.c a0_)] (D.bool (r)) := by
  refine Good.of (c := bodyOf Try.f172) Try.func172 rfl (by decide) (by simp [Try.f172]) ?_
  intro hr Γ hΓ
  have hΓ : Γ.nt = 12 := hΓ
  rw [d_impl_zeroPattern] at h
  refine (show AW Try.prog Γ (bodyOf Try.f172) (KQ Try.prog Γ (fun _ _ => False) (RetQ Try.prog Try.f172 (D.bool (r))) []) _ from ?_)
  rcases den_if h with ⟨h1, h⟩ | ⟨h1, h⟩
  · have h := den_some h
    subst h
    exact AW_go (n := 2000) [[none]] [.b true, .b true, .b true, .b true, .b true] (.ret (D.bool (((((a0_.args).map tx).length : Int) : Int) == (0)))) hΓ mix (by kernel_rfl) (ow (h1) (ow (h1) (ow (h1) (ow (h1) (ow (h1) ow0))))) rfl
  · have h := den_some h
    subst h
    exact AW_go (n := 2000) [[none]] [.b false, .b false, .b false, .b false, .b false] (.ret (D.bool (false))) hΓ mix (by kernel_rfl) (ow (h1) (ow (h1) (ow (h1) (ow (h1) (ow (h1) ow0))))) rfl
def d_impl_IsCond (a0_ : Cond) : Option Bool := (bif (a0_.kind : Int) == (1) then ((d_impl_IsPattern (a0_.pat)).bind fun y2 => (bif y2 then (bif (a0_.left : Bytes) == ([]) then (some ((a0_.right : Bytes) == ([]))) else (some (false))) else (some (false)))) else (bif (a0_.kind : Int) == (2) then ((d_impl_IsPattern (a0_.pat)).bind fun y7 => (bif y7 then (bif (a0_.left : Bytes) == ([]) then (some ((a0_.right : Bytes) == ([]))) else (some (false))) else (some (false)))) else (bif (a0_.kind : Int) == (3) then ((d_impl_IsTerm (a0_.left)).bind fun y12 => (bif y12 then ((d_impl_IsTerm (a0_.right)).bind fun y15 => (bif y15 then ((d_impl_zeroPattern (a0_.pat)).bind fun y18 => (some (y18))) else (some (false)))) else (some (false)))) else (bif (a0_.kind : Int) == (4) then ((d_impl_IsTerm (a0_.left)).bind fun y21 => (bif y21 then ((d_impl_IsTerm (a0_.right)).bind fun y24 => (bif y24 then ((d_impl_zeroPattern (a0_.pat)).bind fun y27 => (some (y27))) else (some (false)))) else (some (false)))) else (bif (a0_.kind : Int) == (5) then ((d_impl_IsTerm (a0_.left)).bind fun y30 => (bif y30 then ((d_impl_IsTerm (a0_.right)).bind fun y33 => (bif y33 then ((d_impl_zeroPattern (a0_.pat)).bind fun y36 => (some (y36))) else (some (false)))) else (some (false)))) else (some (false)))))))
theorem d_impl_IsCond_good {a0_ : Cond} {r : Bool} (h : d_impl_IsCond a0_ = some r) : Good Try.prog 126 [D.agg (Cond.c a0_)] (D.bool (r)) := by
  refine Good.of (c := bodyOf Try.f126) Try.func126 rfl (by decide) (by simp [Try.f126]) ?_
  intro hr Γ hΓ
  have hΓ : Γ.nt = 38 := hΓ
  rw [d_impl_IsCond] at h
  refine (show AW Try.prog Γ (bodyOf Try.f126) (KQ Try.prog Γ (fun _ _ => False) (RetQ Try.prog Try.f126 (D.bool (r))) []) _ from ?_)
  rcases den_if h with ⟨h1, h⟩ | ⟨h1, h⟩
  · obtain ⟨y2, h3, h⟩ := den_bind h
    rcases den_if h with ⟨h4, h⟩ | ⟨h4, h⟩
    · rcases den_if h with ⟨h5, h⟩ | ⟨h5, h⟩
      · have h := den_some h
        subst h
        exact AW_go (n := 2000) [[none]] [.b true, .b true, .d (D.bool (y2)), .b true, .b true, .b true, .b true, .b true, .b true, .b true, .b true] (.ret (D.bool ((a0_.right : Bytes) == ([])))) hΓ mix (by kernel_rfl) (ow (h1) (ow (h1) (ow (d_impl_IsPattern_good h3) (ow (h4) (ow (h4) (ow (h4) (ow (h4) (ow (h5) (ow (h5) (ow (h5) (ow (h5) ow0))))))))))) rfl
      · have h := den_some h
        subst h
        exact AW_go (n := 2000) [[none]] [.b true, .b true, .d (D.bool (y2)), .b true, .b true, .b true, .b true, .b false, .b false, .b false, .b false] (.ret (D.bool (false))) hΓ mix (by kernel_rfl) (ow (h1) (ow (h1) (ow (d_impl_IsPattern_good h3) (ow (h4) (ow (h4) (ow (h4) (ow (h4) (ow (h5) (ow (h5) (ow (h5) (ow (h5) ow0))))))))))) rfl
    · have h := den_some h
      subst h
      exact AW_go (n := 2000) [[none]] [.b true, .b true, .d (D.bool (y2)), .b false, .b false, .b false, .b false, .b false, .b false, .b false, .b false] (.ret (D.bool (false))) hΓ mix (by kernel_rfl) (ow (h1) (ow (h1) (ow (d_impl_IsPattern_good h3) (ow (h4) (ow (h4) (ow (h4) (ow (h4) (ow (show (false) = false from rfl) (ow (show (false) = false from rfl) (ow (show (false) = false from rfl) (ow (show (false) = false from rfl) ow0))))))))))) rfl
  · rcases den_if h with ⟨h6, h⟩ | ⟨h6, h⟩
    · obtain ⟨y7, h8, h⟩ := den_bind h
      rcases den_if h with ⟨h9, h⟩ | ⟨h9, h⟩
      · rcases den_if h with ⟨h10, h⟩ | ⟨h10, h⟩
        · have h := den_some h
          subst h
          exact AW_go (n := 2000) [[none]] [.b false, .b true, .d (D.bool (y7)), .b true, .b true, .b true, .b true, .b true, .b true, .b true, .b true] (.ret (D.bool ((a0_.right : Bytes) == ([])))) hΓ mix (by kernel_rfl) (ow (h1) (ow (h6) (ow (d_impl_IsPattern_good h8) (ow (h9) (ow (h9) (ow (h9) (ow (h9) (ow (h10) (ow (h10) (ow (h10) (ow (h10) ow0))))))))))) rfl
        · have h := den_some h
          subst h
          exact AW_go (n := 2000) [[none]] [.b false, .b true, .d (D.bool (y7)), .b true, .b true, .b true, .b true, .b false, .b false, .b false, .b false] (.ret (D.bool (false))) hΓ mix (by kernel_rfl) (ow (h1) (ow (h6) (ow (d_impl_IsPattern_good h8) (ow (h9) (ow (h9) (ow (h9) (ow (h9) (ow (h10) (ow (h10) (ow (h10) (ow (h10) ow0))))))))))) rfl
      · have h := den_some h
        subst h
        exact AW_go (n := 2000) [[none]] [.b false, .b true, .d (D.bool (y7)), .b false, .b false, .b false, .b false, .b false, .b false, .b false, .b false] (.ret (D.bool (false))) hΓ mix (by kernel_rfl) (ow (h1) (ow (h6) (ow (d_impl_IsPattern_good h8) (ow (h9) (ow (h9) (ow (h9) (ow (h9) (ow (show (false) = false from rfl) (ow (show (false) = false from rfl) (ow (show (false) = false from rfl) (ow (show (false) = false from rfl) ow0))))))))))) rfl
    · rcases den_if h with ⟨h11, h⟩ | ⟨h11, h⟩
      · obtain ⟨y12, h13, h⟩ := den_bind h
        rcases den_if h with ⟨h14, h⟩ | ⟨h14, h⟩
        · obtain ⟨y15, h16, h⟩ := den_bind h
          rcases den_if h with ⟨h17, h⟩ | ⟨h17, h⟩
          · obtain ⟨y18, h19, h⟩ := den_bind h
            have h := den_some h
            subst h
            exact AW_go (n := 2000) [[none]] [.b false, .b false, .b true, .b true, .d (D.bool (y12)), .b true, .b true, .b true, .d (D.bool (y15)), .b true, .b true, .b true, .b true, .d (D.bool (y18)), .b true] (.ret (D.bool (y18))) hΓ mix (by kernel_rfl) (ow (h1) (ow (h6) (ow (h11) (ow (h11) (ow (d_impl_IsTerm_good h13) (ow (h14) (ow (h14) (ow (h14) (ow (d_impl_IsTerm_good h16) (ow (h14) (ow (h17) (ow (h17) (ow (h17) (ow (d_impl_zeroPattern_good h19) (ow (h17) ow0))))))))))))))) rfl
          · have h := den_some h
            subst h
            exact AW_go (n := 2000) [[none]] [.b false, .b false, .b true, .b true, .d (D.bool (y12)), .b true, .b true, .b true, .d (D.bool (y15)), .b true, .b false, .b false, .b false, .b false] (.ret (D.bool (false))) hΓ mix (by kernel_rfl) (ow (h1) (ow (h6) (ow (h11) (ow (h11) (ow (d_impl_IsTerm_good h13) (ow (h14) (ow (h14) (ow (h14) (ow (d_impl_IsTerm_good h16) (ow (h14) (ow (h17) (ow (h17) (ow (h17) (ow (h17) ow0)))))))))))))) rfl
        · have h := den_some h
          subst h
          exact AW_go (n := 2000) [[none]] [.b false, .b false, .b true, .b true, .d (D.bool (y12)), .b false, .b false, .b false, .b false, .b false, .b false, .b false, .b false] (.ret (D.bool (false))) hΓ mix (by kernel_rfl) (ow (h1) (ow (h6) (ow (h11) (ow (h11) (ow (d_impl_IsTerm_good h13) (ow (h14) (ow (h14) (ow (h14) (ow (h14) (ow (show (false) = false from rfl) (ow (show (false) = false from rfl) (ow (show (false) = false from rfl) (ow (show (false) = false from rfl) ow0))))))))))))) rfl
      · rcases den_if h with ⟨h20, h⟩ | ⟨h20, h⟩
        · obtain ⟨y21, h22, h⟩ := den_bind h
          rcases den_if h with ⟨h23, h⟩ | ⟨h23, h⟩
          · obtain ⟨y24, h25, h⟩ := den_bind h
            rcases den_if h with ⟨h26, h⟩ | ⟨h26, h⟩
            · obtain ⟨y27, h28, h⟩ := den_bind h
              have h := den_some h
              subst h
              exact AW_go (n := 2000) [[none]] [.b false, .b false, .b false, .b true, .b true, .d (D.bool (y21)), .b true, .b true, .b true, .d (D.bool (y24)), .b true, .b true, .b true, .b true, .d (D.bool (y27)), .b true] (.ret (D.bool (y27))) hΓ mix (by kernel_rfl) (ow (h1) (ow (h6) (ow (h11) (ow (h20) (ow (h20) (ow (d_impl_IsTerm_good h22) (ow (h23) (ow (h23) (ow (h23) (ow (d_impl_IsTerm_good h25) (ow (h23) (ow (h26) (ow (h26) (ow (h26) (ow (d_impl_zeroPattern_good h28) (ow (h26) ow0)))))))))))))))) rfl
            · have h := den_some h
              subst h
              exact AW_go (n := 2000) [[none]] [.b false, .b false, .b false, .b true, .b true, .d (D.bool (y21)), .b true, .b true, .b true, .d (D.bool (y24)), .b true, .b false, .b false, .b false, .b false] (.ret (D.bool (false))) hΓ mix (by kernel_rfl) (ow (h1) (ow (h6) (ow (h11) (ow (h20) (ow (h20) (ow (d_impl_IsTerm_good h22) (ow (h23) (ow (h23) (ow (h23) (ow (d_impl_IsTerm_good h25) (ow (h23) (ow (h26) (ow (h26) (ow (h26) (ow (h26) ow0))))))))))))))) rfl
          · have h := den_some h
            subst h
            exact AW_go (n := 2000) [[none]] [.b false, .b false, .b false, .b true, .b true, .d (D.bool (y21)), .b false, .b false, .b false, .b false, .b false, .b false, .b false, .b false] (.ret (D.bool (false))) hΓ mix (by kernel_rfl) (ow (h1) (ow (h6) (ow (h11) (ow (h20) (ow (h20) (ow (d_impl_IsTerm_good h22) (ow (h23) (ow (h23) (ow (h23) (ow (h23) (ow (show (false) = false from rfl) (ow (show (false) = false from rfl) (ow (show (false) = false from rfl) (ow (show (false) = false from rfl) ow0)))))))))))))) rfl
        · rcases den_if h with ⟨h29, h⟩ | ⟨h29, h⟩
          · obtain ⟨y30, h31, h⟩ := den_bind h
            rcases den_if h with ⟨h32, h⟩ | ⟨h32, h⟩
            · obtain ⟨y33, h34, h⟩ := den_bind h
              rcases den_if h with ⟨h35, h⟩ | ⟨h35, h⟩
              · obtain ⟨y36, h37, h⟩ := den_bind h
                have h := den_some h
                subst h
                exact AW_go (n := 2000) [[none]] [.b false, .b false, .b false, .b false, .b true, .d (D.bool (y30)), .b true, .b true, .b true, .d (D.bool (y33)), .b true, .b true, .b true, .b true, .d (D.bool (y36)), .b true] (.ret (D.bool (y36))) hΓ mix (by kernel_rfl) (ow (h1) (ow (h6) (ow (h11) (ow (h20) (ow (h29) (ow (d_impl_IsTerm_good h31) (ow (h32) (ow (h32) (ow (h32) (ow (d_impl_IsTerm_good h34) (ow (h32) (ow (h35) (ow (h35) (ow (h35) (ow (d_impl_zeroPattern_good h37) (ow (h35) ow0)))))))))))))))) rfl
              · have h := den_some h
                subst h
                exact AW_go (n := 2000) [[none]] [.b false, .b false, .b false, .b false, .b true, .d (D.bool (y30)), .b true, .b true, .b true, .d (D.bool (y33)), .b true, .b false, .b false, .b false, .b false] (.ret (D.bool (false))) hΓ mix (by kernel_rfl) (ow (h1) (ow (h6) (ow (h11) (ow (h20) (ow (h29) (ow (d_impl_IsTerm_good h31) (ow (h32) (ow (h32) (ow (h32) (ow (d_impl_IsTerm_good h34) (ow (h32) (ow (h35) (ow (h35) (ow (h35) (ow (h35) ow0))))))))))))))) rfl
            · have h := den_some h
              subst h
              exact AW_go (n := 2000) [[none]] [.b false, .b false, .b false, .b false, .b true, .d (D.bool (y30)), .b false, .b false, .b false, .b false, .b false, .b false, .b false, .b false] (.ret (D.bool (false))) hΓ mix (by kernel_rfl) (ow (h1) (ow (h6) (ow (h11) (ow (h20) (ow (h29) (ow (d_impl_IsTerm_good h31) (ow (h32) (ow (h32) (ow (h32) (ow (h32) (ow (show (false) = false from rfl) (ow (show (false) = false from rfl) (ow (show (false) = false from rfl) (ow (show (false) = false from rfl) ow0)))))))))))))) rfl
          · have h := den_some h
            subst h
            exact AW_go (n := 2000) [[none]] [.b false, .b false, .b false, .b false, .b false] (.ret (D.bool (false))) hΓ mix (by kernel_rfl) (ow (h1) (ow (h6) (ow (h11) (ow (h20) (ow (h29) ow0))))) rfl
def d_impl_hasText_L1 (a0_ : List Bytes) (a1_ : Bytes) (k1 : Option Bool) : List Bytes → Nat → Option Bool
  | [], i1 => (k1 )
  | x1_ :: xs1, i1 => (bif (x1_ : Bytes) == (a1_) then (some (true)) else (d_impl_hasText_L1 a0_ a1_ k1 xs1 (i1 + 1) ))
def d_impl_hasText (a0_ : List Bytes) (a1_ : Bytes) : Option Bool := (d_impl_hasText_L1 a0_ a1_ (some (false)) (a0_) 0 )
theorem d_impl_hasText_L1w {Γ : Ctx} (hΓ : Γ.nt = 17) {N : Nat → St → Prop} {a0_ : List Bytes} {a1_ : Bytes} {r : Bool} {k1 : Option Bool} (hE1 : k1 = some r → AW Try.prog Γ (dig (bodyOf Try.f129) [1, 1] []).1 (KQ Try.prog Γ N (RetQ Try.prog Try.f129 (D.bool (r))) (dig (bodyOf Try.f129) [1, 1] []).2) ⟨[], []⟩) (hm1 : (a0_).length ≤ maxLen) : ∀ (rest : List Bytes) (i1 : Nat) , (a0_).drop i1 = rest → d_impl_hasText_L1 a0_ a1_ k1 rest i1  = some r → AWr Try.prog Γ (dig (bodyOf Try.f129) [1, 0, 1, 0, 0] []).1 (KQ Try.prog Γ N (RetQ Try.prog Try.f129 (D.bool (r))) (dig (bodyOf Try.f129) [1, 0, 1, 0] []).2) (rest.length + 1) ⟨[(1, D.str (a1_)), (7, D.sl ((a0_).map tx)), (8, D.int .i64 ((((a0_).map tx).length : Int))), (9, D.int .i64 ((i1 : Int)))], []⟩ := by
  intro rest
  induction rest with
  | nil =>
    intro i1  hd1 h
    rw [d_impl_hasText_L1] at h
    refine AWr_succ fun N1 hN1 hS1 => ?_
    have t := AW_N (N := N) (N' := N1) (K0 := (dig (bodyOf Try.f129) [1, 0, 1, 0] []).2) (by kernel_rfl) hN1 (hE1  h)
    refine AW_go (n := 2000) [[none]] [.b false, .hl 0 [] []] (.at_ (dig (bodyOf Try.f129) [1, 1] []).1 (dig (bodyOf Try.f129) [1, 1] []).2 ⟨[], []⟩) hΓ mix (by kernel_rfl) (ow ((ltm_false tx (drop_nil hd1))) ow0) ?_
    first | exact t | (simp only [List.map_append, List.map_cons, List.map_nil, List.map_set] at t ⊢; exact t)
  | cons x1_ xs1 ih1 =>
    intro i1  hd1 h
    rw [d_impl_hasText_L1] at h
    refine AWr_succ fun N1 hN1 hS1 => ?_
    rcases den_if h with ⟨h13, h⟩ | ⟨h13, h⟩
    · have h := den_some h
      subst h
      exact AW_go (n := 2000) [[none]] [.b true, .row (tx x1_), .b true] (.ret (D.bool (true))) hΓ mix (by kernel_rfl) (ow ((ltm_true tx (drop_cons hd1).2.1)) (ow (map_row tx 1 (drop_cons hd1).1 rfl) (ow (h13) ow0))) rfl
    · have t := ih1 (i1 + 1)  (drop_cons hd1).2.2 h
      refine AW_go (n := 2000) [[none]] [.b true, .row (tx x1_), .b false, .cn [1, 7, 8, 9] []] (.cont 0 ⟨[(1, D.str (a1_)), (7, D.sl ((a0_).map tx)), (8, D.int .i64 ((((a0_).map tx).length : Int))), (9, D.int .i64 (IntKind.i64.wrap (((i1 : Int)) + (1))))], []⟩) hΓ mix (by kernel_rfl) (ow ((ltm_true tx (drop_cons hd1).2.1)) (ow (map_row tx 1 (drop_cons hd1).1 rfl) (ow (h13) ow0))) ?_
      refine (congrFun hS1 _).mpr ?_
      rw [i64_succ (drop_cons hd1).2.1 hm1]
      first | exact t | (simp only [List.map_append, List.map_cons, List.map_nil, List.map_set] at t ⊢; exact t)
theorem d_impl_hasText_good {a0_ : List Bytes} {a1_ : Bytes} {r : Bool} (h : d_impl_hasText a0_ a1_ = some r) : Good Try.prog 129 [D.sl ((a0_).map tx), D.str (a1_)] (D.bool (r)) := by
  refine Good.of (c := bodyOf Try.f129) Try.func129 rfl (by decide) (by simp [Try.f129]) ?_
  intro hr Γ hΓ
  have hΓ : Γ.nt = 17 := hΓ
  rw [d_impl_hasText] at h
  refine (show AW Try.prog Γ (bodyOf Try.f129) (KQ Try.prog Γ (fun _ _ => False) (RetQ Try.prog Try.f129 (D.bool (r))) []) _ from ?_)
  refine AW_go (n := 2000) [[none]] [.cn [1, 7, 8, 9] []] (.lp (dig (bodyOf Try.f129) [1, 0, 1, 0, 0] []).1 (dig (bodyOf Try.f129) [1, 0, 1, 0] []).2 ⟨[(1, D.str (a1_)), (7, D.sl ((a0_).map tx)), (8, D.int .i64 ((((a0_).map tx).length : Int))), (9, D.int .i64 (0))], []⟩) hΓ mix (by kernel_rfl) ow0 (AW_st (by first | rfl | (simp only [List.map_append, List.map_cons, List.map_nil, List.map_set, List.map_replicate] <;> rfl)) (AW_of_r (d_impl_hasText_L1w hΓ (fun h => ?_) (by have := (Rdb.sl (hr _ (List.mem_of_getElem? (i := 0) rfl))).1; simpa using this) (a0_) 0  rfl h)))
  have h := den_some h
  subst h
  exact AW_go (n := 2000) [[none]] [] (.ret (D.bool (false))) hΓ mix (by kernel_rfl) ow0 rfl
def d_impl_occursElsewhere_L1 (a0_ : Rule) (a1_ : Int) (a2_ : Bytes) (k1 : Option Bool) : List Cond → Nat → Option Bool
  | [], i1 => (k1 )
  | x1_ :: xs1, i1 => (bif ((i1 : Int) : Int) != (a1_) then ((d_impl_CondVars (x1_)).bind fun y34 => ((d_impl_hasText (y34) (a2_)).bind fun y36 => (bif y36 then (some (true)) else (d_impl_occursElsewhere_L1 a0_ a1_ a2_ k1 xs1 (i1 + 1) )))) else (d_impl_occursElsewhere_L1 a0_ a1_ a2_ k1 xs1 (i1 + 1) ))
def d_impl_occursElsewhere_L2 (a0_ : Rule) (a2_ : Bytes) (k2 : Option Bool) : List Action → Nat → Option Bool
  | [], i2 => (k2 )
  | x2_ :: xs2, i2 => ((d_impl_hasText (x2_.pat.args) (a2_)).bind fun y59 => (bif y59 then (some (true)) else (d_impl_occursElsewhere_L2 a0_ a2_ k2 xs2 (i2 + 1) )))
def d_impl_occursElsewhere (a0_ : Rule) (a1_ : Int) (a2_ : Bytes) : Option Bool := (d_impl_occursElsewhere_L1 a0_ a1_ a2_ (d_impl_occursElsewhere_L2 a0_ a2_ (some (false)) (a0_.acts) 0 ) (a0_.conds) 0 )
theorem d_impl_occursElsewhere_L1w {Γ : Ctx} (hΓ : Γ.nt = 42) {N : Nat → St → Prop} {a0_ : Rule} {a1_ : Int} {a2_ : Bytes} {r : Bool} {k1 : Option Bool} (hE1 : k1 = some r → AW Try.prog Γ (dig (bodyOf Try.f173) [1, 1] []).1 (KQ Try.prog Γ N (RetQ Try.prog Try.f173 (D.bool (r))) (dig (bodyOf Try.f173) [1, 1] []).2) ⟨[(2, D.str (a2_)), (3, D.ptr 0 0)], [Ob.box (Rule.c a0_)]⟩) (hm1 : (a0_.conds).length ≤ maxLen) : ∀ (rest : List Cond) (i1 : Nat) , (a0_.conds).drop i1 = rest → d_impl_occursElsewhere_L1 a0_ a1_ a2_ k1 rest i1  = some r → AWr Try.prog Γ (dig (bodyOf Try.f173) [1, 0, 1, 0, 0] []).1 (KQ Try.prog Γ N (RetQ Try.prog Try.f173 (D.bool (r))) (dig (bodyOf Try.f173) [1, 0, 1, 0] []).2) (rest.length + 1) ⟨[(1, D.int .i64 (a1_)), (2, D.str (a2_)), (3, D.ptr 0 0), (12, D.sl ((a0_.conds).map Cond.c)), (13, D.int .i64 ((((a0_.conds).map Cond.c).length : Int))), (14, D.int .i64 ((i1 : Int)))], [Ob.box (Rule.c a0_)]⟩ := by
  intro rest
  induction rest with
  | nil =>
    intro i1  hd1 h
    rw [d_impl_occursElsewhere_L1] at h
    refine AWr_succ fun N1 hN1 hS1 => ?_
    have t := AW_N (N := N) (N' := N1) (K0 := (dig (bodyOf Try.f173) [1, 0, 1, 0] []).2) (by kernel_rfl) hN1 (hE1  h)
    refine AW_go (n := 2000) [[none]] [.b false, .hl 0 [2, 3] [0]] (.at_ (dig (bodyOf Try.f173) [1, 1] []).1 (dig (bodyOf Try.f173) [1, 1] []).2 ⟨[(2, D.str (a2_)), (3, D.ptr 0 0)], [Ob.box (Rule.c a0_)]⟩) hΓ mix (by kernel_rfl) (ow ((ltm_false Cond.c (drop_nil hd1))) ow0) ?_
    first | exact t | (simp only [List.map_append, List.map_cons, List.map_nil, List.map_set] at t ⊢; exact t)
  | cons x1_ xs1 ih1 =>
    intro i1  hd1 h
    rw [d_impl_occursElsewhere_L1] at h
    refine AWr_succ fun N1 hN1 hS1 => ?_
    rcases den_if h with ⟨h33, h⟩ | ⟨h33, h⟩
    · obtain ⟨y34, h35, h⟩ := den_bind h
      obtain ⟨y36, h37, h⟩ := den_bind h
      rcases den_if h with ⟨h38, h⟩ | ⟨h38, h⟩
      · have h := den_some h
        subst h
        exact AW_go (n := 2000) [[none]] [.b true, .row (Cond.c x1_), .b true, .b true, .d (D.fr 9 1 ((y34).map tx)), .b true, .b true, .d (D.bool (y36)), .b true, .b true] (.ret (D.bool (true))) hΓ mix (by kernel_rfl) (ow ((ltm_true Cond.c (drop_cons hd1).2.1)) (ow (map_row Cond.c 5 (drop_cons hd1).1 rfl) (ow (h33) (ow (h33) (ow (d_impl_CondVars_good h35) (ow (h33) (ow (h33) (ow (d_impl_hasText_good h37) (ow (h33) (ow (h38) ow0)))))))))) rfl
      · have t := ih1 (i1 + 1)  (drop_cons hd1).2.2 h
        refine AW_go (n := 2000) [[none]] [.b true, .row (Cond.c x1_), .b true, .b true, .d (D.fr 9 1 ((y34).map tx)), .b true, .b true, .d (D.bool (y36)), .b true, .b false, .cn [1, 2, 3, 12, 13, 14] [0]] (.cont 0 ⟨[(1, D.int .i64 (a1_)), (2, D.str (a2_)), (3, D.ptr 0 0), (12, D.sl ((a0_.conds).map Cond.c)), (13, D.int .i64 ((((a0_.conds).map Cond.c).length : Int))), (14, D.int .i64 (IntKind.i64.wrap (((i1 : Int)) + (1))))], [Ob.box (Rule.c a0_)]⟩) hΓ mix (by kernel_rfl) (ow ((ltm_true Cond.c (drop_cons hd1).2.1)) (ow (map_row Cond.c 5 (drop_cons hd1).1 rfl) (ow (h33) (ow (h33) (ow (d_impl_CondVars_good h35) (ow (h33) (ow (h33) (ow (d_impl_hasText_good h37) (ow (h33) (ow (h38) ow0)))))))))) ?_
        refine (congrFun hS1 _).mpr ?_
        rw [i64_succ (drop_cons hd1).2.1 hm1]
        first | exact t | (simp only [List.map_append, List.map_cons, List.map_nil, List.map_set] at t ⊢; exact t)
    · have t := ih1 (i1 + 1)  (drop_cons hd1).2.2 h
      refine AW_go (n := 2000) [[none]] [.b true, .row (Cond.c x1_), .b false, .b false, .b false, .b false, .b false, .b false, .cn [1, 2, 3, 12, 13, 14] [0]] (.cont 0 ⟨[(1, D.int .i64 (a1_)), (2, D.str (a2_)), (3, D.ptr 0 0), (12, D.sl ((a0_.conds).map Cond.c)), (13, D.int .i64 ((((a0_.conds).map Cond.c).length : Int))), (14, D.int .i64 (IntKind.i64.wrap (((i1 : Int)) + (1))))], [Ob.box (Rule.c a0_)]⟩) hΓ mix (by kernel_rfl) (ow ((ltm_true Cond.c (drop_cons hd1).2.1)) (ow (map_row Cond.c 5 (drop_cons hd1).1 rfl) (ow (h33) (ow (h33) (ow (h33) (ow (h33) (ow (h33) (ow (show (false) = false from rfl) ow0)))))))) ?_
      refine (congrFun hS1 _).mpr ?_
      rw [i64_succ (drop_cons hd1).2.1 hm1]
      first | exact t | (simp only [List.map_append, List.map_cons, List.map_nil, List.map_set] at t ⊢; exact t)
theorem d_impl_occursElsewhere_L2w {Γ : Ctx} (hΓ : Γ.nt = 42) {N : Nat → St → Prop} {a0_ : Rule} {a2_ : Bytes} {r : Bool} {k2 : Option Bool} (hE2 : k2 = some r → AW Try.prog Γ (dig (bodyOf Try.f173) [1, 1, 1] []).1 (KQ Try.prog Γ N (RetQ Try.prog Try.f173 (D.bool (r))) (dig (bodyOf Try.f173) [1, 1, 1] []).2) ⟨[], []⟩) (hm2 : (a0_.acts).length ≤ maxLen) : ∀ (rest : List Action) (i2 : Nat) , (a0_.acts).drop i2 = rest → d_impl_occursElsewhere_L2 a0_ a2_ k2 rest i2  = some r → AWr Try.prog Γ (dig (bodyOf Try.f173) [1, 1, 0, 1, 0, 0] []).1 (KQ Try.prog Γ N (RetQ Try.prog Try.f173 (D.bool (r))) (dig (bodyOf Try.f173) [1, 1, 0, 1, 0] []).2) (rest.length + 1) ⟨[(2, D.str (a2_)), (30, D.sl ((a0_.acts).map Action.c)), (31, D.int .i64 ((((a0_.acts).map Action.c).length : Int))), (32, D.int .i64 ((i2 : Int)))], []⟩ := by
  intro rest
  induction rest with
  | nil =>
    intro i2  hd2 h
    rw [d_impl_occursElsewhere_L2] at h
    refine AWr_succ fun N2 hN2 hS2 => ?_
    have t := AW_N (N := N) (N' := N2) (K0 := (dig (bodyOf Try.f173) [1, 1, 0, 1, 0] []).2) (by kernel_rfl) hN2 (hE2  h)
    refine AW_go (n := 2000) [[none]] [.b false, .hl 0 [] []] (.at_ (dig (bodyOf Try.f173) [1, 1, 1] []).1 (dig (bodyOf Try.f173) [1, 1, 1] []).2 ⟨[], []⟩) hΓ mix (by kernel_rfl) (ow ((ltm_false Action.c (drop_nil hd2))) ow0) ?_
    first | exact t | (simp only [List.map_append, List.map_cons, List.map_nil, List.map_set] at t ⊢; exact t)
  | cons x2_ xs2 ih2 =>
    intro i2  hd2 h
    rw [d_impl_occursElsewhere_L2] at h
    refine AWr_succ fun N2 hN2 hS2 => ?_
    obtain ⟨y59, h60, h⟩ := den_bind h
    rcases den_if h with ⟨h61, h⟩ | ⟨h61, h⟩
    · have h := den_some h
      subst h
      exact AW_go (n := 2000) [[none]] [.b true, .row (Action.c x2_), .d (D.bool (y59)), .b true] (.ret (D.bool (true))) hΓ mix (by kernel_rfl) (ow ((ltm_true Action.c (drop_cons hd2).2.1)) (ow (map_row Action.c 3 (drop_cons hd2).1 rfl) (ow (d_impl_hasText_good h60) (ow (h61) ow0)))) rfl
    · have t := ih2 (i2 + 1)  (drop_cons hd2).2.2 h
      refine AW_go (n := 2000) [[none]] [.b true, .row (Action.c x2_), .d (D.bool (y59)), .b false, .cn [2, 30, 31, 32] []] (.cont 0 ⟨[(2, D.str (a2_)), (30, D.sl ((a0_.acts).map Action.c)), (31, D.int .i64 ((((a0_.acts).map Action.c).length : Int))), (32, D.int .i64 (IntKind.i64.wrap (((i2 : Int)) + (1))))], []⟩) hΓ mix (by kernel_rfl) (ow ((ltm_true Action.c (drop_cons hd2).2.1)) (ow (map_row Action.c 3 (drop_cons hd2).1 rfl) (ow (d_impl_hasText_good h60) (ow (h61) ow0)))) ?_
      refine (congrFun hS2 _).mpr ?_
      rw [i64_succ (drop_cons hd2).2.1 hm2]
      first | exact t | (simp only [List.map_append, List.map_cons, List.map_nil, List.map_set] at t ⊢; exact t)
theorem d_impl_occursElsewhere_good {a0_ : Rule} {a1_ : Int} {a2_ : Bytes} {r : Bool} (h : d_impl_occursElsewhere a0_ a1_ a2_ = some r) : Good Try.prog 173 [D.agg (Rule.c a0_), D.int .i64 (a1_), D.str (a2_)] (D.bool (r)) := by
  refine Good.of (c := bodyOf Try.f173) Try.func173 rfl (by decide) (by simp [Try.f173]) ?_
  intro hr Γ hΓ
  have hΓ : Γ.nt = 42 := hΓ
  rw [d_impl_occursElsewhere] at h
  refine (show AW Try.prog Γ (bodyOf Try.f173) (KQ Try.prog Γ (fun _ _ => False) (RetQ Try.prog Try.f173 (D.bool (r))) []) _ from ?_)
  refine AW_go (n := 2000) [[none]] [.cn [1, 2, 3, 12, 13, 14] [0]] (.lp (dig (bodyOf Try.f173) [1, 0, 1, 0, 0] []).1 (dig (bodyOf Try.f173) [1, 0, 1, 0] []).2 ⟨[(1, D.int .i64 (a1_)), (2, D.str (a2_)), (3, D.ptr 0 0), (12, D.sl ((a0_.conds).map Cond.c)), (13, D.int .i64 ((((a0_.conds).map Cond.c).length : Int))), (14, D.int .i64 (0))], [Ob.box (Rule.c a0_)]⟩) hΓ mix (by kernel_rfl) ow0 (AW_st (by first | rfl | (simp only [List.map_append, List.map_cons, List.map_nil, List.map_set, List.map_replicate] <;> rfl)) (AW_of_r (d_impl_occursElsewhere_L1w hΓ (fun h => ?_) (by have := (Rdb.sl (Rdb.agg (hr _ (List.mem_of_getElem? (i := 0) rfl)) (.sl ((a0_.conds).map Cond.c)) (by simp))).1; simpa using this) (a0_.conds) 0  rfl h)))
  refine AW_go (n := 2000) [[none]] [.cn [2, 30, 31, 32] []] (.lp (dig (bodyOf Try.f173) [1, 1, 0, 1, 0, 0] []).1 (dig (bodyOf Try.f173) [1, 1, 0, 1, 0] []).2 ⟨[(2, D.str (a2_)), (30, D.sl ((a0_.acts).map Action.c)), (31, D.int .i64 ((((a0_.acts).map Action.c).length : Int))), (32, D.int .i64 (0))], []⟩) hΓ mix (by kernel_rfl) ow0 (AW_st (by first | rfl | (simp only [List.map_append, List.map_cons, List.map_nil, List.map_set, List.map_replicate] <;> rfl)) (AW_of_r (d_impl_occursElsewhere_L2w hΓ (fun h => ?_) (by have := (Rdb.sl (Rdb.agg (hr _ (List.mem_of_getElem? (i := 0) rfl)) (.sl ((a0_.acts).map Action.c)) (by simp))).1; simpa using this) (a0_.acts) 0  rfl h)))
  have h := den_some h
  subst h
  exact AW_go (n := 2000) [[none]] [] (.ret (D.bool (false))) hΓ mix (by kernel_rfl) ow0 rfl
def d_impl_condFits_L1 (a0_ : Rule) (a1_ : Int) (x1 : Cond) (y3 : List Bytes) (y5 : List Bytes) (k1 : Option Bool) : List Bytes → Nat → Option Bool
  | [], i1 => (k1 )
  | x1_ :: xs1, i1 => (bif (x1.kind : Int) == (1) then (d_impl_condFits_L1 a0_ a1_ x1 y3 y5 k1 xs1 (i1 + 1) ) else ((d_impl_hasText (y3) (x1_)).bind fun y49 => (bif y49 then (d_impl_condFits_L1 a0_ a1_ x1 y3 y5 k1 xs1 (i1 + 1) ) else (bif (x1.kind : Int) != (2) then (some (false)) else ((d_impl_occursElsewhere (a0_) (a1_) (x1_)).bind fun y53 => (bif y53 then (some (false)) else (d_impl_condFits_L1 a0_ a1_ x1 y3 y5 k1 xs1 (i1 + 1) )))))))
def d_impl_condFits (a0_ : Rule) (a1_ : Int) : Option Bool := ((atI (a0_.conds) (a1_)).bind fun x1 => ((d_impl_BoundVars (a0_) (a1_)).bind fun y3 => ((d_impl_CondVars (x1)).bind fun y5 => (bif decide ((y5).length ≤ maxLen) then (d_impl_condFits_L1 a0_ a1_ x1 y3 y5 (some (true)) (y5) 0 ) else none))))
theorem d_impl_condFits_L1w {Γ : Ctx} (hΓ : Γ.nt = 42) {N : Nat → St → Prop} {a0_ : Rule} {a1_ : Int} {x1 : Cond} {y3 : List Bytes} {y5 : List Bytes} {r : Bool} {k1 : Option Bool} (hE1 : k1 = some r → AW Try.prog Γ (dig (bodyOf Try.f127) [1, 1, 1, 1] []).1 (KQ Try.prog Γ N (RetQ Try.prog Try.f127 (D.bool (r))) (dig (bodyOf Try.f127) [1, 1, 1, 1] []).2) ⟨[], []⟩) (hm1 : (y5).length ≤ maxLen) : ∀ (rest : List Bytes) (i1 : Nat) , (y5).drop i1 = rest → d_impl_condFits_L1 a0_ a1_ x1 y3 y5 k1 rest i1  = some r → AWr Try.prog Γ (dig (bodyOf Try.f127) [1, 1, 1, 0, 1, 0, 0] []).1 (KQ Try.prog Γ N (RetQ Try.prog Try.f127 (D.bool (r))) (dig (bodyOf Try.f127) [1, 1, 1, 0, 1, 0] []).2) (rest.length + 1) ⟨[(1, D.int .i64 (a1_)), (2, D.ptr 0 0), (5, D.ptr 1 0), (6, D.acc 2), (18, D.acc 3), (19, D.int .i64 ((((y5).map tx).length : Int))), (20, D.int .i64 ((i1 : Int)))], [Ob.box (Rule.c a0_), Ob.box [D.int .i64 (x1.kind), D.str (x1.pat.rel), D.sl ((x1.pat.args).map tx), D.str (x1.left), D.str (x1.right)], Ob.row .uq 9 1 ((y3).map tx), Ob.row .uq 9 1 ((y5).map tx)]⟩ := by
  intro rest
  induction rest with
  | nil =>
    intro i1  hd1 h
    rw [d_impl_condFits_L1] at h
    refine AWr_succ fun N1 hN1 hS1 => ?_
    have t := AW_N (N := N) (N' := N1) (K0 := (dig (bodyOf Try.f127) [1, 1, 1, 0, 1, 0] []).2) (by kernel_rfl) hN1 (hE1  h)
    refine AW_go (n := 2000) [[none]] [.b false, .hl 0 [] []] (.at_ (dig (bodyOf Try.f127) [1, 1, 1, 1] []).1 (dig (bodyOf Try.f127) [1, 1, 1, 1] []).2 ⟨[], []⟩) hΓ mix (by kernel_rfl) (ow ((ltm_false tx (drop_nil hd1))) ow0) ?_
    first | exact t | (simp only [List.map_append, List.map_cons, List.map_nil, List.map_set] at t ⊢; exact t)
  | cons x1_ xs1 ih1 =>
    intro i1  hd1 h
    rw [d_impl_condFits_L1] at h
    refine AWr_succ fun N1 hN1 hS1 => ?_
    rcases den_if h with ⟨h48, h⟩ | ⟨h48, h⟩
    · have t := ih1 (i1 + 1)  (drop_cons hd1).2.2 h
      refine AW_go (n := 2000) [[none]] [.b true, .ix i1, .row [D.str (x1_)], .b true, .b true, .b true, .b true, .b true, .cn [1, 2, 5, 6, 18, 19, 20] [0, 1, 2, 3]] (.cont 0 ⟨[(1, D.int .i64 (a1_)), (2, D.ptr 0 0), (5, D.ptr 1 0), (6, D.acc 2), (18, D.acc 3), (19, D.int .i64 ((((y5).map tx).length : Int))), (20, D.int .i64 (IntKind.i64.wrap (((i1 : Int)) + (1))))], [Ob.box (Rule.c a0_), Ob.box [D.int .i64 (x1.kind), D.str (x1.pat.rel), D.sl ((x1.pat.args).map tx), D.str (x1.left), D.str (x1.right)], Ob.row .uq 9 1 ((y3).map tx), Ob.row .uq 9 1 ((y5).map tx)]⟩) hΓ mix (by kernel_rfl) (ow ((ltm_true tx (drop_cons hd1).2.1)) (ow (own_ixl tx 1 (drop_cons hd1).1) (ow (show 1 = 1 ∧ RK.opn .uq = true ∧ ((y5).map tx)[i1]? = some [D.str (x1_)] ∧ 1 ≤ 1 from ⟨rfl, rfl, map_get tx (drop_cons hd1).1, by omega⟩) (ow (h48) (ow (h48) (ow (h48) (ow (h48) (ow (show (true) = true from rfl) ow0)))))))) ?_
      refine (congrFun hS1 _).mpr ?_
      rw [i64_succ (drop_cons hd1).2.1 hm1]
      first | exact t | (simp only [List.map_append, List.map_cons, List.map_nil, List.map_set] at t ⊢; exact t)
    · obtain ⟨y49, h50, h⟩ := den_bind h
      rcases den_if h with ⟨h51, h⟩ | ⟨h51, h⟩
      · have t := ih1 (i1 + 1)  (drop_cons hd1).2.2 h
        refine AW_go (n := 2000) [[none]] [.b true, .ix i1, .row [D.str (x1_)], .b false, .b false, .b false, .d (D.bool (y49)), .b false, .b true, .cn [1, 2, 5, 6, 18, 19, 20] [0, 1, 2, 3]] (.cont 0 ⟨[(1, D.int .i64 (a1_)), (2, D.ptr 0 0), (5, D.ptr 1 0), (6, D.acc 2), (18, D.acc 3), (19, D.int .i64 ((((y5).map tx).length : Int))), (20, D.int .i64 (IntKind.i64.wrap (((i1 : Int)) + (1))))], [Ob.box (Rule.c a0_), Ob.box [D.int .i64 (x1.kind), D.str (x1.pat.rel), D.sl ((x1.pat.args).map tx), D.str (x1.left), D.str (x1.right)], Ob.row .uq 9 1 ((y3).map tx), Ob.row .uq 9 1 ((y5).map tx)]⟩) hΓ mix (by kernel_rfl) (ow ((ltm_true tx (drop_cons hd1).2.1)) (ow (own_ixl tx 1 (drop_cons hd1).1) (ow (show 1 = 1 ∧ RK.opn .uq = true ∧ ((y5).map tx)[i1]? = some [D.str (x1_)] ∧ 1 ≤ 1 from ⟨rfl, rfl, map_get tx (drop_cons hd1).1, by omega⟩) (ow (h48) (ow (h48) (ow (h48) (ow (d_impl_hasText_good h50) (ow (h48) (ow (h51) ow0))))))))) ?_
        refine (congrFun hS1 _).mpr ?_
        rw [i64_succ (drop_cons hd1).2.1 hm1]
        first | exact t | (simp only [List.map_append, List.map_cons, List.map_nil, List.map_set] at t ⊢; exact t)
      · rcases den_if h with ⟨h52, h⟩ | ⟨h52, h⟩
        · have h := den_some h
          subst h
          exact AW_go (n := 2000) [[none]] [.b true, .ix i1, .row [D.str (x1_)], .b false, .b false, .b false, .d (D.bool (y49)), .b false, .b false, .b true, .b true, .b true, .b true, .b true, .b true] (.ret (D.bool (false))) hΓ mix (by kernel_rfl) (ow ((ltm_true tx (drop_cons hd1).2.1)) (ow (own_ixl tx 1 (drop_cons hd1).1) (ow (show 1 = 1 ∧ RK.opn .uq = true ∧ ((y5).map tx)[i1]? = some [D.str (x1_)] ∧ 1 ≤ 1 from ⟨rfl, rfl, map_get tx (drop_cons hd1).1, by omega⟩) (ow (h48) (ow (h48) (ow (h48) (ow (d_impl_hasText_good h50) (ow (h48) (ow (h51) (ow (h52) (ow (h52) (ow (h52) (ow (h52) (ow (h52) (ow (show (true) = true from rfl) ow0))))))))))))))) rfl
        · obtain ⟨y53, h54, h⟩ := den_bind h
          rcases den_if h with ⟨h55, h⟩ | ⟨h55, h⟩
          · have h := den_some h
            subst h
            exact AW_go (n := 2000) [[none]] [.b true, .ix i1, .row [D.str (x1_)], .b false, .b false, .b false, .d (D.bool (y49)), .b false, .b false, .b false, .b false, .b false, .b false, .d (D.bool (y53)), .b false, .b true] (.ret (D.bool (false))) hΓ mix (by kernel_rfl) (ow ((ltm_true tx (drop_cons hd1).2.1)) (ow (own_ixl tx 1 (drop_cons hd1).1) (ow (show 1 = 1 ∧ RK.opn .uq = true ∧ ((y5).map tx)[i1]? = some [D.str (x1_)] ∧ 1 ≤ 1 from ⟨rfl, rfl, map_get tx (drop_cons hd1).1, by omega⟩) (ow (h48) (ow (h48) (ow (h48) (ow (d_impl_hasText_good h50) (ow (h48) (ow (h51) (ow (h52) (ow (h52) (ow (h52) (ow (h52) (ow (d_impl_occursElsewhere_good h54) (ow (h52) (ow (h55) ow0)))))))))))))))) rfl
          · have t := ih1 (i1 + 1)  (drop_cons hd1).2.2 h
            refine AW_go (n := 2000) [[none]] [.b true, .ix i1, .row [D.str (x1_)], .b false, .b false, .b false, .d (D.bool (y49)), .b false, .b false, .b false, .b false, .b false, .b false, .d (D.bool (y53)), .b false, .b false, .cn [1, 2, 5, 6, 18, 19, 20] [0, 1, 2, 3]] (.cont 0 ⟨[(1, D.int .i64 (a1_)), (2, D.ptr 0 0), (5, D.ptr 1 0), (6, D.acc 2), (18, D.acc 3), (19, D.int .i64 ((((y5).map tx).length : Int))), (20, D.int .i64 (IntKind.i64.wrap (((i1 : Int)) + (1))))], [Ob.box (Rule.c a0_), Ob.box [D.int .i64 (x1.kind), D.str (x1.pat.rel), D.sl ((x1.pat.args).map tx), D.str (x1.left), D.str (x1.right)], Ob.row .uq 9 1 ((y3).map tx), Ob.row .uq 9 1 ((y5).map tx)]⟩) hΓ mix (by kernel_rfl) (ow ((ltm_true tx (drop_cons hd1).2.1)) (ow (own_ixl tx 1 (drop_cons hd1).1) (ow (show 1 = 1 ∧ RK.opn .uq = true ∧ ((y5).map tx)[i1]? = some [D.str (x1_)] ∧ 1 ≤ 1 from ⟨rfl, rfl, map_get tx (drop_cons hd1).1, by omega⟩) (ow (h48) (ow (h48) (ow (h48) (ow (d_impl_hasText_good h50) (ow (h48) (ow (h51) (ow (h52) (ow (h52) (ow (h52) (ow (h52) (ow (d_impl_occursElsewhere_good h54) (ow (h52) (ow (h55) ow0)))))))))))))))) ?_
            refine (congrFun hS1 _).mpr ?_
            rw [i64_succ (drop_cons hd1).2.1 hm1]
            first | exact t | (simp only [List.map_append, List.map_cons, List.map_nil, List.map_set] at t ⊢; exact t)
theorem d_impl_condFits_good {a0_ : Rule} {a1_ : Int} {r : Bool} (h : d_impl_condFits a0_ a1_ = some r) : Good Try.prog 127 [D.agg (Rule.c a0_), D.int .i64 (a1_)] (D.bool (r)) := by
  refine Good.of (c := bodyOf Try.f127) Try.func127 rfl (by decide) (by simp [Try.f127]) ?_
  intro hr Γ hΓ
  have hΓ : Γ.nt = 42 := hΓ
  rw [d_impl_condFits] at h
  refine (show AW Try.prog Γ (bodyOf Try.f127) (KQ Try.prog Γ (fun _ _ => False) (RetQ Try.prog Try.f127 (D.bool (r))) []) _ from ?_)
  obtain ⟨x1, h2, h⟩ := den_bind h
  obtain ⟨y3, h4, h⟩ := den_bind h
  obtain ⟨y5, h6, h⟩ := den_bind h
  obtain ⟨h56, h⟩ := den_ok h
  refine AW_go (n := 2000) [[none]] [.row (Cond.c x1), .d (D.fr 9 1 ((y3).map tx)), .d (D.fr 9 1 ((y5).map tx)), .cn [1, 2, 5, 6, 18, 19, 20] [0, 1, 2, 3]] (.lp (dig (bodyOf Try.f127) [1, 1, 1, 0, 1, 0, 0] []).1 (dig (bodyOf Try.f127) [1, 1, 1, 0, 1, 0] []).2 ⟨[(1, D.int .i64 (a1_)), (2, D.ptr 0 0), (5, D.ptr 1 0), (6, D.acc 2), (18, D.acc 3), (19, D.int .i64 ((((y5).map tx).length : Int))), (20, D.int .i64 (0))], [Ob.box (Rule.c a0_), Ob.box [D.int .i64 (x1.kind), D.str (x1.pat.rel), D.sl ((x1.pat.args).map tx), D.str (x1.left), D.str (x1.right)], Ob.row .uq 9 1 ((y3).map tx), Ob.row .uq 9 1 ((y5).map tx)]⟩) hΓ mix (by kernel_rfl) (ow (at_row Cond.c 5 h2 rfl) (ow (d_impl_BoundVars_good h4) (ow (d_impl_CondVars_good h6) ow0))) (AW_st (by first | rfl | (simp only [List.map_append, List.map_cons, List.map_nil, List.map_set, List.map_replicate] <;> rfl)) (AW_of_r (d_impl_condFits_L1w hΓ (fun h => ?_) (of_decide_eq_true h56) (y5) 0  rfl h)))
  have h := den_some h
  subst h
  exact AW_go (n := 2000) [[none]] [] (.ret (D.bool (true))) hΓ mix (by kernel_rfl) ow0 rfl
def d_impl_IsAction (a0_ : Action) : Option Bool := (bif (a0_.kind : Int) == (1) then ((d_impl_IsPattern (a0_.pat)).bind fun y2 => (some (y2))) else (bif (a0_.kind : Int) == (2) then ((d_impl_IsPattern (a0_.pat)).bind fun y5 => (some (y5))) else (bif (a0_.kind : Int) == (3) then ((d_impl_zeroPattern (a0_.pat)).bind fun y8 => (some (y8))) else (some (false)))))
theorem d_impl_IsAction_good {a0_ : Action} {r : Bool} (h : d_impl_IsAction a0_ = some r) : Good Try.prog 128 [D.agg (Action.c a0_)] (D.bool (r)) := by
  refine Good.of (c := bodyOf Try.f128) Try.func128 rfl (by decide) (by simp [Try.f128]) ?_
  intro hr Γ hΓ
  have hΓ : Γ.nt = 16 := hΓ
  rw [d_impl_IsAction] at h
  refine (show AW Try.prog Γ (bodyOf Try.f128) (KQ Try.prog Γ (fun _ _ => False) (RetQ Try.prog Try.f128 (D.bool (r))) []) _ from ?_)
  rcases den_if h with ⟨h1, h⟩ | ⟨h1, h⟩
  · obtain ⟨y2, h3, h⟩ := den_bind h
    have h := den_some h
    subst h
    exact AW_go (n := 2000) [[none]] [.b true, .b true, .d (D.bool (y2))] (.ret (D.bool (y2))) hΓ mix (by kernel_rfl) (ow (h1) (ow (h1) (ow (d_impl_IsPattern_good h3) ow0))) rfl
  · rcases den_if h with ⟨h4, h⟩ | ⟨h4, h⟩
    · obtain ⟨y5, h6, h⟩ := den_bind h
      have h := den_some h
      subst h
      exact AW_go (n := 2000) [[none]] [.b false, .b true, .d (D.bool (y5))] (.ret (D.bool (y5))) hΓ mix (by kernel_rfl) (ow (h1) (ow (h4) (ow (d_impl_IsPattern_good h6) ow0))) rfl
    · rcases den_if h with ⟨h7, h⟩ | ⟨h7, h⟩
      · obtain ⟨y8, h9, h⟩ := den_bind h
        have h := den_some h
        subst h
        exact AW_go (n := 2000) [[none]] [.b false, .b false, .b true, .d (D.bool (y8))] (.ret (D.bool (y8))) hΓ mix (by kernel_rfl) (ow (h1) (ow (h4) (ow (h7) (ow (d_impl_zeroPattern_good h9) ow0)))) rfl
      · have h := den_some h
        subst h
        exact AW_go (n := 2000) [[none]] [.b false, .b false, .b false] (.ret (D.bool (false))) hΓ mix (by kernel_rfl) (ow (h1) (ow (h4) (ow (h7) ow0))) rfl
end Go.Cx
