/- What functions of the program compute, and the walks that show it. No condition. -/
import Derived.Test.YtombnhdljkfobaaNData
namespace Go.Cx
open Go.RowKit Go.Proofs
def d_laws_eqStringS_L1 (a0_ : List Bytes) (a1_ : List Bytes) (k1 : Option Bool) : List Bytes → Nat → Option Bool
  | [], i1 => (k1 )
  | x1_ :: xs1, i1 => ((atI (a1_) ((i1 : Int))).bind fun x22 => (bif !((x1_ : Bytes) == (x22)) then (some (false)) else (d_laws_eqStringS_L1 a0_ a1_ k1 xs1 (i1 + 1) )))

def d_laws_eqStringS (a0_ : List Bytes) (a1_ : List Bytes) : Option Bool := (bif ((((a0_).map tx).length : Int) : Int) != ((((a1_).map tx).length : Int)) then (some (false)) else (d_laws_eqStringS_L1 a0_ a1_ (some (true)) (a0_) 0 ))
set_option maxRecDepth 100000 in
set_option linter.unusedVariables false in
theorem d_laws_eqStringS_L1w {Γ : Ctx} (hΓ : Γ.nt = 26) {N : Nat → St → Prop} {a0_ : List Bytes} {a1_ : List Bytes} {r : Bool} {k1 : Option Bool} (hE1 : k1 = some r → AW Try.prog Γ (dig (bodyOf Try.f74) [1, 1, 1] []).1 (KQ Try.prog Γ N (RetQ Try.prog Try.f74 (D.bool (r))) (dig (bodyOf Try.f74) [1, 1, 1] []).2) ⟨[], []⟩) (hm1 : (a0_).length ≤ maxLen) : ∀ (rest : List Bytes) (i1 : Nat) , (a0_).drop i1 = rest → d_laws_eqStringS_L1 a0_ a1_ k1 rest i1  = some r → AWr Try.prog Γ (dig (bodyOf Try.f74) [1, 1, 0, 1, 0, 0] []).1 (KQ Try.prog Γ N (RetQ Try.prog Try.f74 (D.bool (r))) (dig (bodyOf Try.f74) [1, 1, 0, 1, 0] []).2) (rest.length + 1) ⟨[(0, D.sl ((a0_).map tx)), (1, D.sl ((a1_).map tx)), (5, D.int .i64 ((i1 : Int)))], []⟩ := by
  intro rest
  induction rest with
  | nil =>
    intro i1  hd1 h
    rw [d_laws_eqStringS_L1] at h
    refine AWr_succ fun N1 hN1 hS1 => ?_
    have t := AW_N (N := N) (N' := N1) (K0 := (dig (bodyOf Try.f74) [1, 1, 0, 1, 0] []).2) (by kernel_rfl) hN1 (hE1  h)
    refine AW_go (n := 2000) [[none]] [.b false, .hl 0 [] []] (.at_ (dig (bodyOf Try.f74) [1, 1, 1] []).1 (dig (bodyOf Try.f74) [1, 1, 1] []).2 ⟨[], []⟩) [(decide (((i1 : Int) : Int) < ((((a0_).map tx).length : Int)))) = false] hΓ mix (by kernel_rfl) ⟨((by rw [List.length_map]; exact lt_false (drop_nil hd1))), trivial⟩ ?_
    first | exact t | (simp only [List.map_append, List.map_cons, List.map_nil, List.map_set] at t ⊢; exact t)
  | cons x1_ xs1 ih1 =>
    intro i1  hd1 h
    rw [d_laws_eqStringS_L1] at h
    refine AWr_succ fun N1 hN1 hS1 => ?_
    obtain ⟨x22, h23, h⟩ := den_bind h
    rcases den_if h with ⟨h24, h⟩ | ⟨h24, h⟩
    · have h := den_some h
      subst h
      exact AW_go (n := 2000) [[none]] [.b true, .n 8, .row [D.str (x1_)], .row [D.str (x22)], .b true] (.ret (D.bool (false))) [(decide (((i1 : Int) : Int) < ((((a0_).map tx).length : Int)))) = true, 0 ≤ ((i1 : Int)) ∧ ((a0_).map tx)[((i1 : Int)).toNat]? = some [D.str (x1_)] ∧ ([D.str (x1_)] : List D).length = 1, 0 ≤ ((i1 : Int)) ∧ ((a1_).map tx)[((i1 : Int)).toNat]? = some [D.str (x22)] ∧ ([D.str (x22)] : List D).length = 1, (!((x1_ : Bytes) == (x22))) = true] hΓ mix (by kernel_rfl) ⟨((by rw [List.length_map]; exact lt_true (drop_cons hd1).2.1)), (⟨(map_at tx (drop_cons hd1).1).1, (map_at tx (drop_cons hd1).1).2, rfl⟩), (⟨(at_ok tx h23).1, (at_ok tx h23).2, rfl⟩), (h24), trivial⟩ (by first | rfl | (simp only [List.map_append, List.map_cons, List.map_nil, List.map_set] <;> rfl))
    · have t := ih1 (i1 + 1)  (drop_cons hd1).2.2 h
      refine AW_go (n := 2000) [[none]] [.b true, .n 8, .row [D.str (x1_)], .row [D.str (x22)], .b false, .cn [0, 1, 5] []] (.cont 0 ⟨[(0, D.sl ((a0_).map tx)), (1, D.sl ((a1_).map tx)), (5, D.int .i64 (IntKind.i64.wrap (((i1 : Int)) + (1))))], []⟩) [(decide (((i1 : Int) : Int) < ((((a0_).map tx).length : Int)))) = true, 0 ≤ ((i1 : Int)) ∧ ((a0_).map tx)[((i1 : Int)).toNat]? = some [D.str (x1_)] ∧ ([D.str (x1_)] : List D).length = 1, 0 ≤ ((i1 : Int)) ∧ ((a1_).map tx)[((i1 : Int)).toNat]? = some [D.str (x22)] ∧ ([D.str (x22)] : List D).length = 1, (!((x1_ : Bytes) == (x22))) = false] hΓ mix (by kernel_rfl) ⟨((by rw [List.length_map]; exact lt_true (drop_cons hd1).2.1)), (⟨(map_at tx (drop_cons hd1).1).1, (map_at tx (drop_cons hd1).1).2, rfl⟩), (⟨(at_ok tx h23).1, (at_ok tx h23).2, rfl⟩), (h24), trivial⟩ ?_
      refine (congrFun hS1 _).mpr ?_
      rw [i64_succ (drop_cons hd1).2.1 hm1]
      first | exact t | (simp only [List.map_append, List.map_cons, List.map_nil, List.map_set] at t ⊢; exact t)

set_option maxRecDepth 100000 in
set_option linter.unusedVariables false in
theorem d_laws_eqStringS_good {a0_ : List Bytes} {a1_ : List Bytes} {r : Bool} (h : d_laws_eqStringS a0_ a1_ = some r) : Good Try.prog 74 [D.sl ((a0_).map tx), D.sl ((a1_).map tx)] (D.bool (r)) := by
  refine Good.of (c := bodyOf Try.f74) Try.func74 rfl (by decide) (by simp [Try.f74]) ?_
  intro hr Γ hΓ
  have hΓ : Γ.nt = 26 := hΓ
  rw [d_laws_eqStringS] at h
  refine (show AW Try.prog Γ (bodyOf Try.f74) (KQ Try.prog Γ (fun _ _ => False) (RetQ Try.prog Try.f74 (D.bool (r))) []) _ from ?_)
  rcases den_if h with ⟨h1, h⟩ | ⟨h1, h⟩
  · have h := den_some h
    subst h
    exact AW_go (n := 2000) [[none]] [.b true] (.ret (D.bool (false))) [(((((a0_).map tx).length : Int) : Int) != ((((a1_).map tx).length : Int))) = true] hΓ mix (by kernel_rfl) ⟨(h1), trivial⟩ (by first | rfl | (simp only [List.map_append, List.map_cons, List.map_nil, List.map_set] <;> rfl))
  · refine AW_go (n := 2000) [[none]] [.b false, .cn [0, 1, 5] []] (.lp (dig (bodyOf Try.f74) [1, 1, 0, 1, 0, 0] []).1 (dig (bodyOf Try.f74) [1, 1, 0, 1, 0] []).2 ⟨[(0, D.sl ((a0_).map tx)), (1, D.sl ((a1_).map tx)), (5, D.int .i64 (0))], []⟩) [(((((a0_).map tx).length : Int) : Int) != ((((a1_).map tx).length : Int))) = false] hΓ mix (by kernel_rfl) ⟨(h1), trivial⟩ (AW_st (by first | rfl | (simp only [List.map_append, List.map_cons, List.map_nil, List.map_set, List.map_replicate] <;> rfl)) (AW_of_r (d_laws_eqStringS_L1w hΓ (fun h => ?_) (by have := (Rdb.sl (hr _ (List.mem_of_getElem? (i := 0) rfl))).1; simpa using this) (a0_) 0  rfl h)))
    have h := den_some h
    subst h
    exact AW_go (n := 2000) [[none]] [] (.ret (D.bool (true))) [] hΓ mix (by kernel_rfl) trivial (by first | rfl | (simp only [List.map_append, List.map_cons, List.map_nil, List.map_set] <;> rfl))

def d_laws_eqPattern (a0_ : Fact) (a1_ : Fact) : Option Bool := (bif !((a0_.rel : Bytes) == (a1_.rel)) then (some (false)) else ((d_laws_eqStringS (a0_.args) (a1_.args)).bind fun y2 => (bif !(y2) then (some (false)) else (some (true)))))
set_option maxRecDepth 100000 in
set_option linter.unusedVariables false in
theorem d_laws_eqPattern_good {a0_ : Fact} {a1_ : Fact} {r : Bool} (h : d_laws_eqPattern a0_ a1_ = some r) : Good Try.prog 71 [D.agg [D.str (a0_.rel), D.sl ((a0_.args).map tx)], D.agg [D.str (a1_.rel), D.sl ((a1_.args).map tx)]] (D.bool (r)) := by
  refine Good.of (c := bodyOf Try.f71) Try.func71 rfl (by decide) (by simp [Try.f71]) ?_
  intro hr Γ hΓ
  have hΓ : Γ.nt = 16 := hΓ
  rw [d_laws_eqPattern] at h
  refine (show AW Try.prog Γ (bodyOf Try.f71) (KQ Try.prog Γ (fun _ _ => False) (RetQ Try.prog Try.f71 (D.bool (r))) []) _ from ?_)
  rcases den_if h with ⟨h1, h⟩ | ⟨h1, h⟩
  · have h := den_some h
    subst h
    exact AW_go (n := 2000) [[none]] [.b true] (.ret (D.bool (false))) [(!((a0_.rel : Bytes) == (a1_.rel))) = true] hΓ mix (by kernel_rfl) ⟨(h1), trivial⟩ (by first | rfl | (simp only [List.map_append, List.map_cons, List.map_nil, List.map_set] <;> rfl))
  · obtain ⟨y2, h3, h⟩ := den_bind h
    rcases den_if h with ⟨h4, h⟩ | ⟨h4, h⟩
    · have h := den_some h
      subst h
      exact AW_go (n := 2000) [[none]] [.b false, .d (D.bool (y2)), .b true] (.ret (D.bool (false))) [(!((a0_.rel : Bytes) == (a1_.rel))) = false, Good Try.prog 74 [D.sl ((a0_.args).map tx), D.sl ((a1_.args).map tx)] (D.bool (y2)), (!(y2)) = true] hΓ mix (by kernel_rfl) ⟨(h1), (d_laws_eqStringS_good h3), (h4), trivial⟩ (by first | rfl | (simp only [List.map_append, List.map_cons, List.map_nil, List.map_set] <;> rfl))
    · have h := den_some h
      subst h
      exact AW_go (n := 2000) [[none]] [.b false, .d (D.bool (y2)), .b false] (.ret (D.bool (true))) [(!((a0_.rel : Bytes) == (a1_.rel))) = false, Good Try.prog 74 [D.sl ((a0_.args).map tx), D.sl ((a1_.args).map tx)] (D.bool (y2)), (!(y2)) = false] hΓ mix (by kernel_rfl) ⟨(h1), (d_laws_eqStringS_good h3), (h4), trivial⟩ (by first | rfl | (simp only [List.map_append, List.map_cons, List.map_nil, List.map_set] <;> rfl))

def d_laws_eqCond (a0_ : Cond) (a1_ : Cond) : Option Bool := (bif (a0_.kind : Int) != (a1_.kind) then (some (false)) else ((d_laws_eqPattern (a0_.pat) (a1_.pat)).bind fun y2 => (bif !(y2) then (some (false)) else (bif !((a0_.left : Bytes) == (a1_.left)) then (some (false)) else (bif !((a0_.right : Bytes) == (a1_.right)) then (some (false)) else (some (true)))))))
set_option maxRecDepth 100000 in
set_option linter.unusedVariables false in
theorem d_laws_eqCond_good {a0_ : Cond} {a1_ : Cond} {r : Bool} (h : d_laws_eqCond a0_ a1_ = some r) : Good Try.prog 72 [D.agg [D.int .i64 (a0_.kind), D.str (a0_.pat.rel), D.sl ((a0_.pat.args).map tx), D.str (a0_.left), D.str (a0_.right)], D.agg [D.int .i64 (a1_.kind), D.str (a1_.pat.rel), D.sl ((a1_.pat.args).map tx), D.str (a1_.left), D.str (a1_.right)]] (D.bool (r)) := by
  refine Good.of (c := bodyOf Try.f72) Try.func72 rfl (by decide) (by simp [Try.f72]) ?_
  intro hr Γ hΓ
  have hΓ : Γ.nt = 26 := hΓ
  rw [d_laws_eqCond] at h
  refine (show AW Try.prog Γ (bodyOf Try.f72) (KQ Try.prog Γ (fun _ _ => False) (RetQ Try.prog Try.f72 (D.bool (r))) []) _ from ?_)
  rcases den_if h with ⟨h1, h⟩ | ⟨h1, h⟩
  · have h := den_some h
    subst h
    exact AW_go (n := 2000) [[none]] [.b true] (.ret (D.bool (false))) [((a0_.kind : Int) != (a1_.kind)) = true] hΓ mix (by kernel_rfl) ⟨(h1), trivial⟩ (by first | rfl | (simp only [List.map_append, List.map_cons, List.map_nil, List.map_set] <;> rfl))
  · obtain ⟨y2, h3, h⟩ := den_bind h
    rcases den_if h with ⟨h4, h⟩ | ⟨h4, h⟩
    · have h := den_some h
      subst h
      exact AW_go (n := 2000) [[none]] [.b false, .d (D.bool (y2)), .b true] (.ret (D.bool (false))) [((a0_.kind : Int) != (a1_.kind)) = false, Good Try.prog 71 [D.agg [D.str (a0_.pat.rel), D.sl ((a0_.pat.args).map tx)], D.agg [D.str (a1_.pat.rel), D.sl ((a1_.pat.args).map tx)]] (D.bool (y2)), (!(y2)) = true] hΓ mix (by kernel_rfl) ⟨(h1), (d_laws_eqPattern_good h3), (h4), trivial⟩ (by first | rfl | (simp only [List.map_append, List.map_cons, List.map_nil, List.map_set] <;> rfl))
    · rcases den_if h with ⟨h5, h⟩ | ⟨h5, h⟩
      · have h := den_some h
        subst h
        exact AW_go (n := 2000) [[none]] [.b false, .d (D.bool (y2)), .b false, .b true] (.ret (D.bool (false))) [((a0_.kind : Int) != (a1_.kind)) = false, Good Try.prog 71 [D.agg [D.str (a0_.pat.rel), D.sl ((a0_.pat.args).map tx)], D.agg [D.str (a1_.pat.rel), D.sl ((a1_.pat.args).map tx)]] (D.bool (y2)), (!(y2)) = false, (!((a0_.left : Bytes) == (a1_.left))) = true] hΓ mix (by kernel_rfl) ⟨(h1), (d_laws_eqPattern_good h3), (h4), (h5), trivial⟩ (by first | rfl | (simp only [List.map_append, List.map_cons, List.map_nil, List.map_set] <;> rfl))
      · rcases den_if h with ⟨h6, h⟩ | ⟨h6, h⟩
        · have h := den_some h
          subst h
          exact AW_go (n := 2000) [[none]] [.b false, .d (D.bool (y2)), .b false, .b false, .b true] (.ret (D.bool (false))) [((a0_.kind : Int) != (a1_.kind)) = false, Good Try.prog 71 [D.agg [D.str (a0_.pat.rel), D.sl ((a0_.pat.args).map tx)], D.agg [D.str (a1_.pat.rel), D.sl ((a1_.pat.args).map tx)]] (D.bool (y2)), (!(y2)) = false, (!((a0_.left : Bytes) == (a1_.left))) = false, (!((a0_.right : Bytes) == (a1_.right))) = true] hΓ mix (by kernel_rfl) ⟨(h1), (d_laws_eqPattern_good h3), (h4), (h5), (h6), trivial⟩ (by first | rfl | (simp only [List.map_append, List.map_cons, List.map_nil, List.map_set] <;> rfl))
        · have h := den_some h
          subst h
          exact AW_go (n := 2000) [[none]] [.b false, .d (D.bool (y2)), .b false, .b false, .b false] (.ret (D.bool (true))) [((a0_.kind : Int) != (a1_.kind)) = false, Good Try.prog 71 [D.agg [D.str (a0_.pat.rel), D.sl ((a0_.pat.args).map tx)], D.agg [D.str (a1_.pat.rel), D.sl ((a1_.pat.args).map tx)]] (D.bool (y2)), (!(y2)) = false, (!((a0_.left : Bytes) == (a1_.left))) = false, (!((a0_.right : Bytes) == (a1_.right))) = false] hΓ mix (by kernel_rfl) ⟨(h1), (d_laws_eqPattern_good h3), (h4), (h5), (h6), trivial⟩ (by first | rfl | (simp only [List.map_append, List.map_cons, List.map_nil, List.map_set] <;> rfl))

def d_laws_eqCondS_L1 (a0_ : List Cond) (a1_ : List Cond) (k1 : Option Bool) : List Cond → Nat → Option Bool
  | [], i1 => (k1 )
  | x1_ :: xs1, i1 => ((atI (a1_) ((i1 : Int))).bind fun x30 => ((d_laws_eqCond (x1_) (x30)).bind fun y32 => (bif !(y32) then (some (false)) else (d_laws_eqCondS_L1 a0_ a1_ k1 xs1 (i1 + 1) ))))

def d_laws_eqCondS (a0_ : List Cond) (a1_ : List Cond) : Option Bool := (bif ((((a0_).map Cond.c).length : Int) : Int) != ((((a1_).map Cond.c).length : Int)) then (some (false)) else (d_laws_eqCondS_L1 a0_ a1_ (some (true)) (a0_) 0 ))
set_option maxRecDepth 100000 in
set_option linter.unusedVariables false in
theorem d_laws_eqCondS_L1w {Γ : Ctx} (hΓ : Γ.nt = 27) {N : Nat → St → Prop} {a0_ : List Cond} {a1_ : List Cond} {r : Bool} {k1 : Option Bool} (hE1 : k1 = some r → AW Try.prog Γ (dig (bodyOf Try.f69) [1, 1, 1] []).1 (KQ Try.prog Γ N (RetQ Try.prog Try.f69 (D.bool (r))) (dig (bodyOf Try.f69) [1, 1, 1] []).2) ⟨[], []⟩) (hm1 : (a0_).length ≤ maxLen) : ∀ (rest : List Cond) (i1 : Nat) , (a0_).drop i1 = rest → d_laws_eqCondS_L1 a0_ a1_ k1 rest i1  = some r → AWr Try.prog Γ (dig (bodyOf Try.f69) [1, 1, 0, 1, 0, 0] []).1 (KQ Try.prog Γ N (RetQ Try.prog Try.f69 (D.bool (r))) (dig (bodyOf Try.f69) [1, 1, 0, 1, 0] []).2) (rest.length + 1) ⟨[(0, D.sl ((a0_).map Cond.c)), (1, D.sl ((a1_).map Cond.c)), (5, D.int .i64 ((i1 : Int)))], []⟩ := by
  intro rest
  induction rest with
  | nil =>
    intro i1  hd1 h
    rw [d_laws_eqCondS_L1] at h
    refine AWr_succ fun N1 hN1 hS1 => ?_
    have t := AW_N (N := N) (N' := N1) (K0 := (dig (bodyOf Try.f69) [1, 1, 0, 1, 0] []).2) (by kernel_rfl) hN1 (hE1  h)
    refine AW_go (n := 2000) [[none]] [.b false, .hl 0 [] []] (.at_ (dig (bodyOf Try.f69) [1, 1, 1] []).1 (dig (bodyOf Try.f69) [1, 1, 1] []).2 ⟨[], []⟩) [(decide (((i1 : Int) : Int) < ((((a0_).map Cond.c).length : Int)))) = false] hΓ mix (by kernel_rfl) ⟨((by rw [List.length_map]; exact lt_false (drop_nil hd1))), trivial⟩ ?_
    first | exact t | (simp only [List.map_append, List.map_cons, List.map_nil, List.map_set] at t ⊢; exact t)
  | cons x1_ xs1 ih1 =>
    intro i1  hd1 h
    rw [d_laws_eqCondS_L1] at h
    refine AWr_succ fun N1 hN1 hS1 => ?_
    obtain ⟨x30, h31, h⟩ := den_bind h
    obtain ⟨y32, h33, h⟩ := den_bind h
    rcases den_if h with ⟨h34, h⟩ | ⟨h34, h⟩
    · have h := den_some h
      subst h
      exact AW_go (n := 2000) [[none]] [.b true, .n 8, .row [D.int .i64 (x1_.kind), D.str (x1_.pat.rel), D.sl ((x1_.pat.args).map tx), D.str (x1_.left), D.str (x1_.right)], .row [D.int .i64 (x30.kind), D.str (x30.pat.rel), D.sl ((x30.pat.args).map tx), D.str (x30.left), D.str (x30.right)], .d (D.bool (y32)), .b true] (.ret (D.bool (false))) [(decide (((i1 : Int) : Int) < ((((a0_).map Cond.c).length : Int)))) = true, 0 ≤ ((i1 : Int)) ∧ ((a0_).map Cond.c)[((i1 : Int)).toNat]? = some [D.int .i64 (x1_.kind), D.str (x1_.pat.rel), D.sl ((x1_.pat.args).map tx), D.str (x1_.left), D.str (x1_.right)] ∧ ([D.int .i64 (x1_.kind), D.str (x1_.pat.rel), D.sl ((x1_.pat.args).map tx), D.str (x1_.left), D.str (x1_.right)] : List D).length = 5, 0 ≤ ((i1 : Int)) ∧ ((a1_).map Cond.c)[((i1 : Int)).toNat]? = some [D.int .i64 (x30.kind), D.str (x30.pat.rel), D.sl ((x30.pat.args).map tx), D.str (x30.left), D.str (x30.right)] ∧ ([D.int .i64 (x30.kind), D.str (x30.pat.rel), D.sl ((x30.pat.args).map tx), D.str (x30.left), D.str (x30.right)] : List D).length = 5, Good Try.prog 72 [D.agg [D.int .i64 (x1_.kind), D.str (x1_.pat.rel), D.sl ((x1_.pat.args).map tx), D.str (x1_.left), D.str (x1_.right)], D.agg [D.int .i64 (x30.kind), D.str (x30.pat.rel), D.sl ((x30.pat.args).map tx), D.str (x30.left), D.str (x30.right)]] (D.bool (y32)), (!(y32)) = true] hΓ mix (by kernel_rfl) ⟨((by rw [List.length_map]; exact lt_true (drop_cons hd1).2.1)), (⟨(map_at Cond.c (drop_cons hd1).1).1, (map_at Cond.c (drop_cons hd1).1).2, rfl⟩), (⟨(at_ok Cond.c h31).1, (at_ok Cond.c h31).2, rfl⟩), (d_laws_eqCond_good h33), (h34), trivial⟩ (by first | rfl | (simp only [List.map_append, List.map_cons, List.map_nil, List.map_set] <;> rfl))
    · have t := ih1 (i1 + 1)  (drop_cons hd1).2.2 h
      refine AW_go (n := 2000) [[none]] [.b true, .n 8, .row [D.int .i64 (x1_.kind), D.str (x1_.pat.rel), D.sl ((x1_.pat.args).map tx), D.str (x1_.left), D.str (x1_.right)], .row [D.int .i64 (x30.kind), D.str (x30.pat.rel), D.sl ((x30.pat.args).map tx), D.str (x30.left), D.str (x30.right)], .d (D.bool (y32)), .b false, .cn [0, 1, 5] []] (.cont 0 ⟨[(0, D.sl ((a0_).map Cond.c)), (1, D.sl ((a1_).map Cond.c)), (5, D.int .i64 (IntKind.i64.wrap (((i1 : Int)) + (1))))], []⟩) [(decide (((i1 : Int) : Int) < ((((a0_).map Cond.c).length : Int)))) = true, 0 ≤ ((i1 : Int)) ∧ ((a0_).map Cond.c)[((i1 : Int)).toNat]? = some [D.int .i64 (x1_.kind), D.str (x1_.pat.rel), D.sl ((x1_.pat.args).map tx), D.str (x1_.left), D.str (x1_.right)] ∧ ([D.int .i64 (x1_.kind), D.str (x1_.pat.rel), D.sl ((x1_.pat.args).map tx), D.str (x1_.left), D.str (x1_.right)] : List D).length = 5, 0 ≤ ((i1 : Int)) ∧ ((a1_).map Cond.c)[((i1 : Int)).toNat]? = some [D.int .i64 (x30.kind), D.str (x30.pat.rel), D.sl ((x30.pat.args).map tx), D.str (x30.left), D.str (x30.right)] ∧ ([D.int .i64 (x30.kind), D.str (x30.pat.rel), D.sl ((x30.pat.args).map tx), D.str (x30.left), D.str (x30.right)] : List D).length = 5, Good Try.prog 72 [D.agg [D.int .i64 (x1_.kind), D.str (x1_.pat.rel), D.sl ((x1_.pat.args).map tx), D.str (x1_.left), D.str (x1_.right)], D.agg [D.int .i64 (x30.kind), D.str (x30.pat.rel), D.sl ((x30.pat.args).map tx), D.str (x30.left), D.str (x30.right)]] (D.bool (y32)), (!(y32)) = false] hΓ mix (by kernel_rfl) ⟨((by rw [List.length_map]; exact lt_true (drop_cons hd1).2.1)), (⟨(map_at Cond.c (drop_cons hd1).1).1, (map_at Cond.c (drop_cons hd1).1).2, rfl⟩), (⟨(at_ok Cond.c h31).1, (at_ok Cond.c h31).2, rfl⟩), (d_laws_eqCond_good h33), (h34), trivial⟩ ?_
      refine (congrFun hS1 _).mpr ?_
      rw [i64_succ (drop_cons hd1).2.1 hm1]
      first | exact t | (simp only [List.map_append, List.map_cons, List.map_nil, List.map_set] at t ⊢; exact t)

set_option maxRecDepth 100000 in
set_option linter.unusedVariables false in
theorem d_laws_eqCondS_good {a0_ : List Cond} {a1_ : List Cond} {r : Bool} (h : d_laws_eqCondS a0_ a1_ = some r) : Good Try.prog 69 [D.sl ((a0_).map Cond.c), D.sl ((a1_).map Cond.c)] (D.bool (r)) := by
  refine Good.of (c := bodyOf Try.f69) Try.func69 rfl (by decide) (by simp [Try.f69]) ?_
  intro hr Γ hΓ
  have hΓ : Γ.nt = 27 := hΓ
  rw [d_laws_eqCondS] at h
  refine (show AW Try.prog Γ (bodyOf Try.f69) (KQ Try.prog Γ (fun _ _ => False) (RetQ Try.prog Try.f69 (D.bool (r))) []) _ from ?_)
  rcases den_if h with ⟨h1, h⟩ | ⟨h1, h⟩
  · have h := den_some h
    subst h
    exact AW_go (n := 2000) [[none]] [.b true] (.ret (D.bool (false))) [(((((a0_).map Cond.c).length : Int) : Int) != ((((a1_).map Cond.c).length : Int))) = true] hΓ mix (by kernel_rfl) ⟨(h1), trivial⟩ (by first | rfl | (simp only [List.map_append, List.map_cons, List.map_nil, List.map_set] <;> rfl))
  · refine AW_go (n := 2000) [[none]] [.b false, .cn [0, 1, 5] []] (.lp (dig (bodyOf Try.f69) [1, 1, 0, 1, 0, 0] []).1 (dig (bodyOf Try.f69) [1, 1, 0, 1, 0] []).2 ⟨[(0, D.sl ((a0_).map Cond.c)), (1, D.sl ((a1_).map Cond.c)), (5, D.int .i64 (0))], []⟩) [(((((a0_).map Cond.c).length : Int) : Int) != ((((a1_).map Cond.c).length : Int))) = false] hΓ mix (by kernel_rfl) ⟨(h1), trivial⟩ (AW_st (by first | rfl | (simp only [List.map_append, List.map_cons, List.map_nil, List.map_set, List.map_replicate] <;> rfl)) (AW_of_r (d_laws_eqCondS_L1w hΓ (fun h => ?_) (by have := (Rdb.sl (hr _ (List.mem_of_getElem? (i := 0) rfl))).1; simpa using this) (a0_) 0  rfl h)))
    have h := den_some h
    subst h
    exact AW_go (n := 2000) [[none]] [] (.ret (D.bool (true))) [] hΓ mix (by kernel_rfl) trivial (by first | rfl | (simp only [List.map_append, List.map_cons, List.map_nil, List.map_set] <;> rfl))

def d_laws_eqAction (a0_ : Action) (a1_ : Action) : Option Bool := (bif (a0_.kind : Int) != (a1_.kind) then (some (false)) else ((d_laws_eqPattern (a0_.pat) (a1_.pat)).bind fun y2 => (bif !(y2) then (some (false)) else (some (true)))))
set_option maxRecDepth 100000 in
set_option linter.unusedVariables false in
theorem d_laws_eqAction_good {a0_ : Action} {a1_ : Action} {r : Bool} (h : d_laws_eqAction a0_ a1_ = some r) : Good Try.prog 80 [D.agg [D.int .i64 (a0_.kind), D.str (a0_.pat.rel), D.sl ((a0_.pat.args).map tx)], D.agg [D.int .i64 (a1_.kind), D.str (a1_.pat.rel), D.sl ((a1_.pat.args).map tx)]] (D.bool (r)) := by
  refine Good.of (c := bodyOf Try.f80) Try.func80 rfl (by decide) (by simp [Try.f80]) ?_
  intro hr Γ hΓ
  have hΓ : Γ.nt = 16 := hΓ
  rw [d_laws_eqAction] at h
  refine (show AW Try.prog Γ (bodyOf Try.f80) (KQ Try.prog Γ (fun _ _ => False) (RetQ Try.prog Try.f80 (D.bool (r))) []) _ from ?_)
  rcases den_if h with ⟨h1, h⟩ | ⟨h1, h⟩
  · have h := den_some h
    subst h
    exact AW_go (n := 2000) [[none]] [.b true] (.ret (D.bool (false))) [((a0_.kind : Int) != (a1_.kind)) = true] hΓ mix (by kernel_rfl) ⟨(h1), trivial⟩ (by first | rfl | (simp only [List.map_append, List.map_cons, List.map_nil, List.map_set] <;> rfl))
  · obtain ⟨y2, h3, h⟩ := den_bind h
    rcases den_if h with ⟨h4, h⟩ | ⟨h4, h⟩
    · have h := den_some h
      subst h
      exact AW_go (n := 2000) [[none]] [.b false, .d (D.bool (y2)), .b true] (.ret (D.bool (false))) [((a0_.kind : Int) != (a1_.kind)) = false, Good Try.prog 71 [D.agg [D.str (a0_.pat.rel), D.sl ((a0_.pat.args).map tx)], D.agg [D.str (a1_.pat.rel), D.sl ((a1_.pat.args).map tx)]] (D.bool (y2)), (!(y2)) = true] hΓ mix (by kernel_rfl) ⟨(h1), (d_laws_eqPattern_good h3), (h4), trivial⟩ (by first | rfl | (simp only [List.map_append, List.map_cons, List.map_nil, List.map_set] <;> rfl))
    · have h := den_some h
      subst h
      exact AW_go (n := 2000) [[none]] [.b false, .d (D.bool (y2)), .b false] (.ret (D.bool (true))) [((a0_.kind : Int) != (a1_.kind)) = false, Good Try.prog 71 [D.agg [D.str (a0_.pat.rel), D.sl ((a0_.pat.args).map tx)], D.agg [D.str (a1_.pat.rel), D.sl ((a1_.pat.args).map tx)]] (D.bool (y2)), (!(y2)) = false] hΓ mix (by kernel_rfl) ⟨(h1), (d_laws_eqPattern_good h3), (h4), trivial⟩ (by first | rfl | (simp only [List.map_append, List.map_cons, List.map_nil, List.map_set] <;> rfl))

def d_laws_eqActionS_L1 (a0_ : List Action) (a1_ : List Action) (k1 : Option Bool) : List Action → Nat → Option Bool
  | [], i1 => (k1 )
  | x1_ :: xs1, i1 => ((atI (a1_) ((i1 : Int))).bind fun x30 => ((d_laws_eqAction (x1_) (x30)).bind fun y32 => (bif !(y32) then (some (false)) else (d_laws_eqActionS_L1 a0_ a1_ k1 xs1 (i1 + 1) ))))

def d_laws_eqActionS (a0_ : List Action) (a1_ : List Action) : Option Bool := (bif ((((a0_).map Action.c).length : Int) : Int) != ((((a1_).map Action.c).length : Int)) then (some (false)) else (d_laws_eqActionS_L1 a0_ a1_ (some (true)) (a0_) 0 ))
set_option maxRecDepth 100000 in
set_option linter.unusedVariables false in
theorem d_laws_eqActionS_L1w {Γ : Ctx} (hΓ : Γ.nt = 27) {N : Nat → St → Prop} {a0_ : List Action} {a1_ : List Action} {r : Bool} {k1 : Option Bool} (hE1 : k1 = some r → AW Try.prog Γ (dig (bodyOf Try.f70) [1, 1, 1] []).1 (KQ Try.prog Γ N (RetQ Try.prog Try.f70 (D.bool (r))) (dig (bodyOf Try.f70) [1, 1, 1] []).2) ⟨[], []⟩) (hm1 : (a0_).length ≤ maxLen) : ∀ (rest : List Action) (i1 : Nat) , (a0_).drop i1 = rest → d_laws_eqActionS_L1 a0_ a1_ k1 rest i1  = some r → AWr Try.prog Γ (dig (bodyOf Try.f70) [1, 1, 0, 1, 0, 0] []).1 (KQ Try.prog Γ N (RetQ Try.prog Try.f70 (D.bool (r))) (dig (bodyOf Try.f70) [1, 1, 0, 1, 0] []).2) (rest.length + 1) ⟨[(0, D.sl ((a0_).map Action.c)), (1, D.sl ((a1_).map Action.c)), (5, D.int .i64 ((i1 : Int)))], []⟩ := by
  intro rest
  induction rest with
  | nil =>
    intro i1  hd1 h
    rw [d_laws_eqActionS_L1] at h
    refine AWr_succ fun N1 hN1 hS1 => ?_
    have t := AW_N (N := N) (N' := N1) (K0 := (dig (bodyOf Try.f70) [1, 1, 0, 1, 0] []).2) (by kernel_rfl) hN1 (hE1  h)
    refine AW_go (n := 2000) [[none]] [.b false, .hl 0 [] []] (.at_ (dig (bodyOf Try.f70) [1, 1, 1] []).1 (dig (bodyOf Try.f70) [1, 1, 1] []).2 ⟨[], []⟩) [(decide (((i1 : Int) : Int) < ((((a0_).map Action.c).length : Int)))) = false] hΓ mix (by kernel_rfl) ⟨((by rw [List.length_map]; exact lt_false (drop_nil hd1))), trivial⟩ ?_
    first | exact t | (simp only [List.map_append, List.map_cons, List.map_nil, List.map_set] at t ⊢; exact t)
  | cons x1_ xs1 ih1 =>
    intro i1  hd1 h
    rw [d_laws_eqActionS_L1] at h
    refine AWr_succ fun N1 hN1 hS1 => ?_
    obtain ⟨x30, h31, h⟩ := den_bind h
    obtain ⟨y32, h33, h⟩ := den_bind h
    rcases den_if h with ⟨h34, h⟩ | ⟨h34, h⟩
    · have h := den_some h
      subst h
      exact AW_go (n := 2000) [[none]] [.b true, .n 8, .row [D.int .i64 (x1_.kind), D.str (x1_.pat.rel), D.sl ((x1_.pat.args).map tx)], .row [D.int .i64 (x30.kind), D.str (x30.pat.rel), D.sl ((x30.pat.args).map tx)], .d (D.bool (y32)), .b true] (.ret (D.bool (false))) [(decide (((i1 : Int) : Int) < ((((a0_).map Action.c).length : Int)))) = true, 0 ≤ ((i1 : Int)) ∧ ((a0_).map Action.c)[((i1 : Int)).toNat]? = some [D.int .i64 (x1_.kind), D.str (x1_.pat.rel), D.sl ((x1_.pat.args).map tx)] ∧ ([D.int .i64 (x1_.kind), D.str (x1_.pat.rel), D.sl ((x1_.pat.args).map tx)] : List D).length = 3, 0 ≤ ((i1 : Int)) ∧ ((a1_).map Action.c)[((i1 : Int)).toNat]? = some [D.int .i64 (x30.kind), D.str (x30.pat.rel), D.sl ((x30.pat.args).map tx)] ∧ ([D.int .i64 (x30.kind), D.str (x30.pat.rel), D.sl ((x30.pat.args).map tx)] : List D).length = 3, Good Try.prog 80 [D.agg [D.int .i64 (x1_.kind), D.str (x1_.pat.rel), D.sl ((x1_.pat.args).map tx)], D.agg [D.int .i64 (x30.kind), D.str (x30.pat.rel), D.sl ((x30.pat.args).map tx)]] (D.bool (y32)), (!(y32)) = true] hΓ mix (by kernel_rfl) ⟨((by rw [List.length_map]; exact lt_true (drop_cons hd1).2.1)), (⟨(map_at Action.c (drop_cons hd1).1).1, (map_at Action.c (drop_cons hd1).1).2, rfl⟩), (⟨(at_ok Action.c h31).1, (at_ok Action.c h31).2, rfl⟩), (d_laws_eqAction_good h33), (h34), trivial⟩ (by first | rfl | (simp only [List.map_append, List.map_cons, List.map_nil, List.map_set] <;> rfl))
    · have t := ih1 (i1 + 1)  (drop_cons hd1).2.2 h
      refine AW_go (n := 2000) [[none]] [.b true, .n 8, .row [D.int .i64 (x1_.kind), D.str (x1_.pat.rel), D.sl ((x1_.pat.args).map tx)], .row [D.int .i64 (x30.kind), D.str (x30.pat.rel), D.sl ((x30.pat.args).map tx)], .d (D.bool (y32)), .b false, .cn [0, 1, 5] []] (.cont 0 ⟨[(0, D.sl ((a0_).map Action.c)), (1, D.sl ((a1_).map Action.c)), (5, D.int .i64 (IntKind.i64.wrap (((i1 : Int)) + (1))))], []⟩) [(decide (((i1 : Int) : Int) < ((((a0_).map Action.c).length : Int)))) = true, 0 ≤ ((i1 : Int)) ∧ ((a0_).map Action.c)[((i1 : Int)).toNat]? = some [D.int .i64 (x1_.kind), D.str (x1_.pat.rel), D.sl ((x1_.pat.args).map tx)] ∧ ([D.int .i64 (x1_.kind), D.str (x1_.pat.rel), D.sl ((x1_.pat.args).map tx)] : List D).length = 3, 0 ≤ ((i1 : Int)) ∧ ((a1_).map Action.c)[((i1 : Int)).toNat]? = some [D.int .i64 (x30.kind), D.str (x30.pat.rel), D.sl ((x30.pat.args).map tx)] ∧ ([D.int .i64 (x30.kind), D.str (x30.pat.rel), D.sl ((x30.pat.args).map tx)] : List D).length = 3, Good Try.prog 80 [D.agg [D.int .i64 (x1_.kind), D.str (x1_.pat.rel), D.sl ((x1_.pat.args).map tx)], D.agg [D.int .i64 (x30.kind), D.str (x30.pat.rel), D.sl ((x30.pat.args).map tx)]] (D.bool (y32)), (!(y32)) = false] hΓ mix (by kernel_rfl) ⟨((by rw [List.length_map]; exact lt_true (drop_cons hd1).2.1)), (⟨(map_at Action.c (drop_cons hd1).1).1, (map_at Action.c (drop_cons hd1).1).2, rfl⟩), (⟨(at_ok Action.c h31).1, (at_ok Action.c h31).2, rfl⟩), (d_laws_eqAction_good h33), (h34), trivial⟩ ?_
      refine (congrFun hS1 _).mpr ?_
      rw [i64_succ (drop_cons hd1).2.1 hm1]
      first | exact t | (simp only [List.map_append, List.map_cons, List.map_nil, List.map_set] at t ⊢; exact t)

set_option maxRecDepth 100000 in
set_option linter.unusedVariables false in
theorem d_laws_eqActionS_good {a0_ : List Action} {a1_ : List Action} {r : Bool} (h : d_laws_eqActionS a0_ a1_ = some r) : Good Try.prog 70 [D.sl ((a0_).map Action.c), D.sl ((a1_).map Action.c)] (D.bool (r)) := by
  refine Good.of (c := bodyOf Try.f70) Try.func70 rfl (by decide) (by simp [Try.f70]) ?_
  intro hr Γ hΓ
  have hΓ : Γ.nt = 27 := hΓ
  rw [d_laws_eqActionS] at h
  refine (show AW Try.prog Γ (bodyOf Try.f70) (KQ Try.prog Γ (fun _ _ => False) (RetQ Try.prog Try.f70 (D.bool (r))) []) _ from ?_)
  rcases den_if h with ⟨h1, h⟩ | ⟨h1, h⟩
  · have h := den_some h
    subst h
    exact AW_go (n := 2000) [[none]] [.b true] (.ret (D.bool (false))) [(((((a0_).map Action.c).length : Int) : Int) != ((((a1_).map Action.c).length : Int))) = true] hΓ mix (by kernel_rfl) ⟨(h1), trivial⟩ (by first | rfl | (simp only [List.map_append, List.map_cons, List.map_nil, List.map_set] <;> rfl))
  · refine AW_go (n := 2000) [[none]] [.b false, .cn [0, 1, 5] []] (.lp (dig (bodyOf Try.f70) [1, 1, 0, 1, 0, 0] []).1 (dig (bodyOf Try.f70) [1, 1, 0, 1, 0] []).2 ⟨[(0, D.sl ((a0_).map Action.c)), (1, D.sl ((a1_).map Action.c)), (5, D.int .i64 (0))], []⟩) [(((((a0_).map Action.c).length : Int) : Int) != ((((a1_).map Action.c).length : Int))) = false] hΓ mix (by kernel_rfl) ⟨(h1), trivial⟩ (AW_st (by first | rfl | (simp only [List.map_append, List.map_cons, List.map_nil, List.map_set, List.map_replicate] <;> rfl)) (AW_of_r (d_laws_eqActionS_L1w hΓ (fun h => ?_) (by have := (Rdb.sl (hr _ (List.mem_of_getElem? (i := 0) rfl))).1; simpa using this) (a0_) 0  rfl h)))
    have h := den_some h
    subst h
    exact AW_go (n := 2000) [[none]] [] (.ret (D.bool (true))) [] hΓ mix (by kernel_rfl) trivial (by first | rfl | (simp only [List.map_append, List.map_cons, List.map_nil, List.map_set] <;> rfl))

def d_laws_eqRule (a0_ : Rule) (a1_ : Rule) : Option Bool := (bif !((a0_.name : Bytes) == (a1_.name)) then (some (false)) else (bif (a0_.prio : Int) != (a1_.prio) then (some (false)) else ((d_laws_eqCondS (a0_.conds) (a1_.conds)).bind fun y3 => (bif !(y3) then (some (false)) else ((d_laws_eqActionS (a0_.acts) (a1_.acts)).bind fun y6 => (bif !(y6) then (some (false)) else (some (true))))))))
set_option maxRecDepth 100000 in
set_option linter.unusedVariables false in
theorem d_laws_eqRule_good {a0_ : Rule} {a1_ : Rule} {r : Bool} (h : d_laws_eqRule a0_ a1_ = some r) : Good Try.prog 45 [D.agg [D.str (a0_.name), D.int .i64 (a0_.prio), D.sl ((a0_.conds).map Cond.c), D.sl ((a0_.acts).map Action.c)], D.agg [D.str (a1_.name), D.int .i64 (a1_.prio), D.sl ((a1_.conds).map Cond.c), D.sl ((a1_.acts).map Action.c)]] (D.bool (r)) := by
  refine Good.of (c := bodyOf Try.f45) Try.func45 rfl (by decide) (by simp [Try.f45]) ?_
  intro hr Γ hΓ
  have hΓ : Γ.nt = 27 := hΓ
  rw [d_laws_eqRule] at h
  refine (show AW Try.prog Γ (bodyOf Try.f45) (KQ Try.prog Γ (fun _ _ => False) (RetQ Try.prog Try.f45 (D.bool (r))) []) _ from ?_)
  rcases den_if h with ⟨h1, h⟩ | ⟨h1, h⟩
  · have h := den_some h
    subst h
    exact AW_go (n := 2000) [[none]] [.b true] (.ret (D.bool (false))) [(!((a0_.name : Bytes) == (a1_.name))) = true] hΓ mix (by kernel_rfl) ⟨(h1), trivial⟩ (by first | rfl | (simp only [List.map_append, List.map_cons, List.map_nil, List.map_set] <;> rfl))
  · rcases den_if h with ⟨h2, h⟩ | ⟨h2, h⟩
    · have h := den_some h
      subst h
      exact AW_go (n := 2000) [[none]] [.b false, .b true] (.ret (D.bool (false))) [(!((a0_.name : Bytes) == (a1_.name))) = false, ((a0_.prio : Int) != (a1_.prio)) = true] hΓ mix (by kernel_rfl) ⟨(h1), (h2), trivial⟩ (by first | rfl | (simp only [List.map_append, List.map_cons, List.map_nil, List.map_set] <;> rfl))
    · obtain ⟨y3, h4, h⟩ := den_bind h
      rcases den_if h with ⟨h5, h⟩ | ⟨h5, h⟩
      · have h := den_some h
        subst h
        exact AW_go (n := 2000) [[none]] [.b false, .b false, .d (D.bool (y3)), .b true] (.ret (D.bool (false))) [(!((a0_.name : Bytes) == (a1_.name))) = false, ((a0_.prio : Int) != (a1_.prio)) = false, Good Try.prog 69 [D.sl ((a0_.conds).map Cond.c), D.sl ((a1_.conds).map Cond.c)] (D.bool (y3)), (!(y3)) = true] hΓ mix (by kernel_rfl) ⟨(h1), (h2), (d_laws_eqCondS_good h4), (h5), trivial⟩ (by first | rfl | (simp only [List.map_append, List.map_cons, List.map_nil, List.map_set] <;> rfl))
      · obtain ⟨y6, h7, h⟩ := den_bind h
        rcases den_if h with ⟨h8, h⟩ | ⟨h8, h⟩
        · have h := den_some h
          subst h
          exact AW_go (n := 2000) [[none]] [.b false, .b false, .d (D.bool (y3)), .b false, .d (D.bool (y6)), .b true] (.ret (D.bool (false))) [(!((a0_.name : Bytes) == (a1_.name))) = false, ((a0_.prio : Int) != (a1_.prio)) = false, Good Try.prog 69 [D.sl ((a0_.conds).map Cond.c), D.sl ((a1_.conds).map Cond.c)] (D.bool (y3)), (!(y3)) = false, Good Try.prog 70 [D.sl ((a0_.acts).map Action.c), D.sl ((a1_.acts).map Action.c)] (D.bool (y6)), (!(y6)) = true] hΓ mix (by kernel_rfl) ⟨(h1), (h2), (d_laws_eqCondS_good h4), (h5), (d_laws_eqActionS_good h7), (h8), trivial⟩ (by first | rfl | (simp only [List.map_append, List.map_cons, List.map_nil, List.map_set] <;> rfl))
        · have h := den_some h
          subst h
          exact AW_go (n := 2000) [[none]] [.b false, .b false, .d (D.bool (y3)), .b false, .d (D.bool (y6)), .b false] (.ret (D.bool (true))) [(!((a0_.name : Bytes) == (a1_.name))) = false, ((a0_.prio : Int) != (a1_.prio)) = false, Good Try.prog 69 [D.sl ((a0_.conds).map Cond.c), D.sl ((a1_.conds).map Cond.c)] (D.bool (y3)), (!(y3)) = false, Good Try.prog 70 [D.sl ((a0_.acts).map Action.c), D.sl ((a1_.acts).map Action.c)] (D.bool (y6)), (!(y6)) = false] hΓ mix (by kernel_rfl) ⟨(h1), (h2), (d_laws_eqCondS_good h4), (h5), (d_laws_eqActionS_good h7), (h8), trivial⟩ (by first | rfl | (simp only [List.map_append, List.map_cons, List.map_nil, List.map_set] <;> rfl))

def d_laws_eqRuleS_L1 (a0_ : List Rule) (a1_ : List Rule) (k1 : Option Bool) : List Rule → Nat → Option Bool
  | [], i1 => (k1 )
  | x1_ :: xs1, i1 => ((atI (a1_) ((i1 : Int))).bind fun x30 => ((d_laws_eqRule (x1_) (x30)).bind fun y32 => (bif !(y32) then (some (false)) else (d_laws_eqRuleS_L1 a0_ a1_ k1 xs1 (i1 + 1) ))))

def d_laws_eqRuleS (a0_ : List Rule) (a1_ : List Rule) : Option Bool := (bif ((((a0_).map Rule.c).length : Int) : Int) != ((((a1_).map Rule.c).length : Int)) then (some (false)) else (d_laws_eqRuleS_L1 a0_ a1_ (some (true)) (a0_) 0 ))
set_option maxRecDepth 100000 in
set_option linter.unusedVariables false in
theorem d_laws_eqRuleS_L1w {Γ : Ctx} (hΓ : Γ.nt = 27) {N : Nat → St → Prop} {a0_ : List Rule} {a1_ : List Rule} {r : Bool} {k1 : Option Bool} (hE1 : k1 = some r → AW Try.prog Γ (dig (bodyOf Try.f22) [1, 1, 1] []).1 (KQ Try.prog Γ N (RetQ Try.prog Try.f22 (D.bool (r))) (dig (bodyOf Try.f22) [1, 1, 1] []).2) ⟨[], []⟩) (hm1 : (a0_).length ≤ maxLen) : ∀ (rest : List Rule) (i1 : Nat) , (a0_).drop i1 = rest → d_laws_eqRuleS_L1 a0_ a1_ k1 rest i1  = some r → AWr Try.prog Γ (dig (bodyOf Try.f22) [1, 1, 0, 1, 0, 0] []).1 (KQ Try.prog Γ N (RetQ Try.prog Try.f22 (D.bool (r))) (dig (bodyOf Try.f22) [1, 1, 0, 1, 0] []).2) (rest.length + 1) ⟨[(0, D.sl ((a0_).map Rule.c)), (1, D.sl ((a1_).map Rule.c)), (5, D.int .i64 ((i1 : Int)))], []⟩ := by
  intro rest
  induction rest with
  | nil =>
    intro i1  hd1 h
    rw [d_laws_eqRuleS_L1] at h
    refine AWr_succ fun N1 hN1 hS1 => ?_
    have t := AW_N (N := N) (N' := N1) (K0 := (dig (bodyOf Try.f22) [1, 1, 0, 1, 0] []).2) (by kernel_rfl) hN1 (hE1  h)
    refine AW_go (n := 2000) [[none]] [.b false, .hl 0 [] []] (.at_ (dig (bodyOf Try.f22) [1, 1, 1] []).1 (dig (bodyOf Try.f22) [1, 1, 1] []).2 ⟨[], []⟩) [(decide (((i1 : Int) : Int) < ((((a0_).map Rule.c).length : Int)))) = false] hΓ mix (by kernel_rfl) ⟨((by rw [List.length_map]; exact lt_false (drop_nil hd1))), trivial⟩ ?_
    first | exact t | (simp only [List.map_append, List.map_cons, List.map_nil, List.map_set] at t ⊢; exact t)
  | cons x1_ xs1 ih1 =>
    intro i1  hd1 h
    rw [d_laws_eqRuleS_L1] at h
    refine AWr_succ fun N1 hN1 hS1 => ?_
    obtain ⟨x30, h31, h⟩ := den_bind h
    obtain ⟨y32, h33, h⟩ := den_bind h
    rcases den_if h with ⟨h34, h⟩ | ⟨h34, h⟩
    · have h := den_some h
      subst h
      exact AW_go (n := 2000) [[none]] [.b true, .n 8, .row [D.str (x1_.name), D.int .i64 (x1_.prio), D.sl ((x1_.conds).map Cond.c), D.sl ((x1_.acts).map Action.c)], .row [D.str (x30.name), D.int .i64 (x30.prio), D.sl ((x30.conds).map Cond.c), D.sl ((x30.acts).map Action.c)], .d (D.bool (y32)), .b true] (.ret (D.bool (false))) [(decide (((i1 : Int) : Int) < ((((a0_).map Rule.c).length : Int)))) = true, 0 ≤ ((i1 : Int)) ∧ ((a0_).map Rule.c)[((i1 : Int)).toNat]? = some [D.str (x1_.name), D.int .i64 (x1_.prio), D.sl ((x1_.conds).map Cond.c), D.sl ((x1_.acts).map Action.c)] ∧ ([D.str (x1_.name), D.int .i64 (x1_.prio), D.sl ((x1_.conds).map Cond.c), D.sl ((x1_.acts).map Action.c)] : List D).length = 4, 0 ≤ ((i1 : Int)) ∧ ((a1_).map Rule.c)[((i1 : Int)).toNat]? = some [D.str (x30.name), D.int .i64 (x30.prio), D.sl ((x30.conds).map Cond.c), D.sl ((x30.acts).map Action.c)] ∧ ([D.str (x30.name), D.int .i64 (x30.prio), D.sl ((x30.conds).map Cond.c), D.sl ((x30.acts).map Action.c)] : List D).length = 4, Good Try.prog 45 [D.agg [D.str (x1_.name), D.int .i64 (x1_.prio), D.sl ((x1_.conds).map Cond.c), D.sl ((x1_.acts).map Action.c)], D.agg [D.str (x30.name), D.int .i64 (x30.prio), D.sl ((x30.conds).map Cond.c), D.sl ((x30.acts).map Action.c)]] (D.bool (y32)), (!(y32)) = true] hΓ mix (by kernel_rfl) ⟨((by rw [List.length_map]; exact lt_true (drop_cons hd1).2.1)), (⟨(map_at Rule.c (drop_cons hd1).1).1, (map_at Rule.c (drop_cons hd1).1).2, rfl⟩), (⟨(at_ok Rule.c h31).1, (at_ok Rule.c h31).2, rfl⟩), (d_laws_eqRule_good h33), (h34), trivial⟩ (by first | rfl | (simp only [List.map_append, List.map_cons, List.map_nil, List.map_set] <;> rfl))
    · have t := ih1 (i1 + 1)  (drop_cons hd1).2.2 h
      refine AW_go (n := 2000) [[none]] [.b true, .n 8, .row [D.str (x1_.name), D.int .i64 (x1_.prio), D.sl ((x1_.conds).map Cond.c), D.sl ((x1_.acts).map Action.c)], .row [D.str (x30.name), D.int .i64 (x30.prio), D.sl ((x30.conds).map Cond.c), D.sl ((x30.acts).map Action.c)], .d (D.bool (y32)), .b false, .cn [0, 1, 5] []] (.cont 0 ⟨[(0, D.sl ((a0_).map Rule.c)), (1, D.sl ((a1_).map Rule.c)), (5, D.int .i64 (IntKind.i64.wrap (((i1 : Int)) + (1))))], []⟩) [(decide (((i1 : Int) : Int) < ((((a0_).map Rule.c).length : Int)))) = true, 0 ≤ ((i1 : Int)) ∧ ((a0_).map Rule.c)[((i1 : Int)).toNat]? = some [D.str (x1_.name), D.int .i64 (x1_.prio), D.sl ((x1_.conds).map Cond.c), D.sl ((x1_.acts).map Action.c)] ∧ ([D.str (x1_.name), D.int .i64 (x1_.prio), D.sl ((x1_.conds).map Cond.c), D.sl ((x1_.acts).map Action.c)] : List D).length = 4, 0 ≤ ((i1 : Int)) ∧ ((a1_).map Rule.c)[((i1 : Int)).toNat]? = some [D.str (x30.name), D.int .i64 (x30.prio), D.sl ((x30.conds).map Cond.c), D.sl ((x30.acts).map Action.c)] ∧ ([D.str (x30.name), D.int .i64 (x30.prio), D.sl ((x30.conds).map Cond.c), D.sl ((x30.acts).map Action.c)] : List D).length = 4, Good Try.prog 45 [D.agg [D.str (x1_.name), D.int .i64 (x1_.prio), D.sl ((x1_.conds).map Cond.c), D.sl ((x1_.acts).map Action.c)], D.agg [D.str (x30.name), D.int .i64 (x30.prio), D.sl ((x30.conds).map Cond.c), D.sl ((x30.acts).map Action.c)]] (D.bool (y32)), (!(y32)) = false] hΓ mix (by kernel_rfl) ⟨((by rw [List.length_map]; exact lt_true (drop_cons hd1).2.1)), (⟨(map_at Rule.c (drop_cons hd1).1).1, (map_at Rule.c (drop_cons hd1).1).2, rfl⟩), (⟨(at_ok Rule.c h31).1, (at_ok Rule.c h31).2, rfl⟩), (d_laws_eqRule_good h33), (h34), trivial⟩ ?_
      refine (congrFun hS1 _).mpr ?_
      rw [i64_succ (drop_cons hd1).2.1 hm1]
      first | exact t | (simp only [List.map_append, List.map_cons, List.map_nil, List.map_set] at t ⊢; exact t)

set_option maxRecDepth 100000 in
set_option linter.unusedVariables false in
theorem d_laws_eqRuleS_good {a0_ : List Rule} {a1_ : List Rule} {r : Bool} (h : d_laws_eqRuleS a0_ a1_ = some r) : Good Try.prog 22 [D.sl ((a0_).map Rule.c), D.sl ((a1_).map Rule.c)] (D.bool (r)) := by
  refine Good.of (c := bodyOf Try.f22) Try.func22 rfl (by decide) (by simp [Try.f22]) ?_
  intro hr Γ hΓ
  have hΓ : Γ.nt = 27 := hΓ
  rw [d_laws_eqRuleS] at h
  refine (show AW Try.prog Γ (bodyOf Try.f22) (KQ Try.prog Γ (fun _ _ => False) (RetQ Try.prog Try.f22 (D.bool (r))) []) _ from ?_)
  rcases den_if h with ⟨h1, h⟩ | ⟨h1, h⟩
  · have h := den_some h
    subst h
    exact AW_go (n := 2000) [[none]] [.b true] (.ret (D.bool (false))) [(((((a0_).map Rule.c).length : Int) : Int) != ((((a1_).map Rule.c).length : Int))) = true] hΓ mix (by kernel_rfl) ⟨(h1), trivial⟩ (by first | rfl | (simp only [List.map_append, List.map_cons, List.map_nil, List.map_set] <;> rfl))
  · refine AW_go (n := 2000) [[none]] [.b false, .cn [0, 1, 5] []] (.lp (dig (bodyOf Try.f22) [1, 1, 0, 1, 0, 0] []).1 (dig (bodyOf Try.f22) [1, 1, 0, 1, 0] []).2 ⟨[(0, D.sl ((a0_).map Rule.c)), (1, D.sl ((a1_).map Rule.c)), (5, D.int .i64 (0))], []⟩) [(((((a0_).map Rule.c).length : Int) : Int) != ((((a1_).map Rule.c).length : Int))) = false] hΓ mix (by kernel_rfl) ⟨(h1), trivial⟩ (AW_st (by first | rfl | (simp only [List.map_append, List.map_cons, List.map_nil, List.map_set, List.map_replicate] <;> rfl)) (AW_of_r (d_laws_eqRuleS_L1w hΓ (fun h => ?_) (by have := (Rdb.sl (hr _ (List.mem_of_getElem? (i := 0) rfl))).1; simpa using this) (a0_) 0  rfl h)))
    have h := den_some h
    subst h
    exact AW_go (n := 2000) [[none]] [] (.ret (D.bool (true))) [] hΓ mix (by kernel_rfl) trivial (by first | rfl | (simp only [List.map_append, List.map_cons, List.map_nil, List.map_set] <;> rfl))

def d_laws_eqIntS_L1 (a0_ : List Int) (a1_ : List Int) (k1 : Option Bool) : List Int → Nat → Option Bool
  | [], i1 => (k1 )
  | x1_ :: xs1, i1 => ((atI (a1_) ((i1 : Int))).bind fun x22 => (bif (x1_ : Int) != (x22) then (some (false)) else (d_laws_eqIntS_L1 a0_ a1_ k1 xs1 (i1 + 1) )))

def d_laws_eqIntS (a0_ : List Int) (a1_ : List Int) : Option Bool := (bif ((((a0_).map ixx).length : Int) : Int) != ((((a1_).map ixx).length : Int)) then (some (false)) else (d_laws_eqIntS_L1 a0_ a1_ (some (true)) (a0_) 0 ))
set_option maxRecDepth 100000 in
set_option linter.unusedVariables false in
theorem d_laws_eqIntS_L1w {Γ : Ctx} (hΓ : Γ.nt = 26) {N : Nat → St → Prop} {a0_ : List Int} {a1_ : List Int} {r : Bool} {k1 : Option Bool} (hE1 : k1 = some r → AW Try.prog Γ (dig (bodyOf Try.f23) [1, 1, 1] []).1 (KQ Try.prog Γ N (RetQ Try.prog Try.f23 (D.bool (r))) (dig (bodyOf Try.f23) [1, 1, 1] []).2) ⟨[], []⟩) (hm1 : (a0_).length ≤ maxLen) : ∀ (rest : List Int) (i1 : Nat) , (a0_).drop i1 = rest → d_laws_eqIntS_L1 a0_ a1_ k1 rest i1  = some r → AWr Try.prog Γ (dig (bodyOf Try.f23) [1, 1, 0, 1, 0, 0] []).1 (KQ Try.prog Γ N (RetQ Try.prog Try.f23 (D.bool (r))) (dig (bodyOf Try.f23) [1, 1, 0, 1, 0] []).2) (rest.length + 1) ⟨[(0, D.sl ((a0_).map ixx)), (1, D.sl ((a1_).map ixx)), (5, D.int .i64 ((i1 : Int)))], []⟩ := by
  intro rest
  induction rest with
  | nil =>
    intro i1  hd1 h
    rw [d_laws_eqIntS_L1] at h
    refine AWr_succ fun N1 hN1 hS1 => ?_
    have t := AW_N (N := N) (N' := N1) (K0 := (dig (bodyOf Try.f23) [1, 1, 0, 1, 0] []).2) (by kernel_rfl) hN1 (hE1  h)
    refine AW_go (n := 2000) [[none]] [.b false, .hl 0 [] []] (.at_ (dig (bodyOf Try.f23) [1, 1, 1] []).1 (dig (bodyOf Try.f23) [1, 1, 1] []).2 ⟨[], []⟩) [(decide (((i1 : Int) : Int) < ((((a0_).map ixx).length : Int)))) = false] hΓ mix (by kernel_rfl) ⟨((by rw [List.length_map]; exact lt_false (drop_nil hd1))), trivial⟩ ?_
    first | exact t | (simp only [List.map_append, List.map_cons, List.map_nil, List.map_set] at t ⊢; exact t)
  | cons x1_ xs1 ih1 =>
    intro i1  hd1 h
    rw [d_laws_eqIntS_L1] at h
    refine AWr_succ fun N1 hN1 hS1 => ?_
    obtain ⟨x22, h23, h⟩ := den_bind h
    rcases den_if h with ⟨h24, h⟩ | ⟨h24, h⟩
    · have h := den_some h
      subst h
      exact AW_go (n := 2000) [[none]] [.b true, .n 8, .row [D.int .i64 (x1_)], .row [D.int .i64 (x22)], .b true] (.ret (D.bool (false))) [(decide (((i1 : Int) : Int) < ((((a0_).map ixx).length : Int)))) = true, 0 ≤ ((i1 : Int)) ∧ ((a0_).map ixx)[((i1 : Int)).toNat]? = some [D.int .i64 (x1_)] ∧ ([D.int .i64 (x1_)] : List D).length = 1, 0 ≤ ((i1 : Int)) ∧ ((a1_).map ixx)[((i1 : Int)).toNat]? = some [D.int .i64 (x22)] ∧ ([D.int .i64 (x22)] : List D).length = 1, ((x1_ : Int) != (x22)) = true] hΓ mix (by kernel_rfl) ⟨((by rw [List.length_map]; exact lt_true (drop_cons hd1).2.1)), (⟨(map_at ixx (drop_cons hd1).1).1, (map_at ixx (drop_cons hd1).1).2, rfl⟩), (⟨(at_ok ixx h23).1, (at_ok ixx h23).2, rfl⟩), (h24), trivial⟩ (by first | rfl | (simp only [List.map_append, List.map_cons, List.map_nil, List.map_set] <;> rfl))
    · have t := ih1 (i1 + 1)  (drop_cons hd1).2.2 h
      refine AW_go (n := 2000) [[none]] [.b true, .n 8, .row [D.int .i64 (x1_)], .row [D.int .i64 (x22)], .b false, .cn [0, 1, 5] []] (.cont 0 ⟨[(0, D.sl ((a0_).map ixx)), (1, D.sl ((a1_).map ixx)), (5, D.int .i64 (IntKind.i64.wrap (((i1 : Int)) + (1))))], []⟩) [(decide (((i1 : Int) : Int) < ((((a0_).map ixx).length : Int)))) = true, 0 ≤ ((i1 : Int)) ∧ ((a0_).map ixx)[((i1 : Int)).toNat]? = some [D.int .i64 (x1_)] ∧ ([D.int .i64 (x1_)] : List D).length = 1, 0 ≤ ((i1 : Int)) ∧ ((a1_).map ixx)[((i1 : Int)).toNat]? = some [D.int .i64 (x22)] ∧ ([D.int .i64 (x22)] : List D).length = 1, ((x1_ : Int) != (x22)) = false] hΓ mix (by kernel_rfl) ⟨((by rw [List.length_map]; exact lt_true (drop_cons hd1).2.1)), (⟨(map_at ixx (drop_cons hd1).1).1, (map_at ixx (drop_cons hd1).1).2, rfl⟩), (⟨(at_ok ixx h23).1, (at_ok ixx h23).2, rfl⟩), (h24), trivial⟩ ?_
      refine (congrFun hS1 _).mpr ?_
      rw [i64_succ (drop_cons hd1).2.1 hm1]
      first | exact t | (simp only [List.map_append, List.map_cons, List.map_nil, List.map_set] at t ⊢; exact t)

set_option maxRecDepth 100000 in
set_option linter.unusedVariables false in
theorem d_laws_eqIntS_good {a0_ : List Int} {a1_ : List Int} {r : Bool} (h : d_laws_eqIntS a0_ a1_ = some r) : Good Try.prog 23 [D.sl ((a0_).map ixx), D.sl ((a1_).map ixx)] (D.bool (r)) := by
  refine Good.of (c := bodyOf Try.f23) Try.func23 rfl (by decide) (by simp [Try.f23]) ?_
  intro hr Γ hΓ
  have hΓ : Γ.nt = 26 := hΓ
  rw [d_laws_eqIntS] at h
  refine (show AW Try.prog Γ (bodyOf Try.f23) (KQ Try.prog Γ (fun _ _ => False) (RetQ Try.prog Try.f23 (D.bool (r))) []) _ from ?_)
  rcases den_if h with ⟨h1, h⟩ | ⟨h1, h⟩
  · have h := den_some h
    subst h
    exact AW_go (n := 2000) [[none]] [.b true] (.ret (D.bool (false))) [(((((a0_).map ixx).length : Int) : Int) != ((((a1_).map ixx).length : Int))) = true] hΓ mix (by kernel_rfl) ⟨(h1), trivial⟩ (by first | rfl | (simp only [List.map_append, List.map_cons, List.map_nil, List.map_set] <;> rfl))
  · refine AW_go (n := 2000) [[none]] [.b false, .cn [0, 1, 5] []] (.lp (dig (bodyOf Try.f23) [1, 1, 0, 1, 0, 0] []).1 (dig (bodyOf Try.f23) [1, 1, 0, 1, 0] []).2 ⟨[(0, D.sl ((a0_).map ixx)), (1, D.sl ((a1_).map ixx)), (5, D.int .i64 (0))], []⟩) [(((((a0_).map ixx).length : Int) : Int) != ((((a1_).map ixx).length : Int))) = false] hΓ mix (by kernel_rfl) ⟨(h1), trivial⟩ (AW_st (by first | rfl | (simp only [List.map_append, List.map_cons, List.map_nil, List.map_set, List.map_replicate] <;> rfl)) (AW_of_r (d_laws_eqIntS_L1w hΓ (fun h => ?_) (by have := (Rdb.sl (hr _ (List.mem_of_getElem? (i := 0) rfl))).1; simpa using this) (a0_) 0  rfl h)))
    have h := den_some h
    subst h
    exact AW_go (n := 2000) [[none]] [] (.ret (D.bool (true))) [] hΓ mix (by kernel_rfl) trivial (by first | rfl | (simp only [List.map_append, List.map_cons, List.map_nil, List.map_set] <;> rfl))

def d_laws_eqFact (a0_ : Fact) (a1_ : Fact) : Option Bool := (bif !((a0_.rel : Bytes) == (a1_.rel)) then (some (false)) else ((d_laws_eqStringS (a0_.args) (a1_.args)).bind fun y2 => (bif !(y2) then (some (false)) else (some (true)))))
set_option maxRecDepth 100000 in
set_option linter.unusedVariables false in
theorem d_laws_eqFact_good {a0_ : Fact} {a1_ : Fact} {r : Bool} (h : d_laws_eqFact a0_ a1_ = some r) : Good Try.prog 48 [D.agg [D.str (a0_.rel), D.sl ((a0_.args).map tx)], D.agg [D.str (a1_.rel), D.sl ((a1_.args).map tx)]] (D.bool (r)) := by
  refine Good.of (c := bodyOf Try.f48) Try.func48 rfl (by decide) (by simp [Try.f48]) ?_
  intro hr Γ hΓ
  have hΓ : Γ.nt = 16 := hΓ
  rw [d_laws_eqFact] at h
  refine (show AW Try.prog Γ (bodyOf Try.f48) (KQ Try.prog Γ (fun _ _ => False) (RetQ Try.prog Try.f48 (D.bool (r))) []) _ from ?_)
  rcases den_if h with ⟨h1, h⟩ | ⟨h1, h⟩
  · have h := den_some h
    subst h
    exact AW_go (n := 2000) [[none]] [.b true] (.ret (D.bool (false))) [(!((a0_.rel : Bytes) == (a1_.rel))) = true] hΓ mix (by kernel_rfl) ⟨(h1), trivial⟩ (by first | rfl | (simp only [List.map_append, List.map_cons, List.map_nil, List.map_set] <;> rfl))
  · obtain ⟨y2, h3, h⟩ := den_bind h
    rcases den_if h with ⟨h4, h⟩ | ⟨h4, h⟩
    · have h := den_some h
      subst h
      exact AW_go (n := 2000) [[none]] [.b false, .d (D.bool (y2)), .b true] (.ret (D.bool (false))) [(!((a0_.rel : Bytes) == (a1_.rel))) = false, Good Try.prog 74 [D.sl ((a0_.args).map tx), D.sl ((a1_.args).map tx)] (D.bool (y2)), (!(y2)) = true] hΓ mix (by kernel_rfl) ⟨(h1), (d_laws_eqStringS_good h3), (h4), trivial⟩ (by first | rfl | (simp only [List.map_append, List.map_cons, List.map_nil, List.map_set] <;> rfl))
    · have h := den_some h
      subst h
      exact AW_go (n := 2000) [[none]] [.b false, .d (D.bool (y2)), .b false] (.ret (D.bool (true))) [(!((a0_.rel : Bytes) == (a1_.rel))) = false, Good Try.prog 74 [D.sl ((a0_.args).map tx), D.sl ((a1_.args).map tx)] (D.bool (y2)), (!(y2)) = false] hΓ mix (by kernel_rfl) ⟨(h1), (d_laws_eqStringS_good h3), (h4), trivial⟩ (by first | rfl | (simp only [List.map_append, List.map_cons, List.map_nil, List.map_set] <;> rfl))

def d_laws_eqFactS_L1 (a0_ : List Fact) (a1_ : List Fact) (k1 : Option Bool) : List Fact → Nat → Option Bool
  | [], i1 => (k1 )
  | x1_ :: xs1, i1 => ((atI (a1_) ((i1 : Int))).bind fun x30 => ((d_laws_eqFact (x1_) (x30)).bind fun y32 => (bif !(y32) then (some (false)) else (d_laws_eqFactS_L1 a0_ a1_ k1 xs1 (i1 + 1) ))))

def d_laws_eqFactS (a0_ : List Fact) (a1_ : List Fact) : Option Bool := (bif ((((a0_).map Fact.c).length : Int) : Int) != ((((a1_).map Fact.c).length : Int)) then (some (false)) else (d_laws_eqFactS_L1 a0_ a1_ (some (true)) (a0_) 0 ))
set_option maxRecDepth 100000 in
set_option linter.unusedVariables false in
theorem d_laws_eqFactS_L1w {Γ : Ctx} (hΓ : Γ.nt = 27) {N : Nat → St → Prop} {a0_ : List Fact} {a1_ : List Fact} {r : Bool} {k1 : Option Bool} (hE1 : k1 = some r → AW Try.prog Γ (dig (bodyOf Try.f26) [1, 1, 1] []).1 (KQ Try.prog Γ N (RetQ Try.prog Try.f26 (D.bool (r))) (dig (bodyOf Try.f26) [1, 1, 1] []).2) ⟨[], []⟩) (hm1 : (a0_).length ≤ maxLen) : ∀ (rest : List Fact) (i1 : Nat) , (a0_).drop i1 = rest → d_laws_eqFactS_L1 a0_ a1_ k1 rest i1  = some r → AWr Try.prog Γ (dig (bodyOf Try.f26) [1, 1, 0, 1, 0, 0] []).1 (KQ Try.prog Γ N (RetQ Try.prog Try.f26 (D.bool (r))) (dig (bodyOf Try.f26) [1, 1, 0, 1, 0] []).2) (rest.length + 1) ⟨[(0, D.sl ((a0_).map Fact.c)), (1, D.sl ((a1_).map Fact.c)), (5, D.int .i64 ((i1 : Int)))], []⟩ := by
  intro rest
  induction rest with
  | nil =>
    intro i1  hd1 h
    rw [d_laws_eqFactS_L1] at h
    refine AWr_succ fun N1 hN1 hS1 => ?_
    have t := AW_N (N := N) (N' := N1) (K0 := (dig (bodyOf Try.f26) [1, 1, 0, 1, 0] []).2) (by kernel_rfl) hN1 (hE1  h)
    refine AW_go (n := 2000) [[none]] [.b false, .hl 0 [] []] (.at_ (dig (bodyOf Try.f26) [1, 1, 1] []).1 (dig (bodyOf Try.f26) [1, 1, 1] []).2 ⟨[], []⟩) [(decide (((i1 : Int) : Int) < ((((a0_).map Fact.c).length : Int)))) = false] hΓ mix (by kernel_rfl) ⟨((by rw [List.length_map]; exact lt_false (drop_nil hd1))), trivial⟩ ?_
    first | exact t | (simp only [List.map_append, List.map_cons, List.map_nil, List.map_set] at t ⊢; exact t)
  | cons x1_ xs1 ih1 =>
    intro i1  hd1 h
    rw [d_laws_eqFactS_L1] at h
    refine AWr_succ fun N1 hN1 hS1 => ?_
    obtain ⟨x30, h31, h⟩ := den_bind h
    obtain ⟨y32, h33, h⟩ := den_bind h
    rcases den_if h with ⟨h34, h⟩ | ⟨h34, h⟩
    · have h := den_some h
      subst h
      exact AW_go (n := 2000) [[none]] [.b true, .n 8, .row [D.str (x1_.rel), D.sl ((x1_.args).map tx)], .row [D.str (x30.rel), D.sl ((x30.args).map tx)], .d (D.bool (y32)), .b true] (.ret (D.bool (false))) [(decide (((i1 : Int) : Int) < ((((a0_).map Fact.c).length : Int)))) = true, 0 ≤ ((i1 : Int)) ∧ ((a0_).map Fact.c)[((i1 : Int)).toNat]? = some [D.str (x1_.rel), D.sl ((x1_.args).map tx)] ∧ ([D.str (x1_.rel), D.sl ((x1_.args).map tx)] : List D).length = 2, 0 ≤ ((i1 : Int)) ∧ ((a1_).map Fact.c)[((i1 : Int)).toNat]? = some [D.str (x30.rel), D.sl ((x30.args).map tx)] ∧ ([D.str (x30.rel), D.sl ((x30.args).map tx)] : List D).length = 2, Good Try.prog 48 [D.agg [D.str (x1_.rel), D.sl ((x1_.args).map tx)], D.agg [D.str (x30.rel), D.sl ((x30.args).map tx)]] (D.bool (y32)), (!(y32)) = true] hΓ mix (by kernel_rfl) ⟨((by rw [List.length_map]; exact lt_true (drop_cons hd1).2.1)), (⟨(map_at Fact.c (drop_cons hd1).1).1, (map_at Fact.c (drop_cons hd1).1).2, rfl⟩), (⟨(at_ok Fact.c h31).1, (at_ok Fact.c h31).2, rfl⟩), (d_laws_eqFact_good h33), (h34), trivial⟩ (by first | rfl | (simp only [List.map_append, List.map_cons, List.map_nil, List.map_set] <;> rfl))
    · have t := ih1 (i1 + 1)  (drop_cons hd1).2.2 h
      refine AW_go (n := 2000) [[none]] [.b true, .n 8, .row [D.str (x1_.rel), D.sl ((x1_.args).map tx)], .row [D.str (x30.rel), D.sl ((x30.args).map tx)], .d (D.bool (y32)), .b false, .cn [0, 1, 5] []] (.cont 0 ⟨[(0, D.sl ((a0_).map Fact.c)), (1, D.sl ((a1_).map Fact.c)), (5, D.int .i64 (IntKind.i64.wrap (((i1 : Int)) + (1))))], []⟩) [(decide (((i1 : Int) : Int) < ((((a0_).map Fact.c).length : Int)))) = true, 0 ≤ ((i1 : Int)) ∧ ((a0_).map Fact.c)[((i1 : Int)).toNat]? = some [D.str (x1_.rel), D.sl ((x1_.args).map tx)] ∧ ([D.str (x1_.rel), D.sl ((x1_.args).map tx)] : List D).length = 2, 0 ≤ ((i1 : Int)) ∧ ((a1_).map Fact.c)[((i1 : Int)).toNat]? = some [D.str (x30.rel), D.sl ((x30.args).map tx)] ∧ ([D.str (x30.rel), D.sl ((x30.args).map tx)] : List D).length = 2, Good Try.prog 48 [D.agg [D.str (x1_.rel), D.sl ((x1_.args).map tx)], D.agg [D.str (x30.rel), D.sl ((x30.args).map tx)]] (D.bool (y32)), (!(y32)) = false] hΓ mix (by kernel_rfl) ⟨((by rw [List.length_map]; exact lt_true (drop_cons hd1).2.1)), (⟨(map_at Fact.c (drop_cons hd1).1).1, (map_at Fact.c (drop_cons hd1).1).2, rfl⟩), (⟨(at_ok Fact.c h31).1, (at_ok Fact.c h31).2, rfl⟩), (d_laws_eqFact_good h33), (h34), trivial⟩ ?_
      refine (congrFun hS1 _).mpr ?_
      rw [i64_succ (drop_cons hd1).2.1 hm1]
      first | exact t | (simp only [List.map_append, List.map_cons, List.map_nil, List.map_set] at t ⊢; exact t)

set_option maxRecDepth 100000 in
set_option linter.unusedVariables false in
theorem d_laws_eqFactS_good {a0_ : List Fact} {a1_ : List Fact} {r : Bool} (h : d_laws_eqFactS a0_ a1_ = some r) : Good Try.prog 26 [D.sl ((a0_).map Fact.c), D.sl ((a1_).map Fact.c)] (D.bool (r)) := by
  refine Good.of (c := bodyOf Try.f26) Try.func26 rfl (by decide) (by simp [Try.f26]) ?_
  intro hr Γ hΓ
  have hΓ : Γ.nt = 27 := hΓ
  rw [d_laws_eqFactS] at h
  refine (show AW Try.prog Γ (bodyOf Try.f26) (KQ Try.prog Γ (fun _ _ => False) (RetQ Try.prog Try.f26 (D.bool (r))) []) _ from ?_)
  rcases den_if h with ⟨h1, h⟩ | ⟨h1, h⟩
  · have h := den_some h
    subst h
    exact AW_go (n := 2000) [[none]] [.b true] (.ret (D.bool (false))) [(((((a0_).map Fact.c).length : Int) : Int) != ((((a1_).map Fact.c).length : Int))) = true] hΓ mix (by kernel_rfl) ⟨(h1), trivial⟩ (by first | rfl | (simp only [List.map_append, List.map_cons, List.map_nil, List.map_set] <;> rfl))
  · refine AW_go (n := 2000) [[none]] [.b false, .cn [0, 1, 5] []] (.lp (dig (bodyOf Try.f26) [1, 1, 0, 1, 0, 0] []).1 (dig (bodyOf Try.f26) [1, 1, 0, 1, 0] []).2 ⟨[(0, D.sl ((a0_).map Fact.c)), (1, D.sl ((a1_).map Fact.c)), (5, D.int .i64 (0))], []⟩) [(((((a0_).map Fact.c).length : Int) : Int) != ((((a1_).map Fact.c).length : Int))) = false] hΓ mix (by kernel_rfl) ⟨(h1), trivial⟩ (AW_st (by first | rfl | (simp only [List.map_append, List.map_cons, List.map_nil, List.map_set, List.map_replicate] <;> rfl)) (AW_of_r (d_laws_eqFactS_L1w hΓ (fun h => ?_) (by have := (Rdb.sl (hr _ (List.mem_of_getElem? (i := 0) rfl))).1; simpa using this) (a0_) 0  rfl h)))
    have h := den_some h
    subst h
    exact AW_go (n := 2000) [[none]] [] (.ret (D.bool (true))) [] hΓ mix (by kernel_rfl) trivial (by first | rfl | (simp only [List.map_append, List.map_cons, List.map_nil, List.map_set] <;> rfl))

def d_laws_eqAlpha (a0_ : Alpha) (a1_ : Alpha) : Option Bool := ((d_laws_eqPattern (a0_.shape) (a1_.shape)).bind fun y1 => (bif !(y1) then (some (false)) else ((d_laws_eqFactS (a0_.facts) (a1_.facts)).bind fun y4 => (bif !(y4) then (some (false)) else (some (true))))))
set_option maxRecDepth 100000 in
set_option linter.unusedVariables false in
theorem d_laws_eqAlpha_good {a0_ : Alpha} {a1_ : Alpha} {r : Bool} (h : d_laws_eqAlpha a0_ a1_ = some r) : Good Try.prog 46 [D.agg [D.str (a0_.shape.rel), D.sl ((a0_.shape.args).map tx), D.sl ((a0_.facts).map Fact.c)], D.agg [D.str (a1_.shape.rel), D.sl ((a1_.shape.args).map tx), D.sl ((a1_.facts).map Fact.c)]] (D.bool (r)) := by
  refine Good.of (c := bodyOf Try.f46) Try.func46 rfl (by decide) (by simp [Try.f46]) ?_
  intro hr Γ hΓ
  have hΓ : Γ.nt = 17 := hΓ
  rw [d_laws_eqAlpha] at h
  refine (show AW Try.prog Γ (bodyOf Try.f46) (KQ Try.prog Γ (fun _ _ => False) (RetQ Try.prog Try.f46 (D.bool (r))) []) _ from ?_)
  obtain ⟨y1, h2, h⟩ := den_bind h
  rcases den_if h with ⟨h3, h⟩ | ⟨h3, h⟩
  · have h := den_some h
    subst h
    exact AW_go (n := 2000) [[none]] [.d (D.bool (y1)), .b true] (.ret (D.bool (false))) [Good Try.prog 71 [D.agg [D.str (a0_.shape.rel), D.sl ((a0_.shape.args).map tx)], D.agg [D.str (a1_.shape.rel), D.sl ((a1_.shape.args).map tx)]] (D.bool (y1)), (!(y1)) = true] hΓ mix (by kernel_rfl) ⟨(d_laws_eqPattern_good h2), (h3), trivial⟩ (by first | rfl | (simp only [List.map_append, List.map_cons, List.map_nil, List.map_set] <;> rfl))
  · obtain ⟨y4, h5, h⟩ := den_bind h
    rcases den_if h with ⟨h6, h⟩ | ⟨h6, h⟩
    · have h := den_some h
      subst h
      exact AW_go (n := 2000) [[none]] [.d (D.bool (y1)), .b false, .d (D.bool (y4)), .b true] (.ret (D.bool (false))) [Good Try.prog 71 [D.agg [D.str (a0_.shape.rel), D.sl ((a0_.shape.args).map tx)], D.agg [D.str (a1_.shape.rel), D.sl ((a1_.shape.args).map tx)]] (D.bool (y1)), (!(y1)) = false, Good Try.prog 26 [D.sl ((a0_.facts).map Fact.c), D.sl ((a1_.facts).map Fact.c)] (D.bool (y4)), (!(y4)) = true] hΓ mix (by kernel_rfl) ⟨(d_laws_eqPattern_good h2), (h3), (d_laws_eqFactS_good h5), (h6), trivial⟩ (by first | rfl | (simp only [List.map_append, List.map_cons, List.map_nil, List.map_set] <;> rfl))
    · have h := den_some h
      subst h
      exact AW_go (n := 2000) [[none]] [.d (D.bool (y1)), .b false, .d (D.bool (y4)), .b false] (.ret (D.bool (true))) [Good Try.prog 71 [D.agg [D.str (a0_.shape.rel), D.sl ((a0_.shape.args).map tx)], D.agg [D.str (a1_.shape.rel), D.sl ((a1_.shape.args).map tx)]] (D.bool (y1)), (!(y1)) = false, Good Try.prog 26 [D.sl ((a0_.facts).map Fact.c), D.sl ((a1_.facts).map Fact.c)] (D.bool (y4)), (!(y4)) = false] hΓ mix (by kernel_rfl) ⟨(d_laws_eqPattern_good h2), (h3), (d_laws_eqFactS_good h5), (h6), trivial⟩ (by first | rfl | (simp only [List.map_append, List.map_cons, List.map_nil, List.map_set] <;> rfl))

def d_laws_eqAlphaS_L1 (a0_ : List Alpha) (a1_ : List Alpha) (k1 : Option Bool) : List Alpha → Nat → Option Bool
  | [], i1 => (k1 )
  | x1_ :: xs1, i1 => ((atI (a1_) ((i1 : Int))).bind fun x30 => ((d_laws_eqAlpha (x1_) (x30)).bind fun y32 => (bif !(y32) then (some (false)) else (d_laws_eqAlphaS_L1 a0_ a1_ k1 xs1 (i1 + 1) ))))

def d_laws_eqAlphaS (a0_ : List Alpha) (a1_ : List Alpha) : Option Bool := (bif ((((a0_).map Alpha.c).length : Int) : Int) != ((((a1_).map Alpha.c).length : Int)) then (some (false)) else (d_laws_eqAlphaS_L1 a0_ a1_ (some (true)) (a0_) 0 ))
set_option maxRecDepth 100000 in
set_option linter.unusedVariables false in
theorem d_laws_eqAlphaS_L1w {Γ : Ctx} (hΓ : Γ.nt = 27) {N : Nat → St → Prop} {a0_ : List Alpha} {a1_ : List Alpha} {r : Bool} {k1 : Option Bool} (hE1 : k1 = some r → AW Try.prog Γ (dig (bodyOf Try.f24) [1, 1, 1] []).1 (KQ Try.prog Γ N (RetQ Try.prog Try.f24 (D.bool (r))) (dig (bodyOf Try.f24) [1, 1, 1] []).2) ⟨[], []⟩) (hm1 : (a0_).length ≤ maxLen) : ∀ (rest : List Alpha) (i1 : Nat) , (a0_).drop i1 = rest → d_laws_eqAlphaS_L1 a0_ a1_ k1 rest i1  = some r → AWr Try.prog Γ (dig (bodyOf Try.f24) [1, 1, 0, 1, 0, 0] []).1 (KQ Try.prog Γ N (RetQ Try.prog Try.f24 (D.bool (r))) (dig (bodyOf Try.f24) [1, 1, 0, 1, 0] []).2) (rest.length + 1) ⟨[(0, D.sl ((a0_).map Alpha.c)), (1, D.sl ((a1_).map Alpha.c)), (5, D.int .i64 ((i1 : Int)))], []⟩ := by
  intro rest
  induction rest with
  | nil =>
    intro i1  hd1 h
    rw [d_laws_eqAlphaS_L1] at h
    refine AWr_succ fun N1 hN1 hS1 => ?_
    have t := AW_N (N := N) (N' := N1) (K0 := (dig (bodyOf Try.f24) [1, 1, 0, 1, 0] []).2) (by kernel_rfl) hN1 (hE1  h)
    refine AW_go (n := 2000) [[none]] [.b false, .hl 0 [] []] (.at_ (dig (bodyOf Try.f24) [1, 1, 1] []).1 (dig (bodyOf Try.f24) [1, 1, 1] []).2 ⟨[], []⟩) [(decide (((i1 : Int) : Int) < ((((a0_).map Alpha.c).length : Int)))) = false] hΓ mix (by kernel_rfl) ⟨((by rw [List.length_map]; exact lt_false (drop_nil hd1))), trivial⟩ ?_
    first | exact t | (simp only [List.map_append, List.map_cons, List.map_nil, List.map_set] at t ⊢; exact t)
  | cons x1_ xs1 ih1 =>
    intro i1  hd1 h
    rw [d_laws_eqAlphaS_L1] at h
    refine AWr_succ fun N1 hN1 hS1 => ?_
    obtain ⟨x30, h31, h⟩ := den_bind h
    obtain ⟨y32, h33, h⟩ := den_bind h
    rcases den_if h with ⟨h34, h⟩ | ⟨h34, h⟩
    · have h := den_some h
      subst h
      exact AW_go (n := 2000) [[none]] [.b true, .n 8, .row [D.str (x1_.shape.rel), D.sl ((x1_.shape.args).map tx), D.sl ((x1_.facts).map Fact.c)], .row [D.str (x30.shape.rel), D.sl ((x30.shape.args).map tx), D.sl ((x30.facts).map Fact.c)], .d (D.bool (y32)), .b true] (.ret (D.bool (false))) [(decide (((i1 : Int) : Int) < ((((a0_).map Alpha.c).length : Int)))) = true, 0 ≤ ((i1 : Int)) ∧ ((a0_).map Alpha.c)[((i1 : Int)).toNat]? = some [D.str (x1_.shape.rel), D.sl ((x1_.shape.args).map tx), D.sl ((x1_.facts).map Fact.c)] ∧ ([D.str (x1_.shape.rel), D.sl ((x1_.shape.args).map tx), D.sl ((x1_.facts).map Fact.c)] : List D).length = 3, 0 ≤ ((i1 : Int)) ∧ ((a1_).map Alpha.c)[((i1 : Int)).toNat]? = some [D.str (x30.shape.rel), D.sl ((x30.shape.args).map tx), D.sl ((x30.facts).map Fact.c)] ∧ ([D.str (x30.shape.rel), D.sl ((x30.shape.args).map tx), D.sl ((x30.facts).map Fact.c)] : List D).length = 3, Good Try.prog 46 [D.agg [D.str (x1_.shape.rel), D.sl ((x1_.shape.args).map tx), D.sl ((x1_.facts).map Fact.c)], D.agg [D.str (x30.shape.rel), D.sl ((x30.shape.args).map tx), D.sl ((x30.facts).map Fact.c)]] (D.bool (y32)), (!(y32)) = true] hΓ mix (by kernel_rfl) ⟨((by rw [List.length_map]; exact lt_true (drop_cons hd1).2.1)), (⟨(map_at Alpha.c (drop_cons hd1).1).1, (map_at Alpha.c (drop_cons hd1).1).2, rfl⟩), (⟨(at_ok Alpha.c h31).1, (at_ok Alpha.c h31).2, rfl⟩), (d_laws_eqAlpha_good h33), (h34), trivial⟩ (by first | rfl | (simp only [List.map_append, List.map_cons, List.map_nil, List.map_set] <;> rfl))
    · have t := ih1 (i1 + 1)  (drop_cons hd1).2.2 h
      refine AW_go (n := 2000) [[none]] [.b true, .n 8, .row [D.str (x1_.shape.rel), D.sl ((x1_.shape.args).map tx), D.sl ((x1_.facts).map Fact.c)], .row [D.str (x30.shape.rel), D.sl ((x30.shape.args).map tx), D.sl ((x30.facts).map Fact.c)], .d (D.bool (y32)), .b false, .cn [0, 1, 5] []] (.cont 0 ⟨[(0, D.sl ((a0_).map Alpha.c)), (1, D.sl ((a1_).map Alpha.c)), (5, D.int .i64 (IntKind.i64.wrap (((i1 : Int)) + (1))))], []⟩) [(decide (((i1 : Int) : Int) < ((((a0_).map Alpha.c).length : Int)))) = true, 0 ≤ ((i1 : Int)) ∧ ((a0_).map Alpha.c)[((i1 : Int)).toNat]? = some [D.str (x1_.shape.rel), D.sl ((x1_.shape.args).map tx), D.sl ((x1_.facts).map Fact.c)] ∧ ([D.str (x1_.shape.rel), D.sl ((x1_.shape.args).map tx), D.sl ((x1_.facts).map Fact.c)] : List D).length = 3, 0 ≤ ((i1 : Int)) ∧ ((a1_).map Alpha.c)[((i1 : Int)).toNat]? = some [D.str (x30.shape.rel), D.sl ((x30.shape.args).map tx), D.sl ((x30.facts).map Fact.c)] ∧ ([D.str (x30.shape.rel), D.sl ((x30.shape.args).map tx), D.sl ((x30.facts).map Fact.c)] : List D).length = 3, Good Try.prog 46 [D.agg [D.str (x1_.shape.rel), D.sl ((x1_.shape.args).map tx), D.sl ((x1_.facts).map Fact.c)], D.agg [D.str (x30.shape.rel), D.sl ((x30.shape.args).map tx), D.sl ((x30.facts).map Fact.c)]] (D.bool (y32)), (!(y32)) = false] hΓ mix (by kernel_rfl) ⟨((by rw [List.length_map]; exact lt_true (drop_cons hd1).2.1)), (⟨(map_at Alpha.c (drop_cons hd1).1).1, (map_at Alpha.c (drop_cons hd1).1).2, rfl⟩), (⟨(at_ok Alpha.c h31).1, (at_ok Alpha.c h31).2, rfl⟩), (d_laws_eqAlpha_good h33), (h34), trivial⟩ ?_
      refine (congrFun hS1 _).mpr ?_
      rw [i64_succ (drop_cons hd1).2.1 hm1]
      first | exact t | (simp only [List.map_append, List.map_cons, List.map_nil, List.map_set] at t ⊢; exact t)

set_option maxRecDepth 100000 in
set_option linter.unusedVariables false in
theorem d_laws_eqAlphaS_good {a0_ : List Alpha} {a1_ : List Alpha} {r : Bool} (h : d_laws_eqAlphaS a0_ a1_ = some r) : Good Try.prog 24 [D.sl ((a0_).map Alpha.c), D.sl ((a1_).map Alpha.c)] (D.bool (r)) := by
  refine Good.of (c := bodyOf Try.f24) Try.func24 rfl (by decide) (by simp [Try.f24]) ?_
  intro hr Γ hΓ
  have hΓ : Γ.nt = 27 := hΓ
  rw [d_laws_eqAlphaS] at h
  refine (show AW Try.prog Γ (bodyOf Try.f24) (KQ Try.prog Γ (fun _ _ => False) (RetQ Try.prog Try.f24 (D.bool (r))) []) _ from ?_)
  rcases den_if h with ⟨h1, h⟩ | ⟨h1, h⟩
  · have h := den_some h
    subst h
    exact AW_go (n := 2000) [[none]] [.b true] (.ret (D.bool (false))) [(((((a0_).map Alpha.c).length : Int) : Int) != ((((a1_).map Alpha.c).length : Int))) = true] hΓ mix (by kernel_rfl) ⟨(h1), trivial⟩ (by first | rfl | (simp only [List.map_append, List.map_cons, List.map_nil, List.map_set] <;> rfl))
  · refine AW_go (n := 2000) [[none]] [.b false, .cn [0, 1, 5] []] (.lp (dig (bodyOf Try.f24) [1, 1, 0, 1, 0, 0] []).1 (dig (bodyOf Try.f24) [1, 1, 0, 1, 0] []).2 ⟨[(0, D.sl ((a0_).map Alpha.c)), (1, D.sl ((a1_).map Alpha.c)), (5, D.int .i64 (0))], []⟩) [(((((a0_).map Alpha.c).length : Int) : Int) != ((((a1_).map Alpha.c).length : Int))) = false] hΓ mix (by kernel_rfl) ⟨(h1), trivial⟩ (AW_st (by first | rfl | (simp only [List.map_append, List.map_cons, List.map_nil, List.map_set, List.map_replicate] <;> rfl)) (AW_of_r (d_laws_eqAlphaS_L1w hΓ (fun h => ?_) (by have := (Rdb.sl (hr _ (List.mem_of_getElem? (i := 0) rfl))).1; simpa using this) (a0_) 0  rfl h)))
    have h := den_some h
    subst h
    exact AW_go (n := 2000) [[none]] [] (.ret (D.bool (true))) [] hΓ mix (by kernel_rfl) trivial (by first | rfl | (simp only [List.map_append, List.map_cons, List.map_nil, List.map_set] <;> rfl))

def d_laws_eqPair (a0_ : Pair) (a1_ : Pair) : Option Bool := (bif !((a0_.var : Bytes) == (a1_.var)) then (some (false)) else (bif !((a0_.value : Bytes) == (a1_.value)) then (some (false)) else (some (true))))
set_option maxRecDepth 100000 in
set_option linter.unusedVariables false in
theorem d_laws_eqPair_good {a0_ : Pair} {a1_ : Pair} {r : Bool} (h : d_laws_eqPair a0_ a1_ = some r) : Good Try.prog 87 [D.agg [D.str (a0_.var), D.str (a0_.value)], D.agg [D.str (a1_.var), D.str (a1_.value)]] (D.bool (r)) := by
  refine Good.of (c := bodyOf Try.f87) Try.func87 rfl (by decide) (by simp [Try.f87]) ?_
  intro hr Γ hΓ
  have hΓ : Γ.nt = 15 := hΓ
  rw [d_laws_eqPair] at h
  refine (show AW Try.prog Γ (bodyOf Try.f87) (KQ Try.prog Γ (fun _ _ => False) (RetQ Try.prog Try.f87 (D.bool (r))) []) _ from ?_)
  rcases den_if h with ⟨h1, h⟩ | ⟨h1, h⟩
  · have h := den_some h
    subst h
    exact AW_go (n := 2000) [[none]] [.b true] (.ret (D.bool (false))) [(!((a0_.var : Bytes) == (a1_.var))) = true] hΓ mix (by kernel_rfl) ⟨(h1), trivial⟩ (by first | rfl | (simp only [List.map_append, List.map_cons, List.map_nil, List.map_set] <;> rfl))
  · rcases den_if h with ⟨h2, h⟩ | ⟨h2, h⟩
    · have h := den_some h
      subst h
      exact AW_go (n := 2000) [[none]] [.b false, .b true] (.ret (D.bool (false))) [(!((a0_.var : Bytes) == (a1_.var))) = false, (!((a0_.value : Bytes) == (a1_.value))) = true] hΓ mix (by kernel_rfl) ⟨(h1), (h2), trivial⟩ (by first | rfl | (simp only [List.map_append, List.map_cons, List.map_nil, List.map_set] <;> rfl))
    · have h := den_some h
      subst h
      exact AW_go (n := 2000) [[none]] [.b false, .b false] (.ret (D.bool (true))) [(!((a0_.var : Bytes) == (a1_.var))) = false, (!((a0_.value : Bytes) == (a1_.value))) = false] hΓ mix (by kernel_rfl) ⟨(h1), (h2), trivial⟩ (by first | rfl | (simp only [List.map_append, List.map_cons, List.map_nil, List.map_set] <;> rfl))

def d_laws_eqPairS_L1 (a0_ : List Pair) (a1_ : List Pair) (k1 : Option Bool) : List Pair → Nat → Option Bool
  | [], i1 => (k1 )
  | x1_ :: xs1, i1 => ((atI (a1_) ((i1 : Int))).bind fun x30 => ((d_laws_eqPair (x1_) (x30)).bind fun y32 => (bif !(y32) then (some (false)) else (d_laws_eqPairS_L1 a0_ a1_ k1 xs1 (i1 + 1) ))))

def d_laws_eqPairS (a0_ : List Pair) (a1_ : List Pair) : Option Bool := (bif ((((a0_).map Pair.c).length : Int) : Int) != ((((a1_).map Pair.c).length : Int)) then (some (false)) else (d_laws_eqPairS_L1 a0_ a1_ (some (true)) (a0_) 0 ))
set_option maxRecDepth 100000 in
set_option linter.unusedVariables false in
theorem d_laws_eqPairS_L1w {Γ : Ctx} (hΓ : Γ.nt = 27) {N : Nat → St → Prop} {a0_ : List Pair} {a1_ : List Pair} {r : Bool} {k1 : Option Bool} (hE1 : k1 = some r → AW Try.prog Γ (dig (bodyOf Try.f84) [1, 1, 1] []).1 (KQ Try.prog Γ N (RetQ Try.prog Try.f84 (D.bool (r))) (dig (bodyOf Try.f84) [1, 1, 1] []).2) ⟨[], []⟩) (hm1 : (a0_).length ≤ maxLen) : ∀ (rest : List Pair) (i1 : Nat) , (a0_).drop i1 = rest → d_laws_eqPairS_L1 a0_ a1_ k1 rest i1  = some r → AWr Try.prog Γ (dig (bodyOf Try.f84) [1, 1, 0, 1, 0, 0] []).1 (KQ Try.prog Γ N (RetQ Try.prog Try.f84 (D.bool (r))) (dig (bodyOf Try.f84) [1, 1, 0, 1, 0] []).2) (rest.length + 1) ⟨[(0, D.sl ((a0_).map Pair.c)), (1, D.sl ((a1_).map Pair.c)), (5, D.int .i64 ((i1 : Int)))], []⟩ := by
  intro rest
  induction rest with
  | nil =>
    intro i1  hd1 h
    rw [d_laws_eqPairS_L1] at h
    refine AWr_succ fun N1 hN1 hS1 => ?_
    have t := AW_N (N := N) (N' := N1) (K0 := (dig (bodyOf Try.f84) [1, 1, 0, 1, 0] []).2) (by kernel_rfl) hN1 (hE1  h)
    refine AW_go (n := 2000) [[none]] [.b false, .hl 0 [] []] (.at_ (dig (bodyOf Try.f84) [1, 1, 1] []).1 (dig (bodyOf Try.f84) [1, 1, 1] []).2 ⟨[], []⟩) [(decide (((i1 : Int) : Int) < ((((a0_).map Pair.c).length : Int)))) = false] hΓ mix (by kernel_rfl) ⟨((by rw [List.length_map]; exact lt_false (drop_nil hd1))), trivial⟩ ?_
    first | exact t | (simp only [List.map_append, List.map_cons, List.map_nil, List.map_set] at t ⊢; exact t)
  | cons x1_ xs1 ih1 =>
    intro i1  hd1 h
    rw [d_laws_eqPairS_L1] at h
    refine AWr_succ fun N1 hN1 hS1 => ?_
    obtain ⟨x30, h31, h⟩ := den_bind h
    obtain ⟨y32, h33, h⟩ := den_bind h
    rcases den_if h with ⟨h34, h⟩ | ⟨h34, h⟩
    · have h := den_some h
      subst h
      exact AW_go (n := 2000) [[none]] [.b true, .n 8, .row [D.str (x1_.var), D.str (x1_.value)], .row [D.str (x30.var), D.str (x30.value)], .d (D.bool (y32)), .b true] (.ret (D.bool (false))) [(decide (((i1 : Int) : Int) < ((((a0_).map Pair.c).length : Int)))) = true, 0 ≤ ((i1 : Int)) ∧ ((a0_).map Pair.c)[((i1 : Int)).toNat]? = some [D.str (x1_.var), D.str (x1_.value)] ∧ ([D.str (x1_.var), D.str (x1_.value)] : List D).length = 2, 0 ≤ ((i1 : Int)) ∧ ((a1_).map Pair.c)[((i1 : Int)).toNat]? = some [D.str (x30.var), D.str (x30.value)] ∧ ([D.str (x30.var), D.str (x30.value)] : List D).length = 2, Good Try.prog 87 [D.agg [D.str (x1_.var), D.str (x1_.value)], D.agg [D.str (x30.var), D.str (x30.value)]] (D.bool (y32)), (!(y32)) = true] hΓ mix (by kernel_rfl) ⟨((by rw [List.length_map]; exact lt_true (drop_cons hd1).2.1)), (⟨(map_at Pair.c (drop_cons hd1).1).1, (map_at Pair.c (drop_cons hd1).1).2, rfl⟩), (⟨(at_ok Pair.c h31).1, (at_ok Pair.c h31).2, rfl⟩), (d_laws_eqPair_good h33), (h34), trivial⟩ (by first | rfl | (simp only [List.map_append, List.map_cons, List.map_nil, List.map_set] <;> rfl))
    · have t := ih1 (i1 + 1)  (drop_cons hd1).2.2 h
      refine AW_go (n := 2000) [[none]] [.b true, .n 8, .row [D.str (x1_.var), D.str (x1_.value)], .row [D.str (x30.var), D.str (x30.value)], .d (D.bool (y32)), .b false, .cn [0, 1, 5] []] (.cont 0 ⟨[(0, D.sl ((a0_).map Pair.c)), (1, D.sl ((a1_).map Pair.c)), (5, D.int .i64 (IntKind.i64.wrap (((i1 : Int)) + (1))))], []⟩) [(decide (((i1 : Int) : Int) < ((((a0_).map Pair.c).length : Int)))) = true, 0 ≤ ((i1 : Int)) ∧ ((a0_).map Pair.c)[((i1 : Int)).toNat]? = some [D.str (x1_.var), D.str (x1_.value)] ∧ ([D.str (x1_.var), D.str (x1_.value)] : List D).length = 2, 0 ≤ ((i1 : Int)) ∧ ((a1_).map Pair.c)[((i1 : Int)).toNat]? = some [D.str (x30.var), D.str (x30.value)] ∧ ([D.str (x30.var), D.str (x30.value)] : List D).length = 2, Good Try.prog 87 [D.agg [D.str (x1_.var), D.str (x1_.value)], D.agg [D.str (x30.var), D.str (x30.value)]] (D.bool (y32)), (!(y32)) = false] hΓ mix (by kernel_rfl) ⟨((by rw [List.length_map]; exact lt_true (drop_cons hd1).2.1)), (⟨(map_at Pair.c (drop_cons hd1).1).1, (map_at Pair.c (drop_cons hd1).1).2, rfl⟩), (⟨(at_ok Pair.c h31).1, (at_ok Pair.c h31).2, rfl⟩), (d_laws_eqPair_good h33), (h34), trivial⟩ ?_
      refine (congrFun hS1 _).mpr ?_
      rw [i64_succ (drop_cons hd1).2.1 hm1]
      first | exact t | (simp only [List.map_append, List.map_cons, List.map_nil, List.map_set] at t ⊢; exact t)

set_option maxRecDepth 100000 in
set_option linter.unusedVariables false in
theorem d_laws_eqPairS_good {a0_ : List Pair} {a1_ : List Pair} {r : Bool} (h : d_laws_eqPairS a0_ a1_ = some r) : Good Try.prog 84 [D.sl ((a0_).map Pair.c), D.sl ((a1_).map Pair.c)] (D.bool (r)) := by
  refine Good.of (c := bodyOf Try.f84) Try.func84 rfl (by decide) (by simp [Try.f84]) ?_
  intro hr Γ hΓ
  have hΓ : Γ.nt = 27 := hΓ
  rw [d_laws_eqPairS] at h
  refine (show AW Try.prog Γ (bodyOf Try.f84) (KQ Try.prog Γ (fun _ _ => False) (RetQ Try.prog Try.f84 (D.bool (r))) []) _ from ?_)
  rcases den_if h with ⟨h1, h⟩ | ⟨h1, h⟩
  · have h := den_some h
    subst h
    exact AW_go (n := 2000) [[none]] [.b true] (.ret (D.bool (false))) [(((((a0_).map Pair.c).length : Int) : Int) != ((((a1_).map Pair.c).length : Int))) = true] hΓ mix (by kernel_rfl) ⟨(h1), trivial⟩ (by first | rfl | (simp only [List.map_append, List.map_cons, List.map_nil, List.map_set] <;> rfl))
  · refine AW_go (n := 2000) [[none]] [.b false, .cn [0, 1, 5] []] (.lp (dig (bodyOf Try.f84) [1, 1, 0, 1, 0, 0] []).1 (dig (bodyOf Try.f84) [1, 1, 0, 1, 0] []).2 ⟨[(0, D.sl ((a0_).map Pair.c)), (1, D.sl ((a1_).map Pair.c)), (5, D.int .i64 (0))], []⟩) [(((((a0_).map Pair.c).length : Int) : Int) != ((((a1_).map Pair.c).length : Int))) = false] hΓ mix (by kernel_rfl) ⟨(h1), trivial⟩ (AW_st (by first | rfl | (simp only [List.map_append, List.map_cons, List.map_nil, List.map_set, List.map_replicate] <;> rfl)) (AW_of_r (d_laws_eqPairS_L1w hΓ (fun h => ?_) (by have := (Rdb.sl (hr _ (List.mem_of_getElem? (i := 0) rfl))).1; simpa using this) (a0_) 0  rfl h)))
    have h := den_some h
    subst h
    exact AW_go (n := 2000) [[none]] [] (.ret (D.bool (true))) [] hΓ mix (by kernel_rfl) trivial (by first | rfl | (simp only [List.map_append, List.map_cons, List.map_nil, List.map_set] <;> rfl))

def d_laws_eqToken (a0_ : Token) (a1_ : Token) : Option Bool := ((d_laws_eqFactS (a0_.facts) (a1_.facts)).bind fun y1 => (bif !(y1) then (some (false)) else ((d_laws_eqPairS (a0_.bind) (a1_.bind)).bind fun y4 => (bif !(y4) then (some (false)) else (some (true))))))
set_option maxRecDepth 100000 in
set_option linter.unusedVariables false in
theorem d_laws_eqToken_good {a0_ : Token} {a1_ : Token} {r : Bool} (h : d_laws_eqToken a0_ a1_ = some r) : Good Try.prog 81 [D.agg [D.sl ((a0_.facts).map Fact.c), D.sl ((a0_.bind).map Pair.c)], D.agg [D.sl ((a1_.facts).map Fact.c), D.sl ((a1_.bind).map Pair.c)]] (D.bool (r)) := by
  refine Good.of (c := bodyOf Try.f81) Try.func81 rfl (by decide) (by simp [Try.f81]) ?_
  intro hr Γ hΓ
  have hΓ : Γ.nt = 17 := hΓ
  rw [d_laws_eqToken] at h
  refine (show AW Try.prog Γ (bodyOf Try.f81) (KQ Try.prog Γ (fun _ _ => False) (RetQ Try.prog Try.f81 (D.bool (r))) []) _ from ?_)
  obtain ⟨y1, h2, h⟩ := den_bind h
  rcases den_if h with ⟨h3, h⟩ | ⟨h3, h⟩
  · have h := den_some h
    subst h
    exact AW_go (n := 2000) [[none]] [.d (D.bool (y1)), .b true] (.ret (D.bool (false))) [Good Try.prog 26 [D.sl ((a0_.facts).map Fact.c), D.sl ((a1_.facts).map Fact.c)] (D.bool (y1)), (!(y1)) = true] hΓ mix (by kernel_rfl) ⟨(d_laws_eqFactS_good h2), (h3), trivial⟩ (by first | rfl | (simp only [List.map_append, List.map_cons, List.map_nil, List.map_set] <;> rfl))
  · obtain ⟨y4, h5, h⟩ := den_bind h
    rcases den_if h with ⟨h6, h⟩ | ⟨h6, h⟩
    · have h := den_some h
      subst h
      exact AW_go (n := 2000) [[none]] [.d (D.bool (y1)), .b false, .d (D.bool (y4)), .b true] (.ret (D.bool (false))) [Good Try.prog 26 [D.sl ((a0_.facts).map Fact.c), D.sl ((a1_.facts).map Fact.c)] (D.bool (y1)), (!(y1)) = false, Good Try.prog 84 [D.sl ((a0_.bind).map Pair.c), D.sl ((a1_.bind).map Pair.c)] (D.bool (y4)), (!(y4)) = true] hΓ mix (by kernel_rfl) ⟨(d_laws_eqFactS_good h2), (h3), (d_laws_eqPairS_good h5), (h6), trivial⟩ (by first | rfl | (simp only [List.map_append, List.map_cons, List.map_nil, List.map_set] <;> rfl))
    · have h := den_some h
      subst h
      exact AW_go (n := 2000) [[none]] [.d (D.bool (y1)), .b false, .d (D.bool (y4)), .b false] (.ret (D.bool (true))) [Good Try.prog 26 [D.sl ((a0_.facts).map Fact.c), D.sl ((a1_.facts).map Fact.c)] (D.bool (y1)), (!(y1)) = false, Good Try.prog 84 [D.sl ((a0_.bind).map Pair.c), D.sl ((a1_.bind).map Pair.c)] (D.bool (y4)), (!(y4)) = false] hΓ mix (by kernel_rfl) ⟨(d_laws_eqFactS_good h2), (h3), (d_laws_eqPairS_good h5), (h6), trivial⟩ (by first | rfl | (simp only [List.map_append, List.map_cons, List.map_nil, List.map_set] <;> rfl))

def d_laws_eqTokenS_L1 (a0_ : List Token) (a1_ : List Token) (k1 : Option Bool) : List Token → Nat → Option Bool
  | [], i1 => (k1 )
  | x1_ :: xs1, i1 => ((atI (a1_) ((i1 : Int))).bind fun x30 => ((d_laws_eqToken (x1_) (x30)).bind fun y32 => (bif !(y32) then (some (false)) else (d_laws_eqTokenS_L1 a0_ a1_ k1 xs1 (i1 + 1) ))))

def d_laws_eqTokenS (a0_ : List Token) (a1_ : List Token) : Option Bool := (bif ((((a0_).map Token.c).length : Int) : Int) != ((((a1_).map Token.c).length : Int)) then (some (false)) else (d_laws_eqTokenS_L1 a0_ a1_ (some (true)) (a0_) 0 ))
set_option maxRecDepth 100000 in
set_option linter.unusedVariables false in
theorem d_laws_eqTokenS_L1w {Γ : Ctx} (hΓ : Γ.nt = 27) {N : Nat → St → Prop} {a0_ : List Token} {a1_ : List Token} {r : Bool} {k1 : Option Bool} (hE1 : k1 = some r → AW Try.prog Γ (dig (bodyOf Try.f73) [1, 1, 1] []).1 (KQ Try.prog Γ N (RetQ Try.prog Try.f73 (D.bool (r))) (dig (bodyOf Try.f73) [1, 1, 1] []).2) ⟨[], []⟩) (hm1 : (a0_).length ≤ maxLen) : ∀ (rest : List Token) (i1 : Nat) , (a0_).drop i1 = rest → d_laws_eqTokenS_L1 a0_ a1_ k1 rest i1  = some r → AWr Try.prog Γ (dig (bodyOf Try.f73) [1, 1, 0, 1, 0, 0] []).1 (KQ Try.prog Γ N (RetQ Try.prog Try.f73 (D.bool (r))) (dig (bodyOf Try.f73) [1, 1, 0, 1, 0] []).2) (rest.length + 1) ⟨[(0, D.sl ((a0_).map Token.c)), (1, D.sl ((a1_).map Token.c)), (5, D.int .i64 ((i1 : Int)))], []⟩ := by
  intro rest
  induction rest with
  | nil =>
    intro i1  hd1 h
    rw [d_laws_eqTokenS_L1] at h
    refine AWr_succ fun N1 hN1 hS1 => ?_
    have t := AW_N (N := N) (N' := N1) (K0 := (dig (bodyOf Try.f73) [1, 1, 0, 1, 0] []).2) (by kernel_rfl) hN1 (hE1  h)
    refine AW_go (n := 2000) [[none]] [.b false, .hl 0 [] []] (.at_ (dig (bodyOf Try.f73) [1, 1, 1] []).1 (dig (bodyOf Try.f73) [1, 1, 1] []).2 ⟨[], []⟩) [(decide (((i1 : Int) : Int) < ((((a0_).map Token.c).length : Int)))) = false] hΓ mix (by kernel_rfl) ⟨((by rw [List.length_map]; exact lt_false (drop_nil hd1))), trivial⟩ ?_
    first | exact t | (simp only [List.map_append, List.map_cons, List.map_nil, List.map_set] at t ⊢; exact t)
  | cons x1_ xs1 ih1 =>
    intro i1  hd1 h
    rw [d_laws_eqTokenS_L1] at h
    refine AWr_succ fun N1 hN1 hS1 => ?_
    obtain ⟨x30, h31, h⟩ := den_bind h
    obtain ⟨y32, h33, h⟩ := den_bind h
    rcases den_if h with ⟨h34, h⟩ | ⟨h34, h⟩
    · have h := den_some h
      subst h
      exact AW_go (n := 2000) [[none]] [.b true, .n 8, .row [D.sl ((x1_.facts).map Fact.c), D.sl ((x1_.bind).map Pair.c)], .row [D.sl ((x30.facts).map Fact.c), D.sl ((x30.bind).map Pair.c)], .d (D.bool (y32)), .b true] (.ret (D.bool (false))) [(decide (((i1 : Int) : Int) < ((((a0_).map Token.c).length : Int)))) = true, 0 ≤ ((i1 : Int)) ∧ ((a0_).map Token.c)[((i1 : Int)).toNat]? = some [D.sl ((x1_.facts).map Fact.c), D.sl ((x1_.bind).map Pair.c)] ∧ ([D.sl ((x1_.facts).map Fact.c), D.sl ((x1_.bind).map Pair.c)] : List D).length = 2, 0 ≤ ((i1 : Int)) ∧ ((a1_).map Token.c)[((i1 : Int)).toNat]? = some [D.sl ((x30.facts).map Fact.c), D.sl ((x30.bind).map Pair.c)] ∧ ([D.sl ((x30.facts).map Fact.c), D.sl ((x30.bind).map Pair.c)] : List D).length = 2, Good Try.prog 81 [D.agg [D.sl ((x1_.facts).map Fact.c), D.sl ((x1_.bind).map Pair.c)], D.agg [D.sl ((x30.facts).map Fact.c), D.sl ((x30.bind).map Pair.c)]] (D.bool (y32)), (!(y32)) = true] hΓ mix (by kernel_rfl) ⟨((by rw [List.length_map]; exact lt_true (drop_cons hd1).2.1)), (⟨(map_at Token.c (drop_cons hd1).1).1, (map_at Token.c (drop_cons hd1).1).2, rfl⟩), (⟨(at_ok Token.c h31).1, (at_ok Token.c h31).2, rfl⟩), (d_laws_eqToken_good h33), (h34), trivial⟩ (by first | rfl | (simp only [List.map_append, List.map_cons, List.map_nil, List.map_set] <;> rfl))
    · have t := ih1 (i1 + 1)  (drop_cons hd1).2.2 h
      refine AW_go (n := 2000) [[none]] [.b true, .n 8, .row [D.sl ((x1_.facts).map Fact.c), D.sl ((x1_.bind).map Pair.c)], .row [D.sl ((x30.facts).map Fact.c), D.sl ((x30.bind).map Pair.c)], .d (D.bool (y32)), .b false, .cn [0, 1, 5] []] (.cont 0 ⟨[(0, D.sl ((a0_).map Token.c)), (1, D.sl ((a1_).map Token.c)), (5, D.int .i64 (IntKind.i64.wrap (((i1 : Int)) + (1))))], []⟩) [(decide (((i1 : Int) : Int) < ((((a0_).map Token.c).length : Int)))) = true, 0 ≤ ((i1 : Int)) ∧ ((a0_).map Token.c)[((i1 : Int)).toNat]? = some [D.sl ((x1_.facts).map Fact.c), D.sl ((x1_.bind).map Pair.c)] ∧ ([D.sl ((x1_.facts).map Fact.c), D.sl ((x1_.bind).map Pair.c)] : List D).length = 2, 0 ≤ ((i1 : Int)) ∧ ((a1_).map Token.c)[((i1 : Int)).toNat]? = some [D.sl ((x30.facts).map Fact.c), D.sl ((x30.bind).map Pair.c)] ∧ ([D.sl ((x30.facts).map Fact.c), D.sl ((x30.bind).map Pair.c)] : List D).length = 2, Good Try.prog 81 [D.agg [D.sl ((x1_.facts).map Fact.c), D.sl ((x1_.bind).map Pair.c)], D.agg [D.sl ((x30.facts).map Fact.c), D.sl ((x30.bind).map Pair.c)]] (D.bool (y32)), (!(y32)) = false] hΓ mix (by kernel_rfl) ⟨((by rw [List.length_map]; exact lt_true (drop_cons hd1).2.1)), (⟨(map_at Token.c (drop_cons hd1).1).1, (map_at Token.c (drop_cons hd1).1).2, rfl⟩), (⟨(at_ok Token.c h31).1, (at_ok Token.c h31).2, rfl⟩), (d_laws_eqToken_good h33), (h34), trivial⟩ ?_
      refine (congrFun hS1 _).mpr ?_
      rw [i64_succ (drop_cons hd1).2.1 hm1]
      first | exact t | (simp only [List.map_append, List.map_cons, List.map_nil, List.map_set] at t ⊢; exact t)

set_option maxRecDepth 100000 in
set_option linter.unusedVariables false in
theorem d_laws_eqTokenS_good {a0_ : List Token} {a1_ : List Token} {r : Bool} (h : d_laws_eqTokenS a0_ a1_ = some r) : Good Try.prog 73 [D.sl ((a0_).map Token.c), D.sl ((a1_).map Token.c)] (D.bool (r)) := by
  refine Good.of (c := bodyOf Try.f73) Try.func73 rfl (by decide) (by simp [Try.f73]) ?_
  intro hr Γ hΓ
  have hΓ : Γ.nt = 27 := hΓ
  rw [d_laws_eqTokenS] at h
  refine (show AW Try.prog Γ (bodyOf Try.f73) (KQ Try.prog Γ (fun _ _ => False) (RetQ Try.prog Try.f73 (D.bool (r))) []) _ from ?_)
  rcases den_if h with ⟨h1, h⟩ | ⟨h1, h⟩
  · have h := den_some h
    subst h
    exact AW_go (n := 2000) [[none]] [.b true] (.ret (D.bool (false))) [(((((a0_).map Token.c).length : Int) : Int) != ((((a1_).map Token.c).length : Int))) = true] hΓ mix (by kernel_rfl) ⟨(h1), trivial⟩ (by first | rfl | (simp only [List.map_append, List.map_cons, List.map_nil, List.map_set] <;> rfl))
  · refine AW_go (n := 2000) [[none]] [.b false, .cn [0, 1, 5] []] (.lp (dig (bodyOf Try.f73) [1, 1, 0, 1, 0, 0] []).1 (dig (bodyOf Try.f73) [1, 1, 0, 1, 0] []).2 ⟨[(0, D.sl ((a0_).map Token.c)), (1, D.sl ((a1_).map Token.c)), (5, D.int .i64 (0))], []⟩) [(((((a0_).map Token.c).length : Int) : Int) != ((((a1_).map Token.c).length : Int))) = false] hΓ mix (by kernel_rfl) ⟨(h1), trivial⟩ (AW_st (by first | rfl | (simp only [List.map_append, List.map_cons, List.map_nil, List.map_set, List.map_replicate] <;> rfl)) (AW_of_r (d_laws_eqTokenS_L1w hΓ (fun h => ?_) (by have := (Rdb.sl (hr _ (List.mem_of_getElem? (i := 0) rfl))).1; simpa using this) (a0_) 0  rfl h)))
    have h := den_some h
    subst h
    exact AW_go (n := 2000) [[none]] [] (.ret (D.bool (true))) [] hΓ mix (by kernel_rfl) trivial (by first | rfl | (simp only [List.map_append, List.map_cons, List.map_nil, List.map_set] <;> rfl))

def d_laws_eqNode (a0_ : Node) (a1_ : Node) : Option Bool := (bif (a0_.parent : Int) != (a1_.parent) then (some (false)) else ((d_laws_eqCond (a0_.cond) (a1_.cond)).bind fun y2 => (bif !(y2) then (some (false)) else (bif (a0_.alpha : Int) != (a1_.alpha) then (some (false)) else ((d_laws_eqTokenS (a0_.tokens) (a1_.tokens)).bind fun y6 => (bif !(y6) then (some (false)) else (some (true))))))))
set_option maxRecDepth 100000 in
set_option linter.unusedVariables false in
theorem d_laws_eqNode_good {a0_ : Node} {a1_ : Node} {r : Bool} (h : d_laws_eqNode a0_ a1_ = some r) : Good Try.prog 47 [D.agg [D.int .i64 (a0_.parent), D.int .i64 (a0_.cond.kind), D.str (a0_.cond.pat.rel), D.sl ((a0_.cond.pat.args).map tx), D.str (a0_.cond.left), D.str (a0_.cond.right), D.int .i64 (a0_.alpha), D.sl ((a0_.tokens).map Token.c)], D.agg [D.int .i64 (a1_.parent), D.int .i64 (a1_.cond.kind), D.str (a1_.cond.pat.rel), D.sl ((a1_.cond.pat.args).map tx), D.str (a1_.cond.left), D.str (a1_.cond.right), D.int .i64 (a1_.alpha), D.sl ((a1_.tokens).map Token.c)]] (D.bool (r)) := by
  refine Good.of (c := bodyOf Try.f47) Try.func47 rfl (by decide) (by simp [Try.f47]) ?_
  intro hr Γ hΓ
  have hΓ : Γ.nt = 27 := hΓ
  rw [d_laws_eqNode] at h
  refine (show AW Try.prog Γ (bodyOf Try.f47) (KQ Try.prog Γ (fun _ _ => False) (RetQ Try.prog Try.f47 (D.bool (r))) []) _ from ?_)
  rcases den_if h with ⟨h1, h⟩ | ⟨h1, h⟩
  · have h := den_some h
    subst h
    exact AW_go (n := 2000) [[none]] [.b true] (.ret (D.bool (false))) [((a0_.parent : Int) != (a1_.parent)) = true] hΓ mix (by kernel_rfl) ⟨(h1), trivial⟩ (by first | rfl | (simp only [List.map_append, List.map_cons, List.map_nil, List.map_set] <;> rfl))
  · obtain ⟨y2, h3, h⟩ := den_bind h
    rcases den_if h with ⟨h4, h⟩ | ⟨h4, h⟩
    · have h := den_some h
      subst h
      exact AW_go (n := 2000) [[none]] [.b false, .d (D.bool (y2)), .b true] (.ret (D.bool (false))) [((a0_.parent : Int) != (a1_.parent)) = false, Good Try.prog 72 [D.agg [D.int .i64 (a0_.cond.kind), D.str (a0_.cond.pat.rel), D.sl ((a0_.cond.pat.args).map tx), D.str (a0_.cond.left), D.str (a0_.cond.right)], D.agg [D.int .i64 (a1_.cond.kind), D.str (a1_.cond.pat.rel), D.sl ((a1_.cond.pat.args).map tx), D.str (a1_.cond.left), D.str (a1_.cond.right)]] (D.bool (y2)), (!(y2)) = true] hΓ mix (by kernel_rfl) ⟨(h1), (d_laws_eqCond_good h3), (h4), trivial⟩ (by first | rfl | (simp only [List.map_append, List.map_cons, List.map_nil, List.map_set] <;> rfl))
    · rcases den_if h with ⟨h5, h⟩ | ⟨h5, h⟩
      · have h := den_some h
        subst h
        exact AW_go (n := 2000) [[none]] [.b false, .d (D.bool (y2)), .b false, .b true] (.ret (D.bool (false))) [((a0_.parent : Int) != (a1_.parent)) = false, Good Try.prog 72 [D.agg [D.int .i64 (a0_.cond.kind), D.str (a0_.cond.pat.rel), D.sl ((a0_.cond.pat.args).map tx), D.str (a0_.cond.left), D.str (a0_.cond.right)], D.agg [D.int .i64 (a1_.cond.kind), D.str (a1_.cond.pat.rel), D.sl ((a1_.cond.pat.args).map tx), D.str (a1_.cond.left), D.str (a1_.cond.right)]] (D.bool (y2)), (!(y2)) = false, ((a0_.alpha : Int) != (a1_.alpha)) = true] hΓ mix (by kernel_rfl) ⟨(h1), (d_laws_eqCond_good h3), (h4), (h5), trivial⟩ (by first | rfl | (simp only [List.map_append, List.map_cons, List.map_nil, List.map_set] <;> rfl))
      · obtain ⟨y6, h7, h⟩ := den_bind h
        rcases den_if h with ⟨h8, h⟩ | ⟨h8, h⟩
        · have h := den_some h
          subst h
          exact AW_go (n := 2000) [[none]] [.b false, .d (D.bool (y2)), .b false, .b false, .d (D.bool (y6)), .b true] (.ret (D.bool (false))) [((a0_.parent : Int) != (a1_.parent)) = false, Good Try.prog 72 [D.agg [D.int .i64 (a0_.cond.kind), D.str (a0_.cond.pat.rel), D.sl ((a0_.cond.pat.args).map tx), D.str (a0_.cond.left), D.str (a0_.cond.right)], D.agg [D.int .i64 (a1_.cond.kind), D.str (a1_.cond.pat.rel), D.sl ((a1_.cond.pat.args).map tx), D.str (a1_.cond.left), D.str (a1_.cond.right)]] (D.bool (y2)), (!(y2)) = false, ((a0_.alpha : Int) != (a1_.alpha)) = false, Good Try.prog 73 [D.sl ((a0_.tokens).map Token.c), D.sl ((a1_.tokens).map Token.c)] (D.bool (y6)), (!(y6)) = true] hΓ mix (by kernel_rfl) ⟨(h1), (d_laws_eqCond_good h3), (h4), (h5), (d_laws_eqTokenS_good h7), (h8), trivial⟩ (by first | rfl | (simp only [List.map_append, List.map_cons, List.map_nil, List.map_set] <;> rfl))
        · have h := den_some h
          subst h
          exact AW_go (n := 2000) [[none]] [.b false, .d (D.bool (y2)), .b false, .b false, .d (D.bool (y6)), .b false] (.ret (D.bool (true))) [((a0_.parent : Int) != (a1_.parent)) = false, Good Try.prog 72 [D.agg [D.int .i64 (a0_.cond.kind), D.str (a0_.cond.pat.rel), D.sl ((a0_.cond.pat.args).map tx), D.str (a0_.cond.left), D.str (a0_.cond.right)], D.agg [D.int .i64 (a1_.cond.kind), D.str (a1_.cond.pat.rel), D.sl ((a1_.cond.pat.args).map tx), D.str (a1_.cond.left), D.str (a1_.cond.right)]] (D.bool (y2)), (!(y2)) = false, ((a0_.alpha : Int) != (a1_.alpha)) = false, Good Try.prog 73 [D.sl ((a0_.tokens).map Token.c), D.sl ((a1_.tokens).map Token.c)] (D.bool (y6)), (!(y6)) = false] hΓ mix (by kernel_rfl) ⟨(h1), (d_laws_eqCond_good h3), (h4), (h5), (d_laws_eqTokenS_good h7), (h8), trivial⟩ (by first | rfl | (simp only [List.map_append, List.map_cons, List.map_nil, List.map_set] <;> rfl))

def d_laws_eqNodeS_L1 (a0_ : List Node) (a1_ : List Node) (k1 : Option Bool) : List Node → Nat → Option Bool
  | [], i1 => (k1 )
  | x1_ :: xs1, i1 => ((atI (a1_) ((i1 : Int))).bind fun x30 => ((d_laws_eqNode (x1_) (x30)).bind fun y32 => (bif !(y32) then (some (false)) else (d_laws_eqNodeS_L1 a0_ a1_ k1 xs1 (i1 + 1) ))))

def d_laws_eqNodeS (a0_ : List Node) (a1_ : List Node) : Option Bool := (bif ((((a0_).map Node.c).length : Int) : Int) != ((((a1_).map Node.c).length : Int)) then (some (false)) else (d_laws_eqNodeS_L1 a0_ a1_ (some (true)) (a0_) 0 ))
set_option maxRecDepth 100000 in
set_option linter.unusedVariables false in
theorem d_laws_eqNodeS_L1w {Γ : Ctx} (hΓ : Γ.nt = 27) {N : Nat → St → Prop} {a0_ : List Node} {a1_ : List Node} {r : Bool} {k1 : Option Bool} (hE1 : k1 = some r → AW Try.prog Γ (dig (bodyOf Try.f25) [1, 1, 1] []).1 (KQ Try.prog Γ N (RetQ Try.prog Try.f25 (D.bool (r))) (dig (bodyOf Try.f25) [1, 1, 1] []).2) ⟨[], []⟩) (hm1 : (a0_).length ≤ maxLen) : ∀ (rest : List Node) (i1 : Nat) , (a0_).drop i1 = rest → d_laws_eqNodeS_L1 a0_ a1_ k1 rest i1  = some r → AWr Try.prog Γ (dig (bodyOf Try.f25) [1, 1, 0, 1, 0, 0] []).1 (KQ Try.prog Γ N (RetQ Try.prog Try.f25 (D.bool (r))) (dig (bodyOf Try.f25) [1, 1, 0, 1, 0] []).2) (rest.length + 1) ⟨[(0, D.sl ((a0_).map Node.c)), (1, D.sl ((a1_).map Node.c)), (5, D.int .i64 ((i1 : Int)))], []⟩ := by
  intro rest
  induction rest with
  | nil =>
    intro i1  hd1 h
    rw [d_laws_eqNodeS_L1] at h
    refine AWr_succ fun N1 hN1 hS1 => ?_
    have t := AW_N (N := N) (N' := N1) (K0 := (dig (bodyOf Try.f25) [1, 1, 0, 1, 0] []).2) (by kernel_rfl) hN1 (hE1  h)
    refine AW_go (n := 2000) [[none]] [.b false, .hl 0 [] []] (.at_ (dig (bodyOf Try.f25) [1, 1, 1] []).1 (dig (bodyOf Try.f25) [1, 1, 1] []).2 ⟨[], []⟩) [(decide (((i1 : Int) : Int) < ((((a0_).map Node.c).length : Int)))) = false] hΓ mix (by kernel_rfl) ⟨((by rw [List.length_map]; exact lt_false (drop_nil hd1))), trivial⟩ ?_
    first | exact t | (simp only [List.map_append, List.map_cons, List.map_nil, List.map_set] at t ⊢; exact t)
  | cons x1_ xs1 ih1 =>
    intro i1  hd1 h
    rw [d_laws_eqNodeS_L1] at h
    refine AWr_succ fun N1 hN1 hS1 => ?_
    obtain ⟨x30, h31, h⟩ := den_bind h
    obtain ⟨y32, h33, h⟩ := den_bind h
    rcases den_if h with ⟨h34, h⟩ | ⟨h34, h⟩
    · have h := den_some h
      subst h
      exact AW_go (n := 2000) [[none]] [.b true, .n 8, .row [D.int .i64 (x1_.parent), D.int .i64 (x1_.cond.kind), D.str (x1_.cond.pat.rel), D.sl ((x1_.cond.pat.args).map tx), D.str (x1_.cond.left), D.str (x1_.cond.right), D.int .i64 (x1_.alpha), D.sl ((x1_.tokens).map Token.c)], .row [D.int .i64 (x30.parent), D.int .i64 (x30.cond.kind), D.str (x30.cond.pat.rel), D.sl ((x30.cond.pat.args).map tx), D.str (x30.cond.left), D.str (x30.cond.right), D.int .i64 (x30.alpha), D.sl ((x30.tokens).map Token.c)], .d (D.bool (y32)), .b true] (.ret (D.bool (false))) [(decide (((i1 : Int) : Int) < ((((a0_).map Node.c).length : Int)))) = true, 0 ≤ ((i1 : Int)) ∧ ((a0_).map Node.c)[((i1 : Int)).toNat]? = some [D.int .i64 (x1_.parent), D.int .i64 (x1_.cond.kind), D.str (x1_.cond.pat.rel), D.sl ((x1_.cond.pat.args).map tx), D.str (x1_.cond.left), D.str (x1_.cond.right), D.int .i64 (x1_.alpha), D.sl ((x1_.tokens).map Token.c)] ∧ ([D.int .i64 (x1_.parent), D.int .i64 (x1_.cond.kind), D.str (x1_.cond.pat.rel), D.sl ((x1_.cond.pat.args).map tx), D.str (x1_.cond.left), D.str (x1_.cond.right), D.int .i64 (x1_.alpha), D.sl ((x1_.tokens).map Token.c)] : List D).length = 8, 0 ≤ ((i1 : Int)) ∧ ((a1_).map Node.c)[((i1 : Int)).toNat]? = some [D.int .i64 (x30.parent), D.int .i64 (x30.cond.kind), D.str (x30.cond.pat.rel), D.sl ((x30.cond.pat.args).map tx), D.str (x30.cond.left), D.str (x30.cond.right), D.int .i64 (x30.alpha), D.sl ((x30.tokens).map Token.c)] ∧ ([D.int .i64 (x30.parent), D.int .i64 (x30.cond.kind), D.str (x30.cond.pat.rel), D.sl ((x30.cond.pat.args).map tx), D.str (x30.cond.left), D.str (x30.cond.right), D.int .i64 (x30.alpha), D.sl ((x30.tokens).map Token.c)] : List D).length = 8, Good Try.prog 47 [D.agg [D.int .i64 (x1_.parent), D.int .i64 (x1_.cond.kind), D.str (x1_.cond.pat.rel), D.sl ((x1_.cond.pat.args).map tx), D.str (x1_.cond.left), D.str (x1_.cond.right), D.int .i64 (x1_.alpha), D.sl ((x1_.tokens).map Token.c)], D.agg [D.int .i64 (x30.parent), D.int .i64 (x30.cond.kind), D.str (x30.cond.pat.rel), D.sl ((x30.cond.pat.args).map tx), D.str (x30.cond.left), D.str (x30.cond.right), D.int .i64 (x30.alpha), D.sl ((x30.tokens).map Token.c)]] (D.bool (y32)), (!(y32)) = true] hΓ mix (by kernel_rfl) ⟨((by rw [List.length_map]; exact lt_true (drop_cons hd1).2.1)), (⟨(map_at Node.c (drop_cons hd1).1).1, (map_at Node.c (drop_cons hd1).1).2, rfl⟩), (⟨(at_ok Node.c h31).1, (at_ok Node.c h31).2, rfl⟩), (d_laws_eqNode_good h33), (h34), trivial⟩ (by first | rfl | (simp only [List.map_append, List.map_cons, List.map_nil, List.map_set] <;> rfl))
    · have t := ih1 (i1 + 1)  (drop_cons hd1).2.2 h
      refine AW_go (n := 2000) [[none]] [.b true, .n 8, .row [D.int .i64 (x1_.parent), D.int .i64 (x1_.cond.kind), D.str (x1_.cond.pat.rel), D.sl ((x1_.cond.pat.args).map tx), D.str (x1_.cond.left), D.str (x1_.cond.right), D.int .i64 (x1_.alpha), D.sl ((x1_.tokens).map Token.c)], .row [D.int .i64 (x30.parent), D.int .i64 (x30.cond.kind), D.str (x30.cond.pat.rel), D.sl ((x30.cond.pat.args).map tx), D.str (x30.cond.left), D.str (x30.cond.right), D.int .i64 (x30.alpha), D.sl ((x30.tokens).map Token.c)], .d (D.bool (y32)), .b false, .cn [0, 1, 5] []] (.cont 0 ⟨[(0, D.sl ((a0_).map Node.c)), (1, D.sl ((a1_).map Node.c)), (5, D.int .i64 (IntKind.i64.wrap (((i1 : Int)) + (1))))], []⟩) [(decide (((i1 : Int) : Int) < ((((a0_).map Node.c).length : Int)))) = true, 0 ≤ ((i1 : Int)) ∧ ((a0_).map Node.c)[((i1 : Int)).toNat]? = some [D.int .i64 (x1_.parent), D.int .i64 (x1_.cond.kind), D.str (x1_.cond.pat.rel), D.sl ((x1_.cond.pat.args).map tx), D.str (x1_.cond.left), D.str (x1_.cond.right), D.int .i64 (x1_.alpha), D.sl ((x1_.tokens).map Token.c)] ∧ ([D.int .i64 (x1_.parent), D.int .i64 (x1_.cond.kind), D.str (x1_.cond.pat.rel), D.sl ((x1_.cond.pat.args).map tx), D.str (x1_.cond.left), D.str (x1_.cond.right), D.int .i64 (x1_.alpha), D.sl ((x1_.tokens).map Token.c)] : List D).length = 8, 0 ≤ ((i1 : Int)) ∧ ((a1_).map Node.c)[((i1 : Int)).toNat]? = some [D.int .i64 (x30.parent), D.int .i64 (x30.cond.kind), D.str (x30.cond.pat.rel), D.sl ((x30.cond.pat.args).map tx), D.str (x30.cond.left), D.str (x30.cond.right), D.int .i64 (x30.alpha), D.sl ((x30.tokens).map Token.c)] ∧ ([D.int .i64 (x30.parent), D.int .i64 (x30.cond.kind), D.str (x30.cond.pat.rel), D.sl ((x30.cond.pat.args).map tx), D.str (x30.cond.left), D.str (x30.cond.right), D.int .i64 (x30.alpha), D.sl ((x30.tokens).map Token.c)] : List D).length = 8, Good Try.prog 47 [D.agg [D.int .i64 (x1_.parent), D.int .i64 (x1_.cond.kind), D.str (x1_.cond.pat.rel), D.sl ((x1_.cond.pat.args).map tx), D.str (x1_.cond.left), D.str (x1_.cond.right), D.int .i64 (x1_.alpha), D.sl ((x1_.tokens).map Token.c)], D.agg [D.int .i64 (x30.parent), D.int .i64 (x30.cond.kind), D.str (x30.cond.pat.rel), D.sl ((x30.cond.pat.args).map tx), D.str (x30.cond.left), D.str (x30.cond.right), D.int .i64 (x30.alpha), D.sl ((x30.tokens).map Token.c)]] (D.bool (y32)), (!(y32)) = false] hΓ mix (by kernel_rfl) ⟨((by rw [List.length_map]; exact lt_true (drop_cons hd1).2.1)), (⟨(map_at Node.c (drop_cons hd1).1).1, (map_at Node.c (drop_cons hd1).1).2, rfl⟩), (⟨(at_ok Node.c h31).1, (at_ok Node.c h31).2, rfl⟩), (d_laws_eqNode_good h33), (h34), trivial⟩ ?_
      refine (congrFun hS1 _).mpr ?_
      rw [i64_succ (drop_cons hd1).2.1 hm1]
      first | exact t | (simp only [List.map_append, List.map_cons, List.map_nil, List.map_set] at t ⊢; exact t)

set_option maxRecDepth 100000 in
set_option linter.unusedVariables false in
theorem d_laws_eqNodeS_good {a0_ : List Node} {a1_ : List Node} {r : Bool} (h : d_laws_eqNodeS a0_ a1_ = some r) : Good Try.prog 25 [D.sl ((a0_).map Node.c), D.sl ((a1_).map Node.c)] (D.bool (r)) := by
  refine Good.of (c := bodyOf Try.f25) Try.func25 rfl (by decide) (by simp [Try.f25]) ?_
  intro hr Γ hΓ
  have hΓ : Γ.nt = 27 := hΓ
  rw [d_laws_eqNodeS] at h
  refine (show AW Try.prog Γ (bodyOf Try.f25) (KQ Try.prog Γ (fun _ _ => False) (RetQ Try.prog Try.f25 (D.bool (r))) []) _ from ?_)
  rcases den_if h with ⟨h1, h⟩ | ⟨h1, h⟩
  · have h := den_some h
    subst h
    exact AW_go (n := 2000) [[none]] [.b true] (.ret (D.bool (false))) [(((((a0_).map Node.c).length : Int) : Int) != ((((a1_).map Node.c).length : Int))) = true] hΓ mix (by kernel_rfl) ⟨(h1), trivial⟩ (by first | rfl | (simp only [List.map_append, List.map_cons, List.map_nil, List.map_set] <;> rfl))
  · refine AW_go (n := 2000) [[none]] [.b false, .cn [0, 1, 5] []] (.lp (dig (bodyOf Try.f25) [1, 1, 0, 1, 0, 0] []).1 (dig (bodyOf Try.f25) [1, 1, 0, 1, 0] []).2 ⟨[(0, D.sl ((a0_).map Node.c)), (1, D.sl ((a1_).map Node.c)), (5, D.int .i64 (0))], []⟩) [(((((a0_).map Node.c).length : Int) : Int) != ((((a1_).map Node.c).length : Int))) = false] hΓ mix (by kernel_rfl) ⟨(h1), trivial⟩ (AW_st (by first | rfl | (simp only [List.map_append, List.map_cons, List.map_nil, List.map_set, List.map_replicate] <;> rfl)) (AW_of_r (d_laws_eqNodeS_L1w hΓ (fun h => ?_) (by have := (Rdb.sl (hr _ (List.mem_of_getElem? (i := 0) rfl))).1; simpa using this) (a0_) 0  rfl h)))
    have h := den_some h
    subst h
    exact AW_go (n := 2000) [[none]] [] (.ret (D.bool (true))) [] hΓ mix (by kernel_rfl) trivial (by first | rfl | (simp only [List.map_append, List.map_cons, List.map_nil, List.map_set] <;> rfl))

def d_laws_eqNetwork (a0_ : Network) (a1_ : Network) : Option Bool := ((d_laws_eqRuleS (a0_.rules) (a1_.rules)).bind fun y1 => (bif !(y1) then (some (false)) else ((d_laws_eqIntS (a0_.ends) (a1_.ends)).bind fun y4 => (bif !(y4) then (some (false)) else ((d_laws_eqAlphaS (a0_.alphas) (a1_.alphas)).bind fun y7 => (bif !(y7) then (some (false)) else ((d_laws_eqNodeS (a0_.nodes) (a1_.nodes)).bind fun y10 => (bif !(y10) then (some (false)) else ((d_laws_eqFactS (a0_.facts) (a1_.facts)).bind fun y13 => (bif !(y13) then (some (false)) else (bif (a0_.tries : Int) != (a1_.tries) then (some (false)) else (some (true)))))))))))))
set_option maxRecDepth 100000 in
set_option linter.unusedVariables false in
theorem d_laws_eqNetwork_good {a0_ : Network} {a1_ : Network} {r : Bool} (h : d_laws_eqNetwork a0_ a1_ = some r) : Good Try.prog 9 [D.agg [D.sl ((a0_.rules).map Rule.c), D.sl ((a0_.ends).map ixx), D.sl ((a0_.alphas).map Alpha.c), D.sl ((a0_.nodes).map Node.c), D.sl ((a0_.facts).map Fact.c), D.int .i64 (a0_.tries)], D.agg [D.sl ((a1_.rules).map Rule.c), D.sl ((a1_.ends).map ixx), D.sl ((a1_.alphas).map Alpha.c), D.sl ((a1_.nodes).map Node.c), D.sl ((a1_.facts).map Fact.c), D.int .i64 (a1_.tries)]] (D.bool (r)) := by
  refine Good.of (c := bodyOf Try.f9) Try.func9 rfl (by decide) (by simp [Try.f9]) ?_
  intro hr Γ hΓ
  have hΓ : Γ.nt = 40 := hΓ
  rw [d_laws_eqNetwork] at h
  refine (show AW Try.prog Γ (bodyOf Try.f9) (KQ Try.prog Γ (fun _ _ => False) (RetQ Try.prog Try.f9 (D.bool (r))) []) _ from ?_)
  obtain ⟨y1, h2, h⟩ := den_bind h
  rcases den_if h with ⟨h3, h⟩ | ⟨h3, h⟩
  · have h := den_some h
    subst h
    exact AW_go (n := 2000) [[none]] [.d (D.bool (y1)), .b true] (.ret (D.bool (false))) [Good Try.prog 22 [D.sl ((a0_.rules).map Rule.c), D.sl ((a1_.rules).map Rule.c)] (D.bool (y1)), (!(y1)) = true] hΓ mix (by kernel_rfl) ⟨(d_laws_eqRuleS_good h2), (h3), trivial⟩ (by first | rfl | (simp only [List.map_append, List.map_cons, List.map_nil, List.map_set] <;> rfl))
  · obtain ⟨y4, h5, h⟩ := den_bind h
    rcases den_if h with ⟨h6, h⟩ | ⟨h6, h⟩
    · have h := den_some h
      subst h
      exact AW_go (n := 2000) [[none]] [.d (D.bool (y1)), .b false, .d (D.bool (y4)), .b true] (.ret (D.bool (false))) [Good Try.prog 22 [D.sl ((a0_.rules).map Rule.c), D.sl ((a1_.rules).map Rule.c)] (D.bool (y1)), (!(y1)) = false, Good Try.prog 23 [D.sl ((a0_.ends).map ixx), D.sl ((a1_.ends).map ixx)] (D.bool (y4)), (!(y4)) = true] hΓ mix (by kernel_rfl) ⟨(d_laws_eqRuleS_good h2), (h3), (d_laws_eqIntS_good h5), (h6), trivial⟩ (by first | rfl | (simp only [List.map_append, List.map_cons, List.map_nil, List.map_set] <;> rfl))
    · obtain ⟨y7, h8, h⟩ := den_bind h
      rcases den_if h with ⟨h9, h⟩ | ⟨h9, h⟩
      · have h := den_some h
        subst h
        exact AW_go (n := 2000) [[none]] [.d (D.bool (y1)), .b false, .d (D.bool (y4)), .b false, .d (D.bool (y7)), .b true] (.ret (D.bool (false))) [Good Try.prog 22 [D.sl ((a0_.rules).map Rule.c), D.sl ((a1_.rules).map Rule.c)] (D.bool (y1)), (!(y1)) = false, Good Try.prog 23 [D.sl ((a0_.ends).map ixx), D.sl ((a1_.ends).map ixx)] (D.bool (y4)), (!(y4)) = false, Good Try.prog 24 [D.sl ((a0_.alphas).map Alpha.c), D.sl ((a1_.alphas).map Alpha.c)] (D.bool (y7)), (!(y7)) = true] hΓ mix (by kernel_rfl) ⟨(d_laws_eqRuleS_good h2), (h3), (d_laws_eqIntS_good h5), (h6), (d_laws_eqAlphaS_good h8), (h9), trivial⟩ (by first | rfl | (simp only [List.map_append, List.map_cons, List.map_nil, List.map_set] <;> rfl))
      · obtain ⟨y10, h11, h⟩ := den_bind h
        rcases den_if h with ⟨h12, h⟩ | ⟨h12, h⟩
        · have h := den_some h
          subst h
          exact AW_go (n := 2000) [[none]] [.d (D.bool (y1)), .b false, .d (D.bool (y4)), .b false, .d (D.bool (y7)), .b false, .d (D.bool (y10)), .b true] (.ret (D.bool (false))) [Good Try.prog 22 [D.sl ((a0_.rules).map Rule.c), D.sl ((a1_.rules).map Rule.c)] (D.bool (y1)), (!(y1)) = false, Good Try.prog 23 [D.sl ((a0_.ends).map ixx), D.sl ((a1_.ends).map ixx)] (D.bool (y4)), (!(y4)) = false, Good Try.prog 24 [D.sl ((a0_.alphas).map Alpha.c), D.sl ((a1_.alphas).map Alpha.c)] (D.bool (y7)), (!(y7)) = false, Good Try.prog 25 [D.sl ((a0_.nodes).map Node.c), D.sl ((a1_.nodes).map Node.c)] (D.bool (y10)), (!(y10)) = true] hΓ mix (by kernel_rfl) ⟨(d_laws_eqRuleS_good h2), (h3), (d_laws_eqIntS_good h5), (h6), (d_laws_eqAlphaS_good h8), (h9), (d_laws_eqNodeS_good h11), (h12), trivial⟩ (by first | rfl | (simp only [List.map_append, List.map_cons, List.map_nil, List.map_set] <;> rfl))
        · obtain ⟨y13, h14, h⟩ := den_bind h
          rcases den_if h with ⟨h15, h⟩ | ⟨h15, h⟩
          · have h := den_some h
            subst h
            exact AW_go (n := 2000) [[none]] [.d (D.bool (y1)), .b false, .d (D.bool (y4)), .b false, .d (D.bool (y7)), .b false, .d (D.bool (y10)), .b false, .d (D.bool (y13)), .b true] (.ret (D.bool (false))) [Good Try.prog 22 [D.sl ((a0_.rules).map Rule.c), D.sl ((a1_.rules).map Rule.c)] (D.bool (y1)), (!(y1)) = false, Good Try.prog 23 [D.sl ((a0_.ends).map ixx), D.sl ((a1_.ends).map ixx)] (D.bool (y4)), (!(y4)) = false, Good Try.prog 24 [D.sl ((a0_.alphas).map Alpha.c), D.sl ((a1_.alphas).map Alpha.c)] (D.bool (y7)), (!(y7)) = false, Good Try.prog 25 [D.sl ((a0_.nodes).map Node.c), D.sl ((a1_.nodes).map Node.c)] (D.bool (y10)), (!(y10)) = false, Good Try.prog 26 [D.sl ((a0_.facts).map Fact.c), D.sl ((a1_.facts).map Fact.c)] (D.bool (y13)), (!(y13)) = true] hΓ mix (by kernel_rfl) ⟨(d_laws_eqRuleS_good h2), (h3), (d_laws_eqIntS_good h5), (h6), (d_laws_eqAlphaS_good h8), (h9), (d_laws_eqNodeS_good h11), (h12), (d_laws_eqFactS_good h14), (h15), trivial⟩ (by first | rfl | (simp only [List.map_append, List.map_cons, List.map_nil, List.map_set] <;> rfl))
          · rcases den_if h with ⟨h16, h⟩ | ⟨h16, h⟩
            · have h := den_some h
              subst h
              exact AW_go (n := 2000) [[none]] [.d (D.bool (y1)), .b false, .d (D.bool (y4)), .b false, .d (D.bool (y7)), .b false, .d (D.bool (y10)), .b false, .d (D.bool (y13)), .b false, .b true] (.ret (D.bool (false))) [Good Try.prog 22 [D.sl ((a0_.rules).map Rule.c), D.sl ((a1_.rules).map Rule.c)] (D.bool (y1)), (!(y1)) = false, Good Try.prog 23 [D.sl ((a0_.ends).map ixx), D.sl ((a1_.ends).map ixx)] (D.bool (y4)), (!(y4)) = false, Good Try.prog 24 [D.sl ((a0_.alphas).map Alpha.c), D.sl ((a1_.alphas).map Alpha.c)] (D.bool (y7)), (!(y7)) = false, Good Try.prog 25 [D.sl ((a0_.nodes).map Node.c), D.sl ((a1_.nodes).map Node.c)] (D.bool (y10)), (!(y10)) = false, Good Try.prog 26 [D.sl ((a0_.facts).map Fact.c), D.sl ((a1_.facts).map Fact.c)] (D.bool (y13)), (!(y13)) = false, ((a0_.tries : Int) != (a1_.tries)) = true] hΓ mix (by kernel_rfl) ⟨(d_laws_eqRuleS_good h2), (h3), (d_laws_eqIntS_good h5), (h6), (d_laws_eqAlphaS_good h8), (h9), (d_laws_eqNodeS_good h11), (h12), (d_laws_eqFactS_good h14), (h15), (h16), trivial⟩ (by first | rfl | (simp only [List.map_append, List.map_cons, List.map_nil, List.map_set] <;> rfl))
            · have h := den_some h
              subst h
              exact AW_go (n := 2000) [[none]] [.d (D.bool (y1)), .b false, .d (D.bool (y4)), .b false, .d (D.bool (y7)), .b false, .d (D.bool (y10)), .b false, .d (D.bool (y13)), .b false, .b false] (.ret (D.bool (true))) [Good Try.prog 22 [D.sl ((a0_.rules).map Rule.c), D.sl ((a1_.rules).map Rule.c)] (D.bool (y1)), (!(y1)) = false, Good Try.prog 23 [D.sl ((a0_.ends).map ixx), D.sl ((a1_.ends).map ixx)] (D.bool (y4)), (!(y4)) = false, Good Try.prog 24 [D.sl ((a0_.alphas).map Alpha.c), D.sl ((a1_.alphas).map Alpha.c)] (D.bool (y7)), (!(y7)) = false, Good Try.prog 25 [D.sl ((a0_.nodes).map Node.c), D.sl ((a1_.nodes).map Node.c)] (D.bool (y10)), (!(y10)) = false, Good Try.prog 26 [D.sl ((a0_.facts).map Fact.c), D.sl ((a1_.facts).map Fact.c)] (D.bool (y13)), (!(y13)) = false, ((a0_.tries : Int) != (a1_.tries)) = false] hΓ mix (by kernel_rfl) ⟨(d_laws_eqRuleS_good h2), (h3), (d_laws_eqIntS_good h5), (h6), (d_laws_eqAlphaS_good h8), (h9), (d_laws_eqNodeS_good h11), (h12), (d_laws_eqFactS_good h14), (h15), (h16), trivial⟩ (by first | rfl | (simp only [List.map_append, List.map_cons, List.map_nil, List.map_set] <;> rfl))

end Go.Cx
