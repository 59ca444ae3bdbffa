/- What functions of the program compute, and the walks that show it. No condition. -/
import Derived.Test.YtombnhdljkfobaaNData
namespace Go.Cx
open Go.RowKit Go.Proofs
def d_laws_szStringS_L1 (a0_ : List Bytes) (k1 : Int → Option Int) : List Bytes → Nat → Int → Option Int
  | [], i1, v1_1 => (k1 (v1_1))
  | x1_ :: xs1, i1, v1_1 => (bif decide ((IntKind.i64.wrap ((v1_1) - (((x1_).length : Int))) : Int) < (0)) then (some (-1)) else (d_laws_szStringS_L1 a0_ k1 xs1 (i1 + 1) (IntKind.i64.wrap ((v1_1) - (((x1_).length : Int))))))

def d_laws_szStringS (a0_ : List Bytes) (a1_ : Int) : Option Int := (bif decide ((IntKind.i64.wrap ((a1_) - ((((a0_).map tx).length : Int))) : Int) < (0)) then (some (-1)) else (d_laws_szStringS_L1 a0_ (fun (z1_1 : Int) => (some (z1_1))) (a0_) 0 (IntKind.i64.wrap ((a1_) - ((((a0_).map tx).length : Int))))))
set_option maxRecDepth 100000 in
set_option linter.unusedVariables false in
theorem d_laws_szStringS_L1w {Γ : Ctx} (hΓ : Γ.nt = 28) {N : Nat → St → Prop} {a0_ : List Bytes} {r : Int} {k1 : Int → Option Int} (hE1 : ∀ (z1_1 : Int), k1 z1_1 = some r → AW Try.prog Γ (dig (bodyOf Try.f62) [1, 1, 1, 1] []).1 (KQ Try.prog Γ N (RetQ Try.prog Try.f62 (D.int .i64 (r))) (dig (bodyOf Try.f62) [1, 1, 1, 1] []).2) ⟨[(1, D.int .i64 (z1_1))], []⟩) (hm1 : (a0_).length ≤ maxLen) : ∀ (rest : List Bytes) (i1 : Nat) (v1_1 : Int), (a0_).drop i1 = rest → d_laws_szStringS_L1 a0_ k1 rest i1 v1_1 = some r → AWr Try.prog Γ (dig (bodyOf Try.f62) [1, 1, 1, 0, 1, 0, 0] []).1 (KQ Try.prog Γ N (RetQ Try.prog Try.f62 (D.int .i64 (r))) (dig (bodyOf Try.f62) [1, 1, 1, 0, 1, 0] []).2) (rest.length + 1) ⟨[(0, D.sl ((a0_).map tx)), (1, D.int .i64 (v1_1)), (5, D.int .i64 ((i1 : Int)))], []⟩ := by
  intro rest
  induction rest with
  | nil =>
    intro i1 v1_1 hd1 h
    rw [d_laws_szStringS_L1] at h
    refine AWr_succ fun N1 hN1 hS1 => ?_
    have t := AW_N (N := N) (N' := N1) (K0 := (dig (bodyOf Try.f62) [1, 1, 1, 0, 1, 0] []).2) (by kernel_rfl) hN1 (hE1 (v1_1) h)
    refine AW_go (n := 2000) [[none]] [.b false, .hl 0 [1] []] (.at_ (dig (bodyOf Try.f62) [1, 1, 1, 1] []).1 (dig (bodyOf Try.f62) [1, 1, 1, 1] []).2 ⟨[(1, D.int .i64 (v1_1))], []⟩) [(decide (((i1 : Int) : Int) < ((((a0_).map tx).length : Int)))) = false] hΓ mix (by kernel_rfl) ⟨((by rw [List.length_map]; exact lt_false (drop_nil hd1))), trivial⟩ ?_
    first | exact t | (simp only [List.map_append, List.map_cons, List.map_nil, List.map_set] at t ⊢; exact t)
  | cons x1_ xs1 ih1 =>
    intro i1 v1_1 hd1 h
    rw [d_laws_szStringS_L1] at h
    refine AWr_succ fun N1 hN1 hS1 => ?_
    rcases den_if h with ⟨h14, h⟩ | ⟨h14, h⟩
    · have h := den_some h
      subst h
      exact AW_go (n := 2000) [[none]] [.b true, .row [D.str (x1_)], .b true] (.ret (D.int .i64 (-1))) [(decide (((i1 : Int) : Int) < ((((a0_).map tx).length : Int)))) = true, 0 ≤ ((i1 : Int)) ∧ ((a0_).map tx)[((i1 : Int)).toNat]? = some [D.str (x1_)] ∧ ([D.str (x1_)] : List D).length = 1, (decide ((IntKind.i64.wrap ((v1_1) - (((x1_).length : Int))) : Int) < (0))) = true] hΓ mix (by kernel_rfl) ⟨((by rw [List.length_map]; exact lt_true (drop_cons hd1).2.1)), (⟨(map_at tx (drop_cons hd1).1).1, (map_at tx (drop_cons hd1).1).2, rfl⟩), (h14), trivial⟩ (by first | rfl | (simp only [List.map_append, List.map_cons, List.map_nil, List.map_set] <;> rfl))
    · have t := ih1 (i1 + 1) (IntKind.i64.wrap ((v1_1) - (((x1_).length : Int)))) (drop_cons hd1).2.2 h
      refine AW_go (n := 2000) [[none]] [.b true, .row [D.str (x1_)], .b false, .cn [0, 1, 5] []] (.cont 0 ⟨[(0, D.sl ((a0_).map tx)), (1, D.int .i64 (IntKind.i64.wrap ((v1_1) - (((x1_).length : Int))))), (5, D.int .i64 (IntKind.i64.wrap (((i1 : Int)) + (1))))], []⟩) [(decide (((i1 : Int) : Int) < ((((a0_).map tx).length : Int)))) = true, 0 ≤ ((i1 : Int)) ∧ ((a0_).map tx)[((i1 : Int)).toNat]? = some [D.str (x1_)] ∧ ([D.str (x1_)] : List D).length = 1, (decide ((IntKind.i64.wrap ((v1_1) - (((x1_).length : Int))) : Int) < (0))) = false] hΓ mix (by kernel_rfl) ⟨((by rw [List.length_map]; exact lt_true (drop_cons hd1).2.1)), (⟨(map_at tx (drop_cons hd1).1).1, (map_at tx (drop_cons hd1).1).2, rfl⟩), (h14), trivial⟩ ?_
      refine (congrFun hS1 _).mpr ?_
      rw [i64_succ (drop_cons hd1).2.1 hm1]
      first | exact t | (simp only [List.map_append, List.map_cons, List.map_nil, List.map_set] at t ⊢; exact t)

set_option maxRecDepth 100000 in
set_option linter.unusedVariables false in
theorem d_laws_szStringS_good {a0_ : List Bytes} {a1_ : Int} {r : Int} (h : d_laws_szStringS a0_ a1_ = some r) : Good Try.prog 62 [D.sl ((a0_).map tx), D.int .i64 (a1_)] (D.int .i64 (r)) := by
  refine Good.of (c := bodyOf Try.f62) Try.func62 rfl (by decide) (by simp [Try.f62]) ?_
  intro hr Γ hΓ
  have hΓ : Γ.nt = 28 := hΓ
  rw [d_laws_szStringS] at h
  refine (show AW Try.prog Γ (bodyOf Try.f62) (KQ Try.prog Γ (fun _ _ => False) (RetQ Try.prog Try.f62 (D.int .i64 (r))) []) _ from ?_)
  rcases den_if h with ⟨h1, h⟩ | ⟨h1, h⟩
  · have h := den_some h
    subst h
    exact AW_go (n := 2000) [[none]] [.b true] (.ret (D.int .i64 (-1))) [(decide ((IntKind.i64.wrap ((a1_) - ((((a0_).map tx).length : Int))) : Int) < (0))) = true] hΓ mix (by kernel_rfl) ⟨(h1), trivial⟩ (by first | rfl | (simp only [List.map_append, List.map_cons, List.map_nil, List.map_set] <;> rfl))
  · refine AW_go (n := 2000) [[none]] [.b false, .cn [0, 1, 5] []] (.lp (dig (bodyOf Try.f62) [1, 1, 1, 0, 1, 0, 0] []).1 (dig (bodyOf Try.f62) [1, 1, 1, 0, 1, 0] []).2 ⟨[(0, D.sl ((a0_).map tx)), (1, D.int .i64 (IntKind.i64.wrap ((a1_) - ((((a0_).map tx).length : Int))))), (5, D.int .i64 (0))], []⟩) [(decide ((IntKind.i64.wrap ((a1_) - ((((a0_).map tx).length : Int))) : Int) < (0))) = false] hΓ mix (by kernel_rfl) ⟨(h1), trivial⟩ (AW_st (by first | rfl | (simp only [List.map_append, List.map_cons, List.map_nil, List.map_set, List.map_replicate] <;> rfl)) (AW_of_r (d_laws_szStringS_L1w hΓ (fun z1_1 h => ?_) (by have := (Rdb.sl (hr _ (List.mem_of_getElem? (i := 0) rfl))).1; simpa using this) (a0_) 0 (IntKind.i64.wrap ((a1_) - ((((a0_).map tx).length : Int)))) rfl h)))
    have h := den_some h
    subst h
    exact AW_go (n := 2000) [[none]] [] (.ret (D.int .i64 (z1_1))) [] hΓ mix (by kernel_rfl) trivial (by first | rfl | (simp only [List.map_append, List.map_cons, List.map_nil, List.map_set] <;> rfl))

def d_laws_szPattern (a0_ : Fact) (a1_ : Int) : Option Int := (bif decide ((IntKind.i64.wrap ((a1_) - (((a0_.rel).length : Int))) : Int) < (0)) then (some (-1)) else ((d_laws_szStringS (a0_.args) (IntKind.i64.wrap ((a1_) - (((a0_.rel).length : Int))))).bind fun y2 => (bif decide ((y2 : Int) < (0)) then (some (-1)) else (some (y2)))))
set_option maxRecDepth 100000 in
set_option linter.unusedVariables false in
theorem d_laws_szPattern_good {a0_ : Fact} {a1_ : Int} {r : Int} (h : d_laws_szPattern a0_ a1_ = some r) : Good Try.prog 59 [D.agg [D.str (a0_.rel), D.sl ((a0_.args).map tx)], D.int .i64 (a1_)] (D.int .i64 (r)) := by
  refine Good.of (c := bodyOf Try.f59) Try.func59 rfl (by decide) (by simp [Try.f59]) ?_
  intro hr Γ hΓ
  have hΓ : Γ.nt = 19 := hΓ
  rw [d_laws_szPattern] at h
  refine (show AW Try.prog Γ (bodyOf Try.f59) (KQ Try.prog Γ (fun _ _ => False) (RetQ Try.prog Try.f59 (D.int .i64 (r))) []) _ from ?_)
  rcases den_if h with ⟨h1, h⟩ | ⟨h1, h⟩
  · have h := den_some h
    subst h
    exact AW_go (n := 2000) [[none]] [.b true] (.ret (D.int .i64 (-1))) [(decide ((IntKind.i64.wrap ((a1_) - (((a0_.rel).length : Int))) : Int) < (0))) = true] hΓ mix (by kernel_rfl) ⟨(h1), trivial⟩ (by first | rfl | (simp only [List.map_append, List.map_cons, List.map_nil, List.map_set] <;> rfl))
  · obtain ⟨y2, h3, h⟩ := den_bind h
    rcases den_if h with ⟨h4, h⟩ | ⟨h4, h⟩
    · have h := den_some h
      subst h
      exact AW_go (n := 2000) [[none]] [.b false, .d (D.int .i64 (y2)), .b true] (.ret (D.int .i64 (-1))) [(decide ((IntKind.i64.wrap ((a1_) - (((a0_.rel).length : Int))) : Int) < (0))) = false, Good Try.prog 62 [D.sl ((a0_.args).map tx), D.int .i64 (IntKind.i64.wrap ((a1_) - (((a0_.rel).length : Int))))] (D.int .i64 (y2)), (decide ((y2 : Int) < (0))) = true] hΓ mix (by kernel_rfl) ⟨(h1), (d_laws_szStringS_good h3), (h4), trivial⟩ (by first | rfl | (simp only [List.map_append, List.map_cons, List.map_nil, List.map_set] <;> rfl))
    · have h := den_some h
      subst h
      exact AW_go (n := 2000) [[none]] [.b false, .d (D.int .i64 (y2)), .b false] (.ret (D.int .i64 (y2))) [(decide ((IntKind.i64.wrap ((a1_) - (((a0_.rel).length : Int))) : Int) < (0))) = false, Good Try.prog 62 [D.sl ((a0_.args).map tx), D.int .i64 (IntKind.i64.wrap ((a1_) - (((a0_.rel).length : Int))))] (D.int .i64 (y2)), (decide ((y2 : Int) < (0))) = false] hΓ mix (by kernel_rfl) ⟨(h1), (d_laws_szStringS_good h3), (h4), trivial⟩ (by first | rfl | (simp only [List.map_append, List.map_cons, List.map_nil, List.map_set] <;> rfl))

def d_laws_szCond (a0_ : Cond) (a1_ : Int) : Option Int := ((d_laws_szPattern (a0_.pat) (a1_)).bind fun y1 => (bif decide ((y1 : Int) < (0)) then (some (-1)) else (bif decide ((IntKind.i64.wrap ((y1) - (((a0_.left).length : Int))) : Int) < (0)) then (some (-1)) else (bif decide ((IntKind.i64.wrap ((IntKind.i64.wrap ((y1) - (((a0_.left).length : Int)))) - (((a0_.right).length : Int))) : Int) < (0)) then (some (-1)) else (some (IntKind.i64.wrap ((IntKind.i64.wrap ((y1) - (((a0_.left).length : Int)))) - (((a0_.right).length : Int)))))))))
set_option maxRecDepth 100000 in
set_option linter.unusedVariables false in
theorem d_laws_szCond_good {a0_ : Cond} {a1_ : Int} {r : Int} (h : d_laws_szCond a0_ a1_ = some r) : Good Try.prog 60 [D.agg [D.int .i64 (a0_.kind), D.str (a0_.pat.rel), D.sl ((a0_.pat.args).map tx), D.str (a0_.left), D.str (a0_.right)], D.int .i64 (a1_)] (D.int .i64 (r)) := by
  refine Good.of (c := bodyOf Try.f60) Try.func60 rfl (by decide) (by simp [Try.f60]) ?_
  intro hr Γ hΓ
  have hΓ : Γ.nt = 26 := hΓ
  rw [d_laws_szCond] at h
  refine (show AW Try.prog Γ (bodyOf Try.f60) (KQ Try.prog Γ (fun _ _ => False) (RetQ Try.prog Try.f60 (D.int .i64 (r))) []) _ from ?_)
  obtain ⟨y1, h2, h⟩ := den_bind h
  rcases den_if h with ⟨h3, h⟩ | ⟨h3, h⟩
  · have h := den_some h
    subst h
    exact AW_go (n := 2000) [[none]] [.d (D.int .i64 (y1)), .b true] (.ret (D.int .i64 (-1))) [Good Try.prog 59 [D.agg [D.str (a0_.pat.rel), D.sl ((a0_.pat.args).map tx)], D.int .i64 (a1_)] (D.int .i64 (y1)), (decide ((y1 : Int) < (0))) = true] hΓ mix (by kernel_rfl) ⟨(d_laws_szPattern_good h2), (h3), trivial⟩ (by first | rfl | (simp only [List.map_append, List.map_cons, List.map_nil, List.map_set] <;> rfl))
  · rcases den_if h with ⟨h4, h⟩ | ⟨h4, h⟩
    · have h := den_some h
      subst h
      exact AW_go (n := 2000) [[none]] [.d (D.int .i64 (y1)), .b false, .b true] (.ret (D.int .i64 (-1))) [Good Try.prog 59 [D.agg [D.str (a0_.pat.rel), D.sl ((a0_.pat.args).map tx)], D.int .i64 (a1_)] (D.int .i64 (y1)), (decide ((y1 : Int) < (0))) = false, (decide ((IntKind.i64.wrap ((y1) - (((a0_.left).length : Int))) : Int) < (0))) = true] hΓ mix (by kernel_rfl) ⟨(d_laws_szPattern_good h2), (h3), (h4), trivial⟩ (by first | rfl | (simp only [List.map_append, List.map_cons, List.map_nil, List.map_set] <;> rfl))
    · rcases den_if h with ⟨h5, h⟩ | ⟨h5, h⟩
      · have h := den_some h
        subst h
        exact AW_go (n := 2000) [[none]] [.d (D.int .i64 (y1)), .b false, .b false, .b true] (.ret (D.int .i64 (-1))) [Good Try.prog 59 [D.agg [D.str (a0_.pat.rel), D.sl ((a0_.pat.args).map tx)], D.int .i64 (a1_)] (D.int .i64 (y1)), (decide ((y1 : Int) < (0))) = false, (decide ((IntKind.i64.wrap ((y1) - (((a0_.left).length : Int))) : Int) < (0))) = false, (decide ((IntKind.i64.wrap ((IntKind.i64.wrap ((y1) - (((a0_.left).length : Int)))) - (((a0_.right).length : Int))) : Int) < (0))) = true] hΓ mix (by kernel_rfl) ⟨(d_laws_szPattern_good h2), (h3), (h4), (h5), trivial⟩ (by first | rfl | (simp only [List.map_append, List.map_cons, List.map_nil, List.map_set] <;> rfl))
      · have h := den_some h
        subst h
        exact AW_go (n := 2000) [[none]] [.d (D.int .i64 (y1)), .b false, .b false, .b false] (.ret (D.int .i64 (IntKind.i64.wrap ((IntKind.i64.wrap ((y1) - (((a0_.left).length : Int)))) - (((a0_.right).length : Int)))))) [Good Try.prog 59 [D.agg [D.str (a0_.pat.rel), D.sl ((a0_.pat.args).map tx)], D.int .i64 (a1_)] (D.int .i64 (y1)), (decide ((y1 : Int) < (0))) = false, (decide ((IntKind.i64.wrap ((y1) - (((a0_.left).length : Int))) : Int) < (0))) = false, (decide ((IntKind.i64.wrap ((IntKind.i64.wrap ((y1) - (((a0_.left).length : Int)))) - (((a0_.right).length : Int))) : Int) < (0))) = false] hΓ mix (by kernel_rfl) ⟨(d_laws_szPattern_good h2), (h3), (h4), (h5), trivial⟩ (by first | rfl | (simp only [List.map_append, List.map_cons, List.map_nil, List.map_set] <;> rfl))

def d_laws_szCondS_L1 (a0_ : List Cond) (k1 : Int → Option Int) : List Cond → Nat → Int → Option Int
  | [], i1, v1_1 => (k1 (v1_1))
  | x1_ :: xs1, i1, v1_1 => ((d_laws_szCond (x1_) (v1_1)).bind fun y22 => (bif decide ((y22 : Int) < (0)) then (some (-1)) else (d_laws_szCondS_L1 a0_ k1 xs1 (i1 + 1) (y22))))

def d_laws_szCondS (a0_ : List Cond) (a1_ : Int) : Option Int := (bif decide ((IntKind.i64.wrap ((a1_) - ((((a0_).map Cond.c).length : Int))) : Int) < (0)) then (some (-1)) else (d_laws_szCondS_L1 a0_ (fun (z1_1 : Int) => (some (z1_1))) (a0_) 0 (IntKind.i64.wrap ((a1_) - ((((a0_).map Cond.c).length : Int))))))
set_option maxRecDepth 100000 in
set_option linter.unusedVariables false in
theorem d_laws_szCondS_L1w {Γ : Ctx} (hΓ : Γ.nt = 27) {N : Nat → St → Prop} {a0_ : List Cond} {r : Int} {k1 : Int → Option Int} (hE1 : ∀ (z1_1 : Int), k1 z1_1 = some r → AW Try.prog Γ (dig (bodyOf Try.f57) [1, 1, 1, 1] []).1 (KQ Try.prog Γ N (RetQ Try.prog Try.f57 (D.int .i64 (r))) (dig (bodyOf Try.f57) [1, 1, 1, 1] []).2) ⟨[(1, D.int .i64 (z1_1))], []⟩) (hm1 : (a0_).length ≤ maxLen) : ∀ (rest : List Cond) (i1 : Nat) (v1_1 : Int), (a0_).drop i1 = rest → d_laws_szCondS_L1 a0_ k1 rest i1 v1_1 = some r → AWr Try.prog Γ (dig (bodyOf Try.f57) [1, 1, 1, 0, 1, 0, 0] []).1 (KQ Try.prog Γ N (RetQ Try.prog Try.f57 (D.int .i64 (r))) (dig (bodyOf Try.f57) [1, 1, 1, 0, 1, 0] []).2) (rest.length + 1) ⟨[(0, D.sl ((a0_).map Cond.c)), (1, D.int .i64 (v1_1)), (5, D.int .i64 ((i1 : Int)))], []⟩ := by
  intro rest
  induction rest with
  | nil =>
    intro i1 v1_1 hd1 h
    rw [d_laws_szCondS_L1] at h
    refine AWr_succ fun N1 hN1 hS1 => ?_
    have t := AW_N (N := N) (N' := N1) (K0 := (dig (bodyOf Try.f57) [1, 1, 1, 0, 1, 0] []).2) (by kernel_rfl) hN1 (hE1 (v1_1) h)
    refine AW_go (n := 2000) [[none]] [.b false, .hl 0 [1] []] (.at_ (dig (bodyOf Try.f57) [1, 1, 1, 1] []).1 (dig (bodyOf Try.f57) [1, 1, 1, 1] []).2 ⟨[(1, D.int .i64 (v1_1))], []⟩) [(decide (((i1 : Int) : Int) < ((((a0_).map Cond.c).length : Int)))) = false] hΓ mix (by kernel_rfl) ⟨((by rw [List.length_map]; exact lt_false (drop_nil hd1))), trivial⟩ ?_
    first | exact t | (simp only [List.map_append, List.map_cons, List.map_nil, List.map_set] at t ⊢; exact t)
  | cons x1_ xs1 ih1 =>
    intro i1 v1_1 hd1 h
    rw [d_laws_szCondS_L1] at h
    refine AWr_succ fun N1 hN1 hS1 => ?_
    obtain ⟨y22, h23, h⟩ := den_bind h
    rcases den_if h with ⟨h24, h⟩ | ⟨h24, h⟩
    · have h := den_some h
      subst h
      exact AW_go (n := 2000) [[none]] [.b true, .row [D.int .i64 (x1_.kind), D.str (x1_.pat.rel), D.sl ((x1_.pat.args).map tx), D.str (x1_.left), D.str (x1_.right)], .d (D.int .i64 (y22)), .b true] (.ret (D.int .i64 (-1))) [(decide (((i1 : Int) : Int) < ((((a0_).map Cond.c).length : Int)))) = true, 0 ≤ ((i1 : Int)) ∧ ((a0_).map Cond.c)[((i1 : Int)).toNat]? = some [D.int .i64 (x1_.kind), D.str (x1_.pat.rel), D.sl ((x1_.pat.args).map tx), D.str (x1_.left), D.str (x1_.right)] ∧ ([D.int .i64 (x1_.kind), D.str (x1_.pat.rel), D.sl ((x1_.pat.args).map tx), D.str (x1_.left), D.str (x1_.right)] : List D).length = 5, Good Try.prog 60 [D.agg [D.int .i64 (x1_.kind), D.str (x1_.pat.rel), D.sl ((x1_.pat.args).map tx), D.str (x1_.left), D.str (x1_.right)], D.int .i64 (v1_1)] (D.int .i64 (y22)), (decide ((y22 : Int) < (0))) = true] hΓ mix (by kernel_rfl) ⟨((by rw [List.length_map]; exact lt_true (drop_cons hd1).2.1)), (⟨(map_at Cond.c (drop_cons hd1).1).1, (map_at Cond.c (drop_cons hd1).1).2, rfl⟩), (d_laws_szCond_good h23), (h24), trivial⟩ (by first | rfl | (simp only [List.map_append, List.map_cons, List.map_nil, List.map_set] <;> rfl))
    · have t := ih1 (i1 + 1) (y22) (drop_cons hd1).2.2 h
      refine AW_go (n := 2000) [[none]] [.b true, .row [D.int .i64 (x1_.kind), D.str (x1_.pat.rel), D.sl ((x1_.pat.args).map tx), D.str (x1_.left), D.str (x1_.right)], .d (D.int .i64 (y22)), .b false, .cn [0, 1, 5] []] (.cont 0 ⟨[(0, D.sl ((a0_).map Cond.c)), (1, D.int .i64 (y22)), (5, D.int .i64 (IntKind.i64.wrap (((i1 : Int)) + (1))))], []⟩) [(decide (((i1 : Int) : Int) < ((((a0_).map Cond.c).length : Int)))) = true, 0 ≤ ((i1 : Int)) ∧ ((a0_).map Cond.c)[((i1 : Int)).toNat]? = some [D.int .i64 (x1_.kind), D.str (x1_.pat.rel), D.sl ((x1_.pat.args).map tx), D.str (x1_.left), D.str (x1_.right)] ∧ ([D.int .i64 (x1_.kind), D.str (x1_.pat.rel), D.sl ((x1_.pat.args).map tx), D.str (x1_.left), D.str (x1_.right)] : List D).length = 5, Good Try.prog 60 [D.agg [D.int .i64 (x1_.kind), D.str (x1_.pat.rel), D.sl ((x1_.pat.args).map tx), D.str (x1_.left), D.str (x1_.right)], D.int .i64 (v1_1)] (D.int .i64 (y22)), (decide ((y22 : Int) < (0))) = false] hΓ mix (by kernel_rfl) ⟨((by rw [List.length_map]; exact lt_true (drop_cons hd1).2.1)), (⟨(map_at Cond.c (drop_cons hd1).1).1, (map_at Cond.c (drop_cons hd1).1).2, rfl⟩), (d_laws_szCond_good h23), (h24), trivial⟩ ?_
      refine (congrFun hS1 _).mpr ?_
      rw [i64_succ (drop_cons hd1).2.1 hm1]
      first | exact t | (simp only [List.map_append, List.map_cons, List.map_nil, List.map_set] at t ⊢; exact t)

set_option maxRecDepth 100000 in
set_option linter.unusedVariables false in
theorem d_laws_szCondS_good {a0_ : List Cond} {a1_ : Int} {r : Int} (h : d_laws_szCondS a0_ a1_ = some r) : Good Try.prog 57 [D.sl ((a0_).map Cond.c), D.int .i64 (a1_)] (D.int .i64 (r)) := by
  refine Good.of (c := bodyOf Try.f57) Try.func57 rfl (by decide) (by simp [Try.f57]) ?_
  intro hr Γ hΓ
  have hΓ : Γ.nt = 27 := hΓ
  rw [d_laws_szCondS] at h
  refine (show AW Try.prog Γ (bodyOf Try.f57) (KQ Try.prog Γ (fun _ _ => False) (RetQ Try.prog Try.f57 (D.int .i64 (r))) []) _ from ?_)
  rcases den_if h with ⟨h1, h⟩ | ⟨h1, h⟩
  · have h := den_some h
    subst h
    exact AW_go (n := 2000) [[none]] [.b true] (.ret (D.int .i64 (-1))) [(decide ((IntKind.i64.wrap ((a1_) - ((((a0_).map Cond.c).length : Int))) : Int) < (0))) = true] hΓ mix (by kernel_rfl) ⟨(h1), trivial⟩ (by first | rfl | (simp only [List.map_append, List.map_cons, List.map_nil, List.map_set] <;> rfl))
  · refine AW_go (n := 2000) [[none]] [.b false, .cn [0, 1, 5] []] (.lp (dig (bodyOf Try.f57) [1, 1, 1, 0, 1, 0, 0] []).1 (dig (bodyOf Try.f57) [1, 1, 1, 0, 1, 0] []).2 ⟨[(0, D.sl ((a0_).map Cond.c)), (1, D.int .i64 (IntKind.i64.wrap ((a1_) - ((((a0_).map Cond.c).length : Int))))), (5, D.int .i64 (0))], []⟩) [(decide ((IntKind.i64.wrap ((a1_) - ((((a0_).map Cond.c).length : Int))) : Int) < (0))) = false] hΓ mix (by kernel_rfl) ⟨(h1), trivial⟩ (AW_st (by first | rfl | (simp only [List.map_append, List.map_cons, List.map_nil, List.map_set, List.map_replicate] <;> rfl)) (AW_of_r (d_laws_szCondS_L1w hΓ (fun z1_1 h => ?_) (by have := (Rdb.sl (hr _ (List.mem_of_getElem? (i := 0) rfl))).1; simpa using this) (a0_) 0 (IntKind.i64.wrap ((a1_) - ((((a0_).map Cond.c).length : Int)))) rfl h)))
    have h := den_some h
    subst h
    exact AW_go (n := 2000) [[none]] [] (.ret (D.int .i64 (z1_1))) [] hΓ mix (by kernel_rfl) trivial (by first | rfl | (simp only [List.map_append, List.map_cons, List.map_nil, List.map_set] <;> rfl))

def d_laws_szAction (a0_ : Action) (a1_ : Int) : Option Int := ((d_laws_szPattern (a0_.pat) (a1_)).bind fun y1 => (bif decide ((y1 : Int) < (0)) then (some (-1)) else (some (y1))))
set_option maxRecDepth 100000 in
set_option linter.unusedVariables false in
theorem d_laws_szAction_good {a0_ : Action} {a1_ : Int} {r : Int} (h : d_laws_szAction a0_ a1_ = some r) : Good Try.prog 76 [D.agg [D.int .i64 (a0_.kind), D.str (a0_.pat.rel), D.sl ((a0_.pat.args).map tx)], D.int .i64 (a1_)] (D.int .i64 (r)) := by
  refine Good.of (c := bodyOf Try.f76) Try.func76 rfl (by decide) (by simp [Try.f76]) ?_
  intro hr Γ hΓ
  have hΓ : Γ.nt = 12 := hΓ
  rw [d_laws_szAction] at h
  refine (show AW Try.prog Γ (bodyOf Try.f76) (KQ Try.prog Γ (fun _ _ => False) (RetQ Try.prog Try.f76 (D.int .i64 (r))) []) _ from ?_)
  obtain ⟨y1, h2, h⟩ := den_bind h
  rcases den_if h with ⟨h3, h⟩ | ⟨h3, h⟩
  · have h := den_some h
    subst h
    exact AW_go (n := 2000) [[none]] [.d (D.int .i64 (y1)), .b true] (.ret (D.int .i64 (-1))) [Good Try.prog 59 [D.agg [D.str (a0_.pat.rel), D.sl ((a0_.pat.args).map tx)], D.int .i64 (a1_)] (D.int .i64 (y1)), (decide ((y1 : Int) < (0))) = true] hΓ mix (by kernel_rfl) ⟨(d_laws_szPattern_good h2), (h3), trivial⟩ (by first | rfl | (simp only [List.map_append, List.map_cons, List.map_nil, List.map_set] <;> rfl))
  · have h := den_some h
    subst h
    exact AW_go (n := 2000) [[none]] [.d (D.int .i64 (y1)), .b false] (.ret (D.int .i64 (y1))) [Good Try.prog 59 [D.agg [D.str (a0_.pat.rel), D.sl ((a0_.pat.args).map tx)], D.int .i64 (a1_)] (D.int .i64 (y1)), (decide ((y1 : Int) < (0))) = false] hΓ mix (by kernel_rfl) ⟨(d_laws_szPattern_good h2), (h3), trivial⟩ (by first | rfl | (simp only [List.map_append, List.map_cons, List.map_nil, List.map_set] <;> rfl))

def d_laws_szActionS_L1 (a0_ : List Action) (k1 : Int → Option Int) : List Action → Nat → Int → Option Int
  | [], i1, v1_1 => (k1 (v1_1))
  | x1_ :: xs1, i1, v1_1 => ((d_laws_szAction (x1_) (v1_1)).bind fun y22 => (bif decide ((y22 : Int) < (0)) then (some (-1)) else (d_laws_szActionS_L1 a0_ k1 xs1 (i1 + 1) (y22))))

def d_laws_szActionS (a0_ : List Action) (a1_ : Int) : Option Int := (bif decide ((IntKind.i64.wrap ((a1_) - ((((a0_).map Action.c).length : Int))) : Int) < (0)) then (some (-1)) else (d_laws_szActionS_L1 a0_ (fun (z1_1 : Int) => (some (z1_1))) (a0_) 0 (IntKind.i64.wrap ((a1_) - ((((a0_).map Action.c).length : Int))))))
set_option maxRecDepth 100000 in
set_option linter.unusedVariables false in
theorem d_laws_szActionS_L1w {Γ : Ctx} (hΓ : Γ.nt = 27) {N : Nat → St → Prop} {a0_ : List Action} {r : Int} {k1 : Int → Option Int} (hE1 : ∀ (z1_1 : Int), k1 z1_1 = some r → AW Try.prog Γ (dig (bodyOf Try.f58) [1, 1, 1, 1] []).1 (KQ Try.prog Γ N (RetQ Try.prog Try.f58 (D.int .i64 (r))) (dig (bodyOf Try.f58) [1, 1, 1, 1] []).2) ⟨[(1, D.int .i64 (z1_1))], []⟩) (hm1 : (a0_).length ≤ maxLen) : ∀ (rest : List Action) (i1 : Nat) (v1_1 : Int), (a0_).drop i1 = rest → d_laws_szActionS_L1 a0_ k1 rest i1 v1_1 = some r → AWr Try.prog Γ (dig (bodyOf Try.f58) [1, 1, 1, 0, 1, 0, 0] []).1 (KQ Try.prog Γ N (RetQ Try.prog Try.f58 (D.int .i64 (r))) (dig (bodyOf Try.f58) [1, 1, 1, 0, 1, 0] []).2) (rest.length + 1) ⟨[(0, D.sl ((a0_).map Action.c)), (1, D.int .i64 (v1_1)), (5, D.int .i64 ((i1 : Int)))], []⟩ := by
  intro rest
  induction rest with
  | nil =>
    intro i1 v1_1 hd1 h
    rw [d_laws_szActionS_L1] at h
    refine AWr_succ fun N1 hN1 hS1 => ?_
    have t := AW_N (N := N) (N' := N1) (K0 := (dig (bodyOf Try.f58) [1, 1, 1, 0, 1, 0] []).2) (by kernel_rfl) hN1 (hE1 (v1_1) h)
    refine AW_go (n := 2000) [[none]] [.b false, .hl 0 [1] []] (.at_ (dig (bodyOf Try.f58) [1, 1, 1, 1] []).1 (dig (bodyOf Try.f58) [1, 1, 1, 1] []).2 ⟨[(1, D.int .i64 (v1_1))], []⟩) [(decide (((i1 : Int) : Int) < ((((a0_).map Action.c).length : Int)))) = false] hΓ mix (by kernel_rfl) ⟨((by rw [List.length_map]; exact lt_false (drop_nil hd1))), trivial⟩ ?_
    first | exact t | (simp only [List.map_append, List.map_cons, List.map_nil, List.map_set] at t ⊢; exact t)
  | cons x1_ xs1 ih1 =>
    intro i1 v1_1 hd1 h
    rw [d_laws_szActionS_L1] at h
    refine AWr_succ fun N1 hN1 hS1 => ?_
    obtain ⟨y22, h23, h⟩ := den_bind h
    rcases den_if h with ⟨h24, h⟩ | ⟨h24, h⟩
    · have h := den_some h
      subst h
      exact AW_go (n := 2000) [[none]] [.b true, .row [D.int .i64 (x1_.kind), D.str (x1_.pat.rel), D.sl ((x1_.pat.args).map tx)], .d (D.int .i64 (y22)), .b true] (.ret (D.int .i64 (-1))) [(decide (((i1 : Int) : Int) < ((((a0_).map Action.c).length : Int)))) = true, 0 ≤ ((i1 : Int)) ∧ ((a0_).map Action.c)[((i1 : Int)).toNat]? = some [D.int .i64 (x1_.kind), D.str (x1_.pat.rel), D.sl ((x1_.pat.args).map tx)] ∧ ([D.int .i64 (x1_.kind), D.str (x1_.pat.rel), D.sl ((x1_.pat.args).map tx)] : List D).length = 3, Good Try.prog 76 [D.agg [D.int .i64 (x1_.kind), D.str (x1_.pat.rel), D.sl ((x1_.pat.args).map tx)], D.int .i64 (v1_1)] (D.int .i64 (y22)), (decide ((y22 : Int) < (0))) = true] hΓ mix (by kernel_rfl) ⟨((by rw [List.length_map]; exact lt_true (drop_cons hd1).2.1)), (⟨(map_at Action.c (drop_cons hd1).1).1, (map_at Action.c (drop_cons hd1).1).2, rfl⟩), (d_laws_szAction_good h23), (h24), trivial⟩ (by first | rfl | (simp only [List.map_append, List.map_cons, List.map_nil, List.map_set] <;> rfl))
    · have t := ih1 (i1 + 1) (y22) (drop_cons hd1).2.2 h
      refine AW_go (n := 2000) [[none]] [.b true, .row [D.int .i64 (x1_.kind), D.str (x1_.pat.rel), D.sl ((x1_.pat.args).map tx)], .d (D.int .i64 (y22)), .b false, .cn [0, 1, 5] []] (.cont 0 ⟨[(0, D.sl ((a0_).map Action.c)), (1, D.int .i64 (y22)), (5, D.int .i64 (IntKind.i64.wrap (((i1 : Int)) + (1))))], []⟩) [(decide (((i1 : Int) : Int) < ((((a0_).map Action.c).length : Int)))) = true, 0 ≤ ((i1 : Int)) ∧ ((a0_).map Action.c)[((i1 : Int)).toNat]? = some [D.int .i64 (x1_.kind), D.str (x1_.pat.rel), D.sl ((x1_.pat.args).map tx)] ∧ ([D.int .i64 (x1_.kind), D.str (x1_.pat.rel), D.sl ((x1_.pat.args).map tx)] : List D).length = 3, Good Try.prog 76 [D.agg [D.int .i64 (x1_.kind), D.str (x1_.pat.rel), D.sl ((x1_.pat.args).map tx)], D.int .i64 (v1_1)] (D.int .i64 (y22)), (decide ((y22 : Int) < (0))) = false] hΓ mix (by kernel_rfl) ⟨((by rw [List.length_map]; exact lt_true (drop_cons hd1).2.1)), (⟨(map_at Action.c (drop_cons hd1).1).1, (map_at Action.c (drop_cons hd1).1).2, rfl⟩), (d_laws_szAction_good h23), (h24), trivial⟩ ?_
      refine (congrFun hS1 _).mpr ?_
      rw [i64_succ (drop_cons hd1).2.1 hm1]
      first | exact t | (simp only [List.map_append, List.map_cons, List.map_nil, List.map_set] at t ⊢; exact t)

set_option maxRecDepth 100000 in
set_option linter.unusedVariables false in
theorem d_laws_szActionS_good {a0_ : List Action} {a1_ : Int} {r : Int} (h : d_laws_szActionS a0_ a1_ = some r) : Good Try.prog 58 [D.sl ((a0_).map Action.c), D.int .i64 (a1_)] (D.int .i64 (r)) := by
  refine Good.of (c := bodyOf Try.f58) Try.func58 rfl (by decide) (by simp [Try.f58]) ?_
  intro hr Γ hΓ
  have hΓ : Γ.nt = 27 := hΓ
  rw [d_laws_szActionS] at h
  refine (show AW Try.prog Γ (bodyOf Try.f58) (KQ Try.prog Γ (fun _ _ => False) (RetQ Try.prog Try.f58 (D.int .i64 (r))) []) _ from ?_)
  rcases den_if h with ⟨h1, h⟩ | ⟨h1, h⟩
  · have h := den_some h
    subst h
    exact AW_go (n := 2000) [[none]] [.b true] (.ret (D.int .i64 (-1))) [(decide ((IntKind.i64.wrap ((a1_) - ((((a0_).map Action.c).length : Int))) : Int) < (0))) = true] hΓ mix (by kernel_rfl) ⟨(h1), trivial⟩ (by first | rfl | (simp only [List.map_append, List.map_cons, List.map_nil, List.map_set] <;> rfl))
  · refine AW_go (n := 2000) [[none]] [.b false, .cn [0, 1, 5] []] (.lp (dig (bodyOf Try.f58) [1, 1, 1, 0, 1, 0, 0] []).1 (dig (bodyOf Try.f58) [1, 1, 1, 0, 1, 0] []).2 ⟨[(0, D.sl ((a0_).map Action.c)), (1, D.int .i64 (IntKind.i64.wrap ((a1_) - ((((a0_).map Action.c).length : Int))))), (5, D.int .i64 (0))], []⟩) [(decide ((IntKind.i64.wrap ((a1_) - ((((a0_).map Action.c).length : Int))) : Int) < (0))) = false] hΓ mix (by kernel_rfl) ⟨(h1), trivial⟩ (AW_st (by first | rfl | (simp only [List.map_append, List.map_cons, List.map_nil, List.map_set, List.map_replicate] <;> rfl)) (AW_of_r (d_laws_szActionS_L1w hΓ (fun z1_1 h => ?_) (by have := (Rdb.sl (hr _ (List.mem_of_getElem? (i := 0) rfl))).1; simpa using this) (a0_) 0 (IntKind.i64.wrap ((a1_) - ((((a0_).map Action.c).length : Int)))) rfl h)))
    have h := den_some h
    subst h
    exact AW_go (n := 2000) [[none]] [] (.ret (D.int .i64 (z1_1))) [] hΓ mix (by kernel_rfl) trivial (by first | rfl | (simp only [List.map_append, List.map_cons, List.map_nil, List.map_set] <;> rfl))

def d_laws_szRule (a0_ : Rule) (a1_ : Int) : Option Int := (bif decide ((IntKind.i64.wrap ((a1_) - (((a0_.name).length : Int))) : Int) < (0)) then (some (-1)) else ((d_laws_szCondS (a0_.conds) (IntKind.i64.wrap ((a1_) - (((a0_.name).length : Int))))).bind fun y2 => (bif decide ((y2 : Int) < (0)) then (some (-1)) else ((d_laws_szActionS (a0_.acts) (y2)).bind fun y5 => (bif decide ((y5 : Int) < (0)) then (some (-1)) else (some (y5)))))))
set_option maxRecDepth 100000 in
set_option linter.unusedVariables false in
theorem d_laws_szRule_good {a0_ : Rule} {a1_ : Int} {r : Int} (h : d_laws_szRule a0_ a1_ = some r) : Good Try.prog 37 [D.agg [D.str (a0_.name), D.int .i64 (a0_.prio), D.sl ((a0_.conds).map Cond.c), D.sl ((a0_.acts).map Action.c)], D.int .i64 (a1_)] (D.int .i64 (r)) := by
  refine Good.of (c := bodyOf Try.f37) Try.func37 rfl (by decide) (by simp [Try.f37]) ?_
  intro hr Γ hΓ
  have hΓ : Γ.nt = 25 := hΓ
  rw [d_laws_szRule] at h
  refine (show AW Try.prog Γ (bodyOf Try.f37) (KQ Try.prog Γ (fun _ _ => False) (RetQ Try.prog Try.f37 (D.int .i64 (r))) []) _ from ?_)
  rcases den_if h with ⟨h1, h⟩ | ⟨h1, h⟩
  · have h := den_some h
    subst h
    exact AW_go (n := 2000) [[none]] [.b true] (.ret (D.int .i64 (-1))) [(decide ((IntKind.i64.wrap ((a1_) - (((a0_.name).length : Int))) : Int) < (0))) = true] hΓ mix (by kernel_rfl) ⟨(h1), trivial⟩ (by first | rfl | (simp only [List.map_append, List.map_cons, List.map_nil, List.map_set] <;> rfl))
  · obtain ⟨y2, h3, h⟩ := den_bind h
    rcases den_if h with ⟨h4, h⟩ | ⟨h4, h⟩
    · have h := den_some h
      subst h
      exact AW_go (n := 2000) [[none]] [.b false, .d (D.int .i64 (y2)), .b true] (.ret (D.int .i64 (-1))) [(decide ((IntKind.i64.wrap ((a1_) - (((a0_.name).length : Int))) : Int) < (0))) = false, Good Try.prog 57 [D.sl ((a0_.conds).map Cond.c), D.int .i64 (IntKind.i64.wrap ((a1_) - (((a0_.name).length : Int))))] (D.int .i64 (y2)), (decide ((y2 : Int) < (0))) = true] hΓ mix (by kernel_rfl) ⟨(h1), (d_laws_szCondS_good h3), (h4), trivial⟩ (by first | rfl | (simp only [List.map_append, List.map_cons, List.map_nil, List.map_set] <;> rfl))
    · obtain ⟨y5, h6, h⟩ := den_bind h
      rcases den_if h with ⟨h7, h⟩ | ⟨h7, h⟩
      · have h := den_some h
        subst h
        exact AW_go (n := 2000) [[none]] [.b false, .d (D.int .i64 (y2)), .b false, .d (D.int .i64 (y5)), .b true] (.ret (D.int .i64 (-1))) [(decide ((IntKind.i64.wrap ((a1_) - (((a0_.name).length : Int))) : Int) < (0))) = false, Good Try.prog 57 [D.sl ((a0_.conds).map Cond.c), D.int .i64 (IntKind.i64.wrap ((a1_) - (((a0_.name).length : Int))))] (D.int .i64 (y2)), (decide ((y2 : Int) < (0))) = false, Good Try.prog 58 [D.sl ((a0_.acts).map Action.c), D.int .i64 (y2)] (D.int .i64 (y5)), (decide ((y5 : Int) < (0))) = true] hΓ mix (by kernel_rfl) ⟨(h1), (d_laws_szCondS_good h3), (h4), (d_laws_szActionS_good h6), (h7), trivial⟩ (by first | rfl | (simp only [List.map_append, List.map_cons, List.map_nil, List.map_set] <;> rfl))
      · have h := den_some h
        subst h
        exact AW_go (n := 2000) [[none]] [.b false, .d (D.int .i64 (y2)), .b false, .d (D.int .i64 (y5)), .b false] (.ret (D.int .i64 (y5))) [(decide ((IntKind.i64.wrap ((a1_) - (((a0_.name).length : Int))) : Int) < (0))) = false, Good Try.prog 57 [D.sl ((a0_.conds).map Cond.c), D.int .i64 (IntKind.i64.wrap ((a1_) - (((a0_.name).length : Int))))] (D.int .i64 (y2)), (decide ((y2 : Int) < (0))) = false, Good Try.prog 58 [D.sl ((a0_.acts).map Action.c), D.int .i64 (y2)] (D.int .i64 (y5)), (decide ((y5 : Int) < (0))) = false] hΓ mix (by kernel_rfl) ⟨(h1), (d_laws_szCondS_good h3), (h4), (d_laws_szActionS_good h6), (h7), trivial⟩ (by first | rfl | (simp only [List.map_append, List.map_cons, List.map_nil, List.map_set] <;> rfl))

def d_laws_szRuleS_L1 (a0_ : List Rule) (k1 : Int → Option Int) : List Rule → Nat → Int → Option Int
  | [], i1, v1_1 => (k1 (v1_1))
  | x1_ :: xs1, i1, v1_1 => ((d_laws_szRule (x1_) (v1_1)).bind fun y22 => (bif decide ((y22 : Int) < (0)) then (some (-1)) else (d_laws_szRuleS_L1 a0_ k1 xs1 (i1 + 1) (y22))))

def d_laws_szRuleS (a0_ : List Rule) (a1_ : Int) : Option Int := (bif decide ((IntKind.i64.wrap ((a1_) - ((((a0_).map Rule.c).length : Int))) : Int) < (0)) then (some (-1)) else (d_laws_szRuleS_L1 a0_ (fun (z1_1 : Int) => (some (z1_1))) (a0_) 0 (IntKind.i64.wrap ((a1_) - ((((a0_).map Rule.c).length : Int))))))
set_option maxRecDepth 100000 in
set_option linter.unusedVariables false in
theorem d_laws_szRuleS_L1w {Γ : Ctx} (hΓ : Γ.nt = 27) {N : Nat → St → Prop} {a0_ : List Rule} {r : Int} {k1 : Int → Option Int} (hE1 : ∀ (z1_1 : Int), k1 z1_1 = some r → AW Try.prog Γ (dig (bodyOf Try.f12) [1, 1, 1, 1] []).1 (KQ Try.prog Γ N (RetQ Try.prog Try.f12 (D.int .i64 (r))) (dig (bodyOf Try.f12) [1, 1, 1, 1] []).2) ⟨[(1, D.int .i64 (z1_1))], []⟩) (hm1 : (a0_).length ≤ maxLen) : ∀ (rest : List Rule) (i1 : Nat) (v1_1 : Int), (a0_).drop i1 = rest → d_laws_szRuleS_L1 a0_ k1 rest i1 v1_1 = some r → AWr Try.prog Γ (dig (bodyOf Try.f12) [1, 1, 1, 0, 1, 0, 0] []).1 (KQ Try.prog Γ N (RetQ Try.prog Try.f12 (D.int .i64 (r))) (dig (bodyOf Try.f12) [1, 1, 1, 0, 1, 0] []).2) (rest.length + 1) ⟨[(0, D.sl ((a0_).map Rule.c)), (1, D.int .i64 (v1_1)), (5, D.int .i64 ((i1 : Int)))], []⟩ := by
  intro rest
  induction rest with
  | nil =>
    intro i1 v1_1 hd1 h
    rw [d_laws_szRuleS_L1] at h
    refine AWr_succ fun N1 hN1 hS1 => ?_
    have t := AW_N (N := N) (N' := N1) (K0 := (dig (bodyOf Try.f12) [1, 1, 1, 0, 1, 0] []).2) (by kernel_rfl) hN1 (hE1 (v1_1) h)
    refine AW_go (n := 2000) [[none]] [.b false, .hl 0 [1] []] (.at_ (dig (bodyOf Try.f12) [1, 1, 1, 1] []).1 (dig (bodyOf Try.f12) [1, 1, 1, 1] []).2 ⟨[(1, D.int .i64 (v1_1))], []⟩) [(decide (((i1 : Int) : Int) < ((((a0_).map Rule.c).length : Int)))) = false] hΓ mix (by kernel_rfl) ⟨((by rw [List.length_map]; exact lt_false (drop_nil hd1))), trivial⟩ ?_
    first | exact t | (simp only [List.map_append, List.map_cons, List.map_nil, List.map_set] at t ⊢; exact t)
  | cons x1_ xs1 ih1 =>
    intro i1 v1_1 hd1 h
    rw [d_laws_szRuleS_L1] at h
    refine AWr_succ fun N1 hN1 hS1 => ?_
    obtain ⟨y22, h23, h⟩ := den_bind h
    rcases den_if h with ⟨h24, h⟩ | ⟨h24, h⟩
    · have h := den_some h
      subst h
      exact AW_go (n := 2000) [[none]] [.b true, .row [D.str (x1_.name), D.int .i64 (x1_.prio), D.sl ((x1_.conds).map Cond.c), D.sl ((x1_.acts).map Action.c)], .d (D.int .i64 (y22)), .b true] (.ret (D.int .i64 (-1))) [(decide (((i1 : Int) : Int) < ((((a0_).map Rule.c).length : Int)))) = true, 0 ≤ ((i1 : Int)) ∧ ((a0_).map Rule.c)[((i1 : Int)).toNat]? = some [D.str (x1_.name), D.int .i64 (x1_.prio), D.sl ((x1_.conds).map Cond.c), D.sl ((x1_.acts).map Action.c)] ∧ ([D.str (x1_.name), D.int .i64 (x1_.prio), D.sl ((x1_.conds).map Cond.c), D.sl ((x1_.acts).map Action.c)] : List D).length = 4, Good Try.prog 37 [D.agg [D.str (x1_.name), D.int .i64 (x1_.prio), D.sl ((x1_.conds).map Cond.c), D.sl ((x1_.acts).map Action.c)], D.int .i64 (v1_1)] (D.int .i64 (y22)), (decide ((y22 : Int) < (0))) = true] hΓ mix (by kernel_rfl) ⟨((by rw [List.length_map]; exact lt_true (drop_cons hd1).2.1)), (⟨(map_at Rule.c (drop_cons hd1).1).1, (map_at Rule.c (drop_cons hd1).1).2, rfl⟩), (d_laws_szRule_good h23), (h24), trivial⟩ (by first | rfl | (simp only [List.map_append, List.map_cons, List.map_nil, List.map_set] <;> rfl))
    · have t := ih1 (i1 + 1) (y22) (drop_cons hd1).2.2 h
      refine AW_go (n := 2000) [[none]] [.b true, .row [D.str (x1_.name), D.int .i64 (x1_.prio), D.sl ((x1_.conds).map Cond.c), D.sl ((x1_.acts).map Action.c)], .d (D.int .i64 (y22)), .b false, .cn [0, 1, 5] []] (.cont 0 ⟨[(0, D.sl ((a0_).map Rule.c)), (1, D.int .i64 (y22)), (5, D.int .i64 (IntKind.i64.wrap (((i1 : Int)) + (1))))], []⟩) [(decide (((i1 : Int) : Int) < ((((a0_).map Rule.c).length : Int)))) = true, 0 ≤ ((i1 : Int)) ∧ ((a0_).map Rule.c)[((i1 : Int)).toNat]? = some [D.str (x1_.name), D.int .i64 (x1_.prio), D.sl ((x1_.conds).map Cond.c), D.sl ((x1_.acts).map Action.c)] ∧ ([D.str (x1_.name), D.int .i64 (x1_.prio), D.sl ((x1_.conds).map Cond.c), D.sl ((x1_.acts).map Action.c)] : List D).length = 4, Good Try.prog 37 [D.agg [D.str (x1_.name), D.int .i64 (x1_.prio), D.sl ((x1_.conds).map Cond.c), D.sl ((x1_.acts).map Action.c)], D.int .i64 (v1_1)] (D.int .i64 (y22)), (decide ((y22 : Int) < (0))) = false] hΓ mix (by kernel_rfl) ⟨((by rw [List.length_map]; exact lt_true (drop_cons hd1).2.1)), (⟨(map_at Rule.c (drop_cons hd1).1).1, (map_at Rule.c (drop_cons hd1).1).2, rfl⟩), (d_laws_szRule_good h23), (h24), trivial⟩ ?_
      refine (congrFun hS1 _).mpr ?_
      rw [i64_succ (drop_cons hd1).2.1 hm1]
      first | exact t | (simp only [List.map_append, List.map_cons, List.map_nil, List.map_set] at t ⊢; exact t)

set_option maxRecDepth 100000 in
set_option linter.unusedVariables false in
theorem d_laws_szRuleS_good {a0_ : List Rule} {a1_ : Int} {r : Int} (h : d_laws_szRuleS a0_ a1_ = some r) : Good Try.prog 12 [D.sl ((a0_).map Rule.c), D.int .i64 (a1_)] (D.int .i64 (r)) := by
  refine Good.of (c := bodyOf Try.f12) Try.func12 rfl (by decide) (by simp [Try.f12]) ?_
  intro hr Γ hΓ
  have hΓ : Γ.nt = 27 := hΓ
  rw [d_laws_szRuleS] at h
  refine (show AW Try.prog Γ (bodyOf Try.f12) (KQ Try.prog Γ (fun _ _ => False) (RetQ Try.prog Try.f12 (D.int .i64 (r))) []) _ from ?_)
  rcases den_if h with ⟨h1, h⟩ | ⟨h1, h⟩
  · have h := den_some h
    subst h
    exact AW_go (n := 2000) [[none]] [.b true] (.ret (D.int .i64 (-1))) [(decide ((IntKind.i64.wrap ((a1_) - ((((a0_).map Rule.c).length : Int))) : Int) < (0))) = true] hΓ mix (by kernel_rfl) ⟨(h1), trivial⟩ (by first | rfl | (simp only [List.map_append, List.map_cons, List.map_nil, List.map_set] <;> rfl))
  · refine AW_go (n := 2000) [[none]] [.b false, .cn [0, 1, 5] []] (.lp (dig (bodyOf Try.f12) [1, 1, 1, 0, 1, 0, 0] []).1 (dig (bodyOf Try.f12) [1, 1, 1, 0, 1, 0] []).2 ⟨[(0, D.sl ((a0_).map Rule.c)), (1, D.int .i64 (IntKind.i64.wrap ((a1_) - ((((a0_).map Rule.c).length : Int))))), (5, D.int .i64 (0))], []⟩) [(decide ((IntKind.i64.wrap ((a1_) - ((((a0_).map Rule.c).length : Int))) : Int) < (0))) = false] hΓ mix (by kernel_rfl) ⟨(h1), trivial⟩ (AW_st (by first | rfl | (simp only [List.map_append, List.map_cons, List.map_nil, List.map_set, List.map_replicate] <;> rfl)) (AW_of_r (d_laws_szRuleS_L1w hΓ (fun z1_1 h => ?_) (by have := (Rdb.sl (hr _ (List.mem_of_getElem? (i := 0) rfl))).1; simpa using this) (a0_) 0 (IntKind.i64.wrap ((a1_) - ((((a0_).map Rule.c).length : Int)))) rfl h)))
    have h := den_some h
    subst h
    exact AW_go (n := 2000) [[none]] [] (.ret (D.int .i64 (z1_1))) [] hΓ mix (by kernel_rfl) trivial (by first | rfl | (simp only [List.map_append, List.map_cons, List.map_nil, List.map_set] <;> rfl))

def d_laws_szIntS (a0_ : List Int) (a1_ : Int) : Option Int := (bif decide ((IntKind.i64.wrap ((a1_) - ((((a0_).map ixx).length : Int))) : Int) < (0)) then (some (-1)) else (some (IntKind.i64.wrap ((a1_) - ((((a0_).map ixx).length : Int))))))
set_option maxRecDepth 100000 in
set_option linter.unusedVariables false in
theorem d_laws_szIntS_good {a0_ : List Int} {a1_ : Int} {r : Int} (h : d_laws_szIntS a0_ a1_ = some r) : Good Try.prog 13 [D.sl ((a0_).map ixx), D.int .i64 (a1_)] (D.int .i64 (r)) := by
  refine Good.of (c := bodyOf Try.f13) Try.func13 rfl (by decide) (by simp [Try.f13]) ?_
  intro hr Γ hΓ
  have hΓ : Γ.nt = 12 := hΓ
  rw [d_laws_szIntS] at h
  refine (show AW Try.prog Γ (bodyOf Try.f13) (KQ Try.prog Γ (fun _ _ => False) (RetQ Try.prog Try.f13 (D.int .i64 (r))) []) _ from ?_)
  rcases den_if h with ⟨h1, h⟩ | ⟨h1, h⟩
  · have h := den_some h
    subst h
    exact AW_go (n := 2000) [[none]] [.b true] (.ret (D.int .i64 (-1))) [(decide ((IntKind.i64.wrap ((a1_) - ((((a0_).map ixx).length : Int))) : Int) < (0))) = true] hΓ mix (by kernel_rfl) ⟨(h1), trivial⟩ (by first | rfl | (simp only [List.map_append, List.map_cons, List.map_nil, List.map_set] <;> rfl))
  · have h := den_some h
    subst h
    exact AW_go (n := 2000) [[none]] [.b false] (.ret (D.int .i64 (IntKind.i64.wrap ((a1_) - ((((a0_).map ixx).length : Int)))))) [(decide ((IntKind.i64.wrap ((a1_) - ((((a0_).map ixx).length : Int))) : Int) < (0))) = false] hΓ mix (by kernel_rfl) ⟨(h1), trivial⟩ (by first | rfl | (simp only [List.map_append, List.map_cons, List.map_nil, List.map_set] <;> rfl))

def d_laws_szFact (a0_ : Fact) (a1_ : Int) : Option Int := (bif decide ((IntKind.i64.wrap ((a1_) - (((a0_.rel).length : Int))) : Int) < (0)) then (some (-1)) else ((d_laws_szStringS (a0_.args) (IntKind.i64.wrap ((a1_) - (((a0_.rel).length : Int))))).bind fun y2 => (bif decide ((y2 : Int) < (0)) then (some (-1)) else (some (y2)))))
set_option maxRecDepth 100000 in
set_option linter.unusedVariables false in
theorem d_laws_szFact_good {a0_ : Fact} {a1_ : Int} {r : Int} (h : d_laws_szFact a0_ a1_ = some r) : Good Try.prog 40 [D.agg [D.str (a0_.rel), D.sl ((a0_.args).map tx)], D.int .i64 (a1_)] (D.int .i64 (r)) := by
  refine Good.of (c := bodyOf Try.f40) Try.func40 rfl (by decide) (by simp [Try.f40]) ?_
  intro hr Γ hΓ
  have hΓ : Γ.nt = 19 := hΓ
  rw [d_laws_szFact] at h
  refine (show AW Try.prog Γ (bodyOf Try.f40) (KQ Try.prog Γ (fun _ _ => False) (RetQ Try.prog Try.f40 (D.int .i64 (r))) []) _ from ?_)
  rcases den_if h with ⟨h1, h⟩ | ⟨h1, h⟩
  · have h := den_some h
    subst h
    exact AW_go (n := 2000) [[none]] [.b true] (.ret (D.int .i64 (-1))) [(decide ((IntKind.i64.wrap ((a1_) - (((a0_.rel).length : Int))) : Int) < (0))) = true] hΓ mix (by kernel_rfl) ⟨(h1), trivial⟩ (by first | rfl | (simp only [List.map_append, List.map_cons, List.map_nil, List.map_set] <;> rfl))
  · obtain ⟨y2, h3, h⟩ := den_bind h
    rcases den_if h with ⟨h4, h⟩ | ⟨h4, h⟩
    · have h := den_some h
      subst h
      exact AW_go (n := 2000) [[none]] [.b false, .d (D.int .i64 (y2)), .b true] (.ret (D.int .i64 (-1))) [(decide ((IntKind.i64.wrap ((a1_) - (((a0_.rel).length : Int))) : Int) < (0))) = false, Good Try.prog 62 [D.sl ((a0_.args).map tx), D.int .i64 (IntKind.i64.wrap ((a1_) - (((a0_.rel).length : Int))))] (D.int .i64 (y2)), (decide ((y2 : Int) < (0))) = true] hΓ mix (by kernel_rfl) ⟨(h1), (d_laws_szStringS_good h3), (h4), trivial⟩ (by first | rfl | (simp only [List.map_append, List.map_cons, List.map_nil, List.map_set] <;> rfl))
    · have h := den_some h
      subst h
      exact AW_go (n := 2000) [[none]] [.b false, .d (D.int .i64 (y2)), .b false] (.ret (D.int .i64 (y2))) [(decide ((IntKind.i64.wrap ((a1_) - (((a0_.rel).length : Int))) : Int) < (0))) = false, Good Try.prog 62 [D.sl ((a0_.args).map tx), D.int .i64 (IntKind.i64.wrap ((a1_) - (((a0_.rel).length : Int))))] (D.int .i64 (y2)), (decide ((y2 : Int) < (0))) = false] hΓ mix (by kernel_rfl) ⟨(h1), (d_laws_szStringS_good h3), (h4), trivial⟩ (by first | rfl | (simp only [List.map_append, List.map_cons, List.map_nil, List.map_set] <;> rfl))

def d_laws_szFactS_L1 (a0_ : List Fact) (k1 : Int → Option Int) : List Fact → Nat → Int → Option Int
  | [], i1, v1_1 => (k1 (v1_1))
  | x1_ :: xs1, i1, v1_1 => ((d_laws_szFact (x1_) (v1_1)).bind fun y22 => (bif decide ((y22 : Int) < (0)) then (some (-1)) else (d_laws_szFactS_L1 a0_ k1 xs1 (i1 + 1) (y22))))

def d_laws_szFactS (a0_ : List Fact) (a1_ : Int) : Option Int := (bif decide ((IntKind.i64.wrap ((a1_) - ((((a0_).map Fact.c).length : Int))) : Int) < (0)) then (some (-1)) else (d_laws_szFactS_L1 a0_ (fun (z1_1 : Int) => (some (z1_1))) (a0_) 0 (IntKind.i64.wrap ((a1_) - ((((a0_).map Fact.c).length : Int))))))
set_option maxRecDepth 100000 in
set_option linter.unusedVariables false in
theorem d_laws_szFactS_L1w {Γ : Ctx} (hΓ : Γ.nt = 27) {N : Nat → St → Prop} {a0_ : List Fact} {r : Int} {k1 : Int → Option Int} (hE1 : ∀ (z1_1 : Int), k1 z1_1 = some r → AW Try.prog Γ (dig (bodyOf Try.f16) [1, 1, 1, 1] []).1 (KQ Try.prog Γ N (RetQ Try.prog Try.f16 (D.int .i64 (r))) (dig (bodyOf Try.f16) [1, 1, 1, 1] []).2) ⟨[(1, D.int .i64 (z1_1))], []⟩) (hm1 : (a0_).length ≤ maxLen) : ∀ (rest : List Fact) (i1 : Nat) (v1_1 : Int), (a0_).drop i1 = rest → d_laws_szFactS_L1 a0_ k1 rest i1 v1_1 = some r → AWr Try.prog Γ (dig (bodyOf Try.f16) [1, 1, 1, 0, 1, 0, 0] []).1 (KQ Try.prog Γ N (RetQ Try.prog Try.f16 (D.int .i64 (r))) (dig (bodyOf Try.f16) [1, 1, 1, 0, 1, 0] []).2) (rest.length + 1) ⟨[(0, D.sl ((a0_).map Fact.c)), (1, D.int .i64 (v1_1)), (5, D.int .i64 ((i1 : Int)))], []⟩ := by
  intro rest
  induction rest with
  | nil =>
    intro i1 v1_1 hd1 h
    rw [d_laws_szFactS_L1] at h
    refine AWr_succ fun N1 hN1 hS1 => ?_
    have t := AW_N (N := N) (N' := N1) (K0 := (dig (bodyOf Try.f16) [1, 1, 1, 0, 1, 0] []).2) (by kernel_rfl) hN1 (hE1 (v1_1) h)
    refine AW_go (n := 2000) [[none]] [.b false, .hl 0 [1] []] (.at_ (dig (bodyOf Try.f16) [1, 1, 1, 1] []).1 (dig (bodyOf Try.f16) [1, 1, 1, 1] []).2 ⟨[(1, D.int .i64 (v1_1))], []⟩) [(decide (((i1 : Int) : Int) < ((((a0_).map Fact.c).length : Int)))) = false] hΓ mix (by kernel_rfl) ⟨((by rw [List.length_map]; exact lt_false (drop_nil hd1))), trivial⟩ ?_
    first | exact t | (simp only [List.map_append, List.map_cons, List.map_nil, List.map_set] at t ⊢; exact t)
  | cons x1_ xs1 ih1 =>
    intro i1 v1_1 hd1 h
    rw [d_laws_szFactS_L1] at h
    refine AWr_succ fun N1 hN1 hS1 => ?_
    obtain ⟨y22, h23, h⟩ := den_bind h
    rcases den_if h with ⟨h24, h⟩ | ⟨h24, h⟩
    · have h := den_some h
      subst h
      exact AW_go (n := 2000) [[none]] [.b true, .row [D.str (x1_.rel), D.sl ((x1_.args).map tx)], .d (D.int .i64 (y22)), .b true] (.ret (D.int .i64 (-1))) [(decide (((i1 : Int) : Int) < ((((a0_).map Fact.c).length : Int)))) = true, 0 ≤ ((i1 : Int)) ∧ ((a0_).map Fact.c)[((i1 : Int)).toNat]? = some [D.str (x1_.rel), D.sl ((x1_.args).map tx)] ∧ ([D.str (x1_.rel), D.sl ((x1_.args).map tx)] : List D).length = 2, Good Try.prog 40 [D.agg [D.str (x1_.rel), D.sl ((x1_.args).map tx)], D.int .i64 (v1_1)] (D.int .i64 (y22)), (decide ((y22 : Int) < (0))) = true] hΓ mix (by kernel_rfl) ⟨((by rw [List.length_map]; exact lt_true (drop_cons hd1).2.1)), (⟨(map_at Fact.c (drop_cons hd1).1).1, (map_at Fact.c (drop_cons hd1).1).2, rfl⟩), (d_laws_szFact_good h23), (h24), trivial⟩ (by first | rfl | (simp only [List.map_append, List.map_cons, List.map_nil, List.map_set] <;> rfl))
    · have t := ih1 (i1 + 1) (y22) (drop_cons hd1).2.2 h
      refine AW_go (n := 2000) [[none]] [.b true, .row [D.str (x1_.rel), D.sl ((x1_.args).map tx)], .d (D.int .i64 (y22)), .b false, .cn [0, 1, 5] []] (.cont 0 ⟨[(0, D.sl ((a0_).map Fact.c)), (1, D.int .i64 (y22)), (5, D.int .i64 (IntKind.i64.wrap (((i1 : Int)) + (1))))], []⟩) [(decide (((i1 : Int) : Int) < ((((a0_).map Fact.c).length : Int)))) = true, 0 ≤ ((i1 : Int)) ∧ ((a0_).map Fact.c)[((i1 : Int)).toNat]? = some [D.str (x1_.rel), D.sl ((x1_.args).map tx)] ∧ ([D.str (x1_.rel), D.sl ((x1_.args).map tx)] : List D).length = 2, Good Try.prog 40 [D.agg [D.str (x1_.rel), D.sl ((x1_.args).map tx)], D.int .i64 (v1_1)] (D.int .i64 (y22)), (decide ((y22 : Int) < (0))) = false] hΓ mix (by kernel_rfl) ⟨((by rw [List.length_map]; exact lt_true (drop_cons hd1).2.1)), (⟨(map_at Fact.c (drop_cons hd1).1).1, (map_at Fact.c (drop_cons hd1).1).2, rfl⟩), (d_laws_szFact_good h23), (h24), trivial⟩ ?_
      refine (congrFun hS1 _).mpr ?_
      rw [i64_succ (drop_cons hd1).2.1 hm1]
      first | exact t | (simp only [List.map_append, List.map_cons, List.map_nil, List.map_set] at t ⊢; exact t)

set_option maxRecDepth 100000 in
set_option linter.unusedVariables false in
theorem d_laws_szFactS_good {a0_ : List Fact} {a1_ : Int} {r : Int} (h : d_laws_szFactS a0_ a1_ = some r) : Good Try.prog 16 [D.sl ((a0_).map Fact.c), D.int .i64 (a1_)] (D.int .i64 (r)) := by
  refine Good.of (c := bodyOf Try.f16) Try.func16 rfl (by decide) (by simp [Try.f16]) ?_
  intro hr Γ hΓ
  have hΓ : Γ.nt = 27 := hΓ
  rw [d_laws_szFactS] at h
  refine (show AW Try.prog Γ (bodyOf Try.f16) (KQ Try.prog Γ (fun _ _ => False) (RetQ Try.prog Try.f16 (D.int .i64 (r))) []) _ from ?_)
  rcases den_if h with ⟨h1, h⟩ | ⟨h1, h⟩
  · have h := den_some h
    subst h
    exact AW_go (n := 2000) [[none]] [.b true] (.ret (D.int .i64 (-1))) [(decide ((IntKind.i64.wrap ((a1_) - ((((a0_).map Fact.c).length : Int))) : Int) < (0))) = true] hΓ mix (by kernel_rfl) ⟨(h1), trivial⟩ (by first | rfl | (simp only [List.map_append, List.map_cons, List.map_nil, List.map_set] <;> rfl))
  · refine AW_go (n := 2000) [[none]] [.b false, .cn [0, 1, 5] []] (.lp (dig (bodyOf Try.f16) [1, 1, 1, 0, 1, 0, 0] []).1 (dig (bodyOf Try.f16) [1, 1, 1, 0, 1, 0] []).2 ⟨[(0, D.sl ((a0_).map Fact.c)), (1, D.int .i64 (IntKind.i64.wrap ((a1_) - ((((a0_).map Fact.c).length : Int))))), (5, D.int .i64 (0))], []⟩) [(decide ((IntKind.i64.wrap ((a1_) - ((((a0_).map Fact.c).length : Int))) : Int) < (0))) = false] hΓ mix (by kernel_rfl) ⟨(h1), trivial⟩ (AW_st (by first | rfl | (simp only [List.map_append, List.map_cons, List.map_nil, List.map_set, List.map_replicate] <;> rfl)) (AW_of_r (d_laws_szFactS_L1w hΓ (fun z1_1 h => ?_) (by have := (Rdb.sl (hr _ (List.mem_of_getElem? (i := 0) rfl))).1; simpa using this) (a0_) 0 (IntKind.i64.wrap ((a1_) - ((((a0_).map Fact.c).length : Int)))) rfl h)))
    have h := den_some h
    subst h
    exact AW_go (n := 2000) [[none]] [] (.ret (D.int .i64 (z1_1))) [] hΓ mix (by kernel_rfl) trivial (by first | rfl | (simp only [List.map_append, List.map_cons, List.map_nil, List.map_set] <;> rfl))

def d_laws_szAlpha (a0_ : Alpha) (a1_ : Int) : Option Int := ((d_laws_szPattern (a0_.shape) (a1_)).bind fun y1 => (bif decide ((y1 : Int) < (0)) then (some (-1)) else ((d_laws_szFactS (a0_.facts) (y1)).bind fun y4 => (bif decide ((y4 : Int) < (0)) then (some (-1)) else (some (y4))))))
set_option maxRecDepth 100000 in
set_option linter.unusedVariables false in
theorem d_laws_szAlpha_good {a0_ : Alpha} {a1_ : Int} {r : Int} (h : d_laws_szAlpha a0_ a1_ = some r) : Good Try.prog 38 [D.agg [D.str (a0_.shape.rel), D.sl ((a0_.shape.args).map tx), D.sl ((a0_.facts).map Fact.c)], D.int .i64 (a1_)] (D.int .i64 (r)) := by
  refine Good.of (c := bodyOf Try.f38) Try.func38 rfl (by decide) (by simp [Try.f38]) ?_
  intro hr Γ hΓ
  have hΓ : Γ.nt = 18 := hΓ
  rw [d_laws_szAlpha] at h
  refine (show AW Try.prog Γ (bodyOf Try.f38) (KQ Try.prog Γ (fun _ _ => False) (RetQ Try.prog Try.f38 (D.int .i64 (r))) []) _ from ?_)
  obtain ⟨y1, h2, h⟩ := den_bind h
  rcases den_if h with ⟨h3, h⟩ | ⟨h3, h⟩
  · have h := den_some h
    subst h
    exact AW_go (n := 2000) [[none]] [.d (D.int .i64 (y1)), .b true] (.ret (D.int .i64 (-1))) [Good Try.prog 59 [D.agg [D.str (a0_.shape.rel), D.sl ((a0_.shape.args).map tx)], D.int .i64 (a1_)] (D.int .i64 (y1)), (decide ((y1 : Int) < (0))) = true] hΓ mix (by kernel_rfl) ⟨(d_laws_szPattern_good h2), (h3), trivial⟩ (by first | rfl | (simp only [List.map_append, List.map_cons, List.map_nil, List.map_set] <;> rfl))
  · obtain ⟨y4, h5, h⟩ := den_bind h
    rcases den_if h with ⟨h6, h⟩ | ⟨h6, h⟩
    · have h := den_some h
      subst h
      exact AW_go (n := 2000) [[none]] [.d (D.int .i64 (y1)), .b false, .d (D.int .i64 (y4)), .b true] (.ret (D.int .i64 (-1))) [Good Try.prog 59 [D.agg [D.str (a0_.shape.rel), D.sl ((a0_.shape.args).map tx)], D.int .i64 (a1_)] (D.int .i64 (y1)), (decide ((y1 : Int) < (0))) = false, Good Try.prog 16 [D.sl ((a0_.facts).map Fact.c), D.int .i64 (y1)] (D.int .i64 (y4)), (decide ((y4 : Int) < (0))) = true] hΓ mix (by kernel_rfl) ⟨(d_laws_szPattern_good h2), (h3), (d_laws_szFactS_good h5), (h6), trivial⟩ (by first | rfl | (simp only [List.map_append, List.map_cons, List.map_nil, List.map_set] <;> rfl))
    · have h := den_some h
      subst h
      exact AW_go (n := 2000) [[none]] [.d (D.int .i64 (y1)), .b false, .d (D.int .i64 (y4)), .b false] (.ret (D.int .i64 (y4))) [Good Try.prog 59 [D.agg [D.str (a0_.shape.rel), D.sl ((a0_.shape.args).map tx)], D.int .i64 (a1_)] (D.int .i64 (y1)), (decide ((y1 : Int) < (0))) = false, Good Try.prog 16 [D.sl ((a0_.facts).map Fact.c), D.int .i64 (y1)] (D.int .i64 (y4)), (decide ((y4 : Int) < (0))) = false] hΓ mix (by kernel_rfl) ⟨(d_laws_szPattern_good h2), (h3), (d_laws_szFactS_good h5), (h6), trivial⟩ (by first | rfl | (simp only [List.map_append, List.map_cons, List.map_nil, List.map_set] <;> rfl))

def d_laws_szAlphaS_L1 (a0_ : List Alpha) (k1 : Int → Option Int) : List Alpha → Nat → Int → Option Int
  | [], i1, v1_1 => (k1 (v1_1))
  | x1_ :: xs1, i1, v1_1 => ((d_laws_szAlpha (x1_) (v1_1)).bind fun y22 => (bif decide ((y22 : Int) < (0)) then (some (-1)) else (d_laws_szAlphaS_L1 a0_ k1 xs1 (i1 + 1) (y22))))

def d_laws_szAlphaS (a0_ : List Alpha) (a1_ : Int) : Option Int := (bif decide ((IntKind.i64.wrap ((a1_) - ((((a0_).map Alpha.c).length : Int))) : Int) < (0)) then (some (-1)) else (d_laws_szAlphaS_L1 a0_ (fun (z1_1 : Int) => (some (z1_1))) (a0_) 0 (IntKind.i64.wrap ((a1_) - ((((a0_).map Alpha.c).length : Int))))))
set_option maxRecDepth 100000 in
set_option linter.unusedVariables false in
theorem d_laws_szAlphaS_L1w {Γ : Ctx} (hΓ : Γ.nt = 27) {N : Nat → St → Prop} {a0_ : List Alpha} {r : Int} {k1 : Int → Option Int} (hE1 : ∀ (z1_1 : Int), k1 z1_1 = some r → AW Try.prog Γ (dig (bodyOf Try.f14) [1, 1, 1, 1] []).1 (KQ Try.prog Γ N (RetQ Try.prog Try.f14 (D.int .i64 (r))) (dig (bodyOf Try.f14) [1, 1, 1, 1] []).2) ⟨[(1, D.int .i64 (z1_1))], []⟩) (hm1 : (a0_).length ≤ maxLen) : ∀ (rest : List Alpha) (i1 : Nat) (v1_1 : Int), (a0_).drop i1 = rest → d_laws_szAlphaS_L1 a0_ k1 rest i1 v1_1 = some r → AWr Try.prog Γ (dig (bodyOf Try.f14) [1, 1, 1, 0, 1, 0, 0] []).1 (KQ Try.prog Γ N (RetQ Try.prog Try.f14 (D.int .i64 (r))) (dig (bodyOf Try.f14) [1, 1, 1, 0, 1, 0] []).2) (rest.length + 1) ⟨[(0, D.sl ((a0_).map Alpha.c)), (1, D.int .i64 (v1_1)), (5, D.int .i64 ((i1 : Int)))], []⟩ := by
  intro rest
  induction rest with
  | nil =>
    intro i1 v1_1 hd1 h
    rw [d_laws_szAlphaS_L1] at h
    refine AWr_succ fun N1 hN1 hS1 => ?_
    have t := AW_N (N := N) (N' := N1) (K0 := (dig (bodyOf Try.f14) [1, 1, 1, 0, 1, 0] []).2) (by kernel_rfl) hN1 (hE1 (v1_1) h)
    refine AW_go (n := 2000) [[none]] [.b false, .hl 0 [1] []] (.at_ (dig (bodyOf Try.f14) [1, 1, 1, 1] []).1 (dig (bodyOf Try.f14) [1, 1, 1, 1] []).2 ⟨[(1, D.int .i64 (v1_1))], []⟩) [(decide (((i1 : Int) : Int) < ((((a0_).map Alpha.c).length : Int)))) = false] hΓ mix (by kernel_rfl) ⟨((by rw [List.length_map]; exact lt_false (drop_nil hd1))), trivial⟩ ?_
    first | exact t | (simp only [List.map_append, List.map_cons, List.map_nil, List.map_set] at t ⊢; exact t)
  | cons x1_ xs1 ih1 =>
    intro i1 v1_1 hd1 h
    rw [d_laws_szAlphaS_L1] at h
    refine AWr_succ fun N1 hN1 hS1 => ?_
    obtain ⟨y22, h23, h⟩ := den_bind h
    rcases den_if h with ⟨h24, h⟩ | ⟨h24, h⟩
    · have h := den_some h
      subst h
      exact AW_go (n := 2000) [[none]] [.b true, .row [D.str (x1_.shape.rel), D.sl ((x1_.shape.args).map tx), D.sl ((x1_.facts).map Fact.c)], .d (D.int .i64 (y22)), .b true] (.ret (D.int .i64 (-1))) [(decide (((i1 : Int) : Int) < ((((a0_).map Alpha.c).length : Int)))) = true, 0 ≤ ((i1 : Int)) ∧ ((a0_).map Alpha.c)[((i1 : Int)).toNat]? = some [D.str (x1_.shape.rel), D.sl ((x1_.shape.args).map tx), D.sl ((x1_.facts).map Fact.c)] ∧ ([D.str (x1_.shape.rel), D.sl ((x1_.shape.args).map tx), D.sl ((x1_.facts).map Fact.c)] : List D).length = 3, Good Try.prog 38 [D.agg [D.str (x1_.shape.rel), D.sl ((x1_.shape.args).map tx), D.sl ((x1_.facts).map Fact.c)], D.int .i64 (v1_1)] (D.int .i64 (y22)), (decide ((y22 : Int) < (0))) = true] hΓ mix (by kernel_rfl) ⟨((by rw [List.length_map]; exact lt_true (drop_cons hd1).2.1)), (⟨(map_at Alpha.c (drop_cons hd1).1).1, (map_at Alpha.c (drop_cons hd1).1).2, rfl⟩), (d_laws_szAlpha_good h23), (h24), trivial⟩ (by first | rfl | (simp only [List.map_append, List.map_cons, List.map_nil, List.map_set] <;> rfl))
    · have t := ih1 (i1 + 1) (y22) (drop_cons hd1).2.2 h
      refine AW_go (n := 2000) [[none]] [.b true, .row [D.str (x1_.shape.rel), D.sl ((x1_.shape.args).map tx), D.sl ((x1_.facts).map Fact.c)], .d (D.int .i64 (y22)), .b false, .cn [0, 1, 5] []] (.cont 0 ⟨[(0, D.sl ((a0_).map Alpha.c)), (1, D.int .i64 (y22)), (5, D.int .i64 (IntKind.i64.wrap (((i1 : Int)) + (1))))], []⟩) [(decide (((i1 : Int) : Int) < ((((a0_).map Alpha.c).length : Int)))) = true, 0 ≤ ((i1 : Int)) ∧ ((a0_).map Alpha.c)[((i1 : Int)).toNat]? = some [D.str (x1_.shape.rel), D.sl ((x1_.shape.args).map tx), D.sl ((x1_.facts).map Fact.c)] ∧ ([D.str (x1_.shape.rel), D.sl ((x1_.shape.args).map tx), D.sl ((x1_.facts).map Fact.c)] : List D).length = 3, Good Try.prog 38 [D.agg [D.str (x1_.shape.rel), D.sl ((x1_.shape.args).map tx), D.sl ((x1_.facts).map Fact.c)], D.int .i64 (v1_1)] (D.int .i64 (y22)), (decide ((y22 : Int) < (0))) = false] hΓ mix (by kernel_rfl) ⟨((by rw [List.length_map]; exact lt_true (drop_cons hd1).2.1)), (⟨(map_at Alpha.c (drop_cons hd1).1).1, (map_at Alpha.c (drop_cons hd1).1).2, rfl⟩), (d_laws_szAlpha_good h23), (h24), trivial⟩ ?_
      refine (congrFun hS1 _).mpr ?_
      rw [i64_succ (drop_cons hd1).2.1 hm1]
      first | exact t | (simp only [List.map_append, List.map_cons, List.map_nil, List.map_set] at t ⊢; exact t)

set_option maxRecDepth 100000 in
set_option linter.unusedVariables false in
theorem d_laws_szAlphaS_good {a0_ : List Alpha} {a1_ : Int} {r : Int} (h : d_laws_szAlphaS a0_ a1_ = some r) : Good Try.prog 14 [D.sl ((a0_).map Alpha.c), D.int .i64 (a1_)] (D.int .i64 (r)) := by
  refine Good.of (c := bodyOf Try.f14) Try.func14 rfl (by decide) (by simp [Try.f14]) ?_
  intro hr Γ hΓ
  have hΓ : Γ.nt = 27 := hΓ
  rw [d_laws_szAlphaS] at h
  refine (show AW Try.prog Γ (bodyOf Try.f14) (KQ Try.prog Γ (fun _ _ => False) (RetQ Try.prog Try.f14 (D.int .i64 (r))) []) _ from ?_)
  rcases den_if h with ⟨h1, h⟩ | ⟨h1, h⟩
  · have h := den_some h
    subst h
    exact AW_go (n := 2000) [[none]] [.b true] (.ret (D.int .i64 (-1))) [(decide ((IntKind.i64.wrap ((a1_) - ((((a0_).map Alpha.c).length : Int))) : Int) < (0))) = true] hΓ mix (by kernel_rfl) ⟨(h1), trivial⟩ (by first | rfl | (simp only [List.map_append, List.map_cons, List.map_nil, List.map_set] <;> rfl))
  · refine AW_go (n := 2000) [[none]] [.b false, .cn [0, 1, 5] []] (.lp (dig (bodyOf Try.f14) [1, 1, 1, 0, 1, 0, 0] []).1 (dig (bodyOf Try.f14) [1, 1, 1, 0, 1, 0] []).2 ⟨[(0, D.sl ((a0_).map Alpha.c)), (1, D.int .i64 (IntKind.i64.wrap ((a1_) - ((((a0_).map Alpha.c).length : Int))))), (5, D.int .i64 (0))], []⟩) [(decide ((IntKind.i64.wrap ((a1_) - ((((a0_).map Alpha.c).length : Int))) : Int) < (0))) = false] hΓ mix (by kernel_rfl) ⟨(h1), trivial⟩ (AW_st (by first | rfl | (simp only [List.map_append, List.map_cons, List.map_nil, List.map_set, List.map_replicate] <;> rfl)) (AW_of_r (d_laws_szAlphaS_L1w hΓ (fun z1_1 h => ?_) (by have := (Rdb.sl (hr _ (List.mem_of_getElem? (i := 0) rfl))).1; simpa using this) (a0_) 0 (IntKind.i64.wrap ((a1_) - ((((a0_).map Alpha.c).length : Int)))) rfl h)))
    have h := den_some h
    subst h
    exact AW_go (n := 2000) [[none]] [] (.ret (D.int .i64 (z1_1))) [] hΓ mix (by kernel_rfl) trivial (by first | rfl | (simp only [List.map_append, List.map_cons, List.map_nil, List.map_set] <;> rfl))

def d_laws_szPair (a0_ : Pair) (a1_ : Int) : Option Int := (bif decide ((IntKind.i64.wrap ((a1_) - (((a0_.var).length : Int))) : Int) < (0)) then (some (-1)) else (bif decide ((IntKind.i64.wrap ((IntKind.i64.wrap ((a1_) - (((a0_.var).length : Int)))) - (((a0_.value).length : Int))) : Int) < (0)) then (some (-1)) else (some (IntKind.i64.wrap ((IntKind.i64.wrap ((a1_) - (((a0_.var).length : Int)))) - (((a0_.value).length : Int)))))))
set_option maxRecDepth 100000 in
set_option linter.unusedVariables false in
theorem d_laws_szPair_good {a0_ : Pair} {a1_ : Int} {r : Int} (h : d_laws_szPair a0_ a1_ = some r) : Good Try.prog 85 [D.agg [D.str (a0_.var), D.str (a0_.value)], D.int .i64 (a1_)] (D.int .i64 (r)) := by
  refine Good.of (c := bodyOf Try.f85) Try.func85 rfl (by decide) (by simp [Try.f85]) ?_
  intro hr Γ hΓ
  have hΓ : Γ.nt = 20 := hΓ
  rw [d_laws_szPair] at h
  refine (show AW Try.prog Γ (bodyOf Try.f85) (KQ Try.prog Γ (fun _ _ => False) (RetQ Try.prog Try.f85 (D.int .i64 (r))) []) _ from ?_)
  rcases den_if h with ⟨h1, h⟩ | ⟨h1, h⟩
  · have h := den_some h
    subst h
    exact AW_go (n := 2000) [[none]] [.b true] (.ret (D.int .i64 (-1))) [(decide ((IntKind.i64.wrap ((a1_) - (((a0_.var).length : Int))) : Int) < (0))) = true] hΓ mix (by kernel_rfl) ⟨(h1), trivial⟩ (by first | rfl | (simp only [List.map_append, List.map_cons, List.map_nil, List.map_set] <;> rfl))
  · rcases den_if h with ⟨h2, h⟩ | ⟨h2, h⟩
    · have h := den_some h
      subst h
      exact AW_go (n := 2000) [[none]] [.b false, .b true] (.ret (D.int .i64 (-1))) [(decide ((IntKind.i64.wrap ((a1_) - (((a0_.var).length : Int))) : Int) < (0))) = false, (decide ((IntKind.i64.wrap ((IntKind.i64.wrap ((a1_) - (((a0_.var).length : Int)))) - (((a0_.value).length : Int))) : Int) < (0))) = true] hΓ mix (by kernel_rfl) ⟨(h1), (h2), trivial⟩ (by first | rfl | (simp only [List.map_append, List.map_cons, List.map_nil, List.map_set] <;> rfl))
    · have h := den_some h
      subst h
      exact AW_go (n := 2000) [[none]] [.b false, .b false] (.ret (D.int .i64 (IntKind.i64.wrap ((IntKind.i64.wrap ((a1_) - (((a0_.var).length : Int)))) - (((a0_.value).length : Int)))))) [(decide ((IntKind.i64.wrap ((a1_) - (((a0_.var).length : Int))) : Int) < (0))) = false, (decide ((IntKind.i64.wrap ((IntKind.i64.wrap ((a1_) - (((a0_.var).length : Int)))) - (((a0_.value).length : Int))) : Int) < (0))) = false] hΓ mix (by kernel_rfl) ⟨(h1), (h2), trivial⟩ (by first | rfl | (simp only [List.map_append, List.map_cons, List.map_nil, List.map_set] <;> rfl))

def d_laws_szPairS_L1 (a0_ : List Pair) (k1 : Int → Option Int) : List Pair → Nat → Int → Option Int
  | [], i1, v1_1 => (k1 (v1_1))
  | x1_ :: xs1, i1, v1_1 => ((d_laws_szPair (x1_) (v1_1)).bind fun y22 => (bif decide ((y22 : Int) < (0)) then (some (-1)) else (d_laws_szPairS_L1 a0_ k1 xs1 (i1 + 1) (y22))))

def d_laws_szPairS (a0_ : List Pair) (a1_ : Int) : Option Int := (bif decide ((IntKind.i64.wrap ((a1_) - ((((a0_).map Pair.c).length : Int))) : Int) < (0)) then (some (-1)) else (d_laws_szPairS_L1 a0_ (fun (z1_1 : Int) => (some (z1_1))) (a0_) 0 (IntKind.i64.wrap ((a1_) - ((((a0_).map Pair.c).length : Int))))))
set_option maxRecDepth 100000 in
set_option linter.unusedVariables false in
theorem d_laws_szPairS_L1w {Γ : Ctx} (hΓ : Γ.nt = 27) {N : Nat → St → Prop} {a0_ : List Pair} {r : Int} {k1 : Int → Option Int} (hE1 : ∀ (z1_1 : Int), k1 z1_1 = some r → AW Try.prog Γ (dig (bodyOf Try.f82) [1, 1, 1, 1] []).1 (KQ Try.prog Γ N (RetQ Try.prog Try.f82 (D.int .i64 (r))) (dig (bodyOf Try.f82) [1, 1, 1, 1] []).2) ⟨[(1, D.int .i64 (z1_1))], []⟩) (hm1 : (a0_).length ≤ maxLen) : ∀ (rest : List Pair) (i1 : Nat) (v1_1 : Int), (a0_).drop i1 = rest → d_laws_szPairS_L1 a0_ k1 rest i1 v1_1 = some r → AWr Try.prog Γ (dig (bodyOf Try.f82) [1, 1, 1, 0, 1, 0, 0] []).1 (KQ Try.prog Γ N (RetQ Try.prog Try.f82 (D.int .i64 (r))) (dig (bodyOf Try.f82) [1, 1, 1, 0, 1, 0] []).2) (rest.length + 1) ⟨[(0, D.sl ((a0_).map Pair.c)), (1, D.int .i64 (v1_1)), (5, D.int .i64 ((i1 : Int)))], []⟩ := by
  intro rest
  induction rest with
  | nil =>
    intro i1 v1_1 hd1 h
    rw [d_laws_szPairS_L1] at h
    refine AWr_succ fun N1 hN1 hS1 => ?_
    have t := AW_N (N := N) (N' := N1) (K0 := (dig (bodyOf Try.f82) [1, 1, 1, 0, 1, 0] []).2) (by kernel_rfl) hN1 (hE1 (v1_1) h)
    refine AW_go (n := 2000) [[none]] [.b false, .hl 0 [1] []] (.at_ (dig (bodyOf Try.f82) [1, 1, 1, 1] []).1 (dig (bodyOf Try.f82) [1, 1, 1, 1] []).2 ⟨[(1, D.int .i64 (v1_1))], []⟩) [(decide (((i1 : Int) : Int) < ((((a0_).map Pair.c).length : Int)))) = false] hΓ mix (by kernel_rfl) ⟨((by rw [List.length_map]; exact lt_false (drop_nil hd1))), trivial⟩ ?_
    first | exact t | (simp only [List.map_append, List.map_cons, List.map_nil, List.map_set] at t ⊢; exact t)
  | cons x1_ xs1 ih1 =>
    intro i1 v1_1 hd1 h
    rw [d_laws_szPairS_L1] at h
    refine AWr_succ fun N1 hN1 hS1 => ?_
    obtain ⟨y22, h23, h⟩ := den_bind h
    rcases den_if h with ⟨h24, h⟩ | ⟨h24, h⟩
    · have h := den_some h
      subst h
      exact AW_go (n := 2000) [[none]] [.b true, .row [D.str (x1_.var), D.str (x1_.value)], .d (D.int .i64 (y22)), .b true] (.ret (D.int .i64 (-1))) [(decide (((i1 : Int) : Int) < ((((a0_).map Pair.c).length : Int)))) = true, 0 ≤ ((i1 : Int)) ∧ ((a0_).map Pair.c)[((i1 : Int)).toNat]? = some [D.str (x1_.var), D.str (x1_.value)] ∧ ([D.str (x1_.var), D.str (x1_.value)] : List D).length = 2, Good Try.prog 85 [D.agg [D.str (x1_.var), D.str (x1_.value)], D.int .i64 (v1_1)] (D.int .i64 (y22)), (decide ((y22 : Int) < (0))) = true] hΓ mix (by kernel_rfl) ⟨((by rw [List.length_map]; exact lt_true (drop_cons hd1).2.1)), (⟨(map_at Pair.c (drop_cons hd1).1).1, (map_at Pair.c (drop_cons hd1).1).2, rfl⟩), (d_laws_szPair_good h23), (h24), trivial⟩ (by first | rfl | (simp only [List.map_append, List.map_cons, List.map_nil, List.map_set] <;> rfl))
    · have t := ih1 (i1 + 1) (y22) (drop_cons hd1).2.2 h
      refine AW_go (n := 2000) [[none]] [.b true, .row [D.str (x1_.var), D.str (x1_.value)], .d (D.int .i64 (y22)), .b false, .cn [0, 1, 5] []] (.cont 0 ⟨[(0, D.sl ((a0_).map Pair.c)), (1, D.int .i64 (y22)), (5, D.int .i64 (IntKind.i64.wrap (((i1 : Int)) + (1))))], []⟩) [(decide (((i1 : Int) : Int) < ((((a0_).map Pair.c).length : Int)))) = true, 0 ≤ ((i1 : Int)) ∧ ((a0_).map Pair.c)[((i1 : Int)).toNat]? = some [D.str (x1_.var), D.str (x1_.value)] ∧ ([D.str (x1_.var), D.str (x1_.value)] : List D).length = 2, Good Try.prog 85 [D.agg [D.str (x1_.var), D.str (x1_.value)], D.int .i64 (v1_1)] (D.int .i64 (y22)), (decide ((y22 : Int) < (0))) = false] hΓ mix (by kernel_rfl) ⟨((by rw [List.length_map]; exact lt_true (drop_cons hd1).2.1)), (⟨(map_at Pair.c (drop_cons hd1).1).1, (map_at Pair.c (drop_cons hd1).1).2, rfl⟩), (d_laws_szPair_good h23), (h24), trivial⟩ ?_
      refine (congrFun hS1 _).mpr ?_
      rw [i64_succ (drop_cons hd1).2.1 hm1]
      first | exact t | (simp only [List.map_append, List.map_cons, List.map_nil, List.map_set] at t ⊢; exact t)

set_option maxRecDepth 100000 in
set_option linter.unusedVariables false in
theorem d_laws_szPairS_good {a0_ : List Pair} {a1_ : Int} {r : Int} (h : d_laws_szPairS a0_ a1_ = some r) : Good Try.prog 82 [D.sl ((a0_).map Pair.c), D.int .i64 (a1_)] (D.int .i64 (r)) := by
  refine Good.of (c := bodyOf Try.f82) Try.func82 rfl (by decide) (by simp [Try.f82]) ?_
  intro hr Γ hΓ
  have hΓ : Γ.nt = 27 := hΓ
  rw [d_laws_szPairS] at h
  refine (show AW Try.prog Γ (bodyOf Try.f82) (KQ Try.prog Γ (fun _ _ => False) (RetQ Try.prog Try.f82 (D.int .i64 (r))) []) _ from ?_)
  rcases den_if h with ⟨h1, h⟩ | ⟨h1, h⟩
  · have h := den_some h
    subst h
    exact AW_go (n := 2000) [[none]] [.b true] (.ret (D.int .i64 (-1))) [(decide ((IntKind.i64.wrap ((a1_) - ((((a0_).map Pair.c).length : Int))) : Int) < (0))) = true] hΓ mix (by kernel_rfl) ⟨(h1), trivial⟩ (by first | rfl | (simp only [List.map_append, List.map_cons, List.map_nil, List.map_set] <;> rfl))
  · refine AW_go (n := 2000) [[none]] [.b false, .cn [0, 1, 5] []] (.lp (dig (bodyOf Try.f82) [1, 1, 1, 0, 1, 0, 0] []).1 (dig (bodyOf Try.f82) [1, 1, 1, 0, 1, 0] []).2 ⟨[(0, D.sl ((a0_).map Pair.c)), (1, D.int .i64 (IntKind.i64.wrap ((a1_) - ((((a0_).map Pair.c).length : Int))))), (5, D.int .i64 (0))], []⟩) [(decide ((IntKind.i64.wrap ((a1_) - ((((a0_).map Pair.c).length : Int))) : Int) < (0))) = false] hΓ mix (by kernel_rfl) ⟨(h1), trivial⟩ (AW_st (by first | rfl | (simp only [List.map_append, List.map_cons, List.map_nil, List.map_set, List.map_replicate] <;> rfl)) (AW_of_r (d_laws_szPairS_L1w hΓ (fun z1_1 h => ?_) (by have := (Rdb.sl (hr _ (List.mem_of_getElem? (i := 0) rfl))).1; simpa using this) (a0_) 0 (IntKind.i64.wrap ((a1_) - ((((a0_).map Pair.c).length : Int)))) rfl h)))
    have h := den_some h
    subst h
    exact AW_go (n := 2000) [[none]] [] (.ret (D.int .i64 (z1_1))) [] hΓ mix (by kernel_rfl) trivial (by first | rfl | (simp only [List.map_append, List.map_cons, List.map_nil, List.map_set] <;> rfl))

def d_laws_szToken (a0_ : Token) (a1_ : Int) : Option Int := ((d_laws_szFactS (a0_.facts) (a1_)).bind fun y1 => (bif decide ((y1 : Int) < (0)) then (some (-1)) else ((d_laws_szPairS (a0_.bind) (y1)).bind fun y4 => (bif decide ((y4 : Int) < (0)) then (some (-1)) else (some (y4))))))
set_option maxRecDepth 100000 in
set_option linter.unusedVariables false in
theorem d_laws_szToken_good {a0_ : Token} {a1_ : Int} {r : Int} (h : d_laws_szToken a0_ a1_ = some r) : Good Try.prog 77 [D.agg [D.sl ((a0_.facts).map Fact.c), D.sl ((a0_.bind).map Pair.c)], D.int .i64 (a1_)] (D.int .i64 (r)) := by
  refine Good.of (c := bodyOf Try.f77) Try.func77 rfl (by decide) (by simp [Try.f77]) ?_
  intro hr Γ hΓ
  have hΓ : Γ.nt = 18 := hΓ
  rw [d_laws_szToken] at h
  refine (show AW Try.prog Γ (bodyOf Try.f77) (KQ Try.prog Γ (fun _ _ => False) (RetQ Try.prog Try.f77 (D.int .i64 (r))) []) _ from ?_)
  obtain ⟨y1, h2, h⟩ := den_bind h
  rcases den_if h with ⟨h3, h⟩ | ⟨h3, h⟩
  · have h := den_some h
    subst h
    exact AW_go (n := 2000) [[none]] [.d (D.int .i64 (y1)), .b true] (.ret (D.int .i64 (-1))) [Good Try.prog 16 [D.sl ((a0_.facts).map Fact.c), D.int .i64 (a1_)] (D.int .i64 (y1)), (decide ((y1 : Int) < (0))) = true] hΓ mix (by kernel_rfl) ⟨(d_laws_szFactS_good h2), (h3), trivial⟩ (by first | rfl | (simp only [List.map_append, List.map_cons, List.map_nil, List.map_set] <;> rfl))
  · obtain ⟨y4, h5, h⟩ := den_bind h
    rcases den_if h with ⟨h6, h⟩ | ⟨h6, h⟩
    · have h := den_some h
      subst h
      exact AW_go (n := 2000) [[none]] [.d (D.int .i64 (y1)), .b false, .d (D.int .i64 (y4)), .b true] (.ret (D.int .i64 (-1))) [Good Try.prog 16 [D.sl ((a0_.facts).map Fact.c), D.int .i64 (a1_)] (D.int .i64 (y1)), (decide ((y1 : Int) < (0))) = false, Good Try.prog 82 [D.sl ((a0_.bind).map Pair.c), D.int .i64 (y1)] (D.int .i64 (y4)), (decide ((y4 : Int) < (0))) = true] hΓ mix (by kernel_rfl) ⟨(d_laws_szFactS_good h2), (h3), (d_laws_szPairS_good h5), (h6), trivial⟩ (by first | rfl | (simp only [List.map_append, List.map_cons, List.map_nil, List.map_set] <;> rfl))
    · have h := den_some h
      subst h
      exact AW_go (n := 2000) [[none]] [.d (D.int .i64 (y1)), .b false, .d (D.int .i64 (y4)), .b false] (.ret (D.int .i64 (y4))) [Good Try.prog 16 [D.sl ((a0_.facts).map Fact.c), D.int .i64 (a1_)] (D.int .i64 (y1)), (decide ((y1 : Int) < (0))) = false, Good Try.prog 82 [D.sl ((a0_.bind).map Pair.c), D.int .i64 (y1)] (D.int .i64 (y4)), (decide ((y4 : Int) < (0))) = false] hΓ mix (by kernel_rfl) ⟨(d_laws_szFactS_good h2), (h3), (d_laws_szPairS_good h5), (h6), trivial⟩ (by first | rfl | (simp only [List.map_append, List.map_cons, List.map_nil, List.map_set] <;> rfl))

def d_laws_szTokenS_L1 (a0_ : List Token) (k1 : Int → Option Int) : List Token → Nat → Int → Option Int
  | [], i1, v1_1 => (k1 (v1_1))
  | x1_ :: xs1, i1, v1_1 => ((d_laws_szToken (x1_) (v1_1)).bind fun y22 => (bif decide ((y22 : Int) < (0)) then (some (-1)) else (d_laws_szTokenS_L1 a0_ k1 xs1 (i1 + 1) (y22))))

def d_laws_szTokenS (a0_ : List Token) (a1_ : Int) : Option Int := (bif decide ((IntKind.i64.wrap ((a1_) - ((((a0_).map Token.c).length : Int))) : Int) < (0)) then (some (-1)) else (d_laws_szTokenS_L1 a0_ (fun (z1_1 : Int) => (some (z1_1))) (a0_) 0 (IntKind.i64.wrap ((a1_) - ((((a0_).map Token.c).length : Int))))))
set_option maxRecDepth 100000 in
set_option linter.unusedVariables false in
theorem d_laws_szTokenS_L1w {Γ : Ctx} (hΓ : Γ.nt = 27) {N : Nat → St → Prop} {a0_ : List Token} {r : Int} {k1 : Int → Option Int} (hE1 : ∀ (z1_1 : Int), k1 z1_1 = some r → AW Try.prog Γ (dig (bodyOf Try.f61) [1, 1, 1, 1] []).1 (KQ Try.prog Γ N (RetQ Try.prog Try.f61 (D.int .i64 (r))) (dig (bodyOf Try.f61) [1, 1, 1, 1] []).2) ⟨[(1, D.int .i64 (z1_1))], []⟩) (hm1 : (a0_).length ≤ maxLen) : ∀ (rest : List Token) (i1 : Nat) (v1_1 : Int), (a0_).drop i1 = rest → d_laws_szTokenS_L1 a0_ k1 rest i1 v1_1 = some r → AWr Try.prog Γ (dig (bodyOf Try.f61) [1, 1, 1, 0, 1, 0, 0] []).1 (KQ Try.prog Γ N (RetQ Try.prog Try.f61 (D.int .i64 (r))) (dig (bodyOf Try.f61) [1, 1, 1, 0, 1, 0] []).2) (rest.length + 1) ⟨[(0, D.sl ((a0_).map Token.c)), (1, D.int .i64 (v1_1)), (5, D.int .i64 ((i1 : Int)))], []⟩ := by
  intro rest
  induction rest with
  | nil =>
    intro i1 v1_1 hd1 h
    rw [d_laws_szTokenS_L1] at h
    refine AWr_succ fun N1 hN1 hS1 => ?_
    have t := AW_N (N := N) (N' := N1) (K0 := (dig (bodyOf Try.f61) [1, 1, 1, 0, 1, 0] []).2) (by kernel_rfl) hN1 (hE1 (v1_1) h)
    refine AW_go (n := 2000) [[none]] [.b false, .hl 0 [1] []] (.at_ (dig (bodyOf Try.f61) [1, 1, 1, 1] []).1 (dig (bodyOf Try.f61) [1, 1, 1, 1] []).2 ⟨[(1, D.int .i64 (v1_1))], []⟩) [(decide (((i1 : Int) : Int) < ((((a0_).map Token.c).length : Int)))) = false] hΓ mix (by kernel_rfl) ⟨((by rw [List.length_map]; exact lt_false (drop_nil hd1))), trivial⟩ ?_
    first | exact t | (simp only [List.map_append, List.map_cons, List.map_nil, List.map_set] at t ⊢; exact t)
  | cons x1_ xs1 ih1 =>
    intro i1 v1_1 hd1 h
    rw [d_laws_szTokenS_L1] at h
    refine AWr_succ fun N1 hN1 hS1 => ?_
    obtain ⟨y22, h23, h⟩ := den_bind h
    rcases den_if h with ⟨h24, h⟩ | ⟨h24, h⟩
    · have h := den_some h
      subst h
      exact AW_go (n := 2000) [[none]] [.b true, .row [D.sl ((x1_.facts).map Fact.c), D.sl ((x1_.bind).map Pair.c)], .d (D.int .i64 (y22)), .b true] (.ret (D.int .i64 (-1))) [(decide (((i1 : Int) : Int) < ((((a0_).map Token.c).length : Int)))) = true, 0 ≤ ((i1 : Int)) ∧ ((a0_).map Token.c)[((i1 : Int)).toNat]? = some [D.sl ((x1_.facts).map Fact.c), D.sl ((x1_.bind).map Pair.c)] ∧ ([D.sl ((x1_.facts).map Fact.c), D.sl ((x1_.bind).map Pair.c)] : List D).length = 2, Good Try.prog 77 [D.agg [D.sl ((x1_.facts).map Fact.c), D.sl ((x1_.bind).map Pair.c)], D.int .i64 (v1_1)] (D.int .i64 (y22)), (decide ((y22 : Int) < (0))) = true] hΓ mix (by kernel_rfl) ⟨((by rw [List.length_map]; exact lt_true (drop_cons hd1).2.1)), (⟨(map_at Token.c (drop_cons hd1).1).1, (map_at Token.c (drop_cons hd1).1).2, rfl⟩), (d_laws_szToken_good h23), (h24), trivial⟩ (by first | rfl | (simp only [List.map_append, List.map_cons, List.map_nil, List.map_set] <;> rfl))
    · have t := ih1 (i1 + 1) (y22) (drop_cons hd1).2.2 h
      refine AW_go (n := 2000) [[none]] [.b true, .row [D.sl ((x1_.facts).map Fact.c), D.sl ((x1_.bind).map Pair.c)], .d (D.int .i64 (y22)), .b false, .cn [0, 1, 5] []] (.cont 0 ⟨[(0, D.sl ((a0_).map Token.c)), (1, D.int .i64 (y22)), (5, D.int .i64 (IntKind.i64.wrap (((i1 : Int)) + (1))))], []⟩) [(decide (((i1 : Int) : Int) < ((((a0_).map Token.c).length : Int)))) = true, 0 ≤ ((i1 : Int)) ∧ ((a0_).map Token.c)[((i1 : Int)).toNat]? = some [D.sl ((x1_.facts).map Fact.c), D.sl ((x1_.bind).map Pair.c)] ∧ ([D.sl ((x1_.facts).map Fact.c), D.sl ((x1_.bind).map Pair.c)] : List D).length = 2, Good Try.prog 77 [D.agg [D.sl ((x1_.facts).map Fact.c), D.sl ((x1_.bind).map Pair.c)], D.int .i64 (v1_1)] (D.int .i64 (y22)), (decide ((y22 : Int) < (0))) = false] hΓ mix (by kernel_rfl) ⟨((by rw [List.length_map]; exact lt_true (drop_cons hd1).2.1)), (⟨(map_at Token.c (drop_cons hd1).1).1, (map_at Token.c (drop_cons hd1).1).2, rfl⟩), (d_laws_szToken_good h23), (h24), trivial⟩ ?_
      refine (congrFun hS1 _).mpr ?_
      rw [i64_succ (drop_cons hd1).2.1 hm1]
      first | exact t | (simp only [List.map_append, List.map_cons, List.map_nil, List.map_set] at t ⊢; exact t)

set_option maxRecDepth 100000 in
set_option linter.unusedVariables false in
theorem d_laws_szTokenS_good {a0_ : List Token} {a1_ : Int} {r : Int} (h : d_laws_szTokenS a0_ a1_ = some r) : Good Try.prog 61 [D.sl ((a0_).map Token.c), D.int .i64 (a1_)] (D.int .i64 (r)) := by
  refine Good.of (c := bodyOf Try.f61) Try.func61 rfl (by decide) (by simp [Try.f61]) ?_
  intro hr Γ hΓ
  have hΓ : Γ.nt = 27 := hΓ
  rw [d_laws_szTokenS] at h
  refine (show AW Try.prog Γ (bodyOf Try.f61) (KQ Try.prog Γ (fun _ _ => False) (RetQ Try.prog Try.f61 (D.int .i64 (r))) []) _ from ?_)
  rcases den_if h with ⟨h1, h⟩ | ⟨h1, h⟩
  · have h := den_some h
    subst h
    exact AW_go (n := 2000) [[none]] [.b true] (.ret (D.int .i64 (-1))) [(decide ((IntKind.i64.wrap ((a1_) - ((((a0_).map Token.c).length : Int))) : Int) < (0))) = true] hΓ mix (by kernel_rfl) ⟨(h1), trivial⟩ (by first | rfl | (simp only [List.map_append, List.map_cons, List.map_nil, List.map_set] <;> rfl))
  · refine AW_go (n := 2000) [[none]] [.b false, .cn [0, 1, 5] []] (.lp (dig (bodyOf Try.f61) [1, 1, 1, 0, 1, 0, 0] []).1 (dig (bodyOf Try.f61) [1, 1, 1, 0, 1, 0] []).2 ⟨[(0, D.sl ((a0_).map Token.c)), (1, D.int .i64 (IntKind.i64.wrap ((a1_) - ((((a0_).map Token.c).length : Int))))), (5, D.int .i64 (0))], []⟩) [(decide ((IntKind.i64.wrap ((a1_) - ((((a0_).map Token.c).length : Int))) : Int) < (0))) = false] hΓ mix (by kernel_rfl) ⟨(h1), trivial⟩ (AW_st (by first | rfl | (simp only [List.map_append, List.map_cons, List.map_nil, List.map_set, List.map_replicate] <;> rfl)) (AW_of_r (d_laws_szTokenS_L1w hΓ (fun z1_1 h => ?_) (by have := (Rdb.sl (hr _ (List.mem_of_getElem? (i := 0) rfl))).1; simpa using this) (a0_) 0 (IntKind.i64.wrap ((a1_) - ((((a0_).map Token.c).length : Int)))) rfl h)))
    have h := den_some h
    subst h
    exact AW_go (n := 2000) [[none]] [] (.ret (D.int .i64 (z1_1))) [] hΓ mix (by kernel_rfl) trivial (by first | rfl | (simp only [List.map_append, List.map_cons, List.map_nil, List.map_set] <;> rfl))

def d_laws_szNode (a0_ : Node) (a1_ : Int) : Option Int := ((d_laws_szCond (a0_.cond) (a1_)).bind fun y1 => (bif decide ((y1 : Int) < (0)) then (some (-1)) else ((d_laws_szTokenS (a0_.tokens) (y1)).bind fun y4 => (bif decide ((y4 : Int) < (0)) then (some (-1)) else (some (y4))))))
set_option maxRecDepth 100000 in
set_option linter.unusedVariables false in
theorem d_laws_szNode_good {a0_ : Node} {a1_ : Int} {r : Int} (h : d_laws_szNode a0_ a1_ = some r) : Good Try.prog 39 [D.agg [D.int .i64 (a0_.parent), D.int .i64 (a0_.cond.kind), D.str (a0_.cond.pat.rel), D.sl ((a0_.cond.pat.args).map tx), D.str (a0_.cond.left), D.str (a0_.cond.right), D.int .i64 (a0_.alpha), D.sl ((a0_.tokens).map Token.c)], D.int .i64 (a1_)] (D.int .i64 (r)) := by
  refine Good.of (c := bodyOf Try.f39) Try.func39 rfl (by decide) (by simp [Try.f39]) ?_
  intro hr Γ hΓ
  have hΓ : Γ.nt = 18 := hΓ
  rw [d_laws_szNode] at h
  refine (show AW Try.prog Γ (bodyOf Try.f39) (KQ Try.prog Γ (fun _ _ => False) (RetQ Try.prog Try.f39 (D.int .i64 (r))) []) _ from ?_)
  obtain ⟨y1, h2, h⟩ := den_bind h
  rcases den_if h with ⟨h3, h⟩ | ⟨h3, h⟩
  · have h := den_some h
    subst h
    exact AW_go (n := 2000) [[none]] [.d (D.int .i64 (y1)), .b true] (.ret (D.int .i64 (-1))) [Good Try.prog 60 [D.agg [D.int .i64 (a0_.cond.kind), D.str (a0_.cond.pat.rel), D.sl ((a0_.cond.pat.args).map tx), D.str (a0_.cond.left), D.str (a0_.cond.right)], D.int .i64 (a1_)] (D.int .i64 (y1)), (decide ((y1 : Int) < (0))) = true] hΓ mix (by kernel_rfl) ⟨(d_laws_szCond_good h2), (h3), trivial⟩ (by first | rfl | (simp only [List.map_append, List.map_cons, List.map_nil, List.map_set] <;> rfl))
  · obtain ⟨y4, h5, h⟩ := den_bind h
    rcases den_if h with ⟨h6, h⟩ | ⟨h6, h⟩
    · have h := den_some h
      subst h
      exact AW_go (n := 2000) [[none]] [.d (D.int .i64 (y1)), .b false, .d (D.int .i64 (y4)), .b true] (.ret (D.int .i64 (-1))) [Good Try.prog 60 [D.agg [D.int .i64 (a0_.cond.kind), D.str (a0_.cond.pat.rel), D.sl ((a0_.cond.pat.args).map tx), D.str (a0_.cond.left), D.str (a0_.cond.right)], D.int .i64 (a1_)] (D.int .i64 (y1)), (decide ((y1 : Int) < (0))) = false, Good Try.prog 61 [D.sl ((a0_.tokens).map Token.c), D.int .i64 (y1)] (D.int .i64 (y4)), (decide ((y4 : Int) < (0))) = true] hΓ mix (by kernel_rfl) ⟨(d_laws_szCond_good h2), (h3), (d_laws_szTokenS_good h5), (h6), trivial⟩ (by first | rfl | (simp only [List.map_append, List.map_cons, List.map_nil, List.map_set] <;> rfl))
    · have h := den_some h
      subst h
      exact AW_go (n := 2000) [[none]] [.d (D.int .i64 (y1)), .b false, .d (D.int .i64 (y4)), .b false] (.ret (D.int .i64 (y4))) [Good Try.prog 60 [D.agg [D.int .i64 (a0_.cond.kind), D.str (a0_.cond.pat.rel), D.sl ((a0_.cond.pat.args).map tx), D.str (a0_.cond.left), D.str (a0_.cond.right)], D.int .i64 (a1_)] (D.int .i64 (y1)), (decide ((y1 : Int) < (0))) = false, Good Try.prog 61 [D.sl ((a0_.tokens).map Token.c), D.int .i64 (y1)] (D.int .i64 (y4)), (decide ((y4 : Int) < (0))) = false] hΓ mix (by kernel_rfl) ⟨(d_laws_szCond_good h2), (h3), (d_laws_szTokenS_good h5), (h6), trivial⟩ (by first | rfl | (simp only [List.map_append, List.map_cons, List.map_nil, List.map_set] <;> rfl))

def d_laws_szNodeS_L1 (a0_ : List Node) (k1 : Int → Option Int) : List Node → Nat → Int → Option Int
  | [], i1, v1_1 => (k1 (v1_1))
  | x1_ :: xs1, i1, v1_1 => ((d_laws_szNode (x1_) (v1_1)).bind fun y22 => (bif decide ((y22 : Int) < (0)) then (some (-1)) else (d_laws_szNodeS_L1 a0_ k1 xs1 (i1 + 1) (y22))))

def d_laws_szNodeS (a0_ : List Node) (a1_ : Int) : Option Int := (bif decide ((IntKind.i64.wrap ((a1_) - ((((a0_).map Node.c).length : Int))) : Int) < (0)) then (some (-1)) else (d_laws_szNodeS_L1 a0_ (fun (z1_1 : Int) => (some (z1_1))) (a0_) 0 (IntKind.i64.wrap ((a1_) - ((((a0_).map Node.c).length : Int))))))
set_option maxRecDepth 100000 in
set_option linter.unusedVariables false in
theorem d_laws_szNodeS_L1w {Γ : Ctx} (hΓ : Γ.nt = 27) {N : Nat → St → Prop} {a0_ : List Node} {r : Int} {k1 : Int → Option Int} (hE1 : ∀ (z1_1 : Int), k1 z1_1 = some r → AW Try.prog Γ (dig (bodyOf Try.f15) [1, 1, 1, 1] []).1 (KQ Try.prog Γ N (RetQ Try.prog Try.f15 (D.int .i64 (r))) (dig (bodyOf Try.f15) [1, 1, 1, 1] []).2) ⟨[(1, D.int .i64 (z1_1))], []⟩) (hm1 : (a0_).length ≤ maxLen) : ∀ (rest : List Node) (i1 : Nat) (v1_1 : Int), (a0_).drop i1 = rest → d_laws_szNodeS_L1 a0_ k1 rest i1 v1_1 = some r → AWr Try.prog Γ (dig (bodyOf Try.f15) [1, 1, 1, 0, 1, 0, 0] []).1 (KQ Try.prog Γ N (RetQ Try.prog Try.f15 (D.int .i64 (r))) (dig (bodyOf Try.f15) [1, 1, 1, 0, 1, 0] []).2) (rest.length + 1) ⟨[(0, D.sl ((a0_).map Node.c)), (1, D.int .i64 (v1_1)), (5, D.int .i64 ((i1 : Int)))], []⟩ := by
  intro rest
  induction rest with
  | nil =>
    intro i1 v1_1 hd1 h
    rw [d_laws_szNodeS_L1] at h
    refine AWr_succ fun N1 hN1 hS1 => ?_
    have t := AW_N (N := N) (N' := N1) (K0 := (dig (bodyOf Try.f15) [1, 1, 1, 0, 1, 0] []).2) (by kernel_rfl) hN1 (hE1 (v1_1) h)
    refine AW_go (n := 2000) [[none]] [.b false, .hl 0 [1] []] (.at_ (dig (bodyOf Try.f15) [1, 1, 1, 1] []).1 (dig (bodyOf Try.f15) [1, 1, 1, 1] []).2 ⟨[(1, D.int .i64 (v1_1))], []⟩) [(decide (((i1 : Int) : Int) < ((((a0_).map Node.c).length : Int)))) = false] hΓ mix (by kernel_rfl) ⟨((by rw [List.length_map]; exact lt_false (drop_nil hd1))), trivial⟩ ?_
    first | exact t | (simp only [List.map_append, List.map_cons, List.map_nil, List.map_set] at t ⊢; exact t)
  | cons x1_ xs1 ih1 =>
    intro i1 v1_1 hd1 h
    rw [d_laws_szNodeS_L1] at h
    refine AWr_succ fun N1 hN1 hS1 => ?_
    obtain ⟨y22, h23, h⟩ := den_bind h
    rcases den_if h with ⟨h24, h⟩ | ⟨h24, h⟩
    · have h := den_some h
      subst h
      exact AW_go (n := 2000) [[none]] [.b true, .row [D.int .i64 (x1_.parent), D.int .i64 (x1_.cond.kind), D.str (x1_.cond.pat.rel), D.sl ((x1_.cond.pat.args).map tx), D.str (x1_.cond.left), D.str (x1_.cond.right), D.int .i64 (x1_.alpha), D.sl ((x1_.tokens).map Token.c)], .d (D.int .i64 (y22)), .b true] (.ret (D.int .i64 (-1))) [(decide (((i1 : Int) : Int) < ((((a0_).map Node.c).length : Int)))) = true, 0 ≤ ((i1 : Int)) ∧ ((a0_).map Node.c)[((i1 : Int)).toNat]? = some [D.int .i64 (x1_.parent), D.int .i64 (x1_.cond.kind), D.str (x1_.cond.pat.rel), D.sl ((x1_.cond.pat.args).map tx), D.str (x1_.cond.left), D.str (x1_.cond.right), D.int .i64 (x1_.alpha), D.sl ((x1_.tokens).map Token.c)] ∧ ([D.int .i64 (x1_.parent), D.int .i64 (x1_.cond.kind), D.str (x1_.cond.pat.rel), D.sl ((x1_.cond.pat.args).map tx), D.str (x1_.cond.left), D.str (x1_.cond.right), D.int .i64 (x1_.alpha), D.sl ((x1_.tokens).map Token.c)] : List D).length = 8, Good Try.prog 39 [D.agg [D.int .i64 (x1_.parent), D.int .i64 (x1_.cond.kind), D.str (x1_.cond.pat.rel), D.sl ((x1_.cond.pat.args).map tx), D.str (x1_.cond.left), D.str (x1_.cond.right), D.int .i64 (x1_.alpha), D.sl ((x1_.tokens).map Token.c)], D.int .i64 (v1_1)] (D.int .i64 (y22)), (decide ((y22 : Int) < (0))) = true] hΓ mix (by kernel_rfl) ⟨((by rw [List.length_map]; exact lt_true (drop_cons hd1).2.1)), (⟨(map_at Node.c (drop_cons hd1).1).1, (map_at Node.c (drop_cons hd1).1).2, rfl⟩), (d_laws_szNode_good h23), (h24), trivial⟩ (by first | rfl | (simp only [List.map_append, List.map_cons, List.map_nil, List.map_set] <;> rfl))
    · have t := ih1 (i1 + 1) (y22) (drop_cons hd1).2.2 h
      refine AW_go (n := 2000) [[none]] [.b true, .row [D.int .i64 (x1_.parent), D.int .i64 (x1_.cond.kind), D.str (x1_.cond.pat.rel), D.sl ((x1_.cond.pat.args).map tx), D.str (x1_.cond.left), D.str (x1_.cond.right), D.int .i64 (x1_.alpha), D.sl ((x1_.tokens).map Token.c)], .d (D.int .i64 (y22)), .b false, .cn [0, 1, 5] []] (.cont 0 ⟨[(0, D.sl ((a0_).map Node.c)), (1, D.int .i64 (y22)), (5, D.int .i64 (IntKind.i64.wrap (((i1 : Int)) + (1))))], []⟩) [(decide (((i1 : Int) : Int) < ((((a0_).map Node.c).length : Int)))) = true, 0 ≤ ((i1 : Int)) ∧ ((a0_).map Node.c)[((i1 : Int)).toNat]? = some [D.int .i64 (x1_.parent), D.int .i64 (x1_.cond.kind), D.str (x1_.cond.pat.rel), D.sl ((x1_.cond.pat.args).map tx), D.str (x1_.cond.left), D.str (x1_.cond.right), D.int .i64 (x1_.alpha), D.sl ((x1_.tokens).map Token.c)] ∧ ([D.int .i64 (x1_.parent), D.int .i64 (x1_.cond.kind), D.str (x1_.cond.pat.rel), D.sl ((x1_.cond.pat.args).map tx), D.str (x1_.cond.left), D.str (x1_.cond.right), D.int .i64 (x1_.alpha), D.sl ((x1_.tokens).map Token.c)] : List D).length = 8, Good Try.prog 39 [D.agg [D.int .i64 (x1_.parent), D.int .i64 (x1_.cond.kind), D.str (x1_.cond.pat.rel), D.sl ((x1_.cond.pat.args).map tx), D.str (x1_.cond.left), D.str (x1_.cond.right), D.int .i64 (x1_.alpha), D.sl ((x1_.tokens).map Token.c)], D.int .i64 (v1_1)] (D.int .i64 (y22)), (decide ((y22 : Int) < (0))) = false] hΓ mix (by kernel_rfl) ⟨((by rw [List.length_map]; exact lt_true (drop_cons hd1).2.1)), (⟨(map_at Node.c (drop_cons hd1).1).1, (map_at Node.c (drop_cons hd1).1).2, rfl⟩), (d_laws_szNode_good h23), (h24), trivial⟩ ?_
      refine (congrFun hS1 _).mpr ?_
      rw [i64_succ (drop_cons hd1).2.1 hm1]
      first | exact t | (simp only [List.map_append, List.map_cons, List.map_nil, List.map_set] at t ⊢; exact t)

set_option maxRecDepth 100000 in
set_option linter.unusedVariables false in
theorem d_laws_szNodeS_good {a0_ : List Node} {a1_ : Int} {r : Int} (h : d_laws_szNodeS a0_ a1_ = some r) : Good Try.prog 15 [D.sl ((a0_).map Node.c), D.int .i64 (a1_)] (D.int .i64 (r)) := by
  refine Good.of (c := bodyOf Try.f15) Try.func15 rfl (by decide) (by simp [Try.f15]) ?_
  intro hr Γ hΓ
  have hΓ : Γ.nt = 27 := hΓ
  rw [d_laws_szNodeS] at h
  refine (show AW Try.prog Γ (bodyOf Try.f15) (KQ Try.prog Γ (fun _ _ => False) (RetQ Try.prog Try.f15 (D.int .i64 (r))) []) _ from ?_)
  rcases den_if h with ⟨h1, h⟩ | ⟨h1, h⟩
  · have h := den_some h
    subst h
    exact AW_go (n := 2000) [[none]] [.b true] (.ret (D.int .i64 (-1))) [(decide ((IntKind.i64.wrap ((a1_) - ((((a0_).map Node.c).length : Int))) : Int) < (0))) = true] hΓ mix (by kernel_rfl) ⟨(h1), trivial⟩ (by first | rfl | (simp only [List.map_append, List.map_cons, List.map_nil, List.map_set] <;> rfl))
  · refine AW_go (n := 2000) [[none]] [.b false, .cn [0, 1, 5] []] (.lp (dig (bodyOf Try.f15) [1, 1, 1, 0, 1, 0, 0] []).1 (dig (bodyOf Try.f15) [1, 1, 1, 0, 1, 0] []).2 ⟨[(0, D.sl ((a0_).map Node.c)), (1, D.int .i64 (IntKind.i64.wrap ((a1_) - ((((a0_).map Node.c).length : Int))))), (5, D.int .i64 (0))], []⟩) [(decide ((IntKind.i64.wrap ((a1_) - ((((a0_).map Node.c).length : Int))) : Int) < (0))) = false] hΓ mix (by kernel_rfl) ⟨(h1), trivial⟩ (AW_st (by first | rfl | (simp only [List.map_append, List.map_cons, List.map_nil, List.map_set, List.map_replicate] <;> rfl)) (AW_of_r (d_laws_szNodeS_L1w hΓ (fun z1_1 h => ?_) (by have := (Rdb.sl (hr _ (List.mem_of_getElem? (i := 0) rfl))).1; simpa using this) (a0_) 0 (IntKind.i64.wrap ((a1_) - ((((a0_).map Node.c).length : Int)))) rfl h)))
    have h := den_some h
    subst h
    exact AW_go (n := 2000) [[none]] [] (.ret (D.int .i64 (z1_1))) [] hΓ mix (by kernel_rfl) trivial (by first | rfl | (simp only [List.map_append, List.map_cons, List.map_nil, List.map_set] <;> rfl))

def d_laws_szNetwork (a0_ : Network) (a1_ : Int) : Option Int := ((d_laws_szRuleS (a0_.rules) (a1_)).bind fun y1 => (bif decide ((y1 : Int) < (0)) then (some (-1)) else ((d_laws_szIntS (a0_.ends) (y1)).bind fun y4 => (bif decide ((y4 : Int) < (0)) then (some (-1)) else ((d_laws_szAlphaS (a0_.alphas) (y4)).bind fun y7 => (bif decide ((y7 : Int) < (0)) then (some (-1)) else ((d_laws_szNodeS (a0_.nodes) (y7)).bind fun y10 => (bif decide ((y10 : Int) < (0)) then (some (-1)) else ((d_laws_szFactS (a0_.facts) (y10)).bind fun y13 => (bif decide ((y13 : Int) < (0)) then (some (-1)) else (some (y13))))))))))))
set_option maxRecDepth 100000 in
set_option linter.unusedVariables false in
theorem d_laws_szNetwork_good {a0_ : Network} {a1_ : Int} {r : Int} (h : d_laws_szNetwork a0_ a1_ = some r) : Good Try.prog 5 [D.agg [D.sl ((a0_.rules).map Rule.c), D.sl ((a0_.ends).map ixx), D.sl ((a0_.alphas).map Alpha.c), D.sl ((a0_.nodes).map Node.c), D.sl ((a0_.facts).map Fact.c), D.int .i64 (a0_.tries)], D.int .i64 (a1_)] (D.int .i64 (r)) := by
  refine Good.of (c := bodyOf Try.f5) Try.func5 rfl (by decide) (by simp [Try.f5]) ?_
  intro hr Γ hΓ
  have hΓ : Γ.nt = 36 := hΓ
  rw [d_laws_szNetwork] at h
  refine (show AW Try.prog Γ (bodyOf Try.f5) (KQ Try.prog Γ (fun _ _ => False) (RetQ Try.prog Try.f5 (D.int .i64 (r))) []) _ from ?_)
  obtain ⟨y1, h2, h⟩ := den_bind h
  rcases den_if h with ⟨h3, h⟩ | ⟨h3, h⟩
  · have h := den_some h
    subst h
    exact AW_go (n := 2000) [[none]] [.d (D.int .i64 (y1)), .b true] (.ret (D.int .i64 (-1))) [Good Try.prog 12 [D.sl ((a0_.rules).map Rule.c), D.int .i64 (a1_)] (D.int .i64 (y1)), (decide ((y1 : Int) < (0))) = true] hΓ mix (by kernel_rfl) ⟨(d_laws_szRuleS_good h2), (h3), trivial⟩ (by first | rfl | (simp only [List.map_append, List.map_cons, List.map_nil, List.map_set] <;> rfl))
  · obtain ⟨y4, h5, h⟩ := den_bind h
    rcases den_if h with ⟨h6, h⟩ | ⟨h6, h⟩
    · have h := den_some h
      subst h
      exact AW_go (n := 2000) [[none]] [.d (D.int .i64 (y1)), .b false, .d (D.int .i64 (y4)), .b true] (.ret (D.int .i64 (-1))) [Good Try.prog 12 [D.sl ((a0_.rules).map Rule.c), D.int .i64 (a1_)] (D.int .i64 (y1)), (decide ((y1 : Int) < (0))) = false, Good Try.prog 13 [D.sl ((a0_.ends).map ixx), D.int .i64 (y1)] (D.int .i64 (y4)), (decide ((y4 : Int) < (0))) = true] hΓ mix (by kernel_rfl) ⟨(d_laws_szRuleS_good h2), (h3), (d_laws_szIntS_good h5), (h6), trivial⟩ (by first | rfl | (simp only [List.map_append, List.map_cons, List.map_nil, List.map_set] <;> rfl))
    · obtain ⟨y7, h8, h⟩ := den_bind h
      rcases den_if h with ⟨h9, h⟩ | ⟨h9, h⟩
      · have h := den_some h
        subst h
        exact AW_go (n := 2000) [[none]] [.d (D.int .i64 (y1)), .b false, .d (D.int .i64 (y4)), .b false, .d (D.int .i64 (y7)), .b true] (.ret (D.int .i64 (-1))) [Good Try.prog 12 [D.sl ((a0_.rules).map Rule.c), D.int .i64 (a1_)] (D.int .i64 (y1)), (decide ((y1 : Int) < (0))) = false, Good Try.prog 13 [D.sl ((a0_.ends).map ixx), D.int .i64 (y1)] (D.int .i64 (y4)), (decide ((y4 : Int) < (0))) = false, Good Try.prog 14 [D.sl ((a0_.alphas).map Alpha.c), D.int .i64 (y4)] (D.int .i64 (y7)), (decide ((y7 : Int) < (0))) = true] hΓ mix (by kernel_rfl) ⟨(d_laws_szRuleS_good h2), (h3), (d_laws_szIntS_good h5), (h6), (d_laws_szAlphaS_good h8), (h9), trivial⟩ (by first | rfl | (simp only [List.map_append, List.map_cons, List.map_nil, List.map_set] <;> rfl))
      · obtain ⟨y10, h11, h⟩ := den_bind h
        rcases den_if h with ⟨h12, h⟩ | ⟨h12, h⟩
        · have h := den_some h
          subst h
          exact AW_go (n := 2000) [[none]] [.d (D.int .i64 (y1)), .b false, .d (D.int .i64 (y4)), .b false, .d (D.int .i64 (y7)), .b false, .d (D.int .i64 (y10)), .b true] (.ret (D.int .i64 (-1))) [Good Try.prog 12 [D.sl ((a0_.rules).map Rule.c), D.int .i64 (a1_)] (D.int .i64 (y1)), (decide ((y1 : Int) < (0))) = false, Good Try.prog 13 [D.sl ((a0_.ends).map ixx), D.int .i64 (y1)] (D.int .i64 (y4)), (decide ((y4 : Int) < (0))) = false, Good Try.prog 14 [D.sl ((a0_.alphas).map Alpha.c), D.int .i64 (y4)] (D.int .i64 (y7)), (decide ((y7 : Int) < (0))) = false, Good Try.prog 15 [D.sl ((a0_.nodes).map Node.c), D.int .i64 (y7)] (D.int .i64 (y10)), (decide ((y10 : Int) < (0))) = true] hΓ mix (by kernel_rfl) ⟨(d_laws_szRuleS_good h2), (h3), (d_laws_szIntS_good h5), (h6), (d_laws_szAlphaS_good h8), (h9), (d_laws_szNodeS_good h11), (h12), trivial⟩ (by first | rfl | (simp only [List.map_append, List.map_cons, List.map_nil, List.map_set] <;> rfl))
        · obtain ⟨y13, h14, h⟩ := den_bind h
          rcases den_if h with ⟨h15, h⟩ | ⟨h15, h⟩
          · have h := den_some h
            subst h
            exact AW_go (n := 2000) [[none]] [.d (D.int .i64 (y1)), .b false, .d (D.int .i64 (y4)), .b false, .d (D.int .i64 (y7)), .b false, .d (D.int .i64 (y10)), .b false, .d (D.int .i64 (y13)), .b true] (.ret (D.int .i64 (-1))) [Good Try.prog 12 [D.sl ((a0_.rules).map Rule.c), D.int .i64 (a1_)] (D.int .i64 (y1)), (decide ((y1 : Int) < (0))) = false, Good Try.prog 13 [D.sl ((a0_.ends).map ixx), D.int .i64 (y1)] (D.int .i64 (y4)), (decide ((y4 : Int) < (0))) = false, Good Try.prog 14 [D.sl ((a0_.alphas).map Alpha.c), D.int .i64 (y4)] (D.int .i64 (y7)), (decide ((y7 : Int) < (0))) = false, Good Try.prog 15 [D.sl ((a0_.nodes).map Node.c), D.int .i64 (y7)] (D.int .i64 (y10)), (decide ((y10 : Int) < (0))) = false, Good Try.prog 16 [D.sl ((a0_.facts).map Fact.c), D.int .i64 (y10)] (D.int .i64 (y13)), (decide ((y13 : Int) < (0))) = true] hΓ mix (by kernel_rfl) ⟨(d_laws_szRuleS_good h2), (h3), (d_laws_szIntS_good h5), (h6), (d_laws_szAlphaS_good h8), (h9), (d_laws_szNodeS_good h11), (h12), (d_laws_szFactS_good h14), (h15), trivial⟩ (by first | rfl | (simp only [List.map_append, List.map_cons, List.map_nil, List.map_set] <;> rfl))
          · have h := den_some h
            subst h
            exact AW_go (n := 2000) [[none]] [.d (D.int .i64 (y1)), .b false, .d (D.int .i64 (y4)), .b false, .d (D.int .i64 (y7)), .b false, .d (D.int .i64 (y10)), .b false, .d (D.int .i64 (y13)), .b false] (.ret (D.int .i64 (y13))) [Good Try.prog 12 [D.sl ((a0_.rules).map Rule.c), D.int .i64 (a1_)] (D.int .i64 (y1)), (decide ((y1 : Int) < (0))) = false, Good Try.prog 13 [D.sl ((a0_.ends).map ixx), D.int .i64 (y1)] (D.int .i64 (y4)), (decide ((y4 : Int) < (0))) = false, Good Try.prog 14 [D.sl ((a0_.alphas).map Alpha.c), D.int .i64 (y4)] (D.int .i64 (y7)), (decide ((y7 : Int) < (0))) = false, Good Try.prog 15 [D.sl ((a0_.nodes).map Node.c), D.int .i64 (y7)] (D.int .i64 (y10)), (decide ((y10 : Int) < (0))) = false, Good Try.prog 16 [D.sl ((a0_.facts).map Fact.c), D.int .i64 (y10)] (D.int .i64 (y13)), (decide ((y13 : Int) < (0))) = false] hΓ mix (by kernel_rfl) ⟨(d_laws_szRuleS_good h2), (h3), (d_laws_szIntS_good h5), (h6), (d_laws_szAlphaS_good h8), (h9), (d_laws_szNodeS_good h11), (h12), (d_laws_szFactS_good h14), (h15), trivial⟩ (by first | rfl | (simp only [List.map_append, List.map_cons, List.map_nil, List.map_set] <;> rfl))

end Go.Cx
