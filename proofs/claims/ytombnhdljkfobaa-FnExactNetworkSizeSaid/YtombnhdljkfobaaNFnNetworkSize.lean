/- What functions of the program compute, and the walks that show it. No condition. -/
import Derived.Test.YtombnhdljkfobaaNData
namespace Go.Cx
open Go.RowKit Go.Proofs
def d_spec_NetworkSize_L1 (a0_ : Network) (k1 : Int → Option Int) : List Alpha → Nat → Int → Option Int
  | [], i1, v1_3 => (k1 (v1_3))
  | x1_ :: xs1, i1, v1_3 => (d_spec_NetworkSize_L1 a0_ k1 xs1 (i1 + 1) (IntKind.i64.wrap ((v1_3) + ((((x1_.facts).map Fact.c).length : Int)))))

def d_spec_NetworkSize_L2 (a0_ : Network) (k2 : Int → Option Int) : List Node → Nat → Int → Option Int
  | [], i2, v2_3 => (k2 (v2_3))
  | x2_ :: xs2, i2, v2_3 => (d_spec_NetworkSize_L2 a0_ k2 xs2 (i2 + 1) (IntKind.i64.wrap ((v2_3) + ((((x2_.tokens).map Token.c).length : Int)))))

def d_spec_NetworkSize (a0_ : Network) : Option Int := (d_spec_NetworkSize_L1 a0_ (fun (z1_3 : Int) => (d_spec_NetworkSize_L2 a0_ (fun (z2_3 : Int) => (some (z2_3))) (a0_.nodes) 0 (z1_3))) (a0_.alphas) 0 (0))
set_option maxRecDepth 100000 in
set_option linter.unusedVariables false in
theorem d_spec_NetworkSize_L1w {Γ : Ctx} (hΓ : Γ.nt = 39) {N : Nat → St → Prop} {a0_ : Network} {r : Int} {k1 : Int → Option Int} (hE1 : ∀ (z1_3 : Int), k1 z1_3 = some r → AW Try.prog Γ (dig (bodyOf Try.f6) [1, 1, 1] []).1 (KQ Try.prog Γ N (RetQ Try.prog Try.f6 (D.int .i64 (r))) (dig (bodyOf Try.f6) [1, 1, 1] []).2) ⟨[(1, D.ptr 0 0), (3, D.int .i64 (z1_3))], [Ob.box [D.sl ((a0_.rules).map Rule.c), D.sl ((a0_.ends).map ixx), D.sl ((a0_.alphas).map Alpha.c), D.sl ((a0_.nodes).map Node.c), D.sl ((a0_.facts).map Fact.c), D.int .i64 (a0_.tries)]]⟩) (hm1 : (a0_.alphas).length ≤ maxLen) : ∀ (rest : List Alpha) (i1 : Nat) (v1_3 : Int), (a0_.alphas).drop i1 = rest → d_spec_NetworkSize_L1 a0_ k1 rest i1 v1_3 = some r → AWr Try.prog Γ (dig (bodyOf Try.f6) [1, 1, 0, 1, 0, 0] []).1 (KQ Try.prog Γ N (RetQ Try.prog Try.f6 (D.int .i64 (r))) (dig (bodyOf Try.f6) [1, 1, 0, 1, 0] []).2) (rest.length + 1) ⟨[(1, D.ptr 0 0), (3, D.int .i64 (v1_3)), (4, D.int .i64 ((i1 : Int)))], [Ob.box [D.sl ((a0_.rules).map Rule.c), D.sl ((a0_.ends).map ixx), D.sl ((a0_.alphas).map Alpha.c), D.sl ((a0_.nodes).map Node.c), D.sl ((a0_.facts).map Fact.c), D.int .i64 (a0_.tries)]]⟩ := by
  intro rest
  induction rest with
  | nil =>
    intro i1 v1_3 hd1 h
    rw [d_spec_NetworkSize_L1] at h
    refine AWr_succ fun N1 hN1 hS1 => ?_
    have t := AW_N (N := N) (N' := N1) (K0 := (dig (bodyOf Try.f6) [1, 1, 0, 1, 0] []).2) (by kernel_rfl) hN1 (hE1 (v1_3) h)
    refine AW_go (n := 2000) [[none]] [.b false, .hl 0 [1, 3] [0]] (.at_ (dig (bodyOf Try.f6) [1, 1, 1] []).1 (dig (bodyOf Try.f6) [1, 1, 1] []).2 ⟨[(1, D.ptr 0 0), (3, D.int .i64 (v1_3))], [Ob.box [D.sl ((a0_.rules).map Rule.c), D.sl ((a0_.ends).map ixx), D.sl ((a0_.alphas).map Alpha.c), D.sl ((a0_.nodes).map Node.c), D.sl ((a0_.facts).map Fact.c), D.int .i64 (a0_.tries)]]⟩) [(decide (((i1 : Int) : Int) < ((((a0_.alphas).map Alpha.c).length : Int)))) = false] hΓ mix (by kernel_rfl) ⟨((by rw [List.length_map]; exact lt_false (drop_nil hd1))), trivial⟩ ?_
    first | exact t | (simp only [List.map_append, List.map_cons, List.map_nil, List.map_set] at t ⊢; exact t)
  | cons x1_ xs1 ih1 =>
    intro i1 v1_3 hd1 h
    rw [d_spec_NetworkSize_L1] at h
    refine AWr_succ fun N1 hN1 hS1 => ?_
    have t := ih1 (i1 + 1) (IntKind.i64.wrap ((v1_3) + ((((x1_.facts).map Fact.c).length : Int)))) (drop_cons hd1).2.2 h
    refine AW_go (n := 2000) [[none]] [.b true, .row [D.str (x1_.shape.rel), D.sl ((x1_.shape.args).map tx), D.sl ((x1_.facts).map Fact.c)], .cn [1, 3, 4] [0]] (.cont 0 ⟨[(1, D.ptr 0 0), (3, D.int .i64 (IntKind.i64.wrap ((v1_3) + ((((x1_.facts).map Fact.c).length : Int))))), (4, D.int .i64 (IntKind.i64.wrap (((i1 : Int)) + (1))))], [Ob.box [D.sl ((a0_.rules).map Rule.c), D.sl ((a0_.ends).map ixx), D.sl ((a0_.alphas).map Alpha.c), D.sl ((a0_.nodes).map Node.c), D.sl ((a0_.facts).map Fact.c), D.int .i64 (a0_.tries)]]⟩) [(decide (((i1 : Int) : Int) < ((((a0_.alphas).map Alpha.c).length : Int)))) = true, 0 ≤ ((i1 : Int)) ∧ ((a0_.alphas).map Alpha.c)[((i1 : Int)).toNat]? = some [D.str (x1_.shape.rel), D.sl ((x1_.shape.args).map tx), D.sl ((x1_.facts).map Fact.c)] ∧ ([D.str (x1_.shape.rel), D.sl ((x1_.shape.args).map tx), D.sl ((x1_.facts).map Fact.c)] : List D).length = 3] hΓ mix (by kernel_rfl) ⟨((by rw [List.length_map]; exact lt_true (drop_cons hd1).2.1)), (⟨(map_at Alpha.c (drop_cons hd1).1).1, (map_at Alpha.c (drop_cons hd1).1).2, rfl⟩), trivial⟩ ?_
    refine (congrFun hS1 _).mpr ?_
    rw [i64_succ (drop_cons hd1).2.1 hm1]
    first | exact t | (simp only [List.map_append, List.map_cons, List.map_nil, List.map_set] at t ⊢; exact t)

set_option maxRecDepth 100000 in
set_option linter.unusedVariables false in
theorem d_spec_NetworkSize_L2w {Γ : Ctx} (hΓ : Γ.nt = 39) {N : Nat → St → Prop} {a0_ : Network} {r : Int} {k2 : Int → Option Int} (hE2 : ∀ (z2_3 : Int), k2 z2_3 = some r → AW Try.prog Γ (dig (bodyOf Try.f6) [1, 1, 1, 1] []).1 (KQ Try.prog Γ N (RetQ Try.prog Try.f6 (D.int .i64 (r))) (dig (bodyOf Try.f6) [1, 1, 1, 1] []).2) ⟨[(3, D.int .i64 (z2_3))], []⟩) (hm2 : (a0_.nodes).length ≤ maxLen) : ∀ (rest : List Node) (i2 : Nat) (v2_3 : Int), (a0_.nodes).drop i2 = rest → d_spec_NetworkSize_L2 a0_ k2 rest i2 v2_3 = some r → AWr Try.prog Γ (dig (bodyOf Try.f6) [1, 1, 1, 0, 1, 0, 0] []).1 (KQ Try.prog Γ N (RetQ Try.prog Try.f6 (D.int .i64 (r))) (dig (bodyOf Try.f6) [1, 1, 1, 0, 1, 0] []).2) (rest.length + 1) ⟨[(1, D.ptr 0 0), (3, D.int .i64 (v2_3)), (5, D.int .i64 ((i2 : Int)))], [Ob.box [D.sl ((a0_.rules).map Rule.c), D.sl ((a0_.ends).map ixx), D.sl ((a0_.alphas).map Alpha.c), D.sl ((a0_.nodes).map Node.c), D.sl ((a0_.facts).map Fact.c), D.int .i64 (a0_.tries)]]⟩ := by
  intro rest
  induction rest with
  | nil =>
    intro i2 v2_3 hd2 h
    rw [d_spec_NetworkSize_L2] at h
    refine AWr_succ fun N2 hN2 hS2 => ?_
    have t := AW_N (N := N) (N' := N2) (K0 := (dig (bodyOf Try.f6) [1, 1, 1, 0, 1, 0] []).2) (by kernel_rfl) hN2 (hE2 (v2_3) h)
    refine AW_go (n := 2000) [[none]] [.b false, .hl 0 [3] []] (.at_ (dig (bodyOf Try.f6) [1, 1, 1, 1] []).1 (dig (bodyOf Try.f6) [1, 1, 1, 1] []).2 ⟨[(3, D.int .i64 (v2_3))], []⟩) [(decide (((i2 : Int) : Int) < ((((a0_.nodes).map Node.c).length : Int)))) = false] hΓ mix (by kernel_rfl) ⟨((by rw [List.length_map]; exact lt_false (drop_nil hd2))), trivial⟩ ?_
    first | exact t | (simp only [List.map_append, List.map_cons, List.map_nil, List.map_set] at t ⊢; exact t)
  | cons x2_ xs2 ih2 =>
    intro i2 v2_3 hd2 h
    rw [d_spec_NetworkSize_L2] at h
    refine AWr_succ fun N2 hN2 hS2 => ?_
    have t := ih2 (i2 + 1) (IntKind.i64.wrap ((v2_3) + ((((x2_.tokens).map Token.c).length : Int)))) (drop_cons hd2).2.2 h
    refine AW_go (n := 2000) [[none]] [.b true, .row [D.int .i64 (x2_.parent), D.int .i64 (x2_.cond.kind), D.str (x2_.cond.pat.rel), D.sl ((x2_.cond.pat.args).map tx), D.str (x2_.cond.left), D.str (x2_.cond.right), D.int .i64 (x2_.alpha), D.sl ((x2_.tokens).map Token.c)], .cn [1, 3, 5] [0]] (.cont 0 ⟨[(1, D.ptr 0 0), (3, D.int .i64 (IntKind.i64.wrap ((v2_3) + ((((x2_.tokens).map Token.c).length : Int))))), (5, D.int .i64 (IntKind.i64.wrap (((i2 : Int)) + (1))))], [Ob.box [D.sl ((a0_.rules).map Rule.c), D.sl ((a0_.ends).map ixx), D.sl ((a0_.alphas).map Alpha.c), D.sl ((a0_.nodes).map Node.c), D.sl ((a0_.facts).map Fact.c), D.int .i64 (a0_.tries)]]⟩) [(decide (((i2 : Int) : Int) < ((((a0_.nodes).map Node.c).length : Int)))) = true, 0 ≤ ((i2 : Int)) ∧ ((a0_.nodes).map Node.c)[((i2 : Int)).toNat]? = some [D.int .i64 (x2_.parent), D.int .i64 (x2_.cond.kind), D.str (x2_.cond.pat.rel), D.sl ((x2_.cond.pat.args).map tx), D.str (x2_.cond.left), D.str (x2_.cond.right), D.int .i64 (x2_.alpha), D.sl ((x2_.tokens).map Token.c)] ∧ ([D.int .i64 (x2_.parent), D.int .i64 (x2_.cond.kind), D.str (x2_.cond.pat.rel), D.sl ((x2_.cond.pat.args).map tx), D.str (x2_.cond.left), D.str (x2_.cond.right), D.int .i64 (x2_.alpha), D.sl ((x2_.tokens).map Token.c)] : List D).length = 8] hΓ mix (by kernel_rfl) ⟨((by rw [List.length_map]; exact lt_true (drop_cons hd2).2.1)), (⟨(map_at Node.c (drop_cons hd2).1).1, (map_at Node.c (drop_cons hd2).1).2, rfl⟩), trivial⟩ ?_
    refine (congrFun hS2 _).mpr ?_
    rw [i64_succ (drop_cons hd2).2.1 hm2]
    first | exact t | (simp only [List.map_append, List.map_cons, List.map_nil, List.map_set] at t ⊢; exact t)

set_option maxRecDepth 100000 in
set_option linter.unusedVariables false in
theorem d_spec_NetworkSize_good {a0_ : Network} {r : Int} (h : d_spec_NetworkSize a0_ = some r) : Good Try.prog 6 [D.agg [D.sl ((a0_.rules).map Rule.c), D.sl ((a0_.ends).map ixx), D.sl ((a0_.alphas).map Alpha.c), D.sl ((a0_.nodes).map Node.c), D.sl ((a0_.facts).map Fact.c), D.int .i64 (a0_.tries)]] (D.int .i64 (r)) := by
  refine Good.of (c := bodyOf Try.f6) Try.func6 rfl (by decide) (by simp [Try.f6]) ?_
  intro hr Γ hΓ
  have hΓ : Γ.nt = 39 := hΓ
  rw [d_spec_NetworkSize] at h
  refine (show AW Try.prog Γ (bodyOf Try.f6) (KQ Try.prog Γ (fun _ _ => False) (RetQ Try.prog Try.f6 (D.int .i64 (r))) []) _ from ?_)
  refine AW_go (n := 2000) [[none]] [.cn [1, 3, 4] [0]] (.lp (dig (bodyOf Try.f6) [1, 1, 0, 1, 0, 0] []).1 (dig (bodyOf Try.f6) [1, 1, 0, 1, 0] []).2 ⟨[(1, D.ptr 0 0), (3, D.int .i64 (0)), (4, D.int .i64 (0))], [Ob.box [D.sl ((a0_.rules).map Rule.c), D.sl ((a0_.ends).map ixx), D.sl ((a0_.alphas).map Alpha.c), D.sl ((a0_.nodes).map Node.c), D.sl ((a0_.facts).map Fact.c), D.int .i64 (a0_.tries)]]⟩) [] hΓ mix (by kernel_rfl) trivial (AW_st (by first | rfl | (simp only [List.map_append, List.map_cons, List.map_nil, List.map_set, List.map_replicate] <;> rfl)) (AW_of_r (d_spec_NetworkSize_L1w hΓ (fun z1_3 h => ?_) (by have := (Rdb.sl (Rdb.agg (hr _ (List.mem_of_getElem? (i := 0) rfl)) (.sl ((a0_.alphas).map Alpha.c)) (by simp))).1; simpa using this) (a0_.alphas) 0 (0) rfl h)))
  refine AW_go (n := 2000) [[none]] [.cn [1, 3, 5] [0]] (.lp (dig (bodyOf Try.f6) [1, 1, 1, 0, 1, 0, 0] []).1 (dig (bodyOf Try.f6) [1, 1, 1, 0, 1, 0] []).2 ⟨[(1, D.ptr 0 0), (3, D.int .i64 (z1_3)), (5, D.int .i64 (0))], [Ob.box [D.sl ((a0_.rules).map Rule.c), D.sl ((a0_.ends).map ixx), D.sl ((a0_.alphas).map Alpha.c), D.sl ((a0_.nodes).map Node.c), D.sl ((a0_.facts).map Fact.c), D.int .i64 (a0_.tries)]]⟩) [] hΓ mix (by kernel_rfl) trivial (AW_st (by first | rfl | (simp only [List.map_append, List.map_cons, List.map_nil, List.map_set, List.map_replicate] <;> rfl)) (AW_of_r (d_spec_NetworkSize_L2w hΓ (fun z2_3 h => ?_) (by have := (Rdb.sl (Rdb.agg (hr _ (List.mem_of_getElem? (i := 0) rfl)) (.sl ((a0_.nodes).map Node.c)) (by simp))).1; simpa using this) (a0_.nodes) 0 (z1_3) rfl h)))
  have h := den_some h
  subst h
  exact AW_go (n := 2000) [[none]] [] (.ret (D.int .i64 (z2_3))) [] hΓ mix (by kernel_rfl) trivial (by first | rfl | (simp only [List.map_append, List.map_cons, List.map_nil, List.map_set] <;> rfl))

def d_impl_NetworkSize_L1 (a0_ : Network) (k1 : Int → Option Int) : List Alpha → Nat → Int → Option Int
  | [], i1, v1_3 => (k1 (v1_3))
  | x1_ :: xs1, i1, v1_3 => (d_impl_NetworkSize_L1 a0_ k1 xs1 (i1 + 1) (IntKind.i64.wrap ((v1_3) + ((((x1_.facts).map Fact.c).length : Int)))))

def d_impl_NetworkSize_L2 (a0_ : Network) (k2 : Int → Option Int) : List Node → Nat → Int → Option Int
  | [], i2, v2_3 => (k2 (v2_3))
  | x2_ :: xs2, i2, v2_3 => (d_impl_NetworkSize_L2 a0_ k2 xs2 (i2 + 1) (IntKind.i64.wrap ((v2_3) + ((((x2_.tokens).map Token.c).length : Int)))))

def d_impl_NetworkSize (a0_ : Network) : Option Int := (d_impl_NetworkSize_L1 a0_ (fun (z1_3 : Int) => (d_impl_NetworkSize_L2 a0_ (fun (z2_3 : Int) => (some (z2_3))) (a0_.nodes) 0 (z1_3))) (a0_.alphas) 0 (0))
set_option maxRecDepth 100000 in
set_option linter.unusedVariables false in
theorem d_impl_NetworkSize_L1w {Γ : Ctx} (hΓ : Γ.nt = 35) {N : Nat → St → Prop} {a0_ : Network} {r : Int} {k1 : Int → Option Int} (hE1 : ∀ (z1_3 : Int), k1 z1_3 = some r → AW Try.prog Γ (dig (bodyOf Try.f8) [1, 1, 1] []).1 (KQ Try.prog Γ N (RetQ Try.prog Try.f8 (D.int .i64 (r))) (dig (bodyOf Try.f8) [1, 1, 1] []).2) ⟨[(1, D.ptr 0 0), (3, D.int .i64 (z1_3))], [Ob.box [D.sl ((a0_.rules).map Rule.c), D.sl ((a0_.ends).map ixx), D.sl ((a0_.alphas).map Alpha.c), D.sl ((a0_.nodes).map Node.c), D.sl ((a0_.facts).map Fact.c), D.int .i64 (a0_.tries)]]⟩) (hm1 : (a0_.alphas).length ≤ maxLen) : ∀ (rest : List Alpha) (i1 : Nat) (v1_3 : Int), (a0_.alphas).drop i1 = rest → d_impl_NetworkSize_L1 a0_ k1 rest i1 v1_3 = some r → AWr Try.prog Γ (dig (bodyOf Try.f8) [1, 1, 0, 1, 0, 0] []).1 (KQ Try.prog Γ N (RetQ Try.prog Try.f8 (D.int .i64 (r))) (dig (bodyOf Try.f8) [1, 1, 0, 1, 0] []).2) (rest.length + 1) ⟨[(1, D.ptr 0 0), (3, D.int .i64 (v1_3)), (9, D.sl ((a0_.alphas).map Alpha.c)), (10, D.int .i64 ((((a0_.alphas).map Alpha.c).length : Int))), (11, D.int .i64 ((i1 : Int)))], [Ob.box [D.sl ((a0_.rules).map Rule.c), D.sl ((a0_.ends).map ixx), D.sl ((a0_.alphas).map Alpha.c), D.sl ((a0_.nodes).map Node.c), D.sl ((a0_.facts).map Fact.c), D.int .i64 (a0_.tries)]]⟩ := by
  intro rest
  induction rest with
  | nil =>
    intro i1 v1_3 hd1 h
    rw [d_impl_NetworkSize_L1] at h
    refine AWr_succ fun N1 hN1 hS1 => ?_
    have t := AW_N (N := N) (N' := N1) (K0 := (dig (bodyOf Try.f8) [1, 1, 0, 1, 0] []).2) (by kernel_rfl) hN1 (hE1 (v1_3) h)
    refine AW_go (n := 2000) [[none]] [.b false, .hl 0 [1, 3] [0]] (.at_ (dig (bodyOf Try.f8) [1, 1, 1] []).1 (dig (bodyOf Try.f8) [1, 1, 1] []).2 ⟨[(1, D.ptr 0 0), (3, D.int .i64 (v1_3))], [Ob.box [D.sl ((a0_.rules).map Rule.c), D.sl ((a0_.ends).map ixx), D.sl ((a0_.alphas).map Alpha.c), D.sl ((a0_.nodes).map Node.c), D.sl ((a0_.facts).map Fact.c), D.int .i64 (a0_.tries)]]⟩) [(decide (((i1 : Int) : Int) < ((((a0_.alphas).map Alpha.c).length : Int)))) = false] hΓ mix (by kernel_rfl) ⟨((by rw [List.length_map]; exact lt_false (drop_nil hd1))), trivial⟩ ?_
    first | exact t | (simp only [List.map_append, List.map_cons, List.map_nil, List.map_set] at t ⊢; exact t)
  | cons x1_ xs1 ih1 =>
    intro i1 v1_3 hd1 h
    rw [d_impl_NetworkSize_L1] at h
    refine AWr_succ fun N1 hN1 hS1 => ?_
    have t := ih1 (i1 + 1) (IntKind.i64.wrap ((v1_3) + ((((x1_.facts).map Fact.c).length : Int)))) (drop_cons hd1).2.2 h
    refine AW_go (n := 2000) [[none]] [.b true, .row [D.str (x1_.shape.rel), D.sl ((x1_.shape.args).map tx), D.sl ((x1_.facts).map Fact.c)], .cn [1, 3, 9, 10, 11] [0]] (.cont 0 ⟨[(1, D.ptr 0 0), (3, D.int .i64 (IntKind.i64.wrap ((v1_3) + ((((x1_.facts).map Fact.c).length : Int))))), (9, D.sl ((a0_.alphas).map Alpha.c)), (10, D.int .i64 ((((a0_.alphas).map Alpha.c).length : Int))), (11, D.int .i64 (IntKind.i64.wrap (((i1 : Int)) + (1))))], [Ob.box [D.sl ((a0_.rules).map Rule.c), D.sl ((a0_.ends).map ixx), D.sl ((a0_.alphas).map Alpha.c), D.sl ((a0_.nodes).map Node.c), D.sl ((a0_.facts).map Fact.c), D.int .i64 (a0_.tries)]]⟩) [(decide (((i1 : Int) : Int) < ((((a0_.alphas).map Alpha.c).length : Int)))) = true, 0 ≤ ((i1 : Int)) ∧ ((a0_.alphas).map Alpha.c)[((i1 : Int)).toNat]? = some [D.str (x1_.shape.rel), D.sl ((x1_.shape.args).map tx), D.sl ((x1_.facts).map Fact.c)] ∧ ([D.str (x1_.shape.rel), D.sl ((x1_.shape.args).map tx), D.sl ((x1_.facts).map Fact.c)] : List D).length = 3] hΓ mix (by kernel_rfl) ⟨((by rw [List.length_map]; exact lt_true (drop_cons hd1).2.1)), (⟨(map_at Alpha.c (drop_cons hd1).1).1, (map_at Alpha.c (drop_cons hd1).1).2, rfl⟩), trivial⟩ ?_
    refine (congrFun hS1 _).mpr ?_
    rw [i64_succ (drop_cons hd1).2.1 hm1]
    first | exact t | (simp only [List.map_append, List.map_cons, List.map_nil, List.map_set] at t ⊢; exact t)

set_option maxRecDepth 100000 in
set_option linter.unusedVariables false in
theorem d_impl_NetworkSize_L2w {Γ : Ctx} (hΓ : Γ.nt = 35) {N : Nat → St → Prop} {a0_ : Network} {r : Int} {k2 : Int → Option Int} (hE2 : ∀ (z2_3 : Int), k2 z2_3 = some r → AW Try.prog Γ (dig (bodyOf Try.f8) [1, 1, 1, 1] []).1 (KQ Try.prog Γ N (RetQ Try.prog Try.f8 (D.int .i64 (r))) (dig (bodyOf Try.f8) [1, 1, 1, 1] []).2) ⟨[(3, D.int .i64 (z2_3))], []⟩) (hm2 : (a0_.nodes).length ≤ maxLen) : ∀ (rest : List Node) (i2 : Nat) (v2_3 : Int), (a0_.nodes).drop i2 = rest → d_impl_NetworkSize_L2 a0_ k2 rest i2 v2_3 = some r → AWr Try.prog Γ (dig (bodyOf Try.f8) [1, 1, 1, 0, 1, 0, 0] []).1 (KQ Try.prog Γ N (RetQ Try.prog Try.f8 (D.int .i64 (r))) (dig (bodyOf Try.f8) [1, 1, 1, 0, 1, 0] []).2) (rest.length + 1) ⟨[(3, D.int .i64 (v2_3)), (22, D.sl ((a0_.nodes).map Node.c)), (23, D.int .i64 ((((a0_.nodes).map Node.c).length : Int))), (24, D.int .i64 ((i2 : Int)))], []⟩ := by
  intro rest
  induction rest with
  | nil =>
    intro i2 v2_3 hd2 h
    rw [d_impl_NetworkSize_L2] at h
    refine AWr_succ fun N2 hN2 hS2 => ?_
    have t := AW_N (N := N) (N' := N2) (K0 := (dig (bodyOf Try.f8) [1, 1, 1, 0, 1, 0] []).2) (by kernel_rfl) hN2 (hE2 (v2_3) h)
    refine AW_go (n := 2000) [[none]] [.b false, .hl 0 [3] []] (.at_ (dig (bodyOf Try.f8) [1, 1, 1, 1] []).1 (dig (bodyOf Try.f8) [1, 1, 1, 1] []).2 ⟨[(3, D.int .i64 (v2_3))], []⟩) [(decide (((i2 : Int) : Int) < ((((a0_.nodes).map Node.c).length : Int)))) = false] hΓ mix (by kernel_rfl) ⟨((by rw [List.length_map]; exact lt_false (drop_nil hd2))), trivial⟩ ?_
    first | exact t | (simp only [List.map_append, List.map_cons, List.map_nil, List.map_set] at t ⊢; exact t)
  | cons x2_ xs2 ih2 =>
    intro i2 v2_3 hd2 h
    rw [d_impl_NetworkSize_L2] at h
    refine AWr_succ fun N2 hN2 hS2 => ?_
    have t := ih2 (i2 + 1) (IntKind.i64.wrap ((v2_3) + ((((x2_.tokens).map Token.c).length : Int)))) (drop_cons hd2).2.2 h
    refine AW_go (n := 2000) [[none]] [.b true, .row [D.int .i64 (x2_.parent), D.int .i64 (x2_.cond.kind), D.str (x2_.cond.pat.rel), D.sl ((x2_.cond.pat.args).map tx), D.str (x2_.cond.left), D.str (x2_.cond.right), D.int .i64 (x2_.alpha), D.sl ((x2_.tokens).map Token.c)], .cn [3, 22, 23, 24] []] (.cont 0 ⟨[(3, D.int .i64 (IntKind.i64.wrap ((v2_3) + ((((x2_.tokens).map Token.c).length : Int))))), (22, D.sl ((a0_.nodes).map Node.c)), (23, D.int .i64 ((((a0_.nodes).map Node.c).length : Int))), (24, D.int .i64 (IntKind.i64.wrap (((i2 : Int)) + (1))))], []⟩) [(decide (((i2 : Int) : Int) < ((((a0_.nodes).map Node.c).length : Int)))) = true, 0 ≤ ((i2 : Int)) ∧ ((a0_.nodes).map Node.c)[((i2 : Int)).toNat]? = some [D.int .i64 (x2_.parent), D.int .i64 (x2_.cond.kind), D.str (x2_.cond.pat.rel), D.sl ((x2_.cond.pat.args).map tx), D.str (x2_.cond.left), D.str (x2_.cond.right), D.int .i64 (x2_.alpha), D.sl ((x2_.tokens).map Token.c)] ∧ ([D.int .i64 (x2_.parent), D.int .i64 (x2_.cond.kind), D.str (x2_.cond.pat.rel), D.sl ((x2_.cond.pat.args).map tx), D.str (x2_.cond.left), D.str (x2_.cond.right), D.int .i64 (x2_.alpha), D.sl ((x2_.tokens).map Token.c)] : List D).length = 8] hΓ mix (by kernel_rfl) ⟨((by rw [List.length_map]; exact lt_true (drop_cons hd2).2.1)), (⟨(map_at Node.c (drop_cons hd2).1).1, (map_at Node.c (drop_cons hd2).1).2, rfl⟩), trivial⟩ ?_
    refine (congrFun hS2 _).mpr ?_
    rw [i64_succ (drop_cons hd2).2.1 hm2]
    first | exact t | (simp only [List.map_append, List.map_cons, List.map_nil, List.map_set] at t ⊢; exact t)

set_option maxRecDepth 100000 in
set_option linter.unusedVariables false in
theorem d_impl_NetworkSize_good {a0_ : Network} {r : Int} (h : d_impl_NetworkSize a0_ = some r) : Good Try.prog 8 [D.agg [D.sl ((a0_.rules).map Rule.c), D.sl ((a0_.ends).map ixx), D.sl ((a0_.alphas).map Alpha.c), D.sl ((a0_.nodes).map Node.c), D.sl ((a0_.facts).map Fact.c), D.int .i64 (a0_.tries)]] (D.int .i64 (r)) := by
  refine Good.of (c := bodyOf Try.f8) Try.func8 rfl (by decide) (by simp [Try.f8]) ?_
  intro hr Γ hΓ
  have hΓ : Γ.nt = 35 := hΓ
  rw [d_impl_NetworkSize] at h
  refine (show AW Try.prog Γ (bodyOf Try.f8) (KQ Try.prog Γ (fun _ _ => False) (RetQ Try.prog Try.f8 (D.int .i64 (r))) []) _ from ?_)
  refine AW_go (n := 2000) [[none]] [.cn [1, 3, 9, 10, 11] [0]] (.lp (dig (bodyOf Try.f8) [1, 1, 0, 1, 0, 0] []).1 (dig (bodyOf Try.f8) [1, 1, 0, 1, 0] []).2 ⟨[(1, D.ptr 0 0), (3, D.int .i64 (0)), (9, D.sl ((a0_.alphas).map Alpha.c)), (10, D.int .i64 ((((a0_.alphas).map Alpha.c).length : Int))), (11, D.int .i64 (0))], [Ob.box [D.sl ((a0_.rules).map Rule.c), D.sl ((a0_.ends).map ixx), D.sl ((a0_.alphas).map Alpha.c), D.sl ((a0_.nodes).map Node.c), D.sl ((a0_.facts).map Fact.c), D.int .i64 (a0_.tries)]]⟩) [] hΓ mix (by kernel_rfl) trivial (AW_st (by first | rfl | (simp only [List.map_append, List.map_cons, List.map_nil, List.map_set, List.map_replicate] <;> rfl)) (AW_of_r (d_impl_NetworkSize_L1w hΓ (fun z1_3 h => ?_) (by have := (Rdb.sl (Rdb.agg (hr _ (List.mem_of_getElem? (i := 0) rfl)) (.sl ((a0_.alphas).map Alpha.c)) (by simp))).1; simpa using this) (a0_.alphas) 0 (0) rfl h)))
  refine AW_go (n := 2000) [[none]] [.cn [3, 22, 23, 24] []] (.lp (dig (bodyOf Try.f8) [1, 1, 1, 0, 1, 0, 0] []).1 (dig (bodyOf Try.f8) [1, 1, 1, 0, 1, 0] []).2 ⟨[(3, D.int .i64 (z1_3)), (22, D.sl ((a0_.nodes).map Node.c)), (23, D.int .i64 ((((a0_.nodes).map Node.c).length : Int))), (24, D.int .i64 (0))], []⟩) [] hΓ mix (by kernel_rfl) trivial (AW_st (by first | rfl | (simp only [List.map_append, List.map_cons, List.map_nil, List.map_set, List.map_replicate] <;> rfl)) (AW_of_r (d_impl_NetworkSize_L2w hΓ (fun z2_3 h => ?_) (by have := (Rdb.sl (Rdb.agg (hr _ (List.mem_of_getElem? (i := 0) rfl)) (.sl ((a0_.nodes).map Node.c)) (by simp))).1; simpa using this) (a0_.nodes) 0 (z1_3) rfl h)))
  have h := den_some h
  subst h
  exact AW_go (n := 2000) [[none]] [] (.ret (D.int .i64 (z2_3))) [] hΓ mix (by kernel_rfl) trivial (by first | rfl | (simp only [List.map_append, List.map_cons, List.map_nil, List.map_set] <;> rfl))

end Go.Cx
