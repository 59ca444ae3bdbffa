/- What functions of the program compute, and the walks that show it. No condition. -/
import Derived.Test.YtombnhdljkfobaaNData
namespace Go.Cx
open Go.RowKit Go.Proofs
def d_laws_toStringS_L1 (a0_ : List Bytes) (k1 : List Bytes → Option (List Bytes)) : List Bytes → Nat → List Bytes → Option (List Bytes)
  | [], i1, w1_0 => (k1 (w1_0))
  | x1_ :: xs1, i1, w1_0 => (bif decide (i1 < ((w1_0).map tx).length) then (((w1_0)[i1]?).bind fun x30 => (d_laws_toStringS_L1 a0_ k1 xs1 (i1 + 1) ((w1_0).set i1 x1_))) else none)

def d_laws_toStringS (a0_ : List Bytes) : Option (List Bytes) := (bif roomM ((((a0_).map tx).length : Int)) 16 then (d_laws_toStringS_L1 a0_ (fun (q1_0 : List Bytes) => (some (q1_0))) (a0_) 0 (List.replicate ((((a0_).map tx).length : Int)).toNat ([] : Bytes))) else none)
set_option maxRecDepth 100000 in
set_option linter.unusedVariables false in
theorem d_laws_toStringS_L1w {Γ : Ctx} (hΓ : Γ.nt = 22) {N : Nat → St → Prop} {a0_ : List Bytes} {r : List Bytes} {k1 : List Bytes → Option (List Bytes)} (hE1 : ∀ (q1_0 : List Bytes), k1 q1_0 = some r → AW Try.prog Γ (dig (bodyOf Try.f68) [1, 1, 1] []).1 (KQ Try.prog Γ N (RetQ Try.prog Try.f68 (D.fr 9 1 ((r).map tx))) (dig (bodyOf Try.f68) [1, 1, 1] []).2) ⟨[(3, D.acc 0)], [Ob.row .uq 9 1 ((q1_0).map tx)]⟩) (hm1 : (a0_).length ≤ maxLen) : ∀ (rest : List Bytes) (i1 : Nat) (w1_0 : List Bytes), (a0_).drop i1 = rest → d_laws_toStringS_L1 a0_ k1 rest i1 w1_0 = some r → AWr Try.prog Γ (dig (bodyOf Try.f68) [1, 1, 0, 1, 0, 0] []).1 (KQ Try.prog Γ N (RetQ Try.prog Try.f68 (D.fr 9 1 ((r).map tx))) (dig (bodyOf Try.f68) [1, 1, 0, 1, 0] []).2) (rest.length + 1) ⟨[(0, D.sl ((a0_).map tx)), (3, D.acc 0), (4, D.int .i64 ((i1 : Int)))], [Ob.row .uq 9 1 ((w1_0).map tx)]⟩ := by
  intro rest
  induction rest with
  | nil =>
    intro i1 w1_0 hd1 h
    rw [d_laws_toStringS_L1] at h
    refine AWr_succ fun N1 hN1 hS1 => ?_
    have t := AW_N (N := N) (N' := N1) (K0 := (dig (bodyOf Try.f68) [1, 1, 0, 1, 0] []).2) (by kernel_rfl) hN1 (hE1 (w1_0) h)
    refine AW_go (n := 2000) [[some (9, 1)]] [.b false, .hl 0 [3] [0]] (.at_ (dig (bodyOf Try.f68) [1, 1, 1] []).1 (dig (bodyOf Try.f68) [1, 1, 1] []).2 ⟨[(3, D.acc 0)], [Ob.row .uq 9 1 ((w1_0).map tx)]⟩) [(decide (((i1 : Int) : Int) < ((((a0_).map tx).length : Int)))) = false] hΓ mix (by kernel_rfl) ⟨((by rw [List.length_map]; exact lt_false (drop_nil hd1))), trivial⟩ ?_
    first | exact t | (simp only [List.map_append, List.map_cons, List.map_nil, List.map_set] at t ⊢; exact t)
  | cons x1_ xs1 ih1 =>
    intro i1 w1_0 hd1 h
    rw [d_laws_toStringS_L1] at h
    refine AWr_succ fun N1 hN1 hS1 => ?_
    obtain ⟨h29, h⟩ := den_ok h
    obtain ⟨x30, h31, h⟩ := den_bind h
    have t := ih1 (i1 + 1) ((w1_0).set i1 x1_) (drop_cons hd1).2.2 h
    refine AW_go (n := 2000) [[some (9, 1)]] [.b true, .row [D.str (x1_)], .ix i1, .row [D.str (x30)], .cn [0, 3, 4] [0]] (.cont 0 ⟨[(0, D.sl ((a0_).map tx)), (3, D.acc 0), (4, D.int .i64 (IntKind.i64.wrap (((i1 : Int)) + (1))))], [Ob.row .uq 9 1 (((w1_0).map tx).set i1 [D.str (x1_)])]⟩) [(decide (((i1 : Int) : Int) < ((((a0_).map tx).length : Int)))) = true, 0 ≤ ((i1 : Int)) ∧ ((a0_).map tx)[((i1 : Int)).toNat]? = some [D.str (x1_)] ∧ ([D.str (x1_)] : List D).length = 1, 1 = 1 ∧ ((i1 : Int)) = ((i1 : Nat) : Int) ∧ i1 < ((w1_0).map tx).length, ((w1_0).map tx)[i1]? = some [D.str (x30)]] hΓ mix (by kernel_rfl) ⟨((by rw [List.length_map]; exact lt_true (drop_cons hd1).2.1)), (⟨(map_at tx (drop_cons hd1).1).1, (map_at tx (drop_cons hd1).1).2, rfl⟩), (⟨rfl, rfl, of_decide_eq_true h29⟩), (map_get tx h31), trivial⟩ ?_
    refine (congrFun hS1 _).mpr ?_
    rw [i64_succ (drop_cons hd1).2.1 hm1]
    first | exact t | (simp only [List.map_append, List.map_cons, List.map_nil, List.map_set] at t ⊢; exact t)

set_option maxRecDepth 100000 in
set_option linter.unusedVariables false in
theorem d_laws_toStringS_good {a0_ : List Bytes} {r : List Bytes} (h : d_laws_toStringS a0_ = some r) : Good Try.prog 68 [D.sl ((a0_).map tx)] (D.fr 9 1 ((r).map tx)) := by
  refine Good.of (c := bodyOf Try.f68) Try.func68 rfl (by decide) (by simp [Try.f68]) ?_
  intro hr Γ hΓ
  have hΓ : Γ.nt = 22 := hΓ
  rw [d_laws_toStringS] at h
  refine (show AW Try.prog Γ (bodyOf Try.f68) (KQ Try.prog Γ (fun _ _ => False) (RetQ Try.prog Try.f68 (D.fr 9 1 ((r).map tx))) []) _ from ?_)
  obtain ⟨h1, h⟩ := den_ok h
  refine AW_go (n := 2000) [[some (9, 1)]] [.cn [0, 3, 4] [0]] (.lp (dig (bodyOf Try.f68) [1, 1, 0, 1, 0, 0] []).1 (dig (bodyOf Try.f68) [1, 1, 0, 1, 0] []).2 ⟨[(0, D.sl ((a0_).map tx)), (3, D.acc 0), (4, D.int .i64 (0))], [Ob.row .uq 9 1 (List.replicate ((((a0_).map tx).length : Int)).toNat [D.str ([])])]⟩) [((((a0_).map tx).length : Int) : Int) = ((((a0_).map tx).length : Int)) ∧ 0 ≤ ((((a0_).map tx).length : Int) : Int) ∧ 16 * ((((a0_).map tx).length : Int) : Int).toNat ≤ 281474976710656 ∧ ((((a0_).map tx).length : Int) : Int).toNat ≤ 4611686018427387904] hΓ mix (by kernel_rfl) ⟨(roomM_ok h1), trivial⟩ (AW_st (by first | rfl | (simp only [List.map_append, List.map_cons, List.map_nil, List.map_set, List.map_replicate] <;> rfl)) (AW_of_r (d_laws_toStringS_L1w hΓ (fun q1_0 h => ?_) (by have := (Rdb.sl (hr _ (List.mem_of_getElem? (i := 0) rfl))).1; simpa using this) (a0_) 0 (List.replicate ((((a0_).map tx).length : Int)).toNat ([] : Bytes)) rfl h)))
  have h := den_some h
  subst h
  exact AW_go (n := 2000) [[some (9, 1)]] [] (.ret (D.fr 9 1 ((q1_0).map tx))) [] hΓ mix (by kernel_rfl) trivial (by first | rfl | (simp only [List.map_append, List.map_cons, List.map_nil, List.map_set] <;> rfl))

def d_laws_toPattern (a0_ : Fact) : Option Fact := ((d_laws_toStringS (a0_.args)).bind fun y1 => (some ((⟨a0_.rel, y1⟩ : Fact))))
set_option maxRecDepth 100000 in
set_option linter.unusedVariables false in
theorem d_laws_toPattern_good {a0_ : Fact} {r : Fact} (h : d_laws_toPattern a0_ = some r) : Good Try.prog 65 [D.agg [D.str (a0_.rel), D.sl ((a0_.args).map tx)]] (D.agg [D.str (r.rel), D.fr 9 1 ((r.args).map tx)]) := by
  refine Good.of (c := bodyOf Try.f65) Try.func65 rfl (by decide) (by simp [Try.f65]) ?_
  intro hr Γ hΓ
  have hΓ : Γ.nt = 12 := hΓ
  rw [d_laws_toPattern] at h
  refine (show AW Try.prog Γ (bodyOf Try.f65) (KQ Try.prog Γ (fun _ _ => False) (RetQ Try.prog Try.f65 (D.agg [D.str (r.rel), D.fr 9 1 ((r.args).map tx)])) []) _ from ?_)
  obtain ⟨y1, h2, h⟩ := den_bind h
  have h := den_some h
  subst h
  exact AW_go (n := 2000) [[none, some (9, 1)]] [.d (D.fr 9 1 ((y1).map tx))] (.ret (D.agg [D.str (a0_.rel), D.fr 9 1 ((y1).map tx)])) [Good Try.prog 68 [D.sl ((a0_.args).map tx)] (D.fr 9 1 ((y1).map tx))] hΓ mix (by kernel_rfl) ⟨(d_laws_toStringS_good h2), trivial⟩ (by first | rfl | (simp only [List.map_append, List.map_cons, List.map_nil, List.map_set] <;> rfl))

def d_laws_toCond (a0_ : Cond) : Option Cond := ((d_laws_toPattern (a0_.pat)).bind fun y1 => (some ((⟨a0_.kind, y1, a0_.left, a0_.right⟩ : Cond))))
set_option maxRecDepth 100000 in
set_option linter.unusedVariables false in
theorem d_laws_toCond_good {a0_ : Cond} {r : Cond} (h : d_laws_toCond a0_ = some r) : Good Try.prog 66 [D.agg [D.int .i64 (a0_.kind), D.str (a0_.pat.rel), D.sl ((a0_.pat.args).map tx), D.str (a0_.left), D.str (a0_.right)]] (D.agg [D.int .i64 (r.kind), D.str (r.pat.rel), D.fr 9 1 ((r.pat.args).map tx), D.str (r.left), D.str (r.right)]) := by
  refine Good.of (c := bodyOf Try.f66) Try.func66 rfl (by decide) (by simp [Try.f66]) ?_
  intro hr Γ hΓ
  have hΓ : Γ.nt = 18 := hΓ
  rw [d_laws_toCond] at h
  refine (show AW Try.prog Γ (bodyOf Try.f66) (KQ Try.prog Γ (fun _ _ => False) (RetQ Try.prog Try.f66 (D.agg [D.int .i64 (r.kind), D.str (r.pat.rel), D.fr 9 1 ((r.pat.args).map tx), D.str (r.left), D.str (r.right)])) []) _ from ?_)
  obtain ⟨y1, h2, h⟩ := den_bind h
  have h := den_some h
  subst h
  exact AW_go (n := 2000) [[none, none, some (9, 1), none, none]] [.d (D.agg [D.str (y1.rel), D.fr 9 1 ((y1.args).map tx)])] (.ret (D.agg [D.int .i64 (a0_.kind), D.str (y1.rel), D.fr 9 1 ((y1.args).map tx), D.str (a0_.left), D.str (a0_.right)])) [Good Try.prog 65 [D.agg [D.str (a0_.pat.rel), D.sl ((a0_.pat.args).map tx)]] (D.agg [D.str (y1.rel), D.fr 9 1 ((y1.args).map tx)])] hΓ mix (by kernel_rfl) ⟨(d_laws_toPattern_good h2), trivial⟩ (by first | rfl | (simp only [List.map_append, List.map_cons, List.map_nil, List.map_set] <;> rfl))

def d_laws_toCondS_L1 (a0_ : List Cond) (k1 : List Cond → Option (List Cond)) : List Cond → Nat → List Cond → Option (List Cond)
  | [], i1, w1_0 => (k1 (w1_0))
  | x1_ :: xs1, i1, w1_0 => ((d_laws_toCond (x1_)).bind fun y41 => (bif decide (i1 < ((w1_0).map Cond.c).length) then (((w1_0)[i1]?).bind fun x44 => (d_laws_toCondS_L1 a0_ k1 xs1 (i1 + 1) ((w1_0).set i1 y41))) else none))

def d_laws_toCondS (a0_ : List Cond) : Option (List Cond) := (bif roomM ((((a0_).map Cond.c).length : Int)) 80 then (d_laws_toCondS_L1 a0_ (fun (q1_0 : List Cond) => (some (q1_0))) (a0_) 0 (List.replicate ((((a0_).map Cond.c).length : Int)).toNat (⟨(0 : Int), (⟨([] : Bytes), []⟩ : Fact), ([] : Bytes), ([] : Bytes)⟩ : Cond))) else none)
set_option maxRecDepth 100000 in
set_option linter.unusedVariables false in
theorem d_laws_toCondS_L1w {Γ : Ctx} (hΓ : Γ.nt = 23) {N : Nat → St → Prop} {a0_ : List Cond} {r : List Cond} {k1 : List Cond → Option (List Cond)} (hE1 : ∀ (q1_0 : List Cond), k1 q1_0 = some r → AW Try.prog Γ (dig (bodyOf Try.f63) [1, 1, 1] []).1 (KQ Try.prog Γ N (RetQ Try.prog Try.f63 (D.fr 52 5 ((r).map Cond.c))) (dig (bodyOf Try.f63) [1, 1, 1] []).2) ⟨[(3, D.acc 0)], [Ob.row .uq 52 5 ((q1_0).map Cond.c)]⟩) (hm1 : (a0_).length ≤ maxLen) : ∀ (rest : List Cond) (i1 : Nat) (w1_0 : List Cond), (a0_).drop i1 = rest → d_laws_toCondS_L1 a0_ k1 rest i1 w1_0 = some r → AWr Try.prog Γ (dig (bodyOf Try.f63) [1, 1, 0, 1, 0, 0] []).1 (KQ Try.prog Γ N (RetQ Try.prog Try.f63 (D.fr 52 5 ((r).map Cond.c))) (dig (bodyOf Try.f63) [1, 1, 0, 1, 0] []).2) (rest.length + 1) ⟨[(0, D.sl ((a0_).map Cond.c)), (3, D.acc 0), (4, D.int .i64 ((i1 : Int)))], [Ob.row .uq 52 5 ((w1_0).map Cond.c)]⟩ := by
  intro rest
  induction rest with
  | nil =>
    intro i1 w1_0 hd1 h
    rw [d_laws_toCondS_L1] at h
    refine AWr_succ fun N1 hN1 hS1 => ?_
    have t := AW_N (N := N) (N' := N1) (K0 := (dig (bodyOf Try.f63) [1, 1, 0, 1, 0] []).2) (by kernel_rfl) hN1 (hE1 (w1_0) h)
    refine AW_go (n := 2000) [[some (52, 5)]] [.b false, .hl 0 [3] [0]] (.at_ (dig (bodyOf Try.f63) [1, 1, 1] []).1 (dig (bodyOf Try.f63) [1, 1, 1] []).2 ⟨[(3, D.acc 0)], [Ob.row .uq 52 5 ((w1_0).map Cond.c)]⟩) [(decide (((i1 : Int) : Int) < ((((a0_).map Cond.c).length : Int)))) = false] hΓ mix (by kernel_rfl) ⟨((by rw [List.length_map]; exact lt_false (drop_nil hd1))), trivial⟩ ?_
    first | exact t | (simp only [List.map_append, List.map_cons, List.map_nil, List.map_set] at t ⊢; exact t)
  | cons x1_ xs1 ih1 =>
    intro i1 w1_0 hd1 h
    rw [d_laws_toCondS_L1] at h
    refine AWr_succ fun N1 hN1 hS1 => ?_
    obtain ⟨y41, h42, h⟩ := den_bind h
    obtain ⟨h43, h⟩ := den_ok h
    obtain ⟨x44, h45, h⟩ := den_bind h
    have t := ih1 (i1 + 1) ((w1_0).set i1 y41) (drop_cons hd1).2.2 h
    refine AW_go (n := 2000) [[some (52, 5)]] [.b true, .row [D.int .i64 (x1_.kind), D.str (x1_.pat.rel), D.sl ((x1_.pat.args).map tx), D.str (x1_.left), D.str (x1_.right)], .d (D.agg [D.int .i64 (y41.kind), D.str (y41.pat.rel), D.fr 9 1 ((y41.pat.args).map tx), D.str (y41.left), D.str (y41.right)]), .ix i1, .row [D.int .i64 (x44.kind), D.str (x44.pat.rel), D.sl ((x44.pat.args).map tx), D.str (x44.left), D.str (x44.right)], .cn [0, 3, 4] [0]] (.cont 0 ⟨[(0, D.sl ((a0_).map Cond.c)), (3, D.acc 0), (4, D.int .i64 (IntKind.i64.wrap (((i1 : Int)) + (1))))], [Ob.row .uq 52 5 (((w1_0).map Cond.c).set i1 [D.int .i64 (y41.kind), D.str (y41.pat.rel), D.sl ((y41.pat.args).map tx), D.str (y41.left), D.str (y41.right)])]⟩) [(decide (((i1 : Int) : Int) < ((((a0_).map Cond.c).length : Int)))) = true, 0 ≤ ((i1 : Int)) ∧ ((a0_).map Cond.c)[((i1 : Int)).toNat]? = some [D.int .i64 (x1_.kind), D.str (x1_.pat.rel), D.sl ((x1_.pat.args).map tx), D.str (x1_.left), D.str (x1_.right)] ∧ ([D.int .i64 (x1_.kind), D.str (x1_.pat.rel), D.sl ((x1_.pat.args).map tx), D.str (x1_.left), D.str (x1_.right)] : List D).length = 5, Good Try.prog 66 [D.agg [D.int .i64 (x1_.kind), D.str (x1_.pat.rel), D.sl ((x1_.pat.args).map tx), D.str (x1_.left), D.str (x1_.right)]] (D.agg [D.int .i64 (y41.kind), D.str (y41.pat.rel), D.fr 9 1 ((y41.pat.args).map tx), D.str (y41.left), D.str (y41.right)]), 5 = 5 ∧ ((i1 : Int)) = ((i1 : Nat) : Int) ∧ i1 < ((w1_0).map Cond.c).length, ((w1_0).map Cond.c)[i1]? = some [D.int .i64 (x44.kind), D.str (x44.pat.rel), D.sl ((x44.pat.args).map tx), D.str (x44.left), D.str (x44.right)]] hΓ mix (by kernel_rfl) ⟨((by rw [List.length_map]; exact lt_true (drop_cons hd1).2.1)), (⟨(map_at Cond.c (drop_cons hd1).1).1, (map_at Cond.c (drop_cons hd1).1).2, rfl⟩), (d_laws_toCond_good h42), (⟨rfl, rfl, of_decide_eq_true h43⟩), (map_get Cond.c h45), trivial⟩ ?_
    refine (congrFun hS1 _).mpr ?_
    rw [i64_succ (drop_cons hd1).2.1 hm1]
    first | exact t | (simp only [List.map_append, List.map_cons, List.map_nil, List.map_set] at t ⊢; exact t)

set_option maxRecDepth 100000 in
set_option linter.unusedVariables false in
theorem d_laws_toCondS_good {a0_ : List Cond} {r : List Cond} (h : d_laws_toCondS a0_ = some r) : Good Try.prog 63 [D.sl ((a0_).map Cond.c)] (D.fr 52 5 ((r).map Cond.c)) := by
  refine Good.of (c := bodyOf Try.f63) Try.func63 rfl (by decide) (by simp [Try.f63]) ?_
  intro hr Γ hΓ
  have hΓ : Γ.nt = 23 := hΓ
  rw [d_laws_toCondS] at h
  refine (show AW Try.prog Γ (bodyOf Try.f63) (KQ Try.prog Γ (fun _ _ => False) (RetQ Try.prog Try.f63 (D.fr 52 5 ((r).map Cond.c))) []) _ from ?_)
  obtain ⟨h1, h⟩ := den_ok h
  refine AW_go (n := 2000) [[some (52, 5)]] [.cn [0, 3, 4] [0]] (.lp (dig (bodyOf Try.f63) [1, 1, 0, 1, 0, 0] []).1 (dig (bodyOf Try.f63) [1, 1, 0, 1, 0] []).2 ⟨[(0, D.sl ((a0_).map Cond.c)), (3, D.acc 0), (4, D.int .i64 (0))], [Ob.row .uq 52 5 (List.replicate ((((a0_).map Cond.c).length : Int)).toNat [D.int .i64 (0), D.str ([]), D.sl ([]), D.str ([]), D.str ([])])]⟩) [((((a0_).map Cond.c).length : Int) : Int) = ((((a0_).map Cond.c).length : Int)) ∧ 0 ≤ ((((a0_).map Cond.c).length : Int) : Int) ∧ 80 * ((((a0_).map Cond.c).length : Int) : Int).toNat ≤ 281474976710656 ∧ ((((a0_).map Cond.c).length : Int) : Int).toNat ≤ 4611686018427387904] hΓ mix (by kernel_rfl) ⟨(roomM_ok h1), trivial⟩ (AW_st (by first | rfl | (simp only [List.map_append, List.map_cons, List.map_nil, List.map_set, List.map_replicate] <;> rfl)) (AW_of_r (d_laws_toCondS_L1w hΓ (fun q1_0 h => ?_) (by have := (Rdb.sl (hr _ (List.mem_of_getElem? (i := 0) rfl))).1; simpa using this) (a0_) 0 (List.replicate ((((a0_).map Cond.c).length : Int)).toNat (⟨(0 : Int), (⟨([] : Bytes), []⟩ : Fact), ([] : Bytes), ([] : Bytes)⟩ : Cond)) rfl h)))
  have h := den_some h
  subst h
  exact AW_go (n := 2000) [[some (52, 5)]] [] (.ret (D.fr 52 5 ((q1_0).map Cond.c))) [] hΓ mix (by kernel_rfl) trivial (by first | rfl | (simp only [List.map_append, List.map_cons, List.map_nil, List.map_set] <;> rfl))

def d_laws_toAction (a0_ : Action) : Option Action := ((d_laws_toPattern (a0_.pat)).bind fun y1 => (some ((⟨a0_.kind, y1⟩ : Action))))
set_option maxRecDepth 100000 in
set_option linter.unusedVariables false in
theorem d_laws_toAction_good {a0_ : Action} {r : Action} (h : d_laws_toAction a0_ = some r) : Good Try.prog 78 [D.agg [D.int .i64 (a0_.kind), D.str (a0_.pat.rel), D.sl ((a0_.pat.args).map tx)]] (D.agg [D.int .i64 (r.kind), D.str (r.pat.rel), D.fr 9 1 ((r.pat.args).map tx)]) := by
  refine Good.of (c := bodyOf Try.f78) Try.func78 rfl (by decide) (by simp [Try.f78]) ?_
  intro hr Γ hΓ
  have hΓ : Γ.nt = 12 := hΓ
  rw [d_laws_toAction] at h
  refine (show AW Try.prog Γ (bodyOf Try.f78) (KQ Try.prog Γ (fun _ _ => False) (RetQ Try.prog Try.f78 (D.agg [D.int .i64 (r.kind), D.str (r.pat.rel), D.fr 9 1 ((r.pat.args).map tx)])) []) _ from ?_)
  obtain ⟨y1, h2, h⟩ := den_bind h
  have h := den_some h
  subst h
  exact AW_go (n := 2000) [[none, none, some (9, 1)]] [.d (D.agg [D.str (y1.rel), D.fr 9 1 ((y1.args).map tx)])] (.ret (D.agg [D.int .i64 (a0_.kind), D.str (y1.rel), D.fr 9 1 ((y1.args).map tx)])) [Good Try.prog 65 [D.agg [D.str (a0_.pat.rel), D.sl ((a0_.pat.args).map tx)]] (D.agg [D.str (y1.rel), D.fr 9 1 ((y1.args).map tx)])] hΓ mix (by kernel_rfl) ⟨(d_laws_toPattern_good h2), trivial⟩ (by first | rfl | (simp only [List.map_append, List.map_cons, List.map_nil, List.map_set] <;> rfl))

def d_laws_toActionS_L1 (a0_ : List Action) (k1 : List Action → Option (List Action)) : List Action → Nat → List Action → Option (List Action)
  | [], i1, w1_0 => (k1 (w1_0))
  | x1_ :: xs1, i1, w1_0 => ((d_laws_toAction (x1_)).bind fun y41 => (bif decide (i1 < ((w1_0).map Action.c).length) then (((w1_0)[i1]?).bind fun x44 => (d_laws_toActionS_L1 a0_ k1 xs1 (i1 + 1) ((w1_0).set i1 y41))) else none))

def d_laws_toActionS (a0_ : List Action) : Option (List Action) := (bif roomM ((((a0_).map Action.c).length : Int)) 48 then (d_laws_toActionS_L1 a0_ (fun (q1_0 : List Action) => (some (q1_0))) (a0_) 0 (List.replicate ((((a0_).map Action.c).length : Int)).toNat (⟨(0 : Int), (⟨([] : Bytes), []⟩ : Fact)⟩ : Action))) else none)
set_option maxRecDepth 100000 in
set_option linter.unusedVariables false in
theorem d_laws_toActionS_L1w {Γ : Ctx} (hΓ : Γ.nt = 23) {N : Nat → St → Prop} {a0_ : List Action} {r : List Action} {k1 : List Action → Option (List Action)} (hE1 : ∀ (q1_0 : List Action), k1 q1_0 = some r → AW Try.prog Γ (dig (bodyOf Try.f64) [1, 1, 1] []).1 (KQ Try.prog Γ N (RetQ Try.prog Try.f64 (D.fr 100 3 ((r).map Action.c))) (dig (bodyOf Try.f64) [1, 1, 1] []).2) ⟨[(3, D.acc 0)], [Ob.row .uq 100 3 ((q1_0).map Action.c)]⟩) (hm1 : (a0_).length ≤ maxLen) : ∀ (rest : List Action) (i1 : Nat) (w1_0 : List Action), (a0_).drop i1 = rest → d_laws_toActionS_L1 a0_ k1 rest i1 w1_0 = some r → AWr Try.prog Γ (dig (bodyOf Try.f64) [1, 1, 0, 1, 0, 0] []).1 (KQ Try.prog Γ N (RetQ Try.prog Try.f64 (D.fr 100 3 ((r).map Action.c))) (dig (bodyOf Try.f64) [1, 1, 0, 1, 0] []).2) (rest.length + 1) ⟨[(0, D.sl ((a0_).map Action.c)), (3, D.acc 0), (4, D.int .i64 ((i1 : Int)))], [Ob.row .uq 100 3 ((w1_0).map Action.c)]⟩ := by
  intro rest
  induction rest with
  | nil =>
    intro i1 w1_0 hd1 h
    rw [d_laws_toActionS_L1] at h
    refine AWr_succ fun N1 hN1 hS1 => ?_
    have t := AW_N (N := N) (N' := N1) (K0 := (dig (bodyOf Try.f64) [1, 1, 0, 1, 0] []).2) (by kernel_rfl) hN1 (hE1 (w1_0) h)
    refine AW_go (n := 2000) [[some (100, 3)]] [.b false, .hl 0 [3] [0]] (.at_ (dig (bodyOf Try.f64) [1, 1, 1] []).1 (dig (bodyOf Try.f64) [1, 1, 1] []).2 ⟨[(3, D.acc 0)], [Ob.row .uq 100 3 ((w1_0).map Action.c)]⟩) [(decide (((i1 : Int) : Int) < ((((a0_).map Action.c).length : Int)))) = false] hΓ mix (by kernel_rfl) ⟨((by rw [List.length_map]; exact lt_false (drop_nil hd1))), trivial⟩ ?_
    first | exact t | (simp only [List.map_append, List.map_cons, List.map_nil, List.map_set] at t ⊢; exact t)
  | cons x1_ xs1 ih1 =>
    intro i1 w1_0 hd1 h
    rw [d_laws_toActionS_L1] at h
    refine AWr_succ fun N1 hN1 hS1 => ?_
    obtain ⟨y41, h42, h⟩ := den_bind h
    obtain ⟨h43, h⟩ := den_ok h
    obtain ⟨x44, h45, h⟩ := den_bind h
    have t := ih1 (i1 + 1) ((w1_0).set i1 y41) (drop_cons hd1).2.2 h
    refine AW_go (n := 2000) [[some (100, 3)]] [.b true, .row [D.int .i64 (x1_.kind), D.str (x1_.pat.rel), D.sl ((x1_.pat.args).map tx)], .d (D.agg [D.int .i64 (y41.kind), D.str (y41.pat.rel), D.fr 9 1 ((y41.pat.args).map tx)]), .ix i1, .row [D.int .i64 (x44.kind), D.str (x44.pat.rel), D.sl ((x44.pat.args).map tx)], .cn [0, 3, 4] [0]] (.cont 0 ⟨[(0, D.sl ((a0_).map Action.c)), (3, D.acc 0), (4, D.int .i64 (IntKind.i64.wrap (((i1 : Int)) + (1))))], [Ob.row .uq 100 3 (((w1_0).map Action.c).set i1 [D.int .i64 (y41.kind), D.str (y41.pat.rel), D.sl ((y41.pat.args).map tx)])]⟩) [(decide (((i1 : Int) : Int) < ((((a0_).map Action.c).length : Int)))) = true, 0 ≤ ((i1 : Int)) ∧ ((a0_).map Action.c)[((i1 : Int)).toNat]? = some [D.int .i64 (x1_.kind), D.str (x1_.pat.rel), D.sl ((x1_.pat.args).map tx)] ∧ ([D.int .i64 (x1_.kind), D.str (x1_.pat.rel), D.sl ((x1_.pat.args).map tx)] : List D).length = 3, Good Try.prog 78 [D.agg [D.int .i64 (x1_.kind), D.str (x1_.pat.rel), D.sl ((x1_.pat.args).map tx)]] (D.agg [D.int .i64 (y41.kind), D.str (y41.pat.rel), D.fr 9 1 ((y41.pat.args).map tx)]), 3 = 3 ∧ ((i1 : Int)) = ((i1 : Nat) : Int) ∧ i1 < ((w1_0).map Action.c).length, ((w1_0).map Action.c)[i1]? = some [D.int .i64 (x44.kind), D.str (x44.pat.rel), D.sl ((x44.pat.args).map tx)]] hΓ mix (by kernel_rfl) ⟨((by rw [List.length_map]; exact lt_true (drop_cons hd1).2.1)), (⟨(map_at Action.c (drop_cons hd1).1).1, (map_at Action.c (drop_cons hd1).1).2, rfl⟩), (d_laws_toAction_good h42), (⟨rfl, rfl, of_decide_eq_true h43⟩), (map_get Action.c h45), trivial⟩ ?_
    refine (congrFun hS1 _).mpr ?_
    rw [i64_succ (drop_cons hd1).2.1 hm1]
    first | exact t | (simp only [List.map_append, List.map_cons, List.map_nil, List.map_set] at t ⊢; exact t)

set_option maxRecDepth 100000 in
set_option linter.unusedVariables false in
theorem d_laws_toActionS_good {a0_ : List Action} {r : List Action} (h : d_laws_toActionS a0_ = some r) : Good Try.prog 64 [D.sl ((a0_).map Action.c)] (D.fr 100 3 ((r).map Action.c)) := by
  refine Good.of (c := bodyOf Try.f64) Try.func64 rfl (by decide) (by simp [Try.f64]) ?_
  intro hr Γ hΓ
  have hΓ : Γ.nt = 23 := hΓ
  rw [d_laws_toActionS] at h
  refine (show AW Try.prog Γ (bodyOf Try.f64) (KQ Try.prog Γ (fun _ _ => False) (RetQ Try.prog Try.f64 (D.fr 100 3 ((r).map Action.c))) []) _ from ?_)
  obtain ⟨h1, h⟩ := den_ok h
  refine AW_go (n := 2000) [[some (100, 3)]] [.cn [0, 3, 4] [0]] (.lp (dig (bodyOf Try.f64) [1, 1, 0, 1, 0, 0] []).1 (dig (bodyOf Try.f64) [1, 1, 0, 1, 0] []).2 ⟨[(0, D.sl ((a0_).map Action.c)), (3, D.acc 0), (4, D.int .i64 (0))], [Ob.row .uq 100 3 (List.replicate ((((a0_).map Action.c).length : Int)).toNat [D.int .i64 (0), D.str ([]), D.sl ([])])]⟩) [((((a0_).map Action.c).length : Int) : Int) = ((((a0_).map Action.c).length : Int)) ∧ 0 ≤ ((((a0_).map Action.c).length : Int) : Int) ∧ 48 * ((((a0_).map Action.c).length : Int) : Int).toNat ≤ 281474976710656 ∧ ((((a0_).map Action.c).length : Int) : Int).toNat ≤ 4611686018427387904] hΓ mix (by kernel_rfl) ⟨(roomM_ok h1), trivial⟩ (AW_st (by first | rfl | (simp only [List.map_append, List.map_cons, List.map_nil, List.map_set, List.map_replicate] <;> rfl)) (AW_of_r (d_laws_toActionS_L1w hΓ (fun q1_0 h => ?_) (by have := (Rdb.sl (hr _ (List.mem_of_getElem? (i := 0) rfl))).1; simpa using this) (a0_) 0 (List.replicate ((((a0_).map Action.c).length : Int)).toNat (⟨(0 : Int), (⟨([] : Bytes), []⟩ : Fact)⟩ : Action)) rfl h)))
  have h := den_some h
  subst h
  exact AW_go (n := 2000) [[some (100, 3)]] [] (.ret (D.fr 100 3 ((q1_0).map Action.c))) [] hΓ mix (by kernel_rfl) trivial (by first | rfl | (simp only [List.map_append, List.map_cons, List.map_nil, List.map_set] <;> rfl))

def d_laws_toRule (a0_ : Rule) : Option Rule := ((d_laws_toCondS (a0_.conds)).bind fun y1 => ((d_laws_toActionS (a0_.acts)).bind fun y3 => (some ((⟨a0_.name, a0_.prio, y1, y3⟩ : Rule)))))
set_option maxRecDepth 100000 in
set_option linter.unusedVariables false in
theorem d_laws_toRule_good {a0_ : Rule} {r : Rule} (h : d_laws_toRule a0_ = some r) : Good Try.prog 41 [D.agg [D.str (a0_.name), D.int .i64 (a0_.prio), D.sl ((a0_.conds).map Cond.c), D.sl ((a0_.acts).map Action.c)]] (D.agg [D.str (r.name), D.int .i64 (r.prio), D.fr 52 5 ((r.conds).map Cond.c), D.fr 100 3 ((r.acts).map Action.c)]) := by
  refine Good.of (c := bodyOf Try.f41) Try.func41 rfl (by decide) (by simp [Try.f41]) ?_
  intro hr Γ hΓ
  have hΓ : Γ.nt = 19 := hΓ
  rw [d_laws_toRule] at h
  refine (show AW Try.prog Γ (bodyOf Try.f41) (KQ Try.prog Γ (fun _ _ => False) (RetQ Try.prog Try.f41 (D.agg [D.str (r.name), D.int .i64 (r.prio), D.fr 52 5 ((r.conds).map Cond.c), D.fr 100 3 ((r.acts).map Action.c)])) []) _ from ?_)
  obtain ⟨y1, h2, h⟩ := den_bind h
  obtain ⟨y3, h4, h⟩ := den_bind h
  have h := den_some h
  subst h
  exact AW_go (n := 2000) [[none, none, some (52, 5), some (100, 3)]] [.d (D.fr 52 5 ((y1).map Cond.c)), .d (D.fr 100 3 ((y3).map Action.c))] (.ret (D.agg [D.str (a0_.name), D.int .i64 (a0_.prio), D.fr 52 5 ((y1).map Cond.c), D.fr 100 3 ((y3).map Action.c)])) [Good Try.prog 63 [D.sl ((a0_.conds).map Cond.c)] (D.fr 52 5 ((y1).map Cond.c)), Good Try.prog 64 [D.sl ((a0_.acts).map Action.c)] (D.fr 100 3 ((y3).map Action.c))] hΓ mix (by kernel_rfl) ⟨(d_laws_toCondS_good h2), (d_laws_toActionS_good h4), trivial⟩ (by first | rfl | (simp only [List.map_append, List.map_cons, List.map_nil, List.map_set] <;> rfl))

def d_laws_toRuleS_L1 (a0_ : List Rule) (k1 : List Rule → Option (List Rule)) : List Rule → Nat → List Rule → Option (List Rule)
  | [], i1, w1_0 => (k1 (w1_0))
  | x1_ :: xs1, i1, w1_0 => ((d_laws_toRule (x1_)).bind fun y41 => (bif decide (i1 < ((w1_0).map Rule.c).length) then (((w1_0)[i1]?).bind fun x44 => (d_laws_toRuleS_L1 a0_ k1 xs1 (i1 + 1) ((w1_0).set i1 y41))) else none))

def d_laws_toRuleS (a0_ : List Rule) : Option (List Rule) := (bif roomM ((((a0_).map Rule.c).length : Int)) 72 then (d_laws_toRuleS_L1 a0_ (fun (q1_0 : List Rule) => (some (q1_0))) (a0_) 0 (List.replicate ((((a0_).map Rule.c).length : Int)).toNat (⟨([] : Bytes), (0 : Int), [], []⟩ : Rule))) else none)
set_option maxRecDepth 100000 in
set_option linter.unusedVariables false in
theorem d_laws_toRuleS_L1w {Γ : Ctx} (hΓ : Γ.nt = 23) {N : Nat → St → Prop} {a0_ : List Rule} {r : List Rule} {k1 : List Rule → Option (List Rule)} (hE1 : ∀ (q1_0 : List Rule), k1 q1_0 = some r → AW Try.prog Γ (dig (bodyOf Try.f17) [1, 1, 1] []).1 (KQ Try.prog Γ N (RetQ Try.prog Try.f17 (D.fr 70 4 ((r).map Rule.c))) (dig (bodyOf Try.f17) [1, 1, 1] []).2) ⟨[(3, D.acc 0)], [Ob.row .uq 70 4 ((q1_0).map Rule.c)]⟩) (hm1 : (a0_).length ≤ maxLen) : ∀ (rest : List Rule) (i1 : Nat) (w1_0 : List Rule), (a0_).drop i1 = rest → d_laws_toRuleS_L1 a0_ k1 rest i1 w1_0 = some r → AWr Try.prog Γ (dig (bodyOf Try.f17) [1, 1, 0, 1, 0, 0] []).1 (KQ Try.prog Γ N (RetQ Try.prog Try.f17 (D.fr 70 4 ((r).map Rule.c))) (dig (bodyOf Try.f17) [1, 1, 0, 1, 0] []).2) (rest.length + 1) ⟨[(0, D.sl ((a0_).map Rule.c)), (3, D.acc 0), (4, D.int .i64 ((i1 : Int)))], [Ob.row .uq 70 4 ((w1_0).map Rule.c)]⟩ := by
  intro rest
  induction rest with
  | nil =>
    intro i1 w1_0 hd1 h
    rw [d_laws_toRuleS_L1] at h
    refine AWr_succ fun N1 hN1 hS1 => ?_
    have t := AW_N (N := N) (N' := N1) (K0 := (dig (bodyOf Try.f17) [1, 1, 0, 1, 0] []).2) (by kernel_rfl) hN1 (hE1 (w1_0) h)
    refine AW_go (n := 2000) [[some (70, 4)]] [.b false, .hl 0 [3] [0]] (.at_ (dig (bodyOf Try.f17) [1, 1, 1] []).1 (dig (bodyOf Try.f17) [1, 1, 1] []).2 ⟨[(3, D.acc 0)], [Ob.row .uq 70 4 ((w1_0).map Rule.c)]⟩) [(decide (((i1 : Int) : Int) < ((((a0_).map Rule.c).length : Int)))) = false] hΓ mix (by kernel_rfl) ⟨((by rw [List.length_map]; exact lt_false (drop_nil hd1))), trivial⟩ ?_
    first | exact t | (simp only [List.map_append, List.map_cons, List.map_nil, List.map_set] at t ⊢; exact t)
  | cons x1_ xs1 ih1 =>
    intro i1 w1_0 hd1 h
    rw [d_laws_toRuleS_L1] at h
    refine AWr_succ fun N1 hN1 hS1 => ?_
    obtain ⟨y41, h42, h⟩ := den_bind h
    obtain ⟨h43, h⟩ := den_ok h
    obtain ⟨x44, h45, h⟩ := den_bind h
    have t := ih1 (i1 + 1) ((w1_0).set i1 y41) (drop_cons hd1).2.2 h
    refine AW_go (n := 2000) [[some (70, 4)]] [.b true, .row [D.str (x1_.name), D.int .i64 (x1_.prio), D.sl ((x1_.conds).map Cond.c), D.sl ((x1_.acts).map Action.c)], .d (D.agg [D.str (y41.name), D.int .i64 (y41.prio), D.fr 52 5 ((y41.conds).map Cond.c), D.fr 100 3 ((y41.acts).map Action.c)]), .ix i1, .row [D.str (x44.name), D.int .i64 (x44.prio), D.sl ((x44.conds).map Cond.c), D.sl ((x44.acts).map Action.c)], .cn [0, 3, 4] [0]] (.cont 0 ⟨[(0, D.sl ((a0_).map Rule.c)), (3, D.acc 0), (4, D.int .i64 (IntKind.i64.wrap (((i1 : Int)) + (1))))], [Ob.row .uq 70 4 (((w1_0).map Rule.c).set i1 [D.str (y41.name), D.int .i64 (y41.prio), D.sl ((y41.conds).map Cond.c), D.sl ((y41.acts).map Action.c)])]⟩) [(decide (((i1 : Int) : Int) < ((((a0_).map Rule.c).length : Int)))) = true, 0 ≤ ((i1 : Int)) ∧ ((a0_).map Rule.c)[((i1 : Int)).toNat]? = some [D.str (x1_.name), D.int .i64 (x1_.prio), D.sl ((x1_.conds).map Cond.c), D.sl ((x1_.acts).map Action.c)] ∧ ([D.str (x1_.name), D.int .i64 (x1_.prio), D.sl ((x1_.conds).map Cond.c), D.sl ((x1_.acts).map Action.c)] : List D).length = 4, Good Try.prog 41 [D.agg [D.str (x1_.name), D.int .i64 (x1_.prio), D.sl ((x1_.conds).map Cond.c), D.sl ((x1_.acts).map Action.c)]] (D.agg [D.str (y41.name), D.int .i64 (y41.prio), D.fr 52 5 ((y41.conds).map Cond.c), D.fr 100 3 ((y41.acts).map Action.c)]), 4 = 4 ∧ ((i1 : Int)) = ((i1 : Nat) : Int) ∧ i1 < ((w1_0).map Rule.c).length, ((w1_0).map Rule.c)[i1]? = some [D.str (x44.name), D.int .i64 (x44.prio), D.sl ((x44.conds).map Cond.c), D.sl ((x44.acts).map Action.c)]] hΓ mix (by kernel_rfl) ⟨((by rw [List.length_map]; exact lt_true (drop_cons hd1).2.1)), (⟨(map_at Rule.c (drop_cons hd1).1).1, (map_at Rule.c (drop_cons hd1).1).2, rfl⟩), (d_laws_toRule_good h42), (⟨rfl, rfl, of_decide_eq_true h43⟩), (map_get Rule.c h45), trivial⟩ ?_
    refine (congrFun hS1 _).mpr ?_
    rw [i64_succ (drop_cons hd1).2.1 hm1]
    first | exact t | (simp only [List.map_append, List.map_cons, List.map_nil, List.map_set] at t ⊢; exact t)

set_option maxRecDepth 100000 in
set_option linter.unusedVariables false in
theorem d_laws_toRuleS_good {a0_ : List Rule} {r : List Rule} (h : d_laws_toRuleS a0_ = some r) : Good Try.prog 17 [D.sl ((a0_).map Rule.c)] (D.fr 70 4 ((r).map Rule.c)) := by
  refine Good.of (c := bodyOf Try.f17) Try.func17 rfl (by decide) (by simp [Try.f17]) ?_
  intro hr Γ hΓ
  have hΓ : Γ.nt = 23 := hΓ
  rw [d_laws_toRuleS] at h
  refine (show AW Try.prog Γ (bodyOf Try.f17) (KQ Try.prog Γ (fun _ _ => False) (RetQ Try.prog Try.f17 (D.fr 70 4 ((r).map Rule.c))) []) _ from ?_)
  obtain ⟨h1, h⟩ := den_ok h
  refine AW_go (n := 2000) [[some (70, 4)]] [.cn [0, 3, 4] [0]] (.lp (dig (bodyOf Try.f17) [1, 1, 0, 1, 0, 0] []).1 (dig (bodyOf Try.f17) [1, 1, 0, 1, 0] []).2 ⟨[(0, D.sl ((a0_).map Rule.c)), (3, D.acc 0), (4, D.int .i64 (0))], [Ob.row .uq 70 4 (List.replicate ((((a0_).map Rule.c).length : Int)).toNat [D.str ([]), D.int .i64 (0), D.sl ([]), D.sl ([])])]⟩) [((((a0_).map Rule.c).length : Int) : Int) = ((((a0_).map Rule.c).length : Int)) ∧ 0 ≤ ((((a0_).map Rule.c).length : Int) : Int) ∧ 72 * ((((a0_).map Rule.c).length : Int) : Int).toNat ≤ 281474976710656 ∧ ((((a0_).map Rule.c).length : Int) : Int).toNat ≤ 4611686018427387904] hΓ mix (by kernel_rfl) ⟨(roomM_ok h1), trivial⟩ (AW_st (by first | rfl | (simp only [List.map_append, List.map_cons, List.map_nil, List.map_set, List.map_replicate] <;> rfl)) (AW_of_r (d_laws_toRuleS_L1w hΓ (fun q1_0 h => ?_) (by have := (Rdb.sl (hr _ (List.mem_of_getElem? (i := 0) rfl))).1; simpa using this) (a0_) 0 (List.replicate ((((a0_).map Rule.c).length : Int)).toNat (⟨([] : Bytes), (0 : Int), [], []⟩ : Rule)) rfl h)))
  have h := den_some h
  subst h
  exact AW_go (n := 2000) [[some (70, 4)]] [] (.ret (D.fr 70 4 ((q1_0).map Rule.c))) [] hΓ mix (by kernel_rfl) trivial (by first | rfl | (simp only [List.map_append, List.map_cons, List.map_nil, List.map_set] <;> rfl))

def d_laws_toIntS_L1 (a0_ : List Int) (k1 : List Int → Option (List Int)) : List Int → Nat → List Int → Option (List Int)
  | [], i1, w1_0 => (k1 (w1_0))
  | x1_ :: xs1, i1, w1_0 => (bif decide (i1 < ((w1_0).map ixx).length) then (((w1_0)[i1]?).bind fun x30 => (d_laws_toIntS_L1 a0_ k1 xs1 (i1 + 1) ((w1_0).set i1 x1_))) else none)

def d_laws_toIntS (a0_ : List Int) : Option (List Int) := (bif roomM ((((a0_).map ixx).length : Int)) 8 then (d_laws_toIntS_L1 a0_ (fun (q1_0 : List Int) => (some (q1_0))) (a0_) 0 (List.replicate ((((a0_).map ixx).length : Int)).toNat (0 : Int))) else none)
set_option maxRecDepth 100000 in
set_option linter.unusedVariables false in
theorem d_laws_toIntS_L1w {Γ : Ctx} (hΓ : Γ.nt = 22) {N : Nat → St → Prop} {a0_ : List Int} {r : List Int} {k1 : List Int → Option (List Int)} (hE1 : ∀ (q1_0 : List Int), k1 q1_0 = some r → AW Try.prog Γ (dig (bodyOf Try.f18) [1, 1, 1] []).1 (KQ Try.prog Γ N (RetQ Try.prog Try.f18 (D.fr 3 1 ((r).map ixx))) (dig (bodyOf Try.f18) [1, 1, 1] []).2) ⟨[(3, D.acc 0)], [Ob.row .uq 3 1 ((q1_0).map ixx)]⟩) (hm1 : (a0_).length ≤ maxLen) : ∀ (rest : List Int) (i1 : Nat) (w1_0 : List Int), (a0_).drop i1 = rest → d_laws_toIntS_L1 a0_ k1 rest i1 w1_0 = some r → AWr Try.prog Γ (dig (bodyOf Try.f18) [1, 1, 0, 1, 0, 0] []).1 (KQ Try.prog Γ N (RetQ Try.prog Try.f18 (D.fr 3 1 ((r).map ixx))) (dig (bodyOf Try.f18) [1, 1, 0, 1, 0] []).2) (rest.length + 1) ⟨[(0, D.sl ((a0_).map ixx)), (3, D.acc 0), (4, D.int .i64 ((i1 : Int)))], [Ob.row .uq 3 1 ((w1_0).map ixx)]⟩ := by
  intro rest
  induction rest with
  | nil =>
    intro i1 w1_0 hd1 h
    rw [d_laws_toIntS_L1] at h
    refine AWr_succ fun N1 hN1 hS1 => ?_
    have t := AW_N (N := N) (N' := N1) (K0 := (dig (bodyOf Try.f18) [1, 1, 0, 1, 0] []).2) (by kernel_rfl) hN1 (hE1 (w1_0) h)
    refine AW_go (n := 2000) [[some (3, 1)]] [.b false, .hl 0 [3] [0]] (.at_ (dig (bodyOf Try.f18) [1, 1, 1] []).1 (dig (bodyOf Try.f18) [1, 1, 1] []).2 ⟨[(3, D.acc 0)], [Ob.row .uq 3 1 ((w1_0).map ixx)]⟩) [(decide (((i1 : Int) : Int) < ((((a0_).map ixx).length : Int)))) = false] hΓ mix (by kernel_rfl) ⟨((by rw [List.length_map]; exact lt_false (drop_nil hd1))), trivial⟩ ?_
    first | exact t | (simp only [List.map_append, List.map_cons, List.map_nil, List.map_set] at t ⊢; exact t)
  | cons x1_ xs1 ih1 =>
    intro i1 w1_0 hd1 h
    rw [d_laws_toIntS_L1] at h
    refine AWr_succ fun N1 hN1 hS1 => ?_
    obtain ⟨h29, h⟩ := den_ok h
    obtain ⟨x30, h31, h⟩ := den_bind h
    have t := ih1 (i1 + 1) ((w1_0).set i1 x1_) (drop_cons hd1).2.2 h
    refine AW_go (n := 2000) [[some (3, 1)]] [.b true, .row [D.int .i64 (x1_)], .ix i1, .row [D.int .i64 (x30)], .cn [0, 3, 4] [0]] (.cont 0 ⟨[(0, D.sl ((a0_).map ixx)), (3, D.acc 0), (4, D.int .i64 (IntKind.i64.wrap (((i1 : Int)) + (1))))], [Ob.row .uq 3 1 (((w1_0).map ixx).set i1 [D.int .i64 (x1_)])]⟩) [(decide (((i1 : Int) : Int) < ((((a0_).map ixx).length : Int)))) = true, 0 ≤ ((i1 : Int)) ∧ ((a0_).map ixx)[((i1 : Int)).toNat]? = some [D.int .i64 (x1_)] ∧ ([D.int .i64 (x1_)] : List D).length = 1, 1 = 1 ∧ ((i1 : Int)) = ((i1 : Nat) : Int) ∧ i1 < ((w1_0).map ixx).length, ((w1_0).map ixx)[i1]? = some [D.int .i64 (x30)]] hΓ mix (by kernel_rfl) ⟨((by rw [List.length_map]; exact lt_true (drop_cons hd1).2.1)), (⟨(map_at ixx (drop_cons hd1).1).1, (map_at ixx (drop_cons hd1).1).2, rfl⟩), (⟨rfl, rfl, of_decide_eq_true h29⟩), (map_get ixx h31), trivial⟩ ?_
    refine (congrFun hS1 _).mpr ?_
    rw [i64_succ (drop_cons hd1).2.1 hm1]
    first | exact t | (simp only [List.map_append, List.map_cons, List.map_nil, List.map_set] at t ⊢; exact t)

set_option maxRecDepth 100000 in
set_option linter.unusedVariables false in
theorem d_laws_toIntS_good {a0_ : List Int} {r : List Int} (h : d_laws_toIntS a0_ = some r) : Good Try.prog 18 [D.sl ((a0_).map ixx)] (D.fr 3 1 ((r).map ixx)) := by
  refine Good.of (c := bodyOf Try.f18) Try.func18 rfl (by decide) (by simp [Try.f18]) ?_
  intro hr Γ hΓ
  have hΓ : Γ.nt = 22 := hΓ
  rw [d_laws_toIntS] at h
  refine (show AW Try.prog Γ (bodyOf Try.f18) (KQ Try.prog Γ (fun _ _ => False) (RetQ Try.prog Try.f18 (D.fr 3 1 ((r).map ixx))) []) _ from ?_)
  obtain ⟨h1, h⟩ := den_ok h
  refine AW_go (n := 2000) [[some (3, 1)]] [.cn [0, 3, 4] [0]] (.lp (dig (bodyOf Try.f18) [1, 1, 0, 1, 0, 0] []).1 (dig (bodyOf Try.f18) [1, 1, 0, 1, 0] []).2 ⟨[(0, D.sl ((a0_).map ixx)), (3, D.acc 0), (4, D.int .i64 (0))], [Ob.row .uq 3 1 (List.replicate ((((a0_).map ixx).length : Int)).toNat [D.int .i64 (0)])]⟩) [((((a0_).map ixx).length : Int) : Int) = ((((a0_).map ixx).length : Int)) ∧ 0 ≤ ((((a0_).map ixx).length : Int) : Int) ∧ 8 * ((((a0_).map ixx).length : Int) : Int).toNat ≤ 281474976710656 ∧ ((((a0_).map ixx).length : Int) : Int).toNat ≤ 4611686018427387904] hΓ mix (by kernel_rfl) ⟨(roomM_ok h1), trivial⟩ (AW_st (by first | rfl | (simp only [List.map_append, List.map_cons, List.map_nil, List.map_set, List.map_replicate] <;> rfl)) (AW_of_r (d_laws_toIntS_L1w hΓ (fun q1_0 h => ?_) (by have := (Rdb.sl (hr _ (List.mem_of_getElem? (i := 0) rfl))).1; simpa using this) (a0_) 0 (List.replicate ((((a0_).map ixx).length : Int)).toNat (0 : Int)) rfl h)))
  have h := den_some h
  subst h
  exact AW_go (n := 2000) [[some (3, 1)]] [] (.ret (D.fr 3 1 ((q1_0).map ixx))) [] hΓ mix (by kernel_rfl) trivial (by first | rfl | (simp only [List.map_append, List.map_cons, List.map_nil, List.map_set] <;> rfl))

def d_laws_toFact (a0_ : Fact) : Option Fact := ((d_laws_toStringS (a0_.args)).bind fun y1 => (some ((⟨a0_.rel, y1⟩ : Fact))))
set_option maxRecDepth 100000 in
set_option linter.unusedVariables false in
theorem d_laws_toFact_good {a0_ : Fact} {r : Fact} (h : d_laws_toFact a0_ = some r) : Good Try.prog 44 [D.agg [D.str (a0_.rel), D.sl ((a0_.args).map tx)]] (D.agg [D.str (r.rel), D.fr 9 1 ((r.args).map tx)]) := by
  refine Good.of (c := bodyOf Try.f44) Try.func44 rfl (by decide) (by simp [Try.f44]) ?_
  intro hr Γ hΓ
  have hΓ : Γ.nt = 12 := hΓ
  rw [d_laws_toFact] at h
  refine (show AW Try.prog Γ (bodyOf Try.f44) (KQ Try.prog Γ (fun _ _ => False) (RetQ Try.prog Try.f44 (D.agg [D.str (r.rel), D.fr 9 1 ((r.args).map tx)])) []) _ from ?_)
  obtain ⟨y1, h2, h⟩ := den_bind h
  have h := den_some h
  subst h
  exact AW_go (n := 2000) [[none, some (9, 1)]] [.d (D.fr 9 1 ((y1).map tx))] (.ret (D.agg [D.str (a0_.rel), D.fr 9 1 ((y1).map tx)])) [Good Try.prog 68 [D.sl ((a0_.args).map tx)] (D.fr 9 1 ((y1).map tx))] hΓ mix (by kernel_rfl) ⟨(d_laws_toStringS_good h2), trivial⟩ (by first | rfl | (simp only [List.map_append, List.map_cons, List.map_nil, List.map_set] <;> rfl))

def d_laws_toFactS_L1 (a0_ : List Fact) (k1 : List Fact → Option (List Fact)) : List Fact → Nat → List Fact → Option (List Fact)
  | [], i1, w1_0 => (k1 (w1_0))
  | x1_ :: xs1, i1, w1_0 => ((d_laws_toFact (x1_)).bind fun y41 => (bif decide (i1 < ((w1_0).map Fact.c).length) then (((w1_0)[i1]?).bind fun x44 => (d_laws_toFactS_L1 a0_ k1 xs1 (i1 + 1) ((w1_0).set i1 y41))) else none))

def d_laws_toFactS (a0_ : List Fact) : Option (List Fact) := (bif roomM ((((a0_).map Fact.c).length : Int)) 40 then (d_laws_toFactS_L1 a0_ (fun (q1_0 : List Fact) => (some (q1_0))) (a0_) 0 (List.replicate ((((a0_).map Fact.c).length : Int)).toNat (⟨([] : Bytes), []⟩ : Fact))) else none)
set_option maxRecDepth 100000 in
set_option linter.unusedVariables false in
theorem d_laws_toFactS_L1w {Γ : Ctx} (hΓ : Γ.nt = 23) {N : Nat → St → Prop} {a0_ : List Fact} {r : List Fact} {k1 : List Fact → Option (List Fact)} (hE1 : ∀ (q1_0 : List Fact), k1 q1_0 = some r → AW Try.prog Γ (dig (bodyOf Try.f21) [1, 1, 1] []).1 (KQ Try.prog Γ N (RetQ Try.prog Try.f21 (D.fr 94 2 ((r).map Fact.c))) (dig (bodyOf Try.f21) [1, 1, 1] []).2) ⟨[(3, D.acc 0)], [Ob.row .uq 94 2 ((q1_0).map Fact.c)]⟩) (hm1 : (a0_).length ≤ maxLen) : ∀ (rest : List Fact) (i1 : Nat) (w1_0 : List Fact), (a0_).drop i1 = rest → d_laws_toFactS_L1 a0_ k1 rest i1 w1_0 = some r → AWr Try.prog Γ (dig (bodyOf Try.f21) [1, 1, 0, 1, 0, 0] []).1 (KQ Try.prog Γ N (RetQ Try.prog Try.f21 (D.fr 94 2 ((r).map Fact.c))) (dig (bodyOf Try.f21) [1, 1, 0, 1, 0] []).2) (rest.length + 1) ⟨[(0, D.sl ((a0_).map Fact.c)), (3, D.acc 0), (4, D.int .i64 ((i1 : Int)))], [Ob.row .uq 94 2 ((w1_0).map Fact.c)]⟩ := by
  intro rest
  induction rest with
  | nil =>
    intro i1 w1_0 hd1 h
    rw [d_laws_toFactS_L1] at h
    refine AWr_succ fun N1 hN1 hS1 => ?_
    have t := AW_N (N := N) (N' := N1) (K0 := (dig (bodyOf Try.f21) [1, 1, 0, 1, 0] []).2) (by kernel_rfl) hN1 (hE1 (w1_0) h)
    refine AW_go (n := 2000) [[some (94, 2)]] [.b false, .hl 0 [3] [0]] (.at_ (dig (bodyOf Try.f21) [1, 1, 1] []).1 (dig (bodyOf Try.f21) [1, 1, 1] []).2 ⟨[(3, D.acc 0)], [Ob.row .uq 94 2 ((w1_0).map Fact.c)]⟩) [(decide (((i1 : Int) : Int) < ((((a0_).map Fact.c).length : Int)))) = false] hΓ mix (by kernel_rfl) ⟨((by rw [List.length_map]; exact lt_false (drop_nil hd1))), trivial⟩ ?_
    first | exact t | (simp only [List.map_append, List.map_cons, List.map_nil, List.map_set] at t ⊢; exact t)
  | cons x1_ xs1 ih1 =>
    intro i1 w1_0 hd1 h
    rw [d_laws_toFactS_L1] at h
    refine AWr_succ fun N1 hN1 hS1 => ?_
    obtain ⟨y41, h42, h⟩ := den_bind h
    obtain ⟨h43, h⟩ := den_ok h
    obtain ⟨x44, h45, h⟩ := den_bind h
    have t := ih1 (i1 + 1) ((w1_0).set i1 y41) (drop_cons hd1).2.2 h
    refine AW_go (n := 2000) [[some (94, 2)]] [.b true, .row [D.str (x1_.rel), D.sl ((x1_.args).map tx)], .d (D.agg [D.str (y41.rel), D.fr 9 1 ((y41.args).map tx)]), .ix i1, .row [D.str (x44.rel), D.sl ((x44.args).map tx)], .cn [0, 3, 4] [0]] (.cont 0 ⟨[(0, D.sl ((a0_).map Fact.c)), (3, D.acc 0), (4, D.int .i64 (IntKind.i64.wrap (((i1 : Int)) + (1))))], [Ob.row .uq 94 2 (((w1_0).map Fact.c).set i1 [D.str (y41.rel), D.sl ((y41.args).map tx)])]⟩) [(decide (((i1 : Int) : Int) < ((((a0_).map Fact.c).length : Int)))) = true, 0 ≤ ((i1 : Int)) ∧ ((a0_).map Fact.c)[((i1 : Int)).toNat]? = some [D.str (x1_.rel), D.sl ((x1_.args).map tx)] ∧ ([D.str (x1_.rel), D.sl ((x1_.args).map tx)] : List D).length = 2, Good Try.prog 44 [D.agg [D.str (x1_.rel), D.sl ((x1_.args).map tx)]] (D.agg [D.str (y41.rel), D.fr 9 1 ((y41.args).map tx)]), 2 = 2 ∧ ((i1 : Int)) = ((i1 : Nat) : Int) ∧ i1 < ((w1_0).map Fact.c).length, ((w1_0).map Fact.c)[i1]? = some [D.str (x44.rel), D.sl ((x44.args).map tx)]] hΓ mix (by kernel_rfl) ⟨((by rw [List.length_map]; exact lt_true (drop_cons hd1).2.1)), (⟨(map_at Fact.c (drop_cons hd1).1).1, (map_at Fact.c (drop_cons hd1).1).2, rfl⟩), (d_laws_toFact_good h42), (⟨rfl, rfl, of_decide_eq_true h43⟩), (map_get Fact.c h45), trivial⟩ ?_
    refine (congrFun hS1 _).mpr ?_
    rw [i64_succ (drop_cons hd1).2.1 hm1]
    first | exact t | (simp only [List.map_append, List.map_cons, List.map_nil, List.map_set] at t ⊢; exact t)

set_option maxRecDepth 100000 in
set_option linter.unusedVariables false in
theorem d_laws_toFactS_good {a0_ : List Fact} {r : List Fact} (h : d_laws_toFactS a0_ = some r) : Good Try.prog 21 [D.sl ((a0_).map Fact.c)] (D.fr 94 2 ((r).map Fact.c)) := by
  refine Good.of (c := bodyOf Try.f21) Try.func21 rfl (by decide) (by simp [Try.f21]) ?_
  intro hr Γ hΓ
  have hΓ : Γ.nt = 23 := hΓ
  rw [d_laws_toFactS] at h
  refine (show AW Try.prog Γ (bodyOf Try.f21) (KQ Try.prog Γ (fun _ _ => False) (RetQ Try.prog Try.f21 (D.fr 94 2 ((r).map Fact.c))) []) _ from ?_)
  obtain ⟨h1, h⟩ := den_ok h
  refine AW_go (n := 2000) [[some (94, 2)]] [.cn [0, 3, 4] [0]] (.lp (dig (bodyOf Try.f21) [1, 1, 0, 1, 0, 0] []).1 (dig (bodyOf Try.f21) [1, 1, 0, 1, 0] []).2 ⟨[(0, D.sl ((a0_).map Fact.c)), (3, D.acc 0), (4, D.int .i64 (0))], [Ob.row .uq 94 2 (List.replicate ((((a0_).map Fact.c).length : Int)).toNat [D.str ([]), D.sl ([])])]⟩) [((((a0_).map Fact.c).length : Int) : Int) = ((((a0_).map Fact.c).length : Int)) ∧ 0 ≤ ((((a0_).map Fact.c).length : Int) : Int) ∧ 40 * ((((a0_).map Fact.c).length : Int) : Int).toNat ≤ 281474976710656 ∧ ((((a0_).map Fact.c).length : Int) : Int).toNat ≤ 4611686018427387904] hΓ mix (by kernel_rfl) ⟨(roomM_ok h1), trivial⟩ (AW_st (by first | rfl | (simp only [List.map_append, List.map_cons, List.map_nil, List.map_set, List.map_replicate] <;> rfl)) (AW_of_r (d_laws_toFactS_L1w hΓ (fun q1_0 h => ?_) (by have := (Rdb.sl (hr _ (List.mem_of_getElem? (i := 0) rfl))).1; simpa using this) (a0_) 0 (List.replicate ((((a0_).map Fact.c).length : Int)).toNat (⟨([] : Bytes), []⟩ : Fact)) rfl h)))
  have h := den_some h
  subst h
  exact AW_go (n := 2000) [[some (94, 2)]] [] (.ret (D.fr 94 2 ((q1_0).map Fact.c))) [] hΓ mix (by kernel_rfl) trivial (by first | rfl | (simp only [List.map_append, List.map_cons, List.map_nil, List.map_set] <;> rfl))

def d_laws_toAlpha (a0_ : Alpha) : Option Alpha := ((d_laws_toPattern (a0_.shape)).bind fun y1 => ((d_laws_toFactS (a0_.facts)).bind fun y3 => (some ((⟨y1, y3⟩ : Alpha)))))
set_option maxRecDepth 100000 in
set_option linter.unusedVariables false in
theorem d_laws_toAlpha_good {a0_ : Alpha} {r : Alpha} (h : d_laws_toAlpha a0_ = some r) : Good Try.prog 42 [D.agg [D.str (a0_.shape.rel), D.sl ((a0_.shape.args).map tx), D.sl ((a0_.facts).map Fact.c)]] (D.agg [D.str (r.shape.rel), D.fr 9 1 ((r.shape.args).map tx), D.fr 94 2 ((r.facts).map Fact.c)]) := by
  refine Good.of (c := bodyOf Try.f42) Try.func42 rfl (by decide) (by simp [Try.f42]) ?_
  intro hr Γ hΓ
  have hΓ : Γ.nt = 13 := hΓ
  rw [d_laws_toAlpha] at h
  refine (show AW Try.prog Γ (bodyOf Try.f42) (KQ Try.prog Γ (fun _ _ => False) (RetQ Try.prog Try.f42 (D.agg [D.str (r.shape.rel), D.fr 9 1 ((r.shape.args).map tx), D.fr 94 2 ((r.facts).map Fact.c)])) []) _ from ?_)
  obtain ⟨y1, h2, h⟩ := den_bind h
  obtain ⟨y3, h4, h⟩ := den_bind h
  have h := den_some h
  subst h
  exact AW_go (n := 2000) [[none, some (9, 1), some (94, 2)]] [.d (D.agg [D.str (y1.rel), D.fr 9 1 ((y1.args).map tx)]), .d (D.fr 94 2 ((y3).map Fact.c))] (.ret (D.agg [D.str (y1.rel), D.fr 9 1 ((y1.args).map tx), D.fr 94 2 ((y3).map Fact.c)])) [Good Try.prog 65 [D.agg [D.str (a0_.shape.rel), D.sl ((a0_.shape.args).map tx)]] (D.agg [D.str (y1.rel), D.fr 9 1 ((y1.args).map tx)]), Good Try.prog 21 [D.sl ((a0_.facts).map Fact.c)] (D.fr 94 2 ((y3).map Fact.c))] hΓ mix (by kernel_rfl) ⟨(d_laws_toPattern_good h2), (d_laws_toFactS_good h4), trivial⟩ (by first | rfl | (simp only [List.map_append, List.map_cons, List.map_nil, List.map_set] <;> rfl))

def d_laws_toAlphaS_L1 (a0_ : List Alpha) (k1 : List Alpha → Option (List Alpha)) : List Alpha → Nat → List Alpha → Option (List Alpha)
  | [], i1, w1_0 => (k1 (w1_0))
  | x1_ :: xs1, i1, w1_0 => ((d_laws_toAlpha (x1_)).bind fun y41 => (bif decide (i1 < ((w1_0).map Alpha.c).length) then (((w1_0)[i1]?).bind fun x44 => (d_laws_toAlphaS_L1 a0_ k1 xs1 (i1 + 1) ((w1_0).set i1 y41))) else none))

def d_laws_toAlphaS (a0_ : List Alpha) : Option (List Alpha) := (bif roomM ((((a0_).map Alpha.c).length : Int)) 64 then (d_laws_toAlphaS_L1 a0_ (fun (q1_0 : List Alpha) => (some (q1_0))) (a0_) 0 (List.replicate ((((a0_).map Alpha.c).length : Int)).toNat (⟨(⟨([] : Bytes), []⟩ : Fact), []⟩ : Alpha))) else none)
set_option maxRecDepth 100000 in
set_option linter.unusedVariables false in
theorem d_laws_toAlphaS_L1w {Γ : Ctx} (hΓ : Γ.nt = 23) {N : Nat → St → Prop} {a0_ : List Alpha} {r : List Alpha} {k1 : List Alpha → Option (List Alpha)} (hE1 : ∀ (q1_0 : List Alpha), k1 q1_0 = some r → AW Try.prog Γ (dig (bodyOf Try.f19) [1, 1, 1] []).1 (KQ Try.prog Γ N (RetQ Try.prog Try.f19 (D.fr 50 3 ((r).map Alpha.c))) (dig (bodyOf Try.f19) [1, 1, 1] []).2) ⟨[(3, D.acc 0)], [Ob.row .uq 50 3 ((q1_0).map Alpha.c)]⟩) (hm1 : (a0_).length ≤ maxLen) : ∀ (rest : List Alpha) (i1 : Nat) (w1_0 : List Alpha), (a0_).drop i1 = rest → d_laws_toAlphaS_L1 a0_ k1 rest i1 w1_0 = some r → AWr Try.prog Γ (dig (bodyOf Try.f19) [1, 1, 0, 1, 0, 0] []).1 (KQ Try.prog Γ N (RetQ Try.prog Try.f19 (D.fr 50 3 ((r).map Alpha.c))) (dig (bodyOf Try.f19) [1, 1, 0, 1, 0] []).2) (rest.length + 1) ⟨[(0, D.sl ((a0_).map Alpha.c)), (3, D.acc 0), (4, D.int .i64 ((i1 : Int)))], [Ob.row .uq 50 3 ((w1_0).map Alpha.c)]⟩ := by
  intro rest
  induction rest with
  | nil =>
    intro i1 w1_0 hd1 h
    rw [d_laws_toAlphaS_L1] at h
    refine AWr_succ fun N1 hN1 hS1 => ?_
    have t := AW_N (N := N) (N' := N1) (K0 := (dig (bodyOf Try.f19) [1, 1, 0, 1, 0] []).2) (by kernel_rfl) hN1 (hE1 (w1_0) h)
    refine AW_go (n := 2000) [[some (50, 3)]] [.b false, .hl 0 [3] [0]] (.at_ (dig (bodyOf Try.f19) [1, 1, 1] []).1 (dig (bodyOf Try.f19) [1, 1, 1] []).2 ⟨[(3, D.acc 0)], [Ob.row .uq 50 3 ((w1_0).map Alpha.c)]⟩) [(decide (((i1 : Int) : Int) < ((((a0_).map Alpha.c).length : Int)))) = false] hΓ mix (by kernel_rfl) ⟨((by rw [List.length_map]; exact lt_false (drop_nil hd1))), trivial⟩ ?_
    first | exact t | (simp only [List.map_append, List.map_cons, List.map_nil, List.map_set] at t ⊢; exact t)
  | cons x1_ xs1 ih1 =>
    intro i1 w1_0 hd1 h
    rw [d_laws_toAlphaS_L1] at h
    refine AWr_succ fun N1 hN1 hS1 => ?_
    obtain ⟨y41, h42, h⟩ := den_bind h
    obtain ⟨h43, h⟩ := den_ok h
    obtain ⟨x44, h45, h⟩ := den_bind h
    have t := ih1 (i1 + 1) ((w1_0).set i1 y41) (drop_cons hd1).2.2 h
    refine AW_go (n := 2000) [[some (50, 3)]] [.b true, .row [D.str (x1_.shape.rel), D.sl ((x1_.shape.args).map tx), D.sl ((x1_.facts).map Fact.c)], .d (D.agg [D.str (y41.shape.rel), D.fr 9 1 ((y41.shape.args).map tx), D.fr 94 2 ((y41.facts).map Fact.c)]), .ix i1, .row [D.str (x44.shape.rel), D.sl ((x44.shape.args).map tx), D.sl ((x44.facts).map Fact.c)], .cn [0, 3, 4] [0]] (.cont 0 ⟨[(0, D.sl ((a0_).map Alpha.c)), (3, D.acc 0), (4, D.int .i64 (IntKind.i64.wrap (((i1 : Int)) + (1))))], [Ob.row .uq 50 3 (((w1_0).map Alpha.c).set i1 [D.str (y41.shape.rel), D.sl ((y41.shape.args).map tx), D.sl ((y41.facts).map Fact.c)])]⟩) [(decide (((i1 : Int) : Int) < ((((a0_).map Alpha.c).length : Int)))) = true, 0 ≤ ((i1 : Int)) ∧ ((a0_).map Alpha.c)[((i1 : Int)).toNat]? = some [D.str (x1_.shape.rel), D.sl ((x1_.shape.args).map tx), D.sl ((x1_.facts).map Fact.c)] ∧ ([D.str (x1_.shape.rel), D.sl ((x1_.shape.args).map tx), D.sl ((x1_.facts).map Fact.c)] : List D).length = 3, Good Try.prog 42 [D.agg [D.str (x1_.shape.rel), D.sl ((x1_.shape.args).map tx), D.sl ((x1_.facts).map Fact.c)]] (D.agg [D.str (y41.shape.rel), D.fr 9 1 ((y41.shape.args).map tx), D.fr 94 2 ((y41.facts).map Fact.c)]), 3 = 3 ∧ ((i1 : Int)) = ((i1 : Nat) : Int) ∧ i1 < ((w1_0).map Alpha.c).length, ((w1_0).map Alpha.c)[i1]? = some [D.str (x44.shape.rel), D.sl ((x44.shape.args).map tx), D.sl ((x44.facts).map Fact.c)]] hΓ mix (by kernel_rfl) ⟨((by rw [List.length_map]; exact lt_true (drop_cons hd1).2.1)), (⟨(map_at Alpha.c (drop_cons hd1).1).1, (map_at Alpha.c (drop_cons hd1).1).2, rfl⟩), (d_laws_toAlpha_good h42), (⟨rfl, rfl, of_decide_eq_true h43⟩), (map_get Alpha.c h45), trivial⟩ ?_
    refine (congrFun hS1 _).mpr ?_
    rw [i64_succ (drop_cons hd1).2.1 hm1]
    first | exact t | (simp only [List.map_append, List.map_cons, List.map_nil, List.map_set] at t ⊢; exact t)

set_option maxRecDepth 100000 in
set_option linter.unusedVariables false in
theorem d_laws_toAlphaS_good {a0_ : List Alpha} {r : List Alpha} (h : d_laws_toAlphaS a0_ = some r) : Good Try.prog 19 [D.sl ((a0_).map Alpha.c)] (D.fr 50 3 ((r).map Alpha.c)) := by
  refine Good.of (c := bodyOf Try.f19) Try.func19 rfl (by decide) (by simp [Try.f19]) ?_
  intro hr Γ hΓ
  have hΓ : Γ.nt = 23 := hΓ
  rw [d_laws_toAlphaS] at h
  refine (show AW Try.prog Γ (bodyOf Try.f19) (KQ Try.prog Γ (fun _ _ => False) (RetQ Try.prog Try.f19 (D.fr 50 3 ((r).map Alpha.c))) []) _ from ?_)
  obtain ⟨h1, h⟩ := den_ok h
  refine AW_go (n := 2000) [[some (50, 3)]] [.cn [0, 3, 4] [0]] (.lp (dig (bodyOf Try.f19) [1, 1, 0, 1, 0, 0] []).1 (dig (bodyOf Try.f19) [1, 1, 0, 1, 0] []).2 ⟨[(0, D.sl ((a0_).map Alpha.c)), (3, D.acc 0), (4, D.int .i64 (0))], [Ob.row .uq 50 3 (List.replicate ((((a0_).map Alpha.c).length : Int)).toNat [D.str ([]), D.sl ([]), D.sl ([])])]⟩) [((((a0_).map Alpha.c).length : Int) : Int) = ((((a0_).map Alpha.c).length : Int)) ∧ 0 ≤ ((((a0_).map Alpha.c).length : Int) : Int) ∧ 64 * ((((a0_).map Alpha.c).length : Int) : Int).toNat ≤ 281474976710656 ∧ ((((a0_).map Alpha.c).length : Int) : Int).toNat ≤ 4611686018427387904] hΓ mix (by kernel_rfl) ⟨(roomM_ok h1), trivial⟩ (AW_st (by first | rfl | (simp only [List.map_append, List.map_cons, List.map_nil, List.map_set, List.map_replicate] <;> rfl)) (AW_of_r (d_laws_toAlphaS_L1w hΓ (fun q1_0 h => ?_) (by have := (Rdb.sl (hr _ (List.mem_of_getElem? (i := 0) rfl))).1; simpa using this) (a0_) 0 (List.replicate ((((a0_).map Alpha.c).length : Int)).toNat (⟨(⟨([] : Bytes), []⟩ : Fact), []⟩ : Alpha)) rfl h)))
  have h := den_some h
  subst h
  exact AW_go (n := 2000) [[some (50, 3)]] [] (.ret (D.fr 50 3 ((q1_0).map Alpha.c))) [] hΓ mix (by kernel_rfl) trivial (by first | rfl | (simp only [List.map_append, List.map_cons, List.map_nil, List.map_set] <;> rfl))

def d_laws_toPair (a0_ : Pair) : Option Pair := (some (a0_))
set_option maxRecDepth 100000 in
set_option linter.unusedVariables false in
theorem d_laws_toPair_good {a0_ : Pair} {r : Pair} (h : d_laws_toPair a0_ = some r) : Good Try.prog 86 [D.agg [D.str (a0_.var), D.str (a0_.value)]] (D.agg [D.str (r.var), D.str (r.value)]) := by
  refine Good.of (c := bodyOf Try.f86) Try.func86 rfl (by decide) (by simp [Try.f86]) ?_
  intro hr Γ hΓ
  have hΓ : Γ.nt = 11 := hΓ
  rw [d_laws_toPair] at h
  refine (show AW Try.prog Γ (bodyOf Try.f86) (KQ Try.prog Γ (fun _ _ => False) (RetQ Try.prog Try.f86 (D.agg [D.str (r.var), D.str (r.value)])) []) _ from ?_)
  have h := den_some h
  subst h
  exact AW_go (n := 2000) [[none, none]] [] (.ret (D.agg [D.str (a0_.var), D.str (a0_.value)])) [] hΓ mix (by kernel_rfl) trivial (by first | rfl | (simp only [List.map_append, List.map_cons, List.map_nil, List.map_set] <;> rfl))

def d_laws_toPairS_L1 (a0_ : List Pair) (k1 : List Pair → Option (List Pair)) : List Pair → Nat → List Pair → Option (List Pair)
  | [], i1, w1_0 => (k1 (w1_0))
  | x1_ :: xs1, i1, w1_0 => ((d_laws_toPair (x1_)).bind fun y41 => (bif decide (i1 < ((w1_0).map Pair.c).length) then (((w1_0)[i1]?).bind fun x44 => (d_laws_toPairS_L1 a0_ k1 xs1 (i1 + 1) ((w1_0).set i1 y41))) else none))

def d_laws_toPairS (a0_ : List Pair) : Option (List Pair) := (bif roomM ((((a0_).map Pair.c).length : Int)) 32 then (d_laws_toPairS_L1 a0_ (fun (q1_0 : List Pair) => (some (q1_0))) (a0_) 0 (List.replicate ((((a0_).map Pair.c).length : Int)).toNat (⟨([] : Bytes), ([] : Bytes)⟩ : Pair))) else none)
set_option maxRecDepth 100000 in
set_option linter.unusedVariables false in
theorem d_laws_toPairS_L1w {Γ : Ctx} (hΓ : Γ.nt = 23) {N : Nat → St → Prop} {a0_ : List Pair} {r : List Pair} {k1 : List Pair → Option (List Pair)} (hE1 : ∀ (q1_0 : List Pair), k1 q1_0 = some r → AW Try.prog Γ (dig (bodyOf Try.f83) [1, 1, 1] []).1 (KQ Try.prog Γ N (RetQ Try.prog Try.f83 (D.fr 121 2 ((r).map Pair.c))) (dig (bodyOf Try.f83) [1, 1, 1] []).2) ⟨[(3, D.acc 0)], [Ob.row .uq 121 2 ((q1_0).map Pair.c)]⟩) (hm1 : (a0_).length ≤ maxLen) : ∀ (rest : List Pair) (i1 : Nat) (w1_0 : List Pair), (a0_).drop i1 = rest → d_laws_toPairS_L1 a0_ k1 rest i1 w1_0 = some r → AWr Try.prog Γ (dig (bodyOf Try.f83) [1, 1, 0, 1, 0, 0] []).1 (KQ Try.prog Γ N (RetQ Try.prog Try.f83 (D.fr 121 2 ((r).map Pair.c))) (dig (bodyOf Try.f83) [1, 1, 0, 1, 0] []).2) (rest.length + 1) ⟨[(0, D.sl ((a0_).map Pair.c)), (3, D.acc 0), (4, D.int .i64 ((i1 : Int)))], [Ob.row .uq 121 2 ((w1_0).map Pair.c)]⟩ := by
  intro rest
  induction rest with
  | nil =>
    intro i1 w1_0 hd1 h
    rw [d_laws_toPairS_L1] at h
    refine AWr_succ fun N1 hN1 hS1 => ?_
    have t := AW_N (N := N) (N' := N1) (K0 := (dig (bodyOf Try.f83) [1, 1, 0, 1, 0] []).2) (by kernel_rfl) hN1 (hE1 (w1_0) h)
    refine AW_go (n := 2000) [[some (121, 2)]] [.b false, .hl 0 [3] [0]] (.at_ (dig (bodyOf Try.f83) [1, 1, 1] []).1 (dig (bodyOf Try.f83) [1, 1, 1] []).2 ⟨[(3, D.acc 0)], [Ob.row .uq 121 2 ((w1_0).map Pair.c)]⟩) [(decide (((i1 : Int) : Int) < ((((a0_).map Pair.c).length : Int)))) = false] hΓ mix (by kernel_rfl) ⟨((by rw [List.length_map]; exact lt_false (drop_nil hd1))), trivial⟩ ?_
    first | exact t | (simp only [List.map_append, List.map_cons, List.map_nil, List.map_set] at t ⊢; exact t)
  | cons x1_ xs1 ih1 =>
    intro i1 w1_0 hd1 h
    rw [d_laws_toPairS_L1] at h
    refine AWr_succ fun N1 hN1 hS1 => ?_
    obtain ⟨y41, h42, h⟩ := den_bind h
    obtain ⟨h43, h⟩ := den_ok h
    obtain ⟨x44, h45, h⟩ := den_bind h
    have t := ih1 (i1 + 1) ((w1_0).set i1 y41) (drop_cons hd1).2.2 h
    refine AW_go (n := 2000) [[some (121, 2)]] [.b true, .row [D.str (x1_.var), D.str (x1_.value)], .d (D.agg [D.str (y41.var), D.str (y41.value)]), .ix i1, .row [D.str (x44.var), D.str (x44.value)], .cn [0, 3, 4] [0]] (.cont 0 ⟨[(0, D.sl ((a0_).map Pair.c)), (3, D.acc 0), (4, D.int .i64 (IntKind.i64.wrap (((i1 : Int)) + (1))))], [Ob.row .uq 121 2 (((w1_0).map Pair.c).set i1 [D.str (y41.var), D.str (y41.value)])]⟩) [(decide (((i1 : Int) : Int) < ((((a0_).map Pair.c).length : Int)))) = true, 0 ≤ ((i1 : Int)) ∧ ((a0_).map Pair.c)[((i1 : Int)).toNat]? = some [D.str (x1_.var), D.str (x1_.value)] ∧ ([D.str (x1_.var), D.str (x1_.value)] : List D).length = 2, Good Try.prog 86 [D.agg [D.str (x1_.var), D.str (x1_.value)]] (D.agg [D.str (y41.var), D.str (y41.value)]), 2 = 2 ∧ ((i1 : Int)) = ((i1 : Nat) : Int) ∧ i1 < ((w1_0).map Pair.c).length, ((w1_0).map Pair.c)[i1]? = some [D.str (x44.var), D.str (x44.value)]] hΓ mix (by kernel_rfl) ⟨((by rw [List.length_map]; exact lt_true (drop_cons hd1).2.1)), (⟨(map_at Pair.c (drop_cons hd1).1).1, (map_at Pair.c (drop_cons hd1).1).2, rfl⟩), (d_laws_toPair_good h42), (⟨rfl, rfl, of_decide_eq_true h43⟩), (map_get Pair.c h45), trivial⟩ ?_
    refine (congrFun hS1 _).mpr ?_
    rw [i64_succ (drop_cons hd1).2.1 hm1]
    first | exact t | (simp only [List.map_append, List.map_cons, List.map_nil, List.map_set] at t ⊢; exact t)

set_option maxRecDepth 100000 in
set_option linter.unusedVariables false in
theorem d_laws_toPairS_good {a0_ : List Pair} {r : List Pair} (h : d_laws_toPairS a0_ = some r) : Good Try.prog 83 [D.sl ((a0_).map Pair.c)] (D.fr 121 2 ((r).map Pair.c)) := by
  refine Good.of (c := bodyOf Try.f83) Try.func83 rfl (by decide) (by simp [Try.f83]) ?_
  intro hr Γ hΓ
  have hΓ : Γ.nt = 23 := hΓ
  rw [d_laws_toPairS] at h
  refine (show AW Try.prog Γ (bodyOf Try.f83) (KQ Try.prog Γ (fun _ _ => False) (RetQ Try.prog Try.f83 (D.fr 121 2 ((r).map Pair.c))) []) _ from ?_)
  obtain ⟨h1, h⟩ := den_ok h
  refine AW_go (n := 2000) [[some (121, 2)]] [.cn [0, 3, 4] [0]] (.lp (dig (bodyOf Try.f83) [1, 1, 0, 1, 0, 0] []).1 (dig (bodyOf Try.f83) [1, 1, 0, 1, 0] []).2 ⟨[(0, D.sl ((a0_).map Pair.c)), (3, D.acc 0), (4, D.int .i64 (0))], [Ob.row .uq 121 2 (List.replicate ((((a0_).map Pair.c).length : Int)).toNat [D.str ([]), D.str ([])])]⟩) [((((a0_).map Pair.c).length : Int) : Int) = ((((a0_).map Pair.c).length : Int)) ∧ 0 ≤ ((((a0_).map Pair.c).length : Int) : Int) ∧ 32 * ((((a0_).map Pair.c).length : Int) : Int).toNat ≤ 281474976710656 ∧ ((((a0_).map Pair.c).length : Int) : Int).toNat ≤ 4611686018427387904] hΓ mix (by kernel_rfl) ⟨(roomM_ok h1), trivial⟩ (AW_st (by first | rfl | (simp only [List.map_append, List.map_cons, List.map_nil, List.map_set, List.map_replicate] <;> rfl)) (AW_of_r (d_laws_toPairS_L1w hΓ (fun q1_0 h => ?_) (by have := (Rdb.sl (hr _ (List.mem_of_getElem? (i := 0) rfl))).1; simpa using this) (a0_) 0 (List.replicate ((((a0_).map Pair.c).length : Int)).toNat (⟨([] : Bytes), ([] : Bytes)⟩ : Pair)) rfl h)))
  have h := den_some h
  subst h
  exact AW_go (n := 2000) [[some (121, 2)]] [] (.ret (D.fr 121 2 ((q1_0).map Pair.c))) [] hΓ mix (by kernel_rfl) trivial (by first | rfl | (simp only [List.map_append, List.map_cons, List.map_nil, List.map_set] <;> rfl))

def d_laws_toToken (a0_ : Token) : Option Token := ((d_laws_toFactS (a0_.facts)).bind fun y1 => ((d_laws_toPairS (a0_.bind)).bind fun y3 => (some ((⟨y1, y3⟩ : Token)))))
set_option maxRecDepth 100000 in
set_option linter.unusedVariables false in
theorem d_laws_toToken_good {a0_ : Token} {r : Token} (h : d_laws_toToken a0_ = some r) : Good Try.prog 79 [D.agg [D.sl ((a0_.facts).map Fact.c), D.sl ((a0_.bind).map Pair.c)]] (D.agg [D.fr 94 2 ((r.facts).map Fact.c), D.fr 121 2 ((r.bind).map Pair.c)]) := by
  refine Good.of (c := bodyOf Try.f79) Try.func79 rfl (by decide) (by simp [Try.f79]) ?_
  intro hr Γ hΓ
  have hΓ : Γ.nt = 13 := hΓ
  rw [d_laws_toToken] at h
  refine (show AW Try.prog Γ (bodyOf Try.f79) (KQ Try.prog Γ (fun _ _ => False) (RetQ Try.prog Try.f79 (D.agg [D.fr 94 2 ((r.facts).map Fact.c), D.fr 121 2 ((r.bind).map Pair.c)])) []) _ from ?_)
  obtain ⟨y1, h2, h⟩ := den_bind h
  obtain ⟨y3, h4, h⟩ := den_bind h
  have h := den_some h
  subst h
  exact AW_go (n := 2000) [[some (94, 2), some (121, 2)]] [.d (D.fr 94 2 ((y1).map Fact.c)), .d (D.fr 121 2 ((y3).map Pair.c))] (.ret (D.agg [D.fr 94 2 ((y1).map Fact.c), D.fr 121 2 ((y3).map Pair.c)])) [Good Try.prog 21 [D.sl ((a0_.facts).map Fact.c)] (D.fr 94 2 ((y1).map Fact.c)), Good Try.prog 83 [D.sl ((a0_.bind).map Pair.c)] (D.fr 121 2 ((y3).map Pair.c))] hΓ mix (by kernel_rfl) ⟨(d_laws_toFactS_good h2), (d_laws_toPairS_good h4), trivial⟩ (by first | rfl | (simp only [List.map_append, List.map_cons, List.map_nil, List.map_set] <;> rfl))

def d_laws_toTokenS_L1 (a0_ : List Token) (k1 : List Token → Option (List Token)) : List Token → Nat → List Token → Option (List Token)
  | [], i1, w1_0 => (k1 (w1_0))
  | x1_ :: xs1, i1, w1_0 => ((d_laws_toToken (x1_)).bind fun y41 => (bif decide (i1 < ((w1_0).map Token.c).length) then (((w1_0)[i1]?).bind fun x44 => (d_laws_toTokenS_L1 a0_ k1 xs1 (i1 + 1) ((w1_0).set i1 y41))) else none))

def d_laws_toTokenS (a0_ : List Token) : Option (List Token) := (bif roomM ((((a0_).map Token.c).length : Int)) 48 then (d_laws_toTokenS_L1 a0_ (fun (q1_0 : List Token) => (some (q1_0))) (a0_) 0 (List.replicate ((((a0_).map Token.c).length : Int)).toNat (⟨[], []⟩ : Token))) else none)
set_option maxRecDepth 100000 in
set_option linter.unusedVariables false in
theorem d_laws_toTokenS_L1w {Γ : Ctx} (hΓ : Γ.nt = 23) {N : Nat → St → Prop} {a0_ : List Token} {r : List Token} {k1 : List Token → Option (List Token)} (hE1 : ∀ (q1_0 : List Token), k1 q1_0 = some r → AW Try.prog Γ (dig (bodyOf Try.f67) [1, 1, 1] []).1 (KQ Try.prog Γ N (RetQ Try.prog Try.f67 (D.fr 103 2 ((r).map Token.c))) (dig (bodyOf Try.f67) [1, 1, 1] []).2) ⟨[(3, D.acc 0)], [Ob.row .uq 103 2 ((q1_0).map Token.c)]⟩) (hm1 : (a0_).length ≤ maxLen) : ∀ (rest : List Token) (i1 : Nat) (w1_0 : List Token), (a0_).drop i1 = rest → d_laws_toTokenS_L1 a0_ k1 rest i1 w1_0 = some r → AWr Try.prog Γ (dig (bodyOf Try.f67) [1, 1, 0, 1, 0, 0] []).1 (KQ Try.prog Γ N (RetQ Try.prog Try.f67 (D.fr 103 2 ((r).map Token.c))) (dig (bodyOf Try.f67) [1, 1, 0, 1, 0] []).2) (rest.length + 1) ⟨[(0, D.sl ((a0_).map Token.c)), (3, D.acc 0), (4, D.int .i64 ((i1 : Int)))], [Ob.row .uq 103 2 ((w1_0).map Token.c)]⟩ := by
  intro rest
  induction rest with
  | nil =>
    intro i1 w1_0 hd1 h
    rw [d_laws_toTokenS_L1] at h
    refine AWr_succ fun N1 hN1 hS1 => ?_
    have t := AW_N (N := N) (N' := N1) (K0 := (dig (bodyOf Try.f67) [1, 1, 0, 1, 0] []).2) (by kernel_rfl) hN1 (hE1 (w1_0) h)
    refine AW_go (n := 2000) [[some (103, 2)]] [.b false, .hl 0 [3] [0]] (.at_ (dig (bodyOf Try.f67) [1, 1, 1] []).1 (dig (bodyOf Try.f67) [1, 1, 1] []).2 ⟨[(3, D.acc 0)], [Ob.row .uq 103 2 ((w1_0).map Token.c)]⟩) [(decide (((i1 : Int) : Int) < ((((a0_).map Token.c).length : Int)))) = false] hΓ mix (by kernel_rfl) ⟨((by rw [List.length_map]; exact lt_false (drop_nil hd1))), trivial⟩ ?_
    first | exact t | (simp only [List.map_append, List.map_cons, List.map_nil, List.map_set] at t ⊢; exact t)
  | cons x1_ xs1 ih1 =>
    intro i1 w1_0 hd1 h
    rw [d_laws_toTokenS_L1] at h
    refine AWr_succ fun N1 hN1 hS1 => ?_
    obtain ⟨y41, h42, h⟩ := den_bind h
    obtain ⟨h43, h⟩ := den_ok h
    obtain ⟨x44, h45, h⟩ := den_bind h
    have t := ih1 (i1 + 1) ((w1_0).set i1 y41) (drop_cons hd1).2.2 h
    refine AW_go (n := 2000) [[some (103, 2)]] [.b true, .row [D.sl ((x1_.facts).map Fact.c), D.sl ((x1_.bind).map Pair.c)], .d (D.agg [D.fr 94 2 ((y41.facts).map Fact.c), D.fr 121 2 ((y41.bind).map Pair.c)]), .ix i1, .row [D.sl ((x44.facts).map Fact.c), D.sl ((x44.bind).map Pair.c)], .cn [0, 3, 4] [0]] (.cont 0 ⟨[(0, D.sl ((a0_).map Token.c)), (3, D.acc 0), (4, D.int .i64 (IntKind.i64.wrap (((i1 : Int)) + (1))))], [Ob.row .uq 103 2 (((w1_0).map Token.c).set i1 [D.sl ((y41.facts).map Fact.c), D.sl ((y41.bind).map Pair.c)])]⟩) [(decide (((i1 : Int) : Int) < ((((a0_).map Token.c).length : Int)))) = true, 0 ≤ ((i1 : Int)) ∧ ((a0_).map Token.c)[((i1 : Int)).toNat]? = some [D.sl ((x1_.facts).map Fact.c), D.sl ((x1_.bind).map Pair.c)] ∧ ([D.sl ((x1_.facts).map Fact.c), D.sl ((x1_.bind).map Pair.c)] : List D).length = 2, Good Try.prog 79 [D.agg [D.sl ((x1_.facts).map Fact.c), D.sl ((x1_.bind).map Pair.c)]] (D.agg [D.fr 94 2 ((y41.facts).map Fact.c), D.fr 121 2 ((y41.bind).map Pair.c)]), 2 = 2 ∧ ((i1 : Int)) = ((i1 : Nat) : Int) ∧ i1 < ((w1_0).map Token.c).length, ((w1_0).map Token.c)[i1]? = some [D.sl ((x44.facts).map Fact.c), D.sl ((x44.bind).map Pair.c)]] hΓ mix (by kernel_rfl) ⟨((by rw [List.length_map]; exact lt_true (drop_cons hd1).2.1)), (⟨(map_at Token.c (drop_cons hd1).1).1, (map_at Token.c (drop_cons hd1).1).2, rfl⟩), (d_laws_toToken_good h42), (⟨rfl, rfl, of_decide_eq_true h43⟩), (map_get Token.c h45), trivial⟩ ?_
    refine (congrFun hS1 _).mpr ?_
    rw [i64_succ (drop_cons hd1).2.1 hm1]
    first | exact t | (simp only [List.map_append, List.map_cons, List.map_nil, List.map_set] at t ⊢; exact t)

set_option maxRecDepth 100000 in
set_option linter.unusedVariables false in
theorem d_laws_toTokenS_good {a0_ : List Token} {r : List Token} (h : d_laws_toTokenS a0_ = some r) : Good Try.prog 67 [D.sl ((a0_).map Token.c)] (D.fr 103 2 ((r).map Token.c)) := by
  refine Good.of (c := bodyOf Try.f67) Try.func67 rfl (by decide) (by simp [Try.f67]) ?_
  intro hr Γ hΓ
  have hΓ : Γ.nt = 23 := hΓ
  rw [d_laws_toTokenS] at h
  refine (show AW Try.prog Γ (bodyOf Try.f67) (KQ Try.prog Γ (fun _ _ => False) (RetQ Try.prog Try.f67 (D.fr 103 2 ((r).map Token.c))) []) _ from ?_)
  obtain ⟨h1, h⟩ := den_ok h
  refine AW_go (n := 2000) [[some (103, 2)]] [.cn [0, 3, 4] [0]] (.lp (dig (bodyOf Try.f67) [1, 1, 0, 1, 0, 0] []).1 (dig (bodyOf Try.f67) [1, 1, 0, 1, 0] []).2 ⟨[(0, D.sl ((a0_).map Token.c)), (3, D.acc 0), (4, D.int .i64 (0))], [Ob.row .uq 103 2 (List.replicate ((((a0_).map Token.c).length : Int)).toNat [D.sl ([]), D.sl ([])])]⟩) [((((a0_).map Token.c).length : Int) : Int) = ((((a0_).map Token.c).length : Int)) ∧ 0 ≤ ((((a0_).map Token.c).length : Int) : Int) ∧ 48 * ((((a0_).map Token.c).length : Int) : Int).toNat ≤ 281474976710656 ∧ ((((a0_).map Token.c).length : Int) : Int).toNat ≤ 4611686018427387904] hΓ mix (by kernel_rfl) ⟨(roomM_ok h1), trivial⟩ (AW_st (by first | rfl | (simp only [List.map_append, List.map_cons, List.map_nil, List.map_set, List.map_replicate] <;> rfl)) (AW_of_r (d_laws_toTokenS_L1w hΓ (fun q1_0 h => ?_) (by have := (Rdb.sl (hr _ (List.mem_of_getElem? (i := 0) rfl))).1; simpa using this) (a0_) 0 (List.replicate ((((a0_).map Token.c).length : Int)).toNat (⟨[], []⟩ : Token)) rfl h)))
  have h := den_some h
  subst h
  exact AW_go (n := 2000) [[some (103, 2)]] [] (.ret (D.fr 103 2 ((q1_0).map Token.c))) [] hΓ mix (by kernel_rfl) trivial (by first | rfl | (simp only [List.map_append, List.map_cons, List.map_nil, List.map_set] <;> rfl))

def d_laws_toNode (a0_ : Node) : Option Node := ((d_laws_toCond (a0_.cond)).bind fun y1 => ((d_laws_toTokenS (a0_.tokens)).bind fun y3 => (some ((⟨a0_.parent, y1, a0_.alpha, y3⟩ : Node)))))
set_option maxRecDepth 100000 in
set_option linter.unusedVariables false in
theorem d_laws_toNode_good {a0_ : Node} {r : Node} (h : d_laws_toNode a0_ = some r) : Good Try.prog 43 [D.agg [D.int .i64 (a0_.parent), D.int .i64 (a0_.cond.kind), D.str (a0_.cond.pat.rel), D.sl ((a0_.cond.pat.args).map tx), D.str (a0_.cond.left), D.str (a0_.cond.right), D.int .i64 (a0_.alpha), D.sl ((a0_.tokens).map Token.c)]] (D.agg [D.int .i64 (r.parent), D.int .i64 (r.cond.kind), D.str (r.cond.pat.rel), D.fr 9 1 ((r.cond.pat.args).map tx), D.str (r.cond.left), D.str (r.cond.right), D.int .i64 (r.alpha), D.fr 103 2 ((r.tokens).map Token.c)]) := by
  refine Good.of (c := bodyOf Try.f43) Try.func43 rfl (by decide) (by simp [Try.f43]) ?_
  intro hr Γ hΓ
  have hΓ : Γ.nt = 19 := hΓ
  rw [d_laws_toNode] at h
  refine (show AW Try.prog Γ (bodyOf Try.f43) (KQ Try.prog Γ (fun _ _ => False) (RetQ Try.prog Try.f43 (D.agg [D.int .i64 (r.parent), D.int .i64 (r.cond.kind), D.str (r.cond.pat.rel), D.fr 9 1 ((r.cond.pat.args).map tx), D.str (r.cond.left), D.str (r.cond.right), D.int .i64 (r.alpha), D.fr 103 2 ((r.tokens).map Token.c)])) []) _ from ?_)
  obtain ⟨y1, h2, h⟩ := den_bind h
  obtain ⟨y3, h4, h⟩ := den_bind h
  have h := den_some h
  subst h
  exact AW_go (n := 2000) [[none, none, none, some (9, 1), none, none, none, some (103, 2)]] [.d (D.agg [D.int .i64 (y1.kind), D.str (y1.pat.rel), D.fr 9 1 ((y1.pat.args).map tx), D.str (y1.left), D.str (y1.right)]), .d (D.fr 103 2 ((y3).map Token.c))] (.ret (D.agg [D.int .i64 (a0_.parent), D.int .i64 (y1.kind), D.str (y1.pat.rel), D.fr 9 1 ((y1.pat.args).map tx), D.str (y1.left), D.str (y1.right), D.int .i64 (a0_.alpha), D.fr 103 2 ((y3).map Token.c)])) [Good Try.prog 66 [D.agg [D.int .i64 (a0_.cond.kind), D.str (a0_.cond.pat.rel), D.sl ((a0_.cond.pat.args).map tx), D.str (a0_.cond.left), D.str (a0_.cond.right)]] (D.agg [D.int .i64 (y1.kind), D.str (y1.pat.rel), D.fr 9 1 ((y1.pat.args).map tx), D.str (y1.left), D.str (y1.right)]), Good Try.prog 67 [D.sl ((a0_.tokens).map Token.c)] (D.fr 103 2 ((y3).map Token.c))] hΓ mix (by kernel_rfl) ⟨(d_laws_toCond_good h2), (d_laws_toTokenS_good h4), trivial⟩ (by first | rfl | (simp only [List.map_append, List.map_cons, List.map_nil, List.map_set] <;> rfl))

def d_laws_toNodeS_L1 (a0_ : List Node) (k1 : List Node → Option (List Node)) : List Node → Nat → List Node → Option (List Node)
  | [], i1, w1_0 => (k1 (w1_0))
  | x1_ :: xs1, i1, w1_0 => ((d_laws_toNode (x1_)).bind fun y41 => (bif decide (i1 < ((w1_0).map Node.c).length) then (((w1_0)[i1]?).bind fun x44 => (d_laws_toNodeS_L1 a0_ k1 xs1 (i1 + 1) ((w1_0).set i1 y41))) else none))

def d_laws_toNodeS (a0_ : List Node) : Option (List Node) := (bif roomM ((((a0_).map Node.c).length : Int)) 120 then (d_laws_toNodeS_L1 a0_ (fun (q1_0 : List Node) => (some (q1_0))) (a0_) 0 (List.replicate ((((a0_).map Node.c).length : Int)).toNat (⟨(0 : Int), (⟨(0 : Int), (⟨([] : Bytes), []⟩ : Fact), ([] : Bytes), ([] : Bytes)⟩ : Cond), (0 : Int), []⟩ : Node))) else none)
set_option maxRecDepth 100000 in
set_option linter.unusedVariables false in
theorem d_laws_toNodeS_L1w {Γ : Ctx} (hΓ : Γ.nt = 23) {N : Nat → St → Prop} {a0_ : List Node} {r : List Node} {k1 : List Node → Option (List Node)} (hE1 : ∀ (q1_0 : List Node), k1 q1_0 = some r → AW Try.prog Γ (dig (bodyOf Try.f20) [1, 1, 1] []).1 (KQ Try.prog Γ N (RetQ Try.prog Try.f20 (D.fr 55 8 ((r).map Node.c))) (dig (bodyOf Try.f20) [1, 1, 1] []).2) ⟨[(3, D.acc 0)], [Ob.row .uq 55 8 ((q1_0).map Node.c)]⟩) (hm1 : (a0_).length ≤ maxLen) : ∀ (rest : List Node) (i1 : Nat) (w1_0 : List Node), (a0_).drop i1 = rest → d_laws_toNodeS_L1 a0_ k1 rest i1 w1_0 = some r → AWr Try.prog Γ (dig (bodyOf Try.f20) [1, 1, 0, 1, 0, 0] []).1 (KQ Try.prog Γ N (RetQ Try.prog Try.f20 (D.fr 55 8 ((r).map Node.c))) (dig (bodyOf Try.f20) [1, 1, 0, 1, 0] []).2) (rest.length + 1) ⟨[(0, D.sl ((a0_).map Node.c)), (3, D.acc 0), (4, D.int .i64 ((i1 : Int)))], [Ob.row .uq 55 8 ((w1_0).map Node.c)]⟩ := by
  intro rest
  induction rest with
  | nil =>
    intro i1 w1_0 hd1 h
    rw [d_laws_toNodeS_L1] at h
    refine AWr_succ fun N1 hN1 hS1 => ?_
    have t := AW_N (N := N) (N' := N1) (K0 := (dig (bodyOf Try.f20) [1, 1, 0, 1, 0] []).2) (by kernel_rfl) hN1 (hE1 (w1_0) h)
    refine AW_go (n := 2000) [[some (55, 8)]] [.b false, .hl 0 [3] [0]] (.at_ (dig (bodyOf Try.f20) [1, 1, 1] []).1 (dig (bodyOf Try.f20) [1, 1, 1] []).2 ⟨[(3, D.acc 0)], [Ob.row .uq 55 8 ((w1_0).map Node.c)]⟩) [(decide (((i1 : Int) : Int) < ((((a0_).map Node.c).length : Int)))) = false] hΓ mix (by kernel_rfl) ⟨((by rw [List.length_map]; exact lt_false (drop_nil hd1))), trivial⟩ ?_
    first | exact t | (simp only [List.map_append, List.map_cons, List.map_nil, List.map_set] at t ⊢; exact t)
  | cons x1_ xs1 ih1 =>
    intro i1 w1_0 hd1 h
    rw [d_laws_toNodeS_L1] at h
    refine AWr_succ fun N1 hN1 hS1 => ?_
    obtain ⟨y41, h42, h⟩ := den_bind h
    obtain ⟨h43, h⟩ := den_ok h
    obtain ⟨x44, h45, h⟩ := den_bind h
    have t := ih1 (i1 + 1) ((w1_0).set i1 y41) (drop_cons hd1).2.2 h
    refine AW_go (n := 2000) [[some (55, 8)]] [.b true, .row [D.int .i64 (x1_.parent), D.int .i64 (x1_.cond.kind), D.str (x1_.cond.pat.rel), D.sl ((x1_.cond.pat.args).map tx), D.str (x1_.cond.left), D.str (x1_.cond.right), D.int .i64 (x1_.alpha), D.sl ((x1_.tokens).map Token.c)], .d (D.agg [D.int .i64 (y41.parent), D.int .i64 (y41.cond.kind), D.str (y41.cond.pat.rel), D.fr 9 1 ((y41.cond.pat.args).map tx), D.str (y41.cond.left), D.str (y41.cond.right), D.int .i64 (y41.alpha), D.fr 103 2 ((y41.tokens).map Token.c)]), .ix i1, .row [D.int .i64 (x44.parent), D.int .i64 (x44.cond.kind), D.str (x44.cond.pat.rel), D.sl ((x44.cond.pat.args).map tx), D.str (x44.cond.left), D.str (x44.cond.right), D.int .i64 (x44.alpha), D.sl ((x44.tokens).map Token.c)], .cn [0, 3, 4] [0]] (.cont 0 ⟨[(0, D.sl ((a0_).map Node.c)), (3, D.acc 0), (4, D.int .i64 (IntKind.i64.wrap (((i1 : Int)) + (1))))], [Ob.row .uq 55 8 (((w1_0).map Node.c).set i1 [D.int .i64 (y41.parent), D.int .i64 (y41.cond.kind), D.str (y41.cond.pat.rel), D.sl ((y41.cond.pat.args).map tx), D.str (y41.cond.left), D.str (y41.cond.right), D.int .i64 (y41.alpha), D.sl ((y41.tokens).map Token.c)])]⟩) [(decide (((i1 : Int) : Int) < ((((a0_).map Node.c).length : Int)))) = true, 0 ≤ ((i1 : Int)) ∧ ((a0_).map Node.c)[((i1 : Int)).toNat]? = some [D.int .i64 (x1_.parent), D.int .i64 (x1_.cond.kind), D.str (x1_.cond.pat.rel), D.sl ((x1_.cond.pat.args).map tx), D.str (x1_.cond.left), D.str (x1_.cond.right), D.int .i64 (x1_.alpha), D.sl ((x1_.tokens).map Token.c)] ∧ ([D.int .i64 (x1_.parent), D.int .i64 (x1_.cond.kind), D.str (x1_.cond.pat.rel), D.sl ((x1_.cond.pat.args).map tx), D.str (x1_.cond.left), D.str (x1_.cond.right), D.int .i64 (x1_.alpha), D.sl ((x1_.tokens).map Token.c)] : List D).length = 8, Good Try.prog 43 [D.agg [D.int .i64 (x1_.parent), D.int .i64 (x1_.cond.kind), D.str (x1_.cond.pat.rel), D.sl ((x1_.cond.pat.args).map tx), D.str (x1_.cond.left), D.str (x1_.cond.right), D.int .i64 (x1_.alpha), D.sl ((x1_.tokens).map Token.c)]] (D.agg [D.int .i64 (y41.parent), D.int .i64 (y41.cond.kind), D.str (y41.cond.pat.rel), D.fr 9 1 ((y41.cond.pat.args).map tx), D.str (y41.cond.left), D.str (y41.cond.right), D.int .i64 (y41.alpha), D.fr 103 2 ((y41.tokens).map Token.c)]), 8 = 8 ∧ ((i1 : Int)) = ((i1 : Nat) : Int) ∧ i1 < ((w1_0).map Node.c).length, ((w1_0).map Node.c)[i1]? = some [D.int .i64 (x44.parent), D.int .i64 (x44.cond.kind), D.str (x44.cond.pat.rel), D.sl ((x44.cond.pat.args).map tx), D.str (x44.cond.left), D.str (x44.cond.right), D.int .i64 (x44.alpha), D.sl ((x44.tokens).map Token.c)]] hΓ mix (by kernel_rfl) ⟨((by rw [List.length_map]; exact lt_true (drop_cons hd1).2.1)), (⟨(map_at Node.c (drop_cons hd1).1).1, (map_at Node.c (drop_cons hd1).1).2, rfl⟩), (d_laws_toNode_good h42), (⟨rfl, rfl, of_decide_eq_true h43⟩), (map_get Node.c h45), trivial⟩ ?_
    refine (congrFun hS1 _).mpr ?_
    rw [i64_succ (drop_cons hd1).2.1 hm1]
    first | exact t | (simp only [List.map_append, List.map_cons, List.map_nil, List.map_set] at t ⊢; exact t)

set_option maxRecDepth 100000 in
set_option linter.unusedVariables false in
theorem d_laws_toNodeS_good {a0_ : List Node} {r : List Node} (h : d_laws_toNodeS a0_ = some r) : Good Try.prog 20 [D.sl ((a0_).map Node.c)] (D.fr 55 8 ((r).map Node.c)) := by
  refine Good.of (c := bodyOf Try.f20) Try.func20 rfl (by decide) (by simp [Try.f20]) ?_
  intro hr Γ hΓ
  have hΓ : Γ.nt = 23 := hΓ
  rw [d_laws_toNodeS] at h
  refine (show AW Try.prog Γ (bodyOf Try.f20) (KQ Try.prog Γ (fun _ _ => False) (RetQ Try.prog Try.f20 (D.fr 55 8 ((r).map Node.c))) []) _ from ?_)
  obtain ⟨h1, h⟩ := den_ok h
  refine AW_go (n := 2000) [[some (55, 8)]] [.cn [0, 3, 4] [0]] (.lp (dig (bodyOf Try.f20) [1, 1, 0, 1, 0, 0] []).1 (dig (bodyOf Try.f20) [1, 1, 0, 1, 0] []).2 ⟨[(0, D.sl ((a0_).map Node.c)), (3, D.acc 0), (4, D.int .i64 (0))], [Ob.row .uq 55 8 (List.replicate ((((a0_).map Node.c).length : Int)).toNat [D.int .i64 (0), D.int .i64 (0), D.str ([]), D.sl ([]), D.str ([]), D.str ([]), D.int .i64 (0), D.sl ([])])]⟩) [((((a0_).map Node.c).length : Int) : Int) = ((((a0_).map Node.c).length : Int)) ∧ 0 ≤ ((((a0_).map Node.c).length : Int) : Int) ∧ 120 * ((((a0_).map Node.c).length : Int) : Int).toNat ≤ 281474976710656 ∧ ((((a0_).map Node.c).length : Int) : Int).toNat ≤ 4611686018427387904] hΓ mix (by kernel_rfl) ⟨(roomM_ok h1), trivial⟩ (AW_st (by first | rfl | (simp only [List.map_append, List.map_cons, List.map_nil, List.map_set, List.map_replicate] <;> rfl)) (AW_of_r (d_laws_toNodeS_L1w hΓ (fun q1_0 h => ?_) (by have := (Rdb.sl (hr _ (List.mem_of_getElem? (i := 0) rfl))).1; simpa using this) (a0_) 0 (List.replicate ((((a0_).map Node.c).length : Int)).toNat (⟨(0 : Int), (⟨(0 : Int), (⟨([] : Bytes), []⟩ : Fact), ([] : Bytes), ([] : Bytes)⟩ : Cond), (0 : Int), []⟩ : Node)) rfl h)))
  have h := den_some h
  subst h
  exact AW_go (n := 2000) [[some (55, 8)]] [] (.ret (D.fr 55 8 ((q1_0).map Node.c))) [] hΓ mix (by kernel_rfl) trivial (by first | rfl | (simp only [List.map_append, List.map_cons, List.map_nil, List.map_set] <;> rfl))

def d_laws_toNetwork (a0_ : Network) : Option Network := ((d_laws_toRuleS (a0_.rules)).bind fun y1 => ((d_laws_toIntS (a0_.ends)).bind fun y3 => ((d_laws_toAlphaS (a0_.alphas)).bind fun y5 => ((d_laws_toNodeS (a0_.nodes)).bind fun y7 => ((d_laws_toFactS (a0_.facts)).bind fun y9 => (some ((⟨y1, y3, y5, y7, y9, a0_.tries⟩ : Network))))))))
set_option maxRecDepth 100000 in
set_option linter.unusedVariables false in
theorem d_laws_toNetwork_good {a0_ : Network} {r : Network} (h : d_laws_toNetwork a0_ = some r) : Good Try.prog 7 [D.agg [D.sl ((a0_.rules).map Rule.c), D.sl ((a0_.ends).map ixx), D.sl ((a0_.alphas).map Alpha.c), D.sl ((a0_.nodes).map Node.c), D.sl ((a0_.facts).map Fact.c), D.int .i64 (a0_.tries)]] (D.agg [D.fr 70 4 ((r.rules).map Rule.c), D.fr 3 1 ((r.ends).map ixx), D.fr 50 3 ((r.alphas).map Alpha.c), D.fr 55 8 ((r.nodes).map Node.c), D.fr 94 2 ((r.facts).map Fact.c), D.int .i64 (r.tries)]) := by
  refine Good.of (c := bodyOf Try.f7) Try.func7 rfl (by decide) (by simp [Try.f7]) ?_
  intro hr Γ hΓ
  have hΓ : Γ.nt = 28 := hΓ
  rw [d_laws_toNetwork] at h
  refine (show AW Try.prog Γ (bodyOf Try.f7) (KQ Try.prog Γ (fun _ _ => False) (RetQ Try.prog Try.f7 (D.agg [D.fr 70 4 ((r.rules).map Rule.c), D.fr 3 1 ((r.ends).map ixx), D.fr 50 3 ((r.alphas).map Alpha.c), D.fr 55 8 ((r.nodes).map Node.c), D.fr 94 2 ((r.facts).map Fact.c), D.int .i64 (r.tries)])) []) _ from ?_)
  obtain ⟨y1, h2, h⟩ := den_bind h
  obtain ⟨y3, h4, h⟩ := den_bind h
  obtain ⟨y5, h6, h⟩ := den_bind h
  obtain ⟨y7, h8, h⟩ := den_bind h
  obtain ⟨y9, h10, h⟩ := den_bind h
  have h := den_some h
  subst h
  exact AW_go (n := 2000) [[some (70, 4), some (3, 1), some (50, 3), some (55, 8), some (94, 2), none]] [.d (D.fr 70 4 ((y1).map Rule.c)), .d (D.fr 3 1 ((y3).map ixx)), .d (D.fr 50 3 ((y5).map Alpha.c)), .d (D.fr 55 8 ((y7).map Node.c)), .d (D.fr 94 2 ((y9).map Fact.c))] (.ret (D.agg [D.fr 70 4 ((y1).map Rule.c), D.fr 3 1 ((y3).map ixx), D.fr 50 3 ((y5).map Alpha.c), D.fr 55 8 ((y7).map Node.c), D.fr 94 2 ((y9).map Fact.c), D.int .i64 (a0_.tries)])) [Good Try.prog 17 [D.sl ((a0_.rules).map Rule.c)] (D.fr 70 4 ((y1).map Rule.c)), Good Try.prog 18 [D.sl ((a0_.ends).map ixx)] (D.fr 3 1 ((y3).map ixx)), Good Try.prog 19 [D.sl ((a0_.alphas).map Alpha.c)] (D.fr 50 3 ((y5).map Alpha.c)), Good Try.prog 20 [D.sl ((a0_.nodes).map Node.c)] (D.fr 55 8 ((y7).map Node.c)), Good Try.prog 21 [D.sl ((a0_.facts).map Fact.c)] (D.fr 94 2 ((y9).map Fact.c))] hΓ mix (by kernel_rfl) ⟨(d_laws_toRuleS_good h2), (d_laws_toIntS_good h4), (d_laws_toAlphaS_good h6), (d_laws_toNodeS_good h8), (d_laws_toFactS_good h10), trivial⟩ (by first | rfl | (simp only [List.map_append, List.map_cons, List.map_nil, List.map_set] <;> rfl))

end Go.Cx
