/- What functions of the program compute, and the walks that show it. No condition. -/
import Derived.Test.YtocmmccbfnhfpaaNLay
namespace Go.Cx
open Go.RowKit Go.Proofs
set_option linter.unusedVariables false
set_option linter.unusedSimpArgs false
set_option maxRecDepth 100000
def d_spec_l1Texts (a0_ : List Bytes) : Option (List Bytes) := (bif room ((([] : List (List D))).length + ((a0_).map tx).length) 16 then (some ((([] : List Bytes)) ++ (a0_))) else none)
theorem d_spec_l1Texts_good {a0_ : List Bytes} {r : List Bytes} (h : d_spec_l1Texts a0_ = some r) : Good Try.prog 133 [D.sl ((a0_).map tx)] (D.fr 9 1 ((r).map tx)) := by
  refine Good.of (c := bodyOf Try.f133) Try.func133 rfl (by decide) (by simp [Try.f133]) ?_
  intro hr Γ hΓ
  have hΓ : Γ.nt = 6 := hΓ
  rw [d_spec_l1Texts] at h
  refine (show AW Try.prog Γ (bodyOf Try.f133) (KQ Try.prog Γ (fun _ _ => False) (RetQ Try.prog Try.f133 (D.fr 9 1 ((r).map tx))) []) _ from ?_)
  obtain ⟨h1, h⟩ := den_ok h
  have h := den_some h
  subst h
  exact AW_go (n := 2000) [[some (9, 1)]] [.pro 2, .fl true] (.ret (D.fr 9 1 ((([] : List (List D))) ++ ((a0_).map tx)))) hΓ mix (by kernel_rfl) (ow (room_ok h1) (ow (show (∀ r ∈ ((a0_).map tx), r.length = 1) ∧ (true = true → D.flatRows ((a0_).map tx) = true) from ⟨by simp, by simp [D.flatRows, D.flat]⟩) ow0)) (by first | rfl | (simp only [List.map_append, List.map_cons, List.map_nil, List.map_set] <;> rfl))
def d_spec_l2Copy (a0_ : Fact) : Option Fact := ((d_spec_l1Texts (a0_.args)).bind fun y1 => (some ((⟨a0_.rel, y1⟩ : Fact))))
theorem d_spec_l2Copy_good {a0_ : Fact} {r : Fact} (h : d_spec_l2Copy a0_ = some r) : Good Try.prog 70 [D.agg (Fact.c a0_)] (D.agg [D.str (r.rel), D.fr 9 1 ((r.args).map tx)]) := by
  refine Good.of (c := bodyOf Try.f70) Try.func70 rfl (by decide) (by simp [Try.f70]) ?_
  intro hr Γ hΓ
  have hΓ : Γ.nt = 9 := hΓ
  rw [d_spec_l2Copy] at h
  refine (show AW Try.prog Γ (bodyOf Try.f70) (KQ Try.prog Γ (fun _ _ => False) (RetQ Try.prog Try.f70 (D.agg [D.str (r.rel), D.fr 9 1 ((r.args).map tx)])) []) _ from ?_)
  obtain ⟨y1, h2, h⟩ := den_bind h
  have h := den_some h
  subst h
  exact AW_go (n := 2000) [[none, some (9, 1)]] [.n 5, .d (D.fr 9 1 ((y1).map tx))] (.ret (D.agg [D.str (a0_.rel), D.fr 9 1 ((y1).map tx)])) hΓ mix (by kernel_rfl) (ow (d_spec_l1Texts_good h2) ow0) rfl
def d_spec_FactsIn_L1 (a0_ : List Stamp) (k1 : List Fact → Option (List Fact)) : List Stamp → Nat → List Fact → Option (List Fact)
  | [], i1, w1_0 => (k1 (w1_0))
  | x1_ :: xs1, i1, w1_0 => ((d_spec_l2Copy (x1_.fact)).bind fun y27 => (bif room (((w1_0).map Fact.c).length + ([[D.str (y27.rel), D.sl ((y27.args).map tx)]]).length) 40 then (d_spec_FactsIn_L1 a0_ k1 xs1 (i1 + 1) ((w1_0) ++ ([y27]))) else none))
def d_spec_FactsIn (a0_ : List Stamp) : Option (List Fact) := (d_spec_FactsIn_L1 a0_ (fun (q1_0 : List Fact) => (some (q1_0))) (a0_) 0 (([] : List Fact)))
theorem d_spec_FactsIn_L1w {Γ : Ctx} (hΓ : Γ.nt = 22) {N : Nat → St → Prop} {a0_ : List Stamp} {r : List Fact} {k1 : List Fact → Option (List Fact)} (hE1 : ∀ (q1_0 : List Fact), k1 q1_0 = some r → AW Try.prog Γ (dig (bodyOf Try.f16) [1, 1, 1] []).1 (KQ Try.prog Γ N (RetQ Try.prog Try.f16 (D.fr 92 2 ((r).map Fact.c))) (dig (bodyOf Try.f16) [1, 1, 1] []).2) ⟨[(3, D.acc 0)], [Ob.row .uq 92 2 ((q1_0).map Fact.c)]⟩) (hm1 : (a0_).length ≤ maxLen) : ∀ (rest : List Stamp) (i1 : Nat) (w1_0 : List Fact), (a0_).drop i1 = rest → d_spec_FactsIn_L1 a0_ k1 rest i1 w1_0 = some r → AWr Try.prog Γ (dig (bodyOf Try.f16) [1, 1, 0, 1, 0, 0] []).1 (KQ Try.prog Γ N (RetQ Try.prog Try.f16 (D.fr 92 2 ((r).map Fact.c))) (dig (bodyOf Try.f16) [1, 1, 0, 1, 0] []).2) (rest.length + 1) ⟨[(0, D.sl ((a0_).map Stamp.c)), (3, D.acc 0), (4, D.int .i64 ((i1 : Int)))], [Ob.row .uq 92 2 ((w1_0).map Fact.c)]⟩ := by
  intro rest
  induction rest with
  | nil =>
    intro i1 w1_0 hd1 h
    rw [d_spec_FactsIn_L1] at h
    refine AWr_succ fun N1 hN1 hS1 => ?_
    have t := AW_N (N := N) (N' := N1) (K0 := (dig (bodyOf Try.f16) [1, 1, 0, 1, 0] []).2) (by kernel_rfl) hN1 (hE1 (w1_0) h)
    refine AW_go (n := 2000) [[some (92, 2)]] [.b false, .hl 0 [3] [0]] (.at_ (dig (bodyOf Try.f16) [1, 1, 1] []).1 (dig (bodyOf Try.f16) [1, 1, 1] []).2 ⟨[(3, D.acc 0)], [Ob.row .uq 92 2 ((w1_0).map Fact.c)]⟩) hΓ mix (by kernel_rfl) (ow ((ltm_false Stamp.c (drop_nil hd1))) ow0) ?_
    first | exact t | (simp only [List.map_append, List.map_cons, List.map_nil, List.map_set] at t ⊢; exact t)
  | cons x1_ xs1 ih1 =>
    intro i1 w1_0 hd1 h
    rw [d_spec_FactsIn_L1] at h
    refine AWr_succ fun N1 hN1 hS1 => ?_
    obtain ⟨y27, h28, h⟩ := den_bind h
    obtain ⟨h29, h⟩ := den_ok h
    have t := ih1 (i1 + 1) ((w1_0) ++ ([y27])) (drop_cons hd1).2.2 h
    refine AW_go (n := 2000) [[some (92, 2)]] [.b true, .row (Stamp.c x1_), .d (D.agg [D.str (y27.rel), D.fr 9 1 ((y27.args).map tx)]), .cn [0, 3, 4] [3]] (.cont 0 ⟨[(0, D.sl ((a0_).map Stamp.c)), (3, D.acc 0), (4, D.int .i64 (IntKind.i64.wrap (((i1 : Int)) + (1))))], [Ob.row .uq 92 2 (((w1_0).map Fact.c) ++ ([[D.str (y27.rel), D.sl ((y27.args).map tx)]]))]⟩) hΓ mix (by kernel_rfl) (ow ((ltm_true Stamp.c (drop_cons hd1).2.1)) (ow (map_row Stamp.c 3 (drop_cons hd1).1 rfl) (ow (d_spec_l2Copy_good h28) (ow (room_ok h29) ow0)))) ?_
    refine (congrFun hS1 _).mpr ?_
    rw [i64_succ (drop_cons hd1).2.1 hm1]
    first | exact t | (simp only [List.map_append, List.map_cons, List.map_nil, List.map_set] at t ⊢; exact t)
theorem d_spec_FactsIn_good {a0_ : List Stamp} {r : List Fact} (h : d_spec_FactsIn a0_ = some r) : Good Try.prog 16 [D.sl ((a0_).map Stamp.c)] (D.fr 92 2 ((r).map Fact.c)) := by
  refine Good.of (c := bodyOf Try.f16) Try.func16 rfl (by decide) (by simp [Try.f16]) ?_
  intro hr Γ hΓ
  have hΓ : Γ.nt = 22 := hΓ
  rw [d_spec_FactsIn] at h
  refine (show AW Try.prog Γ (bodyOf Try.f16) (KQ Try.prog Γ (fun _ _ => False) (RetQ Try.prog Try.f16 (D.fr 92 2 ((r).map Fact.c))) []) _ from ?_)
  refine AW_go (n := 2000) [[some (92, 2)]] [.cn [0, 3, 4] [0]] (.lp (dig (bodyOf Try.f16) [1, 1, 0, 1, 0, 0] []).1 (dig (bodyOf Try.f16) [1, 1, 0, 1, 0] []).2 ⟨[(0, D.sl ((a0_).map Stamp.c)), (3, D.acc 0), (4, D.int .i64 (0))], [Ob.row .uq 92 2 (([] : List (List D)))]⟩) hΓ mix (by kernel_rfl) ow0 (AW_st (by first | rfl | (simp only [List.map_append, List.map_cons, List.map_nil, List.map_set, List.map_replicate] <;> rfl)) (AW_of_r (d_spec_FactsIn_L1w hΓ (fun q1_0 h => ?_) (by have := (Rdb.sl (hr _ (List.mem_of_getElem? (i := 0) rfl))).1; simpa using this) (a0_) 0 (([] : List Fact)) rfl h)))
  have h := den_some h
  subst h
  exact AW_go (n := 2000) [[some (92, 2)]] [] (.ret (D.fr 92 2 ((q1_0).map Fact.c))) hΓ mix (by kernel_rfl) ow0 rfl
def d_impl_copyTexts (a0_ : List Bytes) : Option (List Bytes) := (bif room ((([] : List (List D))).length + ((a0_).map tx).length) 16 then (some ((([] : List Bytes)) ++ (a0_))) else none)
theorem d_impl_copyTexts_good {a0_ : List Bytes} {r : List Bytes} (h : d_impl_copyTexts a0_ = some r) : Good Try.prog 134 [D.sl ((a0_).map tx)] (D.fr 9 1 ((r).map tx)) := by
  refine Good.of (c := bodyOf Try.f134) Try.func134 rfl (by decide) (by simp [Try.f134]) ?_
  intro hr Γ hΓ
  have hΓ : Γ.nt = 5 := hΓ
  rw [d_impl_copyTexts] at h
  refine (show AW Try.prog Γ (bodyOf Try.f134) (KQ Try.prog Γ (fun _ _ => False) (RetQ Try.prog Try.f134 (D.fr 9 1 ((r).map tx))) []) _ from ?_)
  obtain ⟨h1, h⟩ := den_ok h
  have h := den_some h
  subst h
  exact AW_go (n := 2000) [[some (9, 1)]] [.pro 2, .fl true] (.ret (D.fr 9 1 ((([] : List (List D))) ++ ((a0_).map tx)))) hΓ mix (by kernel_rfl) (ow (room_ok h1) (ow (show (∀ r ∈ ((a0_).map tx), r.length = 1) ∧ (true = true → D.flatRows ((a0_).map tx) = true) from ⟨by simp, by simp [D.flatRows, D.flat]⟩) ow0)) (by first | rfl | (simp only [List.map_append, List.map_cons, List.map_nil, List.map_set] <;> rfl))
def d_impl_copyFact (a0_ : Fact) : Option Fact := ((d_impl_copyTexts (a0_.args)).bind fun y1 => (some ((⟨a0_.rel, y1⟩ : Fact))))
theorem d_impl_copyFact_good {a0_ : Fact} {r : Fact} (h : d_impl_copyFact a0_ = some r) : Good Try.prog 72 [D.agg (Fact.c a0_)] (D.agg [D.str (r.rel), D.fr 9 1 ((r.args).map tx)]) := by
  refine Good.of (c := bodyOf Try.f72) Try.func72 rfl (by decide) (by simp [Try.f72]) ?_
  intro hr Γ hΓ
  have hΓ : Γ.nt = 9 := hΓ
  rw [d_impl_copyFact] at h
  refine (show AW Try.prog Γ (bodyOf Try.f72) (KQ Try.prog Γ (fun _ _ => False) (RetQ Try.prog Try.f72 (D.agg [D.str (r.rel), D.fr 9 1 ((r.args).map tx)])) []) _ from ?_)
  obtain ⟨y1, h2, h⟩ := den_bind h
  have h := den_some h
  subst h
  exact AW_go (n := 2000) [[none, some (9, 1)]] [.n 5, .d (D.fr 9 1 ((y1).map tx))] (.ret (D.agg [D.str (a0_.rel), D.fr 9 1 ((y1).map tx)])) hΓ mix (by kernel_rfl) (ow (d_impl_copyTexts_good h2) ow0) rfl
def d_impl_FactsIn_L1 (a0_ : List Stamp) (k1 : List Fact → Option (List Fact)) : List Stamp → Nat → List Fact → Option (List Fact)
  | [], i1, w1_0 => (k1 (w1_0))
  | x1_ :: xs1, i1, w1_0 => ((d_impl_copyFact (x1_.fact)).bind fun y27 => (bif room (((w1_0).map Fact.c).length + ([[D.str (y27.rel), D.sl ((y27.args).map tx)]]).length) 40 then (d_impl_FactsIn_L1 a0_ k1 xs1 (i1 + 1) ((w1_0) ++ ([y27]))) else none))
def d_impl_FactsIn (a0_ : List Stamp) : Option (List Fact) := (d_impl_FactsIn_L1 a0_ (fun (q1_0 : List Fact) => (some (q1_0))) (a0_) 0 (([] : List Fact)))
theorem d_impl_FactsIn_L1w {Γ : Ctx} (hΓ : Γ.nt = 20) {N : Nat → St → Prop} {a0_ : List Stamp} {r : List Fact} {k1 : List Fact → Option (List Fact)} (hE1 : ∀ (q1_0 : List Fact), k1 q1_0 = some r → AW Try.prog Γ (dig (bodyOf Try.f18) [1, 1, 1] []).1 (KQ Try.prog Γ N (RetQ Try.prog Try.f18 (D.fr 92 2 ((r).map Fact.c))) (dig (bodyOf Try.f18) [1, 1, 1] []).2) ⟨[(3, D.acc 0)], [Ob.row .uq 92 2 ((q1_0).map Fact.c)]⟩) (hm1 : (a0_).length ≤ maxLen) : ∀ (rest : List Stamp) (i1 : Nat) (w1_0 : List Fact), (a0_).drop i1 = rest → d_impl_FactsIn_L1 a0_ k1 rest i1 w1_0 = some r → AWr Try.prog Γ (dig (bodyOf Try.f18) [1, 1, 0, 1, 0, 0] []).1 (KQ Try.prog Γ N (RetQ Try.prog Try.f18 (D.fr 92 2 ((r).map Fact.c))) (dig (bodyOf Try.f18) [1, 1, 0, 1, 0] []).2) (rest.length + 1) ⟨[(3, D.acc 0), (6, D.sl ((a0_).map Stamp.c)), (7, D.int .i64 ((((a0_).map Stamp.c).length : Int))), (8, D.int .i64 ((i1 : Int)))], [Ob.row .uq 92 2 ((w1_0).map Fact.c)]⟩ := by
  intro rest
  induction rest with
  | nil =>
    intro i1 w1_0 hd1 h
    rw [d_impl_FactsIn_L1] at h
    refine AWr_succ fun N1 hN1 hS1 => ?_
    have t := AW_N (N := N) (N' := N1) (K0 := (dig (bodyOf Try.f18) [1, 1, 0, 1, 0] []).2) (by kernel_rfl) hN1 (hE1 (w1_0) h)
    refine AW_go (n := 2000) [[some (92, 2)]] [.b false, .hl 0 [3] [0]] (.at_ (dig (bodyOf Try.f18) [1, 1, 1] []).1 (dig (bodyOf Try.f18) [1, 1, 1] []).2 ⟨[(3, D.acc 0)], [Ob.row .uq 92 2 ((w1_0).map Fact.c)]⟩) hΓ mix (by kernel_rfl) (ow ((ltm_false Stamp.c (drop_nil hd1))) ow0) ?_
    first | exact t | (simp only [List.map_append, List.map_cons, List.map_nil, List.map_set] at t ⊢; exact t)
  | cons x1_ xs1 ih1 =>
    intro i1 w1_0 hd1 h
    rw [d_impl_FactsIn_L1] at h
    refine AWr_succ fun N1 hN1 hS1 => ?_
    obtain ⟨y27, h28, h⟩ := den_bind h
    obtain ⟨h29, h⟩ := den_ok h
    have t := ih1 (i1 + 1) ((w1_0) ++ ([y27])) (drop_cons hd1).2.2 h
    refine AW_go (n := 2000) [[some (92, 2)]] [.b true, .row (Stamp.c x1_), .d (D.agg [D.str (y27.rel), D.fr 9 1 ((y27.args).map tx)]), .cn [3, 6, 7, 8] [4]] (.cont 0 ⟨[(3, D.acc 0), (6, D.sl ((a0_).map Stamp.c)), (7, D.int .i64 ((((a0_).map Stamp.c).length : Int))), (8, D.int .i64 (IntKind.i64.wrap (((i1 : Int)) + (1))))], [Ob.row .uq 92 2 (((w1_0).map Fact.c) ++ ([[D.str (y27.rel), D.sl ((y27.args).map tx)]]))]⟩) hΓ mix (by kernel_rfl) (ow ((ltm_true Stamp.c (drop_cons hd1).2.1)) (ow (map_row Stamp.c 3 (drop_cons hd1).1 rfl) (ow (d_impl_copyFact_good h28) (ow (room_ok h29) ow0)))) ?_
    refine (congrFun hS1 _).mpr ?_
    rw [i64_succ (drop_cons hd1).2.1 hm1]
    first | exact t | (simp only [List.map_append, List.map_cons, List.map_nil, List.map_set] at t ⊢; exact t)
theorem d_impl_FactsIn_good {a0_ : List Stamp} {r : List Fact} (h : d_impl_FactsIn a0_ = some r) : Good Try.prog 18 [D.sl ((a0_).map Stamp.c)] (D.fr 92 2 ((r).map Fact.c)) := by
  refine Good.of (c := bodyOf Try.f18) Try.func18 rfl (by decide) (by simp [Try.f18]) ?_
  intro hr Γ hΓ
  have hΓ : Γ.nt = 20 := hΓ
  rw [d_impl_FactsIn] at h
  refine (show AW Try.prog Γ (bodyOf Try.f18) (KQ Try.prog Γ (fun _ _ => False) (RetQ Try.prog Try.f18 (D.fr 92 2 ((r).map Fact.c))) []) _ from ?_)
  refine AW_go (n := 2000) [[some (92, 2)]] [.pro 3, .cn [3, 6, 7, 8] [0]] (.lp (dig (bodyOf Try.f18) [1, 1, 0, 1, 0, 0] []).1 (dig (bodyOf Try.f18) [1, 1, 0, 1, 0] []).2 ⟨[(3, D.acc 0), (6, D.sl ((a0_).map Stamp.c)), (7, D.int .i64 ((((a0_).map Stamp.c).length : Int))), (8, D.int .i64 (0))], [Ob.row .uq 92 2 (([] : List (List D)))]⟩) hΓ mix (by kernel_rfl) ow0 (AW_st (by first | rfl | (simp only [List.map_append, List.map_cons, List.map_nil, List.map_set, List.map_replicate] <;> rfl)) (AW_of_r (d_impl_FactsIn_L1w hΓ (fun q1_0 h => ?_) (by have := (Rdb.sl (hr _ (List.mem_of_getElem? (i := 0) rfl))).1; simpa using this) (a0_) 0 (([] : List Fact)) rfl h)))
  have h := den_some h
  subst h
  exact AW_go (n := 2000) [[some (92, 2)]] [] (.ret (D.fr 92 2 ((q1_0).map Fact.c))) hΓ mix (by kernel_rfl) ow0 rfl
end Go.Cx
