/- What functions of the program compute, and the walks that show it. No condition. -/
import Derived.Test.YtamlfpljmobdoaaDoorNData
namespace Go.Cx
open Go.RowKit Go.Proofs
set_option linter.unusedVariables false
set_option linter.unusedSimpArgs false
set_option maxRecDepth 100000
def d_laws_toStringS_L1 (a0_ : List Bytes) (k1 : List Bytes → Option (List Bytes)) : List Bytes → Nat → List Bytes → Option (List Bytes)
  | [], i1, w1_0 => (k1 (w1_0))
  | x1_ :: xs1, i1, w1_0 => (bif decide (i1 < ((w1_0).map tx).length) then (((w1_0)[i1]?).bind fun x30 => (d_laws_toStringS_L1 a0_ k1 xs1 (i1 + 1) ((w1_0).set i1 x1_))) else none)
def d_laws_toStringS (a0_ : List Bytes) : Option (List Bytes) := (bif roomM ((((a0_).map tx).length : Int)) 16 then (d_laws_toStringS_L1 a0_ (fun (q1_0 : List Bytes) => (some (q1_0))) (a0_) 0 (List.replicate ((((a0_).map tx).length : Int)).toNat ([] : Bytes))) else none)
theorem d_laws_toStringS_L1w {Γ : Ctx} (hΓ : Γ.nt = 22) {N : Nat → St → Prop} {a0_ : List Bytes} {r : List Bytes} {k1 : List Bytes → Option (List Bytes)} (hE1 : ∀ (q1_0 : List Bytes), k1 q1_0 = some r → AW Tryd.prog Γ (dig (bodyOf Tryd.f76) [1, 1, 1] []).1 (KQ Tryd.prog Γ N (RetQ Tryd.prog Tryd.f76 (D.fr 9 1 ((r).map tx))) (dig (bodyOf Tryd.f76) [1, 1, 1] []).2) ⟨[(3, D.acc 0)], [Ob.row .uq 9 1 ((q1_0).map tx)]⟩) (hm1 : (a0_).length ≤ maxLen) : ∀ (rest : List Bytes) (i1 : Nat) (w1_0 : List Bytes), (a0_).drop i1 = rest → d_laws_toStringS_L1 a0_ k1 rest i1 w1_0 = some r → AWr Tryd.prog Γ (dig (bodyOf Tryd.f76) [1, 1, 0, 1, 0, 0] []).1 (KQ Tryd.prog Γ N (RetQ Tryd.prog Tryd.f76 (D.fr 9 1 ((r).map tx))) (dig (bodyOf Tryd.f76) [1, 1, 0, 1, 0] []).2) (rest.length + 1) ⟨[(0, D.sl ((a0_).map tx)), (3, D.acc 0), (4, D.int .i64 ((i1 : Int)))], [Ob.row .uq 9 1 ((w1_0).map tx)]⟩ := by
  intro rest
  induction rest with
  | nil =>
    intro i1 w1_0 hd1 h
    rw [d_laws_toStringS_L1] at h
    refine AWr_succ fun N1 hN1 hS1 => ?_
    have t := AW_N (N := N) (N' := N1) (K0 := (dig (bodyOf Tryd.f76) [1, 1, 0, 1, 0] []).2) (by kernel_rfl) hN1 (hE1 (w1_0) h)
    refine AW_go (n := 2000) [[some (9, 1)]] [.b false, .hl 0 [3] [0]] (.at_ (dig (bodyOf Tryd.f76) [1, 1, 1] []).1 (dig (bodyOf Tryd.f76) [1, 1, 1] []).2 ⟨[(3, D.acc 0)], [Ob.row .uq 9 1 ((w1_0).map tx)]⟩) hΓ mix (by kernel_rfl) (ow ((ltm_false tx (drop_nil hd1))) ow0) ?_
    first | exact t | (simp only [List.map_append, List.map_cons, List.map_nil, List.map_set] at t ⊢; exact t)
  | cons x1_ xs1 ih1 =>
    intro i1 w1_0 hd1 h
    rw [d_laws_toStringS_L1] at h
    refine AWr_succ fun N1 hN1 hS1 => ?_
    obtain ⟨h29, h⟩ := den_ok h
    obtain ⟨x30, h31, h⟩ := den_bind h
    have t := ih1 (i1 + 1) ((w1_0).set i1 x1_) (drop_cons hd1).2.2 h
    refine AW_go (n := 2000) [[some (9, 1)]] [.b true, .row (tx x1_), .ix i1, .row [D.str (x30)], .cn [0, 3, 4] [0]] (.cont 0 ⟨[(0, D.sl ((a0_).map tx)), (3, D.acc 0), (4, D.int .i64 (IntKind.i64.wrap (((i1 : Int)) + (1))))], [Ob.row .uq 9 1 (((w1_0).map tx).set i1 [D.str (x1_)])]⟩) hΓ mix (by kernel_rfl) (ow ((ltm_true tx (drop_cons hd1).2.1)) (ow (map_row tx 1 (drop_cons hd1).1 rfl) (ow (own_ix 1 h29) (ow (show ((w1_0).map tx)[i1]? = some [D.str (x30)] from map_get tx h31) ow0)))) ?_
    refine (congrFun hS1 _).mpr ?_
    rw [i64_succ (drop_cons hd1).2.1 hm1]
    first | exact t | (simp only [List.map_append, List.map_cons, List.map_nil, List.map_set] at t ⊢; exact t)
theorem d_laws_toStringS_good {a0_ : List Bytes} {r : List Bytes} (h : d_laws_toStringS a0_ = some r) : Good Tryd.prog 76 [D.sl ((a0_).map tx)] (D.fr 9 1 ((r).map tx)) := by
  refine Good.of (c := bodyOf Tryd.f76) Tryd.func76 rfl (by decide) (by simp [Tryd.f76]) ?_
  intro hr Γ hΓ
  have hΓ : Γ.nt = 22 := hΓ
  rw [d_laws_toStringS] at h
  refine (show AW Tryd.prog Γ (bodyOf Tryd.f76) (KQ Tryd.prog Γ (fun _ _ => False) (RetQ Tryd.prog Tryd.f76 (D.fr 9 1 ((r).map tx))) []) _ from ?_)
  obtain ⟨h1, h⟩ := den_ok h
  refine AW_go (n := 2000) [[some (9, 1)]] [.cn [0, 3, 4] [0]] (.lp (dig (bodyOf Tryd.f76) [1, 1, 0, 1, 0, 0] []).1 (dig (bodyOf Tryd.f76) [1, 1, 0, 1, 0] []).2 ⟨[(0, D.sl ((a0_).map tx)), (3, D.acc 0), (4, D.int .i64 (0))], [Ob.row .uq 9 1 (List.replicate ((((a0_).map tx).length : Int)).toNat [D.str ([])])]⟩) hΓ mix (by kernel_rfl) (ow (roomM_ok h1) ow0) (AW_st (by first | rfl | (simp only [List.map_append, List.map_cons, List.map_nil, List.map_set, List.map_replicate] <;> rfl)) (AW_of_r (d_laws_toStringS_L1w hΓ (fun q1_0 h => ?_) (by have := (Rdb.sl (hr _ (List.mem_of_getElem? (i := 0) rfl))).1; simpa using this) (a0_) 0 (List.replicate ((((a0_).map tx).length : Int)).toNat ([] : Bytes)) rfl h)))
  have h := den_some h
  subst h
  exact AW_go (n := 2000) [[some (9, 1)]] [] (.ret (D.fr 9 1 ((q1_0).map tx))) hΓ mix (by kernel_rfl) ow0 rfl
def d_laws_toFact (a0_ : Fact) : Option Fact := ((d_laws_toStringS (a0_.args)).bind fun y1 => (some ((⟨a0_.rel, y1⟩ : Fact))))
theorem d_laws_toFact_good {a0_ : Fact} {r : Fact} (h : d_laws_toFact a0_ = some r) : Good Tryd.prog 55 [D.agg (Fact.c a0_)] (D.agg [D.str (r.rel), D.fr 9 1 ((r.args).map tx)]) := by
  refine Good.of (c := bodyOf Tryd.f55) Tryd.func55 rfl (by decide) (by simp [Tryd.f55]) ?_
  intro hr Γ hΓ
  have hΓ : Γ.nt = 12 := hΓ
  rw [d_laws_toFact] at h
  refine (show AW Tryd.prog Γ (bodyOf Tryd.f55) (KQ Tryd.prog Γ (fun _ _ => False) (RetQ Tryd.prog Tryd.f55 (D.agg [D.str (r.rel), D.fr 9 1 ((r.args).map tx)])) []) _ from ?_)
  obtain ⟨y1, h2, h⟩ := den_bind h
  have h := den_some h
  subst h
  exact AW_go (n := 2000) [[none, some (9, 1)]] [.d (D.fr 9 1 ((y1).map tx))] (.ret (D.agg [D.str (a0_.rel), D.fr 9 1 ((y1).map tx)])) hΓ mix (by kernel_rfl) (ow (d_laws_toStringS_good h2) ow0) rfl
def d_laws_toFactS_L1 (a0_ : List Fact) (k1 : List Fact → Option (List Fact)) : List Fact → Nat → List Fact → Option (List Fact)
  | [], i1, w1_0 => (k1 (w1_0))
  | x1_ :: xs1, i1, w1_0 => ((d_laws_toFact (x1_)).bind fun y41 => (bif decide (i1 < ((w1_0).map Fact.c).length) then (((w1_0)[i1]?).bind fun x44 => (d_laws_toFactS_L1 a0_ k1 xs1 (i1 + 1) ((w1_0).set i1 y41))) else none))
def d_laws_toFactS (a0_ : List Fact) : Option (List Fact) := (bif roomM ((((a0_).map Fact.c).length : Int)) 40 then (d_laws_toFactS_L1 a0_ (fun (q1_0 : List Fact) => (some (q1_0))) (a0_) 0 (List.replicate ((((a0_).map Fact.c).length : Int)).toNat (⟨([] : Bytes), []⟩ : Fact))) else none)
theorem d_laws_toFactS_L1w {Γ : Ctx} (hΓ : Γ.nt = 23) {N : Nat → St → Prop} {a0_ : List Fact} {r : List Fact} {k1 : List Fact → Option (List Fact)} (hE1 : ∀ (q1_0 : List Fact), k1 q1_0 = some r → AW Tryd.prog Γ (dig (bodyOf Tryd.f24) [1, 1, 1] []).1 (KQ Tryd.prog Γ N (RetQ Tryd.prog Tryd.f24 (D.fr 61 2 ((r).map Fact.c))) (dig (bodyOf Tryd.f24) [1, 1, 1] []).2) ⟨[(3, D.acc 0)], [Ob.row .uq 61 2 ((q1_0).map Fact.c)]⟩) (hm1 : (a0_).length ≤ maxLen) : ∀ (rest : List Fact) (i1 : Nat) (w1_0 : List Fact), (a0_).drop i1 = rest → d_laws_toFactS_L1 a0_ k1 rest i1 w1_0 = some r → AWr Tryd.prog Γ (dig (bodyOf Tryd.f24) [1, 1, 0, 1, 0, 0] []).1 (KQ Tryd.prog Γ N (RetQ Tryd.prog Tryd.f24 (D.fr 61 2 ((r).map Fact.c))) (dig (bodyOf Tryd.f24) [1, 1, 0, 1, 0] []).2) (rest.length + 1) ⟨[(0, D.sl ((a0_).map Fact.c)), (3, D.acc 0), (4, D.int .i64 ((i1 : Int)))], [Ob.row .uq 61 2 ((w1_0).map Fact.c)]⟩ := by
  intro rest
  induction rest with
  | nil =>
    intro i1 w1_0 hd1 h
    rw [d_laws_toFactS_L1] at h
    refine AWr_succ fun N1 hN1 hS1 => ?_
    have t := AW_N (N := N) (N' := N1) (K0 := (dig (bodyOf Tryd.f24) [1, 1, 0, 1, 0] []).2) (by kernel_rfl) hN1 (hE1 (w1_0) h)
    refine AW_go (n := 2000) [[some (61, 2)]] [.b false, .hl 0 [3] [0]] (.at_ (dig (bodyOf Tryd.f24) [1, 1, 1] []).1 (dig (bodyOf Tryd.f24) [1, 1, 1] []).2 ⟨[(3, D.acc 0)], [Ob.row .uq 61 2 ((w1_0).map Fact.c)]⟩) hΓ mix (by kernel_rfl) (ow ((ltm_false Fact.c (drop_nil hd1))) ow0) ?_
    first | exact t | (simp only [List.map_append, List.map_cons, List.map_nil, List.map_set] at t ⊢; exact t)
  | cons x1_ xs1 ih1 =>
    intro i1 w1_0 hd1 h
    rw [d_laws_toFactS_L1] at h
    refine AWr_succ fun N1 hN1 hS1 => ?_
    obtain ⟨y41, h42, h⟩ := den_bind h
    obtain ⟨h43, h⟩ := den_ok h
    obtain ⟨x44, h45, h⟩ := den_bind h
    have t := ih1 (i1 + 1) ((w1_0).set i1 y41) (drop_cons hd1).2.2 h
    refine AW_go (n := 2000) [[some (61, 2)]] [.b true, .row (Fact.c x1_), .d (D.agg [D.str (y41.rel), D.fr 9 1 ((y41.args).map tx)]), .ix i1, .row [D.str (x44.rel), D.sl ((x44.args).map tx)], .cn [0, 3, 4] [0]] (.cont 0 ⟨[(0, D.sl ((a0_).map Fact.c)), (3, D.acc 0), (4, D.int .i64 (IntKind.i64.wrap (((i1 : Int)) + (1))))], [Ob.row .uq 61 2 (((w1_0).map Fact.c).set i1 [D.str (y41.rel), D.sl ((y41.args).map tx)])]⟩) hΓ mix (by kernel_rfl) (ow ((ltm_true Fact.c (drop_cons hd1).2.1)) (ow (map_row Fact.c 2 (drop_cons hd1).1 rfl) (ow (d_laws_toFact_good h42) (ow (own_ix 2 h43) (ow (show ((w1_0).map Fact.c)[i1]? = some [D.str (x44.rel), D.sl ((x44.args).map tx)] from map_get Fact.c h45) ow0))))) ?_
    refine (congrFun hS1 _).mpr ?_
    rw [i64_succ (drop_cons hd1).2.1 hm1]
    first | exact t | (simp only [List.map_append, List.map_cons, List.map_nil, List.map_set] at t ⊢; exact t)
theorem d_laws_toFactS_good {a0_ : List Fact} {r : List Fact} (h : d_laws_toFactS a0_ = some r) : Good Tryd.prog 24 [D.sl ((a0_).map Fact.c)] (D.fr 61 2 ((r).map Fact.c)) := by
  refine Good.of (c := bodyOf Tryd.f24) Tryd.func24 rfl (by decide) (by simp [Tryd.f24]) ?_
  intro hr Γ hΓ
  have hΓ : Γ.nt = 23 := hΓ
  rw [d_laws_toFactS] at h
  refine (show AW Tryd.prog Γ (bodyOf Tryd.f24) (KQ Tryd.prog Γ (fun _ _ => False) (RetQ Tryd.prog Tryd.f24 (D.fr 61 2 ((r).map Fact.c))) []) _ from ?_)
  obtain ⟨h1, h⟩ := den_ok h
  refine AW_go (n := 2000) [[some (61, 2)]] [.cn [0, 3, 4] [0]] (.lp (dig (bodyOf Tryd.f24) [1, 1, 0, 1, 0, 0] []).1 (dig (bodyOf Tryd.f24) [1, 1, 0, 1, 0] []).2 ⟨[(0, D.sl ((a0_).map Fact.c)), (3, D.acc 0), (4, D.int .i64 (0))], [Ob.row .uq 61 2 (List.replicate ((((a0_).map Fact.c).length : Int)).toNat [D.str ([]), D.sl ([])])]⟩) hΓ mix (by kernel_rfl) (ow (roomM_ok h1) ow0) (AW_st (by first | rfl | (simp only [List.map_append, List.map_cons, List.map_nil, List.map_set, List.map_replicate] <;> rfl)) (AW_of_r (d_laws_toFactS_L1w hΓ (fun q1_0 h => ?_) (by have := (Rdb.sl (hr _ (List.mem_of_getElem? (i := 0) rfl))).1; simpa using this) (a0_) 0 (List.replicate ((((a0_).map Fact.c).length : Int)).toNat (⟨([] : Bytes), []⟩ : Fact)) rfl h)))
  have h := den_some h
  subst h
  exact AW_go (n := 2000) [[some (61, 2)]] [] (.ret (D.fr 61 2 ((q1_0).map Fact.c))) hΓ mix (by kernel_rfl) ow0 rfl
def d_laws_toPair (a0_ : Pair) : Option Pair := (some (a0_))
theorem d_laws_toPair_good {a0_ : Pair} {r : Pair} (h : d_laws_toPair a0_ = some r) : Good Tryd.prog 56 [D.agg (Pair.c a0_)] (D.agg [D.str (r.var), D.str (r.value)]) := by
  refine Good.of (c := bodyOf Tryd.f56) Tryd.func56 rfl (by decide) (by simp [Tryd.f56]) ?_
  intro hr Γ hΓ
  have hΓ : Γ.nt = 11 := hΓ
  rw [d_laws_toPair] at h
  refine (show AW Tryd.prog Γ (bodyOf Tryd.f56) (KQ Tryd.prog Γ (fun _ _ => False) (RetQ Tryd.prog Tryd.f56 (D.agg [D.str (r.var), D.str (r.value)])) []) _ from ?_)
  have h := den_some h
  subst h
  exact AW_go (n := 2000) [[none, none]] [] (.ret (D.agg [D.str (a0_.var), D.str (a0_.value)])) hΓ mix (by kernel_rfl) ow0 rfl
def d_laws_toPairS_L1 (a0_ : List Pair) (k1 : List Pair → Option (List Pair)) : List Pair → Nat → List Pair → Option (List Pair)
  | [], i1, w1_0 => (k1 (w1_0))
  | x1_ :: xs1, i1, w1_0 => ((d_laws_toPair (x1_)).bind fun y41 => (bif decide (i1 < ((w1_0).map Pair.c).length) then (((w1_0)[i1]?).bind fun x44 => (d_laws_toPairS_L1 a0_ k1 xs1 (i1 + 1) ((w1_0).set i1 y41))) else none))
def d_laws_toPairS (a0_ : List Pair) : Option (List Pair) := (bif roomM ((((a0_).map Pair.c).length : Int)) 32 then (d_laws_toPairS_L1 a0_ (fun (q1_0 : List Pair) => (some (q1_0))) (a0_) 0 (List.replicate ((((a0_).map Pair.c).length : Int)).toNat (⟨([] : Bytes), ([] : Bytes)⟩ : Pair))) else none)
theorem d_laws_toPairS_L1w {Γ : Ctx} (hΓ : Γ.nt = 23) {N : Nat → St → Prop} {a0_ : List Pair} {r : List Pair} {k1 : List Pair → Option (List Pair)} (hE1 : ∀ (q1_0 : List Pair), k1 q1_0 = some r → AW Tryd.prog Γ (dig (bodyOf Tryd.f25) [1, 1, 1] []).1 (KQ Tryd.prog Γ N (RetQ Tryd.prog Tryd.f25 (D.fr 94 2 ((r).map Pair.c))) (dig (bodyOf Tryd.f25) [1, 1, 1] []).2) ⟨[(3, D.acc 0)], [Ob.row .uq 94 2 ((q1_0).map Pair.c)]⟩) (hm1 : (a0_).length ≤ maxLen) : ∀ (rest : List Pair) (i1 : Nat) (w1_0 : List Pair), (a0_).drop i1 = rest → d_laws_toPairS_L1 a0_ k1 rest i1 w1_0 = some r → AWr Tryd.prog Γ (dig (bodyOf Tryd.f25) [1, 1, 0, 1, 0, 0] []).1 (KQ Tryd.prog Γ N (RetQ Tryd.prog Tryd.f25 (D.fr 94 2 ((r).map Pair.c))) (dig (bodyOf Tryd.f25) [1, 1, 0, 1, 0] []).2) (rest.length + 1) ⟨[(0, D.sl ((a0_).map Pair.c)), (3, D.acc 0), (4, D.int .i64 ((i1 : Int)))], [Ob.row .uq 94 2 ((w1_0).map Pair.c)]⟩ := by
  intro rest
  induction rest with
  | nil =>
    intro i1 w1_0 hd1 h
    rw [d_laws_toPairS_L1] at h
    refine AWr_succ fun N1 hN1 hS1 => ?_
    have t := AW_N (N := N) (N' := N1) (K0 := (dig (bodyOf Tryd.f25) [1, 1, 0, 1, 0] []).2) (by kernel_rfl) hN1 (hE1 (w1_0) h)
    refine AW_go (n := 2000) [[some (94, 2)]] [.b false, .hl 0 [3] [0]] (.at_ (dig (bodyOf Tryd.f25) [1, 1, 1] []).1 (dig (bodyOf Tryd.f25) [1, 1, 1] []).2 ⟨[(3, D.acc 0)], [Ob.row .uq 94 2 ((w1_0).map Pair.c)]⟩) hΓ mix (by kernel_rfl) (ow ((ltm_false Pair.c (drop_nil hd1))) ow0) ?_
    first | exact t | (simp only [List.map_append, List.map_cons, List.map_nil, List.map_set] at t ⊢; exact t)
  | cons x1_ xs1 ih1 =>
    intro i1 w1_0 hd1 h
    rw [d_laws_toPairS_L1] at h
    refine AWr_succ fun N1 hN1 hS1 => ?_
    obtain ⟨y41, h42, h⟩ := den_bind h
    obtain ⟨h43, h⟩ := den_ok h
    obtain ⟨x44, h45, h⟩ := den_bind h
    have t := ih1 (i1 + 1) ((w1_0).set i1 y41) (drop_cons hd1).2.2 h
    refine AW_go (n := 2000) [[some (94, 2)]] [.b true, .row (Pair.c x1_), .d (D.agg [D.str (y41.var), D.str (y41.value)]), .ix i1, .row [D.str (x44.var), D.str (x44.value)], .cn [0, 3, 4] [0]] (.cont 0 ⟨[(0, D.sl ((a0_).map Pair.c)), (3, D.acc 0), (4, D.int .i64 (IntKind.i64.wrap (((i1 : Int)) + (1))))], [Ob.row .uq 94 2 (((w1_0).map Pair.c).set i1 [D.str (y41.var), D.str (y41.value)])]⟩) hΓ mix (by kernel_rfl) (ow ((ltm_true Pair.c (drop_cons hd1).2.1)) (ow (map_row Pair.c 2 (drop_cons hd1).1 rfl) (ow (d_laws_toPair_good h42) (ow (own_ix 2 h43) (ow (show ((w1_0).map Pair.c)[i1]? = some [D.str (x44.var), D.str (x44.value)] from map_get Pair.c h45) ow0))))) ?_
    refine (congrFun hS1 _).mpr ?_
    rw [i64_succ (drop_cons hd1).2.1 hm1]
    first | exact t | (simp only [List.map_append, List.map_cons, List.map_nil, List.map_set] at t ⊢; exact t)
theorem d_laws_toPairS_good {a0_ : List Pair} {r : List Pair} (h : d_laws_toPairS a0_ = some r) : Good Tryd.prog 25 [D.sl ((a0_).map Pair.c)] (D.fr 94 2 ((r).map Pair.c)) := by
  refine Good.of (c := bodyOf Tryd.f25) Tryd.func25 rfl (by decide) (by simp [Tryd.f25]) ?_
  intro hr Γ hΓ
  have hΓ : Γ.nt = 23 := hΓ
  rw [d_laws_toPairS] at h
  refine (show AW Tryd.prog Γ (bodyOf Tryd.f25) (KQ Tryd.prog Γ (fun _ _ => False) (RetQ Tryd.prog Tryd.f25 (D.fr 94 2 ((r).map Pair.c))) []) _ from ?_)
  obtain ⟨h1, h⟩ := den_ok h
  refine AW_go (n := 2000) [[some (94, 2)]] [.cn [0, 3, 4] [0]] (.lp (dig (bodyOf Tryd.f25) [1, 1, 0, 1, 0, 0] []).1 (dig (bodyOf Tryd.f25) [1, 1, 0, 1, 0] []).2 ⟨[(0, D.sl ((a0_).map Pair.c)), (3, D.acc 0), (4, D.int .i64 (0))], [Ob.row .uq 94 2 (List.replicate ((((a0_).map Pair.c).length : Int)).toNat [D.str ([]), D.str ([])])]⟩) hΓ mix (by kernel_rfl) (ow (roomM_ok h1) ow0) (AW_st (by first | rfl | (simp only [List.map_append, List.map_cons, List.map_nil, List.map_set, List.map_replicate] <;> rfl)) (AW_of_r (d_laws_toPairS_L1w hΓ (fun q1_0 h => ?_) (by have := (Rdb.sl (hr _ (List.mem_of_getElem? (i := 0) rfl))).1; simpa using this) (a0_) 0 (List.replicate ((((a0_).map Pair.c).length : Int)).toNat (⟨([] : Bytes), ([] : Bytes)⟩ : Pair)) rfl h)))
  have h := den_some h
  subst h
  exact AW_go (n := 2000) [[some (94, 2)]] [] (.ret (D.fr 94 2 ((q1_0).map Pair.c))) hΓ mix (by kernel_rfl) ow0 rfl
def d_laws_toToken (a0_ : Token) : Option Token := ((d_laws_toFactS (a0_.facts)).bind fun y1 => ((d_laws_toPairS (a0_.bind)).bind fun y3 => (some ((⟨y1, y3⟩ : Token)))))
theorem d_laws_toToken_good {a0_ : Token} {r : Token} (h : d_laws_toToken a0_ = some r) : Good Tryd.prog 8 [D.agg (Token.c a0_)] (D.agg [D.fr 61 2 ((r.facts).map Fact.c), D.fr 94 2 ((r.bind).map Pair.c)]) := by
  refine Good.of (c := bodyOf Tryd.f8) Tryd.func8 rfl (by decide) (by simp [Tryd.f8]) ?_
  intro hr Γ hΓ
  have hΓ : Γ.nt = 13 := hΓ
  rw [d_laws_toToken] at h
  refine (show AW Tryd.prog Γ (bodyOf Tryd.f8) (KQ Tryd.prog Γ (fun _ _ => False) (RetQ Tryd.prog Tryd.f8 (D.agg [D.fr 61 2 ((r.facts).map Fact.c), D.fr 94 2 ((r.bind).map Pair.c)])) []) _ from ?_)
  obtain ⟨y1, h2, h⟩ := den_bind h
  obtain ⟨y3, h4, h⟩ := den_bind h
  have h := den_some h
  subst h
  exact AW_go (n := 2000) [[some (61, 2), some (94, 2)]] [.d (D.fr 61 2 ((y1).map Fact.c)), .d (D.fr 94 2 ((y3).map Pair.c))] (.ret (D.agg [D.fr 61 2 ((y1).map Fact.c), D.fr 94 2 ((y3).map Pair.c)])) hΓ mix (by kernel_rfl) (ow (d_laws_toFactS_good h2) (ow (d_laws_toPairS_good h4) ow0)) rfl
end Go.Cx
