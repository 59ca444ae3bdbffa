/- What functions of the program compute, and the walks that show it. No condition. -/
import Derived.Test.YtocmmccbfnhfpaaNData
namespace Go.Cx
open Go.RowKit Go.Proofs
set_option linter.unusedVariables false
set_option linter.unusedSimpArgs false
set_option maxRecDepth 100000
def d_laws_toStringS_L1 (a0_ : List Bytes) (k1 : List Bytes → Option (List Bytes)) : List Bytes → Nat → List Bytes → Option (List Bytes)
  | [], i1, w1_0 => (k1 (w1_0))
  | x1_ :: xs1, i1, w1_0 => (bif decide (i1 < ((w1_0).map tx).length) then (((w1_0)[i1]?).bind fun x30 => (d_laws_toStringS_L1 a0_ k1 xs1 (i1 + 1) ((w1_0).set i1 x1_))) else none)
def d_laws_toStringS (a0_ : List Bytes) : Option (List Bytes) := (bif roomM ((((a0_).map tx).length : Int)) 16 then (d_laws_toStringS_L1 a0_ (fun (q1_0 : List Bytes) => (some (q1_0))) (a0_) 0 (List.replicate ((((a0_).map tx).length : Int)).toNat ([] : Bytes))) else none)
theorem d_laws_toStringS_L1w {Γ : Ctx} (hΓ : Γ.nt = 22) {N : Nat → St → Prop} {a0_ : List Bytes} {r : List Bytes} {k1 : List Bytes → Option (List Bytes)} (hE1 : ∀ (q1_0 : List Bytes), k1 q1_0 = some r → AW Try.prog Γ (dig (bodyOf Try.f137) [1, 1, 1] []).1 (KQ Try.prog Γ N (RetQ Try.prog Try.f137 (D.fr 9 1 ((r).map tx))) (dig (bodyOf Try.f137) [1, 1, 1] []).2) ⟨[(3, D.acc 0)], [Ob.row .uq 9 1 ((q1_0).map tx)]⟩) (hm1 : (a0_).length ≤ maxLen) : ∀ (rest : List Bytes) (i1 : Nat) (w1_0 : List Bytes), (a0_).drop i1 = rest → d_laws_toStringS_L1 a0_ k1 rest i1 w1_0 = some r → AWr Try.prog Γ (dig (bodyOf Try.f137) [1, 1, 0, 1, 0, 0] []).1 (KQ Try.prog Γ N (RetQ Try.prog Try.f137 (D.fr 9 1 ((r).map tx))) (dig (bodyOf Try.f137) [1, 1, 0, 1, 0] []).2) (rest.length + 1) ⟨[(0, D.sl ((a0_).map tx)), (3, D.acc 0), (4, D.int .i64 ((i1 : Int)))], [Ob.row .uq 9 1 ((w1_0).map tx)]⟩ := by
  intro rest
  induction rest with
  | nil =>
    intro i1 w1_0 hd1 h
    rw [d_laws_toStringS_L1] at h
    refine AWr_succ fun N1 hN1 hS1 => ?_
    have t := AW_N (N := N) (N' := N1) (K0 := (dig (bodyOf Try.f137) [1, 1, 0, 1, 0] []).2) (by kernel_rfl) hN1 (hE1 (w1_0) h)
    refine AW_go (n := 2000) [[some (9, 1)]] [.b false, .hl 0 [3] [0]] (.at_ (dig (bodyOf Try.f137) [1, 1, 1] []).1 (dig (bodyOf Try.f137) [1, 1, 1] []).2 ⟨[(3, D.acc 0)], [Ob.row .uq 9 1 ((w1_0).map tx)]⟩) hΓ mix (by kernel_rfl) (ow ((ltm_false tx (drop_nil hd1))) ow0) ?_
    first | exact t | (simp only [List.map_append, List.map_cons, List.map_nil, List.map_set] at t ⊢; exact t)
  | cons x1_ xs1 ih1 =>
    intro i1 w1_0 hd1 h
    rw [d_laws_toStringS_L1] at h
    refine AWr_succ fun N1 hN1 hS1 => ?_
    obtain ⟨h29, h⟩ := den_ok h
    obtain ⟨x30, h31, h⟩ := den_bind h
    have t := ih1 (i1 + 1) ((w1_0).set i1 x1_) (drop_cons hd1).2.2 h
    refine AW_go (n := 2000) [[some (9, 1)]] [.b true, .row (tx x1_), .ix i1, .row [D.str (x30)], .cn [0, 3, 4] [0]] (.cont 0 ⟨[(0, D.sl ((a0_).map tx)), (3, D.acc 0), (4, D.int .i64 (IntKind.i64.wrap (((i1 : Int)) + (1))))], [Ob.row .uq 9 1 (((w1_0).map tx).set i1 [D.str (x1_)])]⟩) hΓ mix (by kernel_rfl) (ow ((ltm_true tx (drop_cons hd1).2.1)) (ow (map_row tx 1 (drop_cons hd1).1 rfl) (ow (own_ix 1 h29) (ow (show ((w1_0).map tx)[i1]? = some [D.str (x30)] from map_get tx h31) ow0)))) ?_
    refine (congrFun hS1 _).mpr ?_
    rw [i64_succ (drop_cons hd1).2.1 hm1]
    first | exact t | (simp only [List.map_append, List.map_cons, List.map_nil, List.map_set] at t ⊢; exact t)
theorem d_laws_toStringS_good {a0_ : List Bytes} {r : List Bytes} (h : d_laws_toStringS a0_ = some r) : Good Try.prog 137 [D.sl ((a0_).map tx)] (D.fr 9 1 ((r).map tx)) := by
  refine Good.of (c := bodyOf Try.f137) Try.func137 rfl (by decide) (by simp [Try.f137]) ?_
  intro hr Γ hΓ
  have hΓ : Γ.nt = 22 := hΓ
  rw [d_laws_toStringS] at h
  refine (show AW Try.prog Γ (bodyOf Try.f137) (KQ Try.prog Γ (fun _ _ => False) (RetQ Try.prog Try.f137 (D.fr 9 1 ((r).map tx))) []) _ from ?_)
  obtain ⟨h1, h⟩ := den_ok h
  refine AW_go (n := 2000) [[some (9, 1)]] [.cn [0, 3, 4] [0]] (.lp (dig (bodyOf Try.f137) [1, 1, 0, 1, 0, 0] []).1 (dig (bodyOf Try.f137) [1, 1, 0, 1, 0] []).2 ⟨[(0, D.sl ((a0_).map tx)), (3, D.acc 0), (4, D.int .i64 (0))], [Ob.row .uq 9 1 (List.replicate ((((a0_).map tx).length : Int)).toNat [D.str ([])])]⟩) hΓ mix (by kernel_rfl) (ow (roomM_ok h1) ow0) (AW_st (by first | rfl | (simp only [List.map_append, List.map_cons, List.map_nil, List.map_set, List.map_replicate] <;> rfl)) (AW_of_r (d_laws_toStringS_L1w hΓ (fun q1_0 h => ?_) (by have := (Rdb.sl (hr _ (List.mem_of_getElem? (i := 0) rfl))).1; simpa using this) (a0_) 0 (List.replicate ((((a0_).map tx).length : Int)).toNat ([] : Bytes)) rfl h)))
  have h := den_some h
  subst h
  exact AW_go (n := 2000) [[some (9, 1)]] [] (.ret (D.fr 9 1 ((q1_0).map tx))) hΓ mix (by kernel_rfl) ow0 rfl
def d_laws_toFact (a0_ : Fact) : Option Fact := ((d_laws_toStringS (a0_.args)).bind fun y1 => (some ((⟨a0_.rel, y1⟩ : Fact))))
theorem d_laws_toFact_good {a0_ : Fact} {r : Fact} (h : d_laws_toFact a0_ = some r) : Good Try.prog 78 [D.agg (Fact.c a0_)] (D.agg [D.str (r.rel), D.fr 9 1 ((r.args).map tx)]) := by
  refine Good.of (c := bodyOf Try.f78) Try.func78 rfl (by decide) (by simp [Try.f78]) ?_
  intro hr Γ hΓ
  have hΓ : Γ.nt = 12 := hΓ
  rw [d_laws_toFact] at h
  refine (show AW Try.prog Γ (bodyOf Try.f78) (KQ Try.prog Γ (fun _ _ => False) (RetQ Try.prog Try.f78 (D.agg [D.str (r.rel), D.fr 9 1 ((r.args).map tx)])) []) _ from ?_)
  obtain ⟨y1, h2, h⟩ := den_bind h
  have h := den_some h
  subst h
  exact AW_go (n := 2000) [[none, some (9, 1)]] [.d (D.fr 9 1 ((y1).map tx))] (.ret (D.agg [D.str (a0_.rel), D.fr 9 1 ((y1).map tx)])) hΓ mix (by kernel_rfl) (ow (d_laws_toStringS_good h2) ow0) rfl
def d_laws_toStamp (a0_ : Stamp) : Option Stamp := ((d_laws_toFact (a0_.fact)).bind fun y1 => (some ((⟨y1, a0_.time⟩ : Stamp))))
theorem d_laws_toStamp_good {a0_ : Stamp} {r : Stamp} (h : d_laws_toStamp a0_ = some r) : Good Try.prog 71 [D.agg (Stamp.c a0_)] (D.agg [D.str (r.fact.rel), D.fr 9 1 ((r.fact.args).map tx), D.int .i64 (r.time)]) := by
  refine Good.of (c := bodyOf Try.f71) Try.func71 rfl (by decide) (by simp [Try.f71]) ?_
  intro hr Γ hΓ
  have hΓ : Γ.nt = 12 := hΓ
  rw [d_laws_toStamp] at h
  refine (show AW Try.prog Γ (bodyOf Try.f71) (KQ Try.prog Γ (fun _ _ => False) (RetQ Try.prog Try.f71 (D.agg [D.str (r.fact.rel), D.fr 9 1 ((r.fact.args).map tx), D.int .i64 (r.time)])) []) _ from ?_)
  obtain ⟨y1, h2, h⟩ := den_bind h
  have h := den_some h
  subst h
  exact AW_go (n := 2000) [[none, some (9, 1), none]] [.d (D.agg [D.str (y1.rel), D.fr 9 1 ((y1.args).map tx)])] (.ret (D.agg [D.str (y1.rel), D.fr 9 1 ((y1.args).map tx), D.int .i64 (a0_.time)])) hΓ mix (by kernel_rfl) (ow (d_laws_toFact_good h2) ow0) rfl
def d_laws_toStampS_L1 (a0_ : List Stamp) (k1 : List Stamp → Option (List Stamp)) : List Stamp → Nat → List Stamp → Option (List Stamp)
  | [], i1, w1_0 => (k1 (w1_0))
  | x1_ :: xs1, i1, w1_0 => ((d_laws_toStamp (x1_)).bind fun y41 => (bif decide (i1 < ((w1_0).map Stamp.c).length) then (((w1_0)[i1]?).bind fun x44 => (d_laws_toStampS_L1 a0_ k1 xs1 (i1 + 1) ((w1_0).set i1 y41))) else none))
def d_laws_toStampS (a0_ : List Stamp) : Option (List Stamp) := (bif roomM ((((a0_).map Stamp.c).length : Int)) 48 then (d_laws_toStampS_L1 a0_ (fun (q1_0 : List Stamp) => (some (q1_0))) (a0_) 0 (List.replicate ((((a0_).map Stamp.c).length : Int)).toNat (⟨(⟨([] : Bytes), []⟩ : Fact), (0 : Int)⟩ : Stamp))) else none)
theorem d_laws_toStampS_L1w {Γ : Ctx} (hΓ : Γ.nt = 23) {N : Nat → St → Prop} {a0_ : List Stamp} {r : List Stamp} {k1 : List Stamp → Option (List Stamp)} (hE1 : ∀ (q1_0 : List Stamp), k1 q1_0 = some r → AW Try.prog Γ (dig (bodyOf Try.f17) [1, 1, 1] []).1 (KQ Try.prog Γ N (RetQ Try.prog Try.f17 (D.fr 95 3 ((r).map Stamp.c))) (dig (bodyOf Try.f17) [1, 1, 1] []).2) ⟨[(3, D.acc 0)], [Ob.row .uq 95 3 ((q1_0).map Stamp.c)]⟩) (hm1 : (a0_).length ≤ maxLen) : ∀ (rest : List Stamp) (i1 : Nat) (w1_0 : List Stamp), (a0_).drop i1 = rest → d_laws_toStampS_L1 a0_ k1 rest i1 w1_0 = some r → AWr Try.prog Γ (dig (bodyOf Try.f17) [1, 1, 0, 1, 0, 0] []).1 (KQ Try.prog Γ N (RetQ Try.prog Try.f17 (D.fr 95 3 ((r).map Stamp.c))) (dig (bodyOf Try.f17) [1, 1, 0, 1, 0] []).2) (rest.length + 1) ⟨[(0, D.sl ((a0_).map Stamp.c)), (3, D.acc 0), (4, D.int .i64 ((i1 : Int)))], [Ob.row .uq 95 3 ((w1_0).map Stamp.c)]⟩ := by
  intro rest
  induction rest with
  | nil =>
    intro i1 w1_0 hd1 h
    rw [d_laws_toStampS_L1] at h
    refine AWr_succ fun N1 hN1 hS1 => ?_
    have t := AW_N (N := N) (N' := N1) (K0 := (dig (bodyOf Try.f17) [1, 1, 0, 1, 0] []).2) (by kernel_rfl) hN1 (hE1 (w1_0) h)
    refine AW_go (n := 2000) [[some (95, 3)]] [.b false, .hl 0 [3] [0]] (.at_ (dig (bodyOf Try.f17) [1, 1, 1] []).1 (dig (bodyOf Try.f17) [1, 1, 1] []).2 ⟨[(3, D.acc 0)], [Ob.row .uq 95 3 ((w1_0).map Stamp.c)]⟩) hΓ mix (by kernel_rfl) (ow ((ltm_false Stamp.c (drop_nil hd1))) ow0) ?_
    first | exact t | (simp only [List.map_append, List.map_cons, List.map_nil, List.map_set] at t ⊢; exact t)
  | cons x1_ xs1 ih1 =>
    intro i1 w1_0 hd1 h
    rw [d_laws_toStampS_L1] at h
    refine AWr_succ fun N1 hN1 hS1 => ?_
    obtain ⟨y41, h42, h⟩ := den_bind h
    obtain ⟨h43, h⟩ := den_ok h
    obtain ⟨x44, h45, h⟩ := den_bind h
    have t := ih1 (i1 + 1) ((w1_0).set i1 y41) (drop_cons hd1).2.2 h
    refine AW_go (n := 2000) [[some (95, 3)]] [.b true, .row (Stamp.c x1_), .d (D.agg [D.str (y41.fact.rel), D.fr 9 1 ((y41.fact.args).map tx), D.int .i64 (y41.time)]), .ix i1, .row [D.str (x44.fact.rel), D.sl ((x44.fact.args).map tx), D.int .i64 (x44.time)], .cn [0, 3, 4] [0]] (.cont 0 ⟨[(0, D.sl ((a0_).map Stamp.c)), (3, D.acc 0), (4, D.int .i64 (IntKind.i64.wrap (((i1 : Int)) + (1))))], [Ob.row .uq 95 3 (((w1_0).map Stamp.c).set i1 [D.str (y41.fact.rel), D.sl ((y41.fact.args).map tx), D.int .i64 (y41.time)])]⟩) hΓ mix (by kernel_rfl) (ow ((ltm_true Stamp.c (drop_cons hd1).2.1)) (ow (map_row Stamp.c 3 (drop_cons hd1).1 rfl) (ow (d_laws_toStamp_good h42) (ow (own_ix 3 h43) (ow (show ((w1_0).map Stamp.c)[i1]? = some [D.str (x44.fact.rel), D.sl ((x44.fact.args).map tx), D.int .i64 (x44.time)] from map_get Stamp.c h45) ow0))))) ?_
    refine (congrFun hS1 _).mpr ?_
    rw [i64_succ (drop_cons hd1).2.1 hm1]
    first | exact t | (simp only [List.map_append, List.map_cons, List.map_nil, List.map_set] at t ⊢; exact t)
theorem d_laws_toStampS_good {a0_ : List Stamp} {r : List Stamp} (h : d_laws_toStampS a0_ = some r) : Good Try.prog 17 [D.sl ((a0_).map Stamp.c)] (D.fr 95 3 ((r).map Stamp.c)) := by
  refine Good.of (c := bodyOf Try.f17) Try.func17 rfl (by decide) (by simp [Try.f17]) ?_
  intro hr Γ hΓ
  have hΓ : Γ.nt = 23 := hΓ
  rw [d_laws_toStampS] at h
  refine (show AW Try.prog Γ (bodyOf Try.f17) (KQ Try.prog Γ (fun _ _ => False) (RetQ Try.prog Try.f17 (D.fr 95 3 ((r).map Stamp.c))) []) _ from ?_)
  obtain ⟨h1, h⟩ := den_ok h
  refine AW_go (n := 2000) [[some (95, 3)]] [.cn [0, 3, 4] [0]] (.lp (dig (bodyOf Try.f17) [1, 1, 0, 1, 0, 0] []).1 (dig (bodyOf Try.f17) [1, 1, 0, 1, 0] []).2 ⟨[(0, D.sl ((a0_).map Stamp.c)), (3, D.acc 0), (4, D.int .i64 (0))], [Ob.row .uq 95 3 (List.replicate ((((a0_).map Stamp.c).length : Int)).toNat [D.str ([]), D.sl ([]), D.int .i64 (0)])]⟩) hΓ mix (by kernel_rfl) (ow (roomM_ok h1) ow0) (AW_st (by first | rfl | (simp only [List.map_append, List.map_cons, List.map_nil, List.map_set, List.map_replicate] <;> rfl)) (AW_of_r (d_laws_toStampS_L1w hΓ (fun q1_0 h => ?_) (by have := (Rdb.sl (hr _ (List.mem_of_getElem? (i := 0) rfl))).1; simpa using this) (a0_) 0 (List.replicate ((((a0_).map Stamp.c).length : Int)).toNat (⟨(⟨([] : Bytes), []⟩ : Fact), (0 : Int)⟩ : Stamp)) rfl h)))
  have h := den_some h
  subst h
  exact AW_go (n := 2000) [[some (95, 3)]] [] (.ret (D.fr 95 3 ((q1_0).map Stamp.c))) hΓ mix (by kernel_rfl) ow0 rfl
def d_laws_toFactS_L1 (a0_ : List Fact) (k1 : List Fact → Option (List Fact)) : List Fact → Nat → List Fact → Option (List Fact)
  | [], i1, w1_0 => (k1 (w1_0))
  | x1_ :: xs1, i1, w1_0 => ((d_laws_toFact (x1_)).bind fun y41 => (bif decide (i1 < ((w1_0).map Fact.c).length) then (((w1_0)[i1]?).bind fun x44 => (d_laws_toFactS_L1 a0_ k1 xs1 (i1 + 1) ((w1_0).set i1 y41))) else none))
def d_laws_toFactS (a0_ : List Fact) : Option (List Fact) := (bif roomM ((((a0_).map Fact.c).length : Int)) 40 then (d_laws_toFactS_L1 a0_ (fun (q1_0 : List Fact) => (some (q1_0))) (a0_) 0 (List.replicate ((((a0_).map Fact.c).length : Int)).toNat (⟨([] : Bytes), []⟩ : Fact))) else none)
theorem d_laws_toFactS_L1w {Γ : Ctx} (hΓ : Γ.nt = 23) {N : Nat → St → Prop} {a0_ : List Fact} {r : List Fact} {k1 : List Fact → Option (List Fact)} (hE1 : ∀ (q1_0 : List Fact), k1 q1_0 = some r → AW Try.prog Γ (dig (bodyOf Try.f26) [1, 1, 1] []).1 (KQ Try.prog Γ N (RetQ Try.prog Try.f26 (D.fr 92 2 ((r).map Fact.c))) (dig (bodyOf Try.f26) [1, 1, 1] []).2) ⟨[(3, D.acc 0)], [Ob.row .uq 92 2 ((q1_0).map Fact.c)]⟩) (hm1 : (a0_).length ≤ maxLen) : ∀ (rest : List Fact) (i1 : Nat) (w1_0 : List Fact), (a0_).drop i1 = rest → d_laws_toFactS_L1 a0_ k1 rest i1 w1_0 = some r → AWr Try.prog Γ (dig (bodyOf Try.f26) [1, 1, 0, 1, 0, 0] []).1 (KQ Try.prog Γ N (RetQ Try.prog Try.f26 (D.fr 92 2 ((r).map Fact.c))) (dig (bodyOf Try.f26) [1, 1, 0, 1, 0] []).2) (rest.length + 1) ⟨[(0, D.sl ((a0_).map Fact.c)), (3, D.acc 0), (4, D.int .i64 ((i1 : Int)))], [Ob.row .uq 92 2 ((w1_0).map Fact.c)]⟩ := by
  intro rest
  induction rest with
  | nil =>
    intro i1 w1_0 hd1 h
    rw [d_laws_toFactS_L1] at h
    refine AWr_succ fun N1 hN1 hS1 => ?_
    have t := AW_N (N := N) (N' := N1) (K0 := (dig (bodyOf Try.f26) [1, 1, 0, 1, 0] []).2) (by kernel_rfl) hN1 (hE1 (w1_0) h)
    refine AW_go (n := 2000) [[some (92, 2)]] [.b false, .hl 0 [3] [0]] (.at_ (dig (bodyOf Try.f26) [1, 1, 1] []).1 (dig (bodyOf Try.f26) [1, 1, 1] []).2 ⟨[(3, D.acc 0)], [Ob.row .uq 92 2 ((w1_0).map Fact.c)]⟩) hΓ mix (by kernel_rfl) (ow ((ltm_false Fact.c (drop_nil hd1))) ow0) ?_
    first | exact t | (simp only [List.map_append, List.map_cons, List.map_nil, List.map_set] at t ⊢; exact t)
  | cons x1_ xs1 ih1 =>
    intro i1 w1_0 hd1 h
    rw [d_laws_toFactS_L1] at h
    refine AWr_succ fun N1 hN1 hS1 => ?_
    obtain ⟨y41, h42, h⟩ := den_bind h
    obtain ⟨h43, h⟩ := den_ok h
    obtain ⟨x44, h45, h⟩ := den_bind h
    have t := ih1 (i1 + 1) ((w1_0).set i1 y41) (drop_cons hd1).2.2 h
    refine AW_go (n := 2000) [[some (92, 2)]] [.b true, .row (Fact.c x1_), .d (D.agg [D.str (y41.rel), D.fr 9 1 ((y41.args).map tx)]), .ix i1, .row [D.str (x44.rel), D.sl ((x44.args).map tx)], .cn [0, 3, 4] [0]] (.cont 0 ⟨[(0, D.sl ((a0_).map Fact.c)), (3, D.acc 0), (4, D.int .i64 (IntKind.i64.wrap (((i1 : Int)) + (1))))], [Ob.row .uq 92 2 (((w1_0).map Fact.c).set i1 [D.str (y41.rel), D.sl ((y41.args).map tx)])]⟩) hΓ mix (by kernel_rfl) (ow ((ltm_true Fact.c (drop_cons hd1).2.1)) (ow (map_row Fact.c 2 (drop_cons hd1).1 rfl) (ow (d_laws_toFact_good h42) (ow (own_ix 2 h43) (ow (show ((w1_0).map Fact.c)[i1]? = some [D.str (x44.rel), D.sl ((x44.args).map tx)] from map_get Fact.c h45) ow0))))) ?_
    refine (congrFun hS1 _).mpr ?_
    rw [i64_succ (drop_cons hd1).2.1 hm1]
    first | exact t | (simp only [List.map_append, List.map_cons, List.map_nil, List.map_set] at t ⊢; exact t)
theorem d_laws_toFactS_good {a0_ : List Fact} {r : List Fact} (h : d_laws_toFactS a0_ = some r) : Good Try.prog 26 [D.sl ((a0_).map Fact.c)] (D.fr 92 2 ((r).map Fact.c)) := by
  refine Good.of (c := bodyOf Try.f26) Try.func26 rfl (by decide) (by simp [Try.f26]) ?_
  intro hr Γ hΓ
  have hΓ : Γ.nt = 23 := hΓ
  rw [d_laws_toFactS] at h
  refine (show AW Try.prog Γ (bodyOf Try.f26) (KQ Try.prog Γ (fun _ _ => False) (RetQ Try.prog Try.f26 (D.fr 92 2 ((r).map Fact.c))) []) _ from ?_)
  obtain ⟨h1, h⟩ := den_ok h
  refine AW_go (n := 2000) [[some (92, 2)]] [.cn [0, 3, 4] [0]] (.lp (dig (bodyOf Try.f26) [1, 1, 0, 1, 0, 0] []).1 (dig (bodyOf Try.f26) [1, 1, 0, 1, 0] []).2 ⟨[(0, D.sl ((a0_).map Fact.c)), (3, D.acc 0), (4, D.int .i64 (0))], [Ob.row .uq 92 2 (List.replicate ((((a0_).map Fact.c).length : Int)).toNat [D.str ([]), D.sl ([])])]⟩) hΓ mix (by kernel_rfl) (ow (roomM_ok h1) ow0) (AW_st (by first | rfl | (simp only [List.map_append, List.map_cons, List.map_nil, List.map_set, List.map_replicate] <;> rfl)) (AW_of_r (d_laws_toFactS_L1w hΓ (fun q1_0 h => ?_) (by have := (Rdb.sl (hr _ (List.mem_of_getElem? (i := 0) rfl))).1; simpa using this) (a0_) 0 (List.replicate ((((a0_).map Fact.c).length : Int)).toNat (⟨([] : Bytes), []⟩ : Fact)) rfl h)))
  have h := den_some h
  subst h
  exact AW_go (n := 2000) [[some (92, 2)]] [] (.ret (D.fr 92 2 ((q1_0).map Fact.c))) hΓ mix (by kernel_rfl) ow0 rfl
end Go.Cx
