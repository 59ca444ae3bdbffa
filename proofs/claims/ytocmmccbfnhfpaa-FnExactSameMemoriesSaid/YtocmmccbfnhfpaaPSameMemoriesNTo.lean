/- What functions of the program compute, and the walks that show it. No condition. -/
import Derived.Test.YtocmmccbfnhfpaaNData
namespace Go.Cx
open Go.RowKit Go.Proofs
set_option linter.unusedVariables false
set_option linter.unusedSimpArgs false
set_option maxRecDepth 100000
def d_laws_toStringS_L1 (a0_ : List Bytes) (k1 : List Bytes → Option (List Bytes)) : List Bytes → Nat → List Bytes → Option (List Bytes)
  | [], i1, w1_0 => (k1 (w1_0))
  | x1_ :: xs1, i1, w1_0 => (bif decide (i1 < ((w1_0).map tx).length) then (((w1_0)[i1]?).bind fun x30 => (d_laws_toStringS_L1 a0_ k1 xs1 (i1 + 1) ((w1_0).set i1 x1_))) else none)
def d_laws_toStringS (a0_ : List Bytes) : Option (List Bytes) := (bif roomM ((((a0_).map tx).length : Int)) 16 then (d_laws_toStringS_L1 a0_ (fun (q1_0 : List Bytes) => (some (q1_0))) (a0_) 0 (List.replicate ((((a0_).map tx).length : Int)).toNat ([] : Bytes))) else none)
theorem d_laws_toStringS_L1w {Γ : Ctx} (hΓ : Γ.nt = 22) {N : Nat → St → Prop} {a0_ : List Bytes} {r : List Bytes} {k1 : List Bytes → Option (List Bytes)} (hE1 : ∀ (q1_0 : List Bytes), k1 q1_0 = some r → AW Try.prog Γ (dig (bodyOf Try.f137) [1, 1, 1] []).1 (KQ Try.prog Γ N (RetQ Try.prog Try.f137 (D.fr 9 1 ((r).map tx))) (dig (bodyOf Try.f137) [1, 1, 1] []).2) ⟨[(3, D.acc 0)], [Ob.row .uq 9 1 ((q1_0).map tx)]⟩) (hm1 : (a0_).length ≤ maxLen) : ∀ (rest : List Bytes) (i1 : Nat) (w1_0 : List Bytes), (a0_).drop i1 = rest → d_laws_toStringS_L1 a0_ k1 rest i1 w1_0 = some r → AWr Try.prog Γ (dig (bodyOf Try.f137) [1, 1, 0, 1, 0, 0] []).1 (KQ Try.prog Γ N (RetQ Try.prog Try.f137 (D.fr 9 1 ((r).map tx))) (dig (bodyOf Try.f137) [1, 1, 0, 1, 0] []).2) (rest.length + 1) ⟨[(0, D.sl ((a0_).map tx)), (3, D.acc 0), (4, D.int .i64 ((i1 : Int)))], [Ob.row .uq 9 1 ((w1_0).map tx)]⟩ := by
  intro rest
  induction rest with
  | nil =>
    intro i1 w1_0 hd1 h
    rw [d_laws_toStringS_L1] at h
    refine AWr_succ fun N1 hN1 hS1 => ?_
    have t := AW_N (N := N) (N' := N1) (K0 := (dig (bodyOf Try.f137) [1, 1, 0, 1, 0] []).2) (by kernel_rfl) hN1 (hE1 (w1_0) h)
    refine AW_go (n := 2000) [[some (9, 1)]] [.b false, .hl 0 [3] [0]] (.at_ (dig (bodyOf Try.f137) [1, 1, 1] []).1 (dig (bodyOf Try.f137) [1, 1, 1] []).2 ⟨[(3, D.acc 0)], [Ob.row .uq 9 1 ((w1_0).map tx)]⟩) hΓ mix (by kernel_rfl) (ow ((ltm_false tx (drop_nil hd1))) ow0) ?_
    first | exact t | (simp only [List.map_append, List.map_cons, List.map_nil, List.map_set] at t ⊢; exact t)
  | cons x1_ xs1 ih1 =>
    intro i1 w1_0 hd1 h
    rw [d_laws_toStringS_L1] at h
    refine AWr_succ fun N1 hN1 hS1 => ?_
    obtain ⟨h29, h⟩ := den_ok h
    obtain ⟨x30, h31, h⟩ := den_bind h
    have t := ih1 (i1 + 1) ((w1_0).set i1 x1_) (drop_cons hd1).2.2 h
    refine AW_go (n := 2000) [[some (9, 1)]] [.b true, .row (tx x1_), .ix i1, .row [D.str (x30)], .cn [0, 3, 4] [0]] (.cont 0 ⟨[(0, D.sl ((a0_).map tx)), (3, D.acc 0), (4, D.int .i64 (IntKind.i64.wrap (((i1 : Int)) + (1))))], [Ob.row .uq 9 1 (((w1_0).map tx).set i1 [D.str (x1_)])]⟩) hΓ mix (by kernel_rfl) (ow ((ltm_true tx (drop_cons hd1).2.1)) (ow (map_row tx 1 (drop_cons hd1).1 rfl) (ow (own_ix 1 h29) (ow (show ((w1_0).map tx)[i1]? = some [D.str (x30)] from map_get tx h31) ow0)))) ?_
    refine (congrFun hS1 _).mpr ?_
    rw [i64_succ (drop_cons hd1).2.1 hm1]
    first | exact t | (simp only [List.map_append, List.map_cons, List.map_nil, List.map_set] at t ⊢; exact t)
theorem d_laws_toStringS_good {a0_ : List Bytes} {r : List Bytes} (h : d_laws_toStringS a0_ = some r) : Good Try.prog 137 [D.sl ((a0_).map tx)] (D.fr 9 1 ((r).map tx)) := by
  refine Good.of (c := bodyOf Try.f137) Try.func137 rfl (by decide) (by simp [Try.f137]) ?_
  intro hr Γ hΓ
  have hΓ : Γ.nt = 22 := hΓ
  rw [d_laws_toStringS] at h
  refine (show AW Try.prog Γ (bodyOf Try.f137) (KQ Try.prog Γ (fun _ _ => False) (RetQ Try.prog Try.f137 (D.fr 9 1 ((r).map tx))) []) _ from ?_)
  obtain ⟨h1, h⟩ := den_ok h
  refine AW_go (n := 2000) [[some (9, 1)]] [.cn [0, 3, 4] [0]] (.lp (dig (bodyOf Try.f137) [1, 1, 0, 1, 0, 0] []).1 (dig (bodyOf Try.f137) [1, 1, 0, 1, 0] []).2 ⟨[(0, D.sl ((a0_).map tx)), (3, D.acc 0), (4, D.int .i64 (0))], [Ob.row .uq 9 1 (List.replicate ((((a0_).map tx).length : Int)).toNat [D.str ([])])]⟩) hΓ mix (by kernel_rfl) (ow (roomM_ok h1) ow0) (AW_st (by first | rfl | (simp only [List.map_append, List.map_cons, List.map_nil, List.map_set, List.map_replicate] <;> rfl)) (AW_of_r (d_laws_toStringS_L1w hΓ (fun q1_0 h => ?_) (by have := (Rdb.sl (hr _ (List.mem_of_getElem? (i := 0) rfl))).1; simpa using this) (a0_) 0 (List.replicate ((((a0_).map tx).length : Int)).toNat ([] : Bytes)) rfl h)))
  have h := den_some h
  subst h
  exact AW_go (n := 2000) [[some (9, 1)]] [] (.ret (D.fr 9 1 ((q1_0).map tx))) hΓ mix (by kernel_rfl) ow0 rfl
def d_laws_toFact (a0_ : Fact) : Option Fact := ((d_laws_toStringS (a0_.args)).bind fun y1 => (some ((⟨a0_.rel, y1⟩ : Fact))))
theorem d_laws_toFact_good {a0_ : Fact} {r : Fact} (h : d_laws_toFact a0_ = some r) : Good Try.prog 78 [D.agg (Fact.c a0_)] (D.agg [D.str (r.rel), D.fr 9 1 ((r.args).map tx)]) := by
  refine Good.of (c := bodyOf Try.f78) Try.func78 rfl (by decide) (by simp [Try.f78]) ?_
  intro hr Γ hΓ
  have hΓ : Γ.nt = 12 := hΓ
  rw [d_laws_toFact] at h
  refine (show AW Try.prog Γ (bodyOf Try.f78) (KQ Try.prog Γ (fun _ _ => False) (RetQ Try.prog Try.f78 (D.agg [D.str (r.rel), D.fr 9 1 ((r.args).map tx)])) []) _ from ?_)
  obtain ⟨y1, h2, h⟩ := den_bind h
  have h := den_some h
  subst h
  exact AW_go (n := 2000) [[none, some (9, 1)]] [.d (D.fr 9 1 ((y1).map tx))] (.ret (D.agg [D.str (a0_.rel), D.fr 9 1 ((y1).map tx)])) hΓ mix (by kernel_rfl) (ow (d_laws_toStringS_good h2) ow0) rfl
def d_laws_toFactS_L1 (a0_ : List Fact) (k1 : List Fact → Option (List Fact)) : List Fact → Nat → List Fact → Option (List Fact)
  | [], i1, w1_0 => (k1 (w1_0))
  | x1_ :: xs1, i1, w1_0 => ((d_laws_toFact (x1_)).bind fun y41 => (bif decide (i1 < ((w1_0).map Fact.c).length) then (((w1_0)[i1]?).bind fun x44 => (d_laws_toFactS_L1 a0_ k1 xs1 (i1 + 1) ((w1_0).set i1 y41))) else none))
def d_laws_toFactS (a0_ : List Fact) : Option (List Fact) := (bif roomM ((((a0_).map Fact.c).length : Int)) 40 then (d_laws_toFactS_L1 a0_ (fun (q1_0 : List Fact) => (some (q1_0))) (a0_) 0 (List.replicate ((((a0_).map Fact.c).length : Int)).toNat (⟨([] : Bytes), []⟩ : Fact))) else none)
theorem d_laws_toFactS_L1w {Γ : Ctx} (hΓ : Γ.nt = 23) {N : Nat → St → Prop} {a0_ : List Fact} {r : List Fact} {k1 : List Fact → Option (List Fact)} (hE1 : ∀ (q1_0 : List Fact), k1 q1_0 = some r → AW Try.prog Γ (dig (bodyOf Try.f26) [1, 1, 1] []).1 (KQ Try.prog Γ N (RetQ Try.prog Try.f26 (D.fr 92 2 ((r).map Fact.c))) (dig (bodyOf Try.f26) [1, 1, 1] []).2) ⟨[(3, D.acc 0)], [Ob.row .uq 92 2 ((q1_0).map Fact.c)]⟩) (hm1 : (a0_).length ≤ maxLen) : ∀ (rest : List Fact) (i1 : Nat) (w1_0 : List Fact), (a0_).drop i1 = rest → d_laws_toFactS_L1 a0_ k1 rest i1 w1_0 = some r → AWr Try.prog Γ (dig (bodyOf Try.f26) [1, 1, 0, 1, 0, 0] []).1 (KQ Try.prog Γ N (RetQ Try.prog Try.f26 (D.fr 92 2 ((r).map Fact.c))) (dig (bodyOf Try.f26) [1, 1, 0, 1, 0] []).2) (rest.length + 1) ⟨[(0, D.sl ((a0_).map Fact.c)), (3, D.acc 0), (4, D.int .i64 ((i1 : Int)))], [Ob.row .uq 92 2 ((w1_0).map Fact.c)]⟩ := by
  intro rest
  induction rest with
  | nil =>
    intro i1 w1_0 hd1 h
    rw [d_laws_toFactS_L1] at h
    refine AWr_succ fun N1 hN1 hS1 => ?_
    have t := AW_N (N := N) (N' := N1) (K0 := (dig (bodyOf Try.f26) [1, 1, 0, 1, 0] []).2) (by kernel_rfl) hN1 (hE1 (w1_0) h)
    refine AW_go (n := 2000) [[some (92, 2)]] [.b false, .hl 0 [3] [0]] (.at_ (dig (bodyOf Try.f26) [1, 1, 1] []).1 (dig (bodyOf Try.f26) [1, 1, 1] []).2 ⟨[(3, D.acc 0)], [Ob.row .uq 92 2 ((w1_0).map Fact.c)]⟩) hΓ mix (by kernel_rfl) (ow ((ltm_false Fact.c (drop_nil hd1))) ow0) ?_
    first | exact t | (simp only [List.map_append, List.map_cons, List.map_nil, List.map_set] at t ⊢; exact t)
  | cons x1_ xs1 ih1 =>
    intro i1 w1_0 hd1 h
    rw [d_laws_toFactS_L1] at h
    refine AWr_succ fun N1 hN1 hS1 => ?_
    obtain ⟨y41, h42, h⟩ := den_bind h
    obtain ⟨h43, h⟩ := den_ok h
    obtain ⟨x44, h45, h⟩ := den_bind h
    have t := ih1 (i1 + 1) ((w1_0).set i1 y41) (drop_cons hd1).2.2 h
    refine AW_go (n := 2000) [[some (92, 2)]] [.b true, .row (Fact.c x1_), .d (D.agg [D.str (y41.rel), D.fr 9 1 ((y41.args).map tx)]), .ix i1, .row [D.str (x44.rel), D.sl ((x44.args).map tx)], .cn [0, 3, 4] [0]] (.cont 0 ⟨[(0, D.sl ((a0_).map Fact.c)), (3, D.acc 0), (4, D.int .i64 (IntKind.i64.wrap (((i1 : Int)) + (1))))], [Ob.row .uq 92 2 (((w1_0).map Fact.c).set i1 [D.str (y41.rel), D.sl ((y41.args).map tx)])]⟩) hΓ mix (by kernel_rfl) (ow ((ltm_true Fact.c (drop_cons hd1).2.1)) (ow (map_row Fact.c 2 (drop_cons hd1).1 rfl) (ow (d_laws_toFact_good h42) (ow (own_ix 2 h43) (ow (show ((w1_0).map Fact.c)[i1]? = some [D.str (x44.rel), D.sl ((x44.args).map tx)] from map_get Fact.c h45) ow0))))) ?_
    refine (congrFun hS1 _).mpr ?_
    rw [i64_succ (drop_cons hd1).2.1 hm1]
    first | exact t | (simp only [List.map_append, List.map_cons, List.map_nil, List.map_set] at t ⊢; exact t)
theorem d_laws_toFactS_good {a0_ : List Fact} {r : List Fact} (h : d_laws_toFactS a0_ = some r) : Good Try.prog 26 [D.sl ((a0_).map Fact.c)] (D.fr 92 2 ((r).map Fact.c)) := by
  refine Good.of (c := bodyOf Try.f26) Try.func26 rfl (by decide) (by simp [Try.f26]) ?_
  intro hr Γ hΓ
  have hΓ : Γ.nt = 23 := hΓ
  rw [d_laws_toFactS] at h
  refine (show AW Try.prog Γ (bodyOf Try.f26) (KQ Try.prog Γ (fun _ _ => False) (RetQ Try.prog Try.f26 (D.fr 92 2 ((r).map Fact.c))) []) _ from ?_)
  obtain ⟨h1, h⟩ := den_ok h
  refine AW_go (n := 2000) [[some (92, 2)]] [.cn [0, 3, 4] [0]] (.lp (dig (bodyOf Try.f26) [1, 1, 0, 1, 0, 0] []).1 (dig (bodyOf Try.f26) [1, 1, 0, 1, 0] []).2 ⟨[(0, D.sl ((a0_).map Fact.c)), (3, D.acc 0), (4, D.int .i64 (0))], [Ob.row .uq 92 2 (List.replicate ((((a0_).map Fact.c).length : Int)).toNat [D.str ([]), D.sl ([])])]⟩) hΓ mix (by kernel_rfl) (ow (roomM_ok h1) ow0) (AW_st (by first | rfl | (simp only [List.map_append, List.map_cons, List.map_nil, List.map_set, List.map_replicate] <;> rfl)) (AW_of_r (d_laws_toFactS_L1w hΓ (fun q1_0 h => ?_) (by have := (Rdb.sl (hr _ (List.mem_of_getElem? (i := 0) rfl))).1; simpa using this) (a0_) 0 (List.replicate ((((a0_).map Fact.c).length : Int)).toNat (⟨([] : Bytes), []⟩ : Fact)) rfl h)))
  have h := den_some h
  subst h
  exact AW_go (n := 2000) [[some (92, 2)]] [] (.ret (D.fr 92 2 ((q1_0).map Fact.c))) hΓ mix (by kernel_rfl) ow0 rfl
def d_laws_toIntS_L1 (a0_ : List Int) (k1 : List Int → Option (List Int)) : List Int → Nat → List Int → Option (List Int)
  | [], i1, w1_0 => (k1 (w1_0))
  | x1_ :: xs1, i1, w1_0 => (bif decide (i1 < ((w1_0).map ixx).length) then (((w1_0)[i1]?).bind fun x30 => (d_laws_toIntS_L1 a0_ k1 xs1 (i1 + 1) ((w1_0).set i1 x1_))) else none)
def d_laws_toIntS (a0_ : List Int) : Option (List Int) := (bif roomM ((((a0_).map ixx).length : Int)) 8 then (d_laws_toIntS_L1 a0_ (fun (q1_0 : List Int) => (some (q1_0))) (a0_) 0 (List.replicate ((((a0_).map ixx).length : Int)).toNat (0 : Int))) else none)
theorem d_laws_toIntS_L1w {Γ : Ctx} (hΓ : Γ.nt = 22) {N : Nat → St → Prop} {a0_ : List Int} {r : List Int} {k1 : List Int → Option (List Int)} (hE1 : ∀ (q1_0 : List Int), k1 q1_0 = some r → AW Try.prog Γ (dig (bodyOf Try.f32) [1, 1, 1] []).1 (KQ Try.prog Γ N (RetQ Try.prog Try.f32 (D.fr 3 1 ((r).map ixx))) (dig (bodyOf Try.f32) [1, 1, 1] []).2) ⟨[(3, D.acc 0)], [Ob.row .uq 3 1 ((q1_0).map ixx)]⟩) (hm1 : (a0_).length ≤ maxLen) : ∀ (rest : List Int) (i1 : Nat) (w1_0 : List Int), (a0_).drop i1 = rest → d_laws_toIntS_L1 a0_ k1 rest i1 w1_0 = some r → AWr Try.prog Γ (dig (bodyOf Try.f32) [1, 1, 0, 1, 0, 0] []).1 (KQ Try.prog Γ N (RetQ Try.prog Try.f32 (D.fr 3 1 ((r).map ixx))) (dig (bodyOf Try.f32) [1, 1, 0, 1, 0] []).2) (rest.length + 1) ⟨[(0, D.sl ((a0_).map ixx)), (3, D.acc 0), (4, D.int .i64 ((i1 : Int)))], [Ob.row .uq 3 1 ((w1_0).map ixx)]⟩ := by
  intro rest
  induction rest with
  | nil =>
    intro i1 w1_0 hd1 h
    rw [d_laws_toIntS_L1] at h
    refine AWr_succ fun N1 hN1 hS1 => ?_
    have t := AW_N (N := N) (N' := N1) (K0 := (dig (bodyOf Try.f32) [1, 1, 0, 1, 0] []).2) (by kernel_rfl) hN1 (hE1 (w1_0) h)
    refine AW_go (n := 2000) [[some (3, 1)]] [.b false, .hl 0 [3] [0]] (.at_ (dig (bodyOf Try.f32) [1, 1, 1] []).1 (dig (bodyOf Try.f32) [1, 1, 1] []).2 ⟨[(3, D.acc 0)], [Ob.row .uq 3 1 ((w1_0).map ixx)]⟩) hΓ mix (by kernel_rfl) (ow ((ltm_false ixx (drop_nil hd1))) ow0) ?_
    first | exact t | (simp only [List.map_append, List.map_cons, List.map_nil, List.map_set] at t ⊢; exact t)
  | cons x1_ xs1 ih1 =>
    intro i1 w1_0 hd1 h
    rw [d_laws_toIntS_L1] at h
    refine AWr_succ fun N1 hN1 hS1 => ?_
    obtain ⟨h29, h⟩ := den_ok h
    obtain ⟨x30, h31, h⟩ := den_bind h
    have t := ih1 (i1 + 1) ((w1_0).set i1 x1_) (drop_cons hd1).2.2 h
    refine AW_go (n := 2000) [[some (3, 1)]] [.b true, .row (ixx x1_), .ix i1, .row [D.int .i64 (x30)], .cn [0, 3, 4] [0]] (.cont 0 ⟨[(0, D.sl ((a0_).map ixx)), (3, D.acc 0), (4, D.int .i64 (IntKind.i64.wrap (((i1 : Int)) + (1))))], [Ob.row .uq 3 1 (((w1_0).map ixx).set i1 [D.int .i64 (x1_)])]⟩) hΓ mix (by kernel_rfl) (ow ((ltm_true ixx (drop_cons hd1).2.1)) (ow (map_row ixx 1 (drop_cons hd1).1 rfl) (ow (own_ix 1 h29) (ow (show ((w1_0).map ixx)[i1]? = some [D.int .i64 (x30)] from map_get ixx h31) ow0)))) ?_
    refine (congrFun hS1 _).mpr ?_
    rw [i64_succ (drop_cons hd1).2.1 hm1]
    first | exact t | (simp only [List.map_append, List.map_cons, List.map_nil, List.map_set] at t ⊢; exact t)
theorem d_laws_toIntS_good {a0_ : List Int} {r : List Int} (h : d_laws_toIntS a0_ = some r) : Good Try.prog 32 [D.sl ((a0_).map ixx)] (D.fr 3 1 ((r).map ixx)) := by
  refine Good.of (c := bodyOf Try.f32) Try.func32 rfl (by decide) (by simp [Try.f32]) ?_
  intro hr Γ hΓ
  have hΓ : Γ.nt = 22 := hΓ
  rw [d_laws_toIntS] at h
  refine (show AW Try.prog Γ (bodyOf Try.f32) (KQ Try.prog Γ (fun _ _ => False) (RetQ Try.prog Try.f32 (D.fr 3 1 ((r).map ixx))) []) _ from ?_)
  obtain ⟨h1, h⟩ := den_ok h
  refine AW_go (n := 2000) [[some (3, 1)]] [.cn [0, 3, 4] [0]] (.lp (dig (bodyOf Try.f32) [1, 1, 0, 1, 0, 0] []).1 (dig (bodyOf Try.f32) [1, 1, 0, 1, 0] []).2 ⟨[(0, D.sl ((a0_).map ixx)), (3, D.acc 0), (4, D.int .i64 (0))], [Ob.row .uq 3 1 (List.replicate ((((a0_).map ixx).length : Int)).toNat [D.int .i64 (0)])]⟩) hΓ mix (by kernel_rfl) (ow (roomM_ok h1) ow0) (AW_st (by first | rfl | (simp only [List.map_append, List.map_cons, List.map_nil, List.map_set, List.map_replicate] <;> rfl)) (AW_of_r (d_laws_toIntS_L1w hΓ (fun q1_0 h => ?_) (by have := (Rdb.sl (hr _ (List.mem_of_getElem? (i := 0) rfl))).1; simpa using this) (a0_) 0 (List.replicate ((((a0_).map ixx).length : Int)).toNat (0 : Int)) rfl h)))
  have h := den_some h
  subst h
  exact AW_go (n := 2000) [[some (3, 1)]] [] (.ret (D.fr 3 1 ((q1_0).map ixx))) hΓ mix (by kernel_rfl) ow0 rfl
def d_laws_toPattern (a0_ : Fact) : Option Fact := ((d_laws_toStringS (a0_.args)).bind fun y1 => (some ((⟨a0_.rel, y1⟩ : Fact))))
theorem d_laws_toPattern_good {a0_ : Fact} {r : Fact} (h : d_laws_toPattern a0_ = some r) : Good Try.prog 186 [D.agg (Fact.c a0_)] (D.agg [D.str (r.rel), D.fr 9 1 ((r.args).map tx)]) := by
  refine Good.of (c := bodyOf Try.f186) Try.func186 rfl (by decide) (by simp [Try.f186]) ?_
  intro hr Γ hΓ
  have hΓ : Γ.nt = 12 := hΓ
  rw [d_laws_toPattern] at h
  refine (show AW Try.prog Γ (bodyOf Try.f186) (KQ Try.prog Γ (fun _ _ => False) (RetQ Try.prog Try.f186 (D.agg [D.str (r.rel), D.fr 9 1 ((r.args).map tx)])) []) _ from ?_)
  obtain ⟨y1, h2, h⟩ := den_bind h
  have h := den_some h
  subst h
  exact AW_go (n := 2000) [[none, some (9, 1)]] [.d (D.fr 9 1 ((y1).map tx))] (.ret (D.agg [D.str (a0_.rel), D.fr 9 1 ((y1).map tx)])) hΓ mix (by kernel_rfl) (ow (d_laws_toStringS_good h2) ow0) rfl
def d_laws_toCond (a0_ : Cond) : Option Cond := ((d_laws_toPattern (a0_.pat)).bind fun y1 => (some ((⟨a0_.kind, y1, a0_.left, a0_.right⟩ : Cond))))
theorem d_laws_toCond_good {a0_ : Cond} {r : Cond} (h : d_laws_toCond a0_ = some r) : Good Try.prog 143 [D.agg (Cond.c a0_)] (D.agg [D.int .i64 (r.kind), D.str (r.pat.rel), D.fr 9 1 ((r.pat.args).map tx), D.str (r.left), D.str (r.right)]) := by
  refine Good.of (c := bodyOf Try.f143) Try.func143 rfl (by decide) (by simp [Try.f143]) ?_
  intro hr Γ hΓ
  have hΓ : Γ.nt = 18 := hΓ
  rw [d_laws_toCond] at h
  refine (show AW Try.prog Γ (bodyOf Try.f143) (KQ Try.prog Γ (fun _ _ => False) (RetQ Try.prog Try.f143 (D.agg [D.int .i64 (r.kind), D.str (r.pat.rel), D.fr 9 1 ((r.pat.args).map tx), D.str (r.left), D.str (r.right)])) []) _ from ?_)
  obtain ⟨y1, h2, h⟩ := den_bind h
  have h := den_some h
  subst h
  exact AW_go (n := 2000) [[none, none, some (9, 1), none, none]] [.d (D.agg [D.str (y1.rel), D.fr 9 1 ((y1.args).map tx)])] (.ret (D.agg [D.int .i64 (a0_.kind), D.str (y1.rel), D.fr 9 1 ((y1.args).map tx), D.str (a0_.left), D.str (a0_.right)])) hΓ mix (by kernel_rfl) (ow (d_laws_toPattern_good h2) ow0) rfl
def d_laws_toCondS_L1 (a0_ : List Cond) (k1 : List Cond → Option (List Cond)) : List Cond → Nat → List Cond → Option (List Cond)
  | [], i1, w1_0 => (k1 (w1_0))
  | x1_ :: xs1, i1, w1_0 => ((d_laws_toCond (x1_)).bind fun y41 => (bif decide (i1 < ((w1_0).map Cond.c).length) then (((w1_0)[i1]?).bind fun x44 => (d_laws_toCondS_L1 a0_ k1 xs1 (i1 + 1) ((w1_0).set i1 y41))) else none))
def d_laws_toCondS (a0_ : List Cond) : Option (List Cond) := (bif roomM ((((a0_).map Cond.c).length : Int)) 80 then (d_laws_toCondS_L1 a0_ (fun (q1_0 : List Cond) => (some (q1_0))) (a0_) 0 (List.replicate ((((a0_).map Cond.c).length : Int)).toNat (⟨(0 : Int), (⟨([] : Bytes), []⟩ : Fact), ([] : Bytes), ([] : Bytes)⟩ : Cond))) else none)
theorem d_laws_toCondS_L1w {Γ : Ctx} (hΓ : Γ.nt = 23) {N : Nat → St → Prop} {a0_ : List Cond} {r : List Cond} {k1 : List Cond → Option (List Cond)} (hE1 : ∀ (q1_0 : List Cond), k1 q1_0 = some r → AW Try.prog Γ (dig (bodyOf Try.f86) [1, 1, 1] []).1 (KQ Try.prog Γ N (RetQ Try.prog Try.f86 (D.fr 112 5 ((r).map Cond.c))) (dig (bodyOf Try.f86) [1, 1, 1] []).2) ⟨[(3, D.acc 0)], [Ob.row .uq 112 5 ((q1_0).map Cond.c)]⟩) (hm1 : (a0_).length ≤ maxLen) : ∀ (rest : List Cond) (i1 : Nat) (w1_0 : List Cond), (a0_).drop i1 = rest → d_laws_toCondS_L1 a0_ k1 rest i1 w1_0 = some r → AWr Try.prog Γ (dig (bodyOf Try.f86) [1, 1, 0, 1, 0, 0] []).1 (KQ Try.prog Γ N (RetQ Try.prog Try.f86 (D.fr 112 5 ((r).map Cond.c))) (dig (bodyOf Try.f86) [1, 1, 0, 1, 0] []).2) (rest.length + 1) ⟨[(0, D.sl ((a0_).map Cond.c)), (3, D.acc 0), (4, D.int .i64 ((i1 : Int)))], [Ob.row .uq 112 5 ((w1_0).map Cond.c)]⟩ := by
  intro rest
  induction rest with
  | nil =>
    intro i1 w1_0 hd1 h
    rw [d_laws_toCondS_L1] at h
    refine AWr_succ fun N1 hN1 hS1 => ?_
    have t := AW_N (N := N) (N' := N1) (K0 := (dig (bodyOf Try.f86) [1, 1, 0, 1, 0] []).2) (by kernel_rfl) hN1 (hE1 (w1_0) h)
    refine AW_go (n := 2000) [[some (112, 5)]] [.b false, .hl 0 [3] [0]] (.at_ (dig (bodyOf Try.f86) [1, 1, 1] []).1 (dig (bodyOf Try.f86) [1, 1, 1] []).2 ⟨[(3, D.acc 0)], [Ob.row .uq 112 5 ((w1_0).map Cond.c)]⟩) hΓ mix (by kernel_rfl) (ow ((ltm_false Cond.c (drop_nil hd1))) ow0) ?_
    first | exact t | (simp only [List.map_append, List.map_cons, List.map_nil, List.map_set] at t ⊢; exact t)
  | cons x1_ xs1 ih1 =>
    intro i1 w1_0 hd1 h
    rw [d_laws_toCondS_L1] at h
    refine AWr_succ fun N1 hN1 hS1 => ?_
    obtain ⟨y41, h42, h⟩ := den_bind h
    obtain ⟨h43, h⟩ := den_ok h
    obtain ⟨x44, h45, h⟩ := den_bind h
    have t := ih1 (i1 + 1) ((w1_0).set i1 y41) (drop_cons hd1).2.2 h
    refine AW_go (n := 2000) [[some (112, 5)]] [.b true, .row (Cond.c x1_), .d (D.agg [D.int .i64 (y41.kind), D.str (y41.pat.rel), D.fr 9 1 ((y41.pat.args).map tx), D.str (y41.left), D.str (y41.right)]), .ix i1, .row [D.int .i64 (x44.kind), D.str (x44.pat.rel), D.sl ((x44.pat.args).map tx), D.str (x44.left), D.str (x44.right)], .cn [0, 3, 4] [0]] (.cont 0 ⟨[(0, D.sl ((a0_).map Cond.c)), (3, D.acc 0), (4, D.int .i64 (IntKind.i64.wrap (((i1 : Int)) + (1))))], [Ob.row .uq 112 5 (((w1_0).map Cond.c).set i1 [D.int .i64 (y41.kind), D.str (y41.pat.rel), D.sl ((y41.pat.args).map tx), D.str (y41.left), D.str (y41.right)])]⟩) hΓ mix (by kernel_rfl) (ow ((ltm_true Cond.c (drop_cons hd1).2.1)) (ow (map_row Cond.c 5 (drop_cons hd1).1 rfl) (ow (d_laws_toCond_good h42) (ow (own_ix 5 h43) (ow (show ((w1_0).map Cond.c)[i1]? = some [D.int .i64 (x44.kind), D.str (x44.pat.rel), D.sl ((x44.pat.args).map tx), D.str (x44.left), D.str (x44.right)] from map_get Cond.c h45) ow0))))) ?_
    refine (congrFun hS1 _).mpr ?_
    rw [i64_succ (drop_cons hd1).2.1 hm1]
    first | exact t | (simp only [List.map_append, List.map_cons, List.map_nil, List.map_set] at t ⊢; exact t)
theorem d_laws_toCondS_good {a0_ : List Cond} {r : List Cond} (h : d_laws_toCondS a0_ = some r) : Good Try.prog 86 [D.sl ((a0_).map Cond.c)] (D.fr 112 5 ((r).map Cond.c)) := by
  refine Good.of (c := bodyOf Try.f86) Try.func86 rfl (by decide) (by simp [Try.f86]) ?_
  intro hr Γ hΓ
  have hΓ : Γ.nt = 23 := hΓ
  rw [d_laws_toCondS] at h
  refine (show AW Try.prog Γ (bodyOf Try.f86) (KQ Try.prog Γ (fun _ _ => False) (RetQ Try.prog Try.f86 (D.fr 112 5 ((r).map Cond.c))) []) _ from ?_)
  obtain ⟨h1, h⟩ := den_ok h
  refine AW_go (n := 2000) [[some (112, 5)]] [.cn [0, 3, 4] [0]] (.lp (dig (bodyOf Try.f86) [1, 1, 0, 1, 0, 0] []).1 (dig (bodyOf Try.f86) [1, 1, 0, 1, 0] []).2 ⟨[(0, D.sl ((a0_).map Cond.c)), (3, D.acc 0), (4, D.int .i64 (0))], [Ob.row .uq 112 5 (List.replicate ((((a0_).map Cond.c).length : Int)).toNat [D.int .i64 (0), D.str ([]), D.sl ([]), D.str ([]), D.str ([])])]⟩) hΓ mix (by kernel_rfl) (ow (roomM_ok h1) ow0) (AW_st (by first | rfl | (simp only [List.map_append, List.map_cons, List.map_nil, List.map_set, List.map_replicate] <;> rfl)) (AW_of_r (d_laws_toCondS_L1w hΓ (fun q1_0 h => ?_) (by have := (Rdb.sl (hr _ (List.mem_of_getElem? (i := 0) rfl))).1; simpa using this) (a0_) 0 (List.replicate ((((a0_).map Cond.c).length : Int)).toNat (⟨(0 : Int), (⟨([] : Bytes), []⟩ : Fact), ([] : Bytes), ([] : Bytes)⟩ : Cond)) rfl h)))
  have h := den_some h
  subst h
  exact AW_go (n := 2000) [[some (112, 5)]] [] (.ret (D.fr 112 5 ((q1_0).map Cond.c))) hΓ mix (by kernel_rfl) ow0 rfl
def d_laws_toAction (a0_ : Action) : Option Action := ((d_laws_toPattern (a0_.pat)).bind fun y1 => (some ((⟨a0_.kind, y1⟩ : Action))))
theorem d_laws_toAction_good {a0_ : Action} {r : Action} (h : d_laws_toAction a0_ = some r) : Good Try.prog 144 [D.agg (Action.c a0_)] (D.agg [D.int .i64 (r.kind), D.str (r.pat.rel), D.fr 9 1 ((r.pat.args).map tx)]) := by
  refine Good.of (c := bodyOf Try.f144) Try.func144 rfl (by decide) (by simp [Try.f144]) ?_
  intro hr Γ hΓ
  have hΓ : Γ.nt = 12 := hΓ
  rw [d_laws_toAction] at h
  refine (show AW Try.prog Γ (bodyOf Try.f144) (KQ Try.prog Γ (fun _ _ => False) (RetQ Try.prog Try.f144 (D.agg [D.int .i64 (r.kind), D.str (r.pat.rel), D.fr 9 1 ((r.pat.args).map tx)])) []) _ from ?_)
  obtain ⟨y1, h2, h⟩ := den_bind h
  have h := den_some h
  subst h
  exact AW_go (n := 2000) [[none, none, some (9, 1)]] [.d (D.agg [D.str (y1.rel), D.fr 9 1 ((y1.args).map tx)])] (.ret (D.agg [D.int .i64 (a0_.kind), D.str (y1.rel), D.fr 9 1 ((y1.args).map tx)])) hΓ mix (by kernel_rfl) (ow (d_laws_toPattern_good h2) ow0) rfl
def d_laws_toActionS_L1 (a0_ : List Action) (k1 : List Action → Option (List Action)) : List Action → Nat → List Action → Option (List Action)
  | [], i1, w1_0 => (k1 (w1_0))
  | x1_ :: xs1, i1, w1_0 => ((d_laws_toAction (x1_)).bind fun y41 => (bif decide (i1 < ((w1_0).map Action.c).length) then (((w1_0)[i1]?).bind fun x44 => (d_laws_toActionS_L1 a0_ k1 xs1 (i1 + 1) ((w1_0).set i1 y41))) else none))
def d_laws_toActionS (a0_ : List Action) : Option (List Action) := (bif roomM ((((a0_).map Action.c).length : Int)) 48 then (d_laws_toActionS_L1 a0_ (fun (q1_0 : List Action) => (some (q1_0))) (a0_) 0 (List.replicate ((((a0_).map Action.c).length : Int)).toNat (⟨(0 : Int), (⟨([] : Bytes), []⟩ : Fact)⟩ : Action))) else none)
theorem d_laws_toActionS_L1w {Γ : Ctx} (hΓ : Γ.nt = 23) {N : Nat → St → Prop} {a0_ : List Action} {r : List Action} {k1 : List Action → Option (List Action)} (hE1 : ∀ (q1_0 : List Action), k1 q1_0 = some r → AW Try.prog Γ (dig (bodyOf Try.f87) [1, 1, 1] []).1 (KQ Try.prog Γ N (RetQ Try.prog Try.f87 (D.fr 120 3 ((r).map Action.c))) (dig (bodyOf Try.f87) [1, 1, 1] []).2) ⟨[(3, D.acc 0)], [Ob.row .uq 120 3 ((q1_0).map Action.c)]⟩) (hm1 : (a0_).length ≤ maxLen) : ∀ (rest : List Action) (i1 : Nat) (w1_0 : List Action), (a0_).drop i1 = rest → d_laws_toActionS_L1 a0_ k1 rest i1 w1_0 = some r → AWr Try.prog Γ (dig (bodyOf Try.f87) [1, 1, 0, 1, 0, 0] []).1 (KQ Try.prog Γ N (RetQ Try.prog Try.f87 (D.fr 120 3 ((r).map Action.c))) (dig (bodyOf Try.f87) [1, 1, 0, 1, 0] []).2) (rest.length + 1) ⟨[(0, D.sl ((a0_).map Action.c)), (3, D.acc 0), (4, D.int .i64 ((i1 : Int)))], [Ob.row .uq 120 3 ((w1_0).map Action.c)]⟩ := by
  intro rest
  induction rest with
  | nil =>
    intro i1 w1_0 hd1 h
    rw [d_laws_toActionS_L1] at h
    refine AWr_succ fun N1 hN1 hS1 => ?_
    have t := AW_N (N := N) (N' := N1) (K0 := (dig (bodyOf Try.f87) [1, 1, 0, 1, 0] []).2) (by kernel_rfl) hN1 (hE1 (w1_0) h)
    refine AW_go (n := 2000) [[some (120, 3)]] [.b false, .hl 0 [3] [0]] (.at_ (dig (bodyOf Try.f87) [1, 1, 1] []).1 (dig (bodyOf Try.f87) [1, 1, 1] []).2 ⟨[(3, D.acc 0)], [Ob.row .uq 120 3 ((w1_0).map Action.c)]⟩) hΓ mix (by kernel_rfl) (ow ((ltm_false Action.c (drop_nil hd1))) ow0) ?_
    first | exact t | (simp only [List.map_append, List.map_cons, List.map_nil, List.map_set] at t ⊢; exact t)
  | cons x1_ xs1 ih1 =>
    intro i1 w1_0 hd1 h
    rw [d_laws_toActionS_L1] at h
    refine AWr_succ fun N1 hN1 hS1 => ?_
    obtain ⟨y41, h42, h⟩ := den_bind h
    obtain ⟨h43, h⟩ := den_ok h
    obtain ⟨x44, h45, h⟩ := den_bind h
    have t := ih1 (i1 + 1) ((w1_0).set i1 y41) (drop_cons hd1).2.2 h
    refine AW_go (n := 2000) [[some (120, 3)]] [.b true, .row (Action.c x1_), .d (D.agg [D.int .i64 (y41.kind), D.str (y41.pat.rel), D.fr 9 1 ((y41.pat.args).map tx)]), .ix i1, .row [D.int .i64 (x44.kind), D.str (x44.pat.rel), D.sl ((x44.pat.args).map tx)], .cn [0, 3, 4] [0]] (.cont 0 ⟨[(0, D.sl ((a0_).map Action.c)), (3, D.acc 0), (4, D.int .i64 (IntKind.i64.wrap (((i1 : Int)) + (1))))], [Ob.row .uq 120 3 (((w1_0).map Action.c).set i1 [D.int .i64 (y41.kind), D.str (y41.pat.rel), D.sl ((y41.pat.args).map tx)])]⟩) hΓ mix (by kernel_rfl) (ow ((ltm_true Action.c (drop_cons hd1).2.1)) (ow (map_row Action.c 3 (drop_cons hd1).1 rfl) (ow (d_laws_toAction_good h42) (ow (own_ix 3 h43) (ow (show ((w1_0).map Action.c)[i1]? = some [D.int .i64 (x44.kind), D.str (x44.pat.rel), D.sl ((x44.pat.args).map tx)] from map_get Action.c h45) ow0))))) ?_
    refine (congrFun hS1 _).mpr ?_
    rw [i64_succ (drop_cons hd1).2.1 hm1]
    first | exact t | (simp only [List.map_append, List.map_cons, List.map_nil, List.map_set] at t ⊢; exact t)
theorem d_laws_toActionS_good {a0_ : List Action} {r : List Action} (h : d_laws_toActionS a0_ = some r) : Good Try.prog 87 [D.sl ((a0_).map Action.c)] (D.fr 120 3 ((r).map Action.c)) := by
  refine Good.of (c := bodyOf Try.f87) Try.func87 rfl (by decide) (by simp [Try.f87]) ?_
  intro hr Γ hΓ
  have hΓ : Γ.nt = 23 := hΓ
  rw [d_laws_toActionS] at h
  refine (show AW Try.prog Γ (bodyOf Try.f87) (KQ Try.prog Γ (fun _ _ => False) (RetQ Try.prog Try.f87 (D.fr 120 3 ((r).map Action.c))) []) _ from ?_)
  obtain ⟨h1, h⟩ := den_ok h
  refine AW_go (n := 2000) [[some (120, 3)]] [.cn [0, 3, 4] [0]] (.lp (dig (bodyOf Try.f87) [1, 1, 0, 1, 0, 0] []).1 (dig (bodyOf Try.f87) [1, 1, 0, 1, 0] []).2 ⟨[(0, D.sl ((a0_).map Action.c)), (3, D.acc 0), (4, D.int .i64 (0))], [Ob.row .uq 120 3 (List.replicate ((((a0_).map Action.c).length : Int)).toNat [D.int .i64 (0), D.str ([]), D.sl ([])])]⟩) hΓ mix (by kernel_rfl) (ow (roomM_ok h1) ow0) (AW_st (by first | rfl | (simp only [List.map_append, List.map_cons, List.map_nil, List.map_set, List.map_replicate] <;> rfl)) (AW_of_r (d_laws_toActionS_L1w hΓ (fun q1_0 h => ?_) (by have := (Rdb.sl (hr _ (List.mem_of_getElem? (i := 0) rfl))).1; simpa using this) (a0_) 0 (List.replicate ((((a0_).map Action.c).length : Int)).toNat (⟨(0 : Int), (⟨([] : Bytes), []⟩ : Fact)⟩ : Action)) rfl h)))
  have h := den_some h
  subst h
  exact AW_go (n := 2000) [[some (120, 3)]] [] (.ret (D.fr 120 3 ((q1_0).map Action.c))) hΓ mix (by kernel_rfl) ow0 rfl
def d_laws_toRule (a0_ : Rule) : Option Rule := ((d_laws_toCondS (a0_.conds)).bind fun y1 => ((d_laws_toActionS (a0_.acts)).bind fun y3 => (some ((⟨a0_.name, a0_.prio, y1, y3⟩ : Rule)))))
theorem d_laws_toRule_good {a0_ : Rule} {r : Rule} (h : d_laws_toRule a0_ = some r) : Good Try.prog 36 [D.agg (Rule.c a0_)] (D.agg [D.str (r.name), D.int .i64 (r.prio), D.fr 112 5 ((r.conds).map Cond.c), D.fr 120 3 ((r.acts).map Action.c)]) := by
  refine Good.of (c := bodyOf Try.f36) Try.func36 rfl (by decide) (by simp [Try.f36]) ?_
  intro hr Γ hΓ
  have hΓ : Γ.nt = 19 := hΓ
  rw [d_laws_toRule] at h
  refine (show AW Try.prog Γ (bodyOf Try.f36) (KQ Try.prog Γ (fun _ _ => False) (RetQ Try.prog Try.f36 (D.agg [D.str (r.name), D.int .i64 (r.prio), D.fr 112 5 ((r.conds).map Cond.c), D.fr 120 3 ((r.acts).map Action.c)])) []) _ from ?_)
  obtain ⟨y1, h2, h⟩ := den_bind h
  obtain ⟨y3, h4, h⟩ := den_bind h
  have h := den_some h
  subst h
  exact AW_go (n := 2000) [[none, none, some (112, 5), some (120, 3)]] [.d (D.fr 112 5 ((y1).map Cond.c)), .d (D.fr 120 3 ((y3).map Action.c))] (.ret (D.agg [D.str (a0_.name), D.int .i64 (a0_.prio), D.fr 112 5 ((y1).map Cond.c), D.fr 120 3 ((y3).map Action.c)])) hΓ mix (by kernel_rfl) (ow (d_laws_toCondS_good h2) (ow (d_laws_toActionS_good h4) ow0)) rfl
def d_laws_toRuleS_L1 (a0_ : List Rule) (k1 : List Rule → Option (List Rule)) : List Rule → Nat → List Rule → Option (List Rule)
  | [], i1, w1_0 => (k1 (w1_0))
  | x1_ :: xs1, i1, w1_0 => ((d_laws_toRule (x1_)).bind fun y41 => (bif decide (i1 < ((w1_0).map Rule.c).length) then (((w1_0)[i1]?).bind fun x44 => (d_laws_toRuleS_L1 a0_ k1 xs1 (i1 + 1) ((w1_0).set i1 y41))) else none))
def d_laws_toRuleS (a0_ : List Rule) : Option (List Rule) := (bif roomM ((((a0_).map Rule.c).length : Int)) 72 then (d_laws_toRuleS_L1 a0_ (fun (q1_0 : List Rule) => (some (q1_0))) (a0_) 0 (List.replicate ((((a0_).map Rule.c).length : Int)).toNat (⟨([] : Bytes), (0 : Int), [], []⟩ : Rule))) else none)
theorem d_laws_toRuleS_L1w {Γ : Ctx} (hΓ : Γ.nt = 23) {N : Nat → St → Prop} {a0_ : List Rule} {r : List Rule} {k1 : List Rule → Option (List Rule)} (hE1 : ∀ (q1_0 : List Rule), k1 q1_0 = some r → AW Try.prog Γ (dig (bodyOf Try.f66) [1, 1, 1] []).1 (KQ Try.prog Γ N (RetQ Try.prog Try.f66 (D.fr 53 4 ((r).map Rule.c))) (dig (bodyOf Try.f66) [1, 1, 1] []).2) ⟨[(3, D.acc 0)], [Ob.row .uq 53 4 ((q1_0).map Rule.c)]⟩) (hm1 : (a0_).length ≤ maxLen) : ∀ (rest : List Rule) (i1 : Nat) (w1_0 : List Rule), (a0_).drop i1 = rest → d_laws_toRuleS_L1 a0_ k1 rest i1 w1_0 = some r → AWr Try.prog Γ (dig (bodyOf Try.f66) [1, 1, 0, 1, 0, 0] []).1 (KQ Try.prog Γ N (RetQ Try.prog Try.f66 (D.fr 53 4 ((r).map Rule.c))) (dig (bodyOf Try.f66) [1, 1, 0, 1, 0] []).2) (rest.length + 1) ⟨[(0, D.sl ((a0_).map Rule.c)), (3, D.acc 0), (4, D.int .i64 ((i1 : Int)))], [Ob.row .uq 53 4 ((w1_0).map Rule.c)]⟩ := by
  intro rest
  induction rest with
  | nil =>
    intro i1 w1_0 hd1 h
    rw [d_laws_toRuleS_L1] at h
    refine AWr_succ fun N1 hN1 hS1 => ?_
    have t := AW_N (N := N) (N' := N1) (K0 := (dig (bodyOf Try.f66) [1, 1, 0, 1, 0] []).2) (by kernel_rfl) hN1 (hE1 (w1_0) h)
    refine AW_go (n := 2000) [[some (53, 4)]] [.b false, .hl 0 [3] [0]] (.at_ (dig (bodyOf Try.f66) [1, 1, 1] []).1 (dig (bodyOf Try.f66) [1, 1, 1] []).2 ⟨[(3, D.acc 0)], [Ob.row .uq 53 4 ((w1_0).map Rule.c)]⟩) hΓ mix (by kernel_rfl) (ow ((ltm_false Rule.c (drop_nil hd1))) ow0) ?_
    first | exact t | (simp only [List.map_append, List.map_cons, List.map_nil, List.map_set] at t ⊢; exact t)
  | cons x1_ xs1 ih1 =>
    intro i1 w1_0 hd1 h
    rw [d_laws_toRuleS_L1] at h
    refine AWr_succ fun N1 hN1 hS1 => ?_
    obtain ⟨y41, h42, h⟩ := den_bind h
    obtain ⟨h43, h⟩ := den_ok h
    obtain ⟨x44, h45, h⟩ := den_bind h
    have t := ih1 (i1 + 1) ((w1_0).set i1 y41) (drop_cons hd1).2.2 h
    refine AW_go (n := 2000) [[some (53, 4)]] [.b true, .row (Rule.c x1_), .d (D.agg [D.str (y41.name), D.int .i64 (y41.prio), D.fr 112 5 ((y41.conds).map Cond.c), D.fr 120 3 ((y41.acts).map Action.c)]), .ix i1, .row [D.str (x44.name), D.int .i64 (x44.prio), D.sl ((x44.conds).map Cond.c), D.sl ((x44.acts).map Action.c)], .cn [0, 3, 4] [0]] (.cont 0 ⟨[(0, D.sl ((a0_).map Rule.c)), (3, D.acc 0), (4, D.int .i64 (IntKind.i64.wrap (((i1 : Int)) + (1))))], [Ob.row .uq 53 4 (((w1_0).map Rule.c).set i1 [D.str (y41.name), D.int .i64 (y41.prio), D.sl ((y41.conds).map Cond.c), D.sl ((y41.acts).map Action.c)])]⟩) hΓ mix (by kernel_rfl) (ow ((ltm_true Rule.c (drop_cons hd1).2.1)) (ow (map_row Rule.c 4 (drop_cons hd1).1 rfl) (ow (d_laws_toRule_good h42) (ow (own_ix 4 h43) (ow (show ((w1_0).map Rule.c)[i1]? = some [D.str (x44.name), D.int .i64 (x44.prio), D.sl ((x44.conds).map Cond.c), D.sl ((x44.acts).map Action.c)] from map_get Rule.c h45) ow0))))) ?_
    refine (congrFun hS1 _).mpr ?_
    rw [i64_succ (drop_cons hd1).2.1 hm1]
    first | exact t | (simp only [List.map_append, List.map_cons, List.map_nil, List.map_set] at t ⊢; exact t)
theorem d_laws_toRuleS_good {a0_ : List Rule} {r : List Rule} (h : d_laws_toRuleS a0_ = some r) : Good Try.prog 66 [D.sl ((a0_).map Rule.c)] (D.fr 53 4 ((r).map Rule.c)) := by
  refine Good.of (c := bodyOf Try.f66) Try.func66 rfl (by decide) (by simp [Try.f66]) ?_
  intro hr Γ hΓ
  have hΓ : Γ.nt = 23 := hΓ
  rw [d_laws_toRuleS] at h
  refine (show AW Try.prog Γ (bodyOf Try.f66) (KQ Try.prog Γ (fun _ _ => False) (RetQ Try.prog Try.f66 (D.fr 53 4 ((r).map Rule.c))) []) _ from ?_)
  obtain ⟨h1, h⟩ := den_ok h
  refine AW_go (n := 2000) [[some (53, 4)]] [.cn [0, 3, 4] [0]] (.lp (dig (bodyOf Try.f66) [1, 1, 0, 1, 0, 0] []).1 (dig (bodyOf Try.f66) [1, 1, 0, 1, 0] []).2 ⟨[(0, D.sl ((a0_).map Rule.c)), (3, D.acc 0), (4, D.int .i64 (0))], [Ob.row .uq 53 4 (List.replicate ((((a0_).map Rule.c).length : Int)).toNat [D.str ([]), D.int .i64 (0), D.sl ([]), D.sl ([])])]⟩) hΓ mix (by kernel_rfl) (ow (roomM_ok h1) ow0) (AW_st (by first | rfl | (simp only [List.map_append, List.map_cons, List.map_nil, List.map_set, List.map_replicate] <;> rfl)) (AW_of_r (d_laws_toRuleS_L1w hΓ (fun q1_0 h => ?_) (by have := (Rdb.sl (hr _ (List.mem_of_getElem? (i := 0) rfl))).1; simpa using this) (a0_) 0 (List.replicate ((((a0_).map Rule.c).length : Int)).toNat (⟨([] : Bytes), (0 : Int), [], []⟩ : Rule)) rfl h)))
  have h := den_some h
  subst h
  exact AW_go (n := 2000) [[some (53, 4)]] [] (.ret (D.fr 53 4 ((q1_0).map Rule.c))) hΓ mix (by kernel_rfl) ow0 rfl
def d_laws_toAlpha (a0_ : Alpha) : Option Alpha := ((d_laws_toPattern (a0_.shape)).bind fun y1 => ((d_laws_toFactS (a0_.facts)).bind fun y3 => (some ((⟨y1, y3⟩ : Alpha)))))
theorem d_laws_toAlpha_good {a0_ : Alpha} {r : Alpha} (h : d_laws_toAlpha a0_ = some r) : Good Try.prog 153 [D.agg (Alpha.c a0_)] (D.agg [D.str (r.shape.rel), D.fr 9 1 ((r.shape.args).map tx), D.fr 92 2 ((r.facts).map Fact.c)]) := by
  refine Good.of (c := bodyOf Try.f153) Try.func153 rfl (by decide) (by simp [Try.f153]) ?_
  intro hr Γ hΓ
  have hΓ : Γ.nt = 13 := hΓ
  rw [d_laws_toAlpha] at h
  refine (show AW Try.prog Γ (bodyOf Try.f153) (KQ Try.prog Γ (fun _ _ => False) (RetQ Try.prog Try.f153 (D.agg [D.str (r.shape.rel), D.fr 9 1 ((r.shape.args).map tx), D.fr 92 2 ((r.facts).map Fact.c)])) []) _ from ?_)
  obtain ⟨y1, h2, h⟩ := den_bind h
  obtain ⟨y3, h4, h⟩ := den_bind h
  have h := den_some h
  subst h
  exact AW_go (n := 2000) [[none, some (9, 1), some (92, 2)]] [.d (D.agg [D.str (y1.rel), D.fr 9 1 ((y1.args).map tx)]), .d (D.fr 92 2 ((y3).map Fact.c))] (.ret (D.agg [D.str (y1.rel), D.fr 9 1 ((y1.args).map tx), D.fr 92 2 ((y3).map Fact.c)])) hΓ mix (by kernel_rfl) (ow (d_laws_toPattern_good h2) (ow (d_laws_toFactS_good h4) ow0)) rfl
def d_laws_toAlphaS_L1 (a0_ : List Alpha) (k1 : List Alpha → Option (List Alpha)) : List Alpha → Nat → List Alpha → Option (List Alpha)
  | [], i1, w1_0 => (k1 (w1_0))
  | x1_ :: xs1, i1, w1_0 => ((d_laws_toAlpha (x1_)).bind fun y41 => (bif decide (i1 < ((w1_0).map Alpha.c).length) then (((w1_0)[i1]?).bind fun x44 => (d_laws_toAlphaS_L1 a0_ k1 xs1 (i1 + 1) ((w1_0).set i1 y41))) else none))
def d_laws_toAlphaS (a0_ : List Alpha) : Option (List Alpha) := (bif roomM ((((a0_).map Alpha.c).length : Int)) 64 then (d_laws_toAlphaS_L1 a0_ (fun (q1_0 : List Alpha) => (some (q1_0))) (a0_) 0 (List.replicate ((((a0_).map Alpha.c).length : Int)).toNat (⟨(⟨([] : Bytes), []⟩ : Fact), []⟩ : Alpha))) else none)
theorem d_laws_toAlphaS_L1w {Γ : Ctx} (hΓ : Γ.nt = 23) {N : Nat → St → Prop} {a0_ : List Alpha} {r : List Alpha} {k1 : List Alpha → Option (List Alpha)} (hE1 : ∀ (q1_0 : List Alpha), k1 q1_0 = some r → AW Try.prog Γ (dig (bodyOf Try.f100) [1, 1, 1] []).1 (KQ Try.prog Γ N (RetQ Try.prog Try.f100 (D.fr 140 3 ((r).map Alpha.c))) (dig (bodyOf Try.f100) [1, 1, 1] []).2) ⟨[(3, D.acc 0)], [Ob.row .uq 140 3 ((q1_0).map Alpha.c)]⟩) (hm1 : (a0_).length ≤ maxLen) : ∀ (rest : List Alpha) (i1 : Nat) (w1_0 : List Alpha), (a0_).drop i1 = rest → d_laws_toAlphaS_L1 a0_ k1 rest i1 w1_0 = some r → AWr Try.prog Γ (dig (bodyOf Try.f100) [1, 1, 0, 1, 0, 0] []).1 (KQ Try.prog Γ N (RetQ Try.prog Try.f100 (D.fr 140 3 ((r).map Alpha.c))) (dig (bodyOf Try.f100) [1, 1, 0, 1, 0] []).2) (rest.length + 1) ⟨[(0, D.sl ((a0_).map Alpha.c)), (3, D.acc 0), (4, D.int .i64 ((i1 : Int)))], [Ob.row .uq 140 3 ((w1_0).map Alpha.c)]⟩ := by
  intro rest
  induction rest with
  | nil =>
    intro i1 w1_0 hd1 h
    rw [d_laws_toAlphaS_L1] at h
    refine AWr_succ fun N1 hN1 hS1 => ?_
    have t := AW_N (N := N) (N' := N1) (K0 := (dig (bodyOf Try.f100) [1, 1, 0, 1, 0] []).2) (by kernel_rfl) hN1 (hE1 (w1_0) h)
    refine AW_go (n := 2000) [[some (140, 3)]] [.b false, .hl 0 [3] [0]] (.at_ (dig (bodyOf Try.f100) [1, 1, 1] []).1 (dig (bodyOf Try.f100) [1, 1, 1] []).2 ⟨[(3, D.acc 0)], [Ob.row .uq 140 3 ((w1_0).map Alpha.c)]⟩) hΓ mix (by kernel_rfl) (ow ((ltm_false Alpha.c (drop_nil hd1))) ow0) ?_
    first | exact t | (simp only [List.map_append, List.map_cons, List.map_nil, List.map_set] at t ⊢; exact t)
  | cons x1_ xs1 ih1 =>
    intro i1 w1_0 hd1 h
    rw [d_laws_toAlphaS_L1] at h
    refine AWr_succ fun N1 hN1 hS1 => ?_
    obtain ⟨y41, h42, h⟩ := den_bind h
    obtain ⟨h43, h⟩ := den_ok h
    obtain ⟨x44, h45, h⟩ := den_bind h
    have t := ih1 (i1 + 1) ((w1_0).set i1 y41) (drop_cons hd1).2.2 h
    refine AW_go (n := 2000) [[some (140, 3)]] [.b true, .row (Alpha.c x1_), .d (D.agg [D.str (y41.shape.rel), D.fr 9 1 ((y41.shape.args).map tx), D.fr 92 2 ((y41.facts).map Fact.c)]), .ix i1, .row [D.str (x44.shape.rel), D.sl ((x44.shape.args).map tx), D.sl ((x44.facts).map Fact.c)], .cn [0, 3, 4] [0]] (.cont 0 ⟨[(0, D.sl ((a0_).map Alpha.c)), (3, D.acc 0), (4, D.int .i64 (IntKind.i64.wrap (((i1 : Int)) + (1))))], [Ob.row .uq 140 3 (((w1_0).map Alpha.c).set i1 [D.str (y41.shape.rel), D.sl ((y41.shape.args).map tx), D.sl ((y41.facts).map Fact.c)])]⟩) hΓ mix (by kernel_rfl) (ow ((ltm_true Alpha.c (drop_cons hd1).2.1)) (ow (map_row Alpha.c 3 (drop_cons hd1).1 rfl) (ow (d_laws_toAlpha_good h42) (ow (own_ix 3 h43) (ow (show ((w1_0).map Alpha.c)[i1]? = some [D.str (x44.shape.rel), D.sl ((x44.shape.args).map tx), D.sl ((x44.facts).map Fact.c)] from map_get Alpha.c h45) ow0))))) ?_
    refine (congrFun hS1 _).mpr ?_
    rw [i64_succ (drop_cons hd1).2.1 hm1]
    first | exact t | (simp only [List.map_append, List.map_cons, List.map_nil, List.map_set] at t ⊢; exact t)
theorem d_laws_toAlphaS_good {a0_ : List Alpha} {r : List Alpha} (h : d_laws_toAlphaS a0_ = some r) : Good Try.prog 100 [D.sl ((a0_).map Alpha.c)] (D.fr 140 3 ((r).map Alpha.c)) := by
  refine Good.of (c := bodyOf Try.f100) Try.func100 rfl (by decide) (by simp [Try.f100]) ?_
  intro hr Γ hΓ
  have hΓ : Γ.nt = 23 := hΓ
  rw [d_laws_toAlphaS] at h
  refine (show AW Try.prog Γ (bodyOf Try.f100) (KQ Try.prog Γ (fun _ _ => False) (RetQ Try.prog Try.f100 (D.fr 140 3 ((r).map Alpha.c))) []) _ from ?_)
  obtain ⟨h1, h⟩ := den_ok h
  refine AW_go (n := 2000) [[some (140, 3)]] [.cn [0, 3, 4] [0]] (.lp (dig (bodyOf Try.f100) [1, 1, 0, 1, 0, 0] []).1 (dig (bodyOf Try.f100) [1, 1, 0, 1, 0] []).2 ⟨[(0, D.sl ((a0_).map Alpha.c)), (3, D.acc 0), (4, D.int .i64 (0))], [Ob.row .uq 140 3 (List.replicate ((((a0_).map Alpha.c).length : Int)).toNat [D.str ([]), D.sl ([]), D.sl ([])])]⟩) hΓ mix (by kernel_rfl) (ow (roomM_ok h1) ow0) (AW_st (by first | rfl | (simp only [List.map_append, List.map_cons, List.map_nil, List.map_set, List.map_replicate] <;> rfl)) (AW_of_r (d_laws_toAlphaS_L1w hΓ (fun q1_0 h => ?_) (by have := (Rdb.sl (hr _ (List.mem_of_getElem? (i := 0) rfl))).1; simpa using this) (a0_) 0 (List.replicate ((((a0_).map Alpha.c).length : Int)).toNat (⟨(⟨([] : Bytes), []⟩ : Fact), []⟩ : Alpha)) rfl h)))
  have h := den_some h
  subst h
  exact AW_go (n := 2000) [[some (140, 3)]] [] (.ret (D.fr 140 3 ((q1_0).map Alpha.c))) hΓ mix (by kernel_rfl) ow0 rfl
def d_laws_toPair (a0_ : Pair) : Option Pair := (some (a0_))
theorem d_laws_toPair_good {a0_ : Pair} {r : Pair} (h : d_laws_toPair a0_ = some r) : Good Try.prog 223 [D.agg (Pair.c a0_)] (D.agg [D.str (r.var), D.str (r.value)]) := by
  refine Good.of (c := bodyOf Try.f223) Try.func223 rfl (by decide) (by simp [Try.f223]) ?_
  intro hr Γ hΓ
  have hΓ : Γ.nt = 11 := hΓ
  rw [d_laws_toPair] at h
  refine (show AW Try.prog Γ (bodyOf Try.f223) (KQ Try.prog Γ (fun _ _ => False) (RetQ Try.prog Try.f223 (D.agg [D.str (r.var), D.str (r.value)])) []) _ from ?_)
  have h := den_some h
  subst h
  exact AW_go (n := 2000) [[none, none]] [] (.ret (D.agg [D.str (a0_.var), D.str (a0_.value)])) hΓ mix (by kernel_rfl) ow0 rfl
def d_laws_toPairS_L1 (a0_ : List Pair) (k1 : List Pair → Option (List Pair)) : List Pair → Nat → List Pair → Option (List Pair)
  | [], i1, w1_0 => (k1 (w1_0))
  | x1_ :: xs1, i1, w1_0 => ((d_laws_toPair (x1_)).bind fun y41 => (bif decide (i1 < ((w1_0).map Pair.c).length) then (((w1_0)[i1]?).bind fun x44 => (d_laws_toPairS_L1 a0_ k1 xs1 (i1 + 1) ((w1_0).set i1 y41))) else none))
def d_laws_toPairS (a0_ : List Pair) : Option (List Pair) := (bif roomM ((((a0_).map Pair.c).length : Int)) 32 then (d_laws_toPairS_L1 a0_ (fun (q1_0 : List Pair) => (some (q1_0))) (a0_) 0 (List.replicate ((((a0_).map Pair.c).length : Int)).toNat (⟨([] : Bytes), ([] : Bytes)⟩ : Pair))) else none)
theorem d_laws_toPairS_L1w {Γ : Ctx} (hΓ : Γ.nt = 23) {N : Nat → St → Prop} {a0_ : List Pair} {r : List Pair} {k1 : List Pair → Option (List Pair)} (hE1 : ∀ (q1_0 : List Pair), k1 q1_0 = some r → AW Try.prog Γ (dig (bodyOf Try.f214) [1, 1, 1] []).1 (KQ Try.prog Γ N (RetQ Try.prog Try.f214 (D.fr 208 2 ((r).map Pair.c))) (dig (bodyOf Try.f214) [1, 1, 1] []).2) ⟨[(3, D.acc 0)], [Ob.row .uq 208 2 ((q1_0).map Pair.c)]⟩) (hm1 : (a0_).length ≤ maxLen) : ∀ (rest : List Pair) (i1 : Nat) (w1_0 : List Pair), (a0_).drop i1 = rest → d_laws_toPairS_L1 a0_ k1 rest i1 w1_0 = some r → AWr Try.prog Γ (dig (bodyOf Try.f214) [1, 1, 0, 1, 0, 0] []).1 (KQ Try.prog Γ N (RetQ Try.prog Try.f214 (D.fr 208 2 ((r).map Pair.c))) (dig (bodyOf Try.f214) [1, 1, 0, 1, 0] []).2) (rest.length + 1) ⟨[(0, D.sl ((a0_).map Pair.c)), (3, D.acc 0), (4, D.int .i64 ((i1 : Int)))], [Ob.row .uq 208 2 ((w1_0).map Pair.c)]⟩ := by
  intro rest
  induction rest with
  | nil =>
    intro i1 w1_0 hd1 h
    rw [d_laws_toPairS_L1] at h
    refine AWr_succ fun N1 hN1 hS1 => ?_
    have t := AW_N (N := N) (N' := N1) (K0 := (dig (bodyOf Try.f214) [1, 1, 0, 1, 0] []).2) (by kernel_rfl) hN1 (hE1 (w1_0) h)
    refine AW_go (n := 2000) [[some (208, 2)]] [.b false, .hl 0 [3] [0]] (.at_ (dig (bodyOf Try.f214) [1, 1, 1] []).1 (dig (bodyOf Try.f214) [1, 1, 1] []).2 ⟨[(3, D.acc 0)], [Ob.row .uq 208 2 ((w1_0).map Pair.c)]⟩) hΓ mix (by kernel_rfl) (ow ((ltm_false Pair.c (drop_nil hd1))) ow0) ?_
    first | exact t | (simp only [List.map_append, List.map_cons, List.map_nil, List.map_set] at t ⊢; exact t)
  | cons x1_ xs1 ih1 =>
    intro i1 w1_0 hd1 h
    rw [d_laws_toPairS_L1] at h
    refine AWr_succ fun N1 hN1 hS1 => ?_
    obtain ⟨y41, h42, h⟩ := den_bind h
    obtain ⟨h43, h⟩ := den_ok h
    obtain ⟨x44, h45, h⟩ := den_bind h
    have t := ih1 (i1 + 1) ((w1_0).set i1 y41) (drop_cons hd1).2.2 h
    refine AW_go (n := 2000) [[some (208, 2)]] [.b true, .row (Pair.c x1_), .d (D.agg [D.str (y41.var), D.str (y41.value)]), .ix i1, .row [D.str (x44.var), D.str (x44.value)], .cn [0, 3, 4] [0]] (.cont 0 ⟨[(0, D.sl ((a0_).map Pair.c)), (3, D.acc 0), (4, D.int .i64 (IntKind.i64.wrap (((i1 : Int)) + (1))))], [Ob.row .uq 208 2 (((w1_0).map Pair.c).set i1 [D.str (y41.var), D.str (y41.value)])]⟩) hΓ mix (by kernel_rfl) (ow ((ltm_true Pair.c (drop_cons hd1).2.1)) (ow (map_row Pair.c 2 (drop_cons hd1).1 rfl) (ow (d_laws_toPair_good h42) (ow (own_ix 2 h43) (ow (show ((w1_0).map Pair.c)[i1]? = some [D.str (x44.var), D.str (x44.value)] from map_get Pair.c h45) ow0))))) ?_
    refine (congrFun hS1 _).mpr ?_
    rw [i64_succ (drop_cons hd1).2.1 hm1]
    first | exact t | (simp only [List.map_append, List.map_cons, List.map_nil, List.map_set] at t ⊢; exact t)
theorem d_laws_toPairS_good {a0_ : List Pair} {r : List Pair} (h : d_laws_toPairS a0_ = some r) : Good Try.prog 214 [D.sl ((a0_).map Pair.c)] (D.fr 208 2 ((r).map Pair.c)) := by
  refine Good.of (c := bodyOf Try.f214) Try.func214 rfl (by decide) (by simp [Try.f214]) ?_
  intro hr Γ hΓ
  have hΓ : Γ.nt = 23 := hΓ
  rw [d_laws_toPairS] at h
  refine (show AW Try.prog Γ (bodyOf Try.f214) (KQ Try.prog Γ (fun _ _ => False) (RetQ Try.prog Try.f214 (D.fr 208 2 ((r).map Pair.c))) []) _ from ?_)
  obtain ⟨h1, h⟩ := den_ok h
  refine AW_go (n := 2000) [[some (208, 2)]] [.cn [0, 3, 4] [0]] (.lp (dig (bodyOf Try.f214) [1, 1, 0, 1, 0, 0] []).1 (dig (bodyOf Try.f214) [1, 1, 0, 1, 0] []).2 ⟨[(0, D.sl ((a0_).map Pair.c)), (3, D.acc 0), (4, D.int .i64 (0))], [Ob.row .uq 208 2 (List.replicate ((((a0_).map Pair.c).length : Int)).toNat [D.str ([]), D.str ([])])]⟩) hΓ mix (by kernel_rfl) (ow (roomM_ok h1) ow0) (AW_st (by first | rfl | (simp only [List.map_append, List.map_cons, List.map_nil, List.map_set, List.map_replicate] <;> rfl)) (AW_of_r (d_laws_toPairS_L1w hΓ (fun q1_0 h => ?_) (by have := (Rdb.sl (hr _ (List.mem_of_getElem? (i := 0) rfl))).1; simpa using this) (a0_) 0 (List.replicate ((((a0_).map Pair.c).length : Int)).toNat (⟨([] : Bytes), ([] : Bytes)⟩ : Pair)) rfl h)))
  have h := den_some h
  subst h
  exact AW_go (n := 2000) [[some (208, 2)]] [] (.ret (D.fr 208 2 ((q1_0).map Pair.c))) hΓ mix (by kernel_rfl) ow0 rfl
def d_laws_toToken (a0_ : Token) : Option Token := ((d_laws_toFactS (a0_.facts)).bind fun y1 => ((d_laws_toPairS (a0_.bind)).bind fun y3 => (some ((⟨y1, y3⟩ : Token)))))
theorem d_laws_toToken_good {a0_ : Token} {r : Token} (h : d_laws_toToken a0_ = some r) : Good Try.prog 201 [D.agg (Token.c a0_)] (D.agg [D.fr 92 2 ((r.facts).map Fact.c), D.fr 208 2 ((r.bind).map Pair.c)]) := by
  refine Good.of (c := bodyOf Try.f201) Try.func201 rfl (by decide) (by simp [Try.f201]) ?_
  intro hr Γ hΓ
  have hΓ : Γ.nt = 13 := hΓ
  rw [d_laws_toToken] at h
  refine (show AW Try.prog Γ (bodyOf Try.f201) (KQ Try.prog Γ (fun _ _ => False) (RetQ Try.prog Try.f201 (D.agg [D.fr 92 2 ((r.facts).map Fact.c), D.fr 208 2 ((r.bind).map Pair.c)])) []) _ from ?_)
  obtain ⟨y1, h2, h⟩ := den_bind h
  obtain ⟨y3, h4, h⟩ := den_bind h
  have h := den_some h
  subst h
  exact AW_go (n := 2000) [[some (92, 2), some (208, 2)]] [.d (D.fr 92 2 ((y1).map Fact.c)), .d (D.fr 208 2 ((y3).map Pair.c))] (.ret (D.agg [D.fr 92 2 ((y1).map Fact.c), D.fr 208 2 ((y3).map Pair.c)])) hΓ mix (by kernel_rfl) (ow (d_laws_toFactS_good h2) (ow (d_laws_toPairS_good h4) ow0)) rfl
def d_laws_toTokenS_L1 (a0_ : List Token) (k1 : List Token → Option (List Token)) : List Token → Nat → List Token → Option (List Token)
  | [], i1, w1_0 => (k1 (w1_0))
  | x1_ :: xs1, i1, w1_0 => ((d_laws_toToken (x1_)).bind fun y41 => (bif decide (i1 < ((w1_0).map Token.c).length) then (((w1_0)[i1]?).bind fun x44 => (d_laws_toTokenS_L1 a0_ k1 xs1 (i1 + 1) ((w1_0).set i1 y41))) else none))
def d_laws_toTokenS (a0_ : List Token) : Option (List Token) := (bif roomM ((((a0_).map Token.c).length : Int)) 48 then (d_laws_toTokenS_L1 a0_ (fun (q1_0 : List Token) => (some (q1_0))) (a0_) 0 (List.replicate ((((a0_).map Token.c).length : Int)).toNat (⟨[], []⟩ : Token))) else none)
theorem d_laws_toTokenS_L1w {Γ : Ctx} (hΓ : Γ.nt = 23) {N : Nat → St → Prop} {a0_ : List Token} {r : List Token} {k1 : List Token → Option (List Token)} (hE1 : ∀ (q1_0 : List Token), k1 q1_0 = some r → AW Try.prog Γ (dig (bodyOf Try.f191) [1, 1, 1] []).1 (KQ Try.prog Γ N (RetQ Try.prog Try.f191 (D.fr 185 2 ((r).map Token.c))) (dig (bodyOf Try.f191) [1, 1, 1] []).2) ⟨[(3, D.acc 0)], [Ob.row .uq 185 2 ((q1_0).map Token.c)]⟩) (hm1 : (a0_).length ≤ maxLen) : ∀ (rest : List Token) (i1 : Nat) (w1_0 : List Token), (a0_).drop i1 = rest → d_laws_toTokenS_L1 a0_ k1 rest i1 w1_0 = some r → AWr Try.prog Γ (dig (bodyOf Try.f191) [1, 1, 0, 1, 0, 0] []).1 (KQ Try.prog Γ N (RetQ Try.prog Try.f191 (D.fr 185 2 ((r).map Token.c))) (dig (bodyOf Try.f191) [1, 1, 0, 1, 0] []).2) (rest.length + 1) ⟨[(0, D.sl ((a0_).map Token.c)), (3, D.acc 0), (4, D.int .i64 ((i1 : Int)))], [Ob.row .uq 185 2 ((w1_0).map Token.c)]⟩ := by
  intro rest
  induction rest with
  | nil =>
    intro i1 w1_0 hd1 h
    rw [d_laws_toTokenS_L1] at h
    refine AWr_succ fun N1 hN1 hS1 => ?_
    have t := AW_N (N := N) (N' := N1) (K0 := (dig (bodyOf Try.f191) [1, 1, 0, 1, 0] []).2) (by kernel_rfl) hN1 (hE1 (w1_0) h)
    refine AW_go (n := 2000) [[some (185, 2)]] [.b false, .hl 0 [3] [0]] (.at_ (dig (bodyOf Try.f191) [1, 1, 1] []).1 (dig (bodyOf Try.f191) [1, 1, 1] []).2 ⟨[(3, D.acc 0)], [Ob.row .uq 185 2 ((w1_0).map Token.c)]⟩) hΓ mix (by kernel_rfl) (ow ((ltm_false Token.c (drop_nil hd1))) ow0) ?_
    first | exact t | (simp only [List.map_append, List.map_cons, List.map_nil, List.map_set] at t ⊢; exact t)
  | cons x1_ xs1 ih1 =>
    intro i1 w1_0 hd1 h
    rw [d_laws_toTokenS_L1] at h
    refine AWr_succ fun N1 hN1 hS1 => ?_
    obtain ⟨y41, h42, h⟩ := den_bind h
    obtain ⟨h43, h⟩ := den_ok h
    obtain ⟨x44, h45, h⟩ := den_bind h
    have t := ih1 (i1 + 1) ((w1_0).set i1 y41) (drop_cons hd1).2.2 h
    refine AW_go (n := 2000) [[some (185, 2)]] [.b true, .row (Token.c x1_), .d (D.agg [D.fr 92 2 ((y41.facts).map Fact.c), D.fr 208 2 ((y41.bind).map Pair.c)]), .ix i1, .row [D.sl ((x44.facts).map Fact.c), D.sl ((x44.bind).map Pair.c)], .cn [0, 3, 4] [0]] (.cont 0 ⟨[(0, D.sl ((a0_).map Token.c)), (3, D.acc 0), (4, D.int .i64 (IntKind.i64.wrap (((i1 : Int)) + (1))))], [Ob.row .uq 185 2 (((w1_0).map Token.c).set i1 [D.sl ((y41.facts).map Fact.c), D.sl ((y41.bind).map Pair.c)])]⟩) hΓ mix (by kernel_rfl) (ow ((ltm_true Token.c (drop_cons hd1).2.1)) (ow (map_row Token.c 2 (drop_cons hd1).1 rfl) (ow (d_laws_toToken_good h42) (ow (own_ix 2 h43) (ow (show ((w1_0).map Token.c)[i1]? = some [D.sl ((x44.facts).map Fact.c), D.sl ((x44.bind).map Pair.c)] from map_get Token.c h45) ow0))))) ?_
    refine (congrFun hS1 _).mpr ?_
    rw [i64_succ (drop_cons hd1).2.1 hm1]
    first | exact t | (simp only [List.map_append, List.map_cons, List.map_nil, List.map_set] at t ⊢; exact t)
theorem d_laws_toTokenS_good {a0_ : List Token} {r : List Token} (h : d_laws_toTokenS a0_ = some r) : Good Try.prog 191 [D.sl ((a0_).map Token.c)] (D.fr 185 2 ((r).map Token.c)) := by
  refine Good.of (c := bodyOf Try.f191) Try.func191 rfl (by decide) (by simp [Try.f191]) ?_
  intro hr Γ hΓ
  have hΓ : Γ.nt = 23 := hΓ
  rw [d_laws_toTokenS] at h
  refine (show AW Try.prog Γ (bodyOf Try.f191) (KQ Try.prog Γ (fun _ _ => False) (RetQ Try.prog Try.f191 (D.fr 185 2 ((r).map Token.c))) []) _ from ?_)
  obtain ⟨h1, h⟩ := den_ok h
  refine AW_go (n := 2000) [[some (185, 2)]] [.cn [0, 3, 4] [0]] (.lp (dig (bodyOf Try.f191) [1, 1, 0, 1, 0, 0] []).1 (dig (bodyOf Try.f191) [1, 1, 0, 1, 0] []).2 ⟨[(0, D.sl ((a0_).map Token.c)), (3, D.acc 0), (4, D.int .i64 (0))], [Ob.row .uq 185 2 (List.replicate ((((a0_).map Token.c).length : Int)).toNat [D.sl ([]), D.sl ([])])]⟩) hΓ mix (by kernel_rfl) (ow (roomM_ok h1) ow0) (AW_st (by first | rfl | (simp only [List.map_append, List.map_cons, List.map_nil, List.map_set, List.map_replicate] <;> rfl)) (AW_of_r (d_laws_toTokenS_L1w hΓ (fun q1_0 h => ?_) (by have := (Rdb.sl (hr _ (List.mem_of_getElem? (i := 0) rfl))).1; simpa using this) (a0_) 0 (List.replicate ((((a0_).map Token.c).length : Int)).toNat (⟨[], []⟩ : Token)) rfl h)))
  have h := den_some h
  subst h
  exact AW_go (n := 2000) [[some (185, 2)]] [] (.ret (D.fr 185 2 ((q1_0).map Token.c))) hΓ mix (by kernel_rfl) ow0 rfl
def d_laws_toNode (a0_ : Node) : Option Node := ((d_laws_toCond (a0_.cond)).bind fun y1 => ((d_laws_toTokenS (a0_.tokens)).bind fun y3 => (some ((⟨a0_.parent, y1, a0_.alpha, y3⟩ : Node)))))
theorem d_laws_toNode_good {a0_ : Node} {r : Node} (h : d_laws_toNode a0_ = some r) : Good Try.prog 154 [D.agg (Node.c a0_)] (D.agg [D.int .i64 (r.parent), D.int .i64 (r.cond.kind), D.str (r.cond.pat.rel), D.fr 9 1 ((r.cond.pat.args).map tx), D.str (r.cond.left), D.str (r.cond.right), D.int .i64 (r.alpha), D.fr 185 2 ((r.tokens).map Token.c)]) := by
  refine Good.of (c := bodyOf Try.f154) Try.func154 rfl (by decide) (by simp [Try.f154]) ?_
  intro hr Γ hΓ
  have hΓ : Γ.nt = 19 := hΓ
  rw [d_laws_toNode] at h
  refine (show AW Try.prog Γ (bodyOf Try.f154) (KQ Try.prog Γ (fun _ _ => False) (RetQ Try.prog Try.f154 (D.agg [D.int .i64 (r.parent), D.int .i64 (r.cond.kind), D.str (r.cond.pat.rel), D.fr 9 1 ((r.cond.pat.args).map tx), D.str (r.cond.left), D.str (r.cond.right), D.int .i64 (r.alpha), D.fr 185 2 ((r.tokens).map Token.c)])) []) _ from ?_)
  obtain ⟨y1, h2, h⟩ := den_bind h
  obtain ⟨y3, h4, h⟩ := den_bind h
  have h := den_some h
  subst h
  exact AW_go (n := 2000) [[none, none, none, some (9, 1), none, none, none, some (185, 2)]] [.d (D.agg [D.int .i64 (y1.kind), D.str (y1.pat.rel), D.fr 9 1 ((y1.pat.args).map tx), D.str (y1.left), D.str (y1.right)]), .d (D.fr 185 2 ((y3).map Token.c))] (.ret (D.agg [D.int .i64 (a0_.parent), D.int .i64 (y1.kind), D.str (y1.pat.rel), D.fr 9 1 ((y1.pat.args).map tx), D.str (y1.left), D.str (y1.right), D.int .i64 (a0_.alpha), D.fr 185 2 ((y3).map Token.c)])) hΓ mix (by kernel_rfl) (ow (d_laws_toCond_good h2) (ow (d_laws_toTokenS_good h4) ow0)) rfl
def d_laws_toNodeS_L1 (a0_ : List Node) (k1 : List Node → Option (List Node)) : List Node → Nat → List Node → Option (List Node)
  | [], i1, w1_0 => (k1 (w1_0))
  | x1_ :: xs1, i1, w1_0 => ((d_laws_toNode (x1_)).bind fun y41 => (bif decide (i1 < ((w1_0).map Node.c).length) then (((w1_0)[i1]?).bind fun x44 => (d_laws_toNodeS_L1 a0_ k1 xs1 (i1 + 1) ((w1_0).set i1 y41))) else none))
def d_laws_toNodeS (a0_ : List Node) : Option (List Node) := (bif roomM ((((a0_).map Node.c).length : Int)) 120 then (d_laws_toNodeS_L1 a0_ (fun (q1_0 : List Node) => (some (q1_0))) (a0_) 0 (List.replicate ((((a0_).map Node.c).length : Int)).toNat (⟨(0 : Int), (⟨(0 : Int), (⟨([] : Bytes), []⟩ : Fact), ([] : Bytes), ([] : Bytes)⟩ : Cond), (0 : Int), []⟩ : Node))) else none)
theorem d_laws_toNodeS_L1w {Γ : Ctx} (hΓ : Γ.nt = 23) {N : Nat → St → Prop} {a0_ : List Node} {r : List Node} {k1 : List Node → Option (List Node)} (hE1 : ∀ (q1_0 : List Node), k1 q1_0 = some r → AW Try.prog Γ (dig (bodyOf Try.f101) [1, 1, 1] []).1 (KQ Try.prog Γ N (RetQ Try.prog Try.f101 (D.fr 130 8 ((r).map Node.c))) (dig (bodyOf Try.f101) [1, 1, 1] []).2) ⟨[(3, D.acc 0)], [Ob.row .uq 130 8 ((q1_0).map Node.c)]⟩) (hm1 : (a0_).length ≤ maxLen) : ∀ (rest : List Node) (i1 : Nat) (w1_0 : List Node), (a0_).drop i1 = rest → d_laws_toNodeS_L1 a0_ k1 rest i1 w1_0 = some r → AWr Try.prog Γ (dig (bodyOf Try.f101) [1, 1, 0, 1, 0, 0] []).1 (KQ Try.prog Γ N (RetQ Try.prog Try.f101 (D.fr 130 8 ((r).map Node.c))) (dig (bodyOf Try.f101) [1, 1, 0, 1, 0] []).2) (rest.length + 1) ⟨[(0, D.sl ((a0_).map Node.c)), (3, D.acc 0), (4, D.int .i64 ((i1 : Int)))], [Ob.row .uq 130 8 ((w1_0).map Node.c)]⟩ := by
  intro rest
  induction rest with
  | nil =>
    intro i1 w1_0 hd1 h
    rw [d_laws_toNodeS_L1] at h
    refine AWr_succ fun N1 hN1 hS1 => ?_
    have t := AW_N (N := N) (N' := N1) (K0 := (dig (bodyOf Try.f101) [1, 1, 0, 1, 0] []).2) (by kernel_rfl) hN1 (hE1 (w1_0) h)
    refine AW_go (n := 2000) [[some (130, 8)]] [.b false, .hl 0 [3] [0]] (.at_ (dig (bodyOf Try.f101) [1, 1, 1] []).1 (dig (bodyOf Try.f101) [1, 1, 1] []).2 ⟨[(3, D.acc 0)], [Ob.row .uq 130 8 ((w1_0).map Node.c)]⟩) hΓ mix (by kernel_rfl) (ow ((ltm_false Node.c (drop_nil hd1))) ow0) ?_
    first | exact t | (simp only [List.map_append, List.map_cons, List.map_nil, List.map_set] at t ⊢; exact t)
  | cons x1_ xs1 ih1 =>
    intro i1 w1_0 hd1 h
    rw [d_laws_toNodeS_L1] at h
    refine AWr_succ fun N1 hN1 hS1 => ?_
    obtain ⟨y41, h42, h⟩ := den_bind h
    obtain ⟨h43, h⟩ := den_ok h
    obtain ⟨x44, h45, h⟩ := den_bind h
    have t := ih1 (i1 + 1) ((w1_0).set i1 y41) (drop_cons hd1).2.2 h
    refine AW_go (n := 2000) [[some (130, 8)]] [.b true, .row (Node.c x1_), .d (D.agg [D.int .i64 (y41.parent), D.int .i64 (y41.cond.kind), D.str (y41.cond.pat.rel), D.fr 9 1 ((y41.cond.pat.args).map tx), D.str (y41.cond.left), D.str (y41.cond.right), D.int .i64 (y41.alpha), D.fr 185 2 ((y41.tokens).map Token.c)]), .ix i1, .row [D.int .i64 (x44.parent), D.int .i64 (x44.cond.kind), D.str (x44.cond.pat.rel), D.sl ((x44.cond.pat.args).map tx), D.str (x44.cond.left), D.str (x44.cond.right), D.int .i64 (x44.alpha), D.sl ((x44.tokens).map Token.c)], .cn [0, 3, 4] [0]] (.cont 0 ⟨[(0, D.sl ((a0_).map Node.c)), (3, D.acc 0), (4, D.int .i64 (IntKind.i64.wrap (((i1 : Int)) + (1))))], [Ob.row .uq 130 8 (((w1_0).map Node.c).set i1 [D.int .i64 (y41.parent), D.int .i64 (y41.cond.kind), D.str (y41.cond.pat.rel), D.sl ((y41.cond.pat.args).map tx), D.str (y41.cond.left), D.str (y41.cond.right), D.int .i64 (y41.alpha), D.sl ((y41.tokens).map Token.c)])]⟩) hΓ mix (by kernel_rfl) (ow ((ltm_true Node.c (drop_cons hd1).2.1)) (ow (map_row Node.c 8 (drop_cons hd1).1 rfl) (ow (d_laws_toNode_good h42) (ow (own_ix 8 h43) (ow (show ((w1_0).map Node.c)[i1]? = some [D.int .i64 (x44.parent), D.int .i64 (x44.cond.kind), D.str (x44.cond.pat.rel), D.sl ((x44.cond.pat.args).map tx), D.str (x44.cond.left), D.str (x44.cond.right), D.int .i64 (x44.alpha), D.sl ((x44.tokens).map Token.c)] from map_get Node.c h45) ow0))))) ?_
    refine (congrFun hS1 _).mpr ?_
    rw [i64_succ (drop_cons hd1).2.1 hm1]
    first | exact t | (simp only [List.map_append, List.map_cons, List.map_nil, List.map_set] at t ⊢; exact t)
theorem d_laws_toNodeS_good {a0_ : List Node} {r : List Node} (h : d_laws_toNodeS a0_ = some r) : Good Try.prog 101 [D.sl ((a0_).map Node.c)] (D.fr 130 8 ((r).map Node.c)) := by
  refine Good.of (c := bodyOf Try.f101) Try.func101 rfl (by decide) (by simp [Try.f101]) ?_
  intro hr Γ hΓ
  have hΓ : Γ.nt = 23 := hΓ
  rw [d_laws_toNodeS] at h
  refine (show AW Try.prog Γ (bodyOf Try.f101) (KQ Try.prog Γ (fun _ _ => False) (RetQ Try.prog Try.f101 (D.fr 130 8 ((r).map Node.c))) []) _ from ?_)
  obtain ⟨h1, h⟩ := den_ok h
  refine AW_go (n := 2000) [[some (130, 8)]] [.cn [0, 3, 4] [0]] (.lp (dig (bodyOf Try.f101) [1, 1, 0, 1, 0, 0] []).1 (dig (bodyOf Try.f101) [1, 1, 0, 1, 0] []).2 ⟨[(0, D.sl ((a0_).map Node.c)), (3, D.acc 0), (4, D.int .i64 (0))], [Ob.row .uq 130 8 (List.replicate ((((a0_).map Node.c).length : Int)).toNat [D.int .i64 (0), D.int .i64 (0), D.str ([]), D.sl ([]), D.str ([]), D.str ([]), D.int .i64 (0), D.sl ([])])]⟩) hΓ mix (by kernel_rfl) (ow (roomM_ok h1) ow0) (AW_st (by first | rfl | (simp only [List.map_append, List.map_cons, List.map_nil, List.map_set, List.map_replicate] <;> rfl)) (AW_of_r (d_laws_toNodeS_L1w hΓ (fun q1_0 h => ?_) (by have := (Rdb.sl (hr _ (List.mem_of_getElem? (i := 0) rfl))).1; simpa using this) (a0_) 0 (List.replicate ((((a0_).map Node.c).length : Int)).toNat (⟨(0 : Int), (⟨(0 : Int), (⟨([] : Bytes), []⟩ : Fact), ([] : Bytes), ([] : Bytes)⟩ : Cond), (0 : Int), []⟩ : Node)) rfl h)))
  have h := den_some h
  subst h
  exact AW_go (n := 2000) [[some (130, 8)]] [] (.ret (D.fr 130 8 ((q1_0).map Node.c))) hΓ mix (by kernel_rfl) ow0 rfl
def d_laws_toNetwork (a0_ : Network) : Option Network := ((d_laws_toRuleS (a0_.rules)).bind fun y1 => ((d_laws_toIntS (a0_.ends)).bind fun y3 => ((d_laws_toAlphaS (a0_.alphas)).bind fun y5 => ((d_laws_toNodeS (a0_.nodes)).bind fun y7 => ((d_laws_toFactS (a0_.facts)).bind fun y9 => (some ((⟨y1, y3, y5, y7, y9, a0_.tries⟩ : Network))))))))
theorem d_laws_toNetwork_good {a0_ : Network} {r : Network} (h : d_laws_toNetwork a0_ = some r) : Good Try.prog 51 [D.agg (Network.c a0_)] (D.agg [D.fr 53 4 ((r.rules).map Rule.c), D.fr 3 1 ((r.ends).map ixx), D.fr 140 3 ((r.alphas).map Alpha.c), D.fr 130 8 ((r.nodes).map Node.c), D.fr 92 2 ((r.facts).map Fact.c), D.int .i64 (r.tries)]) := by
  refine Good.of (c := bodyOf Try.f51) Try.func51 rfl (by decide) (by simp [Try.f51]) ?_
  intro hr Γ hΓ
  have hΓ : Γ.nt = 28 := hΓ
  rw [d_laws_toNetwork] at h
  refine (show AW Try.prog Γ (bodyOf Try.f51) (KQ Try.prog Γ (fun _ _ => False) (RetQ Try.prog Try.f51 (D.agg [D.fr 53 4 ((r.rules).map Rule.c), D.fr 3 1 ((r.ends).map ixx), D.fr 140 3 ((r.alphas).map Alpha.c), D.fr 130 8 ((r.nodes).map Node.c), D.fr 92 2 ((r.facts).map Fact.c), D.int .i64 (r.tries)])) []) _ from ?_)
  obtain ⟨y1, h2, h⟩ := den_bind h
  obtain ⟨y3, h4, h⟩ := den_bind h
  obtain ⟨y5, h6, h⟩ := den_bind h
  obtain ⟨y7, h8, h⟩ := den_bind h
  obtain ⟨y9, h10, h⟩ := den_bind h
  have h := den_some h
  subst h
  exact AW_go (n := 2000) [[some (53, 4), some (3, 1), some (140, 3), some (130, 8), some (92, 2), none]] [.d (D.fr 53 4 ((y1).map Rule.c)), .d (D.fr 3 1 ((y3).map ixx)), .d (D.fr 140 3 ((y5).map Alpha.c)), .d (D.fr 130 8 ((y7).map Node.c)), .d (D.fr 92 2 ((y9).map Fact.c))] (.ret (D.agg [D.fr 53 4 ((y1).map Rule.c), D.fr 3 1 ((y3).map ixx), D.fr 140 3 ((y5).map Alpha.c), D.fr 130 8 ((y7).map Node.c), D.fr 92 2 ((y9).map Fact.c), D.int .i64 (a0_.tries)])) hΓ mix (by kernel_rfl) (ow (d_laws_toRuleS_good h2) (ow (d_laws_toIntS_good h4) (ow (d_laws_toAlphaS_good h6) (ow (d_laws_toNodeS_good h8) (ow (d_laws_toFactS_good h10) ow0))))) rfl
end Go.Cx
