/- What functions of the program compute, and the walks that show it. No condition. -/
import Derived.Test.YtamlfpljmobdoaaDoorNData
namespace Go.Cx
open Go.RowKit Go.Proofs
set_option linter.unusedVariables false
set_option linter.unusedSimpArgs false
set_option maxRecDepth 100000
def d_laws_toStringS_L1 (a0_ : List Bytes) (k1 : List Bytes → Option (List Bytes)) : List Bytes → Nat → List Bytes → Option (List Bytes)
  | [], i1, w1_0 => (k1 (w1_0))
  | x1_ :: xs1, i1, w1_0 => (bif decide (i1 < ((w1_0).map tx).length) then (((w1_0)[i1]?).bind fun x30 => (d_laws_toStringS_L1 a0_ k1 xs1 (i1 + 1) ((w1_0).set i1 x1_))) else none)
def d_laws_toStringS (a0_ : List Bytes) : Option (List Bytes) := (bif roomM ((((a0_).map tx).length : Int)) 16 then (d_laws_toStringS_L1 a0_ (fun (q1_0 : List Bytes) => (some (q1_0))) (a0_) 0 (List.replicate ((((a0_).map tx).length : Int)).toNat ([] : Bytes))) else none)
theorem d_laws_toStringS_L1w {Γ : Ctx} (hΓ : Γ.nt = 22) {N : Nat → St → Prop} {a0_ : List Bytes} {r : List Bytes} {k1 : List Bytes → Option (List Bytes)} (hE1 : ∀ (q1_0 : List Bytes), k1 q1_0 = some r → AW Tryd.prog Γ (dig (bodyOf Tryd.f76) [1, 1, 1] []).1 (KQ Tryd.prog Γ N (RetQ Tryd.prog Tryd.f76 (D.fr 9 1 ((r).map tx))) (dig (bodyOf Tryd.f76) [1, 1, 1] []).2) ⟨[(3, D.acc 0)], [Ob.row .uq 9 1 ((q1_0).map tx)]⟩) (hm1 : (a0_).length ≤ maxLen) : ∀ (rest : List Bytes) (i1 : Nat) (w1_0 : List Bytes), (a0_).drop i1 = rest → d_laws_toStringS_L1 a0_ k1 rest i1 w1_0 = some r → AWr Tryd.prog Γ (dig (bodyOf Tryd.f76) [1, 1, 0, 1, 0, 0] []).1 (KQ Tryd.prog Γ N (RetQ Tryd.prog Tryd.f76 (D.fr 9 1 ((r).map tx))) (dig (bodyOf Tryd.f76) [1, 1, 0, 1, 0] []).2) (rest.length + 1) ⟨[(0, D.sl ((a0_).map tx)), (3, D.acc 0), (4, D.int .i64 ((i1 : Int)))], [Ob.row .uq 9 1 ((w1_0).map tx)]⟩ := by
  intro rest
  induction rest with
  | nil =>
    intro i1 w1_0 hd1 h
    rw [d_laws_toStringS_L1] at h
    refine AWr_succ fun N1 hN1 hS1 => ?_
    have t := AW_N (N := N) (N' := N1) (K0 := (dig (bodyOf Tryd.f76) [1, 1, 0, 1, 0] []).2) (by kernel_rfl) hN1 (hE1 (w1_0) h)
    refine AW_go (n := 2000) [[some (9, 1)]] [.b false, .hl 0 [3] [0]] (.at_ (dig (bodyOf Tryd.f76) [1, 1, 1] []).1 (dig (bodyOf Tryd.f76) [1, 1, 1] []).2 ⟨[(3, D.acc 0)], [Ob.row .uq 9 1 ((w1_0).map tx)]⟩) hΓ mix (by kernel_rfl) (ow ((ltm_false tx (drop_nil hd1))) ow0) ?_
    first | exact t | (simp only [List.map_append, List.map_cons, List.map_nil, List.map_set] at t ⊢; exact t)
  | cons x1_ xs1 ih1 =>
    intro i1 w1_0 hd1 h
    rw [d_laws_toStringS_L1] at h
    refine AWr_succ fun N1 hN1 hS1 => ?_
    obtain ⟨h29, h⟩ := den_ok h
    obtain ⟨x30, h31, h⟩ := den_bind h
    have t := ih1 (i1 + 1) ((w1_0).set i1 x1_) (drop_cons hd1).2.2 h
    refine AW_go (n := 2000) [[some (9, 1)]] [.b true, .row (tx x1_), .ix i1, .row [D.str (x30)], .cn [0, 3, 4] [0]] (.cont 0 ⟨[(0, D.sl ((a0_).map tx)), (3, D.acc 0), (4, D.int .i64 (IntKind.i64.wrap (((i1 : Int)) + (1))))], [Ob.row .uq 9 1 (((w1_0).map tx).set i1 [D.str (x1_)])]⟩) hΓ mix (by kernel_rfl) (ow ((ltm_true tx (drop_cons hd1).2.1)) (ow (map_row tx 1 (drop_cons hd1).1 rfl) (ow (own_ix 1 h29) (ow (show ((w1_0).map tx)[i1]? = some [D.str (x30)] from map_get tx h31) ow0)))) ?_
    refine (congrFun hS1 _).mpr ?_
    rw [i64_succ (drop_cons hd1).2.1 hm1]
    first | exact t | (simp only [List.map_append, List.map_cons, List.map_nil, List.map_set] at t ⊢; exact t)
theorem d_laws_toStringS_good {a0_ : List Bytes} {r : List Bytes} (h : d_laws_toStringS a0_ = some r) : Good Tryd.prog 76 [D.sl ((a0_).map tx)] (D.fr 9 1 ((r).map tx)) := by
  refine Good.of (c := bodyOf Tryd.f76) Tryd.func76 rfl (by decide) (by simp [Tryd.f76]) ?_
  intro hr Γ hΓ
  have hΓ : Γ.nt = 22 := hΓ
  rw [d_laws_toStringS] at h
  refine (show AW Tryd.prog Γ (bodyOf Tryd.f76) (KQ Tryd.prog Γ (fun _ _ => False) (RetQ Tryd.prog Tryd.f76 (D.fr 9 1 ((r).map tx))) []) _ from ?_)
  obtain ⟨h1, h⟩ := den_ok h
  refine AW_go (n := 2000) [[some (9, 1)]] [.cn [0, 3, 4] [0]] (.lp (dig (bodyOf Tryd.f76) [1, 1, 0, 1, 0, 0] []).1 (dig (bodyOf Tryd.f76) [1, 1, 0, 1, 0] []).2 ⟨[(0, D.sl ((a0_).map tx)), (3, D.acc 0), (4, D.int .i64 (0))], [Ob.row .uq 9 1 (List.replicate ((((a0_).map tx).length : Int)).toNat [D.str ([])])]⟩) hΓ mix (by kernel_rfl) (ow (roomM_ok h1) ow0) (AW_st (by first | rfl | (simp only [List.map_append, List.map_cons, List.map_nil, List.map_set, List.map_replicate] <;> rfl)) (AW_of_r (d_laws_toStringS_L1w hΓ (fun q1_0 h => ?_) (by have := (Rdb.sl (hr _ (List.mem_of_getElem? (i := 0) rfl))).1; simpa using this) (a0_) 0 (List.replicate ((((a0_).map tx).length : Int)).toNat ([] : Bytes)) rfl h)))
  have h := den_some h
  subst h
  exact AW_go (n := 2000) [[some (9, 1)]] [] (.ret (D.fr 9 1 ((q1_0).map tx))) hΓ mix (by kernel_rfl) ow0 rfl
def d_laws_toFact (a0_ : Fact) : Option Fact := ((d_laws_toStringS (a0_.args)).bind fun y1 => (some ((⟨a0_.rel, y1⟩ : Fact))))
theorem d_laws_toFact_good {a0_ : Fact} {r : Fact} (h : d_laws_toFact a0_ = some r) : Good Tryd.prog 55 [D.agg (Fact.c a0_)] (D.agg [D.str (r.rel), D.fr 9 1 ((r.args).map tx)]) := by
  refine Good.of (c := bodyOf Tryd.f55) Tryd.func55 rfl (by decide) (by simp [Tryd.f55]) ?_
  intro hr Γ hΓ
  have hΓ : Γ.nt = 12 := hΓ
  rw [d_laws_toFact] at h
  refine (show AW Tryd.prog Γ (bodyOf Tryd.f55) (KQ Tryd.prog Γ (fun _ _ => False) (RetQ Tryd.prog Tryd.f55 (D.agg [D.str (r.rel), D.fr 9 1 ((r.args).map tx)])) []) _ from ?_)
  obtain ⟨y1, h2, h⟩ := den_bind h
  have h := den_some h
  subst h
  exact AW_go (n := 2000) [[none, some (9, 1)]] [.d (D.fr 9 1 ((y1).map tx))] (.ret (D.agg [D.str (a0_.rel), D.fr 9 1 ((y1).map tx)])) hΓ mix (by kernel_rfl) (ow (d_laws_toStringS_good h2) ow0) rfl
def d_laws_toStamp (a0_ : Stamp) : Option Stamp := ((d_laws_toFact (a0_.fact)).bind fun y1 => (some ((⟨y1, a0_.time⟩ : Stamp))))
theorem d_laws_toStamp_good {a0_ : Stamp} {r : Stamp} (h : d_laws_toStamp a0_ = some r) : Good Tryd.prog 33 [D.agg (Stamp.c a0_)] (D.agg [D.str (r.fact.rel), D.fr 9 1 ((r.fact.args).map tx), D.int .i64 (r.time)]) := by
  refine Good.of (c := bodyOf Tryd.f33) Tryd.func33 rfl (by decide) (by simp [Tryd.f33]) ?_
  intro hr Γ hΓ
  have hΓ : Γ.nt = 12 := hΓ
  rw [d_laws_toStamp] at h
  refine (show AW Tryd.prog Γ (bodyOf Tryd.f33) (KQ Tryd.prog Γ (fun _ _ => False) (RetQ Tryd.prog Tryd.f33 (D.agg [D.str (r.fact.rel), D.fr 9 1 ((r.fact.args).map tx), D.int .i64 (r.time)])) []) _ from ?_)
  obtain ⟨y1, h2, h⟩ := den_bind h
  have h := den_some h
  subst h
  exact AW_go (n := 2000) [[none, some (9, 1), none]] [.d (D.agg [D.str (y1.rel), D.fr 9 1 ((y1.args).map tx)])] (.ret (D.agg [D.str (y1.rel), D.fr 9 1 ((y1.args).map tx), D.int .i64 (a0_.time)])) hΓ mix (by kernel_rfl) (ow (d_laws_toFact_good h2) ow0) rfl
def d_laws_toStampS_L1 (a0_ : List Stamp) (k1 : List Stamp → Option (List Stamp)) : List Stamp → Nat → List Stamp → Option (List Stamp)
  | [], i1, w1_0 => (k1 (w1_0))
  | x1_ :: xs1, i1, w1_0 => ((d_laws_toStamp (x1_)).bind fun y41 => (bif decide (i1 < ((w1_0).map Stamp.c).length) then (((w1_0)[i1]?).bind fun x44 => (d_laws_toStampS_L1 a0_ k1 xs1 (i1 + 1) ((w1_0).set i1 y41))) else none))
def d_laws_toStampS (a0_ : List Stamp) : Option (List Stamp) := (bif roomM ((((a0_).map Stamp.c).length : Int)) 48 then (d_laws_toStampS_L1 a0_ (fun (q1_0 : List Stamp) => (some (q1_0))) (a0_) 0 (List.replicate ((((a0_).map Stamp.c).length : Int)).toNat (⟨(⟨([] : Bytes), []⟩ : Fact), (0 : Int)⟩ : Stamp))) else none)
theorem d_laws_toStampS_L1w {Γ : Ctx} (hΓ : Γ.nt = 23) {N : Nat → St → Prop} {a0_ : List Stamp} {r : List Stamp} {k1 : List Stamp → Option (List Stamp)} (hE1 : ∀ (q1_0 : List Stamp), k1 q1_0 = some r → AW Tryd.prog Γ (dig (bodyOf Tryd.f13) [1, 1, 1] []).1 (KQ Tryd.prog Γ N (RetQ Tryd.prog Tryd.f13 (D.fr 73 3 ((r).map Stamp.c))) (dig (bodyOf Tryd.f13) [1, 1, 1] []).2) ⟨[(3, D.acc 0)], [Ob.row .uq 73 3 ((q1_0).map Stamp.c)]⟩) (hm1 : (a0_).length ≤ maxLen) : ∀ (rest : List Stamp) (i1 : Nat) (w1_0 : List Stamp), (a0_).drop i1 = rest → d_laws_toStampS_L1 a0_ k1 rest i1 w1_0 = some r → AWr Tryd.prog Γ (dig (bodyOf Tryd.f13) [1, 1, 0, 1, 0, 0] []).1 (KQ Tryd.prog Γ N (RetQ Tryd.prog Tryd.f13 (D.fr 73 3 ((r).map Stamp.c))) (dig (bodyOf Tryd.f13) [1, 1, 0, 1, 0] []).2) (rest.length + 1) ⟨[(0, D.sl ((a0_).map Stamp.c)), (3, D.acc 0), (4, D.int .i64 ((i1 : Int)))], [Ob.row .uq 73 3 ((w1_0).map Stamp.c)]⟩ := by
  intro rest
  induction rest with
  | nil =>
    intro i1 w1_0 hd1 h
    rw [d_laws_toStampS_L1] at h
    refine AWr_succ fun N1 hN1 hS1 => ?_
    have t := AW_N (N := N) (N' := N1) (K0 := (dig (bodyOf Tryd.f13) [1, 1, 0, 1, 0] []).2) (by kernel_rfl) hN1 (hE1 (w1_0) h)
    refine AW_go (n := 2000) [[some (73, 3)]] [.b false, .hl 0 [3] [0]] (.at_ (dig (bodyOf Tryd.f13) [1, 1, 1] []).1 (dig (bodyOf Tryd.f13) [1, 1, 1] []).2 ⟨[(3, D.acc 0)], [Ob.row .uq 73 3 ((w1_0).map Stamp.c)]⟩) hΓ mix (by kernel_rfl) (ow ((ltm_false Stamp.c (drop_nil hd1))) ow0) ?_
    first | exact t | (simp only [List.map_append, List.map_cons, List.map_nil, List.map_set] at t ⊢; exact t)
  | cons x1_ xs1 ih1 =>
    intro i1 w1_0 hd1 h
    rw [d_laws_toStampS_L1] at h
    refine AWr_succ fun N1 hN1 hS1 => ?_
    obtain ⟨y41, h42, h⟩ := den_bind h
    obtain ⟨h43, h⟩ := den_ok h
    obtain ⟨x44, h45, h⟩ := den_bind h
    have t := ih1 (i1 + 1) ((w1_0).set i1 y41) (drop_cons hd1).2.2 h
    refine AW_go (n := 2000) [[some (73, 3)]] [.b true, .row (Stamp.c x1_), .d (D.agg [D.str (y41.fact.rel), D.fr 9 1 ((y41.fact.args).map tx), D.int .i64 (y41.time)]), .ix i1, .row [D.str (x44.fact.rel), D.sl ((x44.fact.args).map tx), D.int .i64 (x44.time)], .cn [0, 3, 4] [0]] (.cont 0 ⟨[(0, D.sl ((a0_).map Stamp.c)), (3, D.acc 0), (4, D.int .i64 (IntKind.i64.wrap (((i1 : Int)) + (1))))], [Ob.row .uq 73 3 (((w1_0).map Stamp.c).set i1 [D.str (y41.fact.rel), D.sl ((y41.fact.args).map tx), D.int .i64 (y41.time)])]⟩) hΓ mix (by kernel_rfl) (ow ((ltm_true Stamp.c (drop_cons hd1).2.1)) (ow (map_row Stamp.c 3 (drop_cons hd1).1 rfl) (ow (d_laws_toStamp_good h42) (ow (own_ix 3 h43) (ow (show ((w1_0).map Stamp.c)[i1]? = some [D.str (x44.fact.rel), D.sl ((x44.fact.args).map tx), D.int .i64 (x44.time)] from map_get Stamp.c h45) ow0))))) ?_
    refine (congrFun hS1 _).mpr ?_
    rw [i64_succ (drop_cons hd1).2.1 hm1]
    first | exact t | (simp only [List.map_append, List.map_cons, List.map_nil, List.map_set] at t ⊢; exact t)
theorem d_laws_toStampS_good {a0_ : List Stamp} {r : List Stamp} (h : d_laws_toStampS a0_ = some r) : Good Tryd.prog 13 [D.sl ((a0_).map Stamp.c)] (D.fr 73 3 ((r).map Stamp.c)) := by
  refine Good.of (c := bodyOf Tryd.f13) Tryd.func13 rfl (by decide) (by simp [Tryd.f13]) ?_
  intro hr Γ hΓ
  have hΓ : Γ.nt = 23 := hΓ
  rw [d_laws_toStampS] at h
  refine (show AW Tryd.prog Γ (bodyOf Tryd.f13) (KQ Tryd.prog Γ (fun _ _ => False) (RetQ Tryd.prog Tryd.f13 (D.fr 73 3 ((r).map Stamp.c))) []) _ from ?_)
  obtain ⟨h1, h⟩ := den_ok h
  refine AW_go (n := 2000) [[some (73, 3)]] [.cn [0, 3, 4] [0]] (.lp (dig (bodyOf Tryd.f13) [1, 1, 0, 1, 0, 0] []).1 (dig (bodyOf Tryd.f13) [1, 1, 0, 1, 0] []).2 ⟨[(0, D.sl ((a0_).map Stamp.c)), (3, D.acc 0), (4, D.int .i64 (0))], [Ob.row .uq 73 3 (List.replicate ((((a0_).map Stamp.c).length : Int)).toNat [D.str ([]), D.sl ([]), D.int .i64 (0)])]⟩) hΓ mix (by kernel_rfl) (ow (roomM_ok h1) ow0) (AW_st (by first | rfl | (simp only [List.map_append, List.map_cons, List.map_nil, List.map_set, List.map_replicate] <;> rfl)) (AW_of_r (d_laws_toStampS_L1w hΓ (fun q1_0 h => ?_) (by have := (Rdb.sl (hr _ (List.mem_of_getElem? (i := 0) rfl))).1; simpa using this) (a0_) 0 (List.replicate ((((a0_).map Stamp.c).length : Int)).toNat (⟨(⟨([] : Bytes), []⟩ : Fact), (0 : Int)⟩ : Stamp)) rfl h)))
  have h := den_some h
  subst h
  exact AW_go (n := 2000) [[some (73, 3)]] [] (.ret (D.fr 73 3 ((q1_0).map Stamp.c))) hΓ mix (by kernel_rfl) ow0 rfl
end Go.Cx
