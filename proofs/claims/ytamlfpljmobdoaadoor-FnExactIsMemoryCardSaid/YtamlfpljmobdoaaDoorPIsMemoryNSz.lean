/- What functions of the program compute, and the walks that show it. No condition. -/
import Derived.Test.YtamlfpljmobdoaaDoorNData
namespace Go.Cx
open Go.RowKit Go.Proofs
set_option linter.unusedVariables false
set_option linter.unusedSimpArgs false
set_option maxRecDepth 100000
def d_laws_szStringS_L1 (a0_ : List Bytes) (k1 : Int → Option Int) : List Bytes → Nat → Int → Option Int
  | [], i1, v1_1 => (k1 (v1_1))
  | x1_ :: xs1, i1, v1_1 => (bif decide ((IntKind.i64.wrap ((v1_1) - (((x1_).length : Int))) : Int) < (0)) then (some (-1)) else (d_laws_szStringS_L1 a0_ k1 xs1 (i1 + 1) (IntKind.i64.wrap ((v1_1) - (((x1_).length : Int))))))
def d_laws_szStringS (a0_ : List Bytes) (a1_ : Int) : Option Int := (bif decide ((IntKind.i64.wrap ((a1_) - ((((a0_).map tx).length : Int))) : Int) < (0)) then (some (-1)) else (d_laws_szStringS_L1 a0_ (fun (z1_1 : Int) => (some (z1_1))) (a0_) 0 (IntKind.i64.wrap ((a1_) - ((((a0_).map tx).length : Int))))))
theorem d_laws_szStringS_L1w {Γ : Ctx} (hΓ : Γ.nt = 28) {N : Nat → St → Prop} {a0_ : List Bytes} {r : Int} {k1 : Int → Option Int} (hE1 : ∀ (z1_1 : Int), k1 z1_1 = some r → AW Tryd.prog Γ (dig (bodyOf Tryd.f74) [1, 1, 1, 1] []).1 (KQ Tryd.prog Γ N (RetQ Tryd.prog Tryd.f74 (D.int .i64 (r))) (dig (bodyOf Tryd.f74) [1, 1, 1, 1] []).2) ⟨[(1, D.int .i64 (z1_1))], []⟩) (hm1 : (a0_).length ≤ maxLen) : ∀ (rest : List Bytes) (i1 : Nat) (v1_1 : Int), (a0_).drop i1 = rest → d_laws_szStringS_L1 a0_ k1 rest i1 v1_1 = some r → AWr Tryd.prog Γ (dig (bodyOf Tryd.f74) [1, 1, 1, 0, 1, 0, 0] []).1 (KQ Tryd.prog Γ N (RetQ Tryd.prog Tryd.f74 (D.int .i64 (r))) (dig (bodyOf Tryd.f74) [1, 1, 1, 0, 1, 0] []).2) (rest.length + 1) ⟨[(0, D.sl ((a0_).map tx)), (1, D.int .i64 (v1_1)), (5, D.int .i64 ((i1 : Int)))], []⟩ := by
  intro rest
  induction rest with
  | nil =>
    intro i1 v1_1 hd1 h
    rw [d_laws_szStringS_L1] at h
    refine AWr_succ fun N1 hN1 hS1 => ?_
    have t := AW_N (N := N) (N' := N1) (K0 := (dig (bodyOf Tryd.f74) [1, 1, 1, 0, 1, 0] []).2) (by kernel_rfl) hN1 (hE1 (v1_1) h)
    refine AW_go (n := 2000) [[none]] [.b false, .hl 0 [1] []] (.at_ (dig (bodyOf Tryd.f74) [1, 1, 1, 1] []).1 (dig (bodyOf Tryd.f74) [1, 1, 1, 1] []).2 ⟨[(1, D.int .i64 (v1_1))], []⟩) hΓ mix (by kernel_rfl) (ow ((ltm_false tx (drop_nil hd1))) ow0) ?_
    first | exact t | (simp only [List.map_append, List.map_cons, List.map_nil, List.map_set] at t ⊢; exact t)
  | cons x1_ xs1 ih1 =>
    intro i1 v1_1 hd1 h
    rw [d_laws_szStringS_L1] at h
    refine AWr_succ fun N1 hN1 hS1 => ?_
    rcases den_if h with ⟨h14, h⟩ | ⟨h14, h⟩
    · have h := den_some h
      subst h
      exact AW_go (n := 2000) [[none]] [.b true, .row (tx x1_), .b true] (.ret (D.int .i64 (-1))) hΓ mix (by kernel_rfl) (ow ((ltm_true tx (drop_cons hd1).2.1)) (ow (map_row tx 1 (drop_cons hd1).1 rfl) (ow (h14) ow0))) rfl
    · have t := ih1 (i1 + 1) (IntKind.i64.wrap ((v1_1) - (((x1_).length : Int)))) (drop_cons hd1).2.2 h
      refine AW_go (n := 2000) [[none]] [.b true, .row (tx x1_), .b false, .cn [0, 1, 5] []] (.cont 0 ⟨[(0, D.sl ((a0_).map tx)), (1, D.int .i64 (IntKind.i64.wrap ((v1_1) - (((x1_).length : Int))))), (5, D.int .i64 (IntKind.i64.wrap (((i1 : Int)) + (1))))], []⟩) hΓ mix (by kernel_rfl) (ow ((ltm_true tx (drop_cons hd1).2.1)) (ow (map_row tx 1 (drop_cons hd1).1 rfl) (ow (h14) ow0))) ?_
      refine (congrFun hS1 _).mpr ?_
      rw [i64_succ (drop_cons hd1).2.1 hm1]
      first | exact t | (simp only [List.map_append, List.map_cons, List.map_nil, List.map_set] at t ⊢; exact t)
theorem d_laws_szStringS_good {a0_ : List Bytes} {a1_ : Int} {r : Int} (h : d_laws_szStringS a0_ a1_ = some r) : Good Tryd.prog 74 [D.sl ((a0_).map tx), D.int .i64 (a1_)] (D.int .i64 (r)) := by
  refine Good.of (c := bodyOf Tryd.f74) Tryd.func74 rfl (by decide) (by simp [Tryd.f74]) ?_
  intro hr Γ hΓ
  have hΓ : Γ.nt = 28 := hΓ
  rw [d_laws_szStringS] at h
  refine (show AW Tryd.prog Γ (bodyOf Tryd.f74) (KQ Tryd.prog Γ (fun _ _ => False) (RetQ Tryd.prog Tryd.f74 (D.int .i64 (r))) []) _ from ?_)
  rcases den_if h with ⟨h1, h⟩ | ⟨h1, h⟩
  · have h := den_some h
    subst h
    exact AW_go (n := 2000) [[none]] [.b true] (.ret (D.int .i64 (-1))) hΓ mix (by kernel_rfl) (ow (h1) ow0) rfl
  · refine AW_go (n := 2000) [[none]] [.b false, .cn [0, 1, 5] []] (.lp (dig (bodyOf Tryd.f74) [1, 1, 1, 0, 1, 0, 0] []).1 (dig (bodyOf Tryd.f74) [1, 1, 1, 0, 1, 0] []).2 ⟨[(0, D.sl ((a0_).map tx)), (1, D.int .i64 (IntKind.i64.wrap ((a1_) - ((((a0_).map tx).length : Int))))), (5, D.int .i64 (0))], []⟩) hΓ mix (by kernel_rfl) (ow (h1) ow0) (AW_st (by first | rfl | (simp only [List.map_append, List.map_cons, List.map_nil, List.map_set, List.map_replicate] <;> rfl)) (AW_of_r (d_laws_szStringS_L1w hΓ (fun z1_1 h => ?_) (by have := (Rdb.sl (hr _ (List.mem_of_getElem? (i := 0) rfl))).1; simpa using this) (a0_) 0 (IntKind.i64.wrap ((a1_) - ((((a0_).map tx).length : Int)))) rfl h)))
    have h := den_some h
    subst h
    exact AW_go (n := 2000) [[none]] [] (.ret (D.int .i64 (z1_1))) hΓ mix (by kernel_rfl) ow0 rfl
def d_laws_szFact (a0_ : Fact) (a1_ : Int) : Option Int := (bif decide ((IntKind.i64.wrap ((a1_) - (((a0_.rel).length : Int))) : Int) < (0)) then (some (-1)) else ((d_laws_szStringS (a0_.args) (IntKind.i64.wrap ((a1_) - (((a0_.rel).length : Int))))).bind fun y2 => (bif decide ((y2 : Int) < (0)) then (some (-1)) else (some (y2)))))
theorem d_laws_szFact_good {a0_ : Fact} {a1_ : Int} {r : Int} (h : d_laws_szFact a0_ a1_ = some r) : Good Tryd.prog 51 [D.agg (Fact.c a0_), D.int .i64 (a1_)] (D.int .i64 (r)) := by
  refine Good.of (c := bodyOf Tryd.f51) Tryd.func51 rfl (by decide) (by simp [Tryd.f51]) ?_
  intro hr Γ hΓ
  have hΓ : Γ.nt = 19 := hΓ
  rw [d_laws_szFact] at h
  refine (show AW Tryd.prog Γ (bodyOf Tryd.f51) (KQ Tryd.prog Γ (fun _ _ => False) (RetQ Tryd.prog Tryd.f51 (D.int .i64 (r))) []) _ from ?_)
  rcases den_if h with ⟨h1, h⟩ | ⟨h1, h⟩
  · have h := den_some h
    subst h
    exact AW_go (n := 2000) [[none]] [.b true] (.ret (D.int .i64 (-1))) hΓ mix (by kernel_rfl) (ow (h1) ow0) rfl
  · obtain ⟨y2, h3, h⟩ := den_bind h
    rcases den_if h with ⟨h4, h⟩ | ⟨h4, h⟩
    · have h := den_some h
      subst h
      exact AW_go (n := 2000) [[none]] [.b false, .d (D.int .i64 (y2)), .b true] (.ret (D.int .i64 (-1))) hΓ mix (by kernel_rfl) (ow (h1) (ow (d_laws_szStringS_good h3) (ow (h4) ow0))) rfl
    · have h := den_some h
      subst h
      exact AW_go (n := 2000) [[none]] [.b false, .d (D.int .i64 (y2)), .b false] (.ret (D.int .i64 (y2))) hΓ mix (by kernel_rfl) (ow (h1) (ow (d_laws_szStringS_good h3) (ow (h4) ow0))) rfl
def d_laws_szStamp (a0_ : Stamp) (a1_ : Int) : Option Int := ((d_laws_szFact (a0_.fact) (a1_)).bind fun y1 => (bif decide ((y1 : Int) < (0)) then (some (-1)) else (some (y1))))
theorem d_laws_szStamp_good {a0_ : Stamp} {a1_ : Int} {r : Int} (h : d_laws_szStamp a0_ a1_ = some r) : Good Tryd.prog 29 [D.agg (Stamp.c a0_), D.int .i64 (a1_)] (D.int .i64 (r)) := by
  refine Good.of (c := bodyOf Tryd.f29) Tryd.func29 rfl (by decide) (by simp [Tryd.f29]) ?_
  intro hr Γ hΓ
  have hΓ : Γ.nt = 12 := hΓ
  rw [d_laws_szStamp] at h
  refine (show AW Tryd.prog Γ (bodyOf Tryd.f29) (KQ Tryd.prog Γ (fun _ _ => False) (RetQ Tryd.prog Tryd.f29 (D.int .i64 (r))) []) _ from ?_)
  obtain ⟨y1, h2, h⟩ := den_bind h
  rcases den_if h with ⟨h3, h⟩ | ⟨h3, h⟩
  · have h := den_some h
    subst h
    exact AW_go (n := 2000) [[none]] [.d (D.int .i64 (y1)), .b true] (.ret (D.int .i64 (-1))) hΓ mix (by kernel_rfl) (ow (d_laws_szFact_good h2) (ow (h3) ow0)) rfl
  · have h := den_some h
    subst h
    exact AW_go (n := 2000) [[none]] [.d (D.int .i64 (y1)), .b false] (.ret (D.int .i64 (y1))) hΓ mix (by kernel_rfl) (ow (d_laws_szFact_good h2) (ow (h3) ow0)) rfl
def d_laws_szStampS_L1 (a0_ : List Stamp) (k1 : Int → Option Int) : List Stamp → Nat → Int → Option Int
  | [], i1, v1_1 => (k1 (v1_1))
  | x1_ :: xs1, i1, v1_1 => ((d_laws_szStamp (x1_) (v1_1)).bind fun y22 => (bif decide ((y22 : Int) < (0)) then (some (-1)) else (d_laws_szStampS_L1 a0_ k1 xs1 (i1 + 1) (y22))))
def d_laws_szStampS (a0_ : List Stamp) (a1_ : Int) : Option Int := (bif decide ((IntKind.i64.wrap ((a1_) - ((((a0_).map Stamp.c).length : Int))) : Int) < (0)) then (some (-1)) else (d_laws_szStampS_L1 a0_ (fun (z1_1 : Int) => (some (z1_1))) (a0_) 0 (IntKind.i64.wrap ((a1_) - ((((a0_).map Stamp.c).length : Int))))))
theorem d_laws_szStampS_L1w {Γ : Ctx} (hΓ : Γ.nt = 27) {N : Nat → St → Prop} {a0_ : List Stamp} {r : Int} {k1 : Int → Option Int} (hE1 : ∀ (z1_1 : Int), k1 z1_1 = some r → AW Tryd.prog Γ (dig (bodyOf Tryd.f11) [1, 1, 1, 1] []).1 (KQ Tryd.prog Γ N (RetQ Tryd.prog Tryd.f11 (D.int .i64 (r))) (dig (bodyOf Tryd.f11) [1, 1, 1, 1] []).2) ⟨[(1, D.int .i64 (z1_1))], []⟩) (hm1 : (a0_).length ≤ maxLen) : ∀ (rest : List Stamp) (i1 : Nat) (v1_1 : Int), (a0_).drop i1 = rest → d_laws_szStampS_L1 a0_ k1 rest i1 v1_1 = some r → AWr Tryd.prog Γ (dig (bodyOf Tryd.f11) [1, 1, 1, 0, 1, 0, 0] []).1 (KQ Tryd.prog Γ N (RetQ Tryd.prog Tryd.f11 (D.int .i64 (r))) (dig (bodyOf Tryd.f11) [1, 1, 1, 0, 1, 0] []).2) (rest.length + 1) ⟨[(0, D.sl ((a0_).map Stamp.c)), (1, D.int .i64 (v1_1)), (5, D.int .i64 ((i1 : Int)))], []⟩ := by
  intro rest
  induction rest with
  | nil =>
    intro i1 v1_1 hd1 h
    rw [d_laws_szStampS_L1] at h
    refine AWr_succ fun N1 hN1 hS1 => ?_
    have t := AW_N (N := N) (N' := N1) (K0 := (dig (bodyOf Tryd.f11) [1, 1, 1, 0, 1, 0] []).2) (by kernel_rfl) hN1 (hE1 (v1_1) h)
    refine AW_go (n := 2000) [[none]] [.b false, .hl 0 [1] []] (.at_ (dig (bodyOf Tryd.f11) [1, 1, 1, 1] []).1 (dig (bodyOf Tryd.f11) [1, 1, 1, 1] []).2 ⟨[(1, D.int .i64 (v1_1))], []⟩) hΓ mix (by kernel_rfl) (ow ((ltm_false Stamp.c (drop_nil hd1))) ow0) ?_
    first | exact t | (simp only [List.map_append, List.map_cons, List.map_nil, List.map_set] at t ⊢; exact t)
  | cons x1_ xs1 ih1 =>
    intro i1 v1_1 hd1 h
    rw [d_laws_szStampS_L1] at h
    refine AWr_succ fun N1 hN1 hS1 => ?_
    obtain ⟨y22, h23, h⟩ := den_bind h
    rcases den_if h with ⟨h24, h⟩ | ⟨h24, h⟩
    · have h := den_some h
      subst h
      exact AW_go (n := 2000) [[none]] [.b true, .row (Stamp.c x1_), .d (D.int .i64 (y22)), .b true] (.ret (D.int .i64 (-1))) hΓ mix (by kernel_rfl) (ow ((ltm_true Stamp.c (drop_cons hd1).2.1)) (ow (map_row Stamp.c 3 (drop_cons hd1).1 rfl) (ow (d_laws_szStamp_good h23) (ow (h24) ow0)))) rfl
    · have t := ih1 (i1 + 1) (y22) (drop_cons hd1).2.2 h
      refine AW_go (n := 2000) [[none]] [.b true, .row (Stamp.c x1_), .d (D.int .i64 (y22)), .b false, .cn [0, 1, 5] []] (.cont 0 ⟨[(0, D.sl ((a0_).map Stamp.c)), (1, D.int .i64 (y22)), (5, D.int .i64 (IntKind.i64.wrap (((i1 : Int)) + (1))))], []⟩) hΓ mix (by kernel_rfl) (ow ((ltm_true Stamp.c (drop_cons hd1).2.1)) (ow (map_row Stamp.c 3 (drop_cons hd1).1 rfl) (ow (d_laws_szStamp_good h23) (ow (h24) ow0)))) ?_
      refine (congrFun hS1 _).mpr ?_
      rw [i64_succ (drop_cons hd1).2.1 hm1]
      first | exact t | (simp only [List.map_append, List.map_cons, List.map_nil, List.map_set] at t ⊢; exact t)
theorem d_laws_szStampS_good {a0_ : List Stamp} {a1_ : Int} {r : Int} (h : d_laws_szStampS a0_ a1_ = some r) : Good Tryd.prog 11 [D.sl ((a0_).map Stamp.c), D.int .i64 (a1_)] (D.int .i64 (r)) := by
  refine Good.of (c := bodyOf Tryd.f11) Tryd.func11 rfl (by decide) (by simp [Tryd.f11]) ?_
  intro hr Γ hΓ
  have hΓ : Γ.nt = 27 := hΓ
  rw [d_laws_szStampS] at h
  refine (show AW Tryd.prog Γ (bodyOf Tryd.f11) (KQ Tryd.prog Γ (fun _ _ => False) (RetQ Tryd.prog Tryd.f11 (D.int .i64 (r))) []) _ from ?_)
  rcases den_if h with ⟨h1, h⟩ | ⟨h1, h⟩
  · have h := den_some h
    subst h
    exact AW_go (n := 2000) [[none]] [.b true] (.ret (D.int .i64 (-1))) hΓ mix (by kernel_rfl) (ow (h1) ow0) rfl
  · refine AW_go (n := 2000) [[none]] [.b false, .cn [0, 1, 5] []] (.lp (dig (bodyOf Tryd.f11) [1, 1, 1, 0, 1, 0, 0] []).1 (dig (bodyOf Tryd.f11) [1, 1, 1, 0, 1, 0] []).2 ⟨[(0, D.sl ((a0_).map Stamp.c)), (1, D.int .i64 (IntKind.i64.wrap ((a1_) - ((((a0_).map Stamp.c).length : Int))))), (5, D.int .i64 (0))], []⟩) hΓ mix (by kernel_rfl) (ow (h1) ow0) (AW_st (by first | rfl | (simp only [List.map_append, List.map_cons, List.map_nil, List.map_set, List.map_replicate] <;> rfl)) (AW_of_r (d_laws_szStampS_L1w hΓ (fun z1_1 h => ?_) (by have := (Rdb.sl (hr _ (List.mem_of_getElem? (i := 0) rfl))).1; simpa using this) (a0_) 0 (IntKind.i64.wrap ((a1_) - ((((a0_).map Stamp.c).length : Int)))) rfl h)))
    have h := den_some h
    subst h
    exact AW_go (n := 2000) [[none]] [] (.ret (D.int .i64 (z1_1))) hΓ mix (by kernel_rfl) ow0 rfl
end Go.Cx
