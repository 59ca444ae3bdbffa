/- What functions of the program compute, and the walks that show it. No condition. -/
import Derived.Test.YtapddeddalcppaaDoorNData
namespace Go.Cx
open Go.RowKit Go.Proofs
set_option linter.unusedVariables false
set_option linter.unusedSimpArgs false
set_option maxRecDepth 100000
def d_laws_toStringS_L1 (a0_ : List Bytes) (k1 : List Bytes → Option (List Bytes)) : List Bytes → Nat → List Bytes → Option (List Bytes)
  | [], i1, w1_0 => (k1 (w1_0))
  | x1_ :: xs1, i1, w1_0 => (bif decide (i1 < ((w1_0).map tx).length) then (((w1_0)[i1]?).bind fun x30 => (d_laws_toStringS_L1 a0_ k1 xs1 (i1 + 1) ((w1_0).set i1 x1_))) else none)
def d_laws_toStringS (a0_ : List Bytes) : Option (List Bytes) := (bif roomM ((((a0_).map tx).length : Int)) 16 then (d_laws_toStringS_L1 a0_ (fun (q1_0 : List Bytes) => (some (q1_0))) (a0_) 0 (List.replicate ((((a0_).map tx).length : Int)).toNat ([] : Bytes))) else none)
theorem d_laws_toStringS_L1w {Γ : Ctx} (hΓ : Γ.nt = 22) {N : Nat → St → Prop} {a0_ : List Bytes} {r : List Bytes} {k1 : List Bytes → Option (List Bytes)} (hE1 : ∀ (q1_0 : List Bytes), k1 q1_0 = some r → AW Tryd.prog Γ (dig (bodyOf Tryd.f48) [1, 1, 1] []).1 (KQ Tryd.prog Γ N (RetQ Tryd.prog Tryd.f48 (D.fr 9 1 ((r).map tx))) (dig (bodyOf Tryd.f48) [1, 1, 1] []).2) ⟨[(3, D.acc 0)], [Ob.row .uq 9 1 ((q1_0).map tx)]⟩) (hm1 : (a0_).length ≤ maxLen) : ∀ (rest : List Bytes) (i1 : Nat) (w1_0 : List Bytes), (a0_).drop i1 = rest → d_laws_toStringS_L1 a0_ k1 rest i1 w1_0 = some r → AWr Tryd.prog Γ (dig (bodyOf Tryd.f48) [1, 1, 0, 1, 0, 0] []).1 (KQ Tryd.prog Γ N (RetQ Tryd.prog Tryd.f48 (D.fr 9 1 ((r).map tx))) (dig (bodyOf Tryd.f48) [1, 1, 0, 1, 0] []).2) (rest.length + 1) ⟨[(0, D.sl ((a0_).map tx)), (3, D.acc 0), (4, D.int .i64 ((i1 : Int)))], [Ob.row .uq 9 1 ((w1_0).map tx)]⟩ := by
  intro rest
  induction rest with
  | nil =>
    intro i1 w1_0 hd1 h
    rw [d_laws_toStringS_L1] at h
    refine AWr_succ fun N1 hN1 hS1 => ?_
    have t := AW_N (N := N) (N' := N1) (K0 := (dig (bodyOf Tryd.f48) [1, 1, 0, 1, 0] []).2) (by kernel_rfl) hN1 (hE1 (w1_0) h)
    refine AW_go (n := 2000) [[some (9, 1)]] [.b false, .hl 0 [3] [0]] (.at_ (dig (bodyOf Tryd.f48) [1, 1, 1] []).1 (dig (bodyOf Tryd.f48) [1, 1, 1] []).2 ⟨[(3, D.acc 0)], [Ob.row .uq 9 1 ((w1_0).map tx)]⟩) hΓ mix (by kernel_rfl) (ow ((ltm_false tx (drop_nil hd1))) ow0) ?_
    first | exact t | (simp only [List.map_append, List.map_cons, List.map_nil, List.map_set] at t ⊢; exact t)
  | cons x1_ xs1 ih1 =>
    intro i1 w1_0 hd1 h
    rw [d_laws_toStringS_L1] at h
    refine AWr_succ fun N1 hN1 hS1 => ?_
    obtain ⟨h29, h⟩ := den_ok h
    obtain ⟨x30, h31, h⟩ := den_bind h
    have t := ih1 (i1 + 1) ((w1_0).set i1 x1_) (drop_cons hd1).2.2 h
    refine AW_go (n := 2000) [[some (9, 1)]] [.b true, .row (tx x1_), .ix i1, .row [D.str (x30)], .cn [0, 3, 4] [0]] (.cont 0 ⟨[(0, D.sl ((a0_).map tx)), (3, D.acc 0), (4, D.int .i64 (IntKind.i64.wrap (((i1 : Int)) + (1))))], [Ob.row .uq 9 1 (((w1_0).map tx).set i1 [D.str (x1_)])]⟩) hΓ mix (by kernel_rfl) (ow ((ltm_true tx (drop_cons hd1).2.1)) (ow (map_row tx 1 (drop_cons hd1).1 rfl) (ow (own_ix 1 h29) (ow (show ((w1_0).map tx)[i1]? = some [D.str (x30)] from map_get tx h31) ow0)))) ?_
    refine (congrFun hS1 _).mpr ?_
    rw [i64_succ (drop_cons hd1).2.1 hm1]
    first | exact t | (simp only [List.map_append, List.map_cons, List.map_nil, List.map_set] at t ⊢; exact t)
theorem d_laws_toStringS_good {a0_ : List Bytes} {r : List Bytes} (h : d_laws_toStringS a0_ = some r) : Good Tryd.prog 48 [D.sl ((a0_).map tx)] (D.fr 9 1 ((r).map tx)) := by
  refine Good.of (c := bodyOf Tryd.f48) Tryd.func48 rfl (by decide) (by simp [Tryd.f48]) ?_
  intro hr Γ hΓ
  have hΓ : Γ.nt = 22 := hΓ
  rw [d_laws_toStringS] at h
  refine (show AW Tryd.prog Γ (bodyOf Tryd.f48) (KQ Tryd.prog Γ (fun _ _ => False) (RetQ Tryd.prog Tryd.f48 (D.fr 9 1 ((r).map tx))) []) _ from ?_)
  obtain ⟨h1, h⟩ := den_ok h
  refine AW_go (n := 2000) [[some (9, 1)]] [.cn [0, 3, 4] [0]] (.lp (dig (bodyOf Tryd.f48) [1, 1, 0, 1, 0, 0] []).1 (dig (bodyOf Tryd.f48) [1, 1, 0, 1, 0] []).2 ⟨[(0, D.sl ((a0_).map tx)), (3, D.acc 0), (4, D.int .i64 (0))], [Ob.row .uq 9 1 (List.replicate ((((a0_).map tx).length : Int)).toNat [D.str ([])])]⟩) hΓ mix (by kernel_rfl) (ow (roomM_ok h1) ow0) (AW_st (by first | rfl | (simp only [List.map_append, List.map_cons, List.map_nil, List.map_set, List.map_replicate] <;> rfl)) (AW_of_r (d_laws_toStringS_L1w hΓ (fun q1_0 h => ?_) (by have := (Rdb.sl (hr _ (List.mem_of_getElem? (i := 0) rfl))).1; simpa using this) (a0_) 0 (List.replicate ((((a0_).map tx).length : Int)).toNat ([] : Bytes)) rfl h)))
  have h := den_some h
  subst h
  exact AW_go (n := 2000) [[some (9, 1)]] [] (.ret (D.fr 9 1 ((q1_0).map tx))) hΓ mix (by kernel_rfl) ow0 rfl
def d_laws_toPattern (a0_ : Fact) : Option Fact := ((d_laws_toStringS (a0_.args)).bind fun y1 => (some ((⟨a0_.rel, y1⟩ : Fact))))
theorem d_laws_toPattern_good {a0_ : Fact} {r : Fact} (h : d_laws_toPattern a0_ = some r) : Good Tryd.prog 11 [D.agg (Fact.c a0_)] (D.agg [D.str (r.rel), D.fr 9 1 ((r.args).map tx)]) := by
  refine Good.of (c := bodyOf Tryd.f11) Tryd.func11 rfl (by decide) (by simp [Tryd.f11]) ?_
  intro hr Γ hΓ
  have hΓ : Γ.nt = 12 := hΓ
  rw [d_laws_toPattern] at h
  refine (show AW Tryd.prog Γ (bodyOf Tryd.f11) (KQ Tryd.prog Γ (fun _ _ => False) (RetQ Tryd.prog Tryd.f11 (D.agg [D.str (r.rel), D.fr 9 1 ((r.args).map tx)])) []) _ from ?_)
  obtain ⟨y1, h2, h⟩ := den_bind h
  have h := den_some h
  subst h
  exact AW_go (n := 2000) [[none, some (9, 1)]] [.d (D.fr 9 1 ((y1).map tx))] (.ret (D.agg [D.str (a0_.rel), D.fr 9 1 ((y1).map tx)])) hΓ mix (by kernel_rfl) (ow (d_laws_toStringS_good h2) ow0) rfl
def d_laws_toCond (a0_ : Cond) : Option Cond := ((d_laws_toPattern (a0_.pat)).bind fun y1 => (some ((⟨a0_.kind, y1, a0_.left, a0_.right⟩ : Cond))))
theorem d_laws_toCond_good {a0_ : Cond} {r : Cond} (h : d_laws_toCond a0_ = some r) : Good Tryd.prog 99 [D.agg (Cond.c a0_)] (D.agg [D.int .i64 (r.kind), D.str (r.pat.rel), D.fr 9 1 ((r.pat.args).map tx), D.str (r.left), D.str (r.right)]) := by
  refine Good.of (c := bodyOf Tryd.f99) Tryd.func99 rfl (by decide) (by simp [Tryd.f99]) ?_
  intro hr Γ hΓ
  have hΓ : Γ.nt = 18 := hΓ
  rw [d_laws_toCond] at h
  refine (show AW Tryd.prog Γ (bodyOf Tryd.f99) (KQ Tryd.prog Γ (fun _ _ => False) (RetQ Tryd.prog Tryd.f99 (D.agg [D.int .i64 (r.kind), D.str (r.pat.rel), D.fr 9 1 ((r.pat.args).map tx), D.str (r.left), D.str (r.right)])) []) _ from ?_)
  obtain ⟨y1, h2, h⟩ := den_bind h
  have h := den_some h
  subst h
  exact AW_go (n := 2000) [[none, none, some (9, 1), none, none]] [.d (D.agg [D.str (y1.rel), D.fr 9 1 ((y1.args).map tx)])] (.ret (D.agg [D.int .i64 (a0_.kind), D.str (y1.rel), D.fr 9 1 ((y1.args).map tx), D.str (a0_.left), D.str (a0_.right)])) hΓ mix (by kernel_rfl) (ow (d_laws_toPattern_good h2) ow0) rfl
def d_laws_toCondS_L1 (a0_ : List Cond) (k1 : List Cond → Option (List Cond)) : List Cond → Nat → List Cond → Option (List Cond)
  | [], i1, w1_0 => (k1 (w1_0))
  | x1_ :: xs1, i1, w1_0 => ((d_laws_toCond (x1_)).bind fun y41 => (bif decide (i1 < ((w1_0).map Cond.c).length) then (((w1_0)[i1]?).bind fun x44 => (d_laws_toCondS_L1 a0_ k1 xs1 (i1 + 1) ((w1_0).set i1 y41))) else none))
def d_laws_toCondS (a0_ : List Cond) : Option (List Cond) := (bif roomM ((((a0_).map Cond.c).length : Int)) 80 then (d_laws_toCondS_L1 a0_ (fun (q1_0 : List Cond) => (some (q1_0))) (a0_) 0 (List.replicate ((((a0_).map Cond.c).length : Int)).toNat (⟨(0 : Int), (⟨([] : Bytes), []⟩ : Fact), ([] : Bytes), ([] : Bytes)⟩ : Cond))) else none)
theorem d_laws_toCondS_L1w {Γ : Ctx} (hΓ : Γ.nt = 23) {N : Nat → St → Prop} {a0_ : List Cond} {r : List Cond} {k1 : List Cond → Option (List Cond)} (hE1 : ∀ (q1_0 : List Cond), k1 q1_0 = some r → AW Tryd.prog Γ (dig (bodyOf Tryd.f56) [1, 1, 1] []).1 (KQ Tryd.prog Γ N (RetQ Tryd.prog Tryd.f56 (D.fr 88 5 ((r).map Cond.c))) (dig (bodyOf Tryd.f56) [1, 1, 1] []).2) ⟨[(3, D.acc 0)], [Ob.row .uq 88 5 ((q1_0).map Cond.c)]⟩) (hm1 : (a0_).length ≤ maxLen) : ∀ (rest : List Cond) (i1 : Nat) (w1_0 : List Cond), (a0_).drop i1 = rest → d_laws_toCondS_L1 a0_ k1 rest i1 w1_0 = some r → AWr Tryd.prog Γ (dig (bodyOf Tryd.f56) [1, 1, 0, 1, 0, 0] []).1 (KQ Tryd.prog Γ N (RetQ Tryd.prog Tryd.f56 (D.fr 88 5 ((r).map Cond.c))) (dig (bodyOf Tryd.f56) [1, 1, 0, 1, 0] []).2) (rest.length + 1) ⟨[(0, D.sl ((a0_).map Cond.c)), (3, D.acc 0), (4, D.int .i64 ((i1 : Int)))], [Ob.row .uq 88 5 ((w1_0).map Cond.c)]⟩ := by
  intro rest
  induction rest with
  | nil =>
    intro i1 w1_0 hd1 h
    rw [d_laws_toCondS_L1] at h
    refine AWr_succ fun N1 hN1 hS1 => ?_
    have t := AW_N (N := N) (N' := N1) (K0 := (dig (bodyOf Tryd.f56) [1, 1, 0, 1, 0] []).2) (by kernel_rfl) hN1 (hE1 (w1_0) h)
    refine AW_go (n := 2000) [[some (88, 5)]] [.b false, .hl 0 [3] [0]] (.at_ (dig (bodyOf Tryd.f56) [1, 1, 1] []).1 (dig (bodyOf Tryd.f56) [1, 1, 1] []).2 ⟨[(3, D.acc 0)], [Ob.row .uq 88 5 ((w1_0).map Cond.c)]⟩) hΓ mix (by kernel_rfl) (ow ((ltm_false Cond.c (drop_nil hd1))) ow0) ?_
    first | exact t | (simp only [List.map_append, List.map_cons, List.map_nil, List.map_set] at t ⊢; exact t)
  | cons x1_ xs1 ih1 =>
    intro i1 w1_0 hd1 h
    rw [d_laws_toCondS_L1] at h
    refine AWr_succ fun N1 hN1 hS1 => ?_
    obtain ⟨y41, h42, h⟩ := den_bind h
    obtain ⟨h43, h⟩ := den_ok h
    obtain ⟨x44, h45, h⟩ := den_bind h
    have t := ih1 (i1 + 1) ((w1_0).set i1 y41) (drop_cons hd1).2.2 h
    refine AW_go (n := 2000) [[some (88, 5)]] [.b true, .row (Cond.c x1_), .d (D.agg [D.int .i64 (y41.kind), D.str (y41.pat.rel), D.fr 9 1 ((y41.pat.args).map tx), D.str (y41.left), D.str (y41.right)]), .ix i1, .row [D.int .i64 (x44.kind), D.str (x44.pat.rel), D.sl ((x44.pat.args).map tx), D.str (x44.left), D.str (x44.right)], .cn [0, 3, 4] [0]] (.cont 0 ⟨[(0, D.sl ((a0_).map Cond.c)), (3, D.acc 0), (4, D.int .i64 (IntKind.i64.wrap (((i1 : Int)) + (1))))], [Ob.row .uq 88 5 (((w1_0).map Cond.c).set i1 [D.int .i64 (y41.kind), D.str (y41.pat.rel), D.sl ((y41.pat.args).map tx), D.str (y41.left), D.str (y41.right)])]⟩) hΓ mix (by kernel_rfl) (ow ((ltm_true Cond.c (drop_cons hd1).2.1)) (ow (map_row Cond.c 5 (drop_cons hd1).1 rfl) (ow (d_laws_toCond_good h42) (ow (own_ix 5 h43) (ow (show ((w1_0).map Cond.c)[i1]? = some [D.int .i64 (x44.kind), D.str (x44.pat.rel), D.sl ((x44.pat.args).map tx), D.str (x44.left), D.str (x44.right)] from map_get Cond.c h45) ow0))))) ?_
    refine (congrFun hS1 _).mpr ?_
    rw [i64_succ (drop_cons hd1).2.1 hm1]
    first | exact t | (simp only [List.map_append, List.map_cons, List.map_nil, List.map_set] at t ⊢; exact t)
theorem d_laws_toCondS_good {a0_ : List Cond} {r : List Cond} (h : d_laws_toCondS a0_ = some r) : Good Tryd.prog 56 [D.sl ((a0_).map Cond.c)] (D.fr 88 5 ((r).map Cond.c)) := by
  refine Good.of (c := bodyOf Tryd.f56) Tryd.func56 rfl (by decide) (by simp [Tryd.f56]) ?_
  intro hr Γ hΓ
  have hΓ : Γ.nt = 23 := hΓ
  rw [d_laws_toCondS] at h
  refine (show AW Tryd.prog Γ (bodyOf Tryd.f56) (KQ Tryd.prog Γ (fun _ _ => False) (RetQ Tryd.prog Tryd.f56 (D.fr 88 5 ((r).map Cond.c))) []) _ from ?_)
  obtain ⟨h1, h⟩ := den_ok h
  refine AW_go (n := 2000) [[some (88, 5)]] [.cn [0, 3, 4] [0]] (.lp (dig (bodyOf Tryd.f56) [1, 1, 0, 1, 0, 0] []).1 (dig (bodyOf Tryd.f56) [1, 1, 0, 1, 0] []).2 ⟨[(0, D.sl ((a0_).map Cond.c)), (3, D.acc 0), (4, D.int .i64 (0))], [Ob.row .uq 88 5 (List.replicate ((((a0_).map Cond.c).length : Int)).toNat [D.int .i64 (0), D.str ([]), D.sl ([]), D.str ([]), D.str ([])])]⟩) hΓ mix (by kernel_rfl) (ow (roomM_ok h1) ow0) (AW_st (by first | rfl | (simp only [List.map_append, List.map_cons, List.map_nil, List.map_set, List.map_replicate] <;> rfl)) (AW_of_r (d_laws_toCondS_L1w hΓ (fun q1_0 h => ?_) (by have := (Rdb.sl (hr _ (List.mem_of_getElem? (i := 0) rfl))).1; simpa using this) (a0_) 0 (List.replicate ((((a0_).map Cond.c).length : Int)).toNat (⟨(0 : Int), (⟨([] : Bytes), []⟩ : Fact), ([] : Bytes), ([] : Bytes)⟩ : Cond)) rfl h)))
  have h := den_some h
  subst h
  exact AW_go (n := 2000) [[some (88, 5)]] [] (.ret (D.fr 88 5 ((q1_0).map Cond.c))) hΓ mix (by kernel_rfl) ow0 rfl
def d_laws_toAction (a0_ : Action) : Option Action := ((d_laws_toPattern (a0_.pat)).bind fun y1 => (some ((⟨a0_.kind, y1⟩ : Action))))
theorem d_laws_toAction_good {a0_ : Action} {r : Action} (h : d_laws_toAction a0_ = some r) : Good Tryd.prog 100 [D.agg (Action.c a0_)] (D.agg [D.int .i64 (r.kind), D.str (r.pat.rel), D.fr 9 1 ((r.pat.args).map tx)]) := by
  refine Good.of (c := bodyOf Tryd.f100) Tryd.func100 rfl (by decide) (by simp [Tryd.f100]) ?_
  intro hr Γ hΓ
  have hΓ : Γ.nt = 12 := hΓ
  rw [d_laws_toAction] at h
  refine (show AW Tryd.prog Γ (bodyOf Tryd.f100) (KQ Tryd.prog Γ (fun _ _ => False) (RetQ Tryd.prog Tryd.f100 (D.agg [D.int .i64 (r.kind), D.str (r.pat.rel), D.fr 9 1 ((r.pat.args).map tx)])) []) _ from ?_)
  obtain ⟨y1, h2, h⟩ := den_bind h
  have h := den_some h
  subst h
  exact AW_go (n := 2000) [[none, none, some (9, 1)]] [.d (D.agg [D.str (y1.rel), D.fr 9 1 ((y1.args).map tx)])] (.ret (D.agg [D.int .i64 (a0_.kind), D.str (y1.rel), D.fr 9 1 ((y1.args).map tx)])) hΓ mix (by kernel_rfl) (ow (d_laws_toPattern_good h2) ow0) rfl
def d_laws_toActionS_L1 (a0_ : List Action) (k1 : List Action → Option (List Action)) : List Action → Nat → List Action → Option (List Action)
  | [], i1, w1_0 => (k1 (w1_0))
  | x1_ :: xs1, i1, w1_0 => ((d_laws_toAction (x1_)).bind fun y41 => (bif decide (i1 < ((w1_0).map Action.c).length) then (((w1_0)[i1]?).bind fun x44 => (d_laws_toActionS_L1 a0_ k1 xs1 (i1 + 1) ((w1_0).set i1 y41))) else none))
def d_laws_toActionS (a0_ : List Action) : Option (List Action) := (bif roomM ((((a0_).map Action.c).length : Int)) 48 then (d_laws_toActionS_L1 a0_ (fun (q1_0 : List Action) => (some (q1_0))) (a0_) 0 (List.replicate ((((a0_).map Action.c).length : Int)).toNat (⟨(0 : Int), (⟨([] : Bytes), []⟩ : Fact)⟩ : Action))) else none)
theorem d_laws_toActionS_L1w {Γ : Ctx} (hΓ : Γ.nt = 23) {N : Nat → St → Prop} {a0_ : List Action} {r : List Action} {k1 : List Action → Option (List Action)} (hE1 : ∀ (q1_0 : List Action), k1 q1_0 = some r → AW Tryd.prog Γ (dig (bodyOf Tryd.f57) [1, 1, 1] []).1 (KQ Tryd.prog Γ N (RetQ Tryd.prog Tryd.f57 (D.fr 144 3 ((r).map Action.c))) (dig (bodyOf Tryd.f57) [1, 1, 1] []).2) ⟨[(3, D.acc 0)], [Ob.row .uq 144 3 ((q1_0).map Action.c)]⟩) (hm1 : (a0_).length ≤ maxLen) : ∀ (rest : List Action) (i1 : Nat) (w1_0 : List Action), (a0_).drop i1 = rest → d_laws_toActionS_L1 a0_ k1 rest i1 w1_0 = some r → AWr Tryd.prog Γ (dig (bodyOf Tryd.f57) [1, 1, 0, 1, 0, 0] []).1 (KQ Tryd.prog Γ N (RetQ Tryd.prog Tryd.f57 (D.fr 144 3 ((r).map Action.c))) (dig (bodyOf Tryd.f57) [1, 1, 0, 1, 0] []).2) (rest.length + 1) ⟨[(0, D.sl ((a0_).map Action.c)), (3, D.acc 0), (4, D.int .i64 ((i1 : Int)))], [Ob.row .uq 144 3 ((w1_0).map Action.c)]⟩ := by
  intro rest
  induction rest with
  | nil =>
    intro i1 w1_0 hd1 h
    rw [d_laws_toActionS_L1] at h
    refine AWr_succ fun N1 hN1 hS1 => ?_
    have t := AW_N (N := N) (N' := N1) (K0 := (dig (bodyOf Tryd.f57) [1, 1, 0, 1, 0] []).2) (by kernel_rfl) hN1 (hE1 (w1_0) h)
    refine AW_go (n := 2000) [[some (144, 3)]] [.b false, .hl 0 [3] [0]] (.at_ (dig (bodyOf Tryd.f57) [1, 1, 1] []).1 (dig (bodyOf Tryd.f57) [1, 1, 1] []).2 ⟨[(3, D.acc 0)], [Ob.row .uq 144 3 ((w1_0).map Action.c)]⟩) hΓ mix (by kernel_rfl) (ow ((ltm_false Action.c (drop_nil hd1))) ow0) ?_
    first | exact t | (simp only [List.map_append, List.map_cons, List.map_nil, List.map_set] at t ⊢; exact t)
  | cons x1_ xs1 ih1 =>
    intro i1 w1_0 hd1 h
    rw [d_laws_toActionS_L1] at h
    refine AWr_succ fun N1 hN1 hS1 => ?_
    obtain ⟨y41, h42, h⟩ := den_bind h
    obtain ⟨h43, h⟩ := den_ok h
    obtain ⟨x44, h45, h⟩ := den_bind h
    have t := ih1 (i1 + 1) ((w1_0).set i1 y41) (drop_cons hd1).2.2 h
    refine AW_go (n := 2000) [[some (144, 3)]] [.b true, .row (Action.c x1_), .d (D.agg [D.int .i64 (y41.kind), D.str (y41.pat.rel), D.fr 9 1 ((y41.pat.args).map tx)]), .ix i1, .row [D.int .i64 (x44.kind), D.str (x44.pat.rel), D.sl ((x44.pat.args).map tx)], .cn [0, 3, 4] [0]] (.cont 0 ⟨[(0, D.sl ((a0_).map Action.c)), (3, D.acc 0), (4, D.int .i64 (IntKind.i64.wrap (((i1 : Int)) + (1))))], [Ob.row .uq 144 3 (((w1_0).map Action.c).set i1 [D.int .i64 (y41.kind), D.str (y41.pat.rel), D.sl ((y41.pat.args).map tx)])]⟩) hΓ mix (by kernel_rfl) (ow ((ltm_true Action.c (drop_cons hd1).2.1)) (ow (map_row Action.c 3 (drop_cons hd1).1 rfl) (ow (d_laws_toAction_good h42) (ow (own_ix 3 h43) (ow (show ((w1_0).map Action.c)[i1]? = some [D.int .i64 (x44.kind), D.str (x44.pat.rel), D.sl ((x44.pat.args).map tx)] from map_get Action.c h45) ow0))))) ?_
    refine (congrFun hS1 _).mpr ?_
    rw [i64_succ (drop_cons hd1).2.1 hm1]
    first | exact t | (simp only [List.map_append, List.map_cons, List.map_nil, List.map_set] at t ⊢; exact t)
theorem d_laws_toActionS_good {a0_ : List Action} {r : List Action} (h : d_laws_toActionS a0_ = some r) : Good Tryd.prog 57 [D.sl ((a0_).map Action.c)] (D.fr 144 3 ((r).map Action.c)) := by
  refine Good.of (c := bodyOf Tryd.f57) Tryd.func57 rfl (by decide) (by simp [Tryd.f57]) ?_
  intro hr Γ hΓ
  have hΓ : Γ.nt = 23 := hΓ
  rw [d_laws_toActionS] at h
  refine (show AW Tryd.prog Γ (bodyOf Tryd.f57) (KQ Tryd.prog Γ (fun _ _ => False) (RetQ Tryd.prog Tryd.f57 (D.fr 144 3 ((r).map Action.c))) []) _ from ?_)
  obtain ⟨h1, h⟩ := den_ok h
  refine AW_go (n := 2000) [[some (144, 3)]] [.cn [0, 3, 4] [0]] (.lp (dig (bodyOf Tryd.f57) [1, 1, 0, 1, 0, 0] []).1 (dig (bodyOf Tryd.f57) [1, 1, 0, 1, 0] []).2 ⟨[(0, D.sl ((a0_).map Action.c)), (3, D.acc 0), (4, D.int .i64 (0))], [Ob.row .uq 144 3 (List.replicate ((((a0_).map Action.c).length : Int)).toNat [D.int .i64 (0), D.str ([]), D.sl ([])])]⟩) hΓ mix (by kernel_rfl) (ow (roomM_ok h1) ow0) (AW_st (by first | rfl | (simp only [List.map_append, List.map_cons, List.map_nil, List.map_set, List.map_replicate] <;> rfl)) (AW_of_r (d_laws_toActionS_L1w hΓ (fun q1_0 h => ?_) (by have := (Rdb.sl (hr _ (List.mem_of_getElem? (i := 0) rfl))).1; simpa using this) (a0_) 0 (List.replicate ((((a0_).map Action.c).length : Int)).toNat (⟨(0 : Int), (⟨([] : Bytes), []⟩ : Fact)⟩ : Action)) rfl h)))
  have h := den_some h
  subst h
  exact AW_go (n := 2000) [[some (144, 3)]] [] (.ret (D.fr 144 3 ((q1_0).map Action.c))) hΓ mix (by kernel_rfl) ow0 rfl
def d_laws_toRule (a0_ : Rule) : Option Rule := ((d_laws_toCondS (a0_.conds)).bind fun y1 => ((d_laws_toActionS (a0_.acts)).bind fun y3 => (some ((⟨a0_.name, a0_.prio, y1, y3⟩ : Rule)))))
theorem d_laws_toRule_good {a0_ : Rule} {r : Rule} (h : d_laws_toRule a0_ = some r) : Good Tryd.prog 18 [D.agg (Rule.c a0_)] (D.agg [D.str (r.name), D.int .i64 (r.prio), D.fr 88 5 ((r.conds).map Cond.c), D.fr 144 3 ((r.acts).map Action.c)]) := by
  refine Good.of (c := bodyOf Tryd.f18) Tryd.func18 rfl (by decide) (by simp [Tryd.f18]) ?_
  intro hr Γ hΓ
  have hΓ : Γ.nt = 19 := hΓ
  rw [d_laws_toRule] at h
  refine (show AW Tryd.prog Γ (bodyOf Tryd.f18) (KQ Tryd.prog Γ (fun _ _ => False) (RetQ Tryd.prog Tryd.f18 (D.agg [D.str (r.name), D.int .i64 (r.prio), D.fr 88 5 ((r.conds).map Cond.c), D.fr 144 3 ((r.acts).map Action.c)])) []) _ from ?_)
  obtain ⟨y1, h2, h⟩ := den_bind h
  obtain ⟨y3, h4, h⟩ := den_bind h
  have h := den_some h
  subst h
  exact AW_go (n := 2000) [[none, none, some (88, 5), some (144, 3)]] [.d (D.fr 88 5 ((y1).map Cond.c)), .d (D.fr 144 3 ((y3).map Action.c))] (.ret (D.agg [D.str (a0_.name), D.int .i64 (a0_.prio), D.fr 88 5 ((y1).map Cond.c), D.fr 144 3 ((y3).map Action.c)])) hΓ mix (by kernel_rfl) (ow (d_laws_toCondS_good h2) (ow (d_laws_toActionS_good h4) ow0)) rfl
end Go.Cx
