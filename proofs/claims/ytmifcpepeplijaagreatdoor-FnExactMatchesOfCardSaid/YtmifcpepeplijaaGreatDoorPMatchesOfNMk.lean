/- What functions of the program compute, and the walks that show it. No condition. -/
import Derived.Test.YtmifcpepeplijaaGreatDoorNData
namespace Go.Cx
open Go.RowKit Go.Proofs
set_option linter.unusedVariables false
set_option linter.unusedSimpArgs false
set_option maxRecDepth 100000
variable {Γ : Ctx} {N : Nat → St → Prop}
def d_laws_markText_L1  (k1 : Bytes → Option Bytes) : Nat → Int → Bytes → Option Bytes
  | 0, _, _ => none
  | n1 + 1, v1_0, v1_3 => (bif decide ((v1_0 : Int) > (0)) then (bif decide (0 ≤ (v1_0 : Int)) && decide (0 < (10 : Int)) then (bif decide (([UInt8.ofNat (IntKind.u8.wrap (IntKind.i64.wrap ((48) + ((v1_0 : Int) % (10))))).toNat] : Bytes).length + (v1_3 : Bytes).length ≤ maxLen) then (bif decide (0 ≤ (v1_0 : Int)) && decide (0 < (10 : Int)) then (d_laws_markText_L1  k1 n1 ((v1_0 : Int) / (10)) (([UInt8.ofNat (IntKind.u8.wrap (IntKind.i64.wrap ((48) + ((v1_0 : Int) % (10))))).toNat]) ++ (v1_3))) else none) else none) else none) else (k1 (v1_3)))
def d_laws_markText (a0_ : Int) : Option Bytes := (bif decide ((a0_ : Int) ≤ (0)) then (some ([109, 48])) else (d_laws_markText_L1  (fun (z1_3 : Bytes) => (bif decide (([109] : Bytes).length + (z1_3 : Bytes).length ≤ maxLen) then (some (([109]) ++ (z1_3))) else none)) fuel (a0_) ([])))
def d_laws_markText_S1 (v1_0 : Int) (v1_3 : Bytes) : St := ⟨[(0, D.int .i64 (v1_0)), (3, D.str (v1_3))], []⟩
theorem d_laws_markText_L1w (hΓ : Γ.nt = 20)  {r : Bytes} {k1 : Bytes → Option Bytes} (hE1 : ∀ (z1_3 : Bytes), k1 z1_3 = some r → Ax Γ N Tryz.f91 (.q [[none]] (D.str (r))) [1, 1, 1, 1] ⟨[(3, D.str (z1_3))], []⟩) : ∀ (n1 : Nat) (v1_0 : Int) (v1_3 : Bytes), d_laws_markText_L1  k1 n1 v1_0 v1_3 = some r → Ar Γ N Tryz.f91 (.q [[none]] (D.str (r))) [1, 1, 1, 0, 0] n1 (d_laws_markText_S1 v1_0 v1_3) := by
  intro n
  induction n with
  | zero => intro v1_0 v1_3 h; simp [d_laws_markText_L1] at h
  | succ n1 ih1 =>
    intro v1_0 v1_3 h
    rw [d_laws_markText_L1] at h
    refine AWr_succ fun N1 hN1 hS1 => ?_
    obtain ⟨h10, h⟩ | ⟨h10, h⟩ := den_if h
    · obtain ⟨h11, h⟩ := den_ok h
      obtain ⟨h12, h⟩ := den_ok h
      obtain ⟨h13, h⟩ := den_ok h
      exact (((((pre0.b h10).w (quo_ok .i64 h11)).w (of_decide_eq_true h12)).w (quo_ok .i64 h13)).a [.cn [0, 3] []]).cf hΓ hS1 (ih1 ((v1_0 : Int) / (10)) (([UInt8.ofNat (IntKind.u8.wrap (IntKind.i64.wrap ((48) + ((v1_0 : Int) % (10))))).toNat]) ++ (v1_3)) h)
    · exact ((pre0.b h10).a [.hl 0 [3] []]).ex hΓ hN1 (hE1 (v1_3) h)
theorem d_laws_markText_good {a0_ : Int} {r : Bytes} (h : d_laws_markText a0_ = some r) : Good Tryz.prog 91 [D.int .i64 (a0_)] (D.str (r)) := by
  refine gd Tryz.func91 [[none]] 20 fun hr Γ hΓ => ?_
  rw [d_laws_markText] at h
  obtain ⟨h1, h⟩ | ⟨h1, h⟩ := den_if h
  · cases h; exact (pre0.b h1).ret hΓ
  · refine ((pre0.b h1).a [.cn [0, 3] []]).lp hΓ (d_laws_markText_L1w hΓ (fun z1_3 h => ?_) fuel (a0_) ([]) h)
    obtain ⟨h14, h⟩ := den_ok h
    cases h; exact (pre0.w (of_decide_eq_true h14)).rts hΓ (D.str (([109]) ++ (z1_3))) (by first | rfl | (simp only [mA] <;> rfl))
def d_laws_markStringS_L1  (k1 : List Bytes → Int → Option ((List Bytes) × Int)) : List Bytes → List Bytes → Int → Option ((List Bytes) × Int)
  | [], dn1, v1_1 => (k1 (dn1) (v1_1))
  | x1_ :: xs1, dn1, v1_1 => ((d_laws_markText (v1_1)).bind fun y1 => (d_laws_markStringS_L1  k1 xs1 (dn1 ++ [y1]) (IntKind.i64.wrap ((v1_1) + (1)))))
def d_laws_markStringS (a0_ : List Bytes) (a1_ : Int) : Option ((List Bytes) × Int) := (d_laws_markStringS_L1  (fun (q1_0 : List Bytes) (z1_1 : Int) => (some ((q1_0, z1_1)))) (a0_) [] (a1_))
theorem d_laws_markStringS_L1w {Γ : Ctx} (hΓ : Γ.nt = 20) {N : Nat → St → Prop} {v0_ : Value}  {r : (List Bytes) × Int} {k1 : List Bytes → Int → Option ((List Bytes) × Int)} (hE1 : ∀ (q1_0 : List Bytes) (z1_1 : Int), k1 q1_0 z1_1 = some r → AW Tryz.prog Γ (lc Tryz.f92 [1, 1]) (KQ Tryz.prog Γ N (RetV Tryz.prog Tryz.f92 [v0_] [(1, (r.1).map tx)] (D.int .i64 (r.2))) (lk' Tryz.f92 [1, 1])) ⟨[(1, D.int .i64 (z1_1))], [Ob.lent 1 ((q1_0).map tx) (some v0_)]⟩) : ∀ (rest : List Bytes) (dn1 : List Bytes) (v1_1 : Int), (dn1).length + rest.length ≤ maxLen → d_laws_markStringS_L1  k1 rest dn1 v1_1 = some r → AWr Tryz.prog Γ (lc Tryz.f92 [1, 0, 1, 0, 0]) (KQ Tryz.prog Γ N (RetV Tryz.prog Tryz.f92 [v0_] [(1, (r.1).map tx)] (D.int .i64 (r.2))) (lk' Tryz.f92 [1, 0, 1, 0])) (rest.length + 1) ⟨[(0, D.acc 0), (1, D.int .i64 (v1_1)), (5, D.int .i64 (((dn1).length : Int)))], [Ob.lent 1 ((dn1).map tx ++ (rest).map tx) (some v0_)]⟩ := by
  intro rest
  induction rest with
  | nil =>
    intro dn1 v1_1 hm1 h
    rw [d_laws_markStringS_L1] at h
    refine AWr_succ fun N1 hN1 hS1 => ?_
    have t := AW_N (N := N) (N' := N1) (K0 := (lk' Tryz.f92 [1, 0, 1, 0])) (by kernel_rfl) hN1 (hE1 (dn1) (v1_1) h)
    refine AW_goV (n := 2000) 1 [bF, .hl 0 [1] [0]] (.at_ (lc Tryz.f92 [1, 1]) (lk' Tryz.f92 [1, 1]) ⟨[(1, D.int .i64 (v1_1))], [Ob.lent 1 ((dn1).map tx ++ (([] : List Bytes)).map tx) (some v0_)]⟩) hΓ mix (by kernel_rfl) (ow (show (decide ((((dn1).length : Int) : Int) < ((((dn1).map tx ++ (([] : List Bytes)).map tx).length : Int)))) = false from (ge_mid _)) ow0) ?_
    refine AW_st (s := ⟨[(1, D.int .i64 (v1_1))], [Ob.lent 1 ((dn1).map tx ++ (([] : List Bytes)).map tx) (some v0_)]⟩) ?_ t
    simp only [List.map_nil, List.append_nil]
  | cons x1_ xs1 ih1 =>
    intro dn1 v1_1 hm1 h
    rw [d_laws_markStringS_L1] at h
    refine AWr_succ fun N1 hN1 hS1 => ?_
    obtain ⟨y1, h2, h⟩ := den_bind h
    have t := ih1 (dn1 ++ [y1]) (IntKind.i64.wrap ((v1_1) + (1))) (by simp only [List.length_append, List.length_cons, List.length_nil] at hm1 ⊢; omega) h
    refine AW_goV (n := 2000) 1 [bT, .d (D.str (y1)), .ix ((dn1).length), .row [D.str (x1_)], .cn [0, 1, 5] [0]] (.cont 0 ⟨[(0, D.acc 0), (1, D.int .i64 (IntKind.i64.wrap ((v1_1) + (1)))), (5, D.int .i64 (IntKind.i64.wrap ((((dn1).length : Int)) + (1))))], [Ob.lent 1 (((dn1).map tx ++ ([D.str (x1_)] :: (xs1).map tx)).set (dn1).length [D.str (y1)]) (some v0_)]⟩) hΓ mix (by kernel_rfl) (ow (show (decide ((((dn1).length : Int) : Int) < ((((dn1).map tx ++ ([D.str (x1_)] :: (xs1).map tx)).length : Int)))) = true from (lt_mid _ _ _)) (ow (d_laws_markText_good h2) (ow (show (((dn1).length : Int)) = (((dn1).length : Nat) : Int) ∧ (dn1).length < ((dn1).map tx ++ ([D.str (x1_)] :: (xs1).map tx)).length from ⟨rfl, by simp only [List.length_set, List.length_append, List.length_map, List.length_cons]; omega⟩) (ow (show ((dn1).map tx ++ ([D.str (x1_)] :: (xs1).map tx))[(dn1).length]? = some [D.str (x1_)] from by (try simp only [set_mid]); exact get_mid _ _ _) ow0)))) ?_
    refine (congrFun hS1 _).mpr ?_
    rw [i64_mid (by simp only [List.length_cons] at hm1; omega)]
    simp only [set_mid]
    simp only [List.map_append, List.map_cons, List.map_nil, List.append_assoc, List.cons_append, List.nil_append, List.length_append, List.length_cons, List.length_nil] at t ⊢
    exact t
theorem d_laws_markStringS_good {a0_ : List Bytes} {a1_ : Int} {r : (List Bytes) × Int} (h : d_laws_markStringS a0_ a1_ = some r) : GoodV Tryz.prog 92 [D.acc 0, D.int .i64 (a1_)] [(1, (a0_).map tx)] [(1, (r.1).map tx)] (D.int .i64 (r.2)) := by
  refine GoodV.of (c := bodyOf Tryz.f92) Tryz.func92 rfl (by decide) (by simp [Tryz.f92]) rfl rfl ?_
  intro hr Γ hΓ vs hvs
  match vs, hvs with
  | [v0_], _ =>
  have hΓ : Γ.nt = 20 := hΓ
  rw [d_laws_markStringS] at h
  refine (show AW Tryz.prog Γ (bodyOf Tryz.f92) (KQ Tryz.prog Γ (fun _ _ => False) (RetV Tryz.prog Tryz.f92 [v0_] [(1, (r.1).map tx)] (D.int .i64 (r.2))) []) _ from ?_)
  refine AW_goV (n := 2000) 1 [.cn [0, 1, 5] [0]] (.lp (lc Tryz.f92 [1, 0, 1, 0, 0]) (lk' Tryz.f92 [1, 0, 1, 0]) ⟨[(0, D.acc 0), (1, D.int .i64 (a1_)), (5, D.int .i64 (0))], [Ob.lent 1 ((a0_).map tx) (some v0_)]⟩) hΓ mix (by kernel_rfl) ow0 (AW_st (by rfl) (AW_of_r (d_laws_markStringS_L1w hΓ (fun q1_0 z1_1 h => ?_) (a0_) [] (a1_) (by have := hr _ (List.mem_of_getElem? (i := 0) rfl); simpa using this) h)))
  have h := den_some h; subst h
  exact AW_goV (n := 2000) 1 [] (.ret (D.tup [D.int .i64 (z1_1), D.agg [D.fr 0 1 ((q1_0).map tx), D.val v0_]])) hΓ mix (by kernel_rfl) ow0 rfl
def d_laws_markCondS_L1  (k1 : List Cond → Int → Option ((List Cond) × Int)) : List Cond → List Cond → Int → Option ((List Cond) × Int)
  | [], dn1, v1_1 => (k1 (dn1) (v1_1))
  | x1_ :: xs1, dn1, v1_1 => ((d_laws_markText (IntKind.i64.wrap ((v1_1) + (1)))).bind fun y1 => ((d_laws_markStringS (x1_.pat.args) (IntKind.i64.wrap ((IntKind.i64.wrap ((v1_1) + (1))) + (1)))).bind fun y3 => ((d_laws_markText (y3.2)).bind fun y5 => ((d_laws_markText (IntKind.i64.wrap ((y3.2) + (1)))).bind fun y7 => (d_laws_markCondS_L1  k1 xs1 (dn1 ++ [(⟨v1_1, (⟨y1, y3.1⟩ : Fact), y5, y7⟩ : Cond)]) (IntKind.i64.wrap ((IntKind.i64.wrap ((y3.2) + (1))) + (1))))))))
def d_laws_markCondS (a0_ : List Cond) (a1_ : Int) : Option ((List Cond) × Int) := (d_laws_markCondS_L1  (fun (q1_0 : List Cond) (z1_1 : Int) => (some ((q1_0, z1_1)))) (a0_) [] (a1_))
theorem d_laws_markCondS_L1w {Γ : Ctx} (hΓ : Γ.nt = 53) {N : Nat → St → Prop} {v0_ : Value}  {r : (List Cond) × Int} {k1 : List Cond → Int → Option ((List Cond) × Int)} (hE1 : ∀ (q1_0 : List Cond) (z1_1 : Int), k1 q1_0 z1_1 = some r → AW Tryz.prog Γ (lc Tryz.f89 [1, 1]) (KQ Tryz.prog Γ N (RetV Tryz.prog Tryz.f89 [v0_] [(5, (r.1).map Cond.c)] (D.int .i64 (r.2))) (lk' Tryz.f89 [1, 1])) ⟨[(1, D.int .i64 (z1_1))], [Ob.lent 5 ((q1_0).map Cond.c) (some v0_)]⟩) : ∀ (rest : List Cond) (dn1 : List Cond) (v1_1 : Int), (dn1).length + rest.length ≤ maxLen → d_laws_markCondS_L1  k1 rest dn1 v1_1 = some r → AWr Tryz.prog Γ (lc Tryz.f89 [1, 0, 1, 0, 0]) (KQ Tryz.prog Γ N (RetV Tryz.prog Tryz.f89 [v0_] [(5, (r.1).map Cond.c)] (D.int .i64 (r.2))) (lk' Tryz.f89 [1, 0, 1, 0])) (rest.length + 1) ⟨[(0, D.acc 0), (1, D.int .i64 (v1_1)), (5, D.int .i64 (((dn1).length : Int)))], [Ob.lent 5 ((dn1).map Cond.c ++ (rest).map Cond.c) (some v0_)]⟩ := by
  intro rest
  induction rest with
  | nil =>
    intro dn1 v1_1 hm1 h
    rw [d_laws_markCondS_L1] at h
    refine AWr_succ fun N1 hN1 hS1 => ?_
    have t := AW_N (N := N) (N' := N1) (K0 := (lk' Tryz.f89 [1, 0, 1, 0])) (by kernel_rfl) hN1 (hE1 (dn1) (v1_1) h)
    refine AW_goV (n := 2000) 1 [bF, .hl 0 [1] [0]] (.at_ (lc Tryz.f89 [1, 1]) (lk' Tryz.f89 [1, 1]) ⟨[(1, D.int .i64 (v1_1))], [Ob.lent 5 ((dn1).map Cond.c ++ (([] : List Cond)).map Cond.c) (some v0_)]⟩) hΓ mix (by kernel_rfl) (ow (show (decide ((((dn1).length : Int) : Int) < ((((dn1).map Cond.c ++ (([] : List Cond)).map Cond.c).length : Int)))) = false from (ge_mid _)) ow0) ?_
    refine AW_st (s := ⟨[(1, D.int .i64 (v1_1))], [Ob.lent 5 ((dn1).map Cond.c ++ (([] : List Cond)).map Cond.c) (some v0_)]⟩) ?_ t
    simp only [List.map_nil, List.append_nil]
  | cons x1_ xs1 ih1 =>
    intro dn1 v1_1 hm1 h
    rw [d_laws_markCondS_L1] at h
    refine AWr_succ fun N1 hN1 hS1 => ?_
    obtain ⟨y1, h2, h⟩ := den_bind h
    obtain ⟨y3, h4, h⟩ := den_bind h
    obtain ⟨y5, h6, h⟩ := den_bind h
    obtain ⟨y7, h8, h⟩ := den_bind h
    have t := ih1 (dn1 ++ [(⟨v1_1, (⟨y1, y3.1⟩ : Fact), y5, y7⟩ : Cond)]) (IntKind.i64.wrap ((IntKind.i64.wrap ((y3.2) + (1))) + (1))) (by simp only [List.length_append, List.length_cons, List.length_nil] at hm1 ⊢; omega) h
    refine AW_goV (n := 2000) 1 [bT, .ix ((dn1).length), .row [D.int .i64 (x1_.kind), D.str (x1_.pat.rel), D.sl ((x1_.pat.args).map tx), D.str (x1_.left), D.str (x1_.right)], .d (D.str (y1)), .ix ((dn1).length), .row [D.int .i64 (v1_1), D.str (x1_.pat.rel), D.sl ((x1_.pat.args).map tx), D.str (x1_.left), D.str (x1_.right)], .ix ((dn1).length), .row [D.int .i64 (v1_1), D.str (y1), D.sl ((x1_.pat.args).map tx), D.str (x1_.left), D.str (x1_.right)], .gv [1] [(1, (y3.1).map tx)] (D.int .i64 (y3.2)), .mg 0 (dn1).length 2 [D.int .i64 (v1_1), D.str (y1), D.any, D.str (x1_.left), D.str (x1_.right)], .d (D.str (y5)), .ix ((dn1).length), .row [D.int .i64 (v1_1), D.str (y1), D.sl ((y3.1).map tx), D.str (x1_.left), D.str (x1_.right)], .d (D.str (y7)), .ix ((dn1).length), .row [D.int .i64 (v1_1), D.str (y1), D.sl ((y3.1).map tx), D.str (y5), D.str (x1_.right)], .cn [0, 1, 5] [0]] (.cont 0 ⟨[(0, D.acc 0), (1, D.int .i64 (IntKind.i64.wrap ((IntKind.i64.wrap ((y3.2) + (1))) + (1)))), (5, D.int .i64 (IntKind.i64.wrap ((((dn1).length : Int)) + (1))))], [Ob.lent 5 ((((((((dn1).map Cond.c ++ ([D.int .i64 (x1_.kind), D.str (x1_.pat.rel), D.sl ((x1_.pat.args).map tx), D.str (x1_.left), D.str (x1_.right)] :: (xs1).map Cond.c)).set (dn1).length [D.int .i64 (v1_1), D.str (x1_.pat.rel), D.sl ((x1_.pat.args).map tx), D.str (x1_.left), D.str (x1_.right)]).set (dn1).length [D.int .i64 (v1_1), D.str (y1), D.sl ((x1_.pat.args).map tx), D.str (x1_.left), D.str (x1_.right)]).set (dn1).length [D.int .i64 (v1_1), D.str (y1), D.any, D.str (x1_.left), D.str (x1_.right)]).set (dn1).length [D.int .i64 (v1_1), D.str (y1), D.sl ((y3.1).map tx), D.str (x1_.left), D.str (x1_.right)]).set (dn1).length [D.int .i64 (v1_1), D.str (y1), D.sl ((y3.1).map tx), D.str (y5), D.str (x1_.right)]).set (dn1).length [D.int .i64 (v1_1), D.str (y1), D.sl ((y3.1).map tx), D.str (y5), D.str (y7)]) (some v0_)]⟩) hΓ mix (by kernel_rfl) (ow (show (decide ((((dn1).length : Int) : Int) < ((((dn1).map Cond.c ++ ([D.int .i64 (x1_.kind), D.str (x1_.pat.rel), D.sl ((x1_.pat.args).map tx), D.str (x1_.left), D.str (x1_.right)] :: (xs1).map Cond.c)).length : Int)))) = true from (lt_mid _ _ _)) (ow (show (((dn1).length : Int)) = (((dn1).length : Nat) : Int) ∧ (dn1).length < ((dn1).map Cond.c ++ ([D.int .i64 (x1_.kind), D.str (x1_.pat.rel), D.sl ((x1_.pat.args).map tx), D.str (x1_.left), D.str (x1_.right)] :: (xs1).map Cond.c)).length from ⟨rfl, by simp only [List.length_set, List.length_append, List.length_map, List.length_cons]; omega⟩) (ow (show ((dn1).map Cond.c ++ ([D.int .i64 (x1_.kind), D.str (x1_.pat.rel), D.sl ((x1_.pat.args).map tx), D.str (x1_.left), D.str (x1_.right)] :: (xs1).map Cond.c))[(dn1).length]? = some [D.int .i64 (x1_.kind), D.str (x1_.pat.rel), D.sl ((x1_.pat.args).map tx), D.str (x1_.left), D.str (x1_.right)] from by (try simp only [set_mid]); exact get_mid _ _ _) (ow (d_laws_markText_good h2) (ow (show (((dn1).length : Int)) = (((dn1).length : Nat) : Int) ∧ (dn1).length < (((dn1).map Cond.c ++ ([D.int .i64 (x1_.kind), D.str (x1_.pat.rel), D.sl ((x1_.pat.args).map tx), D.str (x1_.left), D.str (x1_.right)] :: (xs1).map Cond.c)).set (dn1).length [D.int .i64 (v1_1), D.str (x1_.pat.rel), D.sl ((x1_.pat.args).map tx), D.str (x1_.left), D.str (x1_.right)]).length from ⟨rfl, by simp only [List.length_set, List.length_append, List.length_map, List.length_cons]; omega⟩) (ow (show (((dn1).map Cond.c ++ ([D.int .i64 (x1_.kind), D.str (x1_.pat.rel), D.sl ((x1_.pat.args).map tx), D.str (x1_.left), D.str (x1_.right)] :: (xs1).map Cond.c)).set (dn1).length [D.int .i64 (v1_1), D.str (x1_.pat.rel), D.sl ((x1_.pat.args).map tx), D.str (x1_.left), D.str (x1_.right)])[(dn1).length]? = some [D.int .i64 (v1_1), D.str (x1_.pat.rel), D.sl ((x1_.pat.args).map tx), D.str (x1_.left), D.str (x1_.right)] from by (try simp only [set_mid]); exact get_mid _ _ _) (ow (show (((dn1).length : Int)) = (((dn1).length : Nat) : Int) ∧ (dn1).length < ((((dn1).map Cond.c ++ ([D.int .i64 (x1_.kind), D.str (x1_.pat.rel), D.sl ((x1_.pat.args).map tx), D.str (x1_.left), D.str (x1_.right)] :: (xs1).map Cond.c)).set (dn1).length [D.int .i64 (v1_1), D.str (x1_.pat.rel), D.sl ((x1_.pat.args).map tx), D.str (x1_.left), D.str (x1_.right)]).set (dn1).length [D.int .i64 (v1_1), D.str (y1), D.sl ((x1_.pat.args).map tx), D.str (x1_.left), D.str (x1_.right)]).length from ⟨rfl, by simp only [List.length_set, List.length_append, List.length_map, List.length_cons]; omega⟩) (ow (show ((((dn1).map Cond.c ++ ([D.int .i64 (x1_.kind), D.str (x1_.pat.rel), D.sl ((x1_.pat.args).map tx), D.str (x1_.left), D.str (x1_.right)] :: (xs1).map Cond.c)).set (dn1).length [D.int .i64 (v1_1), D.str (x1_.pat.rel), D.sl ((x1_.pat.args).map tx), D.str (x1_.left), D.str (x1_.right)]).set (dn1).length [D.int .i64 (v1_1), D.str (y1), D.sl ((x1_.pat.args).map tx), D.str (x1_.left), D.str (x1_.right)])[(dn1).length]? = some [D.int .i64 (v1_1), D.str (y1), D.sl ((x1_.pat.args).map tx), D.str (x1_.left), D.str (x1_.right)] from by (try simp only [set_mid]); exact get_mid _ _ _) (ow (show ∀ q ∈ ((x1_.pat.args).map tx), q.length = 1 from by simp) (ow (d_laws_markStringS_good h4) (ow (show (((((dn1).map Cond.c ++ ([D.int .i64 (x1_.kind), D.str (x1_.pat.rel), D.sl ((x1_.pat.args).map tx), D.str (x1_.left), D.str (x1_.right)] :: (xs1).map Cond.c)).set (dn1).length [D.int .i64 (v1_1), D.str (x1_.pat.rel), D.sl ((x1_.pat.args).map tx), D.str (x1_.left), D.str (x1_.right)]).set (dn1).length [D.int .i64 (v1_1), D.str (y1), D.sl ((x1_.pat.args).map tx), D.str (x1_.left), D.str (x1_.right)]).set (dn1).length [D.int .i64 (v1_1), D.str (y1), D.any, D.str (x1_.left), D.str (x1_.right)])[(dn1).length]? = some [D.int .i64 (v1_1), D.str (y1), D.any, D.str (x1_.left), D.str (x1_.right)] from by (try simp only [set_mid]); exact get_mid _ _ _) (ow (show ((dn1).length * 5 + 2) = (dn1).length * 5 + 2 from rfl) (ow (d_laws_markText_good h6) (ow (show (((dn1).length : Int)) = (((dn1).length : Nat) : Int) ∧ (dn1).length < ((((((dn1).map Cond.c ++ ([D.int .i64 (x1_.kind), D.str (x1_.pat.rel), D.sl ((x1_.pat.args).map tx), D.str (x1_.left), D.str (x1_.right)] :: (xs1).map Cond.c)).set (dn1).length [D.int .i64 (v1_1), D.str (x1_.pat.rel), D.sl ((x1_.pat.args).map tx), D.str (x1_.left), D.str (x1_.right)]).set (dn1).length [D.int .i64 (v1_1), D.str (y1), D.sl ((x1_.pat.args).map tx), D.str (x1_.left), D.str (x1_.right)]).set (dn1).length [D.int .i64 (v1_1), D.str (y1), D.any, D.str (x1_.left), D.str (x1_.right)]).set (dn1).length [D.int .i64 (v1_1), D.str (y1), D.sl ((y3.1).map tx), D.str (x1_.left), D.str (x1_.right)]).length from ⟨rfl, by simp only [List.length_set, List.length_append, List.length_map, List.length_cons]; omega⟩) (ow (show ((((((dn1).map Cond.c ++ ([D.int .i64 (x1_.kind), D.str (x1_.pat.rel), D.sl ((x1_.pat.args).map tx), D.str (x1_.left), D.str (x1_.right)] :: (xs1).map Cond.c)).set (dn1).length [D.int .i64 (v1_1), D.str (x1_.pat.rel), D.sl ((x1_.pat.args).map tx), D.str (x1_.left), D.str (x1_.right)]).set (dn1).length [D.int .i64 (v1_1), D.str (y1), D.sl ((x1_.pat.args).map tx), D.str (x1_.left), D.str (x1_.right)]).set (dn1).length [D.int .i64 (v1_1), D.str (y1), D.any, D.str (x1_.left), D.str (x1_.right)]).set (dn1).length [D.int .i64 (v1_1), D.str (y1), D.sl ((y3.1).map tx), D.str (x1_.left), D.str (x1_.right)])[(dn1).length]? = some [D.int .i64 (v1_1), D.str (y1), D.sl ((y3.1).map tx), D.str (x1_.left), D.str (x1_.right)] from by (try simp only [set_mid]); exact get_mid _ _ _) (ow (d_laws_markText_good h8) (ow (show (((dn1).length : Int)) = (((dn1).length : Nat) : Int) ∧ (dn1).length < (((((((dn1).map Cond.c ++ ([D.int .i64 (x1_.kind), D.str (x1_.pat.rel), D.sl ((x1_.pat.args).map tx), D.str (x1_.left), D.str (x1_.right)] :: (xs1).map Cond.c)).set (dn1).length [D.int .i64 (v1_1), D.str (x1_.pat.rel), D.sl ((x1_.pat.args).map tx), D.str (x1_.left), D.str (x1_.right)]).set (dn1).length [D.int .i64 (v1_1), D.str (y1), D.sl ((x1_.pat.args).map tx), D.str (x1_.left), D.str (x1_.right)]).set (dn1).length [D.int .i64 (v1_1), D.str (y1), D.any, D.str (x1_.left), D.str (x1_.right)]).set (dn1).length [D.int .i64 (v1_1), D.str (y1), D.sl ((y3.1).map tx), D.str (x1_.left), D.str (x1_.right)]).set (dn1).length [D.int .i64 (v1_1), D.str (y1), D.sl ((y3.1).map tx), D.str (y5), D.str (x1_.right)]).length from ⟨rfl, by simp only [List.length_set, List.length_append, List.length_map, List.length_cons]; omega⟩) (ow (show (((((((dn1).map Cond.c ++ ([D.int .i64 (x1_.kind), D.str (x1_.pat.rel), D.sl ((x1_.pat.args).map tx), D.str (x1_.left), D.str (x1_.right)] :: (xs1).map Cond.c)).set (dn1).length [D.int .i64 (v1_1), D.str (x1_.pat.rel), D.sl ((x1_.pat.args).map tx), D.str (x1_.left), D.str (x1_.right)]).set (dn1).length [D.int .i64 (v1_1), D.str (y1), D.sl ((x1_.pat.args).map tx), D.str (x1_.left), D.str (x1_.right)]).set (dn1).length [D.int .i64 (v1_1), D.str (y1), D.any, D.str (x1_.left), D.str (x1_.right)]).set (dn1).length [D.int .i64 (v1_1), D.str (y1), D.sl ((y3.1).map tx), D.str (x1_.left), D.str (x1_.right)]).set (dn1).length [D.int .i64 (v1_1), D.str (y1), D.sl ((y3.1).map tx), D.str (y5), D.str (x1_.right)])[(dn1).length]? = some [D.int .i64 (v1_1), D.str (y1), D.sl ((y3.1).map tx), D.str (y5), D.str (x1_.right)] from by (try simp only [set_mid]); exact get_mid _ _ _) ow0)))))))))))))))))) ?_
    refine (congrFun hS1 _).mpr ?_
    rw [i64_mid (by simp only [List.length_cons] at hm1; omega)]
    simp only [set_mid]
    simp only [List.map_append, List.map_cons, List.map_nil, List.append_assoc, List.cons_append, List.nil_append, List.length_append, List.length_cons, List.length_nil] at t ⊢
    exact t
theorem d_laws_markCondS_good {a0_ : List Cond} {a1_ : Int} {r : (List Cond) × Int} (h : d_laws_markCondS a0_ a1_ = some r) : GoodV Tryz.prog 89 [D.acc 0, D.int .i64 (a1_)] [(5, (a0_).map Cond.c)] [(5, (r.1).map Cond.c)] (D.int .i64 (r.2)) := by
  refine GoodV.of (c := bodyOf Tryz.f89) Tryz.func89 rfl (by decide) (by simp [Tryz.f89]) rfl rfl ?_
  intro hr Γ hΓ vs hvs
  match vs, hvs with
  | [v0_], _ =>
  have hΓ : Γ.nt = 53 := hΓ
  rw [d_laws_markCondS] at h
  refine (show AW Tryz.prog Γ (bodyOf Tryz.f89) (KQ Tryz.prog Γ (fun _ _ => False) (RetV Tryz.prog Tryz.f89 [v0_] [(5, (r.1).map Cond.c)] (D.int .i64 (r.2))) []) _ from ?_)
  refine AW_goV (n := 2000) 1 [.cn [0, 1, 5] [0]] (.lp (lc Tryz.f89 [1, 0, 1, 0, 0]) (lk' Tryz.f89 [1, 0, 1, 0]) ⟨[(0, D.acc 0), (1, D.int .i64 (a1_)), (5, D.int .i64 (0))], [Ob.lent 5 ((a0_).map Cond.c) (some v0_)]⟩) hΓ mix (by kernel_rfl) ow0 (AW_st (by rfl) (AW_of_r (d_laws_markCondS_L1w hΓ (fun q1_0 z1_1 h => ?_) (a0_) [] (a1_) (by have := hr _ (List.mem_of_getElem? (i := 0) rfl); simpa using this) h)))
  have h := den_some h; subst h
  exact AW_goV (n := 2000) 1 [] (.ret (D.tup [D.int .i64 (z1_1), D.agg [D.fr 0 5 ((q1_0).map Cond.c), D.val v0_]])) hΓ mix (by kernel_rfl) ow0 rfl
def d_laws_markActionS_L1  (k1 : List Action → Int → Option ((List Action) × Int)) : List Action → List Action → Int → Option ((List Action) × Int)
  | [], dn1, v1_1 => (k1 (dn1) (v1_1))
  | x1_ :: xs1, dn1, v1_1 => ((d_laws_markText (IntKind.i64.wrap ((v1_1) + (1)))).bind fun y1 => ((d_laws_markStringS (x1_.pat.args) (IntKind.i64.wrap ((IntKind.i64.wrap ((v1_1) + (1))) + (1)))).bind fun y3 => (d_laws_markActionS_L1  k1 xs1 (dn1 ++ [(⟨v1_1, (⟨y1, y3.1⟩ : Fact)⟩ : Action)]) (y3.2))))
def d_laws_markActionS (a0_ : List Action) (a1_ : Int) : Option ((List Action) × Int) := (d_laws_markActionS_L1  (fun (q1_0 : List Action) (z1_1 : Int) => (some ((q1_0, z1_1)))) (a0_) [] (a1_))
theorem d_laws_markActionS_L1w {Γ : Ctx} (hΓ : Γ.nt = 37) {N : Nat → St → Prop} {v0_ : Value}  {r : (List Action) × Int} {k1 : List Action → Int → Option ((List Action) × Int)} (hE1 : ∀ (q1_0 : List Action) (z1_1 : Int), k1 q1_0 z1_1 = some r → AW Tryz.prog Γ (lc Tryz.f90 [1, 1]) (KQ Tryz.prog Γ N (RetV Tryz.prog Tryz.f90 [v0_] [(3, (r.1).map Action.c)] (D.int .i64 (r.2))) (lk' Tryz.f90 [1, 1])) ⟨[(1, D.int .i64 (z1_1))], [Ob.lent 3 ((q1_0).map Action.c) (some v0_)]⟩) : ∀ (rest : List Action) (dn1 : List Action) (v1_1 : Int), (dn1).length + rest.length ≤ maxLen → d_laws_markActionS_L1  k1 rest dn1 v1_1 = some r → AWr Tryz.prog Γ (lc Tryz.f90 [1, 0, 1, 0, 0]) (KQ Tryz.prog Γ N (RetV Tryz.prog Tryz.f90 [v0_] [(3, (r.1).map Action.c)] (D.int .i64 (r.2))) (lk' Tryz.f90 [1, 0, 1, 0])) (rest.length + 1) ⟨[(0, D.acc 0), (1, D.int .i64 (v1_1)), (5, D.int .i64 (((dn1).length : Int)))], [Ob.lent 3 ((dn1).map Action.c ++ (rest).map Action.c) (some v0_)]⟩ := by
  intro rest
  induction rest with
  | nil =>
    intro dn1 v1_1 hm1 h
    rw [d_laws_markActionS_L1] at h
    refine AWr_succ fun N1 hN1 hS1 => ?_
    have t := AW_N (N := N) (N' := N1) (K0 := (lk' Tryz.f90 [1, 0, 1, 0])) (by kernel_rfl) hN1 (hE1 (dn1) (v1_1) h)
    refine AW_goV (n := 2000) 1 [bF, .hl 0 [1] [0]] (.at_ (lc Tryz.f90 [1, 1]) (lk' Tryz.f90 [1, 1]) ⟨[(1, D.int .i64 (v1_1))], [Ob.lent 3 ((dn1).map Action.c ++ (([] : List Action)).map Action.c) (some v0_)]⟩) hΓ mix (by kernel_rfl) (ow (show (decide ((((dn1).length : Int) : Int) < ((((dn1).map Action.c ++ (([] : List Action)).map Action.c).length : Int)))) = false from (ge_mid _)) ow0) ?_
    refine AW_st (s := ⟨[(1, D.int .i64 (v1_1))], [Ob.lent 3 ((dn1).map Action.c ++ (([] : List Action)).map Action.c) (some v0_)]⟩) ?_ t
    simp only [List.map_nil, List.append_nil]
  | cons x1_ xs1 ih1 =>
    intro dn1 v1_1 hm1 h
    rw [d_laws_markActionS_L1] at h
    refine AWr_succ fun N1 hN1 hS1 => ?_
    obtain ⟨y1, h2, h⟩ := den_bind h
    obtain ⟨y3, h4, h⟩ := den_bind h
    have t := ih1 (dn1 ++ [(⟨v1_1, (⟨y1, y3.1⟩ : Fact)⟩ : Action)]) (y3.2) (by simp only [List.length_append, List.length_cons, List.length_nil] at hm1 ⊢; omega) h
    refine AW_goV (n := 2000) 1 [bT, .ix ((dn1).length), .row [D.int .i64 (x1_.kind), D.str (x1_.pat.rel), D.sl ((x1_.pat.args).map tx)], .d (D.str (y1)), .ix ((dn1).length), .row [D.int .i64 (v1_1), D.str (x1_.pat.rel), D.sl ((x1_.pat.args).map tx)], .ix ((dn1).length), .row [D.int .i64 (v1_1), D.str (y1), D.sl ((x1_.pat.args).map tx)], .gv [1] [(1, (y3.1).map tx)] (D.int .i64 (y3.2)), .mg 0 (dn1).length 2 [D.int .i64 (v1_1), D.str (y1), D.any], .cn [0, 1, 5] [0]] (.cont 0 ⟨[(0, D.acc 0), (1, D.int .i64 (y3.2)), (5, D.int .i64 (IntKind.i64.wrap ((((dn1).length : Int)) + (1))))], [Ob.lent 3 ((((((dn1).map Action.c ++ ([D.int .i64 (x1_.kind), D.str (x1_.pat.rel), D.sl ((x1_.pat.args).map tx)] :: (xs1).map Action.c)).set (dn1).length [D.int .i64 (v1_1), D.str (x1_.pat.rel), D.sl ((x1_.pat.args).map tx)]).set (dn1).length [D.int .i64 (v1_1), D.str (y1), D.sl ((x1_.pat.args).map tx)]).set (dn1).length [D.int .i64 (v1_1), D.str (y1), D.any]).set (dn1).length [D.int .i64 (v1_1), D.str (y1), D.sl ((y3.1).map tx)]) (some v0_)]⟩) hΓ mix (by kernel_rfl) (ow (show (decide ((((dn1).length : Int) : Int) < ((((dn1).map Action.c ++ ([D.int .i64 (x1_.kind), D.str (x1_.pat.rel), D.sl ((x1_.pat.args).map tx)] :: (xs1).map Action.c)).length : Int)))) = true from (lt_mid _ _ _)) (ow (show (((dn1).length : Int)) = (((dn1).length : Nat) : Int) ∧ (dn1).length < ((dn1).map Action.c ++ ([D.int .i64 (x1_.kind), D.str (x1_.pat.rel), D.sl ((x1_.pat.args).map tx)] :: (xs1).map Action.c)).length from ⟨rfl, by simp only [List.length_set, List.length_append, List.length_map, List.length_cons]; omega⟩) (ow (show ((dn1).map Action.c ++ ([D.int .i64 (x1_.kind), D.str (x1_.pat.rel), D.sl ((x1_.pat.args).map tx)] :: (xs1).map Action.c))[(dn1).length]? = some [D.int .i64 (x1_.kind), D.str (x1_.pat.rel), D.sl ((x1_.pat.args).map tx)] from by (try simp only [set_mid]); exact get_mid _ _ _) (ow (d_laws_markText_good h2) (ow (show (((dn1).length : Int)) = (((dn1).length : Nat) : Int) ∧ (dn1).length < (((dn1).map Action.c ++ ([D.int .i64 (x1_.kind), D.str (x1_.pat.rel), D.sl ((x1_.pat.args).map tx)] :: (xs1).map Action.c)).set (dn1).length [D.int .i64 (v1_1), D.str (x1_.pat.rel), D.sl ((x1_.pat.args).map tx)]).length from ⟨rfl, by simp only [List.length_set, List.length_append, List.length_map, List.length_cons]; omega⟩) (ow (show (((dn1).map Action.c ++ ([D.int .i64 (x1_.kind), D.str (x1_.pat.rel), D.sl ((x1_.pat.args).map tx)] :: (xs1).map Action.c)).set (dn1).length [D.int .i64 (v1_1), D.str (x1_.pat.rel), D.sl ((x1_.pat.args).map tx)])[(dn1).length]? = some [D.int .i64 (v1_1), D.str (x1_.pat.rel), D.sl ((x1_.pat.args).map tx)] from by (try simp only [set_mid]); exact get_mid _ _ _) (ow (show (((dn1).length : Int)) = (((dn1).length : Nat) : Int) ∧ (dn1).length < ((((dn1).map Action.c ++ ([D.int .i64 (x1_.kind), D.str (x1_.pat.rel), D.sl ((x1_.pat.args).map tx)] :: (xs1).map Action.c)).set (dn1).length [D.int .i64 (v1_1), D.str (x1_.pat.rel), D.sl ((x1_.pat.args).map tx)]).set (dn1).length [D.int .i64 (v1_1), D.str (y1), D.sl ((x1_.pat.args).map tx)]).length from ⟨rfl, by simp only [List.length_set, List.length_append, List.length_map, List.length_cons]; omega⟩) (ow (show ((((dn1).map Action.c ++ ([D.int .i64 (x1_.kind), D.str (x1_.pat.rel), D.sl ((x1_.pat.args).map tx)] :: (xs1).map Action.c)).set (dn1).length [D.int .i64 (v1_1), D.str (x1_.pat.rel), D.sl ((x1_.pat.args).map tx)]).set (dn1).length [D.int .i64 (v1_1), D.str (y1), D.sl ((x1_.pat.args).map tx)])[(dn1).length]? = some [D.int .i64 (v1_1), D.str (y1), D.sl ((x1_.pat.args).map tx)] from by (try simp only [set_mid]); exact get_mid _ _ _) (ow (show ∀ q ∈ ((x1_.pat.args).map tx), q.length = 1 from by simp) (ow (d_laws_markStringS_good h4) (ow (show (((((dn1).map Action.c ++ ([D.int .i64 (x1_.kind), D.str (x1_.pat.rel), D.sl ((x1_.pat.args).map tx)] :: (xs1).map Action.c)).set (dn1).length [D.int .i64 (v1_1), D.str (x1_.pat.rel), D.sl ((x1_.pat.args).map tx)]).set (dn1).length [D.int .i64 (v1_1), D.str (y1), D.sl ((x1_.pat.args).map tx)]).set (dn1).length [D.int .i64 (v1_1), D.str (y1), D.any])[(dn1).length]? = some [D.int .i64 (v1_1), D.str (y1), D.any] from by (try simp only [set_mid]); exact get_mid _ _ _) (ow (show ((dn1).length * 3 + 2) = (dn1).length * 3 + 2 from rfl) ow0)))))))))))) ?_
    refine (congrFun hS1 _).mpr ?_
    rw [i64_mid (by simp only [List.length_cons] at hm1; omega)]
    simp only [set_mid]
    simp only [List.map_append, List.map_cons, List.map_nil, List.append_assoc, List.cons_append, List.nil_append, List.length_append, List.length_cons, List.length_nil] at t ⊢
    exact t
theorem d_laws_markActionS_good {a0_ : List Action} {a1_ : Int} {r : (List Action) × Int} (h : d_laws_markActionS a0_ a1_ = some r) : GoodV Tryz.prog 90 [D.acc 0, D.int .i64 (a1_)] [(3, (a0_).map Action.c)] [(3, (r.1).map Action.c)] (D.int .i64 (r.2)) := by
  refine GoodV.of (c := bodyOf Tryz.f90) Tryz.func90 rfl (by decide) (by simp [Tryz.f90]) rfl rfl ?_
  intro hr Γ hΓ vs hvs
  match vs, hvs with
  | [v0_], _ =>
  have hΓ : Γ.nt = 37 := hΓ
  rw [d_laws_markActionS] at h
  refine (show AW Tryz.prog Γ (bodyOf Tryz.f90) (KQ Tryz.prog Γ (fun _ _ => False) (RetV Tryz.prog Tryz.f90 [v0_] [(3, (r.1).map Action.c)] (D.int .i64 (r.2))) []) _ from ?_)
  refine AW_goV (n := 2000) 1 [.cn [0, 1, 5] [0]] (.lp (lc Tryz.f90 [1, 0, 1, 0, 0]) (lk' Tryz.f90 [1, 0, 1, 0]) ⟨[(0, D.acc 0), (1, D.int .i64 (a1_)), (5, D.int .i64 (0))], [Ob.lent 3 ((a0_).map Action.c) (some v0_)]⟩) hΓ mix (by kernel_rfl) ow0 (AW_st (by rfl) (AW_of_r (d_laws_markActionS_L1w hΓ (fun q1_0 z1_1 h => ?_) (a0_) [] (a1_) (by have := hr _ (List.mem_of_getElem? (i := 0) rfl); simpa using this) h)))
  have h := den_some h; subst h
  exact AW_goV (n := 2000) 1 [] (.ret (D.tup [D.int .i64 (z1_1), D.agg [D.fr 0 3 ((q1_0).map Action.c), D.val v0_]])) hΓ mix (by kernel_rfl) ow0 rfl
def d_laws_markRule (a0_ : Rule) (a1_ : Int) : Option (Rule × Int) := ((d_laws_markCondS (a0_.conds) (a1_)).bind fun y1 => ((d_laws_markActionS (a0_.acts) (y1.2)).bind fun y3 => (some (((⟨a0_.name, a0_.prio, y1.1, y3.1⟩ : Rule), y3.2)))))
theorem d_laws_markRule_good {a0_ : Rule} {a1_ : Int} {r : Rule × Int} (h : d_laws_markRule a0_ a1_ = some r) : GoodV Tryz.prog 28 [D.agg [D.str (a0_.name), D.int .i64 (a0_.prio), D.acc 0, D.acc 1], D.int .i64 (a1_)] [(5, (a0_.conds).map Cond.c), (3, (a0_.acts).map Action.c)] [(5, (r.1.conds).map Cond.c), (3, (r.1.acts).map Action.c)] (D.int .i64 (r.2)) := by
  refine GoodV.of (c := bodyOf Tryz.f28) Tryz.func28 rfl (by decide) (by simp [Tryz.f28]) rfl rfl ?_
  intro hr Γ hΓ vs hvs
  match vs, hvs with
  | [v0_, v1_], _ =>
  have hΓ : Γ.nt = 14 := hΓ
  rw [d_laws_markRule] at h
  refine (show AW Tryz.prog Γ (bodyOf Tryz.f28) (KQ Tryz.prog Γ (fun _ _ => False) (RetV Tryz.prog Tryz.f28 [v0_, v1_] [(5, (r.1.conds).map Cond.c), (3, (r.1.acts).map Action.c)] (D.int .i64 (r.2))) []) _ from ?_)
  obtain ⟨y1, h2, h⟩ := den_bind h
  obtain ⟨y3, h4, h⟩ := den_bind h
  have h := den_some h; subst h
  exact AW_goV (n := 2000) 2 [.gv [0] [(5, (y1.1).map Cond.c)] (D.int .i64 (y1.2)), .gv [1] [(3, (y3.1).map Action.c)] (D.int .i64 (y3.2))] (.ret (D.tup [D.int .i64 (y3.2), D.agg [D.fr 0 5 ((y1.1).map Cond.c), D.val v0_], D.agg [D.fr 0 3 ((y3.1).map Action.c), D.val v1_]])) hΓ mix (by kernel_rfl) (ow (d_laws_markCondS_good h2) (ow (d_laws_markActionS_good h4) ow0)) rfl
def d_laws_markFactS_L1  (k1 : List Fact → Int → Option ((List Fact) × Int)) : List Fact → List Fact → Int → Option ((List Fact) × Int)
  | [], dn1, v1_1 => (k1 (dn1) (v1_1))
  | x1_ :: xs1, dn1, v1_1 => ((d_laws_markText (v1_1)).bind fun y1 => ((d_laws_markStringS (x1_.args) (IntKind.i64.wrap ((v1_1) + (1)))).bind fun y3 => (d_laws_markFactS_L1  k1 xs1 (dn1 ++ [(⟨y1, y3.1⟩ : Fact)]) (y3.2))))
def d_laws_markFactS (a0_ : List Fact) (a1_ : Int) : Option ((List Fact) × Int) := (d_laws_markFactS_L1  (fun (q1_0 : List Fact) (z1_1 : Int) => (some ((q1_0, z1_1)))) (a0_) [] (a1_))
theorem d_laws_markFactS_L1w {Γ : Ctx} (hΓ : Γ.nt = 28) {N : Nat → St → Prop} {v0_ : Value}  {r : (List Fact) × Int} {k1 : List Fact → Int → Option ((List Fact) × Int)} (hE1 : ∀ (q1_0 : List Fact) (z1_1 : Int), k1 q1_0 z1_1 = some r → AW Tryz.prog Γ (lc Tryz.f29 [1, 1]) (KQ Tryz.prog Γ N (RetV Tryz.prog Tryz.f29 [v0_] [(2, (r.1).map Fact.c)] (D.int .i64 (r.2))) (lk' Tryz.f29 [1, 1])) ⟨[(1, D.int .i64 (z1_1))], [Ob.lent 2 ((q1_0).map Fact.c) (some v0_)]⟩) : ∀ (rest : List Fact) (dn1 : List Fact) (v1_1 : Int), (dn1).length + rest.length ≤ maxLen → d_laws_markFactS_L1  k1 rest dn1 v1_1 = some r → AWr Tryz.prog Γ (lc Tryz.f29 [1, 0, 1, 0, 0]) (KQ Tryz.prog Γ N (RetV Tryz.prog Tryz.f29 [v0_] [(2, (r.1).map Fact.c)] (D.int .i64 (r.2))) (lk' Tryz.f29 [1, 0, 1, 0])) (rest.length + 1) ⟨[(0, D.acc 0), (1, D.int .i64 (v1_1)), (5, D.int .i64 (((dn1).length : Int)))], [Ob.lent 2 ((dn1).map Fact.c ++ (rest).map Fact.c) (some v0_)]⟩ := by
  intro rest
  induction rest with
  | nil =>
    intro dn1 v1_1 hm1 h
    rw [d_laws_markFactS_L1] at h
    refine AWr_succ fun N1 hN1 hS1 => ?_
    have t := AW_N (N := N) (N' := N1) (K0 := (lk' Tryz.f29 [1, 0, 1, 0])) (by kernel_rfl) hN1 (hE1 (dn1) (v1_1) h)
    refine AW_goV (n := 2000) 1 [bF, .hl 0 [1] [0]] (.at_ (lc Tryz.f29 [1, 1]) (lk' Tryz.f29 [1, 1]) ⟨[(1, D.int .i64 (v1_1))], [Ob.lent 2 ((dn1).map Fact.c ++ (([] : List Fact)).map Fact.c) (some v0_)]⟩) hΓ mix (by kernel_rfl) (ow (show (decide ((((dn1).length : Int) : Int) < ((((dn1).map Fact.c ++ (([] : List Fact)).map Fact.c).length : Int)))) = false from (ge_mid _)) ow0) ?_
    refine AW_st (s := ⟨[(1, D.int .i64 (v1_1))], [Ob.lent 2 ((dn1).map Fact.c ++ (([] : List Fact)).map Fact.c) (some v0_)]⟩) ?_ t
    simp only [List.map_nil, List.append_nil]
  | cons x1_ xs1 ih1 =>
    intro dn1 v1_1 hm1 h
    rw [d_laws_markFactS_L1] at h
    refine AWr_succ fun N1 hN1 hS1 => ?_
    obtain ⟨y1, h2, h⟩ := den_bind h
    obtain ⟨y3, h4, h⟩ := den_bind h
    have t := ih1 (dn1 ++ [(⟨y1, y3.1⟩ : Fact)]) (y3.2) (by simp only [List.length_append, List.length_cons, List.length_nil] at hm1 ⊢; omega) h
    refine AW_goV (n := 2000) 1 [bT, .d (D.str (y1)), .ix ((dn1).length), .row [D.str (x1_.rel), D.sl ((x1_.args).map tx)], .ix ((dn1).length), .row [D.str (y1), D.sl ((x1_.args).map tx)], .gv [1] [(1, (y3.1).map tx)] (D.int .i64 (y3.2)), .mg 0 (dn1).length 1 [D.str (y1), D.any], .cn [0, 1, 5] [0]] (.cont 0 ⟨[(0, D.acc 0), (1, D.int .i64 (y3.2)), (5, D.int .i64 (IntKind.i64.wrap ((((dn1).length : Int)) + (1))))], [Ob.lent 2 (((((dn1).map Fact.c ++ ([D.str (x1_.rel), D.sl ((x1_.args).map tx)] :: (xs1).map Fact.c)).set (dn1).length [D.str (y1), D.sl ((x1_.args).map tx)]).set (dn1).length [D.str (y1), D.any]).set (dn1).length [D.str (y1), D.sl ((y3.1).map tx)]) (some v0_)]⟩) hΓ mix (by kernel_rfl) (ow (show (decide ((((dn1).length : Int) : Int) < ((((dn1).map Fact.c ++ ([D.str (x1_.rel), D.sl ((x1_.args).map tx)] :: (xs1).map Fact.c)).length : Int)))) = true from (lt_mid _ _ _)) (ow (d_laws_markText_good h2) (ow (show (((dn1).length : Int)) = (((dn1).length : Nat) : Int) ∧ (dn1).length < ((dn1).map Fact.c ++ ([D.str (x1_.rel), D.sl ((x1_.args).map tx)] :: (xs1).map Fact.c)).length from ⟨rfl, by simp only [List.length_set, List.length_append, List.length_map, List.length_cons]; omega⟩) (ow (show ((dn1).map Fact.c ++ ([D.str (x1_.rel), D.sl ((x1_.args).map tx)] :: (xs1).map Fact.c))[(dn1).length]? = some [D.str (x1_.rel), D.sl ((x1_.args).map tx)] from by (try simp only [set_mid]); exact get_mid _ _ _) (ow (show (((dn1).length : Int)) = (((dn1).length : Nat) : Int) ∧ (dn1).length < (((dn1).map Fact.c ++ ([D.str (x1_.rel), D.sl ((x1_.args).map tx)] :: (xs1).map Fact.c)).set (dn1).length [D.str (y1), D.sl ((x1_.args).map tx)]).length from ⟨rfl, by simp only [List.length_set, List.length_append, List.length_map, List.length_cons]; omega⟩) (ow (show (((dn1).map Fact.c ++ ([D.str (x1_.rel), D.sl ((x1_.args).map tx)] :: (xs1).map Fact.c)).set (dn1).length [D.str (y1), D.sl ((x1_.args).map tx)])[(dn1).length]? = some [D.str (y1), D.sl ((x1_.args).map tx)] from by (try simp only [set_mid]); exact get_mid _ _ _) (ow (show ∀ q ∈ ((x1_.args).map tx), q.length = 1 from by simp) (ow (d_laws_markStringS_good h4) (ow (show ((((dn1).map Fact.c ++ ([D.str (x1_.rel), D.sl ((x1_.args).map tx)] :: (xs1).map Fact.c)).set (dn1).length [D.str (y1), D.sl ((x1_.args).map tx)]).set (dn1).length [D.str (y1), D.any])[(dn1).length]? = some [D.str (y1), D.any] from by (try simp only [set_mid]); exact get_mid _ _ _) (ow (show ((dn1).length * 2 + 1) = (dn1).length * 2 + 1 from rfl) ow0)))))))))) ?_
    refine (congrFun hS1 _).mpr ?_
    rw [i64_mid (by simp only [List.length_cons] at hm1; omega)]
    simp only [set_mid]
    simp only [List.map_append, List.map_cons, List.map_nil, List.append_assoc, List.cons_append, List.nil_append, List.length_append, List.length_cons, List.length_nil] at t ⊢
    exact t
theorem d_laws_markFactS_good {a0_ : List Fact} {a1_ : Int} {r : (List Fact) × Int} (h : d_laws_markFactS a0_ a1_ = some r) : GoodV Tryz.prog 29 [D.acc 0, D.int .i64 (a1_)] [(2, (a0_).map Fact.c)] [(2, (r.1).map Fact.c)] (D.int .i64 (r.2)) := by
  refine GoodV.of (c := bodyOf Tryz.f29) Tryz.func29 rfl (by decide) (by simp [Tryz.f29]) rfl rfl ?_
  intro hr Γ hΓ vs hvs
  match vs, hvs with
  | [v0_], _ =>
  have hΓ : Γ.nt = 28 := hΓ
  rw [d_laws_markFactS] at h
  refine (show AW Tryz.prog Γ (bodyOf Tryz.f29) (KQ Tryz.prog Γ (fun _ _ => False) (RetV Tryz.prog Tryz.f29 [v0_] [(2, (r.1).map Fact.c)] (D.int .i64 (r.2))) []) _ from ?_)
  refine AW_goV (n := 2000) 1 [.cn [0, 1, 5] [0]] (.lp (lc Tryz.f29 [1, 0, 1, 0, 0]) (lk' Tryz.f29 [1, 0, 1, 0]) ⟨[(0, D.acc 0), (1, D.int .i64 (a1_)), (5, D.int .i64 (0))], [Ob.lent 2 ((a0_).map Fact.c) (some v0_)]⟩) hΓ mix (by kernel_rfl) ow0 (AW_st (by rfl) (AW_of_r (d_laws_markFactS_L1w hΓ (fun q1_0 z1_1 h => ?_) (a0_) [] (a1_) (by have := hr _ (List.mem_of_getElem? (i := 0) rfl); simpa using this) h)))
  have h := den_some h; subst h
  exact AW_goV (n := 2000) 1 [] (.ret (D.tup [D.int .i64 (z1_1), D.agg [D.fr 0 2 ((q1_0).map Fact.c), D.val v0_]])) hΓ mix (by kernel_rfl) ow0 rfl
def d_laws_markPairS_L1  (k1 : List Pair → Int → Option ((List Pair) × Int)) : List Pair → List Pair → Int → Option ((List Pair) × Int)
  | [], dn1, v1_1 => (k1 (dn1) (v1_1))
  | x1_ :: xs1, dn1, v1_1 => ((d_laws_markText (v1_1)).bind fun y1 => ((d_laws_markText (IntKind.i64.wrap ((v1_1) + (1)))).bind fun y3 => (d_laws_markPairS_L1  k1 xs1 (dn1 ++ [(⟨y1, y3⟩ : Pair)]) (IntKind.i64.wrap ((IntKind.i64.wrap ((v1_1) + (1))) + (1))))))
def d_laws_markPairS (a0_ : List Pair) (a1_ : Int) : Option ((List Pair) × Int) := (d_laws_markPairS_L1  (fun (q1_0 : List Pair) (z1_1 : Int) => (some ((q1_0, z1_1)))) (a0_) [] (a1_))
theorem d_laws_markPairS_L1w {Γ : Ctx} (hΓ : Γ.nt = 29) {N : Nat → St → Prop} {v0_ : Value}  {r : (List Pair) × Int} {k1 : List Pair → Int → Option ((List Pair) × Int)} (hE1 : ∀ (q1_0 : List Pair) (z1_1 : Int), k1 q1_0 z1_1 = some r → AW Tryz.prog Γ (lc Tryz.f93 [1, 1]) (KQ Tryz.prog Γ N (RetV Tryz.prog Tryz.f93 [v0_] [(2, (r.1).map Pair.c)] (D.int .i64 (r.2))) (lk' Tryz.f93 [1, 1])) ⟨[(1, D.int .i64 (z1_1))], [Ob.lent 2 ((q1_0).map Pair.c) (some v0_)]⟩) : ∀ (rest : List Pair) (dn1 : List Pair) (v1_1 : Int), (dn1).length + rest.length ≤ maxLen → d_laws_markPairS_L1  k1 rest dn1 v1_1 = some r → AWr Tryz.prog Γ (lc Tryz.f93 [1, 0, 1, 0, 0]) (KQ Tryz.prog Γ N (RetV Tryz.prog Tryz.f93 [v0_] [(2, (r.1).map Pair.c)] (D.int .i64 (r.2))) (lk' Tryz.f93 [1, 0, 1, 0])) (rest.length + 1) ⟨[(0, D.acc 0), (1, D.int .i64 (v1_1)), (5, D.int .i64 (((dn1).length : Int)))], [Ob.lent 2 ((dn1).map Pair.c ++ (rest).map Pair.c) (some v0_)]⟩ := by
  intro rest
  induction rest with
  | nil =>
    intro dn1 v1_1 hm1 h
    rw [d_laws_markPairS_L1] at h
    refine AWr_succ fun N1 hN1 hS1 => ?_
    have t := AW_N (N := N) (N' := N1) (K0 := (lk' Tryz.f93 [1, 0, 1, 0])) (by kernel_rfl) hN1 (hE1 (dn1) (v1_1) h)
    refine AW_goV (n := 2000) 1 [bF, .hl 0 [1] [0]] (.at_ (lc Tryz.f93 [1, 1]) (lk' Tryz.f93 [1, 1]) ⟨[(1, D.int .i64 (v1_1))], [Ob.lent 2 ((dn1).map Pair.c ++ (([] : List Pair)).map Pair.c) (some v0_)]⟩) hΓ mix (by kernel_rfl) (ow (show (decide ((((dn1).length : Int) : Int) < ((((dn1).map Pair.c ++ (([] : List Pair)).map Pair.c).length : Int)))) = false from (ge_mid _)) ow0) ?_
    refine AW_st (s := ⟨[(1, D.int .i64 (v1_1))], [Ob.lent 2 ((dn1).map Pair.c ++ (([] : List Pair)).map Pair.c) (some v0_)]⟩) ?_ t
    simp only [List.map_nil, List.append_nil]
  | cons x1_ xs1 ih1 =>
    intro dn1 v1_1 hm1 h
    rw [d_laws_markPairS_L1] at h
    refine AWr_succ fun N1 hN1 hS1 => ?_
    obtain ⟨y1, h2, h⟩ := den_bind h
    obtain ⟨y3, h4, h⟩ := den_bind h
    have t := ih1 (dn1 ++ [(⟨y1, y3⟩ : Pair)]) (IntKind.i64.wrap ((IntKind.i64.wrap ((v1_1) + (1))) + (1))) (by simp only [List.length_append, List.length_cons, List.length_nil] at hm1 ⊢; omega) h
    refine AW_goV (n := 2000) 1 [bT, .d (D.str (y1)), .ix ((dn1).length), .row [D.str (x1_.var), D.str (x1_.value)], .d (D.str (y3)), .ix ((dn1).length), .row [D.str (y1), D.str (x1_.value)], .cn [0, 1, 5] [0]] (.cont 0 ⟨[(0, D.acc 0), (1, D.int .i64 (IntKind.i64.wrap ((IntKind.i64.wrap ((v1_1) + (1))) + (1)))), (5, D.int .i64 (IntKind.i64.wrap ((((dn1).length : Int)) + (1))))], [Ob.lent 2 ((((dn1).map Pair.c ++ ([D.str (x1_.var), D.str (x1_.value)] :: (xs1).map Pair.c)).set (dn1).length [D.str (y1), D.str (x1_.value)]).set (dn1).length [D.str (y1), D.str (y3)]) (some v0_)]⟩) hΓ mix (by kernel_rfl) (ow (show (decide ((((dn1).length : Int) : Int) < ((((dn1).map Pair.c ++ ([D.str (x1_.var), D.str (x1_.value)] :: (xs1).map Pair.c)).length : Int)))) = true from (lt_mid _ _ _)) (ow (d_laws_markText_good h2) (ow (show (((dn1).length : Int)) = (((dn1).length : Nat) : Int) ∧ (dn1).length < ((dn1).map Pair.c ++ ([D.str (x1_.var), D.str (x1_.value)] :: (xs1).map Pair.c)).length from ⟨rfl, by simp only [List.length_set, List.length_append, List.length_map, List.length_cons]; omega⟩) (ow (show ((dn1).map Pair.c ++ ([D.str (x1_.var), D.str (x1_.value)] :: (xs1).map Pair.c))[(dn1).length]? = some [D.str (x1_.var), D.str (x1_.value)] from by (try simp only [set_mid]); exact get_mid _ _ _) (ow (d_laws_markText_good h4) (ow (show (((dn1).length : Int)) = (((dn1).length : Nat) : Int) ∧ (dn1).length < (((dn1).map Pair.c ++ ([D.str (x1_.var), D.str (x1_.value)] :: (xs1).map Pair.c)).set (dn1).length [D.str (y1), D.str (x1_.value)]).length from ⟨rfl, by simp only [List.length_set, List.length_append, List.length_map, List.length_cons]; omega⟩) (ow (show (((dn1).map Pair.c ++ ([D.str (x1_.var), D.str (x1_.value)] :: (xs1).map Pair.c)).set (dn1).length [D.str (y1), D.str (x1_.value)])[(dn1).length]? = some [D.str (y1), D.str (x1_.value)] from by (try simp only [set_mid]); exact get_mid _ _ _) ow0))))))) ?_
    refine (congrFun hS1 _).mpr ?_
    rw [i64_mid (by simp only [List.length_cons] at hm1; omega)]
    simp only [set_mid]
    simp only [List.map_append, List.map_cons, List.map_nil, List.append_assoc, List.cons_append, List.nil_append, List.length_append, List.length_cons, List.length_nil] at t ⊢
    exact t
theorem d_laws_markPairS_good {a0_ : List Pair} {a1_ : Int} {r : (List Pair) × Int} (h : d_laws_markPairS a0_ a1_ = some r) : GoodV Tryz.prog 93 [D.acc 0, D.int .i64 (a1_)] [(2, (a0_).map Pair.c)] [(2, (r.1).map Pair.c)] (D.int .i64 (r.2)) := by
  refine GoodV.of (c := bodyOf Tryz.f93) Tryz.func93 rfl (by decide) (by simp [Tryz.f93]) rfl rfl ?_
  intro hr Γ hΓ vs hvs
  match vs, hvs with
  | [v0_], _ =>
  have hΓ : Γ.nt = 29 := hΓ
  rw [d_laws_markPairS] at h
  refine (show AW Tryz.prog Γ (bodyOf Tryz.f93) (KQ Tryz.prog Γ (fun _ _ => False) (RetV Tryz.prog Tryz.f93 [v0_] [(2, (r.1).map Pair.c)] (D.int .i64 (r.2))) []) _ from ?_)
  refine AW_goV (n := 2000) 1 [.cn [0, 1, 5] [0]] (.lp (lc Tryz.f93 [1, 0, 1, 0, 0]) (lk' Tryz.f93 [1, 0, 1, 0]) ⟨[(0, D.acc 0), (1, D.int .i64 (a1_)), (5, D.int .i64 (0))], [Ob.lent 2 ((a0_).map Pair.c) (some v0_)]⟩) hΓ mix (by kernel_rfl) ow0 (AW_st (by rfl) (AW_of_r (d_laws_markPairS_L1w hΓ (fun q1_0 z1_1 h => ?_) (a0_) [] (a1_) (by have := hr _ (List.mem_of_getElem? (i := 0) rfl); simpa using this) h)))
  have h := den_some h; subst h
  exact AW_goV (n := 2000) 1 [] (.ret (D.tup [D.int .i64 (z1_1), D.agg [D.fr 0 2 ((q1_0).map Pair.c), D.val v0_]])) hΓ mix (by kernel_rfl) ow0 rfl
def d_laws_markMatchS_L1  (k1 : List Match → Int → Option ((List Match) × Int)) : List Match → List Match → Int → Option ((List Match) × Int)
  | [], dn1, v1_1 => (k1 (dn1) (v1_1))
  | x1_ :: xs1, dn1, v1_1 => ((d_laws_markText (v1_1)).bind fun y1 => ((d_laws_markFactS (x1_.facts) (IntKind.i64.wrap ((v1_1) + (1)))).bind fun y3 => ((d_laws_markPairS (x1_.bind) (y3.2)).bind fun y5 => (d_laws_markMatchS_L1  k1 xs1 (dn1 ++ [(⟨y1, y3.1, y5.1⟩ : Match)]) (y5.2)))))
def d_laws_markMatchS (a0_ : List Match) (a1_ : Int) : Option ((List Match) × Int) := (d_laws_markMatchS_L1  (fun (q1_0 : List Match) (z1_1 : Int) => (some ((q1_0, z1_1)))) (a0_) [] (a1_))
theorem d_laws_markMatchS_L1w {Γ : Ctx} (hΓ : Γ.nt = 35) {N : Nat → St → Prop} {v0_ : Value}  {r : (List Match) × Int} {k1 : List Match → Int → Option ((List Match) × Int)} (hE1 : ∀ (q1_0 : List Match) (z1_1 : Int), k1 q1_0 z1_1 = some r → AW Tryz.prog Γ (lc Tryz.f34 [1, 1]) (KQ Tryz.prog Γ N (RetV Tryz.prog Tryz.f34 [v0_] [(3, (r.1).map Match.c)] (D.int .i64 (r.2))) (lk' Tryz.f34 [1, 1])) ⟨[(1, D.int .i64 (z1_1))], [Ob.lent 3 ((q1_0).map Match.c) (some v0_)]⟩) : ∀ (rest : List Match) (dn1 : List Match) (v1_1 : Int), (dn1).length + rest.length ≤ maxLen → d_laws_markMatchS_L1  k1 rest dn1 v1_1 = some r → AWr Tryz.prog Γ (lc Tryz.f34 [1, 0, 1, 0, 0]) (KQ Tryz.prog Γ N (RetV Tryz.prog Tryz.f34 [v0_] [(3, (r.1).map Match.c)] (D.int .i64 (r.2))) (lk' Tryz.f34 [1, 0, 1, 0])) (rest.length + 1) ⟨[(0, D.acc 0), (1, D.int .i64 (v1_1)), (5, D.int .i64 (((dn1).length : Int)))], [Ob.lent 3 ((dn1).map Match.c ++ (rest).map Match.c) (some v0_)]⟩ := by
  intro rest
  induction rest with
  | nil =>
    intro dn1 v1_1 hm1 h
    rw [d_laws_markMatchS_L1] at h
    refine AWr_succ fun N1 hN1 hS1 => ?_
    have t := AW_N (N := N) (N' := N1) (K0 := (lk' Tryz.f34 [1, 0, 1, 0])) (by kernel_rfl) hN1 (hE1 (dn1) (v1_1) h)
    refine AW_goV (n := 2000) 1 [bF, .hl 0 [1] [0]] (.at_ (lc Tryz.f34 [1, 1]) (lk' Tryz.f34 [1, 1]) ⟨[(1, D.int .i64 (v1_1))], [Ob.lent 3 ((dn1).map Match.c ++ (([] : List Match)).map Match.c) (some v0_)]⟩) hΓ mix (by kernel_rfl) (ow (show (decide ((((dn1).length : Int) : Int) < ((((dn1).map Match.c ++ (([] : List Match)).map Match.c).length : Int)))) = false from (ge_mid _)) ow0) ?_
    refine AW_st (s := ⟨[(1, D.int .i64 (v1_1))], [Ob.lent 3 ((dn1).map Match.c ++ (([] : List Match)).map Match.c) (some v0_)]⟩) ?_ t
    simp only [List.map_nil, List.append_nil]
  | cons x1_ xs1 ih1 =>
    intro dn1 v1_1 hm1 h
    rw [d_laws_markMatchS_L1] at h
    refine AWr_succ fun N1 hN1 hS1 => ?_
    obtain ⟨y1, h2, h⟩ := den_bind h
    obtain ⟨y3, h4, h⟩ := den_bind h
    obtain ⟨y5, h6, h⟩ := den_bind h
    have t := ih1 (dn1 ++ [(⟨y1, y3.1, y5.1⟩ : Match)]) (y5.2) (by simp only [List.length_append, List.length_cons, List.length_nil] at hm1 ⊢; omega) h
    refine AW_goV (n := 2000) 1 [bT, .d (D.str (y1)), .ix ((dn1).length), .row [D.str (x1_.rule), D.sl ((x1_.facts).map Fact.c), D.sl ((x1_.bind).map Pair.c)], .ix ((dn1).length), .row [D.str (y1), D.sl ((x1_.facts).map Fact.c), D.sl ((x1_.bind).map Pair.c)], .gv [1] [(2, (y3.1).map Fact.c)] (D.int .i64 (y3.2)), .mg 0 (dn1).length 1 [D.str (y1), D.any, D.sl ((x1_.bind).map Pair.c)], .ix ((dn1).length), .row [D.str (y1), D.sl ((y3.1).map Fact.c), D.sl ((x1_.bind).map Pair.c)], .gv [2] [(2, (y5.1).map Pair.c)] (D.int .i64 (y5.2)), .mg 0 (dn1).length 2 [D.str (y1), D.sl ((y3.1).map Fact.c), D.any], .cn [0, 1, 5] [0]] (.cont 0 ⟨[(0, D.acc 0), (1, D.int .i64 (y5.2)), (5, D.int .i64 (IntKind.i64.wrap ((((dn1).length : Int)) + (1))))], [Ob.lent 3 (((((((dn1).map Match.c ++ ([D.str (x1_.rule), D.sl ((x1_.facts).map Fact.c), D.sl ((x1_.bind).map Pair.c)] :: (xs1).map Match.c)).set (dn1).length [D.str (y1), D.sl ((x1_.facts).map Fact.c), D.sl ((x1_.bind).map Pair.c)]).set (dn1).length [D.str (y1), D.any, D.sl ((x1_.bind).map Pair.c)]).set (dn1).length [D.str (y1), D.sl ((y3.1).map Fact.c), D.sl ((x1_.bind).map Pair.c)]).set (dn1).length [D.str (y1), D.sl ((y3.1).map Fact.c), D.any]).set (dn1).length [D.str (y1), D.sl ((y3.1).map Fact.c), D.sl ((y5.1).map Pair.c)]) (some v0_)]⟩) hΓ mix (by kernel_rfl) (ow (show (decide ((((dn1).length : Int) : Int) < ((((dn1).map Match.c ++ ([D.str (x1_.rule), D.sl ((x1_.facts).map Fact.c), D.sl ((x1_.bind).map Pair.c)] :: (xs1).map Match.c)).length : Int)))) = true from (lt_mid _ _ _)) (ow (d_laws_markText_good h2) (ow (show (((dn1).length : Int)) = (((dn1).length : Nat) : Int) ∧ (dn1).length < ((dn1).map Match.c ++ ([D.str (x1_.rule), D.sl ((x1_.facts).map Fact.c), D.sl ((x1_.bind).map Pair.c)] :: (xs1).map Match.c)).length from ⟨rfl, by simp only [List.length_set, List.length_append, List.length_map, List.length_cons]; omega⟩) (ow (show ((dn1).map Match.c ++ ([D.str (x1_.rule), D.sl ((x1_.facts).map Fact.c), D.sl ((x1_.bind).map Pair.c)] :: (xs1).map Match.c))[(dn1).length]? = some [D.str (x1_.rule), D.sl ((x1_.facts).map Fact.c), D.sl ((x1_.bind).map Pair.c)] from by (try simp only [set_mid]); exact get_mid _ _ _) (ow (show (((dn1).length : Int)) = (((dn1).length : Nat) : Int) ∧ (dn1).length < (((dn1).map Match.c ++ ([D.str (x1_.rule), D.sl ((x1_.facts).map Fact.c), D.sl ((x1_.bind).map Pair.c)] :: (xs1).map Match.c)).set (dn1).length [D.str (y1), D.sl ((x1_.facts).map Fact.c), D.sl ((x1_.bind).map Pair.c)]).length from ⟨rfl, by simp only [List.length_set, List.length_append, List.length_map, List.length_cons]; omega⟩) (ow (show (((dn1).map Match.c ++ ([D.str (x1_.rule), D.sl ((x1_.facts).map Fact.c), D.sl ((x1_.bind).map Pair.c)] :: (xs1).map Match.c)).set (dn1).length [D.str (y1), D.sl ((x1_.facts).map Fact.c), D.sl ((x1_.bind).map Pair.c)])[(dn1).length]? = some [D.str (y1), D.sl ((x1_.facts).map Fact.c), D.sl ((x1_.bind).map Pair.c)] from by (try simp only [set_mid]); exact get_mid _ _ _) (ow (show ∀ q ∈ ((x1_.facts).map Fact.c), q.length = 2 from by simp) (ow (d_laws_markFactS_good h4) (ow (show ((((dn1).map Match.c ++ ([D.str (x1_.rule), D.sl ((x1_.facts).map Fact.c), D.sl ((x1_.bind).map Pair.c)] :: (xs1).map Match.c)).set (dn1).length [D.str (y1), D.sl ((x1_.facts).map Fact.c), D.sl ((x1_.bind).map Pair.c)]).set (dn1).length [D.str (y1), D.any, D.sl ((x1_.bind).map Pair.c)])[(dn1).length]? = some [D.str (y1), D.any, D.sl ((x1_.bind).map Pair.c)] from by (try simp only [set_mid]); exact get_mid _ _ _) (ow (show ((dn1).length * 3 + 1) = (dn1).length * 3 + 1 from rfl) (ow (show (((dn1).length : Int)) = (((dn1).length : Nat) : Int) ∧ (dn1).length < (((((dn1).map Match.c ++ ([D.str (x1_.rule), D.sl ((x1_.facts).map Fact.c), D.sl ((x1_.bind).map Pair.c)] :: (xs1).map Match.c)).set (dn1).length [D.str (y1), D.sl ((x1_.facts).map Fact.c), D.sl ((x1_.bind).map Pair.c)]).set (dn1).length [D.str (y1), D.any, D.sl ((x1_.bind).map Pair.c)]).set (dn1).length [D.str (y1), D.sl ((y3.1).map Fact.c), D.sl ((x1_.bind).map Pair.c)]).length from ⟨rfl, by simp only [List.length_set, List.length_append, List.length_map, List.length_cons]; omega⟩) (ow (show (((((dn1).map Match.c ++ ([D.str (x1_.rule), D.sl ((x1_.facts).map Fact.c), D.sl ((x1_.bind).map Pair.c)] :: (xs1).map Match.c)).set (dn1).length [D.str (y1), D.sl ((x1_.facts).map Fact.c), D.sl ((x1_.bind).map Pair.c)]).set (dn1).length [D.str (y1), D.any, D.sl ((x1_.bind).map Pair.c)]).set (dn1).length [D.str (y1), D.sl ((y3.1).map Fact.c), D.sl ((x1_.bind).map Pair.c)])[(dn1).length]? = some [D.str (y1), D.sl ((y3.1).map Fact.c), D.sl ((x1_.bind).map Pair.c)] from by (try simp only [set_mid]); exact get_mid _ _ _) (ow (show ∀ q ∈ ((x1_.bind).map Pair.c), q.length = 2 from by simp) (ow (d_laws_markPairS_good h6) (ow (show ((((((dn1).map Match.c ++ ([D.str (x1_.rule), D.sl ((x1_.facts).map Fact.c), D.sl ((x1_.bind).map Pair.c)] :: (xs1).map Match.c)).set (dn1).length [D.str (y1), D.sl ((x1_.facts).map Fact.c), D.sl ((x1_.bind).map Pair.c)]).set (dn1).length [D.str (y1), D.any, D.sl ((x1_.bind).map Pair.c)]).set (dn1).length [D.str (y1), D.sl ((y3.1).map Fact.c), D.sl ((x1_.bind).map Pair.c)]).set (dn1).length [D.str (y1), D.sl ((y3.1).map Fact.c), D.any])[(dn1).length]? = some [D.str (y1), D.sl ((y3.1).map Fact.c), D.any] from by (try simp only [set_mid]); exact get_mid _ _ _) (ow (show ((dn1).length * 3 + 2) = (dn1).length * 3 + 2 from rfl) ow0)))))))))))))))) ?_
    refine (congrFun hS1 _).mpr ?_
    rw [i64_mid (by simp only [List.length_cons] at hm1; omega)]
    simp only [set_mid]
    simp only [List.map_append, List.map_cons, List.map_nil, List.append_assoc, List.cons_append, List.nil_append, List.length_append, List.length_cons, List.length_nil] at t ⊢
    exact t
theorem d_laws_markMatchS_good {a0_ : List Match} {a1_ : Int} {r : (List Match) × Int} (h : d_laws_markMatchS a0_ a1_ = some r) : GoodV Tryz.prog 34 [D.acc 0, D.int .i64 (a1_)] [(3, (a0_).map Match.c)] [(3, (r.1).map Match.c)] (D.int .i64 (r.2)) := by
  refine GoodV.of (c := bodyOf Tryz.f34) Tryz.func34 rfl (by decide) (by simp [Tryz.f34]) rfl rfl ?_
  intro hr Γ hΓ vs hvs
  match vs, hvs with
  | [v0_], _ =>
  have hΓ : Γ.nt = 35 := hΓ
  rw [d_laws_markMatchS] at h
  refine (show AW Tryz.prog Γ (bodyOf Tryz.f34) (KQ Tryz.prog Γ (fun _ _ => False) (RetV Tryz.prog Tryz.f34 [v0_] [(3, (r.1).map Match.c)] (D.int .i64 (r.2))) []) _ from ?_)
  refine AW_goV (n := 2000) 1 [.cn [0, 1, 5] [0]] (.lp (lc Tryz.f34 [1, 0, 1, 0, 0]) (lk' Tryz.f34 [1, 0, 1, 0]) ⟨[(0, D.acc 0), (1, D.int .i64 (a1_)), (5, D.int .i64 (0))], [Ob.lent 3 ((a0_).map Match.c) (some v0_)]⟩) hΓ mix (by kernel_rfl) ow0 (AW_st (by rfl) (AW_of_r (d_laws_markMatchS_L1w hΓ (fun q1_0 z1_1 h => ?_) (a0_) [] (a1_) (by have := hr _ (List.mem_of_getElem? (i := 0) rfl); simpa using this) h)))
  have h := den_some h; subst h
  exact AW_goV (n := 2000) 1 [] (.ret (D.tup [D.int .i64 (z1_1), D.agg [D.fr 0 3 ((q1_0).map Match.c), D.val v0_]])) hΓ mix (by kernel_rfl) ow0 rfl
end Go.Cx
