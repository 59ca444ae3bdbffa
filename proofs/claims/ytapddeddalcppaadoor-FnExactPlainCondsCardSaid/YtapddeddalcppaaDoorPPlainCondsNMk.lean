/- What functions of the program compute, and the walks that show it. No condition. -/
import Derived.Test.YtapddeddalcppaaDoorNData
namespace Go.Cx
open Go.RowKit Go.Proofs
set_option linter.unusedVariables false
set_option linter.unusedSimpArgs false
set_option maxRecDepth 100000
def d_laws_markText_L1  (k1 : Bytes → Option Bytes) : Nat → Int → Bytes → Option Bytes
  | 0, _, _ => none
  | n1 + 1, v1_0, v1_3 => (bif decide ((v1_0 : Int) > (0)) then (bif decide (0 ≤ (v1_0 : Int)) && decide (0 < (10 : Int)) then (bif decide (([UInt8.ofNat (IntKind.u8.wrap (IntKind.i64.wrap ((48) + ((v1_0 : Int) % (10))))).toNat] : Bytes).length + (v1_3 : Bytes).length ≤ maxLen) then (bif decide (0 ≤ (v1_0 : Int)) && decide (0 < (10 : Int)) then (d_laws_markText_L1  k1 n1 ((v1_0 : Int) / (10)) (([UInt8.ofNat (IntKind.u8.wrap (IntKind.i64.wrap ((48) + ((v1_0 : Int) % (10))))).toNat]) ++ (v1_3))) else none) else none) else none) else (k1 (v1_3)))
def d_laws_markText (a0_ : Int) : Option Bytes := (bif decide ((a0_ : Int) ≤ (0)) then (some ([109, 48])) else (d_laws_markText_L1  (fun (z1_3 : Bytes) => (bif decide (([109] : Bytes).length + (z1_3 : Bytes).length ≤ maxLen) then (some (([109]) ++ (z1_3))) else none)) fuel (a0_) ([])))
theorem d_laws_markText_L1w {Γ : Ctx} (hΓ : Γ.nt = 20) {N : Nat → St → Prop}  {r : Bytes} {k1 : Bytes → Option Bytes} (hE1 : ∀ (z1_3 : Bytes), k1 z1_3 = some r → AW Tryd.prog Γ (dig (bodyOf Tryd.f62) [1, 1, 1, 1] []).1 (KQ Tryd.prog Γ N (RetQ Tryd.prog Tryd.f62 (D.str (r))) (dig (bodyOf Tryd.f62) [1, 1, 1, 1] []).2) ⟨[(3, D.str (z1_3))], []⟩) : ∀ (n1 : Nat) (v1_0 : Int) (v1_3 : Bytes), d_laws_markText_L1  k1 n1 v1_0 v1_3 = some r → AWr Tryd.prog Γ (dig (bodyOf Tryd.f62) [1, 1, 1, 0, 0, 0] []).1 (KQ Tryd.prog Γ N (RetQ Tryd.prog Tryd.f62 (D.str (r))) (dig (bodyOf Tryd.f62) [1, 1, 1, 0, 0] []).2) n1 ⟨[(0, D.int .i64 (v1_0)), (3, D.str (v1_3))], []⟩ := by
  intro n
  induction n with
  | zero => intro v1_0 v1_3 h; simp [d_laws_markText_L1] at h
  | succ n1 ih1 =>
    intro v1_0 v1_3 h
    rw [d_laws_markText_L1] at h
    refine AWr_succ fun N1 hN1 hS1 => ?_
    rcases den_if h with ⟨h10, h⟩ | ⟨h10, h⟩
    · obtain ⟨h11, h⟩ := den_ok h
      obtain ⟨h12, h⟩ := den_ok h
      obtain ⟨h13, h⟩ := den_ok h
      have t := ih1 ((v1_0 : Int) / (10)) (([UInt8.ofNat (IntKind.u8.wrap (IntKind.i64.wrap ((48) + ((v1_0 : Int) % (10))))).toNat]) ++ (v1_3)) h
      refine AW_go (n := 2000) [[none]] [.b true, .cn [0, 3] []] (.cont 0 ⟨[(0, D.int .i64 ((v1_0 : Int) / (10))), (3, D.str (([UInt8.ofNat (IntKind.u8.wrap (IntKind.i64.wrap ((48) + ((v1_0 : Int) % (10))))).toNat]) ++ (v1_3)))], []⟩) hΓ mix (by kernel_rfl) (ow (h10) (ow (quo_ok .i64 h11) (ow (of_decide_eq_true h12) (ow (quo_ok .i64 h13) ow0)))) ?_
      refine (congrFun hS1 _).mpr ?_
      first | exact t | (simp only [List.map_append, List.map_cons, List.map_nil, List.map_set] at t ⊢; exact t)
    · have t := AW_N (N := N) (N' := N1) (K0 := (dig (bodyOf Tryd.f62) [1, 1, 1, 0, 0] []).2) (by kernel_rfl) hN1 (hE1 (v1_3) h)
      refine AW_go (n := 2000) [[none]] [.b false, .hl 0 [3] []] (.at_ (dig (bodyOf Tryd.f62) [1, 1, 1, 1] []).1 (dig (bodyOf Tryd.f62) [1, 1, 1, 1] []).2 ⟨[(3, D.str (v1_3))], []⟩) hΓ mix (by kernel_rfl) (ow (h10) ow0) ?_
      first | exact t | (simp only [List.map_append, List.map_cons, List.map_nil, List.map_set] at t ⊢; exact t)
theorem d_laws_markText_good {a0_ : Int} {r : Bytes} (h : d_laws_markText a0_ = some r) : Good Tryd.prog 62 [D.int .i64 (a0_)] (D.str (r)) := by
  refine Good.of (c := bodyOf Tryd.f62) Tryd.func62 rfl (by decide) (by simp [Tryd.f62]) ?_
  intro hr Γ hΓ
  have hΓ : Γ.nt = 20 := hΓ
  rw [d_laws_markText] at h
  refine (show AW Tryd.prog Γ (bodyOf Tryd.f62) (KQ Tryd.prog Γ (fun _ _ => False) (RetQ Tryd.prog Tryd.f62 (D.str (r))) []) _ from ?_)
  rcases den_if h with ⟨h1, h⟩ | ⟨h1, h⟩
  · have h := den_some h
    subst h
    exact AW_go (n := 2000) [[none]] [.b true] (.ret (D.str ([109, 48]))) hΓ mix (by kernel_rfl) (ow (h1) ow0) rfl
  · refine AW_go (n := 2000) [[none]] [.b false, .cn [0, 3] []] (.lp (dig (bodyOf Tryd.f62) [1, 1, 1, 0, 0, 0] []).1 (dig (bodyOf Tryd.f62) [1, 1, 1, 0, 0] []).2 ⟨[(0, D.int .i64 (a0_)), (3, D.str ([]))], []⟩) hΓ mix (by kernel_rfl) (ow (h1) ow0) (AW_st (by first | rfl | (simp only [List.map_append, List.map_cons, List.map_nil, List.map_set, List.map_replicate] <;> rfl)) (AW_of_r (d_laws_markText_L1w hΓ (fun z1_3 h => ?_) fuel (a0_) ([]) h)))
    obtain ⟨h14, h⟩ := den_ok h
    have h := den_some h
    subst h
    exact AW_go (n := 2000) [[none]] [] (.ret (D.str (([109]) ++ (z1_3)))) hΓ mix (by kernel_rfl) (ow (of_decide_eq_true h14) ow0) (by first | rfl | (simp only [List.map_append, List.map_cons, List.map_nil, List.map_set] <;> rfl))
def d_laws_markStringS_L1  (k1 : List Bytes → Int → Option ((List Bytes) × Int)) : List Bytes → List Bytes → Int → Option ((List Bytes) × Int)
  | [], dn1, v1_1 => (k1 (dn1) (v1_1))
  | x1_ :: xs1, dn1, v1_1 => ((d_laws_markText (v1_1)).bind fun y1 => (d_laws_markStringS_L1  k1 xs1 (dn1 ++ [y1]) (IntKind.i64.wrap ((v1_1) + (1)))))
def d_laws_markStringS (a0_ : List Bytes) (a1_ : Int) : Option ((List Bytes) × Int) := (d_laws_markStringS_L1  (fun (q1_0 : List Bytes) (z1_1 : Int) => (some ((q1_0, z1_1)))) (a0_) [] (a1_))
theorem d_laws_markStringS_L1w {Γ : Ctx} (hΓ : Γ.nt = 20) {N : Nat → St → Prop} {v0_ : Value}  {r : (List Bytes) × Int} {k1 : List Bytes → Int → Option ((List Bytes) × Int)} (hE1 : ∀ (q1_0 : List Bytes) (z1_1 : Int), k1 q1_0 z1_1 = some r → AW Tryd.prog Γ (dig (bodyOf Tryd.f52) [1, 1] []).1 (KQ Tryd.prog Γ N (RetV Tryd.prog Tryd.f52 [v0_] [(1, (r.1).map tx)] (D.int .i64 (r.2))) (dig (bodyOf Tryd.f52) [1, 1] []).2) ⟨[(1, D.int .i64 (z1_1))], [Ob.lent 1 ((q1_0).map tx) (some v0_)]⟩) : ∀ (rest : List Bytes) (dn1 : List Bytes) (v1_1 : Int), (dn1).length + rest.length ≤ maxLen → d_laws_markStringS_L1  k1 rest dn1 v1_1 = some r → AWr Tryd.prog Γ (dig (bodyOf Tryd.f52) [1, 0, 1, 0, 0] []).1 (KQ Tryd.prog Γ N (RetV Tryd.prog Tryd.f52 [v0_] [(1, (r.1).map tx)] (D.int .i64 (r.2))) (dig (bodyOf Tryd.f52) [1, 0, 1, 0] []).2) (rest.length + 1) ⟨[(0, D.acc 0), (1, D.int .i64 (v1_1)), (5, D.int .i64 (((dn1).length : Int)))], [Ob.lent 1 ((dn1).map tx ++ (rest).map tx) (some v0_)]⟩ := by
  intro rest
  induction rest with
  | nil =>
    intro dn1 v1_1 hm1 h
    rw [d_laws_markStringS_L1] at h
    refine AWr_succ fun N1 hN1 hS1 => ?_
    have t := AW_N (N := N) (N' := N1) (K0 := (dig (bodyOf Tryd.f52) [1, 0, 1, 0] []).2) (by kernel_rfl) hN1 (hE1 (dn1) (v1_1) h)
    refine AW_goV (n := 2000) 1 [.b false, .hl 0 [1] [0]] (.at_ (dig (bodyOf Tryd.f52) [1, 1] []).1 (dig (bodyOf Tryd.f52) [1, 1] []).2 ⟨[(1, D.int .i64 (v1_1))], [Ob.lent 1 ((dn1).map tx ++ (([] : List Bytes)).map tx) (some v0_)]⟩) hΓ mix (by kernel_rfl) (ow (show (decide ((((dn1).length : Int) : Int) < ((((dn1).map tx ++ (([] : List Bytes)).map tx).length : Int)))) = false from (ge_mid _)) ow0) ?_
    refine AW_st (s := ⟨[(1, D.int .i64 (v1_1))], [Ob.lent 1 ((dn1).map tx ++ (([] : List Bytes)).map tx) (some v0_)]⟩) ?_ t
    simp only [List.map_nil, List.append_nil]
  | cons x1_ xs1 ih1 =>
    intro dn1 v1_1 hm1 h
    rw [d_laws_markStringS_L1] at h
    refine AWr_succ fun N1 hN1 hS1 => ?_
    obtain ⟨y1, h2, h⟩ := den_bind h
    have t := ih1 (dn1 ++ [y1]) (IntKind.i64.wrap ((v1_1) + (1))) (by simp only [List.length_append, List.length_cons, List.length_nil] at hm1 ⊢; omega) h
    refine AW_goV (n := 2000) 1 [.b true, .d (D.str (y1)), .ix ((dn1).length), .row [D.str (x1_)], .cn [0, 1, 5] [0]] (.cont 0 ⟨[(0, D.acc 0), (1, D.int .i64 (IntKind.i64.wrap ((v1_1) + (1)))), (5, D.int .i64 (IntKind.i64.wrap ((((dn1).length : Int)) + (1))))], [Ob.lent 1 (((dn1).map tx ++ ([D.str (x1_)] :: (xs1).map tx)).set (dn1).length [D.str (y1)]) (some v0_)]⟩) hΓ mix (by kernel_rfl) (ow (show (decide ((((dn1).length : Int) : Int) < ((((dn1).map tx ++ ([D.str (x1_)] :: (xs1).map tx)).length : Int)))) = true from (lt_mid _ _ _)) (ow (d_laws_markText_good h2) (ow (show (((dn1).length : Int)) = (((dn1).length : Nat) : Int) ∧ (dn1).length < ((dn1).map tx ++ ([D.str (x1_)] :: (xs1).map tx)).length from ⟨rfl, by simp only [List.length_set, List.length_append, List.length_map, List.length_cons]; omega⟩) (ow (show ((dn1).map tx ++ ([D.str (x1_)] :: (xs1).map tx))[(dn1).length]? = some [D.str (x1_)] from by (try simp only [set_mid]); exact get_mid _ _ _) ow0)))) ?_
    refine (congrFun hS1 _).mpr ?_
    rw [i64_mid (by simp only [List.length_cons] at hm1; omega)]
    simp only [set_mid]
    simp only [List.map_append, List.map_cons, List.map_nil, List.append_assoc, List.cons_append, List.nil_append, List.length_append, List.length_cons, List.length_nil] at t ⊢
    exact t
theorem d_laws_markStringS_good {a0_ : List Bytes} {a1_ : Int} {r : (List Bytes) × Int} (h : d_laws_markStringS a0_ a1_ = some r) : GoodV Tryd.prog 52 [D.acc 0, D.int .i64 (a1_)] [(1, (a0_).map tx)] [(1, (r.1).map tx)] (D.int .i64 (r.2)) := by
  refine GoodV.of (c := bodyOf Tryd.f52) Tryd.func52 rfl (by decide) (by simp [Tryd.f52]) rfl rfl ?_
  intro hr Γ hΓ vs hvs
  match vs, hvs with
  | [v0_], _ =>
  have hΓ : Γ.nt = 20 := hΓ
  rw [d_laws_markStringS] at h
  refine (show AW Tryd.prog Γ (bodyOf Tryd.f52) (KQ Tryd.prog Γ (fun _ _ => False) (RetV Tryd.prog Tryd.f52 [v0_] [(1, (r.1).map tx)] (D.int .i64 (r.2))) []) _ from ?_)
  refine AW_goV (n := 2000) 1 [.cn [0, 1, 5] [0]] (.lp (dig (bodyOf Tryd.f52) [1, 0, 1, 0, 0] []).1 (dig (bodyOf Tryd.f52) [1, 0, 1, 0] []).2 ⟨[(0, D.acc 0), (1, D.int .i64 (a1_)), (5, D.int .i64 (0))], [Ob.lent 1 ((a0_).map tx) (some v0_)]⟩) hΓ mix (by kernel_rfl) ow0 (AW_st (by rfl) (AW_of_r (d_laws_markStringS_L1w hΓ (fun q1_0 z1_1 h => ?_) (a0_) [] (a1_) (by have := hr _ (List.mem_of_getElem? (i := 0) rfl); simpa using this) h)))
  have h := den_some h
  subst h
  exact AW_goV (n := 2000) 1 [] (.ret (D.tup [D.int .i64 (z1_1), D.agg [D.fr 0 1 ((q1_0).map tx), D.val v0_]])) hΓ mix (by kernel_rfl) ow0 rfl
def d_laws_markCondS_L1  (k1 : List Cond → Int → Option ((List Cond) × Int)) : List Cond → List Cond → Int → Option ((List Cond) × Int)
  | [], dn1, v1_1 => (k1 (dn1) (v1_1))
  | x1_ :: xs1, dn1, v1_1 => ((d_laws_markText (IntKind.i64.wrap ((v1_1) + (1)))).bind fun y1 => ((d_laws_markStringS (x1_.pat.args) (IntKind.i64.wrap ((IntKind.i64.wrap ((v1_1) + (1))) + (1)))).bind fun y3 => ((d_laws_markText (y3.2)).bind fun y5 => ((d_laws_markText (IntKind.i64.wrap ((y3.2) + (1)))).bind fun y7 => (d_laws_markCondS_L1  k1 xs1 (dn1 ++ [(⟨v1_1, (⟨y1, y3.1⟩ : Fact), y5, y7⟩ : Cond)]) (IntKind.i64.wrap ((IntKind.i64.wrap ((y3.2) + (1))) + (1))))))))
def d_laws_markCondS (a0_ : List Cond) (a1_ : Int) : Option ((List Cond) × Int) := (d_laws_markCondS_L1  (fun (q1_0 : List Cond) (z1_1 : Int) => (some ((q1_0, z1_1)))) (a0_) [] (a1_))
theorem d_laws_markCondS_L1w {Γ : Ctx} (hΓ : Γ.nt = 53) {N : Nat → St → Prop} {v0_ : Value}  {r : (List Cond) × Int} {k1 : List Cond → Int → Option ((List Cond) × Int)} (hE1 : ∀ (q1_0 : List Cond) (z1_1 : Int), k1 q1_0 z1_1 = some r → AW Tryd.prog Γ (dig (bodyOf Tryd.f28) [1, 1] []).1 (KQ Tryd.prog Γ N (RetV Tryd.prog Tryd.f28 [v0_] [(5, (r.1).map Cond.c)] (D.int .i64 (r.2))) (dig (bodyOf Tryd.f28) [1, 1] []).2) ⟨[(1, D.int .i64 (z1_1))], [Ob.lent 5 ((q1_0).map Cond.c) (some v0_)]⟩) : ∀ (rest : List Cond) (dn1 : List Cond) (v1_1 : Int), (dn1).length + rest.length ≤ maxLen → d_laws_markCondS_L1  k1 rest dn1 v1_1 = some r → AWr Tryd.prog Γ (dig (bodyOf Tryd.f28) [1, 0, 1, 0, 0] []).1 (KQ Tryd.prog Γ N (RetV Tryd.prog Tryd.f28 [v0_] [(5, (r.1).map Cond.c)] (D.int .i64 (r.2))) (dig (bodyOf Tryd.f28) [1, 0, 1, 0] []).2) (rest.length + 1) ⟨[(0, D.acc 0), (1, D.int .i64 (v1_1)), (5, D.int .i64 (((dn1).length : Int)))], [Ob.lent 5 ((dn1).map Cond.c ++ (rest).map Cond.c) (some v0_)]⟩ := by
  intro rest
  induction rest with
  | nil =>
    intro dn1 v1_1 hm1 h
    rw [d_laws_markCondS_L1] at h
    refine AWr_succ fun N1 hN1 hS1 => ?_
    have t := AW_N (N := N) (N' := N1) (K0 := (dig (bodyOf Tryd.f28) [1, 0, 1, 0] []).2) (by kernel_rfl) hN1 (hE1 (dn1) (v1_1) h)
    refine AW_goV (n := 2000) 1 [.b false, .hl 0 [1] [0]] (.at_ (dig (bodyOf Tryd.f28) [1, 1] []).1 (dig (bodyOf Tryd.f28) [1, 1] []).2 ⟨[(1, D.int .i64 (v1_1))], [Ob.lent 5 ((dn1).map Cond.c ++ (([] : List Cond)).map Cond.c) (some v0_)]⟩) hΓ mix (by kernel_rfl) (ow (show (decide ((((dn1).length : Int) : Int) < ((((dn1).map Cond.c ++ (([] : List Cond)).map Cond.c).length : Int)))) = false from (ge_mid _)) ow0) ?_
    refine AW_st (s := ⟨[(1, D.int .i64 (v1_1))], [Ob.lent 5 ((dn1).map Cond.c ++ (([] : List Cond)).map Cond.c) (some v0_)]⟩) ?_ t
    simp only [List.map_nil, List.append_nil]
  | cons x1_ xs1 ih1 =>
    intro dn1 v1_1 hm1 h
    rw [d_laws_markCondS_L1] at h
    refine AWr_succ fun N1 hN1 hS1 => ?_
    obtain ⟨y1, h2, h⟩ := den_bind h
    obtain ⟨y3, h4, h⟩ := den_bind h
    obtain ⟨y5, h6, h⟩ := den_bind h
    obtain ⟨y7, h8, h⟩ := den_bind h
    have t := ih1 (dn1 ++ [(⟨v1_1, (⟨y1, y3.1⟩ : Fact), y5, y7⟩ : Cond)]) (IntKind.i64.wrap ((IntKind.i64.wrap ((y3.2) + (1))) + (1))) (by simp only [List.length_append, List.length_cons, List.length_nil] at hm1 ⊢; omega) h
    refine AW_goV (n := 2000) 1 [.b true, .ix ((dn1).length), .row [D.int .i64 (x1_.kind), D.str (x1_.pat.rel), D.sl ((x1_.pat.args).map tx), D.str (x1_.left), D.str (x1_.right)], .d (D.str (y1)), .ix ((dn1).length), .row [D.int .i64 (v1_1), D.str (x1_.pat.rel), D.sl ((x1_.pat.args).map tx), D.str (x1_.left), D.str (x1_.right)], .ix ((dn1).length), .row [D.int .i64 (v1_1), D.str (y1), D.sl ((x1_.pat.args).map tx), D.str (x1_.left), D.str (x1_.right)], .gv [1] [(1, (y3.1).map tx)] (D.int .i64 (y3.2)), .mg 0 (dn1).length 2 [D.int .i64 (v1_1), D.str (y1), D.any, D.str (x1_.left), D.str (x1_.right)], .d (D.str (y5)), .ix ((dn1).length), .row [D.int .i64 (v1_1), D.str (y1), D.sl ((y3.1).map tx), D.str (x1_.left), D.str (x1_.right)], .d (D.str (y7)), .ix ((dn1).length), .row [D.int .i64 (v1_1), D.str (y1), D.sl ((y3.1).map tx), D.str (y5), D.str (x1_.right)], .cn [0, 1, 5] [0]] (.cont 0 ⟨[(0, D.acc 0), (1, D.int .i64 (IntKind.i64.wrap ((IntKind.i64.wrap ((y3.2) + (1))) + (1)))), (5, D.int .i64 (IntKind.i64.wrap ((((dn1).length : Int)) + (1))))], [Ob.lent 5 ((((((((dn1).map Cond.c ++ ([D.int .i64 (x1_.kind), D.str (x1_.pat.rel), D.sl ((x1_.pat.args).map tx), D.str (x1_.left), D.str (x1_.right)] :: (xs1).map Cond.c)).set (dn1).length [D.int .i64 (v1_1), D.str (x1_.pat.rel), D.sl ((x1_.pat.args).map tx), D.str (x1_.left), D.str (x1_.right)]).set (dn1).length [D.int .i64 (v1_1), D.str (y1), D.sl ((x1_.pat.args).map tx), D.str (x1_.left), D.str (x1_.right)]).set (dn1).length [D.int .i64 (v1_1), D.str (y1), D.any, D.str (x1_.left), D.str (x1_.right)]).set (dn1).length [D.int .i64 (v1_1), D.str (y1), D.sl ((y3.1).map tx), D.str (x1_.left), D.str (x1_.right)]).set (dn1).length [D.int .i64 (v1_1), D.str (y1), D.sl ((y3.1).map tx), D.str (y5), D.str (x1_.right)]).set (dn1).length [D.int .i64 (v1_1), D.str (y1), D.sl ((y3.1).map tx), D.str (y5), D.str (y7)]) (some v0_)]⟩) hΓ mix (by kernel_rfl) (ow (show (decide ((((dn1).length : Int) : Int) < ((((dn1).map Cond.c ++ ([D.int .i64 (x1_.kind), D.str (x1_.pat.rel), D.sl ((x1_.pat.args).map tx), D.str (x1_.left), D.str (x1_.right)] :: (xs1).map Cond.c)).length : Int)))) = true from (lt_mid _ _ _)) (ow (show (((dn1).length : Int)) = (((dn1).length : Nat) : Int) ∧ (dn1).length < ((dn1).map Cond.c ++ ([D.int .i64 (x1_.kind), D.str (x1_.pat.rel), D.sl ((x1_.pat.args).map tx), D.str (x1_.left), D.str (x1_.right)] :: (xs1).map Cond.c)).length from ⟨rfl, by simp only [List.length_set, List.length_append, List.length_map, List.length_cons]; omega⟩) (ow (show ((dn1).map Cond.c ++ ([D.int .i64 (x1_.kind), D.str (x1_.pat.rel), D.sl ((x1_.pat.args).map tx), D.str (x1_.left), D.str (x1_.right)] :: (xs1).map Cond.c))[(dn1).length]? = some [D.int .i64 (x1_.kind), D.str (x1_.pat.rel), D.sl ((x1_.pat.args).map tx), D.str (x1_.left), D.str (x1_.right)] from by (try simp only [set_mid]); exact get_mid _ _ _) (ow (d_laws_markText_good h2) (ow (show (((dn1).length : Int)) = (((dn1).length : Nat) : Int) ∧ (dn1).length < (((dn1).map Cond.c ++ ([D.int .i64 (x1_.kind), D.str (x1_.pat.rel), D.sl ((x1_.pat.args).map tx), D.str (x1_.left), D.str (x1_.right)] :: (xs1).map Cond.c)).set (dn1).length [D.int .i64 (v1_1), D.str (x1_.pat.rel), D.sl ((x1_.pat.args).map tx), D.str (x1_.left), D.str (x1_.right)]).length from ⟨rfl, by simp only [List.length_set, List.length_append, List.length_map, List.length_cons]; omega⟩) (ow (show (((dn1).map Cond.c ++ ([D.int .i64 (x1_.kind), D.str (x1_.pat.rel), D.sl ((x1_.pat.args).map tx), D.str (x1_.left), D.str (x1_.right)] :: (xs1).map Cond.c)).set (dn1).length [D.int .i64 (v1_1), D.str (x1_.pat.rel), D.sl ((x1_.pat.args).map tx), D.str (x1_.left), D.str (x1_.right)])[(dn1).length]? = some [D.int .i64 (v1_1), D.str (x1_.pat.rel), D.sl ((x1_.pat.args).map tx), D.str (x1_.left), D.str (x1_.right)] from by (try simp only [set_mid]); exact get_mid _ _ _) (ow (show (((dn1).length : Int)) = (((dn1).length : Nat) : Int) ∧ (dn1).length < ((((dn1).map Cond.c ++ ([D.int .i64 (x1_.kind), D.str (x1_.pat.rel), D.sl ((x1_.pat.args).map tx), D.str (x1_.left), D.str (x1_.right)] :: (xs1).map Cond.c)).set (dn1).length [D.int .i64 (v1_1), D.str (x1_.pat.rel), D.sl ((x1_.pat.args).map tx), D.str (x1_.left), D.str (x1_.right)]).set (dn1).length [D.int .i64 (v1_1), D.str (y1), D.sl ((x1_.pat.args).map tx), D.str (x1_.left), D.str (x1_.right)]).length from ⟨rfl, by simp only [List.length_set, List.length_append, List.length_map, List.length_cons]; omega⟩) (ow (show ((((dn1).map Cond.c ++ ([D.int .i64 (x1_.kind), D.str (x1_.pat.rel), D.sl ((x1_.pat.args).map tx), D.str (x1_.left), D.str (x1_.right)] :: (xs1).map Cond.c)).set (dn1).length [D.int .i64 (v1_1), D.str (x1_.pat.rel), D.sl ((x1_.pat.args).map tx), D.str (x1_.left), D.str (x1_.right)]).set (dn1).length [D.int .i64 (v1_1), D.str (y1), D.sl ((x1_.pat.args).map tx), D.str (x1_.left), D.str (x1_.right)])[(dn1).length]? = some [D.int .i64 (v1_1), D.str (y1), D.sl ((x1_.pat.args).map tx), D.str (x1_.left), D.str (x1_.right)] from by (try simp only [set_mid]); exact get_mid _ _ _) (ow (show ∀ q ∈ ((x1_.pat.args).map tx), q.length = 1 from by simp) (ow (d_laws_markStringS_good h4) (ow (show (((((dn1).map Cond.c ++ ([D.int .i64 (x1_.kind), D.str (x1_.pat.rel), D.sl ((x1_.pat.args).map tx), D.str (x1_.left), D.str (x1_.right)] :: (xs1).map Cond.c)).set (dn1).length [D.int .i64 (v1_1), D.str (x1_.pat.rel), D.sl ((x1_.pat.args).map tx), D.str (x1_.left), D.str (x1_.right)]).set (dn1).length [D.int .i64 (v1_1), D.str (y1), D.sl ((x1_.pat.args).map tx), D.str (x1_.left), D.str (x1_.right)]).set (dn1).length [D.int .i64 (v1_1), D.str (y1), D.any, D.str (x1_.left), D.str (x1_.right)])[(dn1).length]? = some [D.int .i64 (v1_1), D.str (y1), D.any, D.str (x1_.left), D.str (x1_.right)] from by (try simp only [set_mid]); exact get_mid _ _ _) (ow (show ((dn1).length * 5 + 2) = (dn1).length * 5 + 2 from rfl) (ow (d_laws_markText_good h6) (ow (show (((dn1).length : Int)) = (((dn1).length : Nat) : Int) ∧ (dn1).length < ((((((dn1).map Cond.c ++ ([D.int .i64 (x1_.kind), D.str (x1_.pat.rel), D.sl ((x1_.pat.args).map tx), D.str (x1_.left), D.str (x1_.right)] :: (xs1).map Cond.c)).set (dn1).length [D.int .i64 (v1_1), D.str (x1_.pat.rel), D.sl ((x1_.pat.args).map tx), D.str (x1_.left), D.str (x1_.right)]).set (dn1).length [D.int .i64 (v1_1), D.str (y1), D.sl ((x1_.pat.args).map tx), D.str (x1_.left), D.str (x1_.right)]).set (dn1).length [D.int .i64 (v1_1), D.str (y1), D.any, D.str (x1_.left), D.str (x1_.right)]).set (dn1).length [D.int .i64 (v1_1), D.str (y1), D.sl ((y3.1).map tx), D.str (x1_.left), D.str (x1_.right)]).length from ⟨rfl, by simp only [List.length_set, List.length_append, List.length_map, List.length_cons]; omega⟩) (ow (show ((((((dn1).map Cond.c ++ ([D.int .i64 (x1_.kind), D.str (x1_.pat.rel), D.sl ((x1_.pat.args).map tx), D.str (x1_.left), D.str (x1_.right)] :: (xs1).map Cond.c)).set (dn1).length [D.int .i64 (v1_1), D.str (x1_.pat.rel), D.sl ((x1_.pat.args).map tx), D.str (x1_.left), D.str (x1_.right)]).set (dn1).length [D.int .i64 (v1_1), D.str (y1), D.sl ((x1_.pat.args).map tx), D.str (x1_.left), D.str (x1_.right)]).set (dn1).length [D.int .i64 (v1_1), D.str (y1), D.any, D.str (x1_.left), D.str (x1_.right)]).set (dn1).length [D.int .i64 (v1_1), D.str (y1), D.sl ((y3.1).map tx), D.str (x1_.left), D.str (x1_.right)])[(dn1).length]? = some [D.int .i64 (v1_1), D.str (y1), D.sl ((y3.1).map tx), D.str (x1_.left), D.str (x1_.right)] from by (try simp only [set_mid]); exact get_mid _ _ _) (ow (d_laws_markText_good h8) (ow (show (((dn1).length : Int)) = (((dn1).length : Nat) : Int) ∧ (dn1).length < (((((((dn1).map Cond.c ++ ([D.int .i64 (x1_.kind), D.str (x1_.pat.rel), D.sl ((x1_.pat.args).map tx), D.str (x1_.left), D.str (x1_.right)] :: (xs1).map Cond.c)).set (dn1).length [D.int .i64 (v1_1), D.str (x1_.pat.rel), D.sl ((x1_.pat.args).map tx), D.str (x1_.left), D.str (x1_.right)]).set (dn1).length [D.int .i64 (v1_1), D.str (y1), D.sl ((x1_.pat.args).map tx), D.str (x1_.left), D.str (x1_.right)]).set (dn1).length [D.int .i64 (v1_1), D.str (y1), D.any, D.str (x1_.left), D.str (x1_.right)]).set (dn1).length [D.int .i64 (v1_1), D.str (y1), D.sl ((y3.1).map tx), D.str (x1_.left), D.str (x1_.right)]).set (dn1).length [D.int .i64 (v1_1), D.str (y1), D.sl ((y3.1).map tx), D.str (y5), D.str (x1_.right)]).length from ⟨rfl, by simp only [List.length_set, List.length_append, List.length_map, List.length_cons]; omega⟩) (ow (show (((((((dn1).map Cond.c ++ ([D.int .i64 (x1_.kind), D.str (x1_.pat.rel), D.sl ((x1_.pat.args).map tx), D.str (x1_.left), D.str (x1_.right)] :: (xs1).map Cond.c)).set (dn1).length [D.int .i64 (v1_1), D.str (x1_.pat.rel), D.sl ((x1_.pat.args).map tx), D.str (x1_.left), D.str (x1_.right)]).set (dn1).length [D.int .i64 (v1_1), D.str (y1), D.sl ((x1_.pat.args).map tx), D.str (x1_.left), D.str (x1_.right)]).set (dn1).length [D.int .i64 (v1_1), D.str (y1), D.any, D.str (x1_.left), D.str (x1_.right)]).set (dn1).length [D.int .i64 (v1_1), D.str (y1), D.sl ((y3.1).map tx), D.str (x1_.left), D.str (x1_.right)]).set (dn1).length [D.int .i64 (v1_1), D.str (y1), D.sl ((y3.1).map tx), D.str (y5), D.str (x1_.right)])[(dn1).length]? = some [D.int .i64 (v1_1), D.str (y1), D.sl ((y3.1).map tx), D.str (y5), D.str (x1_.right)] from by (try simp only [set_mid]); exact get_mid _ _ _) ow0)))))))))))))))))) ?_
    refine (congrFun hS1 _).mpr ?_
    rw [i64_mid (by simp only [List.length_cons] at hm1; omega)]
    simp only [set_mid]
    simp only [List.map_append, List.map_cons, List.map_nil, List.append_assoc, List.cons_append, List.nil_append, List.length_append, List.length_cons, List.length_nil] at t ⊢
    exact t
theorem d_laws_markCondS_good {a0_ : List Cond} {a1_ : Int} {r : (List Cond) × Int} (h : d_laws_markCondS a0_ a1_ = some r) : GoodV Tryd.prog 28 [D.acc 0, D.int .i64 (a1_)] [(5, (a0_).map Cond.c)] [(5, (r.1).map Cond.c)] (D.int .i64 (r.2)) := by
  refine GoodV.of (c := bodyOf Tryd.f28) Tryd.func28 rfl (by decide) (by simp [Tryd.f28]) rfl rfl ?_
  intro hr Γ hΓ vs hvs
  match vs, hvs with
  | [v0_], _ =>
  have hΓ : Γ.nt = 53 := hΓ
  rw [d_laws_markCondS] at h
  refine (show AW Tryd.prog Γ (bodyOf Tryd.f28) (KQ Tryd.prog Γ (fun _ _ => False) (RetV Tryd.prog Tryd.f28 [v0_] [(5, (r.1).map Cond.c)] (D.int .i64 (r.2))) []) _ from ?_)
  refine AW_goV (n := 2000) 1 [.cn [0, 1, 5] [0]] (.lp (dig (bodyOf Tryd.f28) [1, 0, 1, 0, 0] []).1 (dig (bodyOf Tryd.f28) [1, 0, 1, 0] []).2 ⟨[(0, D.acc 0), (1, D.int .i64 (a1_)), (5, D.int .i64 (0))], [Ob.lent 5 ((a0_).map Cond.c) (some v0_)]⟩) hΓ mix (by kernel_rfl) ow0 (AW_st (by rfl) (AW_of_r (d_laws_markCondS_L1w hΓ (fun q1_0 z1_1 h => ?_) (a0_) [] (a1_) (by have := hr _ (List.mem_of_getElem? (i := 0) rfl); simpa using this) h)))
  have h := den_some h
  subst h
  exact AW_goV (n := 2000) 1 [] (.ret (D.tup [D.int .i64 (z1_1), D.agg [D.fr 0 5 ((q1_0).map Cond.c), D.val v0_]])) hΓ mix (by kernel_rfl) ow0 rfl
def d_laws_markActionS_L1  (k1 : List Action → Int → Option ((List Action) × Int)) : List Action → List Action → Int → Option ((List Action) × Int)
  | [], dn1, v1_1 => (k1 (dn1) (v1_1))
  | x1_ :: xs1, dn1, v1_1 => ((d_laws_markText (IntKind.i64.wrap ((v1_1) + (1)))).bind fun y1 => ((d_laws_markStringS (x1_.pat.args) (IntKind.i64.wrap ((IntKind.i64.wrap ((v1_1) + (1))) + (1)))).bind fun y3 => (d_laws_markActionS_L1  k1 xs1 (dn1 ++ [(⟨v1_1, (⟨y1, y3.1⟩ : Fact)⟩ : Action)]) (y3.2))))
def d_laws_markActionS (a0_ : List Action) (a1_ : Int) : Option ((List Action) × Int) := (d_laws_markActionS_L1  (fun (q1_0 : List Action) (z1_1 : Int) => (some ((q1_0, z1_1)))) (a0_) [] (a1_))
theorem d_laws_markActionS_L1w {Γ : Ctx} (hΓ : Γ.nt = 37) {N : Nat → St → Prop} {v0_ : Value}  {r : (List Action) × Int} {k1 : List Action → Int → Option ((List Action) × Int)} (hE1 : ∀ (q1_0 : List Action) (z1_1 : Int), k1 q1_0 z1_1 = some r → AW Tryd.prog Γ (dig (bodyOf Tryd.f61) [1, 1] []).1 (KQ Tryd.prog Γ N (RetV Tryd.prog Tryd.f61 [v0_] [(3, (r.1).map Action.c)] (D.int .i64 (r.2))) (dig (bodyOf Tryd.f61) [1, 1] []).2) ⟨[(1, D.int .i64 (z1_1))], [Ob.lent 3 ((q1_0).map Action.c) (some v0_)]⟩) : ∀ (rest : List Action) (dn1 : List Action) (v1_1 : Int), (dn1).length + rest.length ≤ maxLen → d_laws_markActionS_L1  k1 rest dn1 v1_1 = some r → AWr Tryd.prog Γ (dig (bodyOf Tryd.f61) [1, 0, 1, 0, 0] []).1 (KQ Tryd.prog Γ N (RetV Tryd.prog Tryd.f61 [v0_] [(3, (r.1).map Action.c)] (D.int .i64 (r.2))) (dig (bodyOf Tryd.f61) [1, 0, 1, 0] []).2) (rest.length + 1) ⟨[(0, D.acc 0), (1, D.int .i64 (v1_1)), (5, D.int .i64 (((dn1).length : Int)))], [Ob.lent 3 ((dn1).map Action.c ++ (rest).map Action.c) (some v0_)]⟩ := by
  intro rest
  induction rest with
  | nil =>
    intro dn1 v1_1 hm1 h
    rw [d_laws_markActionS_L1] at h
    refine AWr_succ fun N1 hN1 hS1 => ?_
    have t := AW_N (N := N) (N' := N1) (K0 := (dig (bodyOf Tryd.f61) [1, 0, 1, 0] []).2) (by kernel_rfl) hN1 (hE1 (dn1) (v1_1) h)
    refine AW_goV (n := 2000) 1 [.b false, .hl 0 [1] [0]] (.at_ (dig (bodyOf Tryd.f61) [1, 1] []).1 (dig (bodyOf Tryd.f61) [1, 1] []).2 ⟨[(1, D.int .i64 (v1_1))], [Ob.lent 3 ((dn1).map Action.c ++ (([] : List Action)).map Action.c) (some v0_)]⟩) hΓ mix (by kernel_rfl) (ow (show (decide ((((dn1).length : Int) : Int) < ((((dn1).map Action.c ++ (([] : List Action)).map Action.c).length : Int)))) = false from (ge_mid _)) ow0) ?_
    refine AW_st (s := ⟨[(1, D.int .i64 (v1_1))], [Ob.lent 3 ((dn1).map Action.c ++ (([] : List Action)).map Action.c) (some v0_)]⟩) ?_ t
    simp only [List.map_nil, List.append_nil]
  | cons x1_ xs1 ih1 =>
    intro dn1 v1_1 hm1 h
    rw [d_laws_markActionS_L1] at h
    refine AWr_succ fun N1 hN1 hS1 => ?_
    obtain ⟨y1, h2, h⟩ := den_bind h
    obtain ⟨y3, h4, h⟩ := den_bind h
    have t := ih1 (dn1 ++ [(⟨v1_1, (⟨y1, y3.1⟩ : Fact)⟩ : Action)]) (y3.2) (by simp only [List.length_append, List.length_cons, List.length_nil] at hm1 ⊢; omega) h
    refine AW_goV (n := 2000) 1 [.b true, .ix ((dn1).length), .row [D.int .i64 (x1_.kind), D.str (x1_.pat.rel), D.sl ((x1_.pat.args).map tx)], .d (D.str (y1)), .ix ((dn1).length), .row [D.int .i64 (v1_1), D.str (x1_.pat.rel), D.sl ((x1_.pat.args).map tx)], .ix ((dn1).length), .row [D.int .i64 (v1_1), D.str (y1), D.sl ((x1_.pat.args).map tx)], .gv [1] [(1, (y3.1).map tx)] (D.int .i64 (y3.2)), .mg 0 (dn1).length 2 [D.int .i64 (v1_1), D.str (y1), D.any], .cn [0, 1, 5] [0]] (.cont 0 ⟨[(0, D.acc 0), (1, D.int .i64 (y3.2)), (5, D.int .i64 (IntKind.i64.wrap ((((dn1).length : Int)) + (1))))], [Ob.lent 3 ((((((dn1).map Action.c ++ ([D.int .i64 (x1_.kind), D.str (x1_.pat.rel), D.sl ((x1_.pat.args).map tx)] :: (xs1).map Action.c)).set (dn1).length [D.int .i64 (v1_1), D.str (x1_.pat.rel), D.sl ((x1_.pat.args).map tx)]).set (dn1).length [D.int .i64 (v1_1), D.str (y1), D.sl ((x1_.pat.args).map tx)]).set (dn1).length [D.int .i64 (v1_1), D.str (y1), D.any]).set (dn1).length [D.int .i64 (v1_1), D.str (y1), D.sl ((y3.1).map tx)]) (some v0_)]⟩) hΓ mix (by kernel_rfl) (ow (show (decide ((((dn1).length : Int) : Int) < ((((dn1).map Action.c ++ ([D.int .i64 (x1_.kind), D.str (x1_.pat.rel), D.sl ((x1_.pat.args).map tx)] :: (xs1).map Action.c)).length : Int)))) = true from (lt_mid _ _ _)) (ow (show (((dn1).length : Int)) = (((dn1).length : Nat) : Int) ∧ (dn1).length < ((dn1).map Action.c ++ ([D.int .i64 (x1_.kind), D.str (x1_.pat.rel), D.sl ((x1_.pat.args).map tx)] :: (xs1).map Action.c)).length from ⟨rfl, by simp only [List.length_set, List.length_append, List.length_map, List.length_cons]; omega⟩) (ow (show ((dn1).map Action.c ++ ([D.int .i64 (x1_.kind), D.str (x1_.pat.rel), D.sl ((x1_.pat.args).map tx)] :: (xs1).map Action.c))[(dn1).length]? = some [D.int .i64 (x1_.kind), D.str (x1_.pat.rel), D.sl ((x1_.pat.args).map tx)] from by (try simp only [set_mid]); exact get_mid _ _ _) (ow (d_laws_markText_good h2) (ow (show (((dn1).length : Int)) = (((dn1).length : Nat) : Int) ∧ (dn1).length < (((dn1).map Action.c ++ ([D.int .i64 (x1_.kind), D.str (x1_.pat.rel), D.sl ((x1_.pat.args).map tx)] :: (xs1).map Action.c)).set (dn1).length [D.int .i64 (v1_1), D.str (x1_.pat.rel), D.sl ((x1_.pat.args).map tx)]).length from ⟨rfl, by simp only [List.length_set, List.length_append, List.length_map, List.length_cons]; omega⟩) (ow (show (((dn1).map Action.c ++ ([D.int .i64 (x1_.kind), D.str (x1_.pat.rel), D.sl ((x1_.pat.args).map tx)] :: (xs1).map Action.c)).set (dn1).length [D.int .i64 (v1_1), D.str (x1_.pat.rel), D.sl ((x1_.pat.args).map tx)])[(dn1).length]? = some [D.int .i64 (v1_1), D.str (x1_.pat.rel), D.sl ((x1_.pat.args).map tx)] from by (try simp only [set_mid]); exact get_mid _ _ _) (ow (show (((dn1).length : Int)) = (((dn1).length : Nat) : Int) ∧ (dn1).length < ((((dn1).map Action.c ++ ([D.int .i64 (x1_.kind), D.str (x1_.pat.rel), D.sl ((x1_.pat.args).map tx)] :: (xs1).map Action.c)).set (dn1).length [D.int .i64 (v1_1), D.str (x1_.pat.rel), D.sl ((x1_.pat.args).map tx)]).set (dn1).length [D.int .i64 (v1_1), D.str (y1), D.sl ((x1_.pat.args).map tx)]).length from ⟨rfl, by simp only [List.length_set, List.length_append, List.length_map, List.length_cons]; omega⟩) (ow (show ((((dn1).map Action.c ++ ([D.int .i64 (x1_.kind), D.str (x1_.pat.rel), D.sl ((x1_.pat.args).map tx)] :: (xs1).map Action.c)).set (dn1).length [D.int .i64 (v1_1), D.str (x1_.pat.rel), D.sl ((x1_.pat.args).map tx)]).set (dn1).length [D.int .i64 (v1_1), D.str (y1), D.sl ((x1_.pat.args).map tx)])[(dn1).length]? = some [D.int .i64 (v1_1), D.str (y1), D.sl ((x1_.pat.args).map tx)] from by (try simp only [set_mid]); exact get_mid _ _ _) (ow (show ∀ q ∈ ((x1_.pat.args).map tx), q.length = 1 from by simp) (ow (d_laws_markStringS_good h4) (ow (show (((((dn1).map Action.c ++ ([D.int .i64 (x1_.kind), D.str (x1_.pat.rel), D.sl ((x1_.pat.args).map tx)] :: (xs1).map Action.c)).set (dn1).length [D.int .i64 (v1_1), D.str (x1_.pat.rel), D.sl ((x1_.pat.args).map tx)]).set (dn1).length [D.int .i64 (v1_1), D.str (y1), D.sl ((x1_.pat.args).map tx)]).set (dn1).length [D.int .i64 (v1_1), D.str (y1), D.any])[(dn1).length]? = some [D.int .i64 (v1_1), D.str (y1), D.any] from by (try simp only [set_mid]); exact get_mid _ _ _) (ow (show ((dn1).length * 3 + 2) = (dn1).length * 3 + 2 from rfl) ow0)))))))))))) ?_
    refine (congrFun hS1 _).mpr ?_
    rw [i64_mid (by simp only [List.length_cons] at hm1; omega)]
    simp only [set_mid]
    simp only [List.map_append, List.map_cons, List.map_nil, List.append_assoc, List.cons_append, List.nil_append, List.length_append, List.length_cons, List.length_nil] at t ⊢
    exact t
theorem d_laws_markActionS_good {a0_ : List Action} {a1_ : Int} {r : (List Action) × Int} (h : d_laws_markActionS a0_ a1_ = some r) : GoodV Tryd.prog 61 [D.acc 0, D.int .i64 (a1_)] [(3, (a0_).map Action.c)] [(3, (r.1).map Action.c)] (D.int .i64 (r.2)) := by
  refine GoodV.of (c := bodyOf Tryd.f61) Tryd.func61 rfl (by decide) (by simp [Tryd.f61]) rfl rfl ?_
  intro hr Γ hΓ vs hvs
  match vs, hvs with
  | [v0_], _ =>
  have hΓ : Γ.nt = 37 := hΓ
  rw [d_laws_markActionS] at h
  refine (show AW Tryd.prog Γ (bodyOf Tryd.f61) (KQ Tryd.prog Γ (fun _ _ => False) (RetV Tryd.prog Tryd.f61 [v0_] [(3, (r.1).map Action.c)] (D.int .i64 (r.2))) []) _ from ?_)
  refine AW_goV (n := 2000) 1 [.cn [0, 1, 5] [0]] (.lp (dig (bodyOf Tryd.f61) [1, 0, 1, 0, 0] []).1 (dig (bodyOf Tryd.f61) [1, 0, 1, 0] []).2 ⟨[(0, D.acc 0), (1, D.int .i64 (a1_)), (5, D.int .i64 (0))], [Ob.lent 3 ((a0_).map Action.c) (some v0_)]⟩) hΓ mix (by kernel_rfl) ow0 (AW_st (by rfl) (AW_of_r (d_laws_markActionS_L1w hΓ (fun q1_0 z1_1 h => ?_) (a0_) [] (a1_) (by have := hr _ (List.mem_of_getElem? (i := 0) rfl); simpa using this) h)))
  have h := den_some h
  subst h
  exact AW_goV (n := 2000) 1 [] (.ret (D.tup [D.int .i64 (z1_1), D.agg [D.fr 0 3 ((q1_0).map Action.c), D.val v0_]])) hΓ mix (by kernel_rfl) ow0 rfl
def d_laws_markRule (a0_ : Rule) (a1_ : Int) : Option (Rule × Int) := ((d_laws_markCondS (a0_.conds) (a1_)).bind fun y1 => ((d_laws_markActionS (a0_.acts) (y1.2)).bind fun y3 => (some (((⟨a0_.name, a0_.prio, y1.1, y3.1⟩ : Rule), y3.2)))))
theorem d_laws_markRule_good {a0_ : Rule} {a1_ : Int} {r : Rule × Int} (h : d_laws_markRule a0_ a1_ = some r) : GoodV Tryd.prog 22 [D.agg [D.str (a0_.name), D.int .i64 (a0_.prio), D.acc 0, D.acc 1], D.int .i64 (a1_)] [(5, (a0_.conds).map Cond.c), (3, (a0_.acts).map Action.c)] [(5, (r.1.conds).map Cond.c), (3, (r.1.acts).map Action.c)] (D.int .i64 (r.2)) := by
  refine GoodV.of (c := bodyOf Tryd.f22) Tryd.func22 rfl (by decide) (by simp [Tryd.f22]) rfl rfl ?_
  intro hr Γ hΓ vs hvs
  match vs, hvs with
  | [v0_, v1_], _ =>
  have hΓ : Γ.nt = 14 := hΓ
  rw [d_laws_markRule] at h
  refine (show AW Tryd.prog Γ (bodyOf Tryd.f22) (KQ Tryd.prog Γ (fun _ _ => False) (RetV Tryd.prog Tryd.f22 [v0_, v1_] [(5, (r.1.conds).map Cond.c), (3, (r.1.acts).map Action.c)] (D.int .i64 (r.2))) []) _ from ?_)
  obtain ⟨y1, h2, h⟩ := den_bind h
  obtain ⟨y3, h4, h⟩ := den_bind h
  have h := den_some h
  subst h
  exact AW_goV (n := 2000) 2 [.gv [0] [(5, (y1.1).map Cond.c)] (D.int .i64 (y1.2)), .gv [1] [(3, (y3.1).map Action.c)] (D.int .i64 (y3.2))] (.ret (D.tup [D.int .i64 (y3.2), D.agg [D.fr 0 5 ((y1.1).map Cond.c), D.val v0_], D.agg [D.fr 0 3 ((y3.1).map Action.c), D.val v1_]])) hΓ mix (by kernel_rfl) (ow (d_laws_markCondS_good h2) (ow (d_laws_markActionS_good h4) ow0)) rfl
end Go.Cx
