/- What functions of the program compute, and the walks that show it. No condition. -/
import Derived.Test.YtocmmccbfnhfpaaNData
namespace Go.Cx
open Go.RowKit Go.Proofs
set_option linter.unusedVariables false
set_option linter.unusedSimpArgs false
set_option maxRecDepth 100000
def d_laws_markText_L1  (k1 : Bytes → Option Bytes) : Nat → Int → Bytes → Option Bytes
  | 0, _, _ => none
  | n1 + 1, v1_0, v1_3 => (bif decide ((v1_0 : Int) > (0)) then (bif decide (0 ≤ (v1_0 : Int)) && decide (0 < (10 : Int)) then (bif decide (([UInt8.ofNat (IntKind.u8.wrap (IntKind.i64.wrap ((48) + ((v1_0 : Int) % (10))))).toNat] : Bytes).length + (v1_3 : Bytes).length ≤ maxLen) then (bif decide (0 ≤ (v1_0 : Int)) && decide (0 < (10 : Int)) then (d_laws_markText_L1  k1 n1 ((v1_0 : Int) / (10)) (([UInt8.ofNat (IntKind.u8.wrap (IntKind.i64.wrap ((48) + ((v1_0 : Int) % (10))))).toNat]) ++ (v1_3))) else none) else none) else none) else (k1 (v1_3)))
def d_laws_markText (a0_ : Int) : Option Bytes := (bif decide ((a0_ : Int) ≤ (0)) then (some ([109, 48])) else (d_laws_markText_L1  (fun (z1_3 : Bytes) => (bif decide (([109] : Bytes).length + (z1_3 : Bytes).length ≤ maxLen) then (some (([109]) ++ (z1_3))) else none)) fuel (a0_) ([])))
theorem d_laws_markText_L1w {Γ : Ctx} (hΓ : Γ.nt = 20) {N : Nat → St → Prop}  {r : Bytes} {k1 : Bytes → Option Bytes} (hE1 : ∀ (z1_3 : Bytes), k1 z1_3 = some r → AW Try.prog Γ (dig (bodyOf Try.f75) [1, 1, 1, 1] []).1 (KQ Try.prog Γ N (RetQ Try.prog Try.f75 (D.str (r))) (dig (bodyOf Try.f75) [1, 1, 1, 1] []).2) ⟨[(3, D.str (z1_3))], []⟩) : ∀ (n1 : Nat) (v1_0 : Int) (v1_3 : Bytes), d_laws_markText_L1  k1 n1 v1_0 v1_3 = some r → AWr Try.prog Γ (dig (bodyOf Try.f75) [1, 1, 1, 0, 0, 0] []).1 (KQ Try.prog Γ N (RetQ Try.prog Try.f75 (D.str (r))) (dig (bodyOf Try.f75) [1, 1, 1, 0, 0] []).2) n1 ⟨[(0, D.int .i64 (v1_0)), (3, D.str (v1_3))], []⟩ := by
  intro n
  induction n with
  | zero => intro v1_0 v1_3 h; simp [d_laws_markText_L1] at h
  | succ n1 ih1 =>
    intro v1_0 v1_3 h
    rw [d_laws_markText_L1] at h
    refine AWr_succ fun N1 hN1 hS1 => ?_
    rcases den_if h with ⟨h10, h⟩ | ⟨h10, h⟩
    · obtain ⟨h11, h⟩ := den_ok h
      obtain ⟨h12, h⟩ := den_ok h
      obtain ⟨h13, h⟩ := den_ok h
      have t := ih1 ((v1_0 : Int) / (10)) (([UInt8.ofNat (IntKind.u8.wrap (IntKind.i64.wrap ((48) + ((v1_0 : Int) % (10))))).toNat]) ++ (v1_3)) h
      refine AW_go (n := 2000) [[none]] [.b true, .cn [0, 3] []] (.cont 0 ⟨[(0, D.int .i64 ((v1_0 : Int) / (10))), (3, D.str (([UInt8.ofNat (IntKind.u8.wrap (IntKind.i64.wrap ((48) + ((v1_0 : Int) % (10))))).toNat]) ++ (v1_3)))], []⟩) hΓ mix (by kernel_rfl) (ow (h10) (ow (quo_ok .i64 h11) (ow (of_decide_eq_true h12) (ow (quo_ok .i64 h13) ow0)))) ?_
      refine (congrFun hS1 _).mpr ?_
      first | exact t | (simp only [List.map_append, List.map_cons, List.map_nil, List.map_set] at t ⊢; exact t)
    · have t := AW_N (N := N) (N' := N1) (K0 := (dig (bodyOf Try.f75) [1, 1, 1, 0, 0] []).2) (by kernel_rfl) hN1 (hE1 (v1_3) h)
      refine AW_go (n := 2000) [[none]] [.b false, .hl 0 [3] []] (.at_ (dig (bodyOf Try.f75) [1, 1, 1, 1] []).1 (dig (bodyOf Try.f75) [1, 1, 1, 1] []).2 ⟨[(3, D.str (v1_3))], []⟩) hΓ mix (by kernel_rfl) (ow (h10) ow0) ?_
      first | exact t | (simp only [List.map_append, List.map_cons, List.map_nil, List.map_set] at t ⊢; exact t)
theorem d_laws_markText_good {a0_ : Int} {r : Bytes} (h : d_laws_markText a0_ = some r) : Good Try.prog 75 [D.int .i64 (a0_)] (D.str (r)) := by
  refine Good.of (c := bodyOf Try.f75) Try.func75 rfl (by decide) (by simp [Try.f75]) ?_
  intro hr Γ hΓ
  have hΓ : Γ.nt = 20 := hΓ
  rw [d_laws_markText] at h
  refine (show AW Try.prog Γ (bodyOf Try.f75) (KQ Try.prog Γ (fun _ _ => False) (RetQ Try.prog Try.f75 (D.str (r))) []) _ from ?_)
  rcases den_if h with ⟨h1, h⟩ | ⟨h1, h⟩
  · have h := den_some h
    subst h
    exact AW_go (n := 2000) [[none]] [.b true] (.ret (D.str ([109, 48]))) hΓ mix (by kernel_rfl) (ow (h1) ow0) rfl
  · refine AW_go (n := 2000) [[none]] [.b false, .cn [0, 3] []] (.lp (dig (bodyOf Try.f75) [1, 1, 1, 0, 0, 0] []).1 (dig (bodyOf Try.f75) [1, 1, 1, 0, 0] []).2 ⟨[(0, D.int .i64 (a0_)), (3, D.str ([]))], []⟩) hΓ mix (by kernel_rfl) (ow (h1) ow0) (AW_st (by first | rfl | (simp only [List.map_append, List.map_cons, List.map_nil, List.map_set, List.map_replicate] <;> rfl)) (AW_of_r (d_laws_markText_L1w hΓ (fun z1_3 h => ?_) fuel (a0_) ([]) h)))
    obtain ⟨h14, h⟩ := den_ok h
    have h := den_some h
    subst h
    exact AW_go (n := 2000) [[none]] [] (.ret (D.str (([109]) ++ (z1_3)))) hΓ mix (by kernel_rfl) (ow (of_decide_eq_true h14) ow0) (by first | rfl | (simp only [List.map_append, List.map_cons, List.map_nil, List.map_set] <;> rfl))
def d_laws_markStringS_L1  (k1 : List Bytes → Int → Option ((List Bytes) × Int)) : List Bytes → List Bytes → Int → Option ((List Bytes) × Int)
  | [], dn1, v1_1 => (k1 (dn1) (v1_1))
  | x1_ :: xs1, dn1, v1_1 => ((d_laws_markText (v1_1)).bind fun y1 => (d_laws_markStringS_L1  k1 xs1 (dn1 ++ [y1]) (IntKind.i64.wrap ((v1_1) + (1)))))
def d_laws_markStringS (a0_ : List Bytes) (a1_ : Int) : Option ((List Bytes) × Int) := (d_laws_markStringS_L1  (fun (q1_0 : List Bytes) (z1_1 : Int) => (some ((q1_0, z1_1)))) (a0_) [] (a1_))
theorem d_laws_markStringS_L1w {Γ : Ctx} (hΓ : Γ.nt = 20) {N : Nat → St → Prop} {v0_ : Value}  {r : (List Bytes) × Int} {k1 : List Bytes → Int → Option ((List Bytes) × Int)} (hE1 : ∀ (q1_0 : List Bytes) (z1_1 : Int), k1 q1_0 z1_1 = some r → AW Try.prog Γ (dig (bodyOf Try.f41) [1, 1] []).1 (KQ Try.prog Γ N (RetV Try.prog Try.f41 [v0_] [(1, (r.1).map tx)] (D.int .i64 (r.2))) (dig (bodyOf Try.f41) [1, 1] []).2) ⟨[(1, D.int .i64 (z1_1))], [Ob.lent 1 ((q1_0).map tx) (some v0_)]⟩) : ∀ (rest : List Bytes) (dn1 : List Bytes) (v1_1 : Int), (dn1).length + rest.length ≤ maxLen → d_laws_markStringS_L1  k1 rest dn1 v1_1 = some r → AWr Try.prog Γ (dig (bodyOf Try.f41) [1, 0, 1, 0, 0] []).1 (KQ Try.prog Γ N (RetV Try.prog Try.f41 [v0_] [(1, (r.1).map tx)] (D.int .i64 (r.2))) (dig (bodyOf Try.f41) [1, 0, 1, 0] []).2) (rest.length + 1) ⟨[(0, D.acc 0), (1, D.int .i64 (v1_1)), (5, D.int .i64 (((dn1).length : Int)))], [Ob.lent 1 ((dn1).map tx ++ (rest).map tx) (some v0_)]⟩ := by
  intro rest
  induction rest with
  | nil =>
    intro dn1 v1_1 hm1 h
    rw [d_laws_markStringS_L1] at h
    refine AWr_succ fun N1 hN1 hS1 => ?_
    have t := AW_N (N := N) (N' := N1) (K0 := (dig (bodyOf Try.f41) [1, 0, 1, 0] []).2) (by kernel_rfl) hN1 (hE1 (dn1) (v1_1) h)
    refine AW_goV (n := 2000) 1 [.b false, .hl 0 [1] [0]] (.at_ (dig (bodyOf Try.f41) [1, 1] []).1 (dig (bodyOf Try.f41) [1, 1] []).2 ⟨[(1, D.int .i64 (v1_1))], [Ob.lent 1 ((dn1).map tx ++ (([] : List Bytes)).map tx) (some v0_)]⟩) hΓ mix (by kernel_rfl) (ow (show (decide ((((dn1).length : Int) : Int) < ((((dn1).map tx ++ (([] : List Bytes)).map tx).length : Int)))) = false from (ge_mid _)) ow0) ?_
    refine AW_st (s := ⟨[(1, D.int .i64 (v1_1))], [Ob.lent 1 ((dn1).map tx ++ (([] : List Bytes)).map tx) (some v0_)]⟩) ?_ t
    simp only [List.map_nil, List.append_nil]
  | cons x1_ xs1 ih1 =>
    intro dn1 v1_1 hm1 h
    rw [d_laws_markStringS_L1] at h
    refine AWr_succ fun N1 hN1 hS1 => ?_
    obtain ⟨y1, h2, h⟩ := den_bind h
    have t := ih1 (dn1 ++ [y1]) (IntKind.i64.wrap ((v1_1) + (1))) (by simp only [List.length_append, List.length_cons, List.length_nil] at hm1 ⊢; omega) h
    refine AW_goV (n := 2000) 1 [.b true, .d (D.str (y1)), .ix ((dn1).length), .row [D.str (x1_)], .cn [0, 1, 5] [0]] (.cont 0 ⟨[(0, D.acc 0), (1, D.int .i64 (IntKind.i64.wrap ((v1_1) + (1)))), (5, D.int .i64 (IntKind.i64.wrap ((((dn1).length : Int)) + (1))))], [Ob.lent 1 (((dn1).map tx ++ ([D.str (x1_)] :: (xs1).map tx)).set (dn1).length [D.str (y1)]) (some v0_)]⟩) hΓ mix (by kernel_rfl) (ow (show (decide ((((dn1).length : Int) : Int) < ((((dn1).map tx ++ ([D.str (x1_)] :: (xs1).map tx)).length : Int)))) = true from (lt_mid _ _ _)) (ow (d_laws_markText_good h2) (ow (show (((dn1).length : Int)) = (((dn1).length : Nat) : Int) ∧ (dn1).length < ((dn1).map tx ++ ([D.str (x1_)] :: (xs1).map tx)).length from ⟨rfl, by simp only [List.length_set, List.length_append, List.length_map, List.length_cons]; omega⟩) (ow (show ((dn1).map tx ++ ([D.str (x1_)] :: (xs1).map tx))[(dn1).length]? = some [D.str (x1_)] from by (try simp only [set_mid]); exact get_mid _ _ _) ow0)))) ?_
    refine (congrFun hS1 _).mpr ?_
    rw [i64_mid (by simp only [List.length_cons] at hm1; omega)]
    simp only [set_mid]
    simp only [List.map_append, List.map_cons, List.map_nil, List.append_assoc, List.cons_append, List.nil_append, List.length_append, List.length_cons, List.length_nil] at t ⊢
    exact t
theorem d_laws_markStringS_good {a0_ : List Bytes} {a1_ : Int} {r : (List Bytes) × Int} (h : d_laws_markStringS a0_ a1_ = some r) : GoodV Try.prog 41 [D.acc 0, D.int .i64 (a1_)] [(1, (a0_).map tx)] [(1, (r.1).map tx)] (D.int .i64 (r.2)) := by
  refine GoodV.of (c := bodyOf Try.f41) Try.func41 rfl (by decide) (by simp [Try.f41]) rfl rfl ?_
  intro hr Γ hΓ vs hvs
  match vs, hvs with
  | [v0_], _ =>
  have hΓ : Γ.nt = 20 := hΓ
  rw [d_laws_markStringS] at h
  refine (show AW Try.prog Γ (bodyOf Try.f41) (KQ Try.prog Γ (fun _ _ => False) (RetV Try.prog Try.f41 [v0_] [(1, (r.1).map tx)] (D.int .i64 (r.2))) []) _ from ?_)
  refine AW_goV (n := 2000) 1 [.cn [0, 1, 5] [0]] (.lp (dig (bodyOf Try.f41) [1, 0, 1, 0, 0] []).1 (dig (bodyOf Try.f41) [1, 0, 1, 0] []).2 ⟨[(0, D.acc 0), (1, D.int .i64 (a1_)), (5, D.int .i64 (0))], [Ob.lent 1 ((a0_).map tx) (some v0_)]⟩) hΓ mix (by kernel_rfl) ow0 (AW_st (by rfl) (AW_of_r (d_laws_markStringS_L1w hΓ (fun q1_0 z1_1 h => ?_) (a0_) [] (a1_) (by have := hr _ (List.mem_of_getElem? (i := 0) rfl); simpa using this) h)))
  have h := den_some h
  subst h
  exact AW_goV (n := 2000) 1 [] (.ret (D.tup [D.int .i64 (z1_1), D.agg [D.fr 0 1 ((q1_0).map tx), D.val v0_]])) hΓ mix (by kernel_rfl) ow0 rfl
def d_laws_markStampS_L1  (k1 : List Stamp → Int → Option ((List Stamp) × Int)) : List Stamp → List Stamp → Int → Option ((List Stamp) × Int)
  | [], dn1, v1_1 => (k1 (dn1) (v1_1))
  | x1_ :: xs1, dn1, v1_1 => ((d_laws_markText (v1_1)).bind fun y1 => ((d_laws_markStringS (x1_.fact.args) (IntKind.i64.wrap ((v1_1) + (1)))).bind fun y3 => (d_laws_markStampS_L1  k1 xs1 (dn1 ++ [(⟨(⟨y1, y3.1⟩ : Fact), y3.2⟩ : Stamp)]) (IntKind.i64.wrap ((y3.2) + (1))))))
def d_laws_markStampS (a0_ : List Stamp) (a1_ : Int) : Option ((List Stamp) × Int) := (d_laws_markStampS_L1  (fun (q1_0 : List Stamp) (z1_1 : Int) => (some ((q1_0, z1_1)))) (a0_) [] (a1_))
theorem d_laws_markStampS_L1w {Γ : Ctx} (hΓ : Γ.nt = 37) {N : Nat → St → Prop} {v0_ : Value}  {r : (List Stamp) × Int} {k1 : List Stamp → Int → Option ((List Stamp) × Int)} (hE1 : ∀ (q1_0 : List Stamp) (z1_1 : Int), k1 q1_0 z1_1 = some r → AW Try.prog Γ (dig (bodyOf Try.f21) [1, 1] []).1 (KQ Try.prog Γ N (RetV Try.prog Try.f21 [v0_] [(3, (r.1).map Stamp.c)] (D.int .i64 (r.2))) (dig (bodyOf Try.f21) [1, 1] []).2) ⟨[(1, D.int .i64 (z1_1))], [Ob.lent 3 ((q1_0).map Stamp.c) (some v0_)]⟩) : ∀ (rest : List Stamp) (dn1 : List Stamp) (v1_1 : Int), (dn1).length + rest.length ≤ maxLen → d_laws_markStampS_L1  k1 rest dn1 v1_1 = some r → AWr Try.prog Γ (dig (bodyOf Try.f21) [1, 0, 1, 0, 0] []).1 (KQ Try.prog Γ N (RetV Try.prog Try.f21 [v0_] [(3, (r.1).map Stamp.c)] (D.int .i64 (r.2))) (dig (bodyOf Try.f21) [1, 0, 1, 0] []).2) (rest.length + 1) ⟨[(0, D.acc 0), (1, D.int .i64 (v1_1)), (5, D.int .i64 (((dn1).length : Int)))], [Ob.lent 3 ((dn1).map Stamp.c ++ (rest).map Stamp.c) (some v0_)]⟩ := by
  intro rest
  induction rest with
  | nil =>
    intro dn1 v1_1 hm1 h
    rw [d_laws_markStampS_L1] at h
    refine AWr_succ fun N1 hN1 hS1 => ?_
    have t := AW_N (N := N) (N' := N1) (K0 := (dig (bodyOf Try.f21) [1, 0, 1, 0] []).2) (by kernel_rfl) hN1 (hE1 (dn1) (v1_1) h)
    refine AW_goV (n := 2000) 1 [.b false, .hl 0 [1] [0]] (.at_ (dig (bodyOf Try.f21) [1, 1] []).1 (dig (bodyOf Try.f21) [1, 1] []).2 ⟨[(1, D.int .i64 (v1_1))], [Ob.lent 3 ((dn1).map Stamp.c ++ (([] : List Stamp)).map Stamp.c) (some v0_)]⟩) hΓ mix (by kernel_rfl) (ow (show (decide ((((dn1).length : Int) : Int) < ((((dn1).map Stamp.c ++ (([] : List Stamp)).map Stamp.c).length : Int)))) = false from (ge_mid _)) ow0) ?_
    refine AW_st (s := ⟨[(1, D.int .i64 (v1_1))], [Ob.lent 3 ((dn1).map Stamp.c ++ (([] : List Stamp)).map Stamp.c) (some v0_)]⟩) ?_ t
    simp only [List.map_nil, List.append_nil]
  | cons x1_ xs1 ih1 =>
    intro dn1 v1_1 hm1 h
    rw [d_laws_markStampS_L1] at h
    refine AWr_succ fun N1 hN1 hS1 => ?_
    obtain ⟨y1, h2, h⟩ := den_bind h
    obtain ⟨y3, h4, h⟩ := den_bind h
    have t := ih1 (dn1 ++ [(⟨(⟨y1, y3.1⟩ : Fact), y3.2⟩ : Stamp)]) (IntKind.i64.wrap ((y3.2) + (1))) (by simp only [List.length_append, List.length_cons, List.length_nil] at hm1 ⊢; omega) h
    refine AW_goV (n := 2000) 1 [.b true, .d (D.str (y1)), .ix ((dn1).length), .row [D.str (x1_.fact.rel), D.sl ((x1_.fact.args).map tx), D.int .i64 (x1_.time)], .ix ((dn1).length), .row [D.str (y1), D.sl ((x1_.fact.args).map tx), D.int .i64 (x1_.time)], .gv [1] [(1, (y3.1).map tx)] (D.int .i64 (y3.2)), .mg 0 (dn1).length 1 [D.str (y1), D.any, D.int .i64 (x1_.time)], .ix ((dn1).length), .row [D.str (y1), D.sl ((y3.1).map tx), D.int .i64 (x1_.time)], .cn [0, 1, 5] [0]] (.cont 0 ⟨[(0, D.acc 0), (1, D.int .i64 (IntKind.i64.wrap ((y3.2) + (1)))), (5, D.int .i64 (IntKind.i64.wrap ((((dn1).length : Int)) + (1))))], [Ob.lent 3 ((((((dn1).map Stamp.c ++ ([D.str (x1_.fact.rel), D.sl ((x1_.fact.args).map tx), D.int .i64 (x1_.time)] :: (xs1).map Stamp.c)).set (dn1).length [D.str (y1), D.sl ((x1_.fact.args).map tx), D.int .i64 (x1_.time)]).set (dn1).length [D.str (y1), D.any, D.int .i64 (x1_.time)]).set (dn1).length [D.str (y1), D.sl ((y3.1).map tx), D.int .i64 (x1_.time)]).set (dn1).length [D.str (y1), D.sl ((y3.1).map tx), D.int .i64 (y3.2)]) (some v0_)]⟩) hΓ mix (by kernel_rfl) (ow (show (decide ((((dn1).length : Int) : Int) < ((((dn1).map Stamp.c ++ ([D.str (x1_.fact.rel), D.sl ((x1_.fact.args).map tx), D.int .i64 (x1_.time)] :: (xs1).map Stamp.c)).length : Int)))) = true from (lt_mid _ _ _)) (ow (d_laws_markText_good h2) (ow (show (((dn1).length : Int)) = (((dn1).length : Nat) : Int) ∧ (dn1).length < ((dn1).map Stamp.c ++ ([D.str (x1_.fact.rel), D.sl ((x1_.fact.args).map tx), D.int .i64 (x1_.time)] :: (xs1).map Stamp.c)).length from ⟨rfl, by simp only [List.length_set, List.length_append, List.length_map, List.length_cons]; omega⟩) (ow (show ((dn1).map Stamp.c ++ ([D.str (x1_.fact.rel), D.sl ((x1_.fact.args).map tx), D.int .i64 (x1_.time)] :: (xs1).map Stamp.c))[(dn1).length]? = some [D.str (x1_.fact.rel), D.sl ((x1_.fact.args).map tx), D.int .i64 (x1_.time)] from by (try simp only [set_mid]); exact get_mid _ _ _) (ow (show (((dn1).length : Int)) = (((dn1).length : Nat) : Int) ∧ (dn1).length < (((dn1).map Stamp.c ++ ([D.str (x1_.fact.rel), D.sl ((x1_.fact.args).map tx), D.int .i64 (x1_.time)] :: (xs1).map Stamp.c)).set (dn1).length [D.str (y1), D.sl ((x1_.fact.args).map tx), D.int .i64 (x1_.time)]).length from ⟨rfl, by simp only [List.length_set, List.length_append, List.length_map, List.length_cons]; omega⟩) (ow (show (((dn1).map Stamp.c ++ ([D.str (x1_.fact.rel), D.sl ((x1_.fact.args).map tx), D.int .i64 (x1_.time)] :: (xs1).map Stamp.c)).set (dn1).length [D.str (y1), D.sl ((x1_.fact.args).map tx), D.int .i64 (x1_.time)])[(dn1).length]? = some [D.str (y1), D.sl ((x1_.fact.args).map tx), D.int .i64 (x1_.time)] from by (try simp only [set_mid]); exact get_mid _ _ _) (ow (show ∀ q ∈ ((x1_.fact.args).map tx), q.length = 1 from by simp) (ow (d_laws_markStringS_good h4) (ow (show ((((dn1).map Stamp.c ++ ([D.str (x1_.fact.rel), D.sl ((x1_.fact.args).map tx), D.int .i64 (x1_.time)] :: (xs1).map Stamp.c)).set (dn1).length [D.str (y1), D.sl ((x1_.fact.args).map tx), D.int .i64 (x1_.time)]).set (dn1).length [D.str (y1), D.any, D.int .i64 (x1_.time)])[(dn1).length]? = some [D.str (y1), D.any, D.int .i64 (x1_.time)] from by (try simp only [set_mid]); exact get_mid _ _ _) (ow (show ((dn1).length * 3 + 1) = (dn1).length * 3 + 1 from rfl) (ow (show (((dn1).length : Int)) = (((dn1).length : Nat) : Int) ∧ (dn1).length < (((((dn1).map Stamp.c ++ ([D.str (x1_.fact.rel), D.sl ((x1_.fact.args).map tx), D.int .i64 (x1_.time)] :: (xs1).map Stamp.c)).set (dn1).length [D.str (y1), D.sl ((x1_.fact.args).map tx), D.int .i64 (x1_.time)]).set (dn1).length [D.str (y1), D.any, D.int .i64 (x1_.time)]).set (dn1).length [D.str (y1), D.sl ((y3.1).map tx), D.int .i64 (x1_.time)]).length from ⟨rfl, by simp only [List.length_set, List.length_append, List.length_map, List.length_cons]; omega⟩) (ow (show (((((dn1).map Stamp.c ++ ([D.str (x1_.fact.rel), D.sl ((x1_.fact.args).map tx), D.int .i64 (x1_.time)] :: (xs1).map Stamp.c)).set (dn1).length [D.str (y1), D.sl ((x1_.fact.args).map tx), D.int .i64 (x1_.time)]).set (dn1).length [D.str (y1), D.any, D.int .i64 (x1_.time)]).set (dn1).length [D.str (y1), D.sl ((y3.1).map tx), D.int .i64 (x1_.time)])[(dn1).length]? = some [D.str (y1), D.sl ((y3.1).map tx), D.int .i64 (x1_.time)] from by (try simp only [set_mid]); exact get_mid _ _ _) ow0)))))))))))) ?_
    refine (congrFun hS1 _).mpr ?_
    rw [i64_mid (by simp only [List.length_cons] at hm1; omega)]
    simp only [set_mid]
    simp only [List.map_append, List.map_cons, List.map_nil, List.append_assoc, List.cons_append, List.nil_append, List.length_append, List.length_cons, List.length_nil] at t ⊢
    exact t
theorem d_laws_markStampS_good {a0_ : List Stamp} {a1_ : Int} {r : (List Stamp) × Int} (h : d_laws_markStampS a0_ a1_ = some r) : GoodV Try.prog 21 [D.acc 0, D.int .i64 (a1_)] [(3, (a0_).map Stamp.c)] [(3, (r.1).map Stamp.c)] (D.int .i64 (r.2)) := by
  refine GoodV.of (c := bodyOf Try.f21) Try.func21 rfl (by decide) (by simp [Try.f21]) rfl rfl ?_
  intro hr Γ hΓ vs hvs
  match vs, hvs with
  | [v0_], _ =>
  have hΓ : Γ.nt = 37 := hΓ
  rw [d_laws_markStampS] at h
  refine (show AW Try.prog Γ (bodyOf Try.f21) (KQ Try.prog Γ (fun _ _ => False) (RetV Try.prog Try.f21 [v0_] [(3, (r.1).map Stamp.c)] (D.int .i64 (r.2))) []) _ from ?_)
  refine AW_goV (n := 2000) 1 [.cn [0, 1, 5] [0]] (.lp (dig (bodyOf Try.f21) [1, 0, 1, 0, 0] []).1 (dig (bodyOf Try.f21) [1, 0, 1, 0] []).2 ⟨[(0, D.acc 0), (1, D.int .i64 (a1_)), (5, D.int .i64 (0))], [Ob.lent 3 ((a0_).map Stamp.c) (some v0_)]⟩) hΓ mix (by kernel_rfl) ow0 (AW_st (by rfl) (AW_of_r (d_laws_markStampS_L1w hΓ (fun q1_0 z1_1 h => ?_) (a0_) [] (a1_) (by have := hr _ (List.mem_of_getElem? (i := 0) rfl); simpa using this) h)))
  have h := den_some h
  subst h
  exact AW_goV (n := 2000) 1 [] (.ret (D.tup [D.int .i64 (z1_1), D.agg [D.fr 0 3 ((q1_0).map Stamp.c), D.val v0_]])) hΓ mix (by kernel_rfl) ow0 rfl
def d_laws_markFactS_L1  (k1 : List Fact → Int → Option ((List Fact) × Int)) : List Fact → List Fact → Int → Option ((List Fact) × Int)
  | [], dn1, v1_1 => (k1 (dn1) (v1_1))
  | x1_ :: xs1, dn1, v1_1 => ((d_laws_markText (v1_1)).bind fun y1 => ((d_laws_markStringS (x1_.args) (IntKind.i64.wrap ((v1_1) + (1)))).bind fun y3 => (d_laws_markFactS_L1  k1 xs1 (dn1 ++ [(⟨y1, y3.1⟩ : Fact)]) (y3.2))))
def d_laws_markFactS (a0_ : List Fact) (a1_ : Int) : Option ((List Fact) × Int) := (d_laws_markFactS_L1  (fun (q1_0 : List Fact) (z1_1 : Int) => (some ((q1_0, z1_1)))) (a0_) [] (a1_))
theorem d_laws_markFactS_L1w {Γ : Ctx} (hΓ : Γ.nt = 28) {N : Nat → St → Prop} {v0_ : Value}  {r : (List Fact) × Int} {k1 : List Fact → Int → Option ((List Fact) × Int)} (hE1 : ∀ (q1_0 : List Fact) (z1_1 : Int), k1 q1_0 z1_1 = some r → AW Try.prog Γ (dig (bodyOf Try.f22) [1, 1] []).1 (KQ Try.prog Γ N (RetV Try.prog Try.f22 [v0_] [(2, (r.1).map Fact.c)] (D.int .i64 (r.2))) (dig (bodyOf Try.f22) [1, 1] []).2) ⟨[(1, D.int .i64 (z1_1))], [Ob.lent 2 ((q1_0).map Fact.c) (some v0_)]⟩) : ∀ (rest : List Fact) (dn1 : List Fact) (v1_1 : Int), (dn1).length + rest.length ≤ maxLen → d_laws_markFactS_L1  k1 rest dn1 v1_1 = some r → AWr Try.prog Γ (dig (bodyOf Try.f22) [1, 0, 1, 0, 0] []).1 (KQ Try.prog Γ N (RetV Try.prog Try.f22 [v0_] [(2, (r.1).map Fact.c)] (D.int .i64 (r.2))) (dig (bodyOf Try.f22) [1, 0, 1, 0] []).2) (rest.length + 1) ⟨[(0, D.acc 0), (1, D.int .i64 (v1_1)), (5, D.int .i64 (((dn1).length : Int)))], [Ob.lent 2 ((dn1).map Fact.c ++ (rest).map Fact.c) (some v0_)]⟩ := by
  intro rest
  induction rest with
  | nil =>
    intro dn1 v1_1 hm1 h
    rw [d_laws_markFactS_L1] at h
    refine AWr_succ fun N1 hN1 hS1 => ?_
    have t := AW_N (N := N) (N' := N1) (K0 := (dig (bodyOf Try.f22) [1, 0, 1, 0] []).2) (by kernel_rfl) hN1 (hE1 (dn1) (v1_1) h)
    refine AW_goV (n := 2000) 1 [.b false, .hl 0 [1] [0]] (.at_ (dig (bodyOf Try.f22) [1, 1] []).1 (dig (bodyOf Try.f22) [1, 1] []).2 ⟨[(1, D.int .i64 (v1_1))], [Ob.lent 2 ((dn1).map Fact.c ++ (([] : List Fact)).map Fact.c) (some v0_)]⟩) hΓ mix (by kernel_rfl) (ow (show (decide ((((dn1).length : Int) : Int) < ((((dn1).map Fact.c ++ (([] : List Fact)).map Fact.c).length : Int)))) = false from (ge_mid _)) ow0) ?_
    refine AW_st (s := ⟨[(1, D.int .i64 (v1_1))], [Ob.lent 2 ((dn1).map Fact.c ++ (([] : List Fact)).map Fact.c) (some v0_)]⟩) ?_ t
    simp only [List.map_nil, List.append_nil]
  | cons x1_ xs1 ih1 =>
    intro dn1 v1_1 hm1 h
    rw [d_laws_markFactS_L1] at h
    refine AWr_succ fun N1 hN1 hS1 => ?_
    obtain ⟨y1, h2, h⟩ := den_bind h
    obtain ⟨y3, h4, h⟩ := den_bind h
    have t := ih1 (dn1 ++ [(⟨y1, y3.1⟩ : Fact)]) (y3.2) (by simp only [List.length_append, List.length_cons, List.length_nil] at hm1 ⊢; omega) h
    refine AW_goV (n := 2000) 1 [.b true, .d (D.str (y1)), .ix ((dn1).length), .row [D.str (x1_.rel), D.sl ((x1_.args).map tx)], .ix ((dn1).length), .row [D.str (y1), D.sl ((x1_.args).map tx)], .gv [1] [(1, (y3.1).map tx)] (D.int .i64 (y3.2)), .mg 0 (dn1).length 1 [D.str (y1), D.any], .cn [0, 1, 5] [0]] (.cont 0 ⟨[(0, D.acc 0), (1, D.int .i64 (y3.2)), (5, D.int .i64 (IntKind.i64.wrap ((((dn1).length : Int)) + (1))))], [Ob.lent 2 (((((dn1).map Fact.c ++ ([D.str (x1_.rel), D.sl ((x1_.args).map tx)] :: (xs1).map Fact.c)).set (dn1).length [D.str (y1), D.sl ((x1_.args).map tx)]).set (dn1).length [D.str (y1), D.any]).set (dn1).length [D.str (y1), D.sl ((y3.1).map tx)]) (some v0_)]⟩) hΓ mix (by kernel_rfl) (ow (show (decide ((((dn1).length : Int) : Int) < ((((dn1).map Fact.c ++ ([D.str (x1_.rel), D.sl ((x1_.args).map tx)] :: (xs1).map Fact.c)).length : Int)))) = true from (lt_mid _ _ _)) (ow (d_laws_markText_good h2) (ow (show (((dn1).length : Int)) = (((dn1).length : Nat) : Int) ∧ (dn1).length < ((dn1).map Fact.c ++ ([D.str (x1_.rel), D.sl ((x1_.args).map tx)] :: (xs1).map Fact.c)).length from ⟨rfl, by simp only [List.length_set, List.length_append, List.length_map, List.length_cons]; omega⟩) (ow (show ((dn1).map Fact.c ++ ([D.str (x1_.rel), D.sl ((x1_.args).map tx)] :: (xs1).map Fact.c))[(dn1).length]? = some [D.str (x1_.rel), D.sl ((x1_.args).map tx)] from by (try simp only [set_mid]); exact get_mid _ _ _) (ow (show (((dn1).length : Int)) = (((dn1).length : Nat) : Int) ∧ (dn1).length < (((dn1).map Fact.c ++ ([D.str (x1_.rel), D.sl ((x1_.args).map tx)] :: (xs1).map Fact.c)).set (dn1).length [D.str (y1), D.sl ((x1_.args).map tx)]).length from ⟨rfl, by simp only [List.length_set, List.length_append, List.length_map, List.length_cons]; omega⟩) (ow (show (((dn1).map Fact.c ++ ([D.str (x1_.rel), D.sl ((x1_.args).map tx)] :: (xs1).map Fact.c)).set (dn1).length [D.str (y1), D.sl ((x1_.args).map tx)])[(dn1).length]? = some [D.str (y1), D.sl ((x1_.args).map tx)] from by (try simp only [set_mid]); exact get_mid _ _ _) (ow (show ∀ q ∈ ((x1_.args).map tx), q.length = 1 from by simp) (ow (d_laws_markStringS_good h4) (ow (show ((((dn1).map Fact.c ++ ([D.str (x1_.rel), D.sl ((x1_.args).map tx)] :: (xs1).map Fact.c)).set (dn1).length [D.str (y1), D.sl ((x1_.args).map tx)]).set (dn1).length [D.str (y1), D.any])[(dn1).length]? = some [D.str (y1), D.any] from by (try simp only [set_mid]); exact get_mid _ _ _) (ow (show ((dn1).length * 2 + 1) = (dn1).length * 2 + 1 from rfl) ow0)))))))))) ?_
    refine (congrFun hS1 _).mpr ?_
    rw [i64_mid (by simp only [List.length_cons] at hm1; omega)]
    simp only [set_mid]
    simp only [List.map_append, List.map_cons, List.map_nil, List.append_assoc, List.cons_append, List.nil_append, List.length_append, List.length_cons, List.length_nil] at t ⊢
    exact t
theorem d_laws_markFactS_good {a0_ : List Fact} {a1_ : Int} {r : (List Fact) × Int} (h : d_laws_markFactS a0_ a1_ = some r) : GoodV Try.prog 22 [D.acc 0, D.int .i64 (a1_)] [(2, (a0_).map Fact.c)] [(2, (r.1).map Fact.c)] (D.int .i64 (r.2)) := by
  refine GoodV.of (c := bodyOf Try.f22) Try.func22 rfl (by decide) (by simp [Try.f22]) rfl rfl ?_
  intro hr Γ hΓ vs hvs
  match vs, hvs with
  | [v0_], _ =>
  have hΓ : Γ.nt = 28 := hΓ
  rw [d_laws_markFactS] at h
  refine (show AW Try.prog Γ (bodyOf Try.f22) (KQ Try.prog Γ (fun _ _ => False) (RetV Try.prog Try.f22 [v0_] [(2, (r.1).map Fact.c)] (D.int .i64 (r.2))) []) _ from ?_)
  refine AW_goV (n := 2000) 1 [.cn [0, 1, 5] [0]] (.lp (dig (bodyOf Try.f22) [1, 0, 1, 0, 0] []).1 (dig (bodyOf Try.f22) [1, 0, 1, 0] []).2 ⟨[(0, D.acc 0), (1, D.int .i64 (a1_)), (5, D.int .i64 (0))], [Ob.lent 2 ((a0_).map Fact.c) (some v0_)]⟩) hΓ mix (by kernel_rfl) ow0 (AW_st (by rfl) (AW_of_r (d_laws_markFactS_L1w hΓ (fun q1_0 z1_1 h => ?_) (a0_) [] (a1_) (by have := hr _ (List.mem_of_getElem? (i := 0) rfl); simpa using this) h)))
  have h := den_some h
  subst h
  exact AW_goV (n := 2000) 1 [] (.ret (D.tup [D.int .i64 (z1_1), D.agg [D.fr 0 2 ((q1_0).map Fact.c), D.val v0_]])) hΓ mix (by kernel_rfl) ow0 rfl
def d_laws_markIntS_L1  (k1 : List Int → Int → Option ((List Int) × Int)) : List Int → List Int → Int → Option ((List Int) × Int)
  | [], dn1, v1_1 => (k1 (dn1) (v1_1))
  | x1_ :: xs1, dn1, v1_1 => (d_laws_markIntS_L1  k1 xs1 (dn1 ++ [v1_1]) (IntKind.i64.wrap ((v1_1) + (1))))
def d_laws_markIntS (a0_ : List Int) (a1_ : Int) : Option ((List Int) × Int) := (d_laws_markIntS_L1  (fun (q1_0 : List Int) (z1_1 : Int) => (some ((q1_0, z1_1)))) (a0_) [] (a1_))
theorem d_laws_markIntS_L1w {Γ : Ctx} (hΓ : Γ.nt = 19) {N : Nat → St → Prop} {v0_ : Value}  {r : (List Int) × Int} {k1 : List Int → Int → Option ((List Int) × Int)} (hE1 : ∀ (q1_0 : List Int) (z1_1 : Int), k1 q1_0 z1_1 = some r → AW Try.prog Γ (dig (bodyOf Try.f29) [1, 1] []).1 (KQ Try.prog Γ N (RetV Try.prog Try.f29 [v0_] [(1, (r.1).map ixx)] (D.int .i64 (r.2))) (dig (bodyOf Try.f29) [1, 1] []).2) ⟨[(1, D.int .i64 (z1_1))], [Ob.lent 1 ((q1_0).map ixx) (some v0_)]⟩) : ∀ (rest : List Int) (dn1 : List Int) (v1_1 : Int), (dn1).length + rest.length ≤ maxLen → d_laws_markIntS_L1  k1 rest dn1 v1_1 = some r → AWr Try.prog Γ (dig (bodyOf Try.f29) [1, 0, 1, 0, 0] []).1 (KQ Try.prog Γ N (RetV Try.prog Try.f29 [v0_] [(1, (r.1).map ixx)] (D.int .i64 (r.2))) (dig (bodyOf Try.f29) [1, 0, 1, 0] []).2) (rest.length + 1) ⟨[(0, D.acc 0), (1, D.int .i64 (v1_1)), (5, D.int .i64 (((dn1).length : Int)))], [Ob.lent 1 ((dn1).map ixx ++ (rest).map ixx) (some v0_)]⟩ := by
  intro rest
  induction rest with
  | nil =>
    intro dn1 v1_1 hm1 h
    rw [d_laws_markIntS_L1] at h
    refine AWr_succ fun N1 hN1 hS1 => ?_
    have t := AW_N (N := N) (N' := N1) (K0 := (dig (bodyOf Try.f29) [1, 0, 1, 0] []).2) (by kernel_rfl) hN1 (hE1 (dn1) (v1_1) h)
    refine AW_goV (n := 2000) 1 [.b false, .hl 0 [1] [0]] (.at_ (dig (bodyOf Try.f29) [1, 1] []).1 (dig (bodyOf Try.f29) [1, 1] []).2 ⟨[(1, D.int .i64 (v1_1))], [Ob.lent 1 ((dn1).map ixx ++ (([] : List Int)).map ixx) (some v0_)]⟩) hΓ mix (by kernel_rfl) (ow (show (decide ((((dn1).length : Int) : Int) < ((((dn1).map ixx ++ (([] : List Int)).map ixx).length : Int)))) = false from (ge_mid _)) ow0) ?_
    refine AW_st (s := ⟨[(1, D.int .i64 (v1_1))], [Ob.lent 1 ((dn1).map ixx ++ (([] : List Int)).map ixx) (some v0_)]⟩) ?_ t
    simp only [List.map_nil, List.append_nil]
  | cons x1_ xs1 ih1 =>
    intro dn1 v1_1 hm1 h
    rw [d_laws_markIntS_L1] at h
    refine AWr_succ fun N1 hN1 hS1 => ?_
    have t := ih1 (dn1 ++ [v1_1]) (IntKind.i64.wrap ((v1_1) + (1))) (by simp only [List.length_append, List.length_cons, List.length_nil] at hm1 ⊢; omega) h
    refine AW_goV (n := 2000) 1 [.b true, .ix ((dn1).length), .row [D.int .i64 (x1_)], .cn [0, 1, 5] [0]] (.cont 0 ⟨[(0, D.acc 0), (1, D.int .i64 (IntKind.i64.wrap ((v1_1) + (1)))), (5, D.int .i64 (IntKind.i64.wrap ((((dn1).length : Int)) + (1))))], [Ob.lent 1 (((dn1).map ixx ++ ([D.int .i64 (x1_)] :: (xs1).map ixx)).set (dn1).length [D.int .i64 (v1_1)]) (some v0_)]⟩) hΓ mix (by kernel_rfl) (ow (show (decide ((((dn1).length : Int) : Int) < ((((dn1).map ixx ++ ([D.int .i64 (x1_)] :: (xs1).map ixx)).length : Int)))) = true from (lt_mid _ _ _)) (ow (show (((dn1).length : Int)) = (((dn1).length : Nat) : Int) ∧ (dn1).length < ((dn1).map ixx ++ ([D.int .i64 (x1_)] :: (xs1).map ixx)).length from ⟨rfl, by simp only [List.length_set, List.length_append, List.length_map, List.length_cons]; omega⟩) (ow (show ((dn1).map ixx ++ ([D.int .i64 (x1_)] :: (xs1).map ixx))[(dn1).length]? = some [D.int .i64 (x1_)] from by (try simp only [set_mid]); exact get_mid _ _ _) ow0))) ?_
    refine (congrFun hS1 _).mpr ?_
    rw [i64_mid (by simp only [List.length_cons] at hm1; omega)]
    simp only [set_mid]
    simp only [List.map_append, List.map_cons, List.map_nil, List.append_assoc, List.cons_append, List.nil_append, List.length_append, List.length_cons, List.length_nil] at t ⊢
    exact t
theorem d_laws_markIntS_good {a0_ : List Int} {a1_ : Int} {r : (List Int) × Int} (h : d_laws_markIntS a0_ a1_ = some r) : GoodV Try.prog 29 [D.acc 0, D.int .i64 (a1_)] [(1, (a0_).map ixx)] [(1, (r.1).map ixx)] (D.int .i64 (r.2)) := by
  refine GoodV.of (c := bodyOf Try.f29) Try.func29 rfl (by decide) (by simp [Try.f29]) rfl rfl ?_
  intro hr Γ hΓ vs hvs
  match vs, hvs with
  | [v0_], _ =>
  have hΓ : Γ.nt = 19 := hΓ
  rw [d_laws_markIntS] at h
  refine (show AW Try.prog Γ (bodyOf Try.f29) (KQ Try.prog Γ (fun _ _ => False) (RetV Try.prog Try.f29 [v0_] [(1, (r.1).map ixx)] (D.int .i64 (r.2))) []) _ from ?_)
  refine AW_goV (n := 2000) 1 [.cn [0, 1, 5] [0]] (.lp (dig (bodyOf Try.f29) [1, 0, 1, 0, 0] []).1 (dig (bodyOf Try.f29) [1, 0, 1, 0] []).2 ⟨[(0, D.acc 0), (1, D.int .i64 (a1_)), (5, D.int .i64 (0))], [Ob.lent 1 ((a0_).map ixx) (some v0_)]⟩) hΓ mix (by kernel_rfl) ow0 (AW_st (by rfl) (AW_of_r (d_laws_markIntS_L1w hΓ (fun q1_0 z1_1 h => ?_) (a0_) [] (a1_) (by have := hr _ (List.mem_of_getElem? (i := 0) rfl); simpa using this) h)))
  have h := den_some h
  subst h
  exact AW_goV (n := 2000) 1 [] (.ret (D.tup [D.int .i64 (z1_1), D.agg [D.fr 0 1 ((q1_0).map ixx), D.val v0_]])) hΓ mix (by kernel_rfl) ow0 rfl
end Go.Cx
