/- What functions of the program compute, and the walks that show it. No condition. -/
import Derived.Test.YtdckcgjimblpkaaDoorNLay
namespace Go.Cx
open Go.RowKit Go.Proofs
set_option linter.unusedVariables false
set_option linter.unusedSimpArgs false
set_option maxRecDepth 100000
variable {Γ : Ctx} {N : Nat → St → Prop}
def d_spec_l1New_L1 (a0_ : List Int) (k1 : Int → Option Cur) : List Int → Nat → Int → Option Cur
  | [], i1, v1_3 => (k1 (v1_3))
  | x1_ :: xs1, i1, v1_3 => (bif decide (((i1 : Int) : Int) < (4000)) then (d_spec_l1New_L1 a0_ k1 xs1 (i1 + 1) (bandI .i64 (IntKind.i64.wrap ((IntKind.i64.wrap ((IntKind.i64.wrap ((v1_3) * (167))) + (IntKind.i64.wrap (x1_)))) + (29))) (1073741823))) else (k1 (v1_3)))
def d_spec_l1New (a0_ : List Int) : Option Cur := (bif decide ((a0_).length ≤ maxLen) then (d_spec_l1New_L1 a0_ (fun (z1_3 : Int) => (some ((⟨a0_, 0, z1_3⟩ : Cur)))) (a0_) 0 (IntKind.i64.wrap ((851207) + (IntKind.i64.wrap ((3) * ((((a0_).map yx).length : Int))))))) else none)
def d_spec_l1New_S1 (a0_ : List Int) (v1_3 : Int) (ix_ : Int) : St := ⟨[(0, D.sl ((a0_).map yx)), (3, D.int .i64 (v1_3)), (4, D.int .i64 (ix_))], []⟩
theorem d_spec_l1New_L1w (hΓ : Γ.nt = 33) {a0_ : List Int} {r : Cur} {k1 : Int → Option Cur} (hE1 : ∀ (z1_3 : Int), k1 z1_3 = some r → Ax Γ N Tryd.f19 (.n (Cur.c r)) [1, 1, 1] ⟨[(0, D.sl ((a0_).map yx)), (3, D.int .i64 (z1_3))], []⟩) (hm1 : (a0_).length ≤ maxLen) : ∀ (rest : List Int) (i1 : Nat) (v1_3 : Int), (a0_).drop i1 = rest → d_spec_l1New_L1 a0_ k1 rest i1 v1_3 = some r → Ar Γ N Tryd.f19 (.n (Cur.c r)) [1, 1, 0, 1, 0] (rest.length + 1) (d_spec_l1New_S1 a0_ v1_3 ((i1 : Int))) := by
  intro rest
  induction rest with
  | nil =>
    intro i1 v1_3 hd1 h
    rw [d_spec_l1New_L1] at h
    refine AWr_succ fun N1 hN1 hS1 => ?_
    exact (((((pre0.ge yx hd1).ge yx hd1).ge yx hd1).F 1).a [.hl 0 [0, 3] []]).ex hΓ hN1 (hE1 (v1_3) h)
  | cons x1_ xs1 ih1 =>
    intro i1 v1_3 hd1 h
    rw [d_spec_l1New_L1] at h
    refine AWr_succ fun N1 hN1 hS1 => ?_
    have o1_ := (((pre0.lt yx hd1).lt yx hd1).lt yx hd1)
    obtain ⟨h13, h⟩ | ⟨h13, h⟩ := den_if h
    · exact (((o1_.b h13).l (map_row yx 1 (dc hd1) rfl)).a [.cn [0, 3, 4] []]).ct hΓ hS1 (iS hd1 hm1) (ih1 (i1 + 1) (bandI .i64 (IntKind.i64.wrap ((IntKind.i64.wrap ((IntKind.i64.wrap ((v1_3) * (167))) + (IntKind.i64.wrap (x1_)))) + (29))) (1073741823)) (dn hd1) h)
    · exact ((o1_.b h13).a [.hl 0 [0, 3] []]).ex hΓ hN1 (hE1 (v1_3) h)
theorem d_spec_l1New_good {a0_ : List Int} {r : Cur} (h : d_spec_l1New a0_ = some r) : GoodN Tryd.prog 19 [D.sl ((a0_).map yx)] (Cur.c r) := by
  refine gdN Tryd.func19 33 fun hr Γ hΓ => ?_
  rw [d_spec_l1New] at h
  obtain ⟨h14, h⟩ := den_ok h
  refine (pre0.a [.cn [0, 3, 4] []]).lp hΓ (d_spec_l1New_L1w hΓ (fun z1_3 h => ?_) (of_decide_eq_true h14) (a0_) 0 (IntKind.i64.wrap ((851207) + (IntKind.i64.wrap ((3) * ((((a0_).map yx).length : Int)))))) rfl h)
  cases h; exact pre0.ret hΓ
def d_spec_l1Byte (a0_ : Cur) : Option (Cur × Int) := (bif decide ((a0_.i : Int) < ((((a0_.b).map yx).length : Int))) then ((atI (a0_.b) (a0_.i)).bind fun x2 => (some (((⟨a0_.b, IntKind.i64.wrap ((a0_.i) + (1)), IntKind.i64.wrap ((IntKind.i64.wrap ((a0_.h) * (6364136223846793005))) + (1442695040888963407))⟩ : Cur), bandI .i64 (IntKind.i64.wrap ((bandI .i64 (bxorI .i64 (shrI .i64 (IntKind.i64.wrap ((IntKind.i64.wrap ((a0_.h) * (6364136223846793005))) + (1442695040888963407))) (35)) (shrI .i64 (IntKind.i64.wrap ((IntKind.i64.wrap ((a0_.h) * (6364136223846793005))) + (1442695040888963407))) (45))) (255)) + (IntKind.i64.wrap (x2)))) (255))))) else (some (((⟨a0_.b, a0_.i, IntKind.i64.wrap ((IntKind.i64.wrap ((a0_.h) * (6364136223846793005))) + (1442695040888963407))⟩ : Cur), bandI .i64 (bxorI .i64 (shrI .i64 (IntKind.i64.wrap ((IntKind.i64.wrap ((a0_.h) * (6364136223846793005))) + (1442695040888963407))) (35)) (shrI .i64 (IntKind.i64.wrap ((IntKind.i64.wrap ((a0_.h) * (6364136223846793005))) + (1442695040888963407))) (45))) (255)))))
theorem d_spec_l1Byte_good {a0_ : Cur} {r : Cur × Int} (h : d_spec_l1Byte a0_ = some r) : GoodP Tryd.prog 63 (Cur.c a0_) (Cur.c r.1) [] (D.int .i64 (r.2)) := by
  refine gdP Tryd.func63 [[none, none, none], [none]] 58 [D.sl ((a0_.b).map yx), D.int .i64 (a0_.i), D.int .i64 (a0_.h)] [] [] fun hr v0_ Γ hΓ => ?_
  rw [d_spec_l1Byte] at h
  obtain ⟨h1, h⟩ | ⟨h1, h⟩ := den_if h
  · obtain ⟨x2, h3, h⟩ := den_bind h
    cases h; exact ((((pre0.a [.n 10, .n 9]).b h1).a [.n 12]).l (at_row yx 1 h3 rfl)).ret hΓ
  · cases h; exact ((pre0.a [.n 10, .n 9]).b h1).ret hΓ
def d_spec_l1Below (a0_ : Cur) (a1_ : Int) : Option (Cur × Int) := (bif decide ((a1_ : Int) ≤ (0)) then (some ((a0_, 0))) else (bif decide ((a1_ : Int) ≤ (256)) then ((d_spec_l1Byte (a0_)).bind fun y3 => (bif decide (0 ≤ (y3.2 : Int)) && decide (0 < (a1_ : Int)) then (some ((y3.1, (y3.2 : Int) % (a1_)))) else none)) else ((d_spec_l1Byte (a0_)).bind fun y6 => ((d_spec_l1Byte (y6.1)).bind fun y8 => ((d_spec_l1Byte (y8.1)).bind fun y10 => (bif decide (0 ≤ (IntKind.i64.wrap ((IntKind.i64.wrap ((IntKind.i64.wrap ((y6.2) * (65536))) + (IntKind.i64.wrap ((y8.2) * (256))))) + (y10.2)) : Int)) && decide (0 < (a1_ : Int)) then (some ((y10.1, (IntKind.i64.wrap ((IntKind.i64.wrap ((IntKind.i64.wrap ((y6.2) * (65536))) + (IntKind.i64.wrap ((y8.2) * (256))))) + (y10.2)) : Int) % (a1_)))) else none))))))
theorem d_spec_l1Below_good {a0_ : Cur} {a1_ : Int} {r : Cur × Int} (h : d_spec_l1Below a0_ a1_ = some r) : GoodP Tryd.prog 43 (Cur.c a0_) (Cur.c r.1) [D.int .i64 (a1_)] (D.int .i64 (r.2)) := by
  refine gdP Tryd.func43 [[none, none, none], [none]] 31 [D.sl ((a0_.b).map yx), D.int .i64 (a0_.i), D.int .i64 (a0_.h)] [D.int .i64 (a1_)] [] fun hr v0_ Γ hΓ => ?_
  rw [d_spec_l1Below] at h
  obtain ⟨h1, h⟩ | ⟨h1, h⟩ := den_if h
  · cases h; exact (pre0.b h1).ret hΓ
  · obtain ⟨h2, h⟩ | ⟨h2, h⟩ := den_if h
    · obtain ⟨y3, h4, h⟩ := den_bind h
      obtain ⟨h5, h⟩ := den_ok h
      cases h; exact ((((pre0.b h1).b h2).hp [[none, none, none]] (d_spec_l1Byte_good h4)).w (quo_ok .i64 h5)).ret hΓ
    · obtain ⟨y6, h7, h⟩ := den_bind h
      obtain ⟨y8, h9, h⟩ := den_bind h
      obtain ⟨y10, h11, h⟩ := den_bind h
      obtain ⟨h12, h⟩ := den_ok h
      cases h; exact ((((((pre0.b h1).b h2).hp [[none, none, none]] (d_spec_l1Byte_good h7)).hp [[none, none, none]] (d_spec_l1Byte_good h9)).hp [[none, none, none]] (d_spec_l1Byte_good h11)).w (quo_ok .i64 h12)).ret hΓ
def d_spec_l2Rel (a0_ : Cur) : Option (Cur × (Bytes × Int)) := ((d_spec_l1Below (a0_) (6)).bind fun y1 => ((atI (([[111, 110], [111, 110], [97, 116], [112], [113], [122]] : List Bytes)) (y1.2)).bind fun x3 => ((atI (([2, 2, 2, 1, 1, 0] : List Int)) (y1.2)).bind fun x5 => (some ((y1.1, (x3, x5)))))))
theorem d_spec_l2Rel_good {a0_ : Cur} {r : Cur × (Bytes × Int)} (h : d_spec_l2Rel a0_ = some r) : GoodP Tryd.prog 61 (Cur.c a0_) (Cur.c r.1) [] (D.tup [D.str (r.2.1), D.int .i64 (r.2.2)]) := by
  refine gdP Tryd.func61 [[none, none, none], [none], [none]] 15 [D.sl ((a0_.b).map yx), D.int .i64 (a0_.i), D.int .i64 (a0_.h)] [] [] fun hr v0_ Γ hΓ => ?_
  rw [d_spec_l2Rel] at h
  obtain ⟨y1, h2, h⟩ := den_bind h
  obtain ⟨x3, h4, h⟩ := den_bind h
  obtain ⟨x5, h6, h⟩ := den_bind h
  cases h; exact (((((pre0.hp [[none, none, none], [none]] (d_spec_l1Below_good h2)).a [.n 9, .vw 0]).l (at_row tx 1 h4 rfl)).a [.vw 0]).l (at_row ixx 1 h6 rfl)).ret hΓ
def d_spec_l1Once (a0_ : Cur) (a1_ : Int) : Option (Cur × Bool) := ((d_spec_l1Below (a0_) (a1_)).bind fun y1 => (some ((y1.1, (y1.2 : Int) == (0)))))
theorem d_spec_l1Once_good {a0_ : Cur} {a1_ : Int} {r : Cur × Bool} (h : d_spec_l1Once a0_ a1_ = some r) : GoodP Tryd.prog 27 (Cur.c a0_) (Cur.c r.1) [D.int .i64 (a1_)] (D.bool (r.2)) := by
  refine gdP Tryd.func27 [[none, none, none], [none]] 9 [D.sl ((a0_.b).map yx), D.int .i64 (a0_.i), D.int .i64 (a0_.h)] [D.int .i64 (a1_)] [] fun hr v0_ Γ hΓ => ?_
  rw [d_spec_l1Once] at h
  obtain ⟨y1, h2, h⟩ := den_bind h
  cases h; exact (pre0.hp [[none, none, none], [none]] (d_spec_l1Below_good h2)).ret hΓ
def d_spec_l1Str (a0_ : Cur) (a1_ : List Bytes) : Option (Cur × Bytes) := ((d_spec_l1Below (a0_) ((((a1_).map tx).length : Int))).bind fun y1 => ((atI (a1_) (y1.2)).bind fun x3 => (some ((y1.1, x3)))))
theorem d_spec_l1Str_good {a0_ : Cur} {a1_ : List Bytes} {r : Cur × Bytes} (h : d_spec_l1Str a0_ a1_ = some r) : GoodP Tryd.prog 28 (Cur.c a0_) (Cur.c r.1) [D.fr 9 1 ((a1_).map tx)] (D.str (r.2)) := by
  refine gdP Tryd.func28 [[none, none, none], [none]] 12 [D.sl ((a0_.b).map yx), D.int .i64 (a0_.i), D.int .i64 (a0_.h)] [D.acc 1] [Ob.row .uq 9 1 ((a1_).map tx)] fun hr v0_ Γ hΓ => ?_
  rw [d_spec_l1Str] at h
  obtain ⟨y1, h2, h⟩ := den_bind h
  obtain ⟨x3, h4, h⟩ := den_bind h
  cases h; exact (((pre0.hp [[none, none, none], [none]] (d_spec_l1Below_good h2)).i (own_at tx 1 h4)).o 1 1 .uq (map_get tx (atI_get h4))).ret hΓ
def d_spec_l1Atom (a0_ : Cur) : Option (Cur × Bytes) := ((d_spec_l1Str (a0_) (([[97], [98], [99], [49], [50]] : List Bytes))).bind fun y1 => (some ((y1.1, y1.2))))
theorem d_spec_l1Atom_good {a0_ : Cur} {r : Cur × Bytes} (h : d_spec_l1Atom a0_ = some r) : GoodP Tryd.prog 55 (Cur.c a0_) (Cur.c r.1) [] (D.str (r.2)) := by
  refine gdP Tryd.func55 [[none, none, none], [none]] 6 [D.sl ((a0_.b).map yx), D.int .i64 (a0_.i), D.int .i64 (a0_.h)] [] [] fun hr v0_ Γ hΓ => ?_
  rw [d_spec_l1Atom] at h
  obtain ⟨y1, h2, h⟩ := den_bind h
  cases h; exact (pre0.hp [[none, none, none], [some (9, 1)]] (d_spec_l1Str_good h2)).ret hΓ
def d_spec_l3Term (a0_ : Cur) : Option (Cur × Bytes) := ((d_spec_l1Once (a0_) (4)).bind fun y1 => (bif y1.2 then ((d_spec_l1Atom (y1.1)).bind fun y4 => (some ((y4.1, y4.2)))) else ((d_spec_l1Str (y1.1) (([[63, 120], [63, 121], [63, 122]] : List Bytes))).bind fun y6 => (some ((y6.1, y6.2))))))
theorem d_spec_l3Term_good {a0_ : Cur} {r : Cur × Bytes} (h : d_spec_l3Term a0_ = some r) : GoodP Tryd.prog 62 (Cur.c a0_) (Cur.c r.1) [] (D.str (r.2)) := by
  refine gdP Tryd.func62 [[none, none, none], [none]] 10 [D.sl ((a0_.b).map yx), D.int .i64 (a0_.i), D.int .i64 (a0_.h)] [] [] fun hr v0_ Γ hΓ => ?_
  rw [d_spec_l3Term] at h
  obtain ⟨y1, h2, h⟩ := den_bind h
  obtain ⟨h3, h⟩ | ⟨h3, h⟩ := den_if h
  · obtain ⟨y4, h5, h⟩ := den_bind h
    cases h; exact (((pre0.hp [[none, none, none], [none]] (d_spec_l1Once_good h2)).b h3).hp [[none, none, none]] (d_spec_l1Atom_good h5)).ret hΓ
  · obtain ⟨y6, h7, h⟩ := den_bind h
    cases h; exact (((pre0.hp [[none, none, none], [none]] (d_spec_l1Once_good h2)).b h3).hp [[none, none, none], [some (9, 1)]] (d_spec_l1Str_good h7)).ret hΓ
def d_spec_l3Draw_L1 (y1 : Cur × (Bytes × Int)) (k1 : List Int → Int → Int → List Bytes → Option (Cur × Fact)) : Nat → Int → List Int → Int → Int → List Bytes → Option (Cur × Fact)
  | 0, _, _, _, _, _ => none
  | n1 + 1, v1_6, u1_0_0, u1_0_1, u1_0_2, w1_3 => (bif decide ((v1_6 : Int) < (y1.2.2)) then ((d_spec_l3Term ((⟨u1_0_0, u1_0_1, u1_0_2⟩ : Cur))).bind fun y20 => (bif room (((w1_3).map tx).length + ([[D.str (y20.2)]]).length) 16 then (d_spec_l3Draw_L1 y1 k1 n1 (IntKind.i64.wrap ((v1_6) + (1))) (y20.1.b) (y20.1.i) (y20.1.h) ((w1_3) ++ ([y20.2]))) else none)) else (k1 (u1_0_0) (u1_0_1) (u1_0_2) (w1_3)))
def d_spec_l3Draw (a0_ : Cur) : Option (Cur × Fact) := ((d_spec_l2Rel (a0_)).bind fun y1 => (d_spec_l3Draw_L1 y1 (fun (r1_0_0 : List Int) (r1_0_1 : Int) (r1_0_2 : Int) (q1_3 : List Bytes) => (some (((⟨r1_0_0, r1_0_1, r1_0_2⟩ : Cur), (⟨y1.2.1, q1_3⟩ : Fact))))) fuel (0) (y1.1.b) (y1.1.i) (y1.1.h) (([] : List Bytes))))
def d_spec_l3Draw_S1 (v0_ : Value) (y1 : Cur × (Bytes × Int)) (v1_6 : Int) (u1_0_1 : Int) (u1_0_2 : Int) (W1 : List (List D)) (W4 : List (List D)) : St := ⟨[(0, D.ptr 0 0), (2, D.ptr 1 0), (4, D.int .i64 (y1.2.2)), (5, D.ptr 2 0), (6, D.int .i64 (v1_6))], [Ob.pbx [D.sl (W1), D.int .i64 (u1_0_1), D.int .i64 (u1_0_2)] v0_, Ob.box [D.str ([]), D.nil], Ob.box [D.str (y1.2.1), D.acc 3], Ob.row .uq 9 1 (W4)]⟩
theorem d_spec_l3Draw_L1w (hΓ : Γ.nt = 27) {v0_ : Value} {y1 : Cur × (Bytes × Int)} {r : Cur × Fact} {k1 : List Int → Int → Int → List Bytes → Option (Cur × Fact)} (hE1 : ∀ (r1_0_0 : List Int) (r1_0_1 : Int) (r1_0_2 : Int) (q1_3 : List Bytes), k1 r1_0_0 r1_0_1 r1_0_2 q1_3 = some r → Ax Γ N Tryd.f42 (.p [[none, none, none], [none, some (9, 1)]] v0_ (Cur.c r.1) (D.agg [D.str (r.2.rel), D.fr 9 1 ((r.2.args).map tx)])) [1, 1, 1, 1] ⟨[(2, D.ptr 1 0), (5, D.ptr 2 0)], [Ob.pbx [D.sl ((r1_0_0).map yx), D.int .i64 (r1_0_1), D.int .i64 (r1_0_2)] v0_, Ob.box [D.str ([]), D.nil], Ob.box [D.str (y1.2.1), D.acc 3], Ob.row .uq 9 1 ((q1_3).map tx)]⟩) : ∀ (n1 : Nat) (v1_6 : Int) (u1_0_0 : List Int) (u1_0_1 : Int) (u1_0_2 : Int) (w1_3 : List Bytes), d_spec_l3Draw_L1 y1 k1 n1 v1_6 u1_0_0 u1_0_1 u1_0_2 w1_3 = some r → Ar Γ N Tryd.f42 (.p [[none, none, none], [none, some (9, 1)]] v0_ (Cur.c r.1) (D.agg [D.str (r.2.rel), D.fr 9 1 ((r.2.args).map tx)])) [1, 1, 1, 0, 1, 0] n1 (d_spec_l3Draw_S1 v0_ y1 v1_6 u1_0_1 u1_0_2 ((u1_0_0).map yx) ((w1_3).map tx)) := by
  intro n
  induction n with
  | zero => intro v1_6 u1_0_0 u1_0_1 u1_0_2 w1_3 h; simp [d_spec_l3Draw_L1] at h
  | succ n1 ih1 =>
    intro v1_6 u1_0_0 u1_0_1 u1_0_2 w1_3 h
    rw [d_spec_l3Draw_L1] at h
    refine AWr_succ fun N1 hN1 hS1 => ?_
    obtain ⟨h19, h⟩ | ⟨h19, h⟩ := den_if h
    · obtain ⟨y20, h21, h⟩ := den_bind h
      obtain ⟨h22, h⟩ := den_ok h
      exact ((((pre0.b h19).w (show GoodP Tryd.prog 62 (Cur.c ((⟨u1_0_0, u1_0_1, u1_0_2⟩ : Cur))) (Cur.c y20.1) [] (D.str (y20.2)) from by simpa only [List.map_append, List.map_cons, List.map_nil, List.map_drop, List.map_take] using d_spec_l3Term_good h21)).w (room_ok h22)).a [.n2 [0, 1, 2, 3, 4, 5, 6, 7] [0, 1, 2, 3, 4, 5, 6, 7] 3 5 [0, 1] [0], .gp [[none, none, none]] (Cur.c y20.1) (D.str (y20.2)), .cn [0, 2, 4, 5, 6] [0, 1, 2, 5]]).cs hΓ hS1 (d_spec_l3Draw_S1 v0_ y1 (IntKind.i64.wrap ((v1_6) + (1))) (y20.1.i) (y20.1.h) ((y20.1.b).map yx) (((w1_3).map tx) ++ ([[D.str (y20.2)]]))) (by first | (simp only [mA] <;> rfl) | (simp only [mA, Fact.c, Pair.c, Cond.c, Action.c, Rule.c, Token.c, Match.c, Alpha.c, Node.c, Network.c, Stamp.c] <;> rfl)) (ih1 (IntKind.i64.wrap ((v1_6) + (1))) (y20.1.b) (y20.1.i) (y20.1.h) ((w1_3) ++ ([y20.2])) h)
    · exact ((pre0.b h19).a [.hl 0 [2, 5] [0, 1, 2, 3]]).ex hΓ hN1 (hE1 (u1_0_0) (u1_0_1) (u1_0_2) (w1_3) h)
theorem d_spec_l3Draw_good {a0_ : Cur} {r : Cur × Fact} (h : d_spec_l3Draw a0_ = some r) : GoodP Tryd.prog 42 (Cur.c a0_) (Cur.c r.1) [] (D.agg [D.str (r.2.rel), D.fr 9 1 ((r.2.args).map tx)]) := by
  refine gdP Tryd.func42 [[none, none, none], [none, some (9, 1)]] 27 [D.sl ((a0_.b).map yx), D.int .i64 (a0_.i), D.int .i64 (a0_.h)] [] [] fun hr v0_ Γ hΓ => ?_
  rw [d_spec_l3Draw] at h
  obtain ⟨y1, h2, h⟩ := den_bind h
  refine ((pre0.hp [[none, none, none]] (d_spec_l2Rel_good h2)).a [.pb 2 1 9 1, .cn [0, 2, 4, 5, 6] [0, 1, 2, 3]]).lp hΓ (d_spec_l3Draw_L1w hΓ (fun r1_0_0 r1_0_1 r1_0_2 q1_3 h => ?_) fuel (0) (y1.1.b) (y1.1.i) (y1.1.h) (([] : List Bytes)) h)
  cases h; exact pre0.ret hΓ
def d_spec_l1Word (a0_ : Cur) : Option (Cur × Bytes) := ((d_spec_l1Str (a0_) (([[97], [98], [111, 110], [55], [49, 48], [57, 57, 57, 57], [49, 48, 48, 48, 48], [48, 48, 55], [48], [], [65], [63, 120], [63, 63], [63], [97, 98, 99, 100, 101, 102, 103, 104], [97, 98, 99, 100, 101, 102, 103, 104, 105], [63, 97, 98, 99, 100, 101, 102, 103, 104], [97, 45, 98], [120, 49], [49, 120], [45, 51]] : List Bytes))).bind fun y1 => (some ((y1.1, y1.2))))
theorem d_spec_l1Word_good {a0_ : Cur} {r : Cur × Bytes} (h : d_spec_l1Word a0_ = some r) : GoodP Tryd.prog 44 (Cur.c a0_) (Cur.c r.1) [] (D.str (r.2)) := by
  refine gdP Tryd.func44 [[none, none, none], [none]] 6 [D.sl ((a0_.b).map yx), D.int .i64 (a0_.i), D.int .i64 (a0_.h)] [] [] fun hr v0_ Γ hΓ => ?_
  rw [d_spec_l1Word] at h
  obtain ⟨y1, h2, h⟩ := den_bind h
  cases h; exact (pre0.hp [[none, none, none], [some (9, 1)]] (d_spec_l1Str_good h2)).ret hΓ
def d_spec_l3Any (a0_ : Cur) : Option (Cur × Fact) := ((d_spec_l3Draw (a0_)).bind fun y1 => ((d_spec_l1Below (y1.1) (10)).bind fun y3 => (bif (y3.2 : Int) == (0) then ((d_spec_l1Word (y3.1)).bind fun y6 => (some ((y6.1, (⟨y6.2, y1.2.args⟩ : Fact))))) else (bif (y3.2 : Int) == (1) then ((d_spec_l1Word (y3.1)).bind fun y9 => (bif room (((y1.2.args).map tx).length + ([[D.str (y9.2)]]).length) 16 then (some ((y9.1, (⟨y1.2.rel, (y1.2.args) ++ ([y9.2])⟩ : Fact)))) else none)) else (bif (y3.2 : Int) == (2) then ((d_spec_l1Below (y3.1) (5)).bind fun y13 => (bif decide (0 ≤ (y13.2 : Int)) && decide ((y13.2).toNat ≤ ((([[63, 120], [63, 120], [63, 121], [63, 120]] : List Bytes)).map tx).length) then (some ((y13.1, (⟨y1.2.rel, (([[63, 120], [63, 120], [63, 121], [63, 120]] : List Bytes)).take (y13.2).toNat⟩ : Fact)))) else none)) else (some ((y3.1, y1.2))))))))
theorem d_spec_l3Any_good {a0_ : Cur} {r : Cur × Fact} (h : d_spec_l3Any a0_ = some r) : GoodP Tryd.prog 18 (Cur.c a0_) (Cur.c r.1) [] (D.agg [D.str (r.2.rel), D.fr 9 1 ((r.2.args).map tx)]) := by
  refine gdP Tryd.func18 [[none, none, none], [none, some (9, 1)]] 30 [D.sl ((a0_.b).map yx), D.int .i64 (a0_.i), D.int .i64 (a0_.h)] [] [] fun hr v0_ Γ hΓ => ?_
  rw [d_spec_l3Any] at h
  obtain ⟨y1, h2, h⟩ := den_bind h
  obtain ⟨y3, h4, h⟩ := den_bind h
  have o1_ := ((pre0.hp [[none, none, none]] (d_spec_l3Draw_good h2)).hp [[none, none, none], [none]] (d_spec_l1Below_good h4))
  obtain ⟨h5, h⟩ | ⟨h5, h⟩ := den_if h
  · obtain ⟨y6, h7, h⟩ := den_bind h
    cases h; exact ((o1_.b h5).hp [[none, none, none]] (d_spec_l1Word_good h7)).ret hΓ
  · obtain ⟨h8, h⟩ | ⟨h8, h⟩ := den_if h
    · obtain ⟨y9, h10, h⟩ := den_bind h
      obtain ⟨h11, h⟩ := den_ok h
      cases h; exact (((((o1_.b h5).b h8).a [.n2 [0, 1, 2, 3, 4, 5, 6, 7] [0, 1, 2, 3, 4, 5, 6, 7] 3 5 [0, 1] [0]]).hp [[none, none, none]] (d_spec_l1Word_good h10)).w (room_ok h11)).rts hΓ (D.tup [D.agg [D.str (y1.2.rel), D.fr 9 1 (((y1.2.args).map tx) ++ ([[D.str (y9.2)]]))], D.agg [D.sl ((y9.1.b).map yx), D.int .i64 (y9.1.i), D.int .i64 (y9.1.h)], D.val v0_]) (by first | rfl | (simp only [mA] <;> rfl))
    · have o2_ := ((o1_.b h5).b h8)
      obtain ⟨h12, h⟩ | ⟨h12, h⟩ := den_if h
      · obtain ⟨y13, h14, h⟩ := den_bind h
        obtain ⟨h15, h⟩ := den_ok h
        cases h; exact ((((o2_.b h12).hp [[none, none, none], [none]] (d_spec_l1Below_good h14)).w (cut_ok h15)).a [.cut 0 (y13.2).toNat]).rts hΓ (D.tup [D.agg [D.str (y1.2.rel), D.fr 9 1 (((([[63, 120], [63, 120], [63, 121], [63, 120]] : List Bytes)).map tx).take (y13.2).toNat)], D.agg [D.sl ((y13.1.b).map yx), D.int .i64 (y13.1.i), D.int .i64 (y13.1.h)], D.val v0_]) (by first | rfl | (simp only [mA] <;> rfl))
      · cases h; exact (o2_.b h12).ret hΓ
def d_impl_IsAtom_L1 (a0_ : Bytes) (k1 : Option Bool) : Nat → Int → Option Bool
  | 0, _ => none
  | n1 + 1, v1_3 => (bif decide ((v1_3 : Int) < (((a0_).length : Int))) then ((atI (a0_) (v1_3)).bind fun b31 => (bif decide ((b31.toNat : Int) < (97)) then (bif decide ((b31.toNat : Int) < (48)) then (some (false)) else (bif decide ((b31.toNat : Int) > (57)) then (some (false)) else (d_impl_IsAtom_L1 a0_ k1 n1 (IntKind.i64.wrap ((v1_3) + (1)))))) else (bif decide ((b31.toNat : Int) > (122)) then (bif decide ((b31.toNat : Int) < (48)) then (some (false)) else (bif decide ((b31.toNat : Int) > (57)) then (some (false)) else (d_impl_IsAtom_L1 a0_ k1 n1 (IntKind.i64.wrap ((v1_3) + (1)))))) else (d_impl_IsAtom_L1 a0_ k1 n1 (IntKind.i64.wrap ((v1_3) + (1))))))) else (k1 ))
def d_impl_IsAtom (a0_ : Bytes) : Option Bool := (bif decide ((((a0_).length : Int) : Int) < (1)) then (some (false)) else (bif decide ((((a0_).length : Int) : Int) > (8)) then (some (false)) else (d_impl_IsAtom_L1 a0_ (some (true)) fuel (0))))
def d_impl_IsAtom_S1 (a0_ : Bytes) (v1_3 : Int) : St := ⟨[(0, D.str (a0_)), (3, D.int .i64 (v1_3))], []⟩
theorem d_impl_IsAtom_L1w (hΓ : Γ.nt = 40) {a0_ : Bytes} {r : Bool} {k1 : Option Bool} (hE1 : k1 = some r → Ax Γ N Tryd.f26 (.q [[none]] (D.bool (r))) [1, 1, 1] ⟨[], []⟩) : ∀ (n1 : Nat) (v1_3 : Int), d_impl_IsAtom_L1 a0_ k1 n1 v1_3 = some r → Ar Γ N Tryd.f26 (.q [[none]] (D.bool (r))) [1, 1, 0, 1, 0] n1 (d_impl_IsAtom_S1 a0_ v1_3) := by
  intro n
  induction n with
  | zero => intro v1_3 h; simp [d_impl_IsAtom_L1] at h
  | succ n1 ih1 =>
    intro v1_3 h
    rw [d_impl_IsAtom_L1] at h
    refine AWr_succ fun N1 hN1 hS1 => ?_
    obtain ⟨h30, h⟩ | ⟨h30, h⟩ := den_if h
    · obtain ⟨b31, h32, h⟩ := den_bind h
      have o7_ := ((pre0.b h30).c h32)
      obtain ⟨h33, h⟩ | ⟨h33, h⟩ := den_if h
      · have o8_ := ((((o7_.r 5 h33).T 3).c h32).T 2)
        obtain ⟨h34, h⟩ | ⟨h34, h⟩ := den_if h
        · have h := den_some h; subst h; exact ((((o8_.r 4 h34).T 1).b h34).T 2).ret hΓ
        · have o9_ := ((((((o8_.r 3 h34).c h32).b h34).T 1).b h34).T 1)
          obtain ⟨h35, h⟩ | ⟨h35, h⟩ := den_if h
          · have h := den_some h; subst h; exact (o9_.b h35).ret hΓ
          · exact ((o9_.b h35).a [.cn [0, 3] []]).cf hΓ hS1 (ih1 (IntKind.i64.wrap ((v1_3) + (1))) h)
      · have o10_ := (((o7_.r 3 h33).c h32).r 2 h33)
        obtain ⟨h36, h⟩ | ⟨h36, h⟩ := den_if h
        · have o11_ := (((o10_.r 3 h36).c h32).r 2 h36)
          obtain ⟨h37, h⟩ | ⟨h37, h⟩ := den_if h
          · have h := den_some h; subst h; exact (((((o11_.r 4 h37).b h36).b h37).b h36).T 1).ret hΓ
          · have o12_ := ((((((o11_.r 3 h37).c h32).b h37).b h36).b h37).b h36)
            obtain ⟨h38, h⟩ | ⟨h38, h⟩ := den_if h
            · have h := den_some h; subst h; exact (o12_.b h38).ret hΓ
            · exact ((o12_.b h38).a [.cn [0, 3] []]).cf hΓ hS1 (ih1 (IntKind.i64.wrap ((v1_3) + (1))) h)
        · exact (((o10_.r 7 h36).F 1).a [bF, bF, bF, bF, .cn [0, 3] []]).cf hΓ hS1 (ih1 (IntKind.i64.wrap ((v1_3) + (1))) h)
    · exact ((pre0.b h30).a [.hl 0 [] []]).ex hΓ hN1 (hE1 h)
theorem d_impl_IsAtom_good {a0_ : Bytes} {r : Bool} (h : d_impl_IsAtom a0_ = some r) : Good Tryd.prog 26 [D.str (a0_)] (D.bool (r)) := by
  refine gd Tryd.func26 [[none]] 40 fun hr Γ hΓ => ?_
  rw [d_impl_IsAtom] at h
  obtain ⟨h1, h⟩ | ⟨h1, h⟩ := den_if h
  · have h := den_some h; subst h; exact ((pre0.r 4 h1).T 1).ret hΓ
  · have o13_ := (pre0.r 4 h1)
    obtain ⟨h2, h⟩ | ⟨h2, h⟩ := den_if h
    · have h := den_some h; subst h; exact (o13_.b h2).ret hΓ
    · refine ((o13_.b h2).a [.cn [0, 3] []]).lp hΓ (d_impl_IsAtom_L1w hΓ (fun h => ?_) fuel (0) h)
      have h := den_some h; subst h; exact pre0.ret hΓ
def d_impl_IsVar (a0_ : Bytes) : Option Bool := (bif decide ((((a0_).length : Int) : Int) > (1)) then ((atI (a0_) (0)).bind fun b2 => (bif (b2.toNat : Int) == (63) then ((pcut (a0_).length (some (D.int .i64 (1))) (none)).bind fun p => (fun l5 u6 => ((d_impl_IsAtom (((a0_).take u6).drop l5)).bind fun y8 => (some (y8)))) p.1 p.2) else (some (false)))) else (some (false)))
theorem d_impl_IsVar_good {a0_ : Bytes} {r : Bool} (h : d_impl_IsVar a0_ = some r) : Good Tryd.prog 46 [D.str (a0_)] (D.bool (r)) := by
  refine gd Tryd.func46 [[none]] 16 fun hr Γ hΓ => ?_
  rw [d_impl_IsVar] at h
  obtain ⟨h1, h⟩ | ⟨h1, h⟩ := den_if h
  · obtain ⟨b2, h3, h⟩ := den_bind h
    have o1_ := (((pre0.r 2 h1).c h3).r 2 h1)
    obtain ⟨h4, h⟩ | ⟨h4, h⟩ := den_if h
    · obtain ⟨⟨l5, u6⟩, h7, h⟩ := den_bind h
      obtain ⟨y8, h9, h⟩ := den_bind h
      have h := den_some h; subst h; exact ((((((o1_.r 2 h4).w h7).a [.cut l5 u6]).b h4).g (d_impl_IsAtom_good h9)).b h4).ret hΓ
    · have h := den_some h; subst h; exact (o1_.r 4 h4).ret hΓ
  · have h := den_some h; subst h; exact ((pre0.r 4 h1).F 4).ret hΓ
def d_impl_FormatInt (a0_ : Int) : Option Bytes := ((d_strconv_Itoa (a0_)).bind fun y1 => (some (y1)))
theorem d_impl_FormatInt_good {a0_ : Int} {r : Bytes} (h : d_impl_FormatInt a0_ = some r) : Good Tryd.prog 47 [D.int .i64 (a0_)] (D.str (r)) := by
  refine gd Tryd.func47 [[none]] 5 fun hr Γ hΓ => ?_
  rw [d_impl_FormatInt] at h
  obtain ⟨y1, h2, h⟩ := den_bind h
  have h := den_some h; subst h; exact (pre0.g (d_strconv_Itoa_good h2)).ret hΓ
def d_impl_plainPairs_L1 (a0_ : List Bytes) (k1 : List Pair → Option (List Pair)) : List Bytes → Nat → List Pair → List (Bytes × Bool) → Option (List Pair)
  | [], i1, w1_0, m1_1 => (k1 (w1_0))
  | x1_ :: xs1, i1, w1_0, m1_1 => ((d_impl_IsVar (x1_)).bind fun y52 => (bif y52 then (bif !(mGet false (x1_) (m1_1)) then ((d_impl_FormatInt (IntKind.i64.wrap (((((w1_0).map Pair.c).length : Int)) + (1)))).bind fun y56 => (bif decide (([63] : Bytes).length + (y56 : Bytes).length ≤ maxLen) then (bif room (((w1_0).map Pair.c).length + ([[D.str (x1_), D.str (([63]) ++ (y56))]]).length) 32 then (d_impl_plainPairs_L1 a0_ k1 xs1 (i1 + 1) ((w1_0) ++ ([(⟨x1_, ([63]) ++ (y56)⟩ : Pair)])) (mPut (x1_) (true) (m1_1))) else none) else none)) else (d_impl_plainPairs_L1 a0_ k1 xs1 (i1 + 1) (w1_0) (m1_1))) else (d_impl_plainPairs_L1 a0_ k1 xs1 (i1 + 1) (w1_0) (m1_1))))
def d_impl_plainPairs (a0_ : List Bytes) : Option (List Pair) := (d_impl_plainPairs_L1 a0_ (fun (q1_0 : List Pair) => (some (q1_0))) (a0_) 0 (([] : List Pair)) (([] : List (Bytes × Bool))))
def d_impl_plainPairs_S1 (a0_ : List Bytes) (W0 : List (List D)) (W1 : List (D × D)) (ix_ : Int) : St := ⟨[(3, D.acc 0), (4, D.acc 1), (8, D.sl ((a0_).map tx)), (9, D.int .i64 ((((a0_).map tx).length : Int))), (10, D.int .i64 (ix_))], [Ob.row .uq 71 2 (W0), Ob.mp (W1)]⟩
theorem d_impl_plainPairs_L1w (hΓ : Γ.nt = 36) {a0_ : List Bytes} {r : List Pair} {k1 : List Pair → Option (List Pair)} (hE1 : ∀ (q1_0 : List Pair), k1 q1_0 = some r → Ax Γ N Tryd.f21 (.q [[some (71, 2)]] (D.fr 71 2 ((r).map Pair.c))) [1, 1, 1, 1] ⟨[(3, D.acc 0)], [Ob.row .uq 71 2 ((q1_0).map Pair.c)]⟩) (hm1 : (a0_).length ≤ maxLen) : ∀ (rest : List Bytes) (i1 : Nat) (w1_0 : List Pair) (m1_1 : List (Bytes × Bool)), (a0_).drop i1 = rest → d_impl_plainPairs_L1 a0_ k1 rest i1 w1_0 m1_1 = some r → Ar Γ N Tryd.f21 (.q [[some (71, 2)]] (D.fr 71 2 ((r).map Pair.c))) [1, 1, 1, 0, 1, 0] (rest.length + 1) (d_impl_plainPairs_S1 a0_ ((w1_0).map Pair.c) ((m1_1).map (kS eB)) ((i1 : Int))) := by
  intro rest
  induction rest with
  | nil =>
    intro i1 w1_0 m1_1 hd1 h
    rw [d_impl_plainPairs_L1] at h
    refine AWr_succ fun N1 hN1 hS1 => ?_
    exact ((pre0.ge tx hd1).a [.hl 0 [3] [0]]).ex hΓ hN1 (hE1 (w1_0) h)
  | cons x1_ xs1 ih1 =>
    intro i1 w1_0 m1_1 hd1 h
    rw [d_impl_plainPairs_L1] at h
    refine AWr_succ fun N1 hN1 hS1 => ?_
    obtain ⟨y52, h53, h⟩ := den_bind h
    have o3_ := (((pre0.lt tx hd1).l (map_row tx 1 (dc hd1) rfl)).g (d_impl_IsVar_good h53))
    obtain ⟨h54, h⟩ | ⟨h54, h⟩ := den_if h
    · have o4_ := ((((o3_.r 3 h54).w (show plk Tryd.prog 68 ((m1_1).map (kS eB)) (D.str (x1_)) false = some (D.bool (mGet false (x1_) (m1_1))) from lk_kS (e := eB) (z := false) (by kernel_rfl))).a [.d (D.bool (mGet false (x1_) (m1_1)))]).r 2 h54)
      obtain ⟨h55, h⟩ | ⟨h55, h⟩ := den_if h
      · obtain ⟨y56, h57, h⟩ := den_bind h
        obtain ⟨h58, h⟩ := den_ok h
        obtain ⟨h59, h⟩ := den_ok h
        exact (((((((o4_.b h55).w (show kvPut (D.str (x1_)) (D.bool (true)) ((m1_1).map (kS eB)) = some ((mPut (x1_) (true) (m1_1)).map (kS eB)) from put_kS (e := eB) (m := m1_1))).a [.kv ((mPut (x1_) (true) (m1_1)).map (kS eB))]).g (d_impl_FormatInt_good h57)).w (of_decide_eq_true h58)).w (room_ok h59)).a [.cn [3, 4, 8, 9, 10] [3, 1]]).cs hΓ hS1 (d_impl_plainPairs_S1 a0_ (((w1_0).map Pair.c) ++ ([[D.str (x1_), D.str (([63]) ++ (y56))]])) ((mPut (x1_) (true) (m1_1)).map (kS eB)) (IntKind.i64.wrap (((i1 : Int)) + (1)))) (by first | (simp only [iS hd1 hm1, mA] <;> rfl) | (simp only [iS hd1 hm1, mA, Fact.c, Pair.c, Cond.c, Action.c, Rule.c, Token.c, Match.c, Alpha.c, Node.c, Network.c, Stamp.c] <;> rfl)) (ih1 (i1 + 1) ((w1_0) ++ ([(⟨x1_, ([63]) ++ (y56)⟩ : Pair)])) (mPut (x1_) (true) (m1_1)) (dn hd1) h)
      · exact ((o4_.b h55).a [.cn [3, 4, 8, 9, 10] [0, 1]]).ct hΓ hS1 (iS hd1 hm1) (ih1 (i1 + 1) (w1_0) (m1_1) (dn hd1) h)
    · exact (((o3_.r 5 h54).F 1).a [.cn [3, 4, 8, 9, 10] [0, 1]]).ct hΓ hS1 (iS hd1 hm1) (ih1 (i1 + 1) (w1_0) (m1_1) (dn hd1) h)
theorem d_impl_plainPairs_good {a0_ : List Bytes} {r : List Pair} (h : d_impl_plainPairs a0_ = some r) : Good Tryd.prog 21 [D.sl ((a0_).map tx)] (D.fr 71 2 ((r).map Pair.c)) := by
  refine gd Tryd.func21 [[some (71, 2)]] 36 fun hr Γ hΓ => ?_
  rw [d_impl_plainPairs] at h
  refine (pre0.a [.pro 3, .cn [3, 4, 8, 9, 10] [0, 1]]).lp hΓ (d_impl_plainPairs_L1w hΓ (fun q1_0 h => ?_) (by have := (Rdb.sl (hr _ (List.mem_of_getElem? (i := 0) rfl))).1; simpa using this) (a0_) 0 (([] : List Pair)) (([] : List (Bytes × Bool))) rfl h)
  have h := den_some h; subst h; exact pre0.ret hΓ
def d_impl_renamedText_L1 (a0_ : Bytes) (a1_ : List Pair) (k1 : Option Bytes) : List Pair → Nat → Option Bytes
  | [], i1 => (k1 )
  | x1_ :: xs1, i1 => (bif (x1_.var : Bytes) == (a0_) then (some (x1_.value)) else (d_impl_renamedText_L1 a0_ a1_ k1 xs1 (i1 + 1) ))
def d_impl_renamedText (a0_ : Bytes) (a1_ : List Pair) : Option Bytes := (d_impl_renamedText_L1 a0_ a1_ (some (a0_)) (a1_) 0 )
def d_impl_renamedText_S1 (a0_ : Bytes) (a1_ : List Pair) (ix_ : Int) : St := ⟨[(0, D.str (a0_)), (7, D.sl ((a1_).map Pair.c)), (8, D.int .i64 ((((a1_).map Pair.c).length : Int))), (9, D.int .i64 (ix_))], []⟩
theorem d_impl_renamedText_L1w (hΓ : Γ.nt = 21) {a0_ : Bytes} {a1_ : List Pair} {r : Bytes} {k1 : Option Bytes} (hE1 : k1 = some r → Ax Γ N Tryd.f45 (.q [[none]] (D.str (r))) [1, 1] ⟨[(0, D.str (a0_))], []⟩) (hm1 : (a1_).length ≤ maxLen) : ∀ (rest : List Pair) (i1 : Nat) , (a1_).drop i1 = rest → d_impl_renamedText_L1 a0_ a1_ k1 rest i1  = some r → Ar Γ N Tryd.f45 (.q [[none]] (D.str (r))) [1, 0, 1, 0] (rest.length + 1) (d_impl_renamedText_S1 a0_ a1_ ((i1 : Int))) := by
  intro rest
  induction rest with
  | nil =>
    intro i1  hd1 h
    rw [d_impl_renamedText_L1] at h
    refine AWr_succ fun N1 hN1 hS1 => ?_
    exact ((pre0.ge Pair.c hd1).a [.hl 0 [0] []]).ex hΓ hN1 (hE1 h)
  | cons x1_ xs1 ih1 =>
    intro i1  hd1 h
    rw [d_impl_renamedText_L1] at h
    refine AWr_succ fun N1 hN1 hS1 => ?_
    have o2_ := ((pre0.lt Pair.c hd1).l (map_row Pair.c 2 (dc hd1) rfl))
    obtain ⟨h13, h⟩ | ⟨h13, h⟩ := den_if h
    · cases h; exact (o2_.b h13).ret hΓ
    · exact ((o2_.b h13).a [.cn [0, 7, 8, 9] []]).ct hΓ hS1 (iS hd1 hm1) (ih1 (i1 + 1)  (dn hd1) h)
theorem d_impl_renamedText_good {a0_ : Bytes} {a1_ : List Pair} {r : Bytes} (h : d_impl_renamedText a0_ a1_ = some r) : Good Tryd.prog 45 [D.str (a0_), D.sl ((a1_).map Pair.c)] (D.str (r)) := by
  refine gd Tryd.func45 [[none]] 21 fun hr Γ hΓ => ?_
  rw [d_impl_renamedText] at h
  refine (pre0.a [.cn [0, 7, 8, 9] []]).lp hΓ (d_impl_renamedText_L1w hΓ (fun h => ?_) (by have := (Rdb.sl (hr _ (List.mem_of_getElem? (i := 1) rfl))).1; simpa using this) (a1_) 0  rfl h)
  have h := den_some h; subst h; exact pre0.ret hΓ
def d_impl_RenameCond_L1 (a0_ : Cond) (a1_ : List Pair) (y1 : Bytes) (y3 : Bytes) (k1 : List Bytes → Option Cond) : List Bytes → Nat → List Bytes → Option Cond
  | [], i1, w1_2 => (k1 (w1_2))
  | x1_ :: xs1, i1, w1_2 => ((d_impl_renamedText (x1_) (a1_)).bind fun y31 => (bif room (((w1_2).map tx).length + ([[D.str (y31)]]).length) 16 then (d_impl_RenameCond_L1 a0_ a1_ y1 y3 k1 xs1 (i1 + 1) ((w1_2) ++ ([y31]))) else none))
def d_impl_RenameCond (a0_ : Cond) (a1_ : List Pair) : Option Cond := ((d_impl_renamedText (a0_.left) (a1_)).bind fun y1 => ((d_impl_renamedText (a0_.right) (a1_)).bind fun y3 => (d_impl_RenameCond_L1 a0_ a1_ y1 y3 (fun (q1_2 : List Bytes) => (some ((⟨a0_.kind, (⟨a0_.pat.rel, q1_2⟩ : Fact), y1, y3⟩ : Cond)))) (a0_.pat.args) 0 (([] : List Bytes)))))
def d_impl_RenameCond_S1 (a0_ : Cond) (a1_ : List Pair) (y1 : Bytes) (y3 : Bytes) (W0 : List (List D)) (ix_ : Int) : St := ⟨[(1, D.sl ((a1_).map Pair.c)), (4, D.ptr 0 0), (5, D.ptr 1 0), (26, D.sl ((a0_.pat.args).map tx)), (27, D.int .i64 ((((a0_.pat.args).map tx).length : Int))), (28, D.int .i64 (ix_))], [Ob.box [D.int .i64 (0), D.str ([]), D.nil, D.str ([]), D.str ([])], Ob.box [D.int .i64 (a0_.kind), D.str (a0_.pat.rel), D.acc 2, D.str (y1), D.str (y3)], Ob.row .uq 9 1 (W0)]⟩
theorem d_impl_RenameCond_L1w (hΓ : Γ.nt = 44) {a0_ : Cond} {a1_ : List Pair} {y1 : Bytes} {y3 : Bytes} {r : Cond} {k1 : List Bytes → Option Cond} (hE1 : ∀ (q1_2 : List Bytes), k1 q1_2 = some r → Ax Γ N Tryd.f20 (.q [[none, none, some (9, 1), none, none]] (D.agg [D.int .i64 (r.kind), D.str (r.pat.rel), D.fr 9 1 ((r.pat.args).map tx), D.str (r.left), D.str (r.right)])) [1, 1, 1, 1] ⟨[(4, D.ptr 0 0), (5, D.ptr 1 0)], [Ob.box [D.int .i64 (0), D.str ([]), D.nil, D.str ([]), D.str ([])], Ob.box [D.int .i64 (a0_.kind), D.str (a0_.pat.rel), D.acc 2, D.str (y1), D.str (y3)], Ob.row .uq 9 1 ((q1_2).map tx)]⟩) (hm1 : (a0_.pat.args).length ≤ maxLen) : ∀ (rest : List Bytes) (i1 : Nat) (w1_2 : List Bytes), (a0_.pat.args).drop i1 = rest → d_impl_RenameCond_L1 a0_ a1_ y1 y3 k1 rest i1 w1_2 = some r → Ar Γ N Tryd.f20 (.q [[none, none, some (9, 1), none, none]] (D.agg [D.int .i64 (r.kind), D.str (r.pat.rel), D.fr 9 1 ((r.pat.args).map tx), D.str (r.left), D.str (r.right)])) [1, 1, 1, 0, 1, 0] (rest.length + 1) (d_impl_RenameCond_S1 a0_ a1_ y1 y3 ((w1_2).map tx) ((i1 : Int))) := by
  intro rest
  induction rest with
  | nil =>
    intro i1 w1_2 hd1 h
    rw [d_impl_RenameCond_L1] at h
    refine AWr_succ fun N1 hN1 hS1 => ?_
    exact ((pre0.ge tx hd1).a [.hl 0 [4, 5] [0, 1, 2]]).ex hΓ hN1 (hE1 (w1_2) h)
  | cons x1_ xs1 ih1 =>
    intro i1 w1_2 hd1 h
    rw [d_impl_RenameCond_L1] at h
    refine AWr_succ fun N1 hN1 hS1 => ?_
    obtain ⟨y31, h32, h⟩ := den_bind h
    obtain ⟨h33, h⟩ := den_ok h
    exact ((((((pre0.lt tx hd1).l (map_row tx 1 (dc hd1) rfl)).a [.n 7]).g (d_impl_renamedText_good h32)).w (room_ok h33)).a [.cn [1, 4, 5, 26, 27, 28] [0, 1, 4]]).cs hΓ hS1 (d_impl_RenameCond_S1 a0_ a1_ y1 y3 (((w1_2).map tx) ++ ([[D.str (y31)]])) (IntKind.i64.wrap (((i1 : Int)) + (1)))) (by first | (simp only [iS hd1 hm1, mA] <;> rfl) | (simp only [iS hd1 hm1, mA, Fact.c, Pair.c, Cond.c, Action.c, Rule.c, Token.c, Match.c, Alpha.c, Node.c, Network.c, Stamp.c] <;> rfl)) (ih1 (i1 + 1) ((w1_2) ++ ([y31])) (dn hd1) h)
theorem d_impl_RenameCond_good {a0_ : Cond} {a1_ : List Pair} {r : Cond} (h : d_impl_RenameCond a0_ a1_ = some r) : Good Tryd.prog 20 [D.agg (Cond.c a0_), D.sl ((a1_).map Pair.c)] (D.agg [D.int .i64 (r.kind), D.str (r.pat.rel), D.fr 9 1 ((r.pat.args).map tx), D.str (r.left), D.str (r.right)]) := by
  refine gd Tryd.func20 [[none, none, some (9, 1), none, none]] 44 fun hr Γ hΓ => ?_
  rw [d_impl_RenameCond] at h
  obtain ⟨y1, h2, h⟩ := den_bind h
  obtain ⟨y3, h4, h⟩ := den_bind h
  refine ((((pre0.a [.n 12]).g (d_impl_renamedText_good h2)).g (d_impl_renamedText_good h4)).a [.pb 2 2 9 1, .cn [1, 4, 5, 26, 27, 28] [1, 2, 3]]).lp hΓ (d_impl_RenameCond_L1w hΓ (fun q1_2 h => ?_) (by have := (Rdb.sl (Rdb.agg (hr _ (List.mem_of_getElem? (i := 0) rfl)) (.sl ((a0_.pat.args).map tx)) (by simp))).1; simpa using this) (a0_.pat.args) 0 (([] : List Bytes)) rfl h)
  cases h; exact pre0.ret hΓ
def d_impl_ShapeOf (a0_ : Fact) : Option Fact := ((d_impl_plainPairs (a0_.args)).bind fun y1 => ((d_impl_RenameCond ((⟨0, a0_, [], []⟩ : Cond)) (y1)).bind fun y3 => (some (y3.pat))))
theorem d_impl_ShapeOf_good {a0_ : Fact} {r : Fact} (h : d_impl_ShapeOf a0_ = some r) : Good Tryd.prog 7 [D.agg (Fact.c a0_)] (D.agg [D.str (r.rel), D.fr 9 1 ((r.args).map tx)]) := by
  refine gd Tryd.func7 [[none, some (9, 1)]] 10 fun hr Γ hΓ => ?_
  rw [d_impl_ShapeOf] at h
  obtain ⟨y1, h2, h⟩ := den_bind h
  obtain ⟨y3, h4, h⟩ := den_bind h
  cases h; exact ((((pre0.a [.n 5]).g (d_impl_plainPairs_good h2)).w (show Good Tryd.prog 20 [D.agg [D.int .i64 (0), D.str (a0_.rel), D.sl ((a0_.args).map tx), D.str ([]), D.str ([])], D.sl ((y1).map Pair.c)] (D.agg [D.int .i64 (y3.kind), D.str (y3.pat.rel), D.fr 9 1 ((y3.pat.args).map tx), D.str (y3.left), D.str (y3.right)]) from by first | (simpa only [List.map_append, List.map_cons, List.map_nil, List.map_drop, List.map_take] using d_impl_RenameCond_good h4) | exact d_impl_RenameCond_good h4)).a [.d (D.agg [D.int .i64 (y3.kind), D.str (y3.pat.rel), D.fr 9 1 ((y3.pat.args).map tx), D.str (y3.left), D.str (y3.right)])]).ret hΓ
def d_spec_l1In (a0_ : Int) (a1_ : Int) (a2_ : Int) : Option Bool := (bif decide ((a0_ : Int) ≥ (a1_)) then (some (decide ((a0_ : Int) ≤ (a2_)))) else (some (false)))
theorem d_spec_l1In_good {a0_ : Int} {a1_ : Int} {a2_ : Int} {r : Bool} (h : d_spec_l1In a0_ a1_ a2_ = some r) : Good Tryd.prog 49 [D.int .i64 (a0_), D.int .i64 (a1_), D.int .i64 (a2_)] (D.bool (r)) := by
  refine gd Tryd.func49 [[none]] 15 fun hr Γ hΓ => ?_
  rw [d_spec_l1In] at h
  obtain ⟨h1, h⟩ | ⟨h1, h⟩ := den_if h
  · cases h; exact (pre0.r 4 h1).ret hΓ
  · have h := den_some h; subst h; exact (pre0.r 4 h1).ret hΓ
def d_spec_IsAtom_L1 (a0_ : Bytes) (k1 : Option Bool) : Nat → Int → Option Bool
  | 0, _ => none
  | n1 + 1, v1_3 => (bif decide ((v1_3 : Int) < (((a0_).length : Int))) then ((atI (a0_) (v1_3)).bind fun b29 => ((d_spec_l1In (IntKind.i64.wrap (b29.toNat)) (97) (122)).bind fun y31 => (bif !(y31) then ((d_spec_l1In (IntKind.i64.wrap (b29.toNat)) (48) (57)).bind fun y34 => (bif !(y34) then (some (false)) else (d_spec_IsAtom_L1 a0_ k1 n1 (IntKind.i64.wrap ((v1_3) + (1)))))) else (d_spec_IsAtom_L1 a0_ k1 n1 (IntKind.i64.wrap ((v1_3) + (1))))))) else (k1 ))
def d_spec_IsAtom (a0_ : Bytes) : Option Bool := (d_spec_IsAtom_L1 a0_ ((d_spec_l1In (((a0_).length : Int)) (1) (8)).bind fun y37 => (some (y37))) fuel (0))
def d_spec_IsAtom_S1 (a0_ : Bytes) (v1_3 : Int) : St := ⟨[(0, D.str (a0_)), (3, D.int .i64 (v1_3))], []⟩
theorem d_spec_IsAtom_L1w (hΓ : Γ.nt = 27) {a0_ : Bytes} {r : Bool} {k1 : Option Bool} (hE1 : k1 = some r → Ax Γ N Tryd.f35 (.q [[none]] (D.bool (r))) [1, 1] ⟨[(0, D.str (a0_))], []⟩) : ∀ (n1 : Nat) (v1_3 : Int), d_spec_IsAtom_L1 a0_ k1 n1 v1_3 = some r → Ar Γ N Tryd.f35 (.q [[none]] (D.bool (r))) [1, 0, 1, 0] n1 (d_spec_IsAtom_S1 a0_ v1_3) := by
  intro n
  induction n with
  | zero => intro v1_3 h; simp [d_spec_IsAtom_L1] at h
  | succ n1 ih1 =>
    intro v1_3 h
    rw [d_spec_IsAtom_L1] at h
    refine AWr_succ fun N1 hN1 hS1 => ?_
    obtain ⟨h28, h⟩ | ⟨h28, h⟩ := den_if h
    · obtain ⟨b29, h30, h⟩ := den_bind h
      obtain ⟨y31, h32, h⟩ := den_bind h
      have o3_ := (((pre0.b h28).c h30).g (d_spec_l1In_good h32))
      obtain ⟨h33, h⟩ | ⟨h33, h⟩ := den_if h
      · obtain ⟨y34, h35, h⟩ := den_bind h
        have o4_ := (((((o3_.r 3 h33).c h30).r 2 h33).g (d_spec_l1In_good h35)).r 2 h33)
        obtain ⟨h36, h⟩ | ⟨h36, h⟩ := den_if h
        · have h := den_some h; subst h; exact (o4_.b h36).ret hΓ
        · exact ((o4_.b h36).a [.cn [0, 3] []]).cf hΓ hS1 (ih1 (IntKind.i64.wrap ((v1_3) + (1))) h)
      · exact (((o3_.r 7 h33).F 1).a [.cn [0, 3] []]).cf hΓ hS1 (ih1 (IntKind.i64.wrap ((v1_3) + (1))) h)
    · exact ((pre0.b h28).a [.hl 0 [0] []]).ex hΓ hN1 (hE1 h)
theorem d_spec_IsAtom_good {a0_ : Bytes} {r : Bool} (h : d_spec_IsAtom a0_ = some r) : Good Tryd.prog 35 [D.str (a0_)] (D.bool (r)) := by
  refine gd Tryd.func35 [[none]] 27 fun hr Γ hΓ => ?_
  rw [d_spec_IsAtom] at h
  refine (pre0.a [.cn [0, 3] []]).lp hΓ (d_spec_IsAtom_L1w hΓ (fun h => ?_) fuel (0) h)
  obtain ⟨y37, h38, h⟩ := den_bind h
  have h := den_some h; subst h; exact (pre0.g (d_spec_l1In_good h38)).ret hΓ
def d_spec_IsVar (a0_ : Bytes) : Option Bool := (bif decide ((((a0_).length : Int) : Int) > (1)) then ((atI (a0_) (0)).bind fun b2 => (bif (b2.toNat : Int) == (63) then ((pcut (a0_).length (some (D.int .i64 (1))) (none)).bind fun p => (fun l5 u6 => ((d_spec_IsAtom (((a0_).take u6).drop l5)).bind fun y8 => (some (y8)))) p.1 p.2) else (some (false)))) else (some (false)))
theorem d_spec_IsVar_good {a0_ : Bytes} {r : Bool} (h : d_spec_IsVar a0_ = some r) : Good Tryd.prog 48 [D.str (a0_)] (D.bool (r)) := by
  refine gd Tryd.func48 [[none]] 16 fun hr Γ hΓ => ?_
  rw [d_spec_IsVar] at h
  obtain ⟨h1, h⟩ | ⟨h1, h⟩ := den_if h
  · obtain ⟨b2, h3, h⟩ := den_bind h
    have o1_ := (((pre0.r 2 h1).c h3).r 2 h1)
    obtain ⟨h4, h⟩ | ⟨h4, h⟩ := den_if h
    · obtain ⟨⟨l5, u6⟩, h7, h⟩ := den_bind h
      obtain ⟨y8, h9, h⟩ := den_bind h
      have h := den_some h; subst h; exact ((((((o1_.r 2 h4).w h7).a [.cut l5 u6]).b h4).g (d_spec_IsAtom_good h9)).b h4).ret hΓ
    · have h := den_some h; subst h; exact (o1_.r 4 h4).ret hΓ
  · have h := den_some h; subst h; exact ((pre0.r 4 h1).F 4).ret hΓ
def d_spec_IsTerm (a0_ : Bytes) : Option Bool := ((d_spec_IsAtom (a0_)).bind fun y1 => (bif y1 then (some (true)) else ((d_spec_IsVar (a0_)).bind fun y4 => (some (y4)))))
theorem d_spec_IsTerm_good {a0_ : Bytes} {r : Bool} (h : d_spec_IsTerm a0_ = some r) : Good Tryd.prog 23 [D.str (a0_)] (D.bool (r)) := by
  refine gd Tryd.func23 [[none]] 9 fun hr Γ hΓ => ?_
  rw [d_spec_IsTerm] at h
  obtain ⟨y1, h2, h⟩ := den_bind h
  obtain ⟨h3, h⟩ | ⟨h3, h⟩ := den_if h
  · have h := den_some h; subst h; exact ((pre0.g (d_spec_IsAtom_good h2)).r 3 h3).ret hΓ
  · obtain ⟨y4, h5, h⟩ := den_bind h
    have h := den_some h; subst h; exact ((((pre0.g (d_spec_IsAtom_good h2)).r 2 h3).g (d_spec_IsVar_good h5)).b h3).ret hΓ
def d_spec_IsName (a0_ : Bytes) : Option Bool := ((d_spec_IsAtom (a0_)).bind fun y1 => (bif y1 then ((atI (a0_) (0)).bind fun b4 => ((d_spec_l1In (IntKind.i64.wrap (b4.toNat)) (97) (122)).bind fun y6 => (some (y6)))) else (some (false))))
theorem d_spec_IsName_good {a0_ : Bytes} {r : Bool} (h : d_spec_IsName a0_ = some r) : Good Tryd.prog 24 [D.str (a0_)] (D.bool (r)) := by
  refine gd Tryd.func24 [[none]] 11 fun hr Γ hΓ => ?_
  rw [d_spec_IsName] at h
  obtain ⟨y1, h2, h⟩ := den_bind h
  obtain ⟨h3, h⟩ | ⟨h3, h⟩ := den_if h
  · obtain ⟨b4, h5, h⟩ := den_bind h
    obtain ⟨y6, h7, h⟩ := den_bind h
    have h := den_some h; subst h; exact ((((((pre0.g (d_spec_IsAtom_good h2)).r 2 h3).c h5).r 2 h3).g (d_spec_l1In_good h7)).b h3).ret hΓ
  · have h := den_some h; subst h; exact ((pre0.g (d_spec_IsAtom_good h2)).r 5 h3).ret hΓ
def d_spec_IsPattern_L1 (a0_ : Fact) (k1 : Option Bool) : List Bytes → Nat → Option Bool
  | [], i1 => (k1 )
  | x1_ :: xs1, i1 => ((d_spec_IsTerm (x1_)).bind fun y21 => (bif !(y21) then (some (false)) else (d_spec_IsPattern_L1 a0_ k1 xs1 (i1 + 1) )))
def d_spec_IsPattern (a0_ : Fact) : Option Bool := (d_spec_IsPattern_L1 a0_ ((d_spec_IsName (a0_.rel)).bind fun y24 => (bif y24 then (some (decide (((((a0_.args).map tx).length : Int) : Int) ≤ (3)))) else (some (false)))) (a0_.args) 0 )
def d_spec_IsPattern_S1 (a0_ : Fact) (ix_ : Int) : St := ⟨[(1, D.ptr 0 0), (3, D.int .i64 (ix_))], [Ob.box (Fact.c a0_)]⟩
theorem d_spec_IsPattern_L1w (hΓ : Γ.nt = 27) {a0_ : Fact} {r : Bool} {k1 : Option Bool} (hE1 : k1 = some r → Ax Γ N Tryd.f9 (.q [[none]] (D.bool (r))) [1, 1] ⟨[(1, D.ptr 0 0)], [Ob.box (Fact.c a0_)]⟩) (hm1 : (a0_.args).length ≤ maxLen) : ∀ (rest : List Bytes) (i1 : Nat) , (a0_.args).drop i1 = rest → d_spec_IsPattern_L1 a0_ k1 rest i1  = some r → Ar Γ N Tryd.f9 (.q [[none]] (D.bool (r))) [1, 0, 1, 0] (rest.length + 1) (d_spec_IsPattern_S1 a0_ ((i1 : Int))) := by
  intro rest
  induction rest with
  | nil =>
    intro i1  hd1 h
    rw [d_spec_IsPattern_L1] at h
    refine AWr_succ fun N1 hN1 hS1 => ?_
    exact ((pre0.ge tx hd1).a [.hl 0 [1] [0]]).ex hΓ hN1 (hE1 h)
  | cons x1_ xs1 ih1 =>
    intro i1  hd1 h
    rw [d_spec_IsPattern_L1] at h
    refine AWr_succ fun N1 hN1 hS1 => ?_
    obtain ⟨y21, h22, h⟩ := den_bind h
    have o2_ := (((pre0.lt tx hd1).l (map_row tx 1 (dc hd1) rfl)).g (d_spec_IsTerm_good h22))
    obtain ⟨h23, h⟩ | ⟨h23, h⟩ := den_if h
    · have h := den_some h; subst h; exact (o2_.b h23).ret hΓ
    · exact ((o2_.b h23).a [.cn [1, 3] [0]]).ct hΓ hS1 (iS hd1 hm1) (ih1 (i1 + 1)  (dn hd1) h)
theorem d_spec_IsPattern_good {a0_ : Fact} {r : Bool} (h : d_spec_IsPattern a0_ = some r) : Good Tryd.prog 9 [D.agg (Fact.c a0_)] (D.bool (r)) := by
  refine gd Tryd.func9 [[none]] 27 fun hr Γ hΓ => ?_
  rw [d_spec_IsPattern] at h
  refine (pre0.a [.cn [1, 3] [0]]).lp hΓ (d_spec_IsPattern_L1w hΓ (fun h => ?_) (by have := (Rdb.sl (Rdb.agg (hr _ (List.mem_of_getElem? (i := 0) rfl)) (.sl ((a0_.args).map tx)) (by simp))).1; simpa using this) (a0_.args) 0  rfl h)
  obtain ⟨y24, h25, h⟩ := den_bind h
  obtain ⟨h26, h⟩ | ⟨h26, h⟩ := den_if h
  · cases h; exact ((pre0.g (d_spec_IsName_good h25)).r 5 h26).ret hΓ
  · have h := den_some h; subst h; exact ((pre0.g (d_spec_IsName_good h25)).r 5 h26).ret hΓ
def d_impl_IsName (a0_ : Bytes) : Option Bool := ((d_impl_IsAtom (a0_)).bind fun y1 => (bif y1 then ((atI (a0_) (0)).bind fun b4 => (some (decide ((b4.toNat : Int) ≥ (97))))) else (some (false))))
theorem d_impl_IsName_good {a0_ : Bytes} {r : Bool} (h : d_impl_IsName a0_ = some r) : Good Tryd.prog 50 [D.str (a0_)] (D.bool (r)) := by
  refine gd Tryd.func50 [[none]] 10 fun hr Γ hΓ => ?_
  rw [d_impl_IsName] at h
  obtain ⟨y1, h2, h⟩ := den_bind h
  obtain ⟨h3, h⟩ | ⟨h3, h⟩ := den_if h
  · obtain ⟨b4, h5, h⟩ := den_bind h
    cases h; exact ((((pre0.g (d_impl_IsAtom_good h2)).r 2 h3).c h5).r 2 h3).ret hΓ
  · have h := den_some h; subst h; exact ((pre0.g (d_impl_IsAtom_good h2)).r 4 h3).ret hΓ
def d_impl_IsTerm (a0_ : Bytes) : Option Bool := ((d_impl_IsAtom (a0_)).bind fun y1 => (bif y1 then (some (true)) else ((d_impl_IsVar (a0_)).bind fun y4 => (some (y4)))))
theorem d_impl_IsTerm_good {a0_ : Bytes} {r : Bool} (h : d_impl_IsTerm a0_ = some r) : Good Tryd.prog 51 [D.str (a0_)] (D.bool (r)) := by
  refine gd Tryd.func51 [[none]] 9 fun hr Γ hΓ => ?_
  rw [d_impl_IsTerm] at h
  obtain ⟨y1, h2, h⟩ := den_bind h
  obtain ⟨h3, h⟩ | ⟨h3, h⟩ := den_if h
  · have h := den_some h; subst h; exact ((pre0.g (d_impl_IsAtom_good h2)).r 3 h3).ret hΓ
  · obtain ⟨y4, h5, h⟩ := den_bind h
    have h := den_some h; subst h; exact ((((pre0.g (d_impl_IsAtom_good h2)).r 2 h3).g (d_impl_IsVar_good h5)).b h3).ret hΓ
def d_impl_IsPattern_L1 (a0_ : Fact) (k1 : Option Bool) : List Bytes → Nat → Option Bool
  | [], i1 => (k1 )
  | x1_ :: xs1, i1 => ((d_impl_IsTerm (x1_)).bind fun y25 => (bif !(y25) then (some (false)) else (d_impl_IsPattern_L1 a0_ k1 xs1 (i1 + 1) )))
def d_impl_IsPattern (a0_ : Fact) : Option Bool := ((d_impl_IsName (a0_.rel)).bind fun y1 => (bif !(y1) then (some (false)) else (bif decide (((((a0_.args).map tx).length : Int) : Int) > (3)) then (some (false)) else (d_impl_IsPattern_L1 a0_ (some (true)) (a0_.args) 0 ))))
def d_impl_IsPattern_S1 (a0_ : Fact) (ix_ : Int) : St := ⟨[(16, D.sl ((a0_.args).map tx)), (17, D.int .i64 ((((a0_.args).map tx).length : Int))), (18, D.int .i64 (ix_))], []⟩
theorem d_impl_IsPattern_L1w (hΓ : Γ.nt = 26) {a0_ : Fact} {r : Bool} {k1 : Option Bool} (hE1 : k1 = some r → Ax Γ N Tryd.f25 (.q [[none]] (D.bool (r))) [1, 1, 1] ⟨[], []⟩) (hm1 : (a0_.args).length ≤ maxLen) : ∀ (rest : List Bytes) (i1 : Nat) , (a0_.args).drop i1 = rest → d_impl_IsPattern_L1 a0_ k1 rest i1  = some r → Ar Γ N Tryd.f25 (.q [[none]] (D.bool (r))) [1, 1, 0, 1, 0] (rest.length + 1) (d_impl_IsPattern_S1 a0_ ((i1 : Int))) := by
  intro rest
  induction rest with
  | nil =>
    intro i1  hd1 h
    rw [d_impl_IsPattern_L1] at h
    refine AWr_succ fun N1 hN1 hS1 => ?_
    exact ((pre0.ge tx hd1).a [.hl 0 [] []]).ex hΓ hN1 (hE1 h)
  | cons x1_ xs1 ih1 =>
    intro i1  hd1 h
    rw [d_impl_IsPattern_L1] at h
    refine AWr_succ fun N1 hN1 hS1 => ?_
    obtain ⟨y25, h26, h⟩ := den_bind h
    have o2_ := (((pre0.lt tx hd1).l (map_row tx 1 (dc hd1) rfl)).g (d_impl_IsTerm_good h26))
    obtain ⟨h27, h⟩ | ⟨h27, h⟩ := den_if h
    · have h := den_some h; subst h; exact (o2_.b h27).ret hΓ
    · exact ((o2_.b h27).a [.cn [16, 17, 18] []]).ct hΓ hS1 (iS hd1 hm1) (ih1 (i1 + 1)  (dn hd1) h)
theorem d_impl_IsPattern_good {a0_ : Fact} {r : Bool} (h : d_impl_IsPattern a0_ = some r) : Good Tryd.prog 25 [D.agg (Fact.c a0_)] (D.bool (r)) := by
  refine gd Tryd.func25 [[none]] 26 fun hr Γ hΓ => ?_
  rw [d_impl_IsPattern] at h
  obtain ⟨y1, h2, h⟩ := den_bind h
  obtain ⟨h3, h⟩ | ⟨h3, h⟩ := den_if h
  · have h := den_some h; subst h; exact (((pre0.g (d_impl_IsName_good h2)).r 5 h3).T 1).ret hΓ
  · have o3_ := ((pre0.g (d_impl_IsName_good h2)).r 5 h3)
    obtain ⟨h4, h⟩ | ⟨h4, h⟩ := den_if h
    · have h := den_some h; subst h; exact (o3_.b h4).ret hΓ
    · refine ((o3_.b h4).a [.cn [16, 17, 18] []]).lp hΓ (d_impl_IsPattern_L1w hΓ (fun h => ?_) (by have := (Rdb.sl (Rdb.agg (hr _ (List.mem_of_getElem? (i := 0) rfl)) (.sl ((a0_.args).map tx)) (by simp))).1; simpa using this) (a0_.args) 0  rfl h)
      have h := den_some h; subst h; exact pre0.ret hΓ
def d_impl_CoversPattern_L1 (a0_ : Fact) (a1_ : Fact) (k1 : Option Bool) : List Bytes → Nat → List (Bytes × Bytes) → Option Bool
  | [], i1, m1_1 => (k1 )
  | x1_ :: xs1, i1, m1_1 => ((d_impl_IsAtom (x1_)).bind fun y80 => (bif y80 then ((atI (a1_.args) ((i1 : Int))).bind fun x83 => (bif !((x1_ : Bytes) == (x83)) then (some (false)) else (d_impl_CoversPattern_L1 a0_ a1_ k1 xs1 (i1 + 1) (m1_1)))) else (bif mHas (x1_) (m1_1) then ((atI (a1_.args) ((i1 : Int))).bind fun x87 => (bif !((mGet ([] : Bytes) (x1_) (m1_1) : Bytes) == (x87)) then (some (false)) else (d_impl_CoversPattern_L1 a0_ a1_ k1 xs1 (i1 + 1) (mPut (x1_) (x87) (m1_1))))) else ((atI (a1_.args) ((i1 : Int))).bind fun x90 => (d_impl_CoversPattern_L1 a0_ a1_ k1 xs1 (i1 + 1) (mPut (x1_) (x90) (m1_1)))))))
def d_impl_CoversPattern (a0_ : Fact) (a1_ : Fact) : Option Bool := ((d_impl_IsPattern (a0_)).bind fun y1 => (bif !(y1) then (some (false)) else ((d_impl_IsPattern (a1_)).bind fun y4 => (bif !(y4) then (some (false)) else (bif !((a0_.rel : Bytes) == (a1_.rel)) then (some (false)) else (bif ((((a0_.args).map tx).length : Int) : Int) != ((((a1_.args).map tx).length : Int)) then (some (false)) else (d_impl_CoversPattern_L1 a0_ a1_ (some (true)) (a0_.args) 0 (([] : List (Bytes × Bytes))))))))))
def d_impl_CoversPattern_S1 (a0_ : Fact) (a1_ : Fact) (W0 : List (D × D)) (ix_ : Int) : St := ⟨[(3, D.ptr 0 0), (5, D.acc 1), (36, D.sl ((a0_.args).map tx)), (37, D.int .i64 ((((a0_.args).map tx).length : Int))), (38, D.int .i64 (ix_))], [Ob.box (Fact.c a1_), Ob.mp (W0)]⟩
theorem d_impl_CoversPattern_L1w (hΓ : Γ.nt = 76) {a0_ : Fact} {a1_ : Fact} {r : Bool} {k1 : Option Bool} (hE1 : k1 = some r → Ax Γ N Tryd.f10 (.q [[none]] (D.bool (r))) [1, 1, 1, 1] ⟨[], []⟩) (hm1 : (a0_.args).length ≤ maxLen) : ∀ (rest : List Bytes) (i1 : Nat) (m1_1 : List (Bytes × Bytes)), (a0_.args).drop i1 = rest → d_impl_CoversPattern_L1 a0_ a1_ k1 rest i1 m1_1 = some r → Ar Γ N Tryd.f10 (.q [[none]] (D.bool (r))) [1, 1, 1, 0, 1, 0] (rest.length + 1) (d_impl_CoversPattern_S1 a0_ a1_ ((m1_1).map (kS eS)) ((i1 : Int))) := by
  intro rest
  induction rest with
  | nil =>
    intro i1 m1_1 hd1 h
    rw [d_impl_CoversPattern_L1] at h
    refine AWr_succ fun N1 hN1 hS1 => ?_
    exact ((pre0.ge tx hd1).a [.hl 0 [] []]).ex hΓ hN1 (hE1 h)
  | cons x1_ xs1 ih1 =>
    intro i1 m1_1 hd1 h
    rw [d_impl_CoversPattern_L1] at h
    refine AWr_succ fun N1 hN1 hS1 => ?_
    obtain ⟨y80, h81, h⟩ := den_bind h
    have o5_ := (((pre0.lt tx hd1).l (map_row tx 1 (dc hd1) rfl)).g (d_impl_IsAtom_good h81))
    obtain ⟨h82, h⟩ | ⟨h82, h⟩ := den_if h
    · obtain ⟨x83, h84, h⟩ := den_bind h
      have o6_ := ((o5_.b h82).l (at_row tx 1 h84 rfl))
      obtain ⟨h85, h⟩ | ⟨h85, h⟩ := den_if h
      · have h := den_some h; subst h; exact (o6_.b h85).ret hΓ
      · exact ((o6_.b h85).a [.cn [3, 5, 36, 37, 38] [0, 1]]).ct hΓ hS1 (iS hd1 hm1) (ih1 (i1 + 1) (m1_1) (dn hd1) h)
    · have o7_ := (((o5_.b h82).w (show plk Tryd.prog 52 ((m1_1).map (kS eS)) (D.str (x1_)) true = some (D.tup [D.str (mGet ([] : Bytes) (x1_) (m1_1)), D.bool (mHas (x1_) (m1_1))]) from lk_kSok (e := eS) (z := ([] : Bytes)) (by kernel_rfl))).a [.d (D.tup [D.str (mGet ([] : Bytes) (x1_) (m1_1)), D.bool (mHas (x1_) (m1_1))])])
      obtain ⟨h86, h⟩ | ⟨h86, h⟩ := den_if h
      · obtain ⟨x87, h88, h⟩ := den_bind h
        have o8_ := (((o7_.r 5 h86).l (at_row tx 1 h88 rfl)).r 3 h86)
        obtain ⟨h89, h⟩ | ⟨h89, h⟩ := den_if h
        · have h := den_some h; subst h; exact (o8_.b h89).ret hΓ
        · exact ((((o8_.b h89).l (at_row tx 1 h88 rfl)).w (show kvPut (D.str (x1_)) (D.str (x87)) ((m1_1).map (kS eS)) = some ((mPut (x1_) (x87) (m1_1)).map (kS eS)) from put_kS (e := eS) (m := m1_1))).a [.kv ((mPut (x1_) (x87) (m1_1)).map (kS eS)), .cn [3, 5, 36, 37, 38] [0, 1]]).ct hΓ hS1 (iS hd1 hm1) (ih1 (i1 + 1) (mPut (x1_) (x87) (m1_1)) (dn hd1) h)
      · obtain ⟨x90, h91, h⟩ := den_bind h
        exact (((((o7_.r 8 h86).F 1).l (at_row tx 1 h91 rfl)).w (show kvPut (D.str (x1_)) (D.str (x90)) ((m1_1).map (kS eS)) = some ((mPut (x1_) (x90) (m1_1)).map (kS eS)) from put_kS (e := eS) (m := m1_1))).a [.kv ((mPut (x1_) (x90) (m1_1)).map (kS eS)), .cn [3, 5, 36, 37, 38] [0, 1]]).ct hΓ hS1 (iS hd1 hm1) (ih1 (i1 + 1) (mPut (x1_) (x90) (m1_1)) (dn hd1) h)
theorem d_impl_CoversPattern_good {a0_ : Fact} {a1_ : Fact} {r : Bool} (h : d_impl_CoversPattern a0_ a1_ = some r) : Good Tryd.prog 10 [D.agg (Fact.c a0_), D.agg (Fact.c a1_)] (D.bool (r)) := by
  refine gd Tryd.func10 [[none]] 76 fun hr Γ hΓ => ?_
  rw [d_impl_CoversPattern] at h
  obtain ⟨y1, h2, h⟩ := den_bind h
  obtain ⟨h3, h⟩ | ⟨h3, h⟩ := den_if h
  · have h := den_some h; subst h; exact (((pre0.g (d_impl_IsPattern_good h2)).r 4 h3).T 15).ret hΓ
  · obtain ⟨y4, h5, h⟩ := den_bind h
    have o9_ := ((((pre0.g (d_impl_IsPattern_good h2)).r 2 h3).g (d_impl_IsPattern_good h5)).r 2 h3)
    obtain ⟨h6, h⟩ | ⟨h6, h⟩ := den_if h
    · have h := den_some h; subst h; exact ((o9_.r 6 h6).T 9).ret hΓ
    · have o10_ := (o9_.r 6 h6)
      obtain ⟨h7, h⟩ | ⟨h7, h⟩ := den_if h
      · have h := den_some h; subst h; exact ((o10_.r 8 h7).T 1).ret hΓ
      · have o11_ := (o10_.r 8 h7)
        obtain ⟨h8, h⟩ | ⟨h8, h⟩ := den_if h
        · have h := den_some h; subst h; exact (o11_.b h8).ret hΓ
        · refine ((o11_.b h8).a [.cn [3, 5, 36, 37, 38] [1, 2]]).lp hΓ (d_impl_CoversPattern_L1w hΓ (fun h => ?_) (by have := (Rdb.sl (Rdb.agg (hr _ (List.mem_of_getElem? (i := 0) rfl)) (.sl ((a0_.args).map tx)) (by simp))).1; simpa using this) (a0_.args) 0 (([] : List (Bytes × Bytes))) rfl h)
          have h := den_some h; subst h; exact pre0.ret hΓ
def d_spec_l3Binding_L1  (k1 : List Int → Int → Int → List Pair → Option (Cur × (List Pair))) : List Bytes → Nat → List Int → Int → Int → List Pair → Option (Cur × (List Pair))
  | [], i1, u1_0_0, u1_0_1, u1_0_2, w1_1 => (k1 (u1_0_0) (u1_0_1) (u1_0_2) (w1_1))
  | x1_ :: xs1, i1, u1_0_0, u1_0_1, u1_0_2, w1_1 => ((d_spec_l1Once ((⟨u1_0_0, u1_0_1, u1_0_2⟩ : Cur)) (2)).bind fun y43 => (bif y43.2 then ((d_spec_l1Atom (y43.1)).bind fun y46 => (bif room (((w1_1).map Pair.c).length + ([[D.str (x1_), D.str (y46.2)]]).length) 32 then (d_spec_l3Binding_L1  k1 xs1 (i1 + 1) (y46.1.b) (y46.1.i) (y46.1.h) ((w1_1) ++ ([(⟨x1_, y46.2⟩ : Pair)]))) else none)) else (d_spec_l3Binding_L1  k1 xs1 (i1 + 1) (y43.1.b) (y43.1.i) (y43.1.h) (w1_1))))
def d_spec_l3Binding (a0_ : Cur) : Option (Cur × (List Pair)) := (bif decide ((([[63, 120], [63, 121], [63, 122]] : List Bytes)).length ≤ maxLen) then (d_spec_l3Binding_L1  (fun (r1_0_0 : List Int) (r1_0_1 : Int) (r1_0_2 : Int) (q1_1 : List Pair) => (some (((⟨r1_0_0, r1_0_1, r1_0_2⟩ : Cur), q1_1)))) (([[63, 120], [63, 121], [63, 122]] : List Bytes)) 0 (a0_.b) (a0_.i) (a0_.h) (([] : List Pair))) else none)
def d_spec_l3Binding_S1 (v0_ : Value) (u1_0_1 : Int) (u1_0_2 : Int) (W0 : List (List D)) (W3 : List (List D)) (ix_ : Int) : St := ⟨[(0, D.ptr 0 0), (3, D.acc 1), (7, D.acc 2), (8, D.int .i64 ((((([[63, 120], [63, 121], [63, 122]] : List Bytes)).map tx).length : Int))), (9, D.int .i64 (ix_))], [Ob.pbx [D.sl (W0), D.int .i64 (u1_0_1), D.int .i64 (u1_0_2)] v0_, Ob.row .uq 71 2 (W3), Ob.row .uq 9 1 ((([[63, 120], [63, 121], [63, 122]] : List Bytes)).map tx)]⟩
theorem d_spec_l3Binding_L1w (hΓ : Γ.nt = 24) {v0_ : Value}  {r : Cur × (List Pair)} {k1 : List Int → Int → Int → List Pair → Option (Cur × (List Pair))} (hE1 : ∀ (r1_0_0 : List Int) (r1_0_1 : Int) (r1_0_2 : Int) (q1_1 : List Pair), k1 r1_0_0 r1_0_1 r1_0_2 q1_1 = some r → Ax Γ N Tryd.f52 (.p [[none, none, none], [some (71, 2)]] v0_ (Cur.c r.1) (D.fr 71 2 ((r.2).map Pair.c))) [1, 1, 1] ⟨[(3, D.acc 1)], [Ob.pbx [D.sl ((r1_0_0).map yx), D.int .i64 (r1_0_1), D.int .i64 (r1_0_2)] v0_, Ob.row .uq 71 2 ((q1_1).map Pair.c)]⟩) (hm1 : (([[63, 120], [63, 121], [63, 122]] : List Bytes)).length ≤ maxLen) : ∀ (rest : List Bytes) (i1 : Nat) (u1_0_0 : List Int) (u1_0_1 : Int) (u1_0_2 : Int) (w1_1 : List Pair), (([[63, 120], [63, 121], [63, 122]] : List Bytes)).drop i1 = rest → d_spec_l3Binding_L1  k1 rest i1 u1_0_0 u1_0_1 u1_0_2 w1_1 = some r → Ar Γ N Tryd.f52 (.p [[none, none, none], [some (71, 2)]] v0_ (Cur.c r.1) (D.fr 71 2 ((r.2).map Pair.c))) [1, 1, 0, 1, 0] (rest.length + 1) (d_spec_l3Binding_S1 v0_ u1_0_1 u1_0_2 ((u1_0_0).map yx) ((w1_1).map Pair.c) ((i1 : Int))) := by
  intro rest
  induction rest with
  | nil =>
    intro i1 u1_0_0 u1_0_1 u1_0_2 w1_1 hd1 h
    rw [d_spec_l3Binding_L1] at h
    refine AWr_succ fun N1 hN1 hS1 => ?_
    exact ((pre0.ge tx hd1).a [.hl 0 [3] [0, 1]]).ex hΓ hN1 (hE1 (u1_0_0) (u1_0_1) (u1_0_2) (w1_1) h)
  | cons x1_ xs1 ih1 =>
    intro i1 u1_0_0 u1_0_1 u1_0_2 w1_1 hd1 h
    rw [d_spec_l3Binding_L1] at h
    refine AWr_succ fun N1 hN1 hS1 => ?_
    obtain ⟨y43, h44, h⟩ := den_bind h
    have o2_ := (((((pre0.lt tx hd1).i (own_ixl tx 1 (dc hd1))).o 1 1 .uq (map_get tx (dc hd1))).w (show GoodP Tryd.prog 27 (Cur.c ((⟨u1_0_0, u1_0_1, u1_0_2⟩ : Cur))) (Cur.c y43.1) [D.int .i64 (2)] (D.bool (y43.2)) from by simpa only [List.map_append, List.map_cons, List.map_nil, List.map_drop, List.map_take] using d_spec_l1Once_good h44)).a [.gp [[none, none, none], [none]] (Cur.c y43.1) (D.bool (y43.2))])
    obtain ⟨h45, h⟩ | ⟨h45, h⟩ := den_if h
    · obtain ⟨y46, h47, h⟩ := den_bind h
      obtain ⟨h48, h⟩ := den_ok h
      exact ((((o2_.b h45).hp [[none, none, none]] (d_spec_l1Atom_good h47)).w (room_ok h48)).a [.cn [0, 3, 7, 8, 9] [0, 4, 2]]).cs hΓ hS1 (d_spec_l3Binding_S1 v0_ (y46.1.i) (y46.1.h) ((y46.1.b).map yx) (((w1_1).map Pair.c) ++ ([[D.str (x1_), D.str (y46.2)]])) (IntKind.i64.wrap (((i1 : Int)) + (1)))) (by first | (simp only [iS hd1 hm1, mA] <;> rfl) | (simp only [iS hd1 hm1, mA, Fact.c, Pair.c, Cond.c, Action.c, Rule.c, Token.c, Match.c, Alpha.c, Node.c, Network.c, Stamp.c] <;> rfl)) (ih1 (i1 + 1) (y46.1.b) (y46.1.i) (y46.1.h) ((w1_1) ++ ([(⟨x1_, y46.2⟩ : Pair)])) (dn hd1) h)
    · exact ((o2_.b h45).a [.cn [0, 3, 7, 8, 9] [0, 1, 2]]).ct hΓ hS1 (iS hd1 hm1) (ih1 (i1 + 1) (y43.1.b) (y43.1.i) (y43.1.h) (w1_1) (dn hd1) h)
theorem d_spec_l3Binding_good {a0_ : Cur} {r : Cur × (List Pair)} (h : d_spec_l3Binding a0_ = some r) : GoodP Tryd.prog 52 (Cur.c a0_) (Cur.c r.1) [] (D.fr 71 2 ((r.2).map Pair.c)) := by
  refine gdP Tryd.func52 [[none, none, none], [some (71, 2)]] 24 [D.sl ((a0_.b).map yx), D.int .i64 (a0_.i), D.int .i64 (a0_.h)] [] [] fun hr v0_ Γ hΓ => ?_
  rw [d_spec_l3Binding] at h
  obtain ⟨h49, h⟩ := den_ok h
  refine (pre0.a [.cn [0, 3, 7, 8, 9] [0, 1, 2]]).lp hΓ (d_spec_l3Binding_L1w hΓ (fun r1_0_0 r1_0_1 r1_0_2 q1_1 h => ?_) (of_decide_eq_true h49) (([[63, 120], [63, 121], [63, 122]] : List Bytes)) 0 (a0_.b) (a0_.i) (a0_.h) (([] : List Pair)) rfl h)
  cases h; exact pre0.ret hΓ
def d_spec_l1Int (a0_ : Cur) (a1_ : List Int) : Option (Cur × Int) := ((d_spec_l1Below (a0_) ((((a1_).map ixx).length : Int))).bind fun y1 => ((atI (a1_) (y1.2)).bind fun x3 => (some ((y1.1, x3)))))
theorem d_spec_l1Int_good {a0_ : Cur} {a1_ : List Int} {r : Cur × Int} (h : d_spec_l1Int a0_ a1_ = some r) : GoodP Tryd.prog 53 (Cur.c a0_) (Cur.c r.1) [D.fr 3 1 ((a1_).map ixx)] (D.int .i64 (r.2)) := by
  refine gdP Tryd.func53 [[none, none, none], [none]] 12 [D.sl ((a0_.b).map yx), D.int .i64 (a0_.i), D.int .i64 (a0_.h)] [D.acc 1] [Ob.row .uq 3 1 ((a1_).map ixx)] fun hr v0_ Γ hΓ => ?_
  rw [d_spec_l1Int] at h
  obtain ⟨y1, h2, h⟩ := den_bind h
  obtain ⟨x3, h4, h⟩ := den_bind h
  cases h; exact (((pre0.hp [[none, none, none], [none]] (d_spec_l1Below_good h2)).i (own_at ixx 1 h4)).o 1 1 .uq (map_get ixx (atI_get h4))).ret hΓ
def d_spec_FormatInt_R_L1  (k1 : Option Bytes) : Nat → Int → Bytes → Option Bytes
  | 0, _, _ => none
  | n1 + 1, v1_0, v1_3 => (bif decide (0 ≤ (v1_0 : Int)) && decide (0 < (10 : Int)) then (bif decide (([UInt8.ofNat (IntKind.u8.wrap (IntKind.i64.wrap ((48) + ((v1_0 : Int) % (10))))).toNat] : Bytes).length + (v1_3 : Bytes).length ≤ maxLen) then (bif decide (0 ≤ (v1_0 : Int)) && decide (0 < (10 : Int)) then (bif ((v1_0 : Int) / (10) : Int) == (0) then (some (([UInt8.ofNat (IntKind.u8.wrap (IntKind.i64.wrap ((48) + ((v1_0 : Int) % (10))))).toNat]) ++ (v1_3))) else (d_spec_FormatInt_R_L1  k1 n1 ((v1_0 : Int) / (10)) (([UInt8.ofNat (IntKind.u8.wrap (IntKind.i64.wrap ((48) + ((v1_0 : Int) % (10))))).toNat]) ++ (v1_3)))) else none) else none) else none)
def d_spec_FormatInt_R : Nat → Int → Option Bytes
  | 0, _ => none
  | m_ + 1, a0_ => (bif (a0_ : Int) == (-9223372036854775808) then (some ([45, 57, 50, 50, 51, 51, 55, 50, 48, 51, 54, 56, 53, 52, 55, 55, 53, 56, 48, 56])) else (bif decide ((a0_ : Int) < (0)) then ((d_spec_FormatInt_R m_ (IntKind.i64.wrap (0 - (a0_)))).bind fun y3 => (bif decide (([45] : Bytes).length + (y3 : Bytes).length ≤ maxLen) then (some (([45]) ++ (y3))) else none)) else (d_spec_FormatInt_R_L1  none fuel (a0_) ([]))))
def d_spec_FormatInt_R_S1 (v1_0 : Int) (v1_3 : Bytes) : St := ⟨[(0, D.int .i64 (v1_0)), (3, D.str (v1_3))], []⟩
theorem d_spec_FormatInt_R_L1w (hΓ : Γ.nt = 25)  {r : Bytes} {k1 : Option Bytes} (hE1 : k1 = some r → Ax Γ N Tryd.f54 (.q [[none]] (D.str (r))) [1, 1, 1, 1, 0, 0] ⟨[], []⟩) : ∀ (n1 : Nat) (v1_0 : Int) (v1_3 : Bytes), d_spec_FormatInt_R_L1  k1 n1 v1_0 v1_3 = some r → Ar Γ N Tryd.f54 (.q [[none]] (D.str (r))) [1, 1, 1, 1, 0] n1 (d_spec_FormatInt_R_S1 v1_0 v1_3) := by
  intro n
  induction n with
  | zero => intro v1_0 v1_3 h; simp [d_spec_FormatInt_R_L1] at h
  | succ n1 ih1 =>
    intro v1_0 v1_3 h
    rw [d_spec_FormatInt_R_L1] at h
    refine AWr_succ fun N1 hN1 hS1 => ?_
    obtain ⟨h14, h⟩ := den_ok h
    obtain ⟨h15, h⟩ := den_ok h
    obtain ⟨h16, h⟩ := den_ok h
    have o2_ := (((pre0.w (quo_ok .i64 h14)).w (of_decide_eq_true h15)).w (quo_ok .i64 h16))
    obtain ⟨h17, h⟩ | ⟨h17, h⟩ := den_if h
    · cases h; exact (o2_.b h17).rts hΓ (D.str (([UInt8.ofNat (IntKind.u8.wrap (IntKind.i64.wrap ((48) + ((v1_0 : Int) % (10))))).toNat]) ++ (v1_3))) (by first | rfl | (simp only [mA] <;> rfl))
    · exact ((o2_.b h17).a [.cn [0, 3] []]).cf hΓ hS1 (ih1 ((v1_0 : Int) / (10)) (([UInt8.ofNat (IntKind.u8.wrap (IntKind.i64.wrap ((48) + ((v1_0 : Int) % (10))))).toNat]) ++ (v1_3)) h)
theorem d_spec_FormatInt_R_step {m_ : Nat} (ihR : ∀ {a0_ : Int} {r : Bytes}, d_spec_FormatInt_R m_ a0_ = some r → Good Tryd.prog 54 [D.int .i64 (a0_)] (D.str (r))) {a0_ : Int} {r : Bytes} (h : d_spec_FormatInt_R (m_ + 1) a0_ = some r) : Good Tryd.prog 54 [D.int .i64 (a0_)] (D.str (r)) := by
  refine gd Tryd.func54 [[none]] 25 fun hr Γ hΓ => ?_
  rw [d_spec_FormatInt_R] at h
  obtain ⟨h1, h⟩ | ⟨h1, h⟩ := den_if h
  · cases h; exact (pre0.b h1).ret hΓ
  · obtain ⟨h2, h⟩ | ⟨h2, h⟩ := den_if h
    · obtain ⟨y3, h4, h⟩ := den_bind h
      obtain ⟨h5, h⟩ := den_ok h
      cases h; exact ((((pre0.b h1).b h2).g (ihR h4)).w (of_decide_eq_true h5)).rts hΓ (D.str (([45]) ++ (y3))) (by first | rfl | (simp only [mA] <;> rfl))
    · refine (((pre0.b h1).b h2).a [.cn [0, 3] []]).lp hΓ (d_spec_FormatInt_R_L1w hΓ (fun h => ?_) fuel (a0_) ([]) h)
      cases h
theorem d_spec_FormatInt_R_good : ∀ (m_ : Nat) {a0_ : Int} {r : Bytes}, d_spec_FormatInt_R m_ a0_ = some r → Good Tryd.prog 54 [D.int .i64 (a0_)] (D.str (r))
  | 0, _, _, h => by cases h
  | m_ + 1, _, _, h => d_spec_FormatInt_R_step (fun h => d_spec_FormatInt_R_good m_ h) h
def d_spec_FormatInt (a0_ : Int) : Option Bytes := d_spec_FormatInt_R fuel a0_
theorem d_spec_FormatInt_good {a0_ : Int} {r : Bytes} (h : d_spec_FormatInt a0_ = some r) : Good Tryd.prog 54 [D.int .i64 (a0_)] (D.str (r)) := d_spec_FormatInt_R_good fuel h
def d_spec_l3AnyBinding_L1 (y12 : Cur × Int) (k1 : List Int → Int → Int → List Pair → Option (Cur × (List Pair))) : Nat → Int → List Int → Int → Int → List Pair → Option (Cur × (List Pair))
  | 0, _, _, _, _, _ => none
  | n1 + 1, v1_5, u1_0_0, u1_0_1, u1_0_2, w1_1 => (bif decide ((v1_5 : Int) < (y12.2)) then ((d_spec_FormatInt (v1_5)).bind fun y43 => (bif decide (([63, 118] : Bytes).length + (y43 : Bytes).length ≤ maxLen) then ((d_spec_l1Atom ((⟨u1_0_0, u1_0_1, u1_0_2⟩ : Cur))).bind fun y46 => (bif room (((w1_1).map Pair.c).length + ([[D.str (([63, 118]) ++ (y43)), D.str (y46.2)]]).length) 32 then (d_spec_l3AnyBinding_L1 y12 k1 n1 (IntKind.i64.wrap ((v1_5) + (1))) (y46.1.b) (y46.1.i) (y46.1.h) ((w1_1) ++ ([(⟨([63, 118]) ++ (y43), y46.2⟩ : Pair)]))) else none)) else none)) else (k1 (u1_0_0) (u1_0_1) (u1_0_2) (w1_1)))
def d_spec_l3AnyBinding (a0_ : Cur) : Option (Cur × (List Pair)) := ((d_spec_l3Binding (a0_)).bind fun y1 => ((d_spec_l1Below (y1.1) (10)).bind fun y3 => (bif (y3.2 : Int) == (0) then ((d_spec_l1Word (y3.1)).bind fun y6 => ((d_spec_l1Word (y6.1)).bind fun y8 => (bif room (((y1.2).map Pair.c).length + ([[D.str (y6.2), D.str (y8.2)]]).length) 32 then (some ((y8.1, (y1.2) ++ ([(⟨y6.2, y8.2⟩ : Pair)])))) else none))) else (bif (y3.2 : Int) == (1) then ((d_spec_l1Int (y3.1) (([5, 6, 7] : List Int))).bind fun y12 => (d_spec_l3AnyBinding_L1 y12 (fun (r1_0_0 : List Int) (r1_0_1 : Int) (r1_0_2 : Int) (q1_1 : List Pair) => (some (((⟨r1_0_0, r1_0_1, r1_0_2⟩ : Cur), q1_1)))) fuel (0) (y12.1.b) (y12.1.i) (y12.1.h) (([] : List Pair)))) else (some ((y3.1, y1.2)))))))
def d_spec_l3AnyBinding_S1 (v0_ : Value) (y12 : Cur × Int) (v1_5 : Int) (u1_0_1 : Int) (u1_0_2 : Int) (W1 : List (List D)) (W4 : List (List D)) : St := ⟨[(0, D.ptr 0 0), (3, D.acc 1), (4, D.int .i64 (y12.2)), (5, D.int .i64 (v1_5))], [Ob.pbx [D.sl (W1), D.int .i64 (u1_0_1), D.int .i64 (u1_0_2)] v0_, Ob.row .uq 71 2 (W4)]⟩
theorem d_spec_l3AnyBinding_L1w (hΓ : Γ.nt = 41) {v0_ : Value} {y12 : Cur × Int} {r : Cur × (List Pair)} {k1 : List Int → Int → Int → List Pair → Option (Cur × (List Pair))} (hE1 : ∀ (r1_0_0 : List Int) (r1_0_1 : Int) (r1_0_2 : Int) (q1_1 : List Pair), k1 r1_0_0 r1_0_1 r1_0_2 q1_1 = some r → Ax Γ N Tryd.f29 (.p [[none, none, none], [some (71, 2)]] v0_ (Cur.c r.1) (D.fr 71 2 ((r.2).map Pair.c))) [1, 1, 1] ⟨[(3, D.acc 1)], [Ob.pbx [D.sl ((r1_0_0).map yx), D.int .i64 (r1_0_1), D.int .i64 (r1_0_2)] v0_, Ob.row .uq 71 2 ((q1_1).map Pair.c)]⟩) : ∀ (n1 : Nat) (v1_5 : Int) (u1_0_0 : List Int) (u1_0_1 : Int) (u1_0_2 : Int) (w1_1 : List Pair), d_spec_l3AnyBinding_L1 y12 k1 n1 v1_5 u1_0_0 u1_0_1 u1_0_2 w1_1 = some r → Ar Γ N Tryd.f29 (.p [[none, none, none], [some (71, 2)]] v0_ (Cur.c r.1) (D.fr 71 2 ((r.2).map Pair.c))) [1, 1, 0, 1, 0, 1, 1, 1, 0, 1, 1, 1, 0] n1 (d_spec_l3AnyBinding_S1 v0_ y12 v1_5 u1_0_1 u1_0_2 ((u1_0_0).map yx) ((w1_1).map Pair.c)) := by
  intro n
  induction n with
  | zero => intro v1_5 u1_0_0 u1_0_1 u1_0_2 w1_1 h; simp [d_spec_l3AnyBinding_L1] at h
  | succ n1 ih1 =>
    intro v1_5 u1_0_0 u1_0_1 u1_0_2 w1_1 h
    rw [d_spec_l3AnyBinding_L1] at h
    refine AWr_succ fun N1 hN1 hS1 => ?_
    obtain ⟨h42, h⟩ | ⟨h42, h⟩ := den_if h
    · obtain ⟨y43, h44, h⟩ := den_bind h
      obtain ⟨h45, h⟩ := den_ok h
      obtain ⟨y46, h47, h⟩ := den_bind h
      obtain ⟨h48, h⟩ := den_ok h
      exact ((((((pre0.b h42).g (d_spec_FormatInt_good h44)).w (of_decide_eq_true h45)).w (show GoodP Tryd.prog 55 (Cur.c ((⟨u1_0_0, u1_0_1, u1_0_2⟩ : Cur))) (Cur.c y46.1) [] (D.str (y46.2)) from by simpa only [List.map_append, List.map_cons, List.map_nil, List.map_drop, List.map_take] using d_spec_l1Atom_good h47)).w (room_ok h48)).a [.gp [[none, none, none]] (Cur.c y46.1) (D.str (y46.2)), .cn [0, 3, 4, 5] [0, 3]]).cs hΓ hS1 (d_spec_l3AnyBinding_S1 v0_ y12 (IntKind.i64.wrap ((v1_5) + (1))) (y46.1.i) (y46.1.h) ((y46.1.b).map yx) (((w1_1).map Pair.c) ++ ([[D.str (([63, 118]) ++ (y43)), D.str (y46.2)]]))) (by first | (simp only [mA] <;> rfl) | (simp only [mA, Fact.c, Pair.c, Cond.c, Action.c, Rule.c, Token.c, Match.c, Alpha.c, Node.c, Network.c, Stamp.c] <;> rfl)) (ih1 (IntKind.i64.wrap ((v1_5) + (1))) (y46.1.b) (y46.1.i) (y46.1.h) ((w1_1) ++ ([(⟨([63, 118]) ++ (y43), y46.2⟩ : Pair)])) h)
    · exact ((pre0.b h42).a [.hl 0 [3] [0, 1]]).ex hΓ hN1 (hE1 (u1_0_0) (u1_0_1) (u1_0_2) (w1_1) h)
theorem d_spec_l3AnyBinding_good {a0_ : Cur} {r : Cur × (List Pair)} (h : d_spec_l3AnyBinding a0_ = some r) : GoodP Tryd.prog 29 (Cur.c a0_) (Cur.c r.1) [] (D.fr 71 2 ((r.2).map Pair.c)) := by
  refine gdP Tryd.func29 [[none, none, none], [some (71, 2)]] 41 [D.sl ((a0_.b).map yx), D.int .i64 (a0_.i), D.int .i64 (a0_.h)] [] [] fun hr v0_ Γ hΓ => ?_
  rw [d_spec_l3AnyBinding] at h
  obtain ⟨y1, h2, h⟩ := den_bind h
  obtain ⟨y3, h4, h⟩ := den_bind h
  have o1_ := ((pre0.hp [[none, none, none]] (d_spec_l3Binding_good h2)).hp [[none, none, none], [none]] (d_spec_l1Below_good h4))
  obtain ⟨h5, h⟩ | ⟨h5, h⟩ := den_if h
  · obtain ⟨y6, h7, h⟩ := den_bind h
    obtain ⟨y8, h9, h⟩ := den_bind h
    obtain ⟨h10, h⟩ := den_ok h
    cases h; exact ((((o1_.b h5).hp [[none, none, none]] (d_spec_l1Word_good h7)).hp [[none, none, none]] (d_spec_l1Word_good h9)).w (room_ok h10)).rts hΓ (D.tup [D.fr 71 2 (((y1.2).map Pair.c) ++ ([[D.str (y6.2), D.str (y8.2)]])), D.agg [D.sl ((y8.1.b).map yx), D.int .i64 (y8.1.i), D.int .i64 (y8.1.h)], D.val v0_]) (by first | rfl | (simp only [mA] <;> rfl))
  · obtain ⟨h11, h⟩ | ⟨h11, h⟩ := den_if h
    · obtain ⟨y12, h13, h⟩ := den_bind h
      refine ((((o1_.b h5).b h11).hp [[none, none, none], [some (3, 1)]] (d_spec_l1Int_good h13)).a [.cn [0, 3, 4, 5] [0, 2]]).lp hΓ (d_spec_l3AnyBinding_L1w hΓ (fun r1_0_0 r1_0_1 r1_0_2 q1_1 h => ?_) fuel (0) (y12.1.b) (y12.1.i) (y12.1.h) (([] : List Pair)) h)
      cases h; exact pre0.ret hΓ
    · cases h; exact ((o1_.b h5).b h11).ret hΓ
def d_spec_DrawInstance (a0_ : List Int) : Option (Fact × (List Pair)) := ((d_spec_l1New (a0_)).bind fun y1 => ((d_spec_l3Any (y1)).bind fun y3 => ((d_spec_l3AnyBinding (y3.1)).bind fun y5 => (some ((y3.2, y5.2))))))
theorem d_spec_DrawInstance_good {a0_ : List Int} {r : Fact × (List Pair)} (h : d_spec_DrawInstance a0_ = some r) : Good Tryd.prog 12 [D.sl ((a0_).map yx)] (D.tup [D.agg [D.str (r.1.rel), D.fr 9 1 ((r.1.args).map tx)], D.fr 71 2 ((r.2).map Pair.c)]) := by
  refine gd Tryd.func12 [[none, some (9, 1)], [some (71, 2)]] 11 fun hr Γ hΓ => ?_
  rw [d_spec_DrawInstance] at h
  obtain ⟨y1, h2, h⟩ := den_bind h
  obtain ⟨y3, h4, h⟩ := den_bind h
  obtain ⟨y5, h6, h⟩ := den_bind h
  cases h; exact (((pre0.hn (d_spec_l1New_good h2)).hp [[none, none, none]] (d_spec_l3Any_good h4)).hp [[none, none, none]] (d_spec_l3AnyBinding_good h6)).ret hΓ
def d_spec_l2Draw_L1 (y1 : Cur × (Bytes × Int)) (k1 : List Int → Int → Int → List Bytes → Option (Cur × Fact)) : Nat → Int → List Int → Int → Int → List Bytes → Option (Cur × Fact)
  | 0, _, _, _, _, _ => none
  | n1 + 1, v1_6, u1_0_0, u1_0_1, u1_0_2, w1_3 => (bif decide ((v1_6 : Int) < (y1.2.2)) then ((d_spec_l1Atom ((⟨u1_0_0, u1_0_1, u1_0_2⟩ : Cur))).bind fun y20 => (bif room (((w1_3).map tx).length + ([[D.str (y20.2)]]).length) 16 then (d_spec_l2Draw_L1 y1 k1 n1 (IntKind.i64.wrap ((v1_6) + (1))) (y20.1.b) (y20.1.i) (y20.1.h) ((w1_3) ++ ([y20.2]))) else none)) else (k1 (u1_0_0) (u1_0_1) (u1_0_2) (w1_3)))
def d_spec_l2Draw (a0_ : Cur) : Option (Cur × Fact) := ((d_spec_l2Rel (a0_)).bind fun y1 => (d_spec_l2Draw_L1 y1 (fun (r1_0_0 : List Int) (r1_0_1 : Int) (r1_0_2 : Int) (q1_3 : List Bytes) => (some (((⟨r1_0_0, r1_0_1, r1_0_2⟩ : Cur), (⟨y1.2.1, q1_3⟩ : Fact))))) fuel (0) (y1.1.b) (y1.1.i) (y1.1.h) (([] : List Bytes))))
def d_spec_l2Draw_S1 (v0_ : Value) (y1 : Cur × (Bytes × Int)) (v1_6 : Int) (u1_0_1 : Int) (u1_0_2 : Int) (W1 : List (List D)) (W4 : List (List D)) : St := ⟨[(0, D.ptr 0 0), (2, D.ptr 1 0), (4, D.int .i64 (y1.2.2)), (5, D.ptr 2 0), (6, D.int .i64 (v1_6))], [Ob.pbx [D.sl (W1), D.int .i64 (u1_0_1), D.int .i64 (u1_0_2)] v0_, Ob.box [D.str ([]), D.nil], Ob.box [D.str (y1.2.1), D.acc 3], Ob.row .uq 9 1 (W4)]⟩
theorem d_spec_l2Draw_L1w (hΓ : Γ.nt = 27) {v0_ : Value} {y1 : Cur × (Bytes × Int)} {r : Cur × Fact} {k1 : List Int → Int → Int → List Bytes → Option (Cur × Fact)} (hE1 : ∀ (r1_0_0 : List Int) (r1_0_1 : Int) (r1_0_2 : Int) (q1_3 : List Bytes), k1 r1_0_0 r1_0_1 r1_0_2 q1_3 = some r → Ax Γ N Tryd.f65 (.p [[none, none, none], [none, some (9, 1)]] v0_ (Cur.c r.1) (D.agg [D.str (r.2.rel), D.fr 9 1 ((r.2.args).map tx)])) [1, 1, 1, 1] ⟨[(2, D.ptr 1 0), (5, D.ptr 2 0)], [Ob.pbx [D.sl ((r1_0_0).map yx), D.int .i64 (r1_0_1), D.int .i64 (r1_0_2)] v0_, Ob.box [D.str ([]), D.nil], Ob.box [D.str (y1.2.1), D.acc 3], Ob.row .uq 9 1 ((q1_3).map tx)]⟩) : ∀ (n1 : Nat) (v1_6 : Int) (u1_0_0 : List Int) (u1_0_1 : Int) (u1_0_2 : Int) (w1_3 : List Bytes), d_spec_l2Draw_L1 y1 k1 n1 v1_6 u1_0_0 u1_0_1 u1_0_2 w1_3 = some r → Ar Γ N Tryd.f65 (.p [[none, none, none], [none, some (9, 1)]] v0_ (Cur.c r.1) (D.agg [D.str (r.2.rel), D.fr 9 1 ((r.2.args).map tx)])) [1, 1, 1, 0, 1, 0] n1 (d_spec_l2Draw_S1 v0_ y1 v1_6 u1_0_1 u1_0_2 ((u1_0_0).map yx) ((w1_3).map tx)) := by
  intro n
  induction n with
  | zero => intro v1_6 u1_0_0 u1_0_1 u1_0_2 w1_3 h; simp [d_spec_l2Draw_L1] at h
  | succ n1 ih1 =>
    intro v1_6 u1_0_0 u1_0_1 u1_0_2 w1_3 h
    rw [d_spec_l2Draw_L1] at h
    refine AWr_succ fun N1 hN1 hS1 => ?_
    obtain ⟨h19, h⟩ | ⟨h19, h⟩ := den_if h
    · obtain ⟨y20, h21, h⟩ := den_bind h
      obtain ⟨h22, h⟩ := den_ok h
      exact ((((pre0.b h19).w (show GoodP Tryd.prog 55 (Cur.c ((⟨u1_0_0, u1_0_1, u1_0_2⟩ : Cur))) (Cur.c y20.1) [] (D.str (y20.2)) from by simpa only [List.map_append, List.map_cons, List.map_nil, List.map_drop, List.map_take] using d_spec_l1Atom_good h21)).w (room_ok h22)).a [.n2 [0, 1, 2, 3, 4, 5, 6, 7] [0, 1, 2, 3, 4, 5, 6, 7] 3 5 [0, 1] [0], .gp [[none, none, none]] (Cur.c y20.1) (D.str (y20.2)), .cn [0, 2, 4, 5, 6] [0, 1, 2, 5]]).cs hΓ hS1 (d_spec_l2Draw_S1 v0_ y1 (IntKind.i64.wrap ((v1_6) + (1))) (y20.1.i) (y20.1.h) ((y20.1.b).map yx) (((w1_3).map tx) ++ ([[D.str (y20.2)]]))) (by first | (simp only [mA] <;> rfl) | (simp only [mA, Fact.c, Pair.c, Cond.c, Action.c, Rule.c, Token.c, Match.c, Alpha.c, Node.c, Network.c, Stamp.c] <;> rfl)) (ih1 (IntKind.i64.wrap ((v1_6) + (1))) (y20.1.b) (y20.1.i) (y20.1.h) ((w1_3) ++ ([y20.2])) h)
    · exact ((pre0.b h19).a [.hl 0 [2, 5] [0, 1, 2, 3]]).ex hΓ hN1 (hE1 (u1_0_0) (u1_0_1) (u1_0_2) (w1_3) h)
theorem d_spec_l2Draw_good {a0_ : Cur} {r : Cur × Fact} (h : d_spec_l2Draw a0_ = some r) : GoodP Tryd.prog 65 (Cur.c a0_) (Cur.c r.1) [] (D.agg [D.str (r.2.rel), D.fr 9 1 ((r.2.args).map tx)]) := by
  refine gdP Tryd.func65 [[none, none, none], [none, some (9, 1)]] 27 [D.sl ((a0_.b).map yx), D.int .i64 (a0_.i), D.int .i64 (a0_.h)] [] [] fun hr v0_ Γ hΓ => ?_
  rw [d_spec_l2Draw] at h
  obtain ⟨y1, h2, h⟩ := den_bind h
  refine ((pre0.hp [[none, none, none]] (d_spec_l2Rel_good h2)).a [.pb 2 1 9 1, .cn [0, 2, 4, 5, 6] [0, 1, 2, 3]]).lp hΓ (d_spec_l2Draw_L1w hΓ (fun r1_0_0 r1_0_1 r1_0_2 q1_3 h => ?_) fuel (0) (y1.1.b) (y1.1.i) (y1.1.h) (([] : List Bytes)) h)
  cases h; exact pre0.ret hΓ
def d_spec_l1Cmp (a0_ : Bytes) (a1_ : Bytes) : Option Int := (bif Op.bytesLess (a0_) (a1_) then (some (-1)) else (bif !(Op.bytesLess (a0_) (a1_) || (a0_ : Bytes) == (a1_)) then (some (1)) else (some (0))))
theorem d_spec_l1Cmp_good {a0_ : Bytes} {a1_ : Bytes} {r : Int} (h : d_spec_l1Cmp a0_ a1_ = some r) : Good Tryd.prog 69 [D.str (a0_), D.str (a1_)] (D.int .i64 (r)) := by
  refine gd Tryd.func69 [[none]] 13 fun hr Γ hΓ => ?_
  rw [d_spec_l1Cmp] at h
  obtain ⟨h1, h⟩ | ⟨h1, h⟩ := den_if h
  · cases h; exact (pre0.b h1).ret hΓ
  · obtain ⟨h2, h⟩ | ⟨h2, h⟩ := den_if h
    · have h := den_some h; subst h; exact ((pre0.b h1).b h2).ret hΓ
    · have h := den_some h; subst h; exact ((pre0.b h1).b h2).ret hΓ
def d_spec_ParseInt_L1 (a0_ : Bytes) (k1 : Int → Option (Int × Bool)) : Nat → Int → Int → Option (Int × Bool)
  | 0, _, _ => none
  | n1 + 1, v1_4, v1_5 => (bif decide ((v1_5 : Int) < (((a0_).length : Int))) then ((atI (a0_) (v1_5)).bind fun b25 => (bif decide ((b25.toNat : Int) < (48)) then (some ((0, false))) else (bif decide ((b25.toNat : Int) > (57)) then (some ((0, false))) else (d_spec_ParseInt_L1 a0_ k1 n1 (IntKind.i64.wrap ((IntKind.i64.wrap ((10) * (v1_4))) + (IntKind.i64.wrap (IntKind.u8.wrap ((b25.toNat) - (48)))))) (IntKind.i64.wrap ((v1_5) + (1))))))) else (k1 (v1_4)))
def d_spec_ParseInt (a0_ : Bytes) : Option (Int × Bool) := ((d_spec_l1In (((a0_).length : Int)) (1) (4)).bind fun y1 => (bif !(y1) then (some ((0, false))) else (d_spec_ParseInt_L1 a0_ (fun (z1_4 : Int) => ((d_spec_FormatInt (z1_4)).bind fun y29 => (bif !((y29 : Bytes) == (a0_)) then (some ((0, false))) else (some ((z1_4, true)))))) fuel (0) (0))))
def d_spec_ParseInt_S1 (a0_ : Bytes) (v1_4 : Int) (v1_5 : Int) : St := ⟨[(0, D.str (a0_)), (4, D.int .i64 (v1_4)), (5, D.int .i64 (v1_5))], []⟩
theorem d_spec_ParseInt_L1w (hΓ : Γ.nt = 39) {a0_ : Bytes} {r : Int × Bool} {k1 : Int → Option (Int × Bool)} (hE1 : ∀ (z1_4 : Int), k1 z1_4 = some r → Ax Γ N Tryd.f73 (.q [[none], [none]] (D.tup [D.int .i64 (r.1), D.bool (r.2)])) [1, 1, 1, 1] ⟨[(0, D.str (a0_)), (4, D.int .i64 (z1_4))], []⟩) : ∀ (n1 : Nat) (v1_4 : Int) (v1_5 : Int), d_spec_ParseInt_L1 a0_ k1 n1 v1_4 v1_5 = some r → Ar Γ N Tryd.f73 (.q [[none], [none]] (D.tup [D.int .i64 (r.1), D.bool (r.2)])) [1, 1, 1, 0, 1, 0] n1 (d_spec_ParseInt_S1 a0_ v1_4 v1_5) := by
  intro n
  induction n with
  | zero => intro v1_4 v1_5 h; simp [d_spec_ParseInt_L1] at h
  | succ n1 ih1 =>
    intro v1_4 v1_5 h
    rw [d_spec_ParseInt_L1] at h
    refine AWr_succ fun N1 hN1 hS1 => ?_
    obtain ⟨h24, h⟩ | ⟨h24, h⟩ := den_if h
    · obtain ⟨b25, h26, h⟩ := den_bind h
      have o3_ := ((pre0.b h24).c h26)
      obtain ⟨h27, h⟩ | ⟨h27, h⟩ := den_if h
      · cases h; exact ((o3_.r 5 h27).T 1).ret hΓ
      · have o4_ := (((o3_.r 3 h27).c h26).r 2 h27)
        obtain ⟨h28, h⟩ | ⟨h28, h⟩ := den_if h
        · cases h; exact (o4_.b h28).ret hΓ
        · exact (((o4_.b h28).c h26).a [.cn [0, 4, 5] []]).cf hΓ hS1 (ih1 (IntKind.i64.wrap ((IntKind.i64.wrap ((10) * (v1_4))) + (IntKind.i64.wrap (IntKind.u8.wrap ((b25.toNat) - (48)))))) (IntKind.i64.wrap ((v1_5) + (1))) h)
    · exact ((pre0.b h24).a [.hl 0 [0, 4] []]).ex hΓ hN1 (hE1 (v1_4) h)
theorem d_spec_ParseInt_good {a0_ : Bytes} {r : Int × Bool} (h : d_spec_ParseInt a0_ = some r) : Good Tryd.prog 73 [D.str (a0_)] (D.tup [D.int .i64 (r.1), D.bool (r.2)]) := by
  refine gd Tryd.func73 [[none], [none]] 39 fun hr Γ hΓ => ?_
  rw [d_spec_ParseInt] at h
  obtain ⟨y1, h2, h⟩ := den_bind h
  obtain ⟨h3, h⟩ | ⟨h3, h⟩ := den_if h
  · cases h; exact ((pre0.g (d_spec_l1In_good h2)).b h3).ret hΓ
  · refine (((pre0.g (d_spec_l1In_good h2)).b h3).a [.cn [0, 4, 5] []]).lp hΓ (d_spec_ParseInt_L1w hΓ (fun z1_4 h => ?_) fuel (0) (0) h)
    obtain ⟨y29, h30, h⟩ := den_bind h
    obtain ⟨h31, h⟩ | ⟨h31, h⟩ := den_if h
    · cases h; exact ((pre0.g (d_spec_FormatInt_good h30)).b h31).ret hΓ
    · cases h; exact ((pre0.g (d_spec_FormatInt_good h30)).b h31).ret hΓ
def d_spec_CompareAtoms (a0_ : Bytes) (a1_ : Bytes) : Option Int := ((d_spec_ParseInt (a0_)).bind fun y1 => ((d_spec_ParseInt (a1_)).bind fun y3 => (bif y1.2 then (bif y3.2 then (bif decide ((y1.1 : Int) < (y3.1)) then (some (-1)) else (bif !(y3.2) then (some (-1)) else (bif decide ((y1.1 : Int) > (y3.1)) then (some (1)) else (bif !(y1.2) then (some (1)) else (some (0)))))) else (bif !(y3.2) then (some (-1)) else (some (0)))) else (bif y3.2 then (bif !(y1.2) then (some (1)) else ((d_spec_l1Cmp (a0_) (a1_)).bind fun y14 => (some (y14)))) else ((d_spec_l1Cmp (a0_) (a1_)).bind fun y16 => (some (y16)))))))
theorem d_spec_CompareAtoms_good {a0_ : Bytes} {a1_ : Bytes} {r : Int} (h : d_spec_CompareAtoms a0_ a1_ = some r) : Good Tryd.prog 70 [D.str (a0_), D.str (a1_)] (D.int .i64 (r)) := by
  refine gd Tryd.func70 [[none]] 54 fun hr Γ hΓ => ?_
  rw [d_spec_CompareAtoms] at h
  obtain ⟨y1, h2, h⟩ := den_bind h
  obtain ⟨y3, h4, h⟩ := den_bind h
  have o1_ := ((pre0.g (d_spec_ParseInt_good h2)).g (d_spec_ParseInt_good h4))
  obtain ⟨h5, h⟩ | ⟨h5, h⟩ := den_if h
  · have o2_ := (o1_.r 2 h5)
    obtain ⟨h6, h⟩ | ⟨h6, h⟩ := den_if h
    · have o3_ := (o2_.r 4 h6)
      obtain ⟨h7, h⟩ | ⟨h7, h⟩ := den_if h
      · cases h; exact (o3_.r 2 h7).ret hΓ
      · have o4_ := ((o3_.b h7).r 3 h5)
        obtain ⟨h8, h⟩ | ⟨h8, h⟩ := den_if h
        · cases h; exact (o4_.b h8).ret hΓ
        · have o5_ := (((o4_.b h8).r 2 h5).r 4 h6)
          obtain ⟨h9, h⟩ | ⟨h9, h⟩ := den_if h
          · have h := den_some h; subst h; exact (o5_.r 2 h9).ret hΓ
          · have o6_ := ((o5_.b h9).r 3 h6)
            obtain ⟨h10, h⟩ | ⟨h10, h⟩ := den_if h
            · have h := den_some h; subst h; exact (o6_.b h10).ret hΓ
            · have h := den_some h; subst h; exact ((o6_.b h10).b h5).ret hΓ
    · have o7_ := (((o2_.r 4 h6).F 1).r 3 h5)
      obtain ⟨h11, h⟩ | ⟨h11, h⟩ := den_if h
      · cases h; exact (o7_.b h11).ret hΓ
      · have h := den_some h; subst h; exact (((((((o7_.b h11).r 2 h5).r 4 h6).F 1).r 3 h6).F 1).b h5).ret hΓ
  · have o8_ := ((((((o1_.r 2 h5).F 5).r 3 h5).F 1).r 2 h5).F 5)
    obtain ⟨h12, h⟩ | ⟨h12, h⟩ := den_if h
    · have o9_ := (o8_.r 3 h12)
      obtain ⟨h13, h⟩ | ⟨h13, h⟩ := den_if h
      · have h := den_some h; subst h; exact (o9_.b h13).ret hΓ
      · obtain ⟨y14, h15, h⟩ := den_bind h
        have h := den_some h; subst h; exact (((o9_.b h13).b h5).g (d_spec_l1Cmp_good h15)).ret hΓ
    · obtain ⟨y16, h17, h⟩ := den_bind h
      have h := den_some h; subst h; exact ((((o8_.r 3 h12).F 1).b h5).g (d_spec_l1Cmp_good h17)).ret hΓ
def d_spec_CompareFacts_L1 (a0_ : Fact) (a1_ : Fact) (k1 : Option Int) : List Bytes → Nat → Option Int
  | [], i1 => (k1 )
  | x1_ :: xs1, i1 => (bif decide (((i1 : Int) : Int) < ((((a1_.args).map tx).length : Int))) then ((atI (a1_.args) ((i1 : Int))).bind fun x37 => ((d_spec_CompareAtoms (x1_) (x37)).bind fun y39 => (bif (y39 : Int) != (0) then (some (y39)) else (d_spec_CompareFacts_L1 a0_ a1_ k1 xs1 (i1 + 1) )))) else (k1 ))
def d_spec_CompareFacts (a0_ : Fact) (a1_ : Fact) : Option Int := (bif !((a0_.rel : Bytes) == (a1_.rel)) then ((d_spec_l1Cmp (a0_.rel) (a1_.rel)).bind fun y2 => (some (y2))) else (d_spec_CompareFacts_L1 a0_ a1_ (bif decide (((((a0_.args).map tx).length : Int) : Int) < ((((a1_.args).map tx).length : Int))) then (some (-1)) else (bif decide (((((a0_.args).map tx).length : Int) : Int) > ((((a1_.args).map tx).length : Int))) then (some (1)) else (some (0)))) (a0_.args) 0 ))
def d_spec_CompareFacts_S1 (a0_ : Fact) (a1_ : Fact) (ix_ : Int) : St := ⟨[(2, D.ptr 0 0), (3, D.ptr 1 0), (5, D.int .i64 (ix_))], [Ob.box (Fact.c a0_), Ob.box (Fact.c a1_)]⟩
theorem d_spec_CompareFacts_L1w (hΓ : Γ.nt = 61) {a0_ : Fact} {a1_ : Fact} {r : Int} {k1 : Option Int} (hE1 : k1 = some r → Ax Γ N Tryd.f66 (.q [[none]] (D.int .i64 (r))) [1, 1, 1] ⟨[(2, D.ptr 0 0), (3, D.ptr 1 0)], [Ob.box (Fact.c a0_), Ob.box (Fact.c a1_)]⟩) (hm1 : (a0_.args).length ≤ maxLen) : ∀ (rest : List Bytes) (i1 : Nat) , (a0_.args).drop i1 = rest → d_spec_CompareFacts_L1 a0_ a1_ k1 rest i1  = some r → Ar Γ N Tryd.f66 (.q [[none]] (D.int .i64 (r))) [1, 1, 0, 1, 0] (rest.length + 1) (d_spec_CompareFacts_S1 a0_ a1_ ((i1 : Int))) := by
  intro rest
  induction rest with
  | nil =>
    intro i1  hd1 h
    rw [d_spec_CompareFacts_L1] at h
    refine AWr_succ fun N1 hN1 hS1 => ?_
    exact ((((((((pre0.ge tx hd1).ge tx hd1).ge tx hd1).ge tx hd1).ge tx hd1).ge tx hd1).F 1).a [.hl 0 [2, 3] [0, 1]]).ex hΓ hN1 (hE1 h)
  | cons x1_ xs1 ih1 =>
    intro i1  hd1 h
    rw [d_spec_CompareFacts_L1] at h
    refine AWr_succ fun N1 hN1 hS1 => ?_
    have o3_ := ((((((pre0.lt tx hd1).lt tx hd1).lt tx hd1).lt tx hd1).lt tx hd1).lt tx hd1)
    obtain ⟨h36, h⟩ | ⟨h36, h⟩ := den_if h
    · obtain ⟨x37, h38, h⟩ := den_bind h
      obtain ⟨y39, h40, h⟩ := den_bind h
      have o4_ := (((((o3_.b h36).a [.n 10]).l (map_row tx 1 (dc hd1) rfl)).l (at_row tx 1 h38 rfl)).g (d_spec_CompareAtoms_good h40))
      obtain ⟨h41, h⟩ | ⟨h41, h⟩ := den_if h
      · have h := den_some h; subst h; exact (o4_.b h41).ret hΓ
      · exact ((o4_.b h41).a [.cn [2, 3, 5] [0, 1]]).ct hΓ hS1 (iS hd1 hm1) (ih1 (i1 + 1)  (dn hd1) h)
    · exact ((o3_.b h36).a [.hl 0 [2, 3] [0, 1]]).ex hΓ hN1 (hE1 h)
theorem d_spec_CompareFacts_good {a0_ : Fact} {a1_ : Fact} {r : Int} (h : d_spec_CompareFacts a0_ a1_ = some r) : Good Tryd.prog 66 [D.agg (Fact.c a0_), D.agg (Fact.c a1_)] (D.int .i64 (r)) := by
  refine gd Tryd.func66 [[none]] 61 fun hr Γ hΓ => ?_
  rw [d_spec_CompareFacts] at h
  obtain ⟨h1, h⟩ | ⟨h1, h⟩ := den_if h
  · obtain ⟨y2, h3, h⟩ := den_bind h
    have h := den_some h; subst h; exact ((pre0.b h1).g (d_spec_l1Cmp_good h3)).ret hΓ
  · refine ((pre0.b h1).a [.cn [2, 3, 5] [0, 1]]).lp hΓ (d_spec_CompareFacts_L1w hΓ (fun h => ?_) (by have := (Rdb.sl (Rdb.agg (hr _ (List.mem_of_getElem? (i := 0) rfl)) (.sl ((a0_.args).map tx)) (by simp))).1; simpa using this) (a0_.args) 0  rfl h)
    obtain ⟨h42, h⟩ | ⟨h42, h⟩ := den_if h
    · cases h; exact (pre0.b h42).ret hΓ
    · obtain ⟨h43, h⟩ | ⟨h43, h⟩ := den_if h
      · have h := den_some h; subst h; exact ((pre0.b h42).b h43).ret hΓ
      · have h := den_some h; subst h; exact ((pre0.b h42).b h43).ret hΓ
def d_spec_l1Texts (a0_ : List Bytes) : Option (List Bytes) := (bif room ((([] : List (List D))).length + ((a0_).map tx).length) 16 then (some ((([] : List Bytes)) ++ (a0_))) else none)
theorem d_spec_l1Texts_good {a0_ : List Bytes} {r : List Bytes} (h : d_spec_l1Texts a0_ = some r) : Good Tryd.prog 71 [D.sl ((a0_).map tx)] (D.fr 9 1 ((r).map tx)) := by
  refine gd Tryd.func71 [[some (9, 1)]] 6 fun hr Γ hΓ => ?_
  rw [d_spec_l1Texts] at h
  obtain ⟨h1, h⟩ := den_ok h
  cases h; exact (((pre0.w (room_ok h1)).w (show (∀ r ∈ ((a0_).map tx), r.length = 1) ∧ (true = true → D.flatRows ((a0_).map tx) = true) from ⟨by simp, by simp [D.flatRows, D.flat]⟩)).a [.pro 2, .fl true]).rts hΓ (D.fr 9 1 ((([] : List (List D))) ++ ((a0_).map tx))) (by first | rfl | (simp only [mA] <;> rfl))
def d_spec_l2Copy (a0_ : Fact) : Option Fact := ((d_spec_l1Texts (a0_.args)).bind fun y1 => (some ((⟨a0_.rel, y1⟩ : Fact))))
theorem d_spec_l2Copy_good {a0_ : Fact} {r : Fact} (h : d_spec_l2Copy a0_ = some r) : Good Tryd.prog 67 [D.agg (Fact.c a0_)] (D.agg [D.str (r.rel), D.fr 9 1 ((r.args).map tx)]) := by
  refine gd Tryd.func67 [[none, some (9, 1)]] 9 fun hr Γ hΓ => ?_
  rw [d_spec_l2Copy] at h
  obtain ⟨y1, h2, h⟩ := den_bind h
  cases h; exact ((pre0.a [.n 5]).g (d_spec_l1Texts_good h2)).ret hΓ
def d_spec_l2Put_L1 (a0_ : List Fact) (a1_ : Fact) (k1 : Bool → List Fact → Option (List Fact)) : List Fact → Nat → Bool → List Fact → Option (List Fact)
  | [], i1, v1_6, w1_1 => (k1 (v1_6) (w1_1))
  | x1_ :: xs1, i1, v1_6, w1_1 => (bif !(v1_6) then ((d_spec_CompareFacts (x1_) (a1_)).bind fun y129 => (bif decide ((y129 : Int) ≥ (0)) then ((d_spec_CompareFacts (x1_) (a1_)).bind fun y132 => (bif decide ((y132 : Int) > (0)) then ((d_spec_l2Copy (a1_)).bind fun y135 => (bif room (((w1_1).map Fact.c).length + ([[D.str (y135.rel), D.sl ((y135.args).map tx)]]).length) 40 then ((d_spec_l2Copy (x1_)).bind fun y138 => (bif room ((((w1_1).map Fact.c) ++ ([[D.str (y135.rel), D.sl ((y135.args).map tx)]])).length + ([[D.str (y138.rel), D.sl ((y138.args).map tx)]]).length) 40 then (d_spec_l2Put_L1 a0_ a1_ k1 xs1 (i1 + 1) (true) (((w1_1) ++ ([y135])) ++ ([y138]))) else none)) else none)) else ((d_spec_l2Copy (x1_)).bind fun y141 => (bif room (((w1_1).map Fact.c).length + ([[D.str (y141.rel), D.sl ((y141.args).map tx)]]).length) 40 then (d_spec_l2Put_L1 a0_ a1_ k1 xs1 (i1 + 1) (true) ((w1_1) ++ ([y141]))) else none)))) else ((d_spec_l2Copy (x1_)).bind fun y144 => (bif room (((w1_1).map Fact.c).length + ([[D.str (y144.rel), D.sl ((y144.args).map tx)]]).length) 40 then (d_spec_l2Put_L1 a0_ a1_ k1 xs1 (i1 + 1) (v1_6) ((w1_1) ++ ([y144]))) else none)))) else ((d_spec_l2Copy (x1_)).bind fun y147 => (bif room (((w1_1).map Fact.c).length + ([[D.str (y147.rel), D.sl ((y147.args).map tx)]]).length) 40 then (d_spec_l2Put_L1 a0_ a1_ k1 xs1 (i1 + 1) (v1_6) ((w1_1) ++ ([y147]))) else none)))
def d_spec_l2Put (a0_ : List Fact) (a1_ : Fact) : Option (List Fact) := (d_spec_l2Put_L1 a0_ a1_ (fun (z1_6 : Bool) (q1_1 : List Fact) => (bif !(z1_6) then ((d_spec_l2Copy (a1_)).bind fun y151 => (bif room (((q1_1).map Fact.c).length + ([[D.str (y151.rel), D.sl ((y151.args).map tx)]]).length) 40 then (some ((q1_1) ++ ([y151]))) else none)) else (some (q1_1)))) (a0_) 0 (false) (([] : List Fact)))
def d_spec_l2Put_S1 (a0_ : List Fact) (a1_ : Fact) (v1_6 : Bool) (W1 : List (List D)) (ix_ : Int) : St := ⟨[(0, D.sl ((a0_).map Fact.c)), (3, D.ptr 0 0), (5, D.acc 1), (6, D.bool (v1_6)), (7, D.int .i64 (ix_))], [Ob.box (Fact.c a1_), Ob.row .uq 38 2 (W1)]⟩
theorem d_spec_l2Put_L1w (hΓ : Γ.nt = 54) {a0_ : List Fact} {a1_ : Fact} {r : List Fact} {k1 : Bool → List Fact → Option (List Fact)} (hE1 : ∀ (z1_6 : Bool) (q1_1 : List Fact), k1 z1_6 q1_1 = some r → Ax Γ N Tryd.f58 (.q [[some (38, 2)]] (D.fr 38 2 ((r).map Fact.c))) [1, 1, 1, 1] ⟨[(3, D.ptr 0 0), (5, D.acc 1), (6, D.bool (z1_6))], [Ob.box (Fact.c a1_), Ob.row .uq 38 2 ((q1_1).map Fact.c)]⟩) (hm1 : (a0_).length ≤ maxLen) : ∀ (rest : List Fact) (i1 : Nat) (v1_6 : Bool) (w1_1 : List Fact), (a0_).drop i1 = rest → d_spec_l2Put_L1 a0_ a1_ k1 rest i1 v1_6 w1_1 = some r → Ar Γ N Tryd.f58 (.q [[some (38, 2)]] (D.fr 38 2 ((r).map Fact.c))) [1, 1, 1, 0, 1, 0] (rest.length + 1) (d_spec_l2Put_S1 a0_ a1_ v1_6 ((w1_1).map Fact.c) ((i1 : Int))) := by
  intro rest
  induction rest with
  | nil =>
    intro i1 v1_6 w1_1 hd1 h
    rw [d_spec_l2Put_L1] at h
    refine AWr_succ fun N1 hN1 hS1 => ?_
    exact ((pre0.ge Fact.c hd1).a [.hl 0 [3, 5, 6] [0, 1]]).ex hΓ hN1 (hE1 (v1_6) (w1_1) h)
  | cons x1_ xs1 ih1 =>
    intro i1 v1_6 w1_1 hd1 h
    rw [d_spec_l2Put_L1] at h
    refine AWr_succ fun N1 hN1 hS1 => ?_
    have o4_ := ((pre0.lt Fact.c hd1).a [.n 8])
    obtain ⟨h128, h⟩ | ⟨h128, h⟩ := den_if h
    · obtain ⟨y129, h130, h⟩ := den_bind h
      have o5_ := (((((o4_.r 3 h128).l (map_row Fact.c 2 (dc hd1) rfl)).r 3 h128).g (d_spec_CompareFacts_good h130)).r 2 h128)
      obtain ⟨h131, h⟩ | ⟨h131, h⟩ := den_if h
      · obtain ⟨y132, h133, h⟩ := den_bind h
        have o6_ := ((((o5_.b h131).a [.n 5]).l (map_row Fact.c 2 (dc hd1) rfl)).g (d_spec_CompareFacts_good h133))
        obtain ⟨h134, h⟩ | ⟨h134, h⟩ := den_if h
        · obtain ⟨y135, h136, h⟩ := den_bind h
          obtain ⟨h137, h⟩ := den_ok h
          obtain ⟨y138, h139, h⟩ := den_bind h
          obtain ⟨h140, h⟩ := den_ok h
          exact (((((((o6_.b h134).g (d_spec_l2Copy_good h136)).w (room_ok h137)).l (map_row Fact.c 2 (dc hd1) rfl)).g (d_spec_l2Copy_good h139)).w (room_ok h140)).a [.cn [0, 3, 5, 6, 7] [0, 7]]).cs hΓ hS1 (d_spec_l2Put_S1 a0_ a1_ true ((((w1_1).map Fact.c) ++ ([[D.str (y135.rel), D.sl ((y135.args).map tx)]])) ++ ([[D.str (y138.rel), D.sl ((y138.args).map tx)]])) (IntKind.i64.wrap (((i1 : Int)) + (1)))) (by first | (simp only [iS hd1 hm1, mA] <;> rfl) | (simp only [iS hd1 hm1, mA, Fact.c, Pair.c, Cond.c, Action.c, Rule.c, Token.c, Match.c, Alpha.c, Node.c, Network.c, Stamp.c] <;> rfl)) (ih1 (i1 + 1) (true) (((w1_1) ++ ([y135])) ++ ([y138])) (dn hd1) h)
        · obtain ⟨y141, h142, h⟩ := den_bind h
          obtain ⟨h143, h⟩ := den_ok h
          exact (((((o6_.b h134).l (map_row Fact.c 2 (dc hd1) rfl)).g (d_spec_l2Copy_good h142)).w (room_ok h143)).a [.cn [0, 3, 5, 6, 7] [0, 4]]).cs hΓ hS1 (d_spec_l2Put_S1 a0_ a1_ true (((w1_1).map Fact.c) ++ ([[D.str (y141.rel), D.sl ((y141.args).map tx)]])) (IntKind.i64.wrap (((i1 : Int)) + (1)))) (by first | (simp only [iS hd1 hm1, mA] <;> rfl) | (simp only [iS hd1 hm1, mA, Fact.c, Pair.c, Cond.c, Action.c, Rule.c, Token.c, Match.c, Alpha.c, Node.c, Network.c, Stamp.c] <;> rfl)) (ih1 (i1 + 1) (true) ((w1_1) ++ ([y141])) (dn hd1) h)
      · obtain ⟨y144, h145, h⟩ := den_bind h
        obtain ⟨h146, h⟩ := den_ok h
        exact (((((o5_.b h131).l (map_row Fact.c 2 (dc hd1) rfl)).g (d_spec_l2Copy_good h145)).w (room_ok h146)).a [.cn [0, 3, 5, 6, 7] [0, 4]]).cs hΓ hS1 (d_spec_l2Put_S1 a0_ a1_ v1_6 (((w1_1).map Fact.c) ++ ([[D.str (y144.rel), D.sl ((y144.args).map tx)]])) (IntKind.i64.wrap (((i1 : Int)) + (1)))) (by first | (simp only [iS hd1 hm1, mA] <;> rfl) | (simp only [iS hd1 hm1, mA, Fact.c, Pair.c, Cond.c, Action.c, Rule.c, Token.c, Match.c, Alpha.c, Node.c, Network.c, Stamp.c] <;> rfl)) (ih1 (i1 + 1) (v1_6) ((w1_1) ++ ([y144])) (dn hd1) h)
    · obtain ⟨y147, h148, h⟩ := den_bind h
      obtain ⟨h149, h⟩ := den_ok h
      exact ((((((o4_.r 8 h128).F 1).l (map_row Fact.c 2 (dc hd1) rfl)).g (d_spec_l2Copy_good h148)).w (room_ok h149)).a [.cn [0, 3, 5, 6, 7] [0, 4]]).cs hΓ hS1 (d_spec_l2Put_S1 a0_ a1_ v1_6 (((w1_1).map Fact.c) ++ ([[D.str (y147.rel), D.sl ((y147.args).map tx)]])) (IntKind.i64.wrap (((i1 : Int)) + (1)))) (by first | (simp only [iS hd1 hm1, mA] <;> rfl) | (simp only [iS hd1 hm1, mA, Fact.c, Pair.c, Cond.c, Action.c, Rule.c, Token.c, Match.c, Alpha.c, Node.c, Network.c, Stamp.c] <;> rfl)) (ih1 (i1 + 1) (v1_6) ((w1_1) ++ ([y147])) (dn hd1) h)
theorem d_spec_l2Put_good {a0_ : List Fact} {a1_ : Fact} {r : List Fact} (h : d_spec_l2Put a0_ a1_ = some r) : Good Tryd.prog 58 [D.sl ((a0_).map Fact.c), D.agg (Fact.c a1_)] (D.fr 38 2 ((r).map Fact.c)) := by
  refine gd Tryd.func58 [[some (38, 2)]] 54 fun hr Γ hΓ => ?_
  rw [d_spec_l2Put] at h
  refine (pre0.a [.cn [0, 3, 5, 6, 7] [0, 1]]).lp hΓ (d_spec_l2Put_L1w hΓ (fun z1_6 q1_1 h => ?_) (by have := (Rdb.sl (hr _ (List.mem_of_getElem? (i := 0) rfl))).1; simpa using this) (a0_) 0 (false) (([] : List Fact)) rfl h)
  obtain ⟨h150, h⟩ | ⟨h150, h⟩ := den_if h
  · obtain ⟨y151, h152, h⟩ := den_bind h
    obtain ⟨h153, h⟩ := den_ok h
    cases h; exact (((pre0.b h150).g (d_spec_l2Copy_good h152)).w (room_ok h153)).rts hΓ (D.fr 38 2 (((q1_1).map Fact.c) ++ ([[D.str (y151.rel), D.sl ((y151.args).map tx)]]))) (by first | rfl | (simp only [mA] <;> rfl))
  · have h := den_some h; subst h; exact (pre0.b h150).ret hΓ
def d_spec_l2Set_L1  (k1 : List Int → Int → Int → List Fact → Option (Cur × (List Fact))) : Nat → Int → List Int → Int → Int → List Fact → Option (Cur × (List Fact))
  | 0, _, _, _, _, _ => none
  | n1 + 1, v1_6, u1_0_0, u1_0_1, u1_0_2, w1_1 => (bif decide ((v1_6 : Int) > (0)) then ((d_spec_l2Draw ((⟨u1_0_0, u1_0_1, u1_0_2⟩ : Cur))).bind fun y19 => ((d_spec_l2Put (w1_1) (y19.2)).bind fun y21 => (d_spec_l2Set_L1  k1 n1 (IntKind.i64.wrap ((v1_6) - (1))) (y19.1.b) (y19.1.i) (y19.1.h) (y21)))) else (k1 (u1_0_0) (u1_0_1) (u1_0_2) (w1_1)))
def d_spec_l2Set (a0_ : Cur) (a1_ : Int) : Option (Cur × (List Fact)) := ((d_spec_l1Below (a0_) (IntKind.i64.wrap ((a1_) + (1)))).bind fun y1 => (d_spec_l2Set_L1  (fun (r1_0_0 : List Int) (r1_0_1 : Int) (r1_0_2 : Int) (q1_1 : List Fact) => (some (((⟨r1_0_0, r1_0_1, r1_0_2⟩ : Cur), q1_1)))) fuel (y1.2) (y1.1.b) (y1.1.i) (y1.1.h) (([] : List Fact))))
def d_spec_l2Set_S1 (v0_ : Value) (v1_6 : Int) (u1_0_1 : Int) (u1_0_2 : Int) (W1 : List (List D)) (W4 : List (List D)) : St := ⟨[(0, D.ptr 0 0), (5, D.acc 1), (6, D.int .i64 (v1_6))], [Ob.pbx [D.sl (W1), D.int .i64 (u1_0_1), D.int .i64 (u1_0_2)] v0_, Ob.row .uq 38 2 (W4)]⟩
theorem d_spec_l2Set_L1w (hΓ : Γ.nt = 21) {v0_ : Value}  {r : Cur × (List Fact)} {k1 : List Int → Int → Int → List Fact → Option (Cur × (List Fact))} (hE1 : ∀ (r1_0_0 : List Int) (r1_0_1 : Int) (r1_0_2 : Int) (q1_1 : List Fact), k1 r1_0_0 r1_0_1 r1_0_2 q1_1 = some r → Ax Γ N Tryd.f56 (.p [[none, none, none], [some (38, 2)]] v0_ (Cur.c r.1) (D.fr 38 2 ((r.2).map Fact.c))) [1, 1, 1] ⟨[(5, D.acc 1)], [Ob.pbx [D.sl ((r1_0_0).map yx), D.int .i64 (r1_0_1), D.int .i64 (r1_0_2)] v0_, Ob.row .uq 38 2 ((q1_1).map Fact.c)]⟩) : ∀ (n1 : Nat) (v1_6 : Int) (u1_0_0 : List Int) (u1_0_1 : Int) (u1_0_2 : Int) (w1_1 : List Fact), d_spec_l2Set_L1  k1 n1 v1_6 u1_0_0 u1_0_1 u1_0_2 w1_1 = some r → Ar Γ N Tryd.f56 (.p [[none, none, none], [some (38, 2)]] v0_ (Cur.c r.1) (D.fr 38 2 ((r.2).map Fact.c))) [1, 1, 0, 1, 0] n1 (d_spec_l2Set_S1 v0_ v1_6 u1_0_1 u1_0_2 ((u1_0_0).map yx) ((w1_1).map Fact.c)) := by
  intro n
  induction n with
  | zero => intro v1_6 u1_0_0 u1_0_1 u1_0_2 w1_1 h; simp [d_spec_l2Set_L1] at h
  | succ n1 ih1 =>
    intro v1_6 u1_0_0 u1_0_1 u1_0_2 w1_1 h
    rw [d_spec_l2Set_L1] at h
    refine AWr_succ fun N1 hN1 hS1 => ?_
    obtain ⟨h18, h⟩ | ⟨h18, h⟩ := den_if h
    · obtain ⟨y19, h20, h⟩ := den_bind h
      obtain ⟨y21, h22, h⟩ := den_bind h
      exact (((((pre0.b h18).w (show GoodP Tryd.prog 65 (Cur.c ((⟨u1_0_0, u1_0_1, u1_0_2⟩ : Cur))) (Cur.c y19.1) [] (D.agg [D.str (y19.2.rel), D.fr 9 1 ((y19.2.args).map tx)]) from by simpa only [List.map_append, List.map_cons, List.map_nil, List.map_drop, List.map_take] using d_spec_l2Draw_good h20)).a [.gp [[none, none, none]] (Cur.c y19.1) (D.agg [D.str (y19.2.rel), D.fr 9 1 ((y19.2.args).map tx)])]).g (d_spec_l2Put_good h22)).a [.cn [0, 5, 6] [0, 3]]).cf hΓ hS1 (ih1 (IntKind.i64.wrap ((v1_6) - (1))) (y19.1.b) (y19.1.i) (y19.1.h) (y21) h)
    · exact ((pre0.b h18).a [.hl 0 [5] [0, 1]]).ex hΓ hN1 (hE1 (u1_0_0) (u1_0_1) (u1_0_2) (w1_1) h)
theorem d_spec_l2Set_good {a0_ : Cur} {a1_ : Int} {r : Cur × (List Fact)} (h : d_spec_l2Set a0_ a1_ = some r) : GoodP Tryd.prog 56 (Cur.c a0_) (Cur.c r.1) [D.int .i64 (a1_)] (D.fr 38 2 ((r.2).map Fact.c)) := by
  refine gdP Tryd.func56 [[none, none, none], [some (38, 2)]] 21 [D.sl ((a0_.b).map yx), D.int .i64 (a0_.i), D.int .i64 (a0_.h)] [D.int .i64 (a1_)] [] fun hr v0_ Γ hΓ => ?_
  rw [d_spec_l2Set] at h
  obtain ⟨y1, h2, h⟩ := den_bind h
  refine ((pre0.hp [[none, none, none], [none]] (d_spec_l1Below_good h2)).a [.cn [0, 5, 6] [0, 1]]).lp hΓ (d_spec_l2Set_L1w hΓ (fun r1_0_0 r1_0_1 r1_0_2 q1_1 h => ?_) fuel (y1.2) (y1.1.b) (y1.1.i) (y1.1.h) (([] : List Fact)) h)
  cases h; exact pre0.ret hΓ
def d_spec_l2Any (a0_ : Cur) : Option (Cur × Fact) := ((d_spec_l2Draw (a0_)).bind fun y1 => ((d_spec_l1Below (y1.1) (10)).bind fun y3 => (bif (y3.2 : Int) == (0) then ((d_spec_l1Word (y3.1)).bind fun y6 => (some ((y6.1, (⟨y6.2, y1.2.args⟩ : Fact))))) else (bif (y3.2 : Int) == (1) then ((d_spec_l1Word (y3.1)).bind fun y9 => (bif room (((y1.2.args).map tx).length + ([[D.str (y9.2)]]).length) 16 then (some ((y9.1, (⟨y1.2.rel, (y1.2.args) ++ ([y9.2])⟩ : Fact)))) else none)) else (bif (y3.2 : Int) == (2) then ((d_spec_l1Below (y3.1) (5)).bind fun y13 => (bif decide (0 ≤ (y13.2 : Int)) && decide ((y13.2).toNat ≤ ((([[97], [98], [99], [97]] : List Bytes)).map tx).length) then (some ((y13.1, (⟨y1.2.rel, (([[97], [98], [99], [97]] : List Bytes)).take (y13.2).toNat⟩ : Fact)))) else none)) else (some ((y3.1, y1.2))))))))
theorem d_spec_l2Any_good {a0_ : Cur} {r : Cur × Fact} (h : d_spec_l2Any a0_ = some r) : GoodP Tryd.prog 57 (Cur.c a0_) (Cur.c r.1) [] (D.agg [D.str (r.2.rel), D.fr 9 1 ((r.2.args).map tx)]) := by
  refine gdP Tryd.func57 [[none, none, none], [none, some (9, 1)]] 30 [D.sl ((a0_.b).map yx), D.int .i64 (a0_.i), D.int .i64 (a0_.h)] [] [] fun hr v0_ Γ hΓ => ?_
  rw [d_spec_l2Any] at h
  obtain ⟨y1, h2, h⟩ := den_bind h
  obtain ⟨y3, h4, h⟩ := den_bind h
  have o1_ := ((pre0.hp [[none, none, none]] (d_spec_l2Draw_good h2)).hp [[none, none, none], [none]] (d_spec_l1Below_good h4))
  obtain ⟨h5, h⟩ | ⟨h5, h⟩ := den_if h
  · obtain ⟨y6, h7, h⟩ := den_bind h
    cases h; exact ((o1_.b h5).hp [[none, none, none]] (d_spec_l1Word_good h7)).ret hΓ
  · obtain ⟨h8, h⟩ | ⟨h8, h⟩ := den_if h
    · obtain ⟨y9, h10, h⟩ := den_bind h
      obtain ⟨h11, h⟩ := den_ok h
      cases h; exact (((((o1_.b h5).b h8).a [.n2 [0, 1, 2, 3, 4, 5, 6, 7] [0, 1, 2, 3, 4, 5, 6, 7] 3 5 [0, 1] [0]]).hp [[none, none, none]] (d_spec_l1Word_good h10)).w (room_ok h11)).rts hΓ (D.tup [D.agg [D.str (y1.2.rel), D.fr 9 1 (((y1.2.args).map tx) ++ ([[D.str (y9.2)]]))], D.agg [D.sl ((y9.1.b).map yx), D.int .i64 (y9.1.i), D.int .i64 (y9.1.h)], D.val v0_]) (by first | rfl | (simp only [mA] <;> rfl))
    · have o2_ := ((o1_.b h5).b h8)
      obtain ⟨h12, h⟩ | ⟨h12, h⟩ := den_if h
      · obtain ⟨y13, h14, h⟩ := den_bind h
        obtain ⟨h15, h⟩ := den_ok h
        cases h; exact ((((o2_.b h12).hp [[none, none, none], [none]] (d_spec_l1Below_good h14)).w (cut_ok h15)).a [.cut 0 (y13.2).toNat]).rts hΓ (D.tup [D.agg [D.str (y1.2.rel), D.fr 9 1 (((([[97], [98], [99], [97]] : List Bytes)).map tx).take (y13.2).toNat)], D.agg [D.sl ((y13.1.b).map yx), D.int .i64 (y13.1.i), D.int .i64 (y13.1.h)], D.val v0_]) (by first | rfl | (simp only [mA] <;> rfl))
      · cases h; exact (o2_.b h12).ret hΓ
def d_spec_l2List_L1 (y3 : Cur × Int) (k1 : List Fact → Option (Cur × (List Fact))) : Nat → Int → List Fact → Option (Cur × (List Fact))
  | 0, _, _ => none
  | n1 + 1, v1_4, w1_1 => (bif decide ((v1_4 : Int) < (25)) then ((d_spec_FormatInt (v1_4)).bind fun y31 => ((d_spec_l2Put (w1_1) ((⟨[110], [y31]⟩ : Fact))).bind fun y33 => (d_spec_l2List_L1 y3 k1 n1 (IntKind.i64.wrap ((v1_4) + (1))) (y33)))) else (k1 (w1_1)))
def d_spec_l2List (a0_ : Cur) : Option (Cur × (List Fact)) := ((d_spec_l2Set (a0_) (6)).bind fun y1 => ((d_spec_l1Below (y1.1) (8)).bind fun y3 => (bif (y3.2 : Int) == (0) then ((d_spec_l2Any (y3.1)).bind fun y6 => (bif room (((y1.2).map Fact.c).length + ([[D.str (y6.2.rel), D.sl ((y6.2.args).map tx)]]).length) 40 then (some ((y6.1, (y1.2) ++ ([y6.2])))) else none)) else (bif (y3.2 : Int) == (1) then (d_spec_l2List_L1 y3 (fun (q1_1 : List Fact) => ((d_spec_l1Int (y3.1) (([23, 24, 25] : List Int))).bind fun y35 => (bif decide (0 ≤ (y35.2 : Int)) && decide ((y35.2).toNat ≤ ((q1_1).map Fact.c).length) then (some ((y35.1, (q1_1).take (y35.2).toNat))) else none))) fuel (0) (y1.2)) else (some ((y3.1, y1.2)))))))
def d_spec_l2List_S1 (v0_ : Value) (y3 : Cur × Int) (v1_4 : Int) (W1 : List (List D)) : St := ⟨[(0, D.ptr 0 0), (3, D.acc 1), (4, D.int .i64 (v1_4))], [Ob.pbx (Cur.c y3.1) v0_, Ob.row .uq 38 2 (W1)]⟩
theorem d_spec_l2List_L1w (hΓ : Γ.nt = 34) {v0_ : Value} {y3 : Cur × Int} {r : Cur × (List Fact)} {k1 : List Fact → Option (Cur × (List Fact))} (hE1 : ∀ (q1_1 : List Fact), k1 q1_1 = some r → Ax Γ N Tryd.f30 (.p [[none, none, none], [some (38, 2)]] v0_ (Cur.c r.1) (D.fr 38 2 ((r.2).map Fact.c))) [1, 1, 0, 1, 0, 1, 1, 1, 0, 1] ⟨[(0, D.ptr 0 0), (3, D.acc 1)], [Ob.pbx (Cur.c y3.1) v0_, Ob.row .uq 38 2 ((q1_1).map Fact.c)]⟩) : ∀ (n1 : Nat) (v1_4 : Int) (w1_1 : List Fact), d_spec_l2List_L1 y3 k1 n1 v1_4 w1_1 = some r → Ar Γ N Tryd.f30 (.p [[none, none, none], [some (38, 2)]] v0_ (Cur.c r.1) (D.fr 38 2 ((r.2).map Fact.c))) [1, 1, 0, 1, 0, 1, 1, 1, 0, 0, 1, 0] n1 (d_spec_l2List_S1 v0_ y3 v1_4 ((w1_1).map Fact.c)) := by
  intro n
  induction n with
  | zero => intro v1_4 w1_1 h; simp [d_spec_l2List_L1] at h
  | succ n1 ih1 =>
    intro v1_4 w1_1 h
    rw [d_spec_l2List_L1] at h
    refine AWr_succ fun N1 hN1 hS1 => ?_
    obtain ⟨h30, h⟩ | ⟨h30, h⟩ := den_if h
    · obtain ⟨y31, h32, h⟩ := den_bind h
      obtain ⟨y33, h34, h⟩ := den_bind h
      exact ((((pre0.b h30).g (d_spec_FormatInt_good h32)).w (show Good Tryd.prog 58 [D.sl ((w1_1).map Fact.c), D.agg [D.str ([110]), D.sl ([[D.str (y31)]])]] (D.fr 38 2 ((y33).map Fact.c)) from by first | (simpa only [List.map_append, List.map_cons, List.map_nil, List.map_drop, List.map_take] using d_spec_l2Put_good h34) | exact d_spec_l2Put_good h34)).a [.d (D.fr 38 2 ((y33).map Fact.c)), .cn [0, 3, 4] [0, 3]]).cf hΓ hS1 (ih1 (IntKind.i64.wrap ((v1_4) + (1))) (y33) h)
    · exact ((pre0.b h30).a [.hl 2 [0, 3] [0, 1]]).ex hΓ hN1 (hE1 (w1_1) h)
theorem d_spec_l2List_good {a0_ : Cur} {r : Cur × (List Fact)} (h : d_spec_l2List a0_ = some r) : GoodP Tryd.prog 30 (Cur.c a0_) (Cur.c r.1) [] (D.fr 38 2 ((r.2).map Fact.c)) := by
  refine gdP Tryd.func30 [[none, none, none], [some (38, 2)]] 34 [D.sl ((a0_.b).map yx), D.int .i64 (a0_.i), D.int .i64 (a0_.h)] [] [] fun hr v0_ Γ hΓ => ?_
  rw [d_spec_l2List] at h
  obtain ⟨y1, h2, h⟩ := den_bind h
  obtain ⟨y3, h4, h⟩ := den_bind h
  have o1_ := ((pre0.hp [[none, none, none], [none]] (d_spec_l2Set_good h2)).hp [[none, none, none], [none]] (d_spec_l1Below_good h4))
  obtain ⟨h5, h⟩ | ⟨h5, h⟩ := den_if h
  · obtain ⟨y6, h7, h⟩ := den_bind h
    obtain ⟨h8, h⟩ := den_ok h
    cases h; exact (((o1_.b h5).hp [[none, none, none]] (d_spec_l2Any_good h7)).w (room_ok h8)).rts hΓ (D.tup [D.fr 38 2 (((y1.2).map Fact.c) ++ ([[D.str (y6.2.rel), D.sl ((y6.2.args).map tx)]])), D.agg [D.sl ((y6.1.b).map yx), D.int .i64 (y6.1.i), D.int .i64 (y6.1.h)], D.val v0_]) (by first | rfl | (simp only [mA] <;> rfl))
  · obtain ⟨h9, h⟩ | ⟨h9, h⟩ := den_if h
    · refine (((o1_.b h5).b h9).a [.cn [0, 3, 4] [0, 1]]).lp hΓ (d_spec_l2List_L1w hΓ (fun q1_1 h => ?_) fuel (0) (y1.2) h)
      obtain ⟨y35, h36, h⟩ := den_bind h
      obtain ⟨h37, h⟩ := den_ok h
      cases h; exact (((pre0.hp [[none, none, none], [some (3, 1)]] (d_spec_l1Int_good h36)).w (cut_ok h37)).a [.cut 0 (y35.2).toNat]).rts hΓ (D.tup [D.fr 38 2 (((q1_1).map Fact.c).take (y35.2).toNat), D.agg [D.sl ((y35.1.b).map yx), D.int .i64 (y35.1.i), D.int .i64 (y35.1.h)], D.val v0_]) (by first | rfl | (simp only [mA] <;> rfl))
    · cases h; exact ((o1_.b h5).b h9).ret hΓ
def d_spec_DrawAreFacts (a0_ : List Int) : Option (List Fact) := ((d_spec_l1New (a0_)).bind fun y1 => ((d_spec_l2List (y1)).bind fun y3 => (some (y3.2))))
theorem d_spec_DrawAreFacts_good {a0_ : List Int} {r : List Fact} (h : d_spec_DrawAreFacts a0_ = some r) : Good Tryd.prog 13 [D.sl ((a0_).map yx)] (D.fr 38 2 ((r).map Fact.c)) := by
  refine gd Tryd.func13 [[some (38, 2)]] 6 fun hr Γ hΓ => ?_
  rw [d_spec_DrawAreFacts] at h
  obtain ⟨y1, h2, h⟩ := den_bind h
  obtain ⟨y3, h4, h⟩ := den_bind h
  cases h; exact ((pre0.hn (d_spec_l1New_good h2)).hp [[none, none, none]] (d_spec_l2List_good h4)).ret hΓ
def d_spec_IsBinding_L1 (a0_ : List Pair) (k1 : Option Bool) : List Pair → Nat → Option Bool
  | [], i1 => (k1 )
  | x1_ :: xs1, i1 => ((d_spec_IsVar (x1_.var)).bind fun y49 => (bif !(y49) then (some (false)) else ((d_spec_IsAtom (x1_.value)).bind fun y52 => (bif !(y52) then (some (false)) else (bif decide (((i1 : Int) : Int) > (0)) then ((atI (a0_) (IntKind.i64.wrap (((i1 : Int)) - (1)))).bind fun x56 => (bif !(Op.bytesLess (x56.var) (x1_.var)) then (some (false)) else (d_spec_IsBinding_L1 a0_ k1 xs1 (i1 + 1) ))) else (d_spec_IsBinding_L1 a0_ k1 xs1 (i1 + 1) ))))))
def d_spec_IsBinding (a0_ : List Pair) : Option Bool := (d_spec_IsBinding_L1 a0_ (some (decide (((((a0_).map Pair.c).length : Int) : Int) ≤ (6)))) (a0_) 0 )
def d_spec_IsBinding_S1 (a0_ : List Pair) (ix_ : Int) : St := ⟨[(0, D.sl ((a0_).map Pair.c)), (3, D.int .i64 (ix_))], []⟩
theorem d_spec_IsBinding_L1w (hΓ : Γ.nt = 47) {a0_ : List Pair} {r : Bool} {k1 : Option Bool} (hE1 : k1 = some r → Ax Γ N Tryd.f31 (.q [[none]] (D.bool (r))) [1, 1] ⟨[(0, D.sl ((a0_).map Pair.c))], []⟩) (hm1 : (a0_).length ≤ maxLen) : ∀ (rest : List Pair) (i1 : Nat) , (a0_).drop i1 = rest → d_spec_IsBinding_L1 a0_ k1 rest i1  = some r → Ar Γ N Tryd.f31 (.q [[none]] (D.bool (r))) [1, 0, 1, 0] (rest.length + 1) (d_spec_IsBinding_S1 a0_ ((i1 : Int))) := by
  intro rest
  induction rest with
  | nil =>
    intro i1  hd1 h
    rw [d_spec_IsBinding_L1] at h
    refine AWr_succ fun N1 hN1 hS1 => ?_
    exact ((pre0.ge Pair.c hd1).a [.hl 0 [0] []]).ex hΓ hN1 (hE1 h)
  | cons x1_ xs1 ih1 =>
    intro i1  hd1 h
    rw [d_spec_IsBinding_L1] at h
    refine AWr_succ fun N1 hN1 hS1 => ?_
    obtain ⟨y49, h50, h⟩ := den_bind h
    have o5_ := ((((pre0.lt Pair.c hd1).a [.n 31]).l (map_row Pair.c 2 (dc hd1) rfl)).g (d_spec_IsVar_good h50))
    obtain ⟨h51, h⟩ | ⟨h51, h⟩ := den_if h
    · have h := den_some h; subst h; exact ((((o5_.r 8 h51).T 3).a [bF, bF, bF, bF, bF, bF, bF, bF, bF, bF, bF, bF]).T 3).ret hΓ
    · obtain ⟨y52, h53, h⟩ := den_bind h
      have o6_ := (((((o5_.r 3 h51).l (map_row Pair.c 2 (dc hd1) rfl)).r 3 h51).g (d_spec_IsAtom_good h53)).r 2 h51)
      obtain ⟨h54, h⟩ | ⟨h54, h⟩ := den_if h
      · have h := den_some h; subst h; exact ((((o6_.r 3 h54).a [bF, bF, bF, bF, bF, bF, bF, bF, bF, bF, bF, bF]).r 2 h54).T 1).ret hΓ
      · have o7_ := (o6_.r 3 h54)
        obtain ⟨h55, h⟩ | ⟨h55, h⟩ := den_if h
        · obtain ⟨x56, h57, h⟩ := den_bind h
          have o8_ := ((((((((o7_.r 4 h55).l (at_row Pair.c 2 h57 rfl)).r 5 h55).l (map_row Pair.c 2 (dc hd1) rfl)).r 3 h55).b h54).b h55).b h54)
          obtain ⟨h58, h⟩ | ⟨h58, h⟩ := den_if h
          · have h := den_some h; subst h; exact (o8_.b h58).ret hΓ
          · exact ((o8_.b h58).a [.cn [0, 3] []]).ct hΓ hS1 (iS hd1 hm1) (ih1 (i1 + 1)  (dn hd1) h)
        · exact ((((((o7_.r 12 h55).b h54).b h55).b h54).F 1).a [.cn [0, 3] []]).ct hΓ hS1 (iS hd1 hm1) (ih1 (i1 + 1)  (dn hd1) h)
theorem d_spec_IsBinding_good {a0_ : List Pair} {r : Bool} (h : d_spec_IsBinding a0_ = some r) : Good Tryd.prog 31 [D.sl ((a0_).map Pair.c)] (D.bool (r)) := by
  refine gd Tryd.func31 [[none]] 47 fun hr Γ hΓ => ?_
  rw [d_spec_IsBinding] at h
  refine (pre0.a [.cn [0, 3] []]).lp hΓ (d_spec_IsBinding_L1w hΓ (fun h => ?_) (by have := (Rdb.sl (hr _ (List.mem_of_getElem? (i := 0) rfl))).1; simpa using this) (a0_) 0  rfl h)
  cases h; exact pre0.ret hΓ
def d_spec_ValueOf_L1 (a0_ : List Pair) (a1_ : Bytes) (k1 : Option (Bytes × Bool)) : List Pair → Nat → Option (Bytes × Bool)
  | [], i1 => (k1 )
  | x1_ :: xs1, i1 => (bif (x1_.var : Bytes) == (a1_) then ((d_spec_IsVar (a1_)).bind fun y29 => (bif y29 then (some ((x1_.value, true))) else (d_spec_ValueOf_L1 a0_ a1_ k1 xs1 (i1 + 1) ))) else (d_spec_ValueOf_L1 a0_ a1_ k1 xs1 (i1 + 1) ))
def d_spec_ValueOf (a0_ : List Pair) (a1_ : Bytes) : Option (Bytes × Bool) := ((d_spec_IsAtom (a1_)).bind fun y1 => (bif y1 then (some ((a1_, true))) else (d_spec_ValueOf_L1 a0_ a1_ (some (([], false))) (a0_) 0 )))
def d_spec_ValueOf_S1 (a0_ : List Pair) (a1_ : Bytes) (ix_ : Int) : St := ⟨[(0, D.sl ((a0_).map Pair.c)), (1, D.str (a1_)), (6, D.int .i64 (ix_))], []⟩
theorem d_spec_ValueOf_L1w (hΓ : Γ.nt = 32) {a0_ : List Pair} {a1_ : Bytes} {r : Bytes × Bool} {k1 : Option (Bytes × Bool)} (hE1 : k1 = some r → Ax Γ N Tryd.f32 (.q [[none], [none]] (D.tup [D.str (r.1), D.bool (r.2)])) [1, 1, 1] ⟨[], []⟩) (hm1 : (a0_).length ≤ maxLen) : ∀ (rest : List Pair) (i1 : Nat) , (a0_).drop i1 = rest → d_spec_ValueOf_L1 a0_ a1_ k1 rest i1  = some r → Ar Γ N Tryd.f32 (.q [[none], [none]] (D.tup [D.str (r.1), D.bool (r.2)])) [1, 1, 0, 1, 0] (rest.length + 1) (d_spec_ValueOf_S1 a0_ a1_ ((i1 : Int))) := by
  intro rest
  induction rest with
  | nil =>
    intro i1  hd1 h
    rw [d_spec_ValueOf_L1] at h
    refine AWr_succ fun N1 hN1 hS1 => ?_
    exact ((pre0.ge Pair.c hd1).a [.hl 0 [] []]).ex hΓ hN1 (hE1 h)
  | cons x1_ xs1 ih1 =>
    intro i1  hd1 h
    rw [d_spec_ValueOf_L1] at h
    refine AWr_succ fun N1 hN1 hS1 => ?_
    have o3_ := ((pre0.lt Pair.c hd1).l (map_row Pair.c 2 (dc hd1) rfl))
    obtain ⟨h28, h⟩ | ⟨h28, h⟩ := den_if h
    · obtain ⟨y29, h30, h⟩ := den_bind h
      have o4_ := (((o3_.r 2 h28).g (d_spec_IsVar_good h30)).b h28)
      obtain ⟨h31, h⟩ | ⟨h31, h⟩ := den_if h
      · cases h; exact ((o4_.b h31).l (map_row Pair.c 2 (dc hd1) rfl)).ret hΓ
      · exact ((o4_.b h31).a [.cn [0, 1, 6] []]).ct hΓ hS1 (iS hd1 hm1) (ih1 (i1 + 1)  (dn hd1) h)
    · exact (((o3_.r 3 h28).F 1).a [.cn [0, 1, 6] []]).ct hΓ hS1 (iS hd1 hm1) (ih1 (i1 + 1)  (dn hd1) h)
theorem d_spec_ValueOf_good {a0_ : List Pair} {a1_ : Bytes} {r : Bytes × Bool} (h : d_spec_ValueOf a0_ a1_ = some r) : Good Tryd.prog 32 [D.sl ((a0_).map Pair.c), D.str (a1_)] (D.tup [D.str (r.1), D.bool (r.2)]) := by
  refine gd Tryd.func32 [[none], [none]] 32 fun hr Γ hΓ => ?_
  rw [d_spec_ValueOf] at h
  obtain ⟨y1, h2, h⟩ := den_bind h
  obtain ⟨h3, h⟩ | ⟨h3, h⟩ := den_if h
  · cases h; exact ((pre0.g (d_spec_IsAtom_good h2)).b h3).ret hΓ
  · refine (((pre0.g (d_spec_IsAtom_good h2)).b h3).a [.cn [0, 1, 6] []]).lp hΓ (d_spec_ValueOf_L1w hΓ (fun h => ?_) (by have := (Rdb.sl (hr _ (List.mem_of_getElem? (i := 0) rfl))).1; simpa using this) (a0_) 0  rfl h)
    cases h; exact pre0.ret hΓ
def d_spec_Instance_L1 (a0_ : Fact) (a1_ : List Pair) (k1 : List Bytes → Option (Fact × Bool)) : List Bytes → Nat → List Bytes → Option (Fact × Bool)
  | [], i1, w1_3 => (k1 (w1_3))
  | x1_ :: xs1, i1, w1_3 => ((d_spec_ValueOf (a1_) (x1_)).bind fun y38 => (bif !(y38.2) then (some (((⟨[], []⟩ : Fact), false))) else (bif room (((w1_3).map tx).length + ([[D.str (y38.1)]]).length) 16 then (d_spec_Instance_L1 a0_ a1_ k1 xs1 (i1 + 1) ((w1_3) ++ ([y38.1]))) else none)))
def d_spec_Instance (a0_ : Fact) (a1_ : List Pair) : Option (Fact × Bool) := ((d_spec_IsPattern (a0_)).bind fun y1 => (bif !(y1) then (some (((⟨[], []⟩ : Fact), false))) else ((d_spec_IsBinding (a1_)).bind fun y4 => (bif !(y4) then (some (((⟨[], []⟩ : Fact), false))) else (d_spec_Instance_L1 a0_ a1_ (fun (q1_2 : List Bytes) => (some (((⟨a0_.rel, q1_2⟩ : Fact), true)))) (a0_.args) 0 (([] : List Bytes)))))))
def d_spec_Instance_S1 (a0_ : Fact) (a1_ : List Pair) (W0 : List (List D)) (ix_ : Int) : St := ⟨[(1, D.sl ((a1_).map Pair.c)), (2, D.ptr 0 0), (4, D.ptr 1 0), (6, D.ptr 2 0), (7, D.int .i64 (ix_))], [Ob.box (Fact.c a0_), Ob.box [D.str ([]), D.nil], Ob.box [D.str (a0_.rel), D.acc 3], Ob.row .uq 9 1 (W0)]⟩
theorem d_spec_Instance_L1w (hΓ : Γ.nt = 49) {a0_ : Fact} {a1_ : List Pair} {r : Fact × Bool} {k1 : List Bytes → Option (Fact × Bool)} (hE1 : ∀ (q1_2 : List Bytes), k1 q1_2 = some r → Ax Γ N Tryd.f14 (.q [[none, some (9, 1)], [none]] (D.tup [D.agg [D.str (r.1.rel), D.fr 9 1 ((r.1.args).map tx)], D.bool (r.2)])) [1, 1, 1, 1] ⟨[(4, D.ptr 0 0), (6, D.ptr 1 0)], [Ob.box [D.str ([]), D.nil], Ob.box [D.str (a0_.rel), D.acc 2], Ob.row .uq 9 1 ((q1_2).map tx)]⟩) (hm1 : (a0_.args).length ≤ maxLen) : ∀ (rest : List Bytes) (i1 : Nat) (w1_3 : List Bytes), (a0_.args).drop i1 = rest → d_spec_Instance_L1 a0_ a1_ k1 rest i1 w1_3 = some r → Ar Γ N Tryd.f14 (.q [[none, some (9, 1)], [none]] (D.tup [D.agg [D.str (r.1.rel), D.fr 9 1 ((r.1.args).map tx)], D.bool (r.2)])) [1, 1, 1, 0, 1, 0] (rest.length + 1) (d_spec_Instance_S1 a0_ a1_ ((w1_3).map tx) ((i1 : Int))) := by
  intro rest
  induction rest with
  | nil =>
    intro i1 w1_3 hd1 h
    rw [d_spec_Instance_L1] at h
    refine AWr_succ fun N1 hN1 hS1 => ?_
    exact ((pre0.ge tx hd1).a [.hl 0 [4, 6] [1, 2, 3]]).ex hΓ hN1 (hE1 (w1_3) h)
  | cons x1_ xs1 ih1 =>
    intro i1 w1_3 hd1 h
    rw [d_spec_Instance_L1] at h
    refine AWr_succ fun N1 hN1 hS1 => ?_
    obtain ⟨y38, h39, h⟩ := den_bind h
    have o2_ := (((pre0.lt tx hd1).l (map_row tx 1 (dc hd1) rfl)).g (d_spec_ValueOf_good h39))
    obtain ⟨h40, h⟩ | ⟨h40, h⟩ := den_if h
    · cases h; exact (o2_.b h40).ret hΓ
    · obtain ⟨h41, h⟩ := den_ok h
      exact (((o2_.b h40).w (room_ok h41)).a [.cn [1, 2, 4, 6, 7] [0, 1, 2, 5]]).cs hΓ hS1 (d_spec_Instance_S1 a0_ a1_ (((w1_3).map tx) ++ ([[D.str (y38.1)]])) (IntKind.i64.wrap (((i1 : Int)) + (1)))) (by first | (simp only [iS hd1 hm1, mA] <;> rfl) | (simp only [iS hd1 hm1, mA, Fact.c, Pair.c, Cond.c, Action.c, Rule.c, Token.c, Match.c, Alpha.c, Node.c, Network.c, Stamp.c] <;> rfl)) (ih1 (i1 + 1) ((w1_3) ++ ([y38.1])) (dn hd1) h)
theorem d_spec_Instance_good {a0_ : Fact} {a1_ : List Pair} {r : Fact × Bool} (h : d_spec_Instance a0_ a1_ = some r) : Good Tryd.prog 14 [D.agg (Fact.c a0_), D.sl ((a1_).map Pair.c)] (D.tup [D.agg [D.str (r.1.rel), D.fr 9 1 ((r.1.args).map tx)], D.bool (r.2)]) := by
  refine gd Tryd.func14 [[none, some (9, 1)], [none]] 49 fun hr Γ hΓ => ?_
  rw [d_spec_Instance] at h
  obtain ⟨y1, h2, h⟩ := den_bind h
  obtain ⟨h3, h⟩ | ⟨h3, h⟩ := den_if h
  · cases h; exact (((pre0.g (d_spec_IsPattern_good h2)).r 4 h3).T 1).ret hΓ
  · obtain ⟨y4, h5, h⟩ := den_bind h
    have o3_ := ((((pre0.g (d_spec_IsPattern_good h2)).r 2 h3).g (d_spec_IsBinding_good h5)).r 2 h3)
    obtain ⟨h6, h⟩ | ⟨h6, h⟩ := den_if h
    · cases h; exact (o3_.b h6).ret hΓ
    · refine ((o3_.b h6).a [.pb 2 1 9 1, .cn [1, 2, 4, 6, 7] [0, 1, 2, 3]]).lp hΓ (d_spec_Instance_L1w hΓ (fun q1_2 h => ?_) (by have := (Rdb.sl (Rdb.agg (hr _ (List.mem_of_getElem? (i := 0) rfl)) (.sl ((a0_.args).map tx)) (by simp))).1; simpa using this) (a0_.args) 0 (([] : List Bytes)) rfl h)
      cases h; exact pre0.ret hΓ
def d_spec_IsFact_L1 (a0_ : Fact) (k1 : Option Bool) : List Bytes → Nat → Option Bool
  | [], i1 => (k1 )
  | x1_ :: xs1, i1 => ((d_spec_IsAtom (x1_)).bind fun y21 => (bif !(y21) then (some (false)) else (d_spec_IsFact_L1 a0_ k1 xs1 (i1 + 1) )))
def d_spec_IsFact (a0_ : Fact) : Option Bool := (d_spec_IsFact_L1 a0_ ((d_spec_IsName (a0_.rel)).bind fun y24 => (bif y24 then (some (decide (((((a0_.args).map tx).length : Int) : Int) ≤ (3)))) else (some (false)))) (a0_.args) 0 )
def d_spec_IsFact_S1 (a0_ : Fact) (ix_ : Int) : St := ⟨[(1, D.ptr 0 0), (3, D.int .i64 (ix_))], [Ob.box (Fact.c a0_)]⟩
theorem d_spec_IsFact_L1w (hΓ : Γ.nt = 27) {a0_ : Fact} {r : Bool} {k1 : Option Bool} (hE1 : k1 = some r → Ax Γ N Tryd.f33 (.q [[none]] (D.bool (r))) [1, 1] ⟨[(1, D.ptr 0 0)], [Ob.box (Fact.c a0_)]⟩) (hm1 : (a0_.args).length ≤ maxLen) : ∀ (rest : List Bytes) (i1 : Nat) , (a0_.args).drop i1 = rest → d_spec_IsFact_L1 a0_ k1 rest i1  = some r → Ar Γ N Tryd.f33 (.q [[none]] (D.bool (r))) [1, 0, 1, 0] (rest.length + 1) (d_spec_IsFact_S1 a0_ ((i1 : Int))) := by
  intro rest
  induction rest with
  | nil =>
    intro i1  hd1 h
    rw [d_spec_IsFact_L1] at h
    refine AWr_succ fun N1 hN1 hS1 => ?_
    exact ((pre0.ge tx hd1).a [.hl 0 [1] [0]]).ex hΓ hN1 (hE1 h)
  | cons x1_ xs1 ih1 =>
    intro i1  hd1 h
    rw [d_spec_IsFact_L1] at h
    refine AWr_succ fun N1 hN1 hS1 => ?_
    obtain ⟨y21, h22, h⟩ := den_bind h
    have o2_ := (((pre0.lt tx hd1).l (map_row tx 1 (dc hd1) rfl)).g (d_spec_IsAtom_good h22))
    obtain ⟨h23, h⟩ | ⟨h23, h⟩ := den_if h
    · have h := den_some h; subst h; exact (o2_.b h23).ret hΓ
    · exact ((o2_.b h23).a [.cn [1, 3] [0]]).ct hΓ hS1 (iS hd1 hm1) (ih1 (i1 + 1)  (dn hd1) h)
theorem d_spec_IsFact_good {a0_ : Fact} {r : Bool} (h : d_spec_IsFact a0_ = some r) : Good Tryd.prog 33 [D.agg (Fact.c a0_)] (D.bool (r)) := by
  refine gd Tryd.func33 [[none]] 27 fun hr Γ hΓ => ?_
  rw [d_spec_IsFact] at h
  refine (pre0.a [.cn [1, 3] [0]]).lp hΓ (d_spec_IsFact_L1w hΓ (fun h => ?_) (by have := (Rdb.sl (Rdb.agg (hr _ (List.mem_of_getElem? (i := 0) rfl)) (.sl ((a0_.args).map tx)) (by simp))).1; simpa using this) (a0_.args) 0  rfl h)
  obtain ⟨y24, h25, h⟩ := den_bind h
  obtain ⟨h26, h⟩ | ⟨h26, h⟩ := den_if h
  · cases h; exact ((pre0.g (d_spec_IsName_good h25)).r 5 h26).ret hΓ
  · have h := den_some h; subst h; exact ((pre0.g (d_spec_IsName_good h25)).r 5 h26).ret hΓ
def d_spec_l3Copy (a0_ : List Pair) : Option (List Pair) := (bif room ((([] : List (List D))).length + ((a0_).map Pair.c).length) 32 then (some ((([] : List Pair)) ++ (a0_))) else none)
theorem d_spec_l3Copy_good {a0_ : List Pair} {r : List Pair} (h : d_spec_l3Copy a0_ = some r) : Good Tryd.prog 34 [D.sl ((a0_).map Pair.c)] (D.fr 71 2 ((r).map Pair.c)) := by
  refine gd Tryd.func34 [[some (71, 2)]] 6 fun hr Γ hΓ => ?_
  rw [d_spec_l3Copy] at h
  obtain ⟨h1, h⟩ := den_ok h
  cases h; exact (((pre0.w (room_ok h1)).w (show (∀ r ∈ ((a0_).map Pair.c), r.length = 2) ∧ (true = true → D.flatRows ((a0_).map Pair.c) = true) from ⟨by simp, by simp [D.flatRows, D.flat]⟩)).a [.pro 2, .fl true]).rts hΓ (D.fr 71 2 ((([] : List (List D))) ++ ((a0_).map Pair.c))) (by first | rfl | (simp only [mA] <;> rfl))
def d_spec_l3Set_L1 (a0_ : List Pair) (a1_ : Bytes) (a2_ : Bytes) (k1 : Bool → List Pair → Option (List Pair)) : List Pair → Nat → Bool → List Pair → Option (List Pair)
  | [], i1, v1_8, w1_0 => (k1 (v1_8) (w1_0))
  | x1_ :: xs1, i1, v1_8, w1_0 => (bif !(v1_8) then (bif !(Op.bytesLess (x1_.var) (a1_) || (x1_.var : Bytes) == (a1_)) then (bif room (((w1_0).map Pair.c).length + ([[D.str (a1_), D.str (a2_)]]).length) 32 then (bif room ((((w1_0).map Pair.c) ++ ([[D.str (a1_), D.str (a2_)]])).length + ([[D.str (x1_.var), D.str (x1_.value)]]).length) 32 then (d_spec_l3Set_L1 a0_ a1_ a2_ k1 xs1 (i1 + 1) (true) (((w1_0) ++ ([(⟨a1_, a2_⟩ : Pair)])) ++ ([x1_]))) else none) else none) else (bif room (((w1_0).map Pair.c).length + ([[D.str (x1_.var), D.str (x1_.value)]]).length) 32 then (d_spec_l3Set_L1 a0_ a1_ a2_ k1 xs1 (i1 + 1) (v1_8) ((w1_0) ++ ([x1_]))) else none)) else (bif room (((w1_0).map Pair.c).length + ([[D.str (x1_.var), D.str (x1_.value)]]).length) 32 then (d_spec_l3Set_L1 a0_ a1_ a2_ k1 xs1 (i1 + 1) (v1_8) ((w1_0) ++ ([x1_]))) else none))
def d_spec_l3Set (a0_ : List Pair) (a1_ : Bytes) (a2_ : Bytes) : Option (List Pair) := (d_spec_l3Set_L1 a0_ a1_ a2_ (fun (z1_8 : Bool) (q1_0 : List Pair) => (bif !(z1_8) then (bif room (((q1_0).map Pair.c).length + ([[D.str (a1_), D.str (a2_)]]).length) 32 then (some ((q1_0) ++ ([(⟨a1_, a2_⟩ : Pair)]))) else none) else (some (q1_0)))) (a0_) 0 (false) (([] : List Pair)))
def d_spec_l3Set_S1 (a0_ : List Pair) (a1_ : Bytes) (a2_ : Bytes) (v1_8 : Bool) (W1 : List (List D)) (ix_ : Int) : St := ⟨[(0, D.sl ((a0_).map Pair.c)), (1, D.str (a1_)), (2, D.str (a2_)), (7, D.acc 0), (8, D.bool (v1_8)), (9, D.int .i64 (ix_))], [Ob.row .uq 71 2 (W1)]⟩
theorem d_spec_l3Set_L1w (hΓ : Γ.nt = 50) {a0_ : List Pair} {a1_ : Bytes} {a2_ : Bytes} {r : List Pair} {k1 : Bool → List Pair → Option (List Pair)} (hE1 : ∀ (z1_8 : Bool) (q1_0 : List Pair), k1 z1_8 q1_0 = some r → Ax Γ N Tryd.f59 (.q [[some (71, 2)]] (D.fr 71 2 ((r).map Pair.c))) [1, 1, 1, 1] ⟨[(1, D.str (a1_)), (2, D.str (a2_)), (7, D.acc 0), (8, D.bool (z1_8))], [Ob.row .uq 71 2 ((q1_0).map Pair.c)]⟩) (hm1 : (a0_).length ≤ maxLen) : ∀ (rest : List Pair) (i1 : Nat) (v1_8 : Bool) (w1_0 : List Pair), (a0_).drop i1 = rest → d_spec_l3Set_L1 a0_ a1_ a2_ k1 rest i1 v1_8 w1_0 = some r → Ar Γ N Tryd.f59 (.q [[some (71, 2)]] (D.fr 71 2 ((r).map Pair.c))) [1, 1, 1, 0, 1, 0] (rest.length + 1) (d_spec_l3Set_S1 a0_ a1_ a2_ v1_8 ((w1_0).map Pair.c) ((i1 : Int))) := by
  intro rest
  induction rest with
  | nil =>
    intro i1 v1_8 w1_0 hd1 h
    rw [d_spec_l3Set_L1] at h
    refine AWr_succ fun N1 hN1 hS1 => ?_
    exact ((pre0.ge Pair.c hd1).a [.hl 0 [1, 2, 7, 8] [0]]).ex hΓ hN1 (hE1 (v1_8) (w1_0) h)
  | cons x1_ xs1 ih1 =>
    intro i1 v1_8 w1_0 hd1 h
    rw [d_spec_l3Set_L1] at h
    refine AWr_succ fun N1 hN1 hS1 => ?_
    obtain ⟨h48, h⟩ | ⟨h48, h⟩ := den_if h
    · have o2_ := ((((pre0.lt Pair.c hd1).r 3 h48).l (map_row Pair.c 2 (dc hd1) rfl)).r 5 h48)
      obtain ⟨h49, h⟩ | ⟨h49, h⟩ := den_if h
      · obtain ⟨h50, h⟩ := den_ok h
        obtain ⟨h51, h⟩ := den_ok h
        exact (((((o2_.b h49).w (room_ok h50)).l (map_row Pair.c 2 (dc hd1) rfl)).w (room_ok h51)).a [.cn [0, 1, 2, 7, 8, 9] [4]]).cs hΓ hS1 (d_spec_l3Set_S1 a0_ a1_ a2_ true ((((w1_0).map Pair.c) ++ ([[D.str (a1_), D.str (a2_)]])) ++ ([[D.str (x1_.var), D.str (x1_.value)]])) (IntKind.i64.wrap (((i1 : Int)) + (1)))) (by first | (simp only [iS hd1 hm1, mA] <;> rfl) | (simp only [iS hd1 hm1, mA, Fact.c, Pair.c, Cond.c, Action.c, Rule.c, Token.c, Match.c, Alpha.c, Node.c, Network.c, Stamp.c] <;> rfl)) (ih1 (i1 + 1) (true) (((w1_0) ++ ([(⟨a1_, a2_⟩ : Pair)])) ++ ([x1_])) (dn hd1) h)
      · obtain ⟨h52, h⟩ := den_ok h
        exact ((((o2_.b h49).l (map_row Pair.c 2 (dc hd1) rfl)).w (room_ok h52)).a [.cn [0, 1, 2, 7, 8, 9] [2]]).cs hΓ hS1 (d_spec_l3Set_S1 a0_ a1_ a2_ v1_8 (((w1_0).map Pair.c) ++ ([[D.str (x1_.var), D.str (x1_.value)]])) (IntKind.i64.wrap (((i1 : Int)) + (1)))) (by first | (simp only [iS hd1 hm1, mA] <;> rfl) | (simp only [iS hd1 hm1, mA, Fact.c, Pair.c, Cond.c, Action.c, Rule.c, Token.c, Match.c, Alpha.c, Node.c, Network.c, Stamp.c] <;> rfl)) (ih1 (i1 + 1) (v1_8) ((w1_0) ++ ([x1_])) (dn hd1) h)
    · obtain ⟨h53, h⟩ := den_ok h
      exact ((((((pre0.lt Pair.c hd1).r 8 h48).F 1).l (map_row Pair.c 2 (dc hd1) rfl)).w (room_ok h53)).a [.cn [0, 1, 2, 7, 8, 9] [2]]).cs hΓ hS1 (d_spec_l3Set_S1 a0_ a1_ a2_ v1_8 (((w1_0).map Pair.c) ++ ([[D.str (x1_.var), D.str (x1_.value)]])) (IntKind.i64.wrap (((i1 : Int)) + (1)))) (by first | (simp only [iS hd1 hm1, mA] <;> rfl) | (simp only [iS hd1 hm1, mA, Fact.c, Pair.c, Cond.c, Action.c, Rule.c, Token.c, Match.c, Alpha.c, Node.c, Network.c, Stamp.c] <;> rfl)) (ih1 (i1 + 1) (v1_8) ((w1_0) ++ ([x1_])) (dn hd1) h)
theorem d_spec_l3Set_good {a0_ : List Pair} {a1_ : Bytes} {a2_ : Bytes} {r : List Pair} (h : d_spec_l3Set a0_ a1_ a2_ = some r) : Good Tryd.prog 59 [D.sl ((a0_).map Pair.c), D.str (a1_), D.str (a2_)] (D.fr 71 2 ((r).map Pair.c)) := by
  refine gd Tryd.func59 [[some (71, 2)]] 50 fun hr Γ hΓ => ?_
  rw [d_spec_l3Set] at h
  refine (pre0.a [.cn [0, 1, 2, 7, 8, 9] [0]]).lp hΓ (d_spec_l3Set_L1w hΓ (fun z1_8 q1_0 h => ?_) (by have := (Rdb.sl (hr _ (List.mem_of_getElem? (i := 0) rfl))).1; simpa using this) (a0_) 0 (false) (([] : List Pair)) rfl h)
  obtain ⟨h54, h⟩ | ⟨h54, h⟩ := den_if h
  · obtain ⟨h55, h⟩ := den_ok h
    cases h; exact ((pre0.b h54).w (room_ok h55)).rts hΓ (D.fr 71 2 (((q1_0).map Pair.c) ++ ([[D.str (a1_), D.str (a2_)]]))) (by first | rfl | (simp only [mA] <;> rfl))
  · have h := den_some h; subst h; exact (pre0.b h54).ret hΓ
def d_spec_Extend (a0_ : List Pair) (a1_ : Bytes) (a2_ : Bytes) : Option ((List Pair) × Bool) := ((d_spec_IsBinding (a0_)).bind fun y1 => (bif !(y1) then (some ((([] : List Pair), false))) else ((d_spec_IsVar (a1_)).bind fun y4 => (bif !(y4) then (some ((([] : List Pair), false))) else ((d_spec_IsAtom (a2_)).bind fun y7 => (bif !(y7) then (some ((([] : List Pair), false))) else ((d_spec_ValueOf (a0_) (a1_)).bind fun y10 => (bif y10.2 then (bif (y10.1 : Bytes) == (a2_) then ((d_spec_l3Copy (a0_)).bind fun y14 => (some ((y14, true)))) else (some ((([] : List Pair), false)))) else (bif ((((a0_).map Pair.c).length : Int) : Int) == (6) then (some ((([] : List Pair), false))) else ((d_spec_l3Set (a0_) (a1_) (a2_)).bind fun y17 => (some ((y17, true)))))))))))))
theorem d_spec_Extend_good {a0_ : List Pair} {a1_ : Bytes} {a2_ : Bytes} {r : (List Pair) × Bool} (h : d_spec_Extend a0_ a1_ a2_ = some r) : Good Tryd.prog 36 [D.sl ((a0_).map Pair.c), D.str (a1_), D.str (a2_)] (D.tup [D.fr 71 2 ((r.1).map Pair.c), D.bool (r.2)]) := by
  refine gd Tryd.func36 [[some (71, 2)], [none]] 49 fun hr Γ hΓ => ?_
  rw [d_spec_Extend] at h
  obtain ⟨y1, h2, h⟩ := den_bind h
  obtain ⟨h3, h⟩ | ⟨h3, h⟩ := den_if h
  · cases h; exact (((pre0.g (d_spec_IsBinding_good h2)).r 4 h3).T 5).ret hΓ
  · obtain ⟨y4, h5, h⟩ := den_bind h
    have o1_ := ((((pre0.g (d_spec_IsBinding_good h2)).r 2 h3).g (d_spec_IsVar_good h5)).r 2 h3)
    obtain ⟨h6, h⟩ | ⟨h6, h⟩ := den_if h
    · cases h; exact ((o1_.r 4 h6).T 1).ret hΓ
    · obtain ⟨y7, h8, h⟩ := den_bind h
      have o2_ := (((o1_.r 2 h6).g (d_spec_IsAtom_good h8)).r 2 h6)
      obtain ⟨h9, h⟩ | ⟨h9, h⟩ := den_if h
      · cases h; exact (o2_.b h9).ret hΓ
      · obtain ⟨y10, h11, h⟩ := den_bind h
        have o3_ := ((o2_.b h9).g (d_spec_ValueOf_good h11))
        obtain ⟨h12, h⟩ | ⟨h12, h⟩ := den_if h
        · have o4_ := (o3_.r 4 h12)
          obtain ⟨h13, h⟩ | ⟨h13, h⟩ := den_if h
          · obtain ⟨y14, h15, h⟩ := den_bind h
            cases h; exact ((o4_.b h13).g (d_spec_l3Copy_good h15)).ret hΓ
          · cases h; exact (((o4_.b h13).r 4 h12).T 1).ret hΓ
        · have o5_ := (((o3_.r 4 h12).F 1).r 4 h12)
          obtain ⟨h16, h⟩ | ⟨h16, h⟩ := den_if h
          · cases h; exact (o5_.b h16).ret hΓ
          · obtain ⟨y17, h18, h⟩ := den_bind h
            cases h; exact ((o5_.b h16).g (d_spec_l3Set_good h18)).ret hΓ
def d_spec_MatchFact_L1 (a0_ : Fact) (a1_ : Fact) (k1 : List Pair → Option ((List Pair) × Bool)) : List Bytes → Nat → List Pair → Option ((List Pair) × Bool)
  | [], i1, w1_2 => (k1 (w1_2))
  | x1_ :: xs1, i1, w1_2 => ((d_spec_IsAtom (x1_)).bind fun y80 => (bif y80 then ((atI (a1_.args) ((i1 : Int))).bind fun x83 => (bif !((x1_ : Bytes) == (x83)) then (some ((([] : List Pair), false))) else (d_spec_MatchFact_L1 a0_ a1_ k1 xs1 (i1 + 1) (w1_2)))) else ((atI (a1_.args) ((i1 : Int))).bind fun x86 => ((d_spec_Extend (w1_2) (x1_) (x86)).bind fun y88 => (bif !(y88.2) then (some ((([] : List Pair), false))) else (d_spec_MatchFact_L1 a0_ a1_ k1 xs1 (i1 + 1) (y88.1)))))))
def d_spec_MatchFact (a0_ : Fact) (a1_ : Fact) (a2_ : List Pair) : Option ((List Pair) × Bool) := ((d_spec_IsPattern (a0_)).bind fun y1 => (bif !(y1) then (some ((([] : List Pair), false))) else ((d_spec_IsFact (a1_)).bind fun y4 => (bif !(y4) then (some ((([] : List Pair), false))) else ((d_spec_IsBinding (a2_)).bind fun y7 => (bif !(y7) then (some ((([] : List Pair), false))) else (bif !((a0_.rel : Bytes) == (a1_.rel)) then (some ((([] : List Pair), false))) else (bif ((((a0_.args).map tx).length : Int) : Int) != ((((a1_.args).map tx).length : Int)) then (some ((([] : List Pair), false))) else ((d_spec_l3Copy (a2_)).bind fun y12 => (d_spec_MatchFact_L1 a0_ a1_ (fun (q1_0 : List Pair) => (some ((q1_0, true)))) (a0_.args) 0 (y12)))))))))))
def d_spec_MatchFact_S1 (a0_ : Fact) (a1_ : Fact) (W0 : List (List D)) (ix_ : Int) : St := ⟨[(3, D.ptr 0 0), (4, D.ptr 1 0), (8, D.acc 2), (9, D.int .i64 (ix_))], [Ob.box (Fact.c a0_), Ob.box (Fact.c a1_), Ob.row .uq 71 2 (W0)]⟩
theorem d_spec_MatchFact_L1w (hΓ : Γ.nt = 89) {a0_ : Fact} {a1_ : Fact} {r : (List Pair) × Bool} {k1 : List Pair → Option ((List Pair) × Bool)} (hE1 : ∀ (q1_0 : List Pair), k1 q1_0 = some r → Ax Γ N Tryd.f15 (.q [[some (71, 2)], [none]] (D.tup [D.fr 71 2 ((r.1).map Pair.c), D.bool (r.2)])) [1, 1, 1, 1] ⟨[(8, D.acc 0)], [Ob.row .uq 71 2 ((q1_0).map Pair.c)]⟩) (hm1 : (a0_.args).length ≤ maxLen) : ∀ (rest : List Bytes) (i1 : Nat) (w1_2 : List Pair), (a0_.args).drop i1 = rest → d_spec_MatchFact_L1 a0_ a1_ k1 rest i1 w1_2 = some r → Ar Γ N Tryd.f15 (.q [[some (71, 2)], [none]] (D.tup [D.fr 71 2 ((r.1).map Pair.c), D.bool (r.2)])) [1, 1, 1, 0, 1, 0] (rest.length + 1) (d_spec_MatchFact_S1 a0_ a1_ ((w1_2).map Pair.c) ((i1 : Int))) := by
  intro rest
  induction rest with
  | nil =>
    intro i1 w1_2 hd1 h
    rw [d_spec_MatchFact_L1] at h
    refine AWr_succ fun N1 hN1 hS1 => ?_
    exact ((pre0.ge tx hd1).a [.hl 0 [8] [2]]).ex hΓ hN1 (hE1 (w1_2) h)
  | cons x1_ xs1 ih1 =>
    intro i1 w1_2 hd1 h
    rw [d_spec_MatchFact_L1] at h
    refine AWr_succ fun N1 hN1 hS1 => ?_
    obtain ⟨y80, h81, h⟩ := den_bind h
    have o4_ := (((pre0.lt tx hd1).l (map_row tx 1 (dc hd1) rfl)).g (d_spec_IsAtom_good h81))
    obtain ⟨h82, h⟩ | ⟨h82, h⟩ := den_if h
    · obtain ⟨x83, h84, h⟩ := den_bind h
      have o5_ := ((((o4_.b h82).a [.n 10]).l (map_row tx 1 (dc hd1) rfl)).l (at_row tx 1 h84 rfl))
      obtain ⟨h85, h⟩ | ⟨h85, h⟩ := den_if h
      · cases h; exact (o5_.b h85).ret hΓ
      · exact ((o5_.b h85).a [.cn [3, 4, 8, 9] [0, 1, 2]]).ct hΓ hS1 (iS hd1 hm1) (ih1 (i1 + 1) (w1_2) (dn hd1) h)
    · obtain ⟨x86, h87, h⟩ := den_bind h
      obtain ⟨y88, h89, h⟩ := den_bind h
      have o6_ := (((((o4_.b h82).a [.n 16]).l (map_row tx 1 (dc hd1) rfl)).l (at_row tx 1 h87 rfl)).g (d_spec_Extend_good h89))
      obtain ⟨h90, h⟩ | ⟨h90, h⟩ := den_if h
      · cases h; exact (o6_.b h90).ret hΓ
      · exact ((o6_.b h90).a [.cn [3, 4, 8, 9] [0, 1, 3]]).ct hΓ hS1 (iS hd1 hm1) (ih1 (i1 + 1) (y88.1) (dn hd1) h)
theorem d_spec_MatchFact_good {a0_ : Fact} {a1_ : Fact} {a2_ : List Pair} {r : (List Pair) × Bool} (h : d_spec_MatchFact a0_ a1_ a2_ = some r) : Good Tryd.prog 15 [D.agg (Fact.c a0_), D.agg (Fact.c a1_), D.sl ((a2_).map Pair.c)] (D.tup [D.fr 71 2 ((r.1).map Pair.c), D.bool (r.2)]) := by
  refine gd Tryd.func15 [[some (71, 2)], [none]] 89 fun hr Γ hΓ => ?_
  rw [d_spec_MatchFact] at h
  obtain ⟨y1, h2, h⟩ := den_bind h
  obtain ⟨h3, h⟩ | ⟨h3, h⟩ := den_if h
  · cases h; exact (((pre0.g (d_spec_IsPattern_good h2)).r 4 h3).T 19).ret hΓ
  · obtain ⟨y4, h5, h⟩ := den_bind h
    have o7_ := ((((pre0.g (d_spec_IsPattern_good h2)).r 2 h3).g (d_spec_IsFact_good h5)).r 2 h3)
    obtain ⟨h6, h⟩ | ⟨h6, h⟩ := den_if h
    · cases h; exact ((o7_.r 4 h6).T 15).ret hΓ
    · obtain ⟨y7, h8, h⟩ := den_bind h
      have o8_ := (((o7_.r 2 h6).g (d_spec_IsBinding_good h8)).r 2 h6)
      obtain ⟨h9, h⟩ | ⟨h9, h⟩ := den_if h
      · cases h; exact ((o8_.r 6 h9).T 9).ret hΓ
      · have o9_ := (o8_.r 6 h9)
        obtain ⟨h10, h⟩ | ⟨h10, h⟩ := den_if h
        · cases h; exact ((o9_.r 8 h10).T 1).ret hΓ
        · have o10_ := (o9_.r 8 h10)
          obtain ⟨h11, h⟩ | ⟨h11, h⟩ := den_if h
          · cases h; exact (o10_.b h11).ret hΓ
          · obtain ⟨y12, h13, h⟩ := den_bind h
            refine (((o10_.b h11).g (d_spec_l3Copy_good h13)).a [.cn [3, 4, 8, 9] [0, 1, 2]]).lp hΓ (d_spec_MatchFact_L1w hΓ (fun q1_0 h => ?_) (by have := (Rdb.sl (Rdb.agg (hr _ (List.mem_of_getElem? (i := 0) rfl)) (.sl ((a0_.args).map tx)) (by simp))).1; simpa using this) (a0_.args) 0 (y12) rfl h)
            cases h; exact pre0.ret hΓ
def d_impl_IsFact_L1 (a0_ : Fact) (k1 : Option Bool) : List Bytes → Nat → Option Bool
  | [], i1 => (k1 )
  | x1_ :: xs1, i1 => ((d_impl_IsAtom (x1_)).bind fun y25 => (bif !(y25) then (some (false)) else (d_impl_IsFact_L1 a0_ k1 xs1 (i1 + 1) )))
def d_impl_IsFact (a0_ : Fact) : Option Bool := ((d_impl_IsName (a0_.rel)).bind fun y1 => (bif !(y1) then (some (false)) else (bif decide (((((a0_.args).map tx).length : Int) : Int) > (3)) then (some (false)) else (d_impl_IsFact_L1 a0_ (some (true)) (a0_.args) 0 ))))
def d_impl_IsFact_S1 (a0_ : Fact) (ix_ : Int) : St := ⟨[(16, D.sl ((a0_.args).map tx)), (17, D.int .i64 ((((a0_.args).map tx).length : Int))), (18, D.int .i64 (ix_))], []⟩
theorem d_impl_IsFact_L1w (hΓ : Γ.nt = 26) {a0_ : Fact} {r : Bool} {k1 : Option Bool} (hE1 : k1 = some r → Ax Γ N Tryd.f37 (.q [[none]] (D.bool (r))) [1, 1, 1] ⟨[], []⟩) (hm1 : (a0_.args).length ≤ maxLen) : ∀ (rest : List Bytes) (i1 : Nat) , (a0_.args).drop i1 = rest → d_impl_IsFact_L1 a0_ k1 rest i1  = some r → Ar Γ N Tryd.f37 (.q [[none]] (D.bool (r))) [1, 1, 0, 1, 0] (rest.length + 1) (d_impl_IsFact_S1 a0_ ((i1 : Int))) := by
  intro rest
  induction rest with
  | nil =>
    intro i1  hd1 h
    rw [d_impl_IsFact_L1] at h
    refine AWr_succ fun N1 hN1 hS1 => ?_
    exact ((pre0.ge tx hd1).a [.hl 0 [] []]).ex hΓ hN1 (hE1 h)
  | cons x1_ xs1 ih1 =>
    intro i1  hd1 h
    rw [d_impl_IsFact_L1] at h
    refine AWr_succ fun N1 hN1 hS1 => ?_
    obtain ⟨y25, h26, h⟩ := den_bind h
    have o2_ := (((pre0.lt tx hd1).l (map_row tx 1 (dc hd1) rfl)).g (d_impl_IsAtom_good h26))
    obtain ⟨h27, h⟩ | ⟨h27, h⟩ := den_if h
    · have h := den_some h; subst h; exact (o2_.b h27).ret hΓ
    · exact ((o2_.b h27).a [.cn [16, 17, 18] []]).ct hΓ hS1 (iS hd1 hm1) (ih1 (i1 + 1)  (dn hd1) h)
theorem d_impl_IsFact_good {a0_ : Fact} {r : Bool} (h : d_impl_IsFact a0_ = some r) : Good Tryd.prog 37 [D.agg (Fact.c a0_)] (D.bool (r)) := by
  refine gd Tryd.func37 [[none]] 26 fun hr Γ hΓ => ?_
  rw [d_impl_IsFact] at h
  obtain ⟨y1, h2, h⟩ := den_bind h
  obtain ⟨h3, h⟩ | ⟨h3, h⟩ := den_if h
  · have h := den_some h; subst h; exact (((pre0.g (d_impl_IsName_good h2)).r 5 h3).T 1).ret hΓ
  · have o3_ := ((pre0.g (d_impl_IsName_good h2)).r 5 h3)
    obtain ⟨h4, h⟩ | ⟨h4, h⟩ := den_if h
    · have h := den_some h; subst h; exact (o3_.b h4).ret hΓ
    · refine ((o3_.b h4).a [.cn [16, 17, 18] []]).lp hΓ (d_impl_IsFact_L1w hΓ (fun h => ?_) (by have := (Rdb.sl (Rdb.agg (hr _ (List.mem_of_getElem? (i := 0) rfl)) (.sl ((a0_.args).map tx)) (by simp))).1; simpa using this) (a0_.args) 0  rfl h)
      have h := den_some h; subst h; exact pre0.ret hΓ
def d_impl_IsBinding_L1 (a0_ : List Pair) (k1 : Option Bool) : List Pair → Nat → Option Bool
  | [], i1 => (k1 )
  | x1_ :: xs1, i1 => ((d_impl_IsVar (x1_.var)).bind fun y50 => (bif !(y50) then (some (false)) else ((d_impl_IsAtom (x1_.value)).bind fun y53 => (bif !(y53) then (some (false)) else (bif decide (((i1 : Int) : Int) > (0)) then ((atI (a0_) (IntKind.i64.wrap (((i1 : Int)) - (1)))).bind fun x57 => (bif !(Op.bytesLess (x57.var) (x1_.var)) then (some (false)) else (d_impl_IsBinding_L1 a0_ k1 xs1 (i1 + 1) ))) else (d_impl_IsBinding_L1 a0_ k1 xs1 (i1 + 1) ))))))
def d_impl_IsBinding (a0_ : List Pair) : Option Bool := (bif decide (((((a0_).map Pair.c).length : Int) : Int) > (6)) then (some (false)) else (d_impl_IsBinding_L1 a0_ (some (true)) (a0_) 0 ))
def d_impl_IsBinding_S1 (a0_ : List Pair) (ix_ : Int) : St := ⟨[(0, D.sl ((a0_).map Pair.c)), (8, D.sl ((a0_).map Pair.c)), (9, D.int .i64 ((((a0_).map Pair.c).length : Int))), (10, D.int .i64 (ix_))], []⟩
theorem d_impl_IsBinding_L1w (hΓ : Γ.nt = 41) {a0_ : List Pair} {r : Bool} {k1 : Option Bool} (hE1 : k1 = some r → Ax Γ N Tryd.f38 (.q [[none]] (D.bool (r))) [1, 1, 1] ⟨[], []⟩) (hm1 : (a0_).length ≤ maxLen) : ∀ (rest : List Pair) (i1 : Nat) , (a0_).drop i1 = rest → d_impl_IsBinding_L1 a0_ k1 rest i1  = some r → Ar Γ N Tryd.f38 (.q [[none]] (D.bool (r))) [1, 1, 0, 1, 0] (rest.length + 1) (d_impl_IsBinding_S1 a0_ ((i1 : Int))) := by
  intro rest
  induction rest with
  | nil =>
    intro i1  hd1 h
    rw [d_impl_IsBinding_L1] at h
    refine AWr_succ fun N1 hN1 hS1 => ?_
    exact ((pre0.ge Pair.c hd1).a [.hl 0 [] []]).ex hΓ hN1 (hE1 h)
  | cons x1_ xs1 ih1 =>
    intro i1  hd1 h
    rw [d_impl_IsBinding_L1] at h
    refine AWr_succ fun N1 hN1 hS1 => ?_
    obtain ⟨y50, h51, h⟩ := den_bind h
    have o5_ := ((((pre0.lt Pair.c hd1).l (map_row Pair.c 2 (dc hd1) rfl)).a [.n 22]).g (d_impl_IsVar_good h51))
    obtain ⟨h52, h⟩ | ⟨h52, h⟩ := den_if h
    · have h := den_some h; subst h; exact ((((o5_.r 5 h52).T 3).a [bF, bF, bF, bF, bF, bF, bF, bF, bF]).T 3).ret hΓ
    · obtain ⟨y53, h54, h⟩ := den_bind h
      have o6_ := (((o5_.r 3 h52).g (d_impl_IsAtom_good h54)).r 2 h52)
      obtain ⟨h55, h⟩ | ⟨h55, h⟩ := den_if h
      · have h := den_some h; subst h; exact ((((o6_.r 3 h55).a [bF, bF, bF, bF, bF, bF, bF, bF, bF]).r 2 h55).T 1).ret hΓ
      · have o7_ := (o6_.r 3 h55)
        obtain ⟨h56, h⟩ | ⟨h56, h⟩ := den_if h
        · obtain ⟨x57, h58, h⟩ := den_bind h
          have o8_ := ((((((o7_.r 4 h56).l (at_row Pair.c 2 h58 rfl)).r 5 h56).b h55).b h56).b h55)
          obtain ⟨h59, h⟩ | ⟨h59, h⟩ := den_if h
          · have h := den_some h; subst h; exact (o8_.b h59).ret hΓ
          · exact ((o8_.b h59).a [.cn [0, 8, 9, 10] []]).ct hΓ hS1 (iS hd1 hm1) (ih1 (i1 + 1)  (dn hd1) h)
        · exact ((((((o7_.r 9 h56).b h55).b h56).b h55).F 1).a [.cn [0, 8, 9, 10] []]).ct hΓ hS1 (iS hd1 hm1) (ih1 (i1 + 1)  (dn hd1) h)
theorem d_impl_IsBinding_good {a0_ : List Pair} {r : Bool} (h : d_impl_IsBinding a0_ = some r) : Good Tryd.prog 38 [D.sl ((a0_).map Pair.c)] (D.bool (r)) := by
  refine gd Tryd.func38 [[none]] 41 fun hr Γ hΓ => ?_
  rw [d_impl_IsBinding] at h
  obtain ⟨h1, h⟩ | ⟨h1, h⟩ := den_if h
  · have h := den_some h; subst h; exact (pre0.b h1).ret hΓ
  · refine ((pre0.b h1).a [.cn [0, 8, 9, 10] []]).lp hΓ (d_impl_IsBinding_L1w hΓ (fun h => ?_) (by have := (Rdb.sl (hr _ (List.mem_of_getElem? (i := 0) rfl))).1; simpa using this) (a0_) 0  rfl h)
    have h := den_some h; subst h; exact pre0.ret hΓ
def d_impl_copyPairs (a0_ : List Pair) : Option (List Pair) := (bif room ((([] : List (List D))).length + ((a0_).map Pair.c).length) 32 then (some ((([] : List Pair)) ++ (a0_))) else none)
theorem d_impl_copyPairs_good {a0_ : List Pair} {r : List Pair} (h : d_impl_copyPairs a0_ = some r) : Good Tryd.prog 39 [D.sl ((a0_).map Pair.c)] (D.fr 71 2 ((r).map Pair.c)) := by
  refine gd Tryd.func39 [[some (71, 2)]] 5 fun hr Γ hΓ => ?_
  rw [d_impl_copyPairs] at h
  obtain ⟨h1, h⟩ := den_ok h
  cases h; exact (((pre0.w (room_ok h1)).w (show (∀ r ∈ ((a0_).map Pair.c), r.length = 2) ∧ (true = true → D.flatRows ((a0_).map Pair.c) = true) from ⟨by simp, by simp [D.flatRows, D.flat]⟩)).a [.pro 2, .fl true]).rts hΓ (D.fr 71 2 ((([] : List (List D))) ++ ((a0_).map Pair.c))) (by first | rfl | (simp only [mA] <;> rfl))
def d_impl_ValueOf_L1 (a0_ : List Pair) (a1_ : Bytes) (k1 : Option (Bytes × Bool)) : List Pair → Nat → Option (Bytes × Bool)
  | [], i1 => (k1 )
  | x1_ :: xs1, i1 => (bif (x1_.var : Bytes) == (a1_) then (some ((x1_.value, true))) else (d_impl_ValueOf_L1 a0_ a1_ k1 xs1 (i1 + 1) ))
def d_impl_ValueOf (a0_ : List Pair) (a1_ : Bytes) : Option (Bytes × Bool) := ((d_impl_IsAtom (a1_)).bind fun y1 => (bif y1 then (some ((a1_, true))) else ((d_impl_IsVar (a1_)).bind fun y4 => (bif !(y4) then (some (([], false))) else (d_impl_ValueOf_L1 a0_ a1_ (some (([], false))) (a0_) 0 )))))
def d_impl_ValueOf_S1 (a0_ : List Pair) (a1_ : Bytes) (ix_ : Int) : St := ⟨[(1, D.str (a1_)), (14, D.sl ((a0_).map Pair.c)), (15, D.int .i64 ((((a0_).map Pair.c).length : Int))), (16, D.int .i64 (ix_))], []⟩
theorem d_impl_ValueOf_L1w (hΓ : Γ.nt = 27) {a0_ : List Pair} {a1_ : Bytes} {r : Bytes × Bool} {k1 : Option (Bytes × Bool)} (hE1 : k1 = some r → Ax Γ N Tryd.f60 (.q [[none], [none]] (D.tup [D.str (r.1), D.bool (r.2)])) [1, 1, 1, 1] ⟨[], []⟩) (hm1 : (a0_).length ≤ maxLen) : ∀ (rest : List Pair) (i1 : Nat) , (a0_).drop i1 = rest → d_impl_ValueOf_L1 a0_ a1_ k1 rest i1  = some r → Ar Γ N Tryd.f60 (.q [[none], [none]] (D.tup [D.str (r.1), D.bool (r.2)])) [1, 1, 1, 0, 1, 0] (rest.length + 1) (d_impl_ValueOf_S1 a0_ a1_ ((i1 : Int))) := by
  intro rest
  induction rest with
  | nil =>
    intro i1  hd1 h
    rw [d_impl_ValueOf_L1] at h
    refine AWr_succ fun N1 hN1 hS1 => ?_
    exact ((pre0.ge Pair.c hd1).a [.hl 0 [] []]).ex hΓ hN1 (hE1 h)
  | cons x1_ xs1 ih1 =>
    intro i1  hd1 h
    rw [d_impl_ValueOf_L1] at h
    refine AWr_succ fun N1 hN1 hS1 => ?_
    have o2_ := ((pre0.lt Pair.c hd1).l (map_row Pair.c 2 (dc hd1) rfl))
    obtain ⟨h19, h⟩ | ⟨h19, h⟩ := den_if h
    · cases h; exact (o2_.b h19).ret hΓ
    · exact ((o2_.b h19).a [.cn [1, 14, 15, 16] []]).ct hΓ hS1 (iS hd1 hm1) (ih1 (i1 + 1)  (dn hd1) h)
theorem d_impl_ValueOf_good {a0_ : List Pair} {a1_ : Bytes} {r : Bytes × Bool} (h : d_impl_ValueOf a0_ a1_ = some r) : Good Tryd.prog 60 [D.sl ((a0_).map Pair.c), D.str (a1_)] (D.tup [D.str (r.1), D.bool (r.2)]) := by
  refine gd Tryd.func60 [[none], [none]] 27 fun hr Γ hΓ => ?_
  rw [d_impl_ValueOf] at h
  obtain ⟨y1, h2, h⟩ := den_bind h
  obtain ⟨h3, h⟩ | ⟨h3, h⟩ := den_if h
  · cases h; exact ((pre0.g (d_impl_IsAtom_good h2)).b h3).ret hΓ
  · obtain ⟨y4, h5, h⟩ := den_bind h
    have o3_ := (((pre0.g (d_impl_IsAtom_good h2)).b h3).g (d_impl_IsVar_good h5))
    obtain ⟨h6, h⟩ | ⟨h6, h⟩ := den_if h
    · cases h; exact (o3_.b h6).ret hΓ
    · refine ((o3_.b h6).a [.cn [1, 14, 15, 16] []]).lp hΓ (d_impl_ValueOf_L1w hΓ (fun h => ?_) (by have := (Rdb.sl (hr _ (List.mem_of_getElem? (i := 0) rfl))).1; simpa using this) (a0_) 0  rfl h)
      cases h; exact pre0.ret hΓ
def d_impl_Extend_L1 (a0_ : List Pair) (a1_ : Bytes) (a2_ : Bytes) (k1 : Bool → List Pair → Option ((List Pair) × Bool)) : List Pair → Nat → Bool → List Pair → Option ((List Pair) × Bool)
  | [], i1, v1_11, w1_0 => (k1 (v1_11) (w1_0))
  | x1_ :: xs1, i1, v1_11, w1_0 => (bif !(v1_11) then (bif !(Op.bytesLess (x1_.var) (a1_) || (x1_.var : Bytes) == (a1_)) then (bif room (((w1_0).map Pair.c).length + ([[D.str (a1_), D.str (a2_)]]).length) 32 then (bif room ((((w1_0).map Pair.c) ++ ([[D.str (a1_), D.str (a2_)]])).length + ([[D.str (x1_.var), D.str (x1_.value)]]).length) 32 then (d_impl_Extend_L1 a0_ a1_ a2_ k1 xs1 (i1 + 1) (true) (((w1_0) ++ ([(⟨a1_, a2_⟩ : Pair)])) ++ ([x1_]))) else none) else none) else (bif room (((w1_0).map Pair.c).length + ([[D.str (x1_.var), D.str (x1_.value)]]).length) 32 then (d_impl_Extend_L1 a0_ a1_ a2_ k1 xs1 (i1 + 1) (v1_11) ((w1_0) ++ ([x1_]))) else none)) else (bif room (((w1_0).map Pair.c).length + ([[D.str (x1_.var), D.str (x1_.value)]]).length) 32 then (d_impl_Extend_L1 a0_ a1_ a2_ k1 xs1 (i1 + 1) (v1_11) ((w1_0) ++ ([x1_]))) else none))
def d_impl_Extend (a0_ : List Pair) (a1_ : Bytes) (a2_ : Bytes) : Option ((List Pair) × Bool) := ((d_impl_IsBinding (a0_)).bind fun y1 => (bif !(y1) then (some (([], false))) else ((d_impl_IsVar (a1_)).bind fun y4 => (bif !(y4) then (some (([], false))) else ((d_impl_IsAtom (a2_)).bind fun y7 => (bif !(y7) then (some (([], false))) else ((d_impl_ValueOf (a0_) (a1_)).bind fun y10 => (bif y10.2 then (bif !((y10.1 : Bytes) == (a2_)) then (some (([], false))) else ((d_impl_copyPairs (a0_)).bind fun y14 => (some ((y14, true))))) else (bif decide (((((a0_).map Pair.c).length : Int) : Int) ≥ (6)) then (some (([], false))) else (d_impl_Extend_L1 a0_ a1_ a2_ (fun (z1_11 : Bool) (q1_0 : List Pair) => (bif !(z1_11) then (bif room (((q1_0).map Pair.c).length + ([[D.str (a1_), D.str (a2_)]]).length) 32 then (some (((q1_0) ++ ([(⟨a1_, a2_⟩ : Pair)]), true))) else none) else (some ((q1_0, true))))) (a0_) 0 (false) (([] : List Pair))))))))))))
def d_impl_Extend_S1 (a0_ : List Pair) (a1_ : Bytes) (a2_ : Bytes) (v1_11 : Bool) (W1 : List (List D)) (ix_ : Int) : St := ⟨[(1, D.str (a1_)), (2, D.str (a2_)), (10, D.acc 0), (11, D.bool (v1_11)), (42, D.sl ((a0_).map Pair.c)), (43, D.int .i64 ((((a0_).map Pair.c).length : Int))), (44, D.int .i64 (ix_))], [Ob.row .uq 71 2 (W1)]⟩
theorem d_impl_Extend_L1w (hΓ : Γ.nt = 76) {a0_ : List Pair} {a1_ : Bytes} {a2_ : Bytes} {r : (List Pair) × Bool} {k1 : Bool → List Pair → Option ((List Pair) × Bool)} (hE1 : ∀ (z1_11 : Bool) (q1_0 : List Pair), k1 z1_11 q1_0 = some r → Ax Γ N Tryd.f40 (.q [[some (71, 2)], [none]] (D.tup [D.fr 71 2 ((r.1).map Pair.c), D.bool (r.2)])) [1, 1, 1, 1, 1, 1, 1] ⟨[(1, D.str (a1_)), (2, D.str (a2_)), (10, D.acc 0), (11, D.bool (z1_11))], [Ob.row .uq 71 2 ((q1_0).map Pair.c)]⟩) (hm1 : (a0_).length ≤ maxLen) : ∀ (rest : List Pair) (i1 : Nat) (v1_11 : Bool) (w1_0 : List Pair), (a0_).drop i1 = rest → d_impl_Extend_L1 a0_ a1_ a2_ k1 rest i1 v1_11 w1_0 = some r → Ar Γ N Tryd.f40 (.q [[some (71, 2)], [none]] (D.tup [D.fr 71 2 ((r.1).map Pair.c), D.bool (r.2)])) [1, 1, 1, 1, 1, 1, 0, 1, 0] (rest.length + 1) (d_impl_Extend_S1 a0_ a1_ a2_ v1_11 ((w1_0).map Pair.c) ((i1 : Int))) := by
  intro rest
  induction rest with
  | nil =>
    intro i1 v1_11 w1_0 hd1 h
    rw [d_impl_Extend_L1] at h
    refine AWr_succ fun N1 hN1 hS1 => ?_
    exact ((pre0.ge Pair.c hd1).a [.hl 0 [1, 2, 10, 11] [0]]).ex hΓ hN1 (hE1 (v1_11) (w1_0) h)
  | cons x1_ xs1 ih1 =>
    intro i1 v1_11 w1_0 hd1 h
    rw [d_impl_Extend_L1] at h
    refine AWr_succ fun N1 hN1 hS1 => ?_
    have o3_ := ((pre0.lt Pair.c hd1).l (map_row Pair.c 2 (dc hd1) rfl))
    obtain ⟨h58, h⟩ | ⟨h58, h⟩ := den_if h
    · have o4_ := (o3_.r 5 h58)
      obtain ⟨h59, h⟩ | ⟨h59, h⟩ := den_if h
      · obtain ⟨h60, h⟩ := den_ok h
        obtain ⟨h61, h⟩ := den_ok h
        exact ((((o4_.b h59).w (room_ok h60)).w (room_ok h61)).a [.cn [1, 2, 10, 11, 42, 43, 44] [5]]).cs hΓ hS1 (d_impl_Extend_S1 a0_ a1_ a2_ true ((((w1_0).map Pair.c) ++ ([[D.str (a1_), D.str (a2_)]])) ++ ([[D.str (x1_.var), D.str (x1_.value)]])) (IntKind.i64.wrap (((i1 : Int)) + (1)))) (by first | (simp only [iS hd1 hm1, mA] <;> rfl) | (simp only [iS hd1 hm1, mA, Fact.c, Pair.c, Cond.c, Action.c, Rule.c, Token.c, Match.c, Alpha.c, Node.c, Network.c, Stamp.c] <;> rfl)) (ih1 (i1 + 1) (true) (((w1_0) ++ ([(⟨a1_, a2_⟩ : Pair)])) ++ ([x1_])) (dn hd1) h)
      · obtain ⟨h62, h⟩ := den_ok h
        exact (((o4_.b h59).w (room_ok h62)).a [.cn [1, 2, 10, 11, 42, 43, 44] [3]]).cs hΓ hS1 (d_impl_Extend_S1 a0_ a1_ a2_ v1_11 (((w1_0).map Pair.c) ++ ([[D.str (x1_.var), D.str (x1_.value)]])) (IntKind.i64.wrap (((i1 : Int)) + (1)))) (by first | (simp only [iS hd1 hm1, mA] <;> rfl) | (simp only [iS hd1 hm1, mA, Fact.c, Pair.c, Cond.c, Action.c, Rule.c, Token.c, Match.c, Alpha.c, Node.c, Network.c, Stamp.c] <;> rfl)) (ih1 (i1 + 1) (v1_11) ((w1_0) ++ ([x1_])) (dn hd1) h)
    · obtain ⟨h63, h⟩ := den_ok h
      exact ((((o3_.r 5 h58).F 1).w (room_ok h63)).a [.cn [1, 2, 10, 11, 42, 43, 44] [3]]).cs hΓ hS1 (d_impl_Extend_S1 a0_ a1_ a2_ v1_11 (((w1_0).map Pair.c) ++ ([[D.str (x1_.var), D.str (x1_.value)]])) (IntKind.i64.wrap (((i1 : Int)) + (1)))) (by first | (simp only [iS hd1 hm1, mA] <;> rfl) | (simp only [iS hd1 hm1, mA, Fact.c, Pair.c, Cond.c, Action.c, Rule.c, Token.c, Match.c, Alpha.c, Node.c, Network.c, Stamp.c] <;> rfl)) (ih1 (i1 + 1) (v1_11) ((w1_0) ++ ([x1_])) (dn hd1) h)
theorem d_impl_Extend_good {a0_ : List Pair} {a1_ : Bytes} {a2_ : Bytes} {r : (List Pair) × Bool} (h : d_impl_Extend a0_ a1_ a2_ = some r) : Good Tryd.prog 40 [D.sl ((a0_).map Pair.c), D.str (a1_), D.str (a2_)] (D.tup [D.fr 71 2 ((r.1).map Pair.c), D.bool (r.2)]) := by
  refine gd Tryd.func40 [[some (71, 2)], [none]] 76 fun hr Γ hΓ => ?_
  rw [d_impl_Extend] at h
  obtain ⟨y1, h2, h⟩ := den_bind h
  obtain ⟨h3, h⟩ | ⟨h3, h⟩ := den_if h
  · cases h; exact (((pre0.g (d_impl_IsBinding_good h2)).r 4 h3).T 5).ret hΓ
  · obtain ⟨y4, h5, h⟩ := den_bind h
    have o5_ := ((((pre0.g (d_impl_IsBinding_good h2)).r 2 h3).g (d_impl_IsVar_good h5)).r 2 h3)
    obtain ⟨h6, h⟩ | ⟨h6, h⟩ := den_if h
    · cases h; exact ((o5_.r 4 h6).T 1).ret hΓ
    · obtain ⟨y7, h8, h⟩ := den_bind h
      have o6_ := (((o5_.r 2 h6).g (d_impl_IsAtom_good h8)).r 2 h6)
      obtain ⟨h9, h⟩ | ⟨h9, h⟩ := den_if h
      · cases h; exact (o6_.b h9).ret hΓ
      · obtain ⟨y10, h11, h⟩ := den_bind h
        have o7_ := ((o6_.b h9).g (d_impl_ValueOf_good h11))
        obtain ⟨h12, h⟩ | ⟨h12, h⟩ := den_if h
        · obtain ⟨h13, h⟩ | ⟨h13, h⟩ := den_if h
          · cases h; exact ((o7_.b h12).b h13).ret hΓ
          · obtain ⟨y14, h15, h⟩ := den_bind h
            cases h; exact (((o7_.b h12).b h13).g (d_impl_copyPairs_good h15)).ret hΓ
        · obtain ⟨h16, h⟩ | ⟨h16, h⟩ := den_if h
          · cases h; exact ((o7_.b h12).b h16).ret hΓ
          · refine (((o7_.b h12).b h16).a [.pro 10, .cn [1, 2, 10, 11, 42, 43, 44] [0]]).lp hΓ (d_impl_Extend_L1w hΓ (fun z1_11 q1_0 h => ?_) (by have := (Rdb.sl (hr _ (List.mem_of_getElem? (i := 0) rfl))).1; simpa using this) (a0_) 0 (false) (([] : List Pair)) rfl h)
            obtain ⟨h64, h⟩ | ⟨h64, h⟩ := den_if h
            · obtain ⟨h65, h⟩ := den_ok h
              cases h; exact ((pre0.b h64).w (room_ok h65)).rts hΓ (D.tup [D.fr 71 2 (((q1_0).map Pair.c) ++ ([[D.str (a1_), D.str (a2_)]])), D.bool (true)]) (by first | rfl | (simp only [mA] <;> rfl))
            · cases h; exact (pre0.b h64).ret hΓ
def d_impl_MatchFact_L1 (a0_ : Fact) (a1_ : Fact) (k1 : List Pair → Option ((List Pair) × Bool)) : List Bytes → Nat → List Pair → Option ((List Pair) × Bool)
  | [], i1, w1_1 => (k1 (w1_1))
  | x1_ :: xs1, i1, w1_1 => ((d_impl_IsAtom (x1_)).bind fun y80 => (bif y80 then ((atI (a1_.args) ((i1 : Int))).bind fun x83 => (bif !((x1_ : Bytes) == (x83)) then (some (([], false))) else (d_impl_MatchFact_L1 a0_ a1_ k1 xs1 (i1 + 1) (w1_1)))) else ((atI (a1_.args) ((i1 : Int))).bind fun x86 => ((d_impl_Extend (w1_1) (x1_) (x86)).bind fun y88 => (bif !(y88.2) then (some (([], false))) else (d_impl_MatchFact_L1 a0_ a1_ k1 xs1 (i1 + 1) (y88.1)))))))
def d_impl_MatchFact (a0_ : Fact) (a1_ : Fact) (a2_ : List Pair) : Option ((List Pair) × Bool) := ((d_impl_IsPattern (a0_)).bind fun y1 => (bif !(y1) then (some (([], false))) else ((d_impl_IsFact (a1_)).bind fun y4 => (bif !(y4) then (some (([], false))) else ((d_impl_IsBinding (a2_)).bind fun y7 => (bif !(y7) then (some (([], false))) else (bif !((a0_.rel : Bytes) == (a1_.rel)) then (some (([], false))) else (bif ((((a0_.args).map tx).length : Int) : Int) != ((((a1_.args).map tx).length : Int)) then (some (([], false))) else ((d_impl_copyPairs (a2_)).bind fun y12 => (d_impl_MatchFact_L1 a0_ a1_ (fun (q1_0 : List Pair) => (some ((q1_0, true)))) (a0_.args) 0 (y12)))))))))))
def d_impl_MatchFact_S1 (a0_ : Fact) (a1_ : Fact) (W0 : List (List D)) (ix_ : Int) : St := ⟨[(4, D.ptr 0 0), (8, D.acc 1), (45, D.sl ((a0_.args).map tx)), (46, D.int .i64 ((((a0_.args).map tx).length : Int))), (47, D.int .i64 (ix_))], [Ob.box (Fact.c a1_), Ob.row .uq 71 2 (W0)]⟩
theorem d_impl_MatchFact_L1w (hΓ : Γ.nt = 77) {a0_ : Fact} {a1_ : Fact} {r : (List Pair) × Bool} {k1 : List Pair → Option ((List Pair) × Bool)} (hE1 : ∀ (q1_0 : List Pair), k1 q1_0 = some r → Ax Γ N Tryd.f16 (.q [[some (71, 2)], [none]] (D.tup [D.fr 71 2 ((r.1).map Pair.c), D.bool (r.2)])) [1, 1, 1, 1] ⟨[(8, D.acc 0)], [Ob.row .uq 71 2 ((q1_0).map Pair.c)]⟩) (hm1 : (a0_.args).length ≤ maxLen) : ∀ (rest : List Bytes) (i1 : Nat) (w1_1 : List Pair), (a0_.args).drop i1 = rest → d_impl_MatchFact_L1 a0_ a1_ k1 rest i1 w1_1 = some r → Ar Γ N Tryd.f16 (.q [[some (71, 2)], [none]] (D.tup [D.fr 71 2 ((r.1).map Pair.c), D.bool (r.2)])) [1, 1, 1, 0, 1, 0] (rest.length + 1) (d_impl_MatchFact_S1 a0_ a1_ ((w1_1).map Pair.c) ((i1 : Int))) := by
  intro rest
  induction rest with
  | nil =>
    intro i1 w1_1 hd1 h
    rw [d_impl_MatchFact_L1] at h
    refine AWr_succ fun N1 hN1 hS1 => ?_
    exact ((pre0.ge tx hd1).a [.hl 0 [8] [1]]).ex hΓ hN1 (hE1 (w1_1) h)
  | cons x1_ xs1 ih1 =>
    intro i1 w1_1 hd1 h
    rw [d_impl_MatchFact_L1] at h
    refine AWr_succ fun N1 hN1 hS1 => ?_
    obtain ⟨y80, h81, h⟩ := den_bind h
    have o4_ := (((pre0.lt tx hd1).l (map_row tx 1 (dc hd1) rfl)).g (d_impl_IsAtom_good h81))
    obtain ⟨h82, h⟩ | ⟨h82, h⟩ := den_if h
    · obtain ⟨x83, h84, h⟩ := den_bind h
      have o5_ := ((o4_.b h82).l (at_row tx 1 h84 rfl))
      obtain ⟨h85, h⟩ | ⟨h85, h⟩ := den_if h
      · cases h; exact (o5_.b h85).ret hΓ
      · exact ((o5_.b h85).a [.cn [4, 8, 45, 46, 47] [0, 1]]).ct hΓ hS1 (iS hd1 hm1) (ih1 (i1 + 1) (w1_1) (dn hd1) h)
    · obtain ⟨x86, h87, h⟩ := den_bind h
      obtain ⟨y88, h89, h⟩ := den_bind h
      have o6_ := (((o4_.b h82).l (at_row tx 1 h87 rfl)).g (d_impl_Extend_good h89))
      obtain ⟨h90, h⟩ | ⟨h90, h⟩ := den_if h
      · cases h; exact (o6_.b h90).ret hΓ
      · exact ((o6_.b h90).a [.cn [4, 8, 45, 46, 47] [0, 2]]).ct hΓ hS1 (iS hd1 hm1) (ih1 (i1 + 1) (y88.1) (dn hd1) h)
theorem d_impl_MatchFact_good {a0_ : Fact} {a1_ : Fact} {a2_ : List Pair} {r : (List Pair) × Bool} (h : d_impl_MatchFact a0_ a1_ a2_ = some r) : Good Tryd.prog 16 [D.agg (Fact.c a0_), D.agg (Fact.c a1_), D.sl ((a2_).map Pair.c)] (D.tup [D.fr 71 2 ((r.1).map Pair.c), D.bool (r.2)]) := by
  refine gd Tryd.func16 [[some (71, 2)], [none]] 77 fun hr Γ hΓ => ?_
  rw [d_impl_MatchFact] at h
  obtain ⟨y1, h2, h⟩ := den_bind h
  obtain ⟨h3, h⟩ | ⟨h3, h⟩ := den_if h
  · cases h; exact (((pre0.g (d_impl_IsPattern_good h2)).r 4 h3).T 19).ret hΓ
  · obtain ⟨y4, h5, h⟩ := den_bind h
    have o7_ := ((((pre0.g (d_impl_IsPattern_good h2)).r 2 h3).g (d_impl_IsFact_good h5)).r 2 h3)
    obtain ⟨h6, h⟩ | ⟨h6, h⟩ := den_if h
    · cases h; exact ((o7_.r 4 h6).T 15).ret hΓ
    · obtain ⟨y7, h8, h⟩ := den_bind h
      have o8_ := (((o7_.r 2 h6).g (d_impl_IsBinding_good h8)).r 2 h6)
      obtain ⟨h9, h⟩ | ⟨h9, h⟩ := den_if h
      · cases h; exact ((o8_.r 6 h9).T 9).ret hΓ
      · have o9_ := (o8_.r 6 h9)
        obtain ⟨h10, h⟩ | ⟨h10, h⟩ := den_if h
        · cases h; exact ((o9_.r 8 h10).T 1).ret hΓ
        · have o10_ := (o9_.r 8 h10)
          obtain ⟨h11, h⟩ | ⟨h11, h⟩ := den_if h
          · cases h; exact (o10_.b h11).ret hΓ
          · obtain ⟨y12, h13, h⟩ := den_bind h
            refine (((o10_.b h11).g (d_impl_copyPairs_good h13)).a [.cn [4, 8, 45, 46, 47] [1, 2]]).lp hΓ (d_impl_MatchFact_L1w hΓ (fun q1_0 h => ?_) (by have := (Rdb.sl (Rdb.agg (hr _ (List.mem_of_getElem? (i := 0) rfl)) (.sl ((a0_.args).map tx)) (by simp))).1; simpa using this) (a0_.args) 0 (y12) rfl h)
            cases h; exact pre0.ret hΓ
def d_spec_l1SameTexts_L1 (a0_ : List Bytes) (a1_ : List Bytes) (k1 : Option Bool) : List Bytes → Nat → Option Bool
  | [], i1 => (k1 )
  | x1_ :: xs1, i1 => ((atI (a1_) ((i1 : Int))).bind fun x22 => (bif !((x1_ : Bytes) == (x22)) then (some (false)) else (d_spec_l1SameTexts_L1 a0_ a1_ k1 xs1 (i1 + 1) )))
def d_spec_l1SameTexts (a0_ : List Bytes) (a1_ : List Bytes) : Option Bool := (bif ((((a0_).map tx).length : Int) : Int) != ((((a1_).map tx).length : Int)) then (some (false)) else (d_spec_l1SameTexts_L1 a0_ a1_ (some (true)) (a0_) 0 ))
def d_spec_l1SameTexts_S1 (a0_ : List Bytes) (a1_ : List Bytes) (ix_ : Int) : St := ⟨[(0, D.sl ((a0_).map tx)), (1, D.sl ((a1_).map tx)), (5, D.int .i64 (ix_))], []⟩
theorem d_spec_l1SameTexts_L1w (hΓ : Γ.nt = 26) {a0_ : List Bytes} {a1_ : List Bytes} {r : Bool} {k1 : Option Bool} (hE1 : k1 = some r → Ax Γ N Tryd.f41 (.q [[none]] (D.bool (r))) [1, 1, 1] ⟨[], []⟩) (hm1 : (a0_).length ≤ maxLen) : ∀ (rest : List Bytes) (i1 : Nat) , (a0_).drop i1 = rest → d_spec_l1SameTexts_L1 a0_ a1_ k1 rest i1  = some r → Ar Γ N Tryd.f41 (.q [[none]] (D.bool (r))) [1, 1, 0, 1, 0] (rest.length + 1) (d_spec_l1SameTexts_S1 a0_ a1_ ((i1 : Int))) := by
  intro rest
  induction rest with
  | nil =>
    intro i1  hd1 h
    rw [d_spec_l1SameTexts_L1] at h
    refine AWr_succ fun N1 hN1 hS1 => ?_
    exact ((pre0.ge tx hd1).a [.hl 0 [] []]).ex hΓ hN1 (hE1 h)
  | cons x1_ xs1 ih1 =>
    intro i1  hd1 h
    rw [d_spec_l1SameTexts_L1] at h
    refine AWr_succ fun N1 hN1 hS1 => ?_
    obtain ⟨x22, h23, h⟩ := den_bind h
    have o2_ := ((((pre0.lt tx hd1).a [.n 8]).l (map_row tx 1 (dc hd1) rfl)).l (at_row tx 1 h23 rfl))
    obtain ⟨h24, h⟩ | ⟨h24, h⟩ := den_if h
    · have h := den_some h; subst h; exact (o2_.b h24).ret hΓ
    · exact ((o2_.b h24).a [.cn [0, 1, 5] []]).ct hΓ hS1 (iS hd1 hm1) (ih1 (i1 + 1)  (dn hd1) h)
theorem d_spec_l1SameTexts_good {a0_ : List Bytes} {a1_ : List Bytes} {r : Bool} (h : d_spec_l1SameTexts a0_ a1_ = some r) : Good Tryd.prog 41 [D.sl ((a0_).map tx), D.sl ((a1_).map tx)] (D.bool (r)) := by
  refine gd Tryd.func41 [[none]] 26 fun hr Γ hΓ => ?_
  rw [d_spec_l1SameTexts] at h
  obtain ⟨h1, h⟩ | ⟨h1, h⟩ := den_if h
  · have h := den_some h; subst h; exact (pre0.b h1).ret hΓ
  · refine ((pre0.b h1).a [.cn [0, 1, 5] []]).lp hΓ (d_spec_l1SameTexts_L1w hΓ (fun h => ?_) (by have := (Rdb.sl (hr _ (List.mem_of_getElem? (i := 0) rfl))).1; simpa using this) (a0_) 0  rfl h)
    have h := den_some h; subst h; exact pre0.ret hΓ
def d_spec_SamePattern (a0_ : Fact) (a1_ : Fact) : Option Bool := (bif (a0_.rel : Bytes) == (a1_.rel) then ((d_spec_l1SameTexts (a0_.args) (a1_.args)).bind fun y2 => (some (y2))) else (some (false)))
theorem d_spec_SamePattern_good {a0_ : Fact} {a1_ : Fact} {r : Bool} (h : d_spec_SamePattern a0_ a1_ = some r) : Good Tryd.prog 17 [D.agg (Fact.c a0_), D.agg (Fact.c a1_)] (D.bool (r)) := by
  refine gd Tryd.func17 [[none]] 17 fun hr Γ hΓ => ?_
  rw [d_spec_SamePattern] at h
  obtain ⟨h1, h⟩ | ⟨h1, h⟩ := den_if h
  · obtain ⟨y2, h3, h⟩ := den_bind h
    have h := den_some h; subst h; exact (((pre0.r 5 h1).g (d_spec_l1SameTexts_good h3)).b h1).ret hΓ
  · have h := den_some h; subst h; exact (pre0.r 6 h1).ret hΓ
end Go.Cx
