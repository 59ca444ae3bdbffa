/- What functions of the program compute, and the walks that show it. No condition. -/
import Derived.Test.YtdckcgjimblpkaaDoorNLay
namespace Go.Cx
open Go.RowKit Go.Proofs
set_option linter.unusedVariables false
set_option linter.unusedSimpArgs false
set_option maxRecDepth 100000
variable {Γ : Ctx} {N : Nat → St → Prop}
def d_spec_l1New_L1 (a0_ : List Int) (k1 : Int → Option Cur) : List Int → Nat → Int → Option Cur
  | [], i1, v1_3 => (k1 (v1_3))
  | x1_ :: xs1, i1, v1_3 => (bif decide (((i1 : Int) : Int) < (4000)) then (d_spec_l1New_L1 a0_ k1 xs1 (i1 + 1) (bandI .i64 (IntKind.i64.wrap ((IntKind.i64.wrap ((IntKind.i64.wrap ((v1_3) * (167))) + (IntKind.i64.wrap (x1_)))) + (29))) (1073741823))) else (k1 (v1_3)))
def d_spec_l1New (a0_ : List Int) : Option Cur := (bif decide ((a0_).length ≤ maxLen) then (d_spec_l1New_L1 a0_ (fun (z1_3 : Int) => (some ((⟨a0_, 0, z1_3⟩ : Cur)))) (a0_) 0 (IntKind.i64.wrap ((851207) + (IntKind.i64.wrap ((3) * ((((a0_).map yx).length : Int))))))) else none)
def d_spec_l1New_S1 (a0_ : List Int) (v1_3 : Int) (ix_ : Int) : St := ⟨[(0, D.sl ((a0_).map yx)), (3, D.int .i64 (v1_3)), (4, D.int .i64 (ix_))], []⟩
theorem d_spec_l1New_L1w (hΓ : Γ.nt = 33) {a0_ : List Int} {r : Cur} {k1 : Int → Option Cur} (hE1 : ∀ (z1_3 : Int), k1 z1_3 = some r → Ax Γ N Tryd.f19 (.n (Cur.c r)) [1, 1, 1] ⟨[(0, D.sl ((a0_).map yx)), (3, D.int .i64 (z1_3))], []⟩) (hm1 : (a0_).length ≤ maxLen) : ∀ (rest : List Int) (i1 : Nat) (v1_3 : Int), (a0_).drop i1 = rest → d_spec_l1New_L1 a0_ k1 rest i1 v1_3 = some r → Ar Γ N Tryd.f19 (.n (Cur.c r)) [1, 1, 0, 1, 0] (rest.length + 1) (d_spec_l1New_S1 a0_ v1_3 ((i1 : Int))) := by
  intro rest
  induction rest with
  | nil =>
    intro i1 v1_3 hd1 h
    rw [d_spec_l1New_L1] at h
    refine AWr_succ fun N1 hN1 hS1 => ?_
    exact (((((pre0.ge yx hd1).ge yx hd1).ge yx hd1).F 1).a [.hl 0 [0, 3] []]).ex hΓ hN1 (hE1 (v1_3) h)
  | cons x1_ xs1 ih1 =>
    intro i1 v1_3 hd1 h
    rw [d_spec_l1New_L1] at h
    refine AWr_succ fun N1 hN1 hS1 => ?_
    have o1_ := (((pre0.lt yx hd1).lt yx hd1).lt yx hd1)
    obtain ⟨h13, h⟩ | ⟨h13, h⟩ := den_if h
    · exact (((o1_.b h13).l (map_row yx 1 (dc hd1) rfl)).a [.cn [0, 3, 4] []]).ct hΓ hS1 (iS hd1 hm1) (ih1 (i1 + 1) (bandI .i64 (IntKind.i64.wrap ((IntKind.i64.wrap ((IntKind.i64.wrap ((v1_3) * (167))) + (IntKind.i64.wrap (x1_)))) + (29))) (1073741823)) (dn hd1) h)
    · exact ((o1_.b h13).a [.hl 0 [0, 3] []]).ex hΓ hN1 (hE1 (v1_3) h)
theorem d_spec_l1New_good {a0_ : List Int} {r : Cur} (h : d_spec_l1New a0_ = some r) : GoodN Tryd.prog 19 [D.sl ((a0_).map yx)] (Cur.c r) := by
  refine gdN Tryd.func19 33 fun hr Γ hΓ => ?_
  rw [d_spec_l1New] at h
  obtain ⟨h14, h⟩ := den_ok h
  refine (pre0.a [.cn [0, 3, 4] []]).lp hΓ (d_spec_l1New_L1w hΓ (fun z1_3 h => ?_) (of_decide_eq_true h14) (a0_) 0 (IntKind.i64.wrap ((851207) + (IntKind.i64.wrap ((3) * ((((a0_).map yx).length : Int)))))) rfl h)
  cases h; exact pre0.ret hΓ
def d_spec_l1Byte (a0_ : Cur) : Option (Cur × Int) := (bif decide ((a0_.i : Int) < ((((a0_.b).map yx).length : Int))) then ((atI (a0_.b) (a0_.i)).bind fun x2 => (some (((⟨a0_.b, IntKind.i64.wrap ((a0_.i) + (1)), IntKind.i64.wrap ((IntKind.i64.wrap ((a0_.h) * (6364136223846793005))) + (1442695040888963407))⟩ : Cur), bandI .i64 (IntKind.i64.wrap ((bandI .i64 (bxorI .i64 (shrI .i64 (IntKind.i64.wrap ((IntKind.i64.wrap ((a0_.h) * (6364136223846793005))) + (1442695040888963407))) (35)) (shrI .i64 (IntKind.i64.wrap ((IntKind.i64.wrap ((a0_.h) * (6364136223846793005))) + (1442695040888963407))) (45))) (255)) + (IntKind.i64.wrap (x2)))) (255))))) else (some (((⟨a0_.b, a0_.i, IntKind.i64.wrap ((IntKind.i64.wrap ((a0_.h) * (6364136223846793005))) + (1442695040888963407))⟩ : Cur), bandI .i64 (bxorI .i64 (shrI .i64 (IntKind.i64.wrap ((IntKind.i64.wrap ((a0_.h) * (6364136223846793005))) + (1442695040888963407))) (35)) (shrI .i64 (IntKind.i64.wrap ((IntKind.i64.wrap ((a0_.h) * (6364136223846793005))) + (1442695040888963407))) (45))) (255)))))
theorem d_spec_l1Byte_good {a0_ : Cur} {r : Cur × Int} (h : d_spec_l1Byte a0_ = some r) : GoodP Tryd.prog 63 (Cur.c a0_) (Cur.c r.1) [] (D.int .i64 (r.2)) := by
  refine gdP Tryd.func63 [[none, none, none], [none]] 58 [D.sl ((a0_.b).map yx), D.int .i64 (a0_.i), D.int .i64 (a0_.h)] [] [] fun hr v0_ Γ hΓ => ?_
  rw [d_spec_l1Byte] at h
  obtain ⟨h1, h⟩ | ⟨h1, h⟩ := den_if h
  · obtain ⟨x2, h3, h⟩ := den_bind h
    cases h; exact ((((pre0.a [.n 10, .n 9]).b h1).a [.n 12]).l (at_row yx 1 h3 rfl)).ret hΓ
  · cases h; exact ((pre0.a [.n 10, .n 9]).b h1).ret hΓ
def d_spec_l1Below (a0_ : Cur) (a1_ : Int) : Option (Cur × Int) := (bif decide ((a1_ : Int) ≤ (0)) then (some ((a0_, 0))) else (bif decide ((a1_ : Int) ≤ (256)) then ((d_spec_l1Byte (a0_)).bind fun y3 => (bif decide (0 ≤ (y3.2 : Int)) && decide (0 < (a1_ : Int)) then (some ((y3.1, (y3.2 : Int) % (a1_)))) else none)) else ((d_spec_l1Byte (a0_)).bind fun y6 => ((d_spec_l1Byte (y6.1)).bind fun y8 => ((d_spec_l1Byte (y8.1)).bind fun y10 => (bif decide (0 ≤ (IntKind.i64.wrap ((IntKind.i64.wrap ((IntKind.i64.wrap ((y6.2) * (65536))) + (IntKind.i64.wrap ((y8.2) * (256))))) + (y10.2)) : Int)) && decide (0 < (a1_ : Int)) then (some ((y10.1, (IntKind.i64.wrap ((IntKind.i64.wrap ((IntKind.i64.wrap ((y6.2) * (65536))) + (IntKind.i64.wrap ((y8.2) * (256))))) + (y10.2)) : Int) % (a1_)))) else none))))))
theorem d_spec_l1Below_good {a0_ : Cur} {a1_ : Int} {r : Cur × Int} (h : d_spec_l1Below a0_ a1_ = some r) : GoodP Tryd.prog 43 (Cur.c a0_) (Cur.c r.1) [D.int .i64 (a1_)] (D.int .i64 (r.2)) := by
  refine gdP Tryd.func43 [[none, none, none], [none]] 31 [D.sl ((a0_.b).map yx), D.int .i64 (a0_.i), D.int .i64 (a0_.h)] [D.int .i64 (a1_)] [] fun hr v0_ Γ hΓ => ?_
  rw [d_spec_l1Below] at h
  obtain ⟨h1, h⟩ | ⟨h1, h⟩ := den_if h
  · cases h; exact (pre0.b h1).ret hΓ
  · obtain ⟨h2, h⟩ | ⟨h2, h⟩ := den_if h
    · obtain ⟨y3, h4, h⟩ := den_bind h
      obtain ⟨h5, h⟩ := den_ok h
      cases h; exact ((((pre0.b h1).b h2).hp [[none, none, none]] (d_spec_l1Byte_good h4)).w (quo_ok .i64 h5)).ret hΓ
    · obtain ⟨y6, h7, h⟩ := den_bind h
      obtain ⟨y8, h9, h⟩ := den_bind h
      obtain ⟨y10, h11, h⟩ := den_bind h
      obtain ⟨h12, h⟩ := den_ok h
      cases h; exact ((((((pre0.b h1).b h2).hp [[none, none, none]] (d_spec_l1Byte_good h7)).hp [[none, none, none]] (d_spec_l1Byte_good h9)).hp [[none, none, none]] (d_spec_l1Byte_good h11)).w (quo_ok .i64 h12)).ret hΓ
def d_spec_l2Rel (a0_ : Cur) : Option (Cur × (Bytes × Int)) := ((d_spec_l1Below (a0_) (6)).bind fun y1 => ((atI (([[111, 110], [111, 110], [97, 116], [112], [113], [122]] : List Bytes)) (y1.2)).bind fun x3 => ((atI (([2, 2, 2, 1, 1, 0] : List Int)) (y1.2)).bind fun x5 => (some ((y1.1, (x3, x5)))))))
theorem d_spec_l2Rel_good {a0_ : Cur} {r : Cur × (Bytes × Int)} (h : d_spec_l2Rel a0_ = some r) : GoodP Tryd.prog 61 (Cur.c a0_) (Cur.c r.1) [] (D.tup [D.str (r.2.1), D.int .i64 (r.2.2)]) := by
  refine gdP Tryd.func61 [[none, none, none], [none], [none]] 15 [D.sl ((a0_.b).map yx), D.int .i64 (a0_.i), D.int .i64 (a0_.h)] [] [] fun hr v0_ Γ hΓ => ?_
  rw [d_spec_l2Rel] at h
  obtain ⟨y1, h2, h⟩ := den_bind h
  obtain ⟨x3, h4, h⟩ := den_bind h
  obtain ⟨x5, h6, h⟩ := den_bind h
  cases h; exact (((((pre0.hp [[none, none, none], [none]] (d_spec_l1Below_good h2)).a [.n 9, .vw 0]).l (at_row tx 1 h4 rfl)).a [.vw 0]).l (at_row ixx 1 h6 rfl)).ret hΓ
def d_spec_l1Once (a0_ : Cur) (a1_ : Int) : Option (Cur × Bool) := ((d_spec_l1Below (a0_) (a1_)).bind fun y1 => (some ((y1.1, (y1.2 : Int) == (0)))))
theorem d_spec_l1Once_good {a0_ : Cur} {a1_ : Int} {r : Cur × Bool} (h : d_spec_l1Once a0_ a1_ = some r) : GoodP Tryd.prog 27 (Cur.c a0_) (Cur.c r.1) [D.int .i64 (a1_)] (D.bool (r.2)) := by
  refine gdP Tryd.func27 [[none, none, none], [none]] 9 [D.sl ((a0_.b).map yx), D.int .i64 (a0_.i), D.int .i64 (a0_.h)] [D.int .i64 (a1_)] [] fun hr v0_ Γ hΓ => ?_
  rw [d_spec_l1Once] at h
  obtain ⟨y1, h2, h⟩ := den_bind h
  cases h; exact (pre0.hp [[none, none, none], [none]] (d_spec_l1Below_good h2)).ret hΓ
def d_spec_l1Str (a0_ : Cur) (a1_ : List Bytes) : Option (Cur × Bytes) := ((d_spec_l1Below (a0_) ((((a1_).map tx).length : Int))).bind fun y1 => ((atI (a1_) (y1.2)).bind fun x3 => (some ((y1.1, x3)))))
theorem d_spec_l1Str_good {a0_ : Cur} {a1_ : List Bytes} {r : Cur × Bytes} (h : d_spec_l1Str a0_ a1_ = some r) : GoodP Tryd.prog 28 (Cur.c a0_) (Cur.c r.1) [D.fr 9 1 ((a1_).map tx)] (D.str (r.2)) := by
  refine gdP Tryd.func28 [[none, none, none], [none]] 12 [D.sl ((a0_.b).map yx), D.int .i64 (a0_.i), D.int .i64 (a0_.h)] [D.acc 1] [Ob.row .uq 9 1 ((a1_).map tx)] fun hr v0_ Γ hΓ => ?_
  rw [d_spec_l1Str] at h
  obtain ⟨y1, h2, h⟩ := den_bind h
  obtain ⟨x3, h4, h⟩ := den_bind h
  cases h; exact (((pre0.hp [[none, none, none], [none]] (d_spec_l1Below_good h2)).i (own_at tx 1 h4)).o 1 1 .uq (map_get tx (atI_get h4))).ret hΓ
def d_spec_l1Atom (a0_ : Cur) : Option (Cur × Bytes) := ((d_spec_l1Str (a0_) (([[97], [98], [99], [49], [50]] : List Bytes))).bind fun y1 => (some ((y1.1, y1.2))))
theorem d_spec_l1Atom_good {a0_ : Cur} {r : Cur × Bytes} (h : d_spec_l1Atom a0_ = some r) : GoodP Tryd.prog 55 (Cur.c a0_) (Cur.c r.1) [] (D.str (r.2)) := by
  refine gdP Tryd.func55 [[none, none, none], [none]] 6 [D.sl ((a0_.b).map yx), D.int .i64 (a0_.i), D.int .i64 (a0_.h)] [] [] fun hr v0_ Γ hΓ => ?_
  rw [d_spec_l1Atom] at h
  obtain ⟨y1, h2, h⟩ := den_bind h
  cases h; exact (pre0.hp [[none, none, none], [some (9, 1)]] (d_spec_l1Str_good h2)).ret hΓ
def d_spec_l3Term (a0_ : Cur) : Option (Cur × Bytes) := ((d_spec_l1Once (a0_) (4)).bind fun y1 => (bif y1.2 then ((d_spec_l1Atom (y1.1)).bind fun y4 => (some ((y4.1, y4.2)))) else ((d_spec_l1Str (y1.1) (([[63, 120], [63, 121], [63, 122]] : List Bytes))).bind fun y6 => (some ((y6.1, y6.2))))))
theorem d_spec_l3Term_good {a0_ : Cur} {r : Cur × Bytes} (h : d_spec_l3Term a0_ = some r) : GoodP Tryd.prog 62 (Cur.c a0_) (Cur.c r.1) [] (D.str (r.2)) := by
  refine gdP Tryd.func62 [[none, none, none], [none]] 10 [D.sl ((a0_.b).map yx), D.int .i64 (a0_.i), D.int .i64 (a0_.h)] [] [] fun hr v0_ Γ hΓ => ?_
  rw [d_spec_l3Term] at h
  obtain ⟨y1, h2, h⟩ := den_bind h
  obtain ⟨h3, h⟩ | ⟨h3, h⟩ := den_if h
  · obtain ⟨y4, h5, h⟩ := den_bind h
    cases h; exact (((pre0.hp [[none, none, none], [none]] (d_spec_l1Once_good h2)).b h3).hp [[none, none, none]] (d_spec_l1Atom_good h5)).ret hΓ
  · obtain ⟨y6, h7, h⟩ := den_bind h
    cases h; exact (((pre0.hp [[none, none, none], [none]] (d_spec_l1Once_good h2)).b h3).hp [[none, none, none], [some (9, 1)]] (d_spec_l1Str_good h7)).ret hΓ
def d_spec_l3Draw_L1 (y1 : Cur × (Bytes × Int)) (k1 : List Int → Int → Int → List Bytes → Option (Cur × Fact)) : Nat → Int → List Int → Int → Int → List Bytes → Option (Cur × Fact)
  | 0, _, _, _, _, _ => none
  | n1 + 1, v1_6, u1_0_0, u1_0_1, u1_0_2, w1_3 => (bif decide ((v1_6 : Int) < (y1.2.2)) then ((d_spec_l3Term ((⟨u1_0_0, u1_0_1, u1_0_2⟩ : Cur))).bind fun y20 => (bif room (((w1_3).map tx).length + ([[D.str (y20.2)]]).length) 16 then (d_spec_l3Draw_L1 y1 k1 n1 (IntKind.i64.wrap ((v1_6) + (1))) (y20.1.b) (y20.1.i) (y20.1.h) ((w1_3) ++ ([y20.2]))) else none)) else (k1 (u1_0_0) (u1_0_1) (u1_0_2) (w1_3)))
def d_spec_l3Draw (a0_ : Cur) : Option (Cur × Fact) := ((d_spec_l2Rel (a0_)).bind fun y1 => (d_spec_l3Draw_L1 y1 (fun (r1_0_0 : List Int) (r1_0_1 : Int) (r1_0_2 : Int) (q1_3 : List Bytes) => (some (((⟨r1_0_0, r1_0_1, r1_0_2⟩ : Cur), (⟨y1.2.1, q1_3⟩ : Fact))))) fuel (0) (y1.1.b) (y1.1.i) (y1.1.h) (([] : List Bytes))))
def d_spec_l3Draw_S1 (v0_ : Value) (y1 : Cur × (Bytes × Int)) (v1_6 : Int) (u1_0_1 : Int) (u1_0_2 : Int) (W1 : List (List D)) (W4 : List (List D)) : St := ⟨[(0, D.ptr 0 0), (2, D.ptr 1 0), (4, D.int .i64 (y1.2.2)), (5, D.ptr 2 0), (6, D.int .i64 (v1_6))], [Ob.pbx [D.sl (W1), D.int .i64 (u1_0_1), D.int .i64 (u1_0_2)] v0_, Ob.box [D.str ([]), D.nil], Ob.box [D.str (y1.2.1), D.acc 3], Ob.row .uq 9 1 (W4)]⟩
theorem d_spec_l3Draw_L1w (hΓ : Γ.nt = 27) {v0_ : Value} {y1 : Cur × (Bytes × Int)} {r : Cur × Fact} {k1 : List Int → Int → Int → List Bytes → Option (Cur × Fact)} (hE1 : ∀ (r1_0_0 : List Int) (r1_0_1 : Int) (r1_0_2 : Int) (q1_3 : List Bytes), k1 r1_0_0 r1_0_1 r1_0_2 q1_3 = some r → Ax Γ N Tryd.f42 (.p [[none, none, none], [none, some (9, 1)]] v0_ (Cur.c r.1) (D.agg [D.str (r.2.rel), D.fr 9 1 ((r.2.args).map tx)])) [1, 1, 1, 1] ⟨[(2, D.ptr 1 0), (5, D.ptr 2 0)], [Ob.pbx [D.sl ((r1_0_0).map yx), D.int .i64 (r1_0_1), D.int .i64 (r1_0_2)] v0_, Ob.box [D.str ([]), D.nil], Ob.box [D.str (y1.2.1), D.acc 3], Ob.row .uq 9 1 ((q1_3).map tx)]⟩) : ∀ (n1 : Nat) (v1_6 : Int) (u1_0_0 : List Int) (u1_0_1 : Int) (u1_0_2 : Int) (w1_3 : List Bytes), d_spec_l3Draw_L1 y1 k1 n1 v1_6 u1_0_0 u1_0_1 u1_0_2 w1_3 = some r → Ar Γ N Tryd.f42 (.p [[none, none, none], [none, some (9, 1)]] v0_ (Cur.c r.1) (D.agg [D.str (r.2.rel), D.fr 9 1 ((r.2.args).map tx)])) [1, 1, 1, 0, 1, 0] n1 (d_spec_l3Draw_S1 v0_ y1 v1_6 u1_0_1 u1_0_2 ((u1_0_0).map yx) ((w1_3).map tx)) := by
  intro n
  induction n with
  | zero => intro v1_6 u1_0_0 u1_0_1 u1_0_2 w1_3 h; simp [d_spec_l3Draw_L1] at h
  | succ n1 ih1 =>
    intro v1_6 u1_0_0 u1_0_1 u1_0_2 w1_3 h
    rw [d_spec_l3Draw_L1] at h
    refine AWr_succ fun N1 hN1 hS1 => ?_
    obtain ⟨h19, h⟩ | ⟨h19, h⟩ := den_if h
    · obtain ⟨y20, h21, h⟩ := den_bind h
      obtain ⟨h22, h⟩ := den_ok h
      exact ((((pre0.b h19).w (show GoodP Tryd.prog 62 (Cur.c ((⟨u1_0_0, u1_0_1, u1_0_2⟩ : Cur))) (Cur.c y20.1) [] (D.str (y20.2)) from by simpa only [List.map_append, List.map_cons, List.map_nil, List.map_drop, List.map_take] using d_spec_l3Term_good h21)).w (room_ok h22)).a [.n2 [0, 1, 2, 3, 4, 5, 6, 7] [0, 1, 2, 3, 4, 5, 6, 7] 3 5 [0, 1] [0], .gp [[none, none, none]] (Cur.c y20.1) (D.str (y20.2)), .cn [0, 2, 4, 5, 6] [0, 1, 2, 5]]).cs hΓ hS1 (d_spec_l3Draw_S1 v0_ y1 (IntKind.i64.wrap ((v1_6) + (1))) (y20.1.i) (y20.1.h) ((y20.1.b).map yx) (((w1_3).map tx) ++ ([[D.str (y20.2)]]))) (by first | (simp only [mA] <;> rfl) | (simp only [mA, Fact.c, Pair.c, Cond.c, Action.c, Rule.c, Token.c, Match.c, Alpha.c, Node.c, Network.c, Stamp.c] <;> rfl)) (ih1 (IntKind.i64.wrap ((v1_6) + (1))) (y20.1.b) (y20.1.i) (y20.1.h) ((w1_3) ++ ([y20.2])) h)
    · exact ((pre0.b h19).a [.hl 0 [2, 5] [0, 1, 2, 3]]).ex hΓ hN1 (hE1 (u1_0_0) (u1_0_1) (u1_0_2) (w1_3) h)
theorem d_spec_l3Draw_good {a0_ : Cur} {r : Cur × Fact} (h : d_spec_l3Draw a0_ = some r) : GoodP Tryd.prog 42 (Cur.c a0_) (Cur.c r.1) [] (D.agg [D.str (r.2.rel), D.fr 9 1 ((r.2.args).map tx)]) := by
  refine gdP Tryd.func42 [[none, none, none], [none, some (9, 1)]] 27 [D.sl ((a0_.b).map yx), D.int .i64 (a0_.i), D.int .i64 (a0_.h)] [] [] fun hr v0_ Γ hΓ => ?_
  rw [d_spec_l3Draw] at h
  obtain ⟨y1, h2, h⟩ := den_bind h
  refine ((pre0.hp [[none, none, none]] (d_spec_l2Rel_good h2)).a [.pb 2 1 9 1, .cn [0, 2, 4, 5, 6] [0, 1, 2, 3]]).lp hΓ (d_spec_l3Draw_L1w hΓ (fun r1_0_0 r1_0_1 r1_0_2 q1_3 h => ?_) fuel (0) (y1.1.b) (y1.1.i) (y1.1.h) (([] : List Bytes)) h)
  cases h; exact pre0.ret hΓ
def d_spec_l1Word (a0_ : Cur) : Option (Cur × Bytes) := ((d_spec_l1Str (a0_) (([[97], [98], [111, 110], [55], [49, 48], [57, 57, 57, 57], [49, 48, 48, 48, 48], [48, 48, 55], [48], [], [65], [63, 120], [63, 63], [63], [97, 98, 99, 100, 101, 102, 103, 104], [97, 98, 99, 100, 101, 102, 103, 104, 105], [63, 97, 98, 99, 100, 101, 102, 103, 104], [97, 45, 98], [120, 49], [49, 120], [45, 51]] : List Bytes))).bind fun y1 => (some ((y1.1, y1.2))))
theorem d_spec_l1Word_good {a0_ : Cur} {r : Cur × Bytes} (h : d_spec_l1Word a0_ = some r) : GoodP Tryd.prog 44 (Cur.c a0_) (Cur.c r.1) [] (D.str (r.2)) := by
  refine gdP Tryd.func44 [[none, none, none], [none]] 6 [D.sl ((a0_.b).map yx), D.int .i64 (a0_.i), D.int .i64 (a0_.h)] [] [] fun hr v0_ Γ hΓ => ?_
  rw [d_spec_l1Word] at h
  obtain ⟨y1, h2, h⟩ := den_bind h
  cases h; exact (pre0.hp [[none, none, none], [some (9, 1)]] (d_spec_l1Str_good h2)).ret hΓ
def d_spec_l3Any (a0_ : Cur) : Option (Cur × Fact) := ((d_spec_l3Draw (a0_)).bind fun y1 => ((d_spec_l1Below (y1.1) (10)).bind fun y3 => (bif (y3.2 : Int) == (0) then ((d_spec_l1Word (y3.1)).bind fun y6 => (some ((y6.1, (⟨y6.2, y1.2.args⟩ : Fact))))) else (bif (y3.2 : Int) == (1) then ((d_spec_l1Word (y3.1)).bind fun y9 => (bif room (((y1.2.args).map tx).length + ([[D.str (y9.2)]]).length) 16 then (some ((y9.1, (⟨y1.2.rel, (y1.2.args) ++ ([y9.2])⟩ : Fact)))) else none)) else (bif (y3.2 : Int) == (2) then ((d_spec_l1Below (y3.1) (5)).bind fun y13 => (bif decide (0 ≤ (y13.2 : Int)) && decide ((y13.2).toNat ≤ ((([[63, 120], [63, 120], [63, 121], [63, 120]] : List Bytes)).map tx).length) then (some ((y13.1, (⟨y1.2.rel, (([[63, 120], [63, 120], [63, 121], [63, 120]] : List Bytes)).take (y13.2).toNat⟩ : Fact)))) else none)) else (some ((y3.1, y1.2))))))))
theorem d_spec_l3Any_good {a0_ : Cur} {r : Cur × Fact} (h : d_spec_l3Any a0_ = some r) : GoodP Tryd.prog 18 (Cur.c a0_) (Cur.c r.1) [] (D.agg [D.str (r.2.rel), D.fr 9 1 ((r.2.args).map tx)]) := by
  refine gdP Tryd.func18 [[none, none, none], [none, some (9, 1)]] 30 [D.sl ((a0_.b).map yx), D.int .i64 (a0_.i), D.int .i64 (a0_.h)] [] [] fun hr v0_ Γ hΓ => ?_
  rw [d_spec_l3Any] at h
  obtain ⟨y1, h2, h⟩ := den_bind h
  obtain ⟨y3, h4, h⟩ := den_bind h
  have o1_ := ((pre0.hp [[none, none, none]] (d_spec_l3Draw_good h2)).hp [[none, none, none], [none]] (d_spec_l1Below_good h4))
  obtain ⟨h5, h⟩ | ⟨h5, h⟩ := den_if h
  · obtain ⟨y6, h7, h⟩ := den_bind h
    cases h; exact ((o1_.b h5).hp [[none, none, none]] (d_spec_l1Word_good h7)).ret hΓ
  · obtain ⟨h8, h⟩ | ⟨h8, h⟩ := den_if h
    · obtain ⟨y9, h10, h⟩ := den_bind h
      obtain ⟨h11, h⟩ := den_ok h
      cases h; exact (((((o1_.b h5).b h8).a [.n2 [0, 1, 2, 3, 4, 5, 6, 7] [0, 1, 2, 3, 4, 5, 6, 7] 3 5 [0, 1] [0]]).hp [[none, none, none]] (d_spec_l1Word_good h10)).w (room_ok h11)).rts hΓ (D.tup [D.agg [D.str (y1.2.rel), D.fr 9 1 (((y1.2.args).map tx) ++ ([[D.str (y9.2)]]))], D.agg [D.sl ((y9.1.b).map yx), D.int .i64 (y9.1.i), D.int .i64 (y9.1.h)], D.val v0_]) (by first | rfl | (simp only [mA] <;> rfl))
    · have o2_ := ((o1_.b h5).b h8)
      obtain ⟨h12, h⟩ | ⟨h12, h⟩ := den_if h
      · obtain ⟨y13, h14, h⟩ := den_bind h
        obtain ⟨h15, h⟩ := den_ok h
        cases h; exact ((((o2_.b h12).hp [[none, none, none], [none]] (d_spec_l1Below_good h14)).w (cut_ok h15)).a [.cut 0 (y13.2).toNat]).rts hΓ (D.tup [D.agg [D.str (y1.2.rel), D.fr 9 1 (((([[63, 120], [63, 120], [63, 121], [63, 120]] : List Bytes)).map tx).take (y13.2).toNat)], D.agg [D.sl ((y13.1.b).map yx), D.int .i64 (y13.1.i), D.int .i64 (y13.1.h)], D.val v0_]) (by first | rfl | (simp only [mA] <;> rfl))
      · cases h; exact (o2_.b h12).ret hΓ
def d_spec_DrawShapeOf (a0_ : List Int) : Option Fact := ((d_spec_l1New (a0_)).bind fun y1 => ((d_spec_l3Any (y1)).bind fun y3 => (some (y3.2))))
theorem d_spec_DrawShapeOf_good {a0_ : List Int} {r : Fact} (h : d_spec_DrawShapeOf a0_ = some r) : Good Tryd.prog 6 [D.sl ((a0_).map yx)] (D.agg [D.str (r.rel), D.fr 9 1 ((r.args).map tx)]) := by
  refine gd Tryd.func6 [[none, some (9, 1)]] 6 fun hr Γ hΓ => ?_
  rw [d_spec_DrawShapeOf] at h
  obtain ⟨y1, h2, h⟩ := den_bind h
  obtain ⟨y3, h4, h⟩ := den_bind h
  cases h; exact ((pre0.hn (d_spec_l1New_good h2)).hp [[none, none, none]] (d_spec_l3Any_good h4)).ret hΓ
def d_impl_IsAtom_L1 (a0_ : Bytes) (k1 : Option Bool) : Nat → Int → Option Bool
  | 0, _ => none
  | n1 + 1, v1_3 => (bif decide ((v1_3 : Int) < (((a0_).length : Int))) then ((atI (a0_) (v1_3)).bind fun b31 => (bif decide ((b31.toNat : Int) < (97)) then (bif decide ((b31.toNat : Int) < (48)) then (some (false)) else (bif decide ((b31.toNat : Int) > (57)) then (some (false)) else (d_impl_IsAtom_L1 a0_ k1 n1 (IntKind.i64.wrap ((v1_3) + (1)))))) else (bif decide ((b31.toNat : Int) > (122)) then (bif decide ((b31.toNat : Int) < (48)) then (some (false)) else (bif decide ((b31.toNat : Int) > (57)) then (some (false)) else (d_impl_IsAtom_L1 a0_ k1 n1 (IntKind.i64.wrap ((v1_3) + (1)))))) else (d_impl_IsAtom_L1 a0_ k1 n1 (IntKind.i64.wrap ((v1_3) + (1))))))) else (k1 ))
def d_impl_IsAtom (a0_ : Bytes) : Option Bool := (bif decide ((((a0_).length : Int) : Int) < (1)) then (some (false)) else (bif decide ((((a0_).length : Int) : Int) > (8)) then (some (false)) else (d_impl_IsAtom_L1 a0_ (some (true)) fuel (0))))
def d_impl_IsAtom_S1 (a0_ : Bytes) (v1_3 : Int) : St := ⟨[(0, D.str (a0_)), (3, D.int .i64 (v1_3))], []⟩
theorem d_impl_IsAtom_L1w (hΓ : Γ.nt = 40) {a0_ : Bytes} {r : Bool} {k1 : Option Bool} (hE1 : k1 = some r → Ax Γ N Tryd.f26 (.q [[none]] (D.bool (r))) [1, 1, 1] ⟨[], []⟩) : ∀ (n1 : Nat) (v1_3 : Int), d_impl_IsAtom_L1 a0_ k1 n1 v1_3 = some r → Ar Γ N Tryd.f26 (.q [[none]] (D.bool (r))) [1, 1, 0, 1, 0] n1 (d_impl_IsAtom_S1 a0_ v1_3) := by
  intro n
  induction n with
  | zero => intro v1_3 h; simp [d_impl_IsAtom_L1] at h
  | succ n1 ih1 =>
    intro v1_3 h
    rw [d_impl_IsAtom_L1] at h
    refine AWr_succ fun N1 hN1 hS1 => ?_
    obtain ⟨h30, h⟩ | ⟨h30, h⟩ := den_if h
    · obtain ⟨b31, h32, h⟩ := den_bind h
      have o7_ := ((pre0.b h30).c h32)
      obtain ⟨h33, h⟩ | ⟨h33, h⟩ := den_if h
      · have o8_ := ((((o7_.r 5 h33).T 3).c h32).T 2)
        obtain ⟨h34, h⟩ | ⟨h34, h⟩ := den_if h
        · have h := den_some h; subst h; exact ((((o8_.r 4 h34).T 1).b h34).T 2).ret hΓ
        · have o9_ := ((((((o8_.r 3 h34).c h32).b h34).T 1).b h34).T 1)
          obtain ⟨h35, h⟩ | ⟨h35, h⟩ := den_if h
          · have h := den_some h; subst h; exact (o9_.b h35).ret hΓ
          · exact ((o9_.b h35).a [.cn [0, 3] []]).cf hΓ hS1 (ih1 (IntKind.i64.wrap ((v1_3) + (1))) h)
      · have o10_ := (((o7_.r 3 h33).c h32).r 2 h33)
        obtain ⟨h36, h⟩ | ⟨h36, h⟩ := den_if h
        · have o11_ := (((o10_.r 3 h36).c h32).r 2 h36)
          obtain ⟨h37, h⟩ | ⟨h37, h⟩ := den_if h
          · have h := den_some h; subst h; exact (((((o11_.r 4 h37).b h36).b h37).b h36).T 1).ret hΓ
          · have o12_ := ((((((o11_.r 3 h37).c h32).b h37).b h36).b h37).b h36)
            obtain ⟨h38, h⟩ | ⟨h38, h⟩ := den_if h
            · have h := den_some h; subst h; exact (o12_.b h38).ret hΓ
            · exact ((o12_.b h38).a [.cn [0, 3] []]).cf hΓ hS1 (ih1 (IntKind.i64.wrap ((v1_3) + (1))) h)
        · exact (((o10_.r 7 h36).F 1).a [bF, bF, bF, bF, .cn [0, 3] []]).cf hΓ hS1 (ih1 (IntKind.i64.wrap ((v1_3) + (1))) h)
    · exact ((pre0.b h30).a [.hl 0 [] []]).ex hΓ hN1 (hE1 h)
theorem d_impl_IsAtom_good {a0_ : Bytes} {r : Bool} (h : d_impl_IsAtom a0_ = some r) : Good Tryd.prog 26 [D.str (a0_)] (D.bool (r)) := by
  refine gd Tryd.func26 [[none]] 40 fun hr Γ hΓ => ?_
  rw [d_impl_IsAtom] at h
  obtain ⟨h1, h⟩ | ⟨h1, h⟩ := den_if h
  · have h := den_some h; subst h; exact ((pre0.r 4 h1).T 1).ret hΓ
  · have o13_ := (pre0.r 4 h1)
    obtain ⟨h2, h⟩ | ⟨h2, h⟩ := den_if h
    · have h := den_some h; subst h; exact (o13_.b h2).ret hΓ
    · refine ((o13_.b h2).a [.cn [0, 3] []]).lp hΓ (d_impl_IsAtom_L1w hΓ (fun h => ?_) fuel (0) h)
      have h := den_some h; subst h; exact pre0.ret hΓ
def d_impl_IsVar (a0_ : Bytes) : Option Bool := (bif decide ((((a0_).length : Int) : Int) > (1)) then ((atI (a0_) (0)).bind fun b2 => (bif (b2.toNat : Int) == (63) then ((pcut (a0_).length (some (D.int .i64 (1))) (none)).bind fun p => (fun l5 u6 => ((d_impl_IsAtom (((a0_).take u6).drop l5)).bind fun y8 => (some (y8)))) p.1 p.2) else (some (false)))) else (some (false)))
theorem d_impl_IsVar_good {a0_ : Bytes} {r : Bool} (h : d_impl_IsVar a0_ = some r) : Good Tryd.prog 46 [D.str (a0_)] (D.bool (r)) := by
  refine gd Tryd.func46 [[none]] 16 fun hr Γ hΓ => ?_
  rw [d_impl_IsVar] at h
  obtain ⟨h1, h⟩ | ⟨h1, h⟩ := den_if h
  · obtain ⟨b2, h3, h⟩ := den_bind h
    have o1_ := (((pre0.r 2 h1).c h3).r 2 h1)
    obtain ⟨h4, h⟩ | ⟨h4, h⟩ := den_if h
    · obtain ⟨⟨l5, u6⟩, h7, h⟩ := den_bind h
      obtain ⟨y8, h9, h⟩ := den_bind h
      have h := den_some h; subst h; exact ((((((o1_.r 2 h4).w h7).a [.cut l5 u6]).b h4).g (d_impl_IsAtom_good h9)).b h4).ret hΓ
    · have h := den_some h; subst h; exact (o1_.r 4 h4).ret hΓ
  · have h := den_some h; subst h; exact ((pre0.r 4 h1).F 4).ret hΓ
def d_impl_FormatInt (a0_ : Int) : Option Bytes := ((d_strconv_Itoa (a0_)).bind fun y1 => (some (y1)))
theorem d_impl_FormatInt_good {a0_ : Int} {r : Bytes} (h : d_impl_FormatInt a0_ = some r) : Good Tryd.prog 47 [D.int .i64 (a0_)] (D.str (r)) := by
  refine gd Tryd.func47 [[none]] 5 fun hr Γ hΓ => ?_
  rw [d_impl_FormatInt] at h
  obtain ⟨y1, h2, h⟩ := den_bind h
  have h := den_some h; subst h; exact (pre0.g (d_strconv_Itoa_good h2)).ret hΓ
def d_impl_plainPairs_L1 (a0_ : List Bytes) (k1 : List Pair → Option (List Pair)) : List Bytes → Nat → List Pair → List (Bytes × Bool) → Option (List Pair)
  | [], i1, w1_0, m1_1 => (k1 (w1_0))
  | x1_ :: xs1, i1, w1_0, m1_1 => ((d_impl_IsVar (x1_)).bind fun y52 => (bif y52 then (bif !(mGet false (x1_) (m1_1)) then ((d_impl_FormatInt (IntKind.i64.wrap (((((w1_0).map Pair.c).length : Int)) + (1)))).bind fun y56 => (bif decide (([63] : Bytes).length + (y56 : Bytes).length ≤ maxLen) then (bif room (((w1_0).map Pair.c).length + ([[D.str (x1_), D.str (([63]) ++ (y56))]]).length) 32 then (d_impl_plainPairs_L1 a0_ k1 xs1 (i1 + 1) ((w1_0) ++ ([(⟨x1_, ([63]) ++ (y56)⟩ : Pair)])) (mPut (x1_) (true) (m1_1))) else none) else none)) else (d_impl_plainPairs_L1 a0_ k1 xs1 (i1 + 1) (w1_0) (m1_1))) else (d_impl_plainPairs_L1 a0_ k1 xs1 (i1 + 1) (w1_0) (m1_1))))
def d_impl_plainPairs (a0_ : List Bytes) : Option (List Pair) := (d_impl_plainPairs_L1 a0_ (fun (q1_0 : List Pair) => (some (q1_0))) (a0_) 0 (([] : List Pair)) (([] : List (Bytes × Bool))))
def d_impl_plainPairs_S1 (a0_ : List Bytes) (W0 : List (List D)) (W1 : List (D × D)) (ix_ : Int) : St := ⟨[(3, D.acc 0), (4, D.acc 1), (8, D.sl ((a0_).map tx)), (9, D.int .i64 ((((a0_).map tx).length : Int))), (10, D.int .i64 (ix_))], [Ob.row .uq 71 2 (W0), Ob.mp (W1)]⟩
theorem d_impl_plainPairs_L1w (hΓ : Γ.nt = 36) {a0_ : List Bytes} {r : List Pair} {k1 : List Pair → Option (List Pair)} (hE1 : ∀ (q1_0 : List Pair), k1 q1_0 = some r → Ax Γ N Tryd.f21 (.q [[some (71, 2)]] (D.fr 71 2 ((r).map Pair.c))) [1, 1, 1, 1] ⟨[(3, D.acc 0)], [Ob.row .uq 71 2 ((q1_0).map Pair.c)]⟩) (hm1 : (a0_).length ≤ maxLen) : ∀ (rest : List Bytes) (i1 : Nat) (w1_0 : List Pair) (m1_1 : List (Bytes × Bool)), (a0_).drop i1 = rest → d_impl_plainPairs_L1 a0_ k1 rest i1 w1_0 m1_1 = some r → Ar Γ N Tryd.f21 (.q [[some (71, 2)]] (D.fr 71 2 ((r).map Pair.c))) [1, 1, 1, 0, 1, 0] (rest.length + 1) (d_impl_plainPairs_S1 a0_ ((w1_0).map Pair.c) ((m1_1).map (kS eB)) ((i1 : Int))) := by
  intro rest
  induction rest with
  | nil =>
    intro i1 w1_0 m1_1 hd1 h
    rw [d_impl_plainPairs_L1] at h
    refine AWr_succ fun N1 hN1 hS1 => ?_
    exact ((pre0.ge tx hd1).a [.hl 0 [3] [0]]).ex hΓ hN1 (hE1 (w1_0) h)
  | cons x1_ xs1 ih1 =>
    intro i1 w1_0 m1_1 hd1 h
    rw [d_impl_plainPairs_L1] at h
    refine AWr_succ fun N1 hN1 hS1 => ?_
    obtain ⟨y52, h53, h⟩ := den_bind h
    have o3_ := (((pre0.lt tx hd1).l (map_row tx 1 (dc hd1) rfl)).g (d_impl_IsVar_good h53))
    obtain ⟨h54, h⟩ | ⟨h54, h⟩ := den_if h
    · have o4_ := ((((o3_.r 3 h54).w (show plk Tryd.prog 68 ((m1_1).map (kS eB)) (D.str (x1_)) false = some (D.bool (mGet false (x1_) (m1_1))) from lk_kS (e := eB) (z := false) (by kernel_rfl))).a [.d (D.bool (mGet false (x1_) (m1_1)))]).r 2 h54)
      obtain ⟨h55, h⟩ | ⟨h55, h⟩ := den_if h
      · obtain ⟨y56, h57, h⟩ := den_bind h
        obtain ⟨h58, h⟩ := den_ok h
        obtain ⟨h59, h⟩ := den_ok h
        exact (((((((o4_.b h55).w (show kvPut (D.str (x1_)) (D.bool (true)) ((m1_1).map (kS eB)) = some ((mPut (x1_) (true) (m1_1)).map (kS eB)) from put_kS (e := eB) (m := m1_1))).a [.kv ((mPut (x1_) (true) (m1_1)).map (kS eB))]).g (d_impl_FormatInt_good h57)).w (of_decide_eq_true h58)).w (room_ok h59)).a [.cn [3, 4, 8, 9, 10] [3, 1]]).cs hΓ hS1 (d_impl_plainPairs_S1 a0_ (((w1_0).map Pair.c) ++ ([[D.str (x1_), D.str (([63]) ++ (y56))]])) ((mPut (x1_) (true) (m1_1)).map (kS eB)) (IntKind.i64.wrap (((i1 : Int)) + (1)))) (by first | (simp only [iS hd1 hm1, mA] <;> rfl) | (simp only [iS hd1 hm1, mA, Fact.c, Pair.c, Cond.c, Action.c, Rule.c, Token.c, Match.c, Alpha.c, Node.c, Network.c, Stamp.c] <;> rfl)) (ih1 (i1 + 1) ((w1_0) ++ ([(⟨x1_, ([63]) ++ (y56)⟩ : Pair)])) (mPut (x1_) (true) (m1_1)) (dn hd1) h)
      · exact ((o4_.b h55).a [.cn [3, 4, 8, 9, 10] [0, 1]]).ct hΓ hS1 (iS hd1 hm1) (ih1 (i1 + 1) (w1_0) (m1_1) (dn hd1) h)
    · exact (((o3_.r 5 h54).F 1).a [.cn [3, 4, 8, 9, 10] [0, 1]]).ct hΓ hS1 (iS hd1 hm1) (ih1 (i1 + 1) (w1_0) (m1_1) (dn hd1) h)
theorem d_impl_plainPairs_good {a0_ : List Bytes} {r : List Pair} (h : d_impl_plainPairs a0_ = some r) : Good Tryd.prog 21 [D.sl ((a0_).map tx)] (D.fr 71 2 ((r).map Pair.c)) := by
  refine gd Tryd.func21 [[some (71, 2)]] 36 fun hr Γ hΓ => ?_
  rw [d_impl_plainPairs] at h
  refine (pre0.a [.pro 3, .cn [3, 4, 8, 9, 10] [0, 1]]).lp hΓ (d_impl_plainPairs_L1w hΓ (fun q1_0 h => ?_) (by have := (Rdb.sl (hr _ (List.mem_of_getElem? (i := 0) rfl))).1; simpa using this) (a0_) 0 (([] : List Pair)) (([] : List (Bytes × Bool))) rfl h)
  have h := den_some h; subst h; exact pre0.ret hΓ
def d_impl_renamedText_L1 (a0_ : Bytes) (a1_ : List Pair) (k1 : Option Bytes) : List Pair → Nat → Option Bytes
  | [], i1 => (k1 )
  | x1_ :: xs1, i1 => (bif (x1_.var : Bytes) == (a0_) then (some (x1_.value)) else (d_impl_renamedText_L1 a0_ a1_ k1 xs1 (i1 + 1) ))
def d_impl_renamedText (a0_ : Bytes) (a1_ : List Pair) : Option Bytes := (d_impl_renamedText_L1 a0_ a1_ (some (a0_)) (a1_) 0 )
def d_impl_renamedText_S1 (a0_ : Bytes) (a1_ : List Pair) (ix_ : Int) : St := ⟨[(0, D.str (a0_)), (7, D.sl ((a1_).map Pair.c)), (8, D.int .i64 ((((a1_).map Pair.c).length : Int))), (9, D.int .i64 (ix_))], []⟩
theorem d_impl_renamedText_L1w (hΓ : Γ.nt = 21) {a0_ : Bytes} {a1_ : List Pair} {r : Bytes} {k1 : Option Bytes} (hE1 : k1 = some r → Ax Γ N Tryd.f45 (.q [[none]] (D.str (r))) [1, 1] ⟨[(0, D.str (a0_))], []⟩) (hm1 : (a1_).length ≤ maxLen) : ∀ (rest : List Pair) (i1 : Nat) , (a1_).drop i1 = rest → d_impl_renamedText_L1 a0_ a1_ k1 rest i1  = some r → Ar Γ N Tryd.f45 (.q [[none]] (D.str (r))) [1, 0, 1, 0] (rest.length + 1) (d_impl_renamedText_S1 a0_ a1_ ((i1 : Int))) := by
  intro rest
  induction rest with
  | nil =>
    intro i1  hd1 h
    rw [d_impl_renamedText_L1] at h
    refine AWr_succ fun N1 hN1 hS1 => ?_
    exact ((pre0.ge Pair.c hd1).a [.hl 0 [0] []]).ex hΓ hN1 (hE1 h)
  | cons x1_ xs1 ih1 =>
    intro i1  hd1 h
    rw [d_impl_renamedText_L1] at h
    refine AWr_succ fun N1 hN1 hS1 => ?_
    have o2_ := ((pre0.lt Pair.c hd1).l (map_row Pair.c 2 (dc hd1) rfl))
    obtain ⟨h13, h⟩ | ⟨h13, h⟩ := den_if h
    · cases h; exact (o2_.b h13).ret hΓ
    · exact ((o2_.b h13).a [.cn [0, 7, 8, 9] []]).ct hΓ hS1 (iS hd1 hm1) (ih1 (i1 + 1)  (dn hd1) h)
theorem d_impl_renamedText_good {a0_ : Bytes} {a1_ : List Pair} {r : Bytes} (h : d_impl_renamedText a0_ a1_ = some r) : Good Tryd.prog 45 [D.str (a0_), D.sl ((a1_).map Pair.c)] (D.str (r)) := by
  refine gd Tryd.func45 [[none]] 21 fun hr Γ hΓ => ?_
  rw [d_impl_renamedText] at h
  refine (pre0.a [.cn [0, 7, 8, 9] []]).lp hΓ (d_impl_renamedText_L1w hΓ (fun h => ?_) (by have := (Rdb.sl (hr _ (List.mem_of_getElem? (i := 1) rfl))).1; simpa using this) (a1_) 0  rfl h)
  have h := den_some h; subst h; exact pre0.ret hΓ
def d_impl_RenameCond_L1 (a0_ : Cond) (a1_ : List Pair) (y1 : Bytes) (y3 : Bytes) (k1 : List Bytes → Option Cond) : List Bytes → Nat → List Bytes → Option Cond
  | [], i1, w1_2 => (k1 (w1_2))
  | x1_ :: xs1, i1, w1_2 => ((d_impl_renamedText (x1_) (a1_)).bind fun y31 => (bif room (((w1_2).map tx).length + ([[D.str (y31)]]).length) 16 then (d_impl_RenameCond_L1 a0_ a1_ y1 y3 k1 xs1 (i1 + 1) ((w1_2) ++ ([y31]))) else none))
def d_impl_RenameCond (a0_ : Cond) (a1_ : List Pair) : Option Cond := ((d_impl_renamedText (a0_.left) (a1_)).bind fun y1 => ((d_impl_renamedText (a0_.right) (a1_)).bind fun y3 => (d_impl_RenameCond_L1 a0_ a1_ y1 y3 (fun (q1_2 : List Bytes) => (some ((⟨a0_.kind, (⟨a0_.pat.rel, q1_2⟩ : Fact), y1, y3⟩ : Cond)))) (a0_.pat.args) 0 (([] : List Bytes)))))
def d_impl_RenameCond_S1 (a0_ : Cond) (a1_ : List Pair) (y1 : Bytes) (y3 : Bytes) (W0 : List (List D)) (ix_ : Int) : St := ⟨[(1, D.sl ((a1_).map Pair.c)), (4, D.ptr 0 0), (5, D.ptr 1 0), (26, D.sl ((a0_.pat.args).map tx)), (27, D.int .i64 ((((a0_.pat.args).map tx).length : Int))), (28, D.int .i64 (ix_))], [Ob.box [D.int .i64 (0), D.str ([]), D.nil, D.str ([]), D.str ([])], Ob.box [D.int .i64 (a0_.kind), D.str (a0_.pat.rel), D.acc 2, D.str (y1), D.str (y3)], Ob.row .uq 9 1 (W0)]⟩
theorem d_impl_RenameCond_L1w (hΓ : Γ.nt = 44) {a0_ : Cond} {a1_ : List Pair} {y1 : Bytes} {y3 : Bytes} {r : Cond} {k1 : List Bytes → Option Cond} (hE1 : ∀ (q1_2 : List Bytes), k1 q1_2 = some r → Ax Γ N Tryd.f20 (.q [[none, none, some (9, 1), none, none]] (D.agg [D.int .i64 (r.kind), D.str (r.pat.rel), D.fr 9 1 ((r.pat.args).map tx), D.str (r.left), D.str (r.right)])) [1, 1, 1, 1] ⟨[(4, D.ptr 0 0), (5, D.ptr 1 0)], [Ob.box [D.int .i64 (0), D.str ([]), D.nil, D.str ([]), D.str ([])], Ob.box [D.int .i64 (a0_.kind), D.str (a0_.pat.rel), D.acc 2, D.str (y1), D.str (y3)], Ob.row .uq 9 1 ((q1_2).map tx)]⟩) (hm1 : (a0_.pat.args).length ≤ maxLen) : ∀ (rest : List Bytes) (i1 : Nat) (w1_2 : List Bytes), (a0_.pat.args).drop i1 = rest → d_impl_RenameCond_L1 a0_ a1_ y1 y3 k1 rest i1 w1_2 = some r → Ar Γ N Tryd.f20 (.q [[none, none, some (9, 1), none, none]] (D.agg [D.int .i64 (r.kind), D.str (r.pat.rel), D.fr 9 1 ((r.pat.args).map tx), D.str (r.left), D.str (r.right)])) [1, 1, 1, 0, 1, 0] (rest.length + 1) (d_impl_RenameCond_S1 a0_ a1_ y1 y3 ((w1_2).map tx) ((i1 : Int))) := by
  intro rest
  induction rest with
  | nil =>
    intro i1 w1_2 hd1 h
    rw [d_impl_RenameCond_L1] at h
    refine AWr_succ fun N1 hN1 hS1 => ?_
    exact ((pre0.ge tx hd1).a [.hl 0 [4, 5] [0, 1, 2]]).ex hΓ hN1 (hE1 (w1_2) h)
  | cons x1_ xs1 ih1 =>
    intro i1 w1_2 hd1 h
    rw [d_impl_RenameCond_L1] at h
    refine AWr_succ fun N1 hN1 hS1 => ?_
    obtain ⟨y31, h32, h⟩ := den_bind h
    obtain ⟨h33, h⟩ := den_ok h
    exact ((((((pre0.lt tx hd1).l (map_row tx 1 (dc hd1) rfl)).a [.n 7]).g (d_impl_renamedText_good h32)).w (room_ok h33)).a [.cn [1, 4, 5, 26, 27, 28] [0, 1, 4]]).cs hΓ hS1 (d_impl_RenameCond_S1 a0_ a1_ y1 y3 (((w1_2).map tx) ++ ([[D.str (y31)]])) (IntKind.i64.wrap (((i1 : Int)) + (1)))) (by first | (simp only [iS hd1 hm1, mA] <;> rfl) | (simp only [iS hd1 hm1, mA, Fact.c, Pair.c, Cond.c, Action.c, Rule.c, Token.c, Match.c, Alpha.c, Node.c, Network.c, Stamp.c] <;> rfl)) (ih1 (i1 + 1) ((w1_2) ++ ([y31])) (dn hd1) h)
theorem d_impl_RenameCond_good {a0_ : Cond} {a1_ : List Pair} {r : Cond} (h : d_impl_RenameCond a0_ a1_ = some r) : Good Tryd.prog 20 [D.agg (Cond.c a0_), D.sl ((a1_).map Pair.c)] (D.agg [D.int .i64 (r.kind), D.str (r.pat.rel), D.fr 9 1 ((r.pat.args).map tx), D.str (r.left), D.str (r.right)]) := by
  refine gd Tryd.func20 [[none, none, some (9, 1), none, none]] 44 fun hr Γ hΓ => ?_
  rw [d_impl_RenameCond] at h
  obtain ⟨y1, h2, h⟩ := den_bind h
  obtain ⟨y3, h4, h⟩ := den_bind h
  refine ((((pre0.a [.n 12]).g (d_impl_renamedText_good h2)).g (d_impl_renamedText_good h4)).a [.pb 2 2 9 1, .cn [1, 4, 5, 26, 27, 28] [1, 2, 3]]).lp hΓ (d_impl_RenameCond_L1w hΓ (fun q1_2 h => ?_) (by have := (Rdb.sl (Rdb.agg (hr _ (List.mem_of_getElem? (i := 0) rfl)) (.sl ((a0_.pat.args).map tx)) (by simp))).1; simpa using this) (a0_.pat.args) 0 (([] : List Bytes)) rfl h)
  cases h; exact pre0.ret hΓ
def d_impl_ShapeOf (a0_ : Fact) : Option Fact := ((d_impl_plainPairs (a0_.args)).bind fun y1 => ((d_impl_RenameCond ((⟨0, a0_, [], []⟩ : Cond)) (y1)).bind fun y3 => (some (y3.pat))))
theorem d_impl_ShapeOf_good {a0_ : Fact} {r : Fact} (h : d_impl_ShapeOf a0_ = some r) : Good Tryd.prog 7 [D.agg (Fact.c a0_)] (D.agg [D.str (r.rel), D.fr 9 1 ((r.args).map tx)]) := by
  refine gd Tryd.func7 [[none, some (9, 1)]] 10 fun hr Γ hΓ => ?_
  rw [d_impl_ShapeOf] at h
  obtain ⟨y1, h2, h⟩ := den_bind h
  obtain ⟨y3, h4, h⟩ := den_bind h
  cases h; exact ((((pre0.a [.n 5]).g (d_impl_plainPairs_good h2)).w (show Good Tryd.prog 20 [D.agg [D.int .i64 (0), D.str (a0_.rel), D.sl ((a0_.args).map tx), D.str ([]), D.str ([])], D.sl ((y1).map Pair.c)] (D.agg [D.int .i64 (y3.kind), D.str (y3.pat.rel), D.fr 9 1 ((y3.pat.args).map tx), D.str (y3.left), D.str (y3.right)]) from by first | (simpa only [List.map_append, List.map_cons, List.map_nil, List.map_drop, List.map_take] using d_impl_RenameCond_good h4) | exact d_impl_RenameCond_good h4)).a [.d (D.agg [D.int .i64 (y3.kind), D.str (y3.pat.rel), D.fr 9 1 ((y3.pat.args).map tx), D.str (y3.left), D.str (y3.right)])]).ret hΓ
def d_impl_sameTexts_L1 (a0_ : List Bytes) (a1_ : List Bytes) (k1 : Option Bool) : List Bytes → Nat → Option Bool
  | [], i1 => (k1 )
  | x1_ :: xs1, i1 => ((atI (a1_) ((i1 : Int))).bind fun x22 => (bif !((x1_ : Bytes) == (x22)) then (some (false)) else (d_impl_sameTexts_L1 a0_ a1_ k1 xs1 (i1 + 1) )))
def d_impl_sameTexts (a0_ : List Bytes) (a1_ : List Bytes) : Option Bool := (bif ((((a0_).map tx).length : Int) : Int) != ((((a1_).map tx).length : Int)) then (some (false)) else (d_impl_sameTexts_L1 a0_ a1_ (some (true)) (a0_) 0 ))
def d_impl_sameTexts_S1 (a0_ : List Bytes) (a1_ : List Bytes) (ix_ : Int) : St := ⟨[(0, D.sl ((a0_).map tx)), (1, D.sl ((a1_).map tx)), (12, D.int .i64 ((((a0_).map tx).length : Int))), (13, D.int .i64 (ix_))], []⟩
theorem d_impl_sameTexts_L1w (hΓ : Γ.nt = 26) {a0_ : List Bytes} {a1_ : List Bytes} {r : Bool} {k1 : Option Bool} (hE1 : k1 = some r → Ax Γ N Tryd.f22 (.q [[none]] (D.bool (r))) [1, 1, 1] ⟨[], []⟩) (hm1 : (a0_).length ≤ maxLen) : ∀ (rest : List Bytes) (i1 : Nat) , (a0_).drop i1 = rest → d_impl_sameTexts_L1 a0_ a1_ k1 rest i1  = some r → Ar Γ N Tryd.f22 (.q [[none]] (D.bool (r))) [1, 1, 0, 1, 0] (rest.length + 1) (d_impl_sameTexts_S1 a0_ a1_ ((i1 : Int))) := by
  intro rest
  induction rest with
  | nil =>
    intro i1  hd1 h
    rw [d_impl_sameTexts_L1] at h
    refine AWr_succ fun N1 hN1 hS1 => ?_
    exact ((pre0.ge tx hd1).a [.hl 0 [] []]).ex hΓ hN1 (hE1 h)
  | cons x1_ xs1 ih1 =>
    intro i1  hd1 h
    rw [d_impl_sameTexts_L1] at h
    refine AWr_succ fun N1 hN1 hS1 => ?_
    obtain ⟨x22, h23, h⟩ := den_bind h
    have o2_ := ((((pre0.lt tx hd1).a [.n 8]).l (map_row tx 1 (dc hd1) rfl)).l (at_row tx 1 h23 rfl))
    obtain ⟨h24, h⟩ | ⟨h24, h⟩ := den_if h
    · have h := den_some h; subst h; exact (o2_.b h24).ret hΓ
    · exact ((o2_.b h24).a [.cn [0, 1, 12, 13] []]).ct hΓ hS1 (iS hd1 hm1) (ih1 (i1 + 1)  (dn hd1) h)
theorem d_impl_sameTexts_good {a0_ : List Bytes} {a1_ : List Bytes} {r : Bool} (h : d_impl_sameTexts a0_ a1_ = some r) : Good Tryd.prog 22 [D.sl ((a0_).map tx), D.sl ((a1_).map tx)] (D.bool (r)) := by
  refine gd Tryd.func22 [[none]] 26 fun hr Γ hΓ => ?_
  rw [d_impl_sameTexts] at h
  obtain ⟨h1, h⟩ | ⟨h1, h⟩ := den_if h
  · have h := den_some h; subst h; exact (pre0.b h1).ret hΓ
  · refine ((pre0.b h1).a [.cn [0, 1, 12, 13] []]).lp hΓ (d_impl_sameTexts_L1w hΓ (fun h => ?_) (by have := (Rdb.sl (hr _ (List.mem_of_getElem? (i := 0) rfl))).1; simpa using this) (a0_) 0  rfl h)
    have h := den_some h; subst h; exact pre0.ret hΓ
def d_impl_SamePattern (a0_ : Fact) (a1_ : Fact) : Option Bool := (bif (a0_.rel : Bytes) == (a1_.rel) then ((d_impl_sameTexts (a0_.args) (a1_.args)).bind fun y2 => (some (y2))) else (some (false)))
theorem d_impl_SamePattern_good {a0_ : Fact} {a1_ : Fact} {r : Bool} (h : d_impl_SamePattern a0_ a1_ = some r) : Good Tryd.prog 8 [D.agg (Fact.c a0_), D.agg (Fact.c a1_)] (D.bool (r)) := by
  refine gd Tryd.func8 [[none]] 17 fun hr Γ hΓ => ?_
  rw [d_impl_SamePattern] at h
  obtain ⟨h1, h⟩ | ⟨h1, h⟩ := den_if h
  · obtain ⟨y2, h3, h⟩ := den_bind h
    have h := den_some h; subst h; exact (((pre0.r 5 h1).g (d_impl_sameTexts_good h3)).b h1).ret hΓ
  · have h := den_some h; subst h; exact (pre0.r 6 h1).ret hΓ
def d_spec_l1In (a0_ : Int) (a1_ : Int) (a2_ : Int) : Option Bool := (bif decide ((a0_ : Int) ≥ (a1_)) then (some (decide ((a0_ : Int) ≤ (a2_)))) else (some (false)))
theorem d_spec_l1In_good {a0_ : Int} {a1_ : Int} {a2_ : Int} {r : Bool} (h : d_spec_l1In a0_ a1_ a2_ = some r) : Good Tryd.prog 49 [D.int .i64 (a0_), D.int .i64 (a1_), D.int .i64 (a2_)] (D.bool (r)) := by
  refine gd Tryd.func49 [[none]] 15 fun hr Γ hΓ => ?_
  rw [d_spec_l1In] at h
  obtain ⟨h1, h⟩ | ⟨h1, h⟩ := den_if h
  · cases h; exact (pre0.r 4 h1).ret hΓ
  · have h := den_some h; subst h; exact (pre0.r 4 h1).ret hΓ
def d_spec_IsAtom_L1 (a0_ : Bytes) (k1 : Option Bool) : Nat → Int → Option Bool
  | 0, _ => none
  | n1 + 1, v1_3 => (bif decide ((v1_3 : Int) < (((a0_).length : Int))) then ((atI (a0_) (v1_3)).bind fun b29 => ((d_spec_l1In (IntKind.i64.wrap (b29.toNat)) (97) (122)).bind fun y31 => (bif !(y31) then ((d_spec_l1In (IntKind.i64.wrap (b29.toNat)) (48) (57)).bind fun y34 => (bif !(y34) then (some (false)) else (d_spec_IsAtom_L1 a0_ k1 n1 (IntKind.i64.wrap ((v1_3) + (1)))))) else (d_spec_IsAtom_L1 a0_ k1 n1 (IntKind.i64.wrap ((v1_3) + (1))))))) else (k1 ))
def d_spec_IsAtom (a0_ : Bytes) : Option Bool := (d_spec_IsAtom_L1 a0_ ((d_spec_l1In (((a0_).length : Int)) (1) (8)).bind fun y37 => (some (y37))) fuel (0))
def d_spec_IsAtom_S1 (a0_ : Bytes) (v1_3 : Int) : St := ⟨[(0, D.str (a0_)), (3, D.int .i64 (v1_3))], []⟩
theorem d_spec_IsAtom_L1w (hΓ : Γ.nt = 27) {a0_ : Bytes} {r : Bool} {k1 : Option Bool} (hE1 : k1 = some r → Ax Γ N Tryd.f35 (.q [[none]] (D.bool (r))) [1, 1] ⟨[(0, D.str (a0_))], []⟩) : ∀ (n1 : Nat) (v1_3 : Int), d_spec_IsAtom_L1 a0_ k1 n1 v1_3 = some r → Ar Γ N Tryd.f35 (.q [[none]] (D.bool (r))) [1, 0, 1, 0] n1 (d_spec_IsAtom_S1 a0_ v1_3) := by
  intro n
  induction n with
  | zero => intro v1_3 h; simp [d_spec_IsAtom_L1] at h
  | succ n1 ih1 =>
    intro v1_3 h
    rw [d_spec_IsAtom_L1] at h
    refine AWr_succ fun N1 hN1 hS1 => ?_
    obtain ⟨h28, h⟩ | ⟨h28, h⟩ := den_if h
    · obtain ⟨b29, h30, h⟩ := den_bind h
      obtain ⟨y31, h32, h⟩ := den_bind h
      have o3_ := (((pre0.b h28).c h30).g (d_spec_l1In_good h32))
      obtain ⟨h33, h⟩ | ⟨h33, h⟩ := den_if h
      · obtain ⟨y34, h35, h⟩ := den_bind h
        have o4_ := (((((o3_.r 3 h33).c h30).r 2 h33).g (d_spec_l1In_good h35)).r 2 h33)
        obtain ⟨h36, h⟩ | ⟨h36, h⟩ := den_if h
        · have h := den_some h; subst h; exact (o4_.b h36).ret hΓ
        · exact ((o4_.b h36).a [.cn [0, 3] []]).cf hΓ hS1 (ih1 (IntKind.i64.wrap ((v1_3) + (1))) h)
      · exact (((o3_.r 7 h33).F 1).a [.cn [0, 3] []]).cf hΓ hS1 (ih1 (IntKind.i64.wrap ((v1_3) + (1))) h)
    · exact ((pre0.b h28).a [.hl 0 [0] []]).ex hΓ hN1 (hE1 h)
theorem d_spec_IsAtom_good {a0_ : Bytes} {r : Bool} (h : d_spec_IsAtom a0_ = some r) : Good Tryd.prog 35 [D.str (a0_)] (D.bool (r)) := by
  refine gd Tryd.func35 [[none]] 27 fun hr Γ hΓ => ?_
  rw [d_spec_IsAtom] at h
  refine (pre0.a [.cn [0, 3] []]).lp hΓ (d_spec_IsAtom_L1w hΓ (fun h => ?_) fuel (0) h)
  obtain ⟨y37, h38, h⟩ := den_bind h
  have h := den_some h; subst h; exact (pre0.g (d_spec_l1In_good h38)).ret hΓ
def d_spec_IsVar (a0_ : Bytes) : Option Bool := (bif decide ((((a0_).length : Int) : Int) > (1)) then ((atI (a0_) (0)).bind fun b2 => (bif (b2.toNat : Int) == (63) then ((pcut (a0_).length (some (D.int .i64 (1))) (none)).bind fun p => (fun l5 u6 => ((d_spec_IsAtom (((a0_).take u6).drop l5)).bind fun y8 => (some (y8)))) p.1 p.2) else (some (false)))) else (some (false)))
theorem d_spec_IsVar_good {a0_ : Bytes} {r : Bool} (h : d_spec_IsVar a0_ = some r) : Good Tryd.prog 48 [D.str (a0_)] (D.bool (r)) := by
  refine gd Tryd.func48 [[none]] 16 fun hr Γ hΓ => ?_
  rw [d_spec_IsVar] at h
  obtain ⟨h1, h⟩ | ⟨h1, h⟩ := den_if h
  · obtain ⟨b2, h3, h⟩ := den_bind h
    have o1_ := (((pre0.r 2 h1).c h3).r 2 h1)
    obtain ⟨h4, h⟩ | ⟨h4, h⟩ := den_if h
    · obtain ⟨⟨l5, u6⟩, h7, h⟩ := den_bind h
      obtain ⟨y8, h9, h⟩ := den_bind h
      have h := den_some h; subst h; exact ((((((o1_.r 2 h4).w h7).a [.cut l5 u6]).b h4).g (d_spec_IsAtom_good h9)).b h4).ret hΓ
    · have h := den_some h; subst h; exact (o1_.r 4 h4).ret hΓ
  · have h := den_some h; subst h; exact ((pre0.r 4 h1).F 4).ret hΓ
def d_spec_IsTerm (a0_ : Bytes) : Option Bool := ((d_spec_IsAtom (a0_)).bind fun y1 => (bif y1 then (some (true)) else ((d_spec_IsVar (a0_)).bind fun y4 => (some (y4)))))
theorem d_spec_IsTerm_good {a0_ : Bytes} {r : Bool} (h : d_spec_IsTerm a0_ = some r) : Good Tryd.prog 23 [D.str (a0_)] (D.bool (r)) := by
  refine gd Tryd.func23 [[none]] 9 fun hr Γ hΓ => ?_
  rw [d_spec_IsTerm] at h
  obtain ⟨y1, h2, h⟩ := den_bind h
  obtain ⟨h3, h⟩ | ⟨h3, h⟩ := den_if h
  · have h := den_some h; subst h; exact ((pre0.g (d_spec_IsAtom_good h2)).r 3 h3).ret hΓ
  · obtain ⟨y4, h5, h⟩ := den_bind h
    have h := den_some h; subst h; exact ((((pre0.g (d_spec_IsAtom_good h2)).r 2 h3).g (d_spec_IsVar_good h5)).b h3).ret hΓ
def d_spec_IsName (a0_ : Bytes) : Option Bool := ((d_spec_IsAtom (a0_)).bind fun y1 => (bif y1 then ((atI (a0_) (0)).bind fun b4 => ((d_spec_l1In (IntKind.i64.wrap (b4.toNat)) (97) (122)).bind fun y6 => (some (y6)))) else (some (false))))
theorem d_spec_IsName_good {a0_ : Bytes} {r : Bool} (h : d_spec_IsName a0_ = some r) : Good Tryd.prog 24 [D.str (a0_)] (D.bool (r)) := by
  refine gd Tryd.func24 [[none]] 11 fun hr Γ hΓ => ?_
  rw [d_spec_IsName] at h
  obtain ⟨y1, h2, h⟩ := den_bind h
  obtain ⟨h3, h⟩ | ⟨h3, h⟩ := den_if h
  · obtain ⟨b4, h5, h⟩ := den_bind h
    obtain ⟨y6, h7, h⟩ := den_bind h
    have h := den_some h; subst h; exact ((((((pre0.g (d_spec_IsAtom_good h2)).r 2 h3).c h5).r 2 h3).g (d_spec_l1In_good h7)).b h3).ret hΓ
  · have h := den_some h; subst h; exact ((pre0.g (d_spec_IsAtom_good h2)).r 5 h3).ret hΓ
def d_spec_IsPattern_L1 (a0_ : Fact) (k1 : Option Bool) : List Bytes → Nat → Option Bool
  | [], i1 => (k1 )
  | x1_ :: xs1, i1 => ((d_spec_IsTerm (x1_)).bind fun y21 => (bif !(y21) then (some (false)) else (d_spec_IsPattern_L1 a0_ k1 xs1 (i1 + 1) )))
def d_spec_IsPattern (a0_ : Fact) : Option Bool := (d_spec_IsPattern_L1 a0_ ((d_spec_IsName (a0_.rel)).bind fun y24 => (bif y24 then (some (decide (((((a0_.args).map tx).length : Int) : Int) ≤ (3)))) else (some (false)))) (a0_.args) 0 )
def d_spec_IsPattern_S1 (a0_ : Fact) (ix_ : Int) : St := ⟨[(1, D.ptr 0 0), (3, D.int .i64 (ix_))], [Ob.box (Fact.c a0_)]⟩
theorem d_spec_IsPattern_L1w (hΓ : Γ.nt = 27) {a0_ : Fact} {r : Bool} {k1 : Option Bool} (hE1 : k1 = some r → Ax Γ N Tryd.f9 (.q [[none]] (D.bool (r))) [1, 1] ⟨[(1, D.ptr 0 0)], [Ob.box (Fact.c a0_)]⟩) (hm1 : (a0_.args).length ≤ maxLen) : ∀ (rest : List Bytes) (i1 : Nat) , (a0_.args).drop i1 = rest → d_spec_IsPattern_L1 a0_ k1 rest i1  = some r → Ar Γ N Tryd.f9 (.q [[none]] (D.bool (r))) [1, 0, 1, 0] (rest.length + 1) (d_spec_IsPattern_S1 a0_ ((i1 : Int))) := by
  intro rest
  induction rest with
  | nil =>
    intro i1  hd1 h
    rw [d_spec_IsPattern_L1] at h
    refine AWr_succ fun N1 hN1 hS1 => ?_
    exact ((pre0.ge tx hd1).a [.hl 0 [1] [0]]).ex hΓ hN1 (hE1 h)
  | cons x1_ xs1 ih1 =>
    intro i1  hd1 h
    rw [d_spec_IsPattern_L1] at h
    refine AWr_succ fun N1 hN1 hS1 => ?_
    obtain ⟨y21, h22, h⟩ := den_bind h
    have o2_ := (((pre0.lt tx hd1).l (map_row tx 1 (dc hd1) rfl)).g (d_spec_IsTerm_good h22))
    obtain ⟨h23, h⟩ | ⟨h23, h⟩ := den_if h
    · have h := den_some h; subst h; exact (o2_.b h23).ret hΓ
    · exact ((o2_.b h23).a [.cn [1, 3] [0]]).ct hΓ hS1 (iS hd1 hm1) (ih1 (i1 + 1)  (dn hd1) h)
theorem d_spec_IsPattern_good {a0_ : Fact} {r : Bool} (h : d_spec_IsPattern a0_ = some r) : Good Tryd.prog 9 [D.agg (Fact.c a0_)] (D.bool (r)) := by
  refine gd Tryd.func9 [[none]] 27 fun hr Γ hΓ => ?_
  rw [d_spec_IsPattern] at h
  refine (pre0.a [.cn [1, 3] [0]]).lp hΓ (d_spec_IsPattern_L1w hΓ (fun h => ?_) (by have := (Rdb.sl (Rdb.agg (hr _ (List.mem_of_getElem? (i := 0) rfl)) (.sl ((a0_.args).map tx)) (by simp))).1; simpa using this) (a0_.args) 0  rfl h)
  obtain ⟨y24, h25, h⟩ := den_bind h
  obtain ⟨h26, h⟩ | ⟨h26, h⟩ := den_if h
  · cases h; exact ((pre0.g (d_spec_IsName_good h25)).r 5 h26).ret hΓ
  · have h := den_some h; subst h; exact ((pre0.g (d_spec_IsName_good h25)).r 5 h26).ret hΓ
def d_impl_IsName (a0_ : Bytes) : Option Bool := ((d_impl_IsAtom (a0_)).bind fun y1 => (bif y1 then ((atI (a0_) (0)).bind fun b4 => (some (decide ((b4.toNat : Int) ≥ (97))))) else (some (false))))
theorem d_impl_IsName_good {a0_ : Bytes} {r : Bool} (h : d_impl_IsName a0_ = some r) : Good Tryd.prog 50 [D.str (a0_)] (D.bool (r)) := by
  refine gd Tryd.func50 [[none]] 10 fun hr Γ hΓ => ?_
  rw [d_impl_IsName] at h
  obtain ⟨y1, h2, h⟩ := den_bind h
  obtain ⟨h3, h⟩ | ⟨h3, h⟩ := den_if h
  · obtain ⟨b4, h5, h⟩ := den_bind h
    cases h; exact ((((pre0.g (d_impl_IsAtom_good h2)).r 2 h3).c h5).r 2 h3).ret hΓ
  · have h := den_some h; subst h; exact ((pre0.g (d_impl_IsAtom_good h2)).r 4 h3).ret hΓ
def d_impl_IsTerm (a0_ : Bytes) : Option Bool := ((d_impl_IsAtom (a0_)).bind fun y1 => (bif y1 then (some (true)) else ((d_impl_IsVar (a0_)).bind fun y4 => (some (y4)))))
theorem d_impl_IsTerm_good {a0_ : Bytes} {r : Bool} (h : d_impl_IsTerm a0_ = some r) : Good Tryd.prog 51 [D.str (a0_)] (D.bool (r)) := by
  refine gd Tryd.func51 [[none]] 9 fun hr Γ hΓ => ?_
  rw [d_impl_IsTerm] at h
  obtain ⟨y1, h2, h⟩ := den_bind h
  obtain ⟨h3, h⟩ | ⟨h3, h⟩ := den_if h
  · have h := den_some h; subst h; exact ((pre0.g (d_impl_IsAtom_good h2)).r 3 h3).ret hΓ
  · obtain ⟨y4, h5, h⟩ := den_bind h
    have h := den_some h; subst h; exact ((((pre0.g (d_impl_IsAtom_good h2)).r 2 h3).g (d_impl_IsVar_good h5)).b h3).ret hΓ
def d_impl_IsPattern_L1 (a0_ : Fact) (k1 : Option Bool) : List Bytes → Nat → Option Bool
  | [], i1 => (k1 )
  | x1_ :: xs1, i1 => ((d_impl_IsTerm (x1_)).bind fun y25 => (bif !(y25) then (some (false)) else (d_impl_IsPattern_L1 a0_ k1 xs1 (i1 + 1) )))
def d_impl_IsPattern (a0_ : Fact) : Option Bool := ((d_impl_IsName (a0_.rel)).bind fun y1 => (bif !(y1) then (some (false)) else (bif decide (((((a0_.args).map tx).length : Int) : Int) > (3)) then (some (false)) else (d_impl_IsPattern_L1 a0_ (some (true)) (a0_.args) 0 ))))
def d_impl_IsPattern_S1 (a0_ : Fact) (ix_ : Int) : St := ⟨[(16, D.sl ((a0_.args).map tx)), (17, D.int .i64 ((((a0_.args).map tx).length : Int))), (18, D.int .i64 (ix_))], []⟩
theorem d_impl_IsPattern_L1w (hΓ : Γ.nt = 26) {a0_ : Fact} {r : Bool} {k1 : Option Bool} (hE1 : k1 = some r → Ax Γ N Tryd.f25 (.q [[none]] (D.bool (r))) [1, 1, 1] ⟨[], []⟩) (hm1 : (a0_.args).length ≤ maxLen) : ∀ (rest : List Bytes) (i1 : Nat) , (a0_.args).drop i1 = rest → d_impl_IsPattern_L1 a0_ k1 rest i1  = some r → Ar Γ N Tryd.f25 (.q [[none]] (D.bool (r))) [1, 1, 0, 1, 0] (rest.length + 1) (d_impl_IsPattern_S1 a0_ ((i1 : Int))) := by
  intro rest
  induction rest with
  | nil =>
    intro i1  hd1 h
    rw [d_impl_IsPattern_L1] at h
    refine AWr_succ fun N1 hN1 hS1 => ?_
    exact ((pre0.ge tx hd1).a [.hl 0 [] []]).ex hΓ hN1 (hE1 h)
  | cons x1_ xs1 ih1 =>
    intro i1  hd1 h
    rw [d_impl_IsPattern_L1] at h
    refine AWr_succ fun N1 hN1 hS1 => ?_
    obtain ⟨y25, h26, h⟩ := den_bind h
    have o2_ := (((pre0.lt tx hd1).l (map_row tx 1 (dc hd1) rfl)).g (d_impl_IsTerm_good h26))
    obtain ⟨h27, h⟩ | ⟨h27, h⟩ := den_if h
    · have h := den_some h; subst h; exact (o2_.b h27).ret hΓ
    · exact ((o2_.b h27).a [.cn [16, 17, 18] []]).ct hΓ hS1 (iS hd1 hm1) (ih1 (i1 + 1)  (dn hd1) h)
theorem d_impl_IsPattern_good {a0_ : Fact} {r : Bool} (h : d_impl_IsPattern a0_ = some r) : Good Tryd.prog 25 [D.agg (Fact.c a0_)] (D.bool (r)) := by
  refine gd Tryd.func25 [[none]] 26 fun hr Γ hΓ => ?_
  rw [d_impl_IsPattern] at h
  obtain ⟨y1, h2, h⟩ := den_bind h
  obtain ⟨h3, h⟩ | ⟨h3, h⟩ := den_if h
  · have h := den_some h; subst h; exact (((pre0.g (d_impl_IsName_good h2)).r 5 h3).T 1).ret hΓ
  · have o3_ := ((pre0.g (d_impl_IsName_good h2)).r 5 h3)
    obtain ⟨h4, h⟩ | ⟨h4, h⟩ := den_if h
    · have h := den_some h; subst h; exact (o3_.b h4).ret hΓ
    · refine ((o3_.b h4).a [.cn [16, 17, 18] []]).lp hΓ (d_impl_IsPattern_L1w hΓ (fun h => ?_) (by have := (Rdb.sl (Rdb.agg (hr _ (List.mem_of_getElem? (i := 0) rfl)) (.sl ((a0_.args).map tx)) (by simp))).1; simpa using this) (a0_.args) 0  rfl h)
      have h := den_some h; subst h; exact pre0.ret hΓ
def d_impl_CoversPattern_L1 (a0_ : Fact) (a1_ : Fact) (k1 : Option Bool) : List Bytes → Nat → List (Bytes × Bytes) → Option Bool
  | [], i1, m1_1 => (k1 )
  | x1_ :: xs1, i1, m1_1 => ((d_impl_IsAtom (x1_)).bind fun y80 => (bif y80 then ((atI (a1_.args) ((i1 : Int))).bind fun x83 => (bif !((x1_ : Bytes) == (x83)) then (some (false)) else (d_impl_CoversPattern_L1 a0_ a1_ k1 xs1 (i1 + 1) (m1_1)))) else (bif mHas (x1_) (m1_1) then ((atI (a1_.args) ((i1 : Int))).bind fun x87 => (bif !((mGet ([] : Bytes) (x1_) (m1_1) : Bytes) == (x87)) then (some (false)) else (d_impl_CoversPattern_L1 a0_ a1_ k1 xs1 (i1 + 1) (mPut (x1_) (x87) (m1_1))))) else ((atI (a1_.args) ((i1 : Int))).bind fun x90 => (d_impl_CoversPattern_L1 a0_ a1_ k1 xs1 (i1 + 1) (mPut (x1_) (x90) (m1_1)))))))
def d_impl_CoversPattern (a0_ : Fact) (a1_ : Fact) : Option Bool := ((d_impl_IsPattern (a0_)).bind fun y1 => (bif !(y1) then (some (false)) else ((d_impl_IsPattern (a1_)).bind fun y4 => (bif !(y4) then (some (false)) else (bif !((a0_.rel : Bytes) == (a1_.rel)) then (some (false)) else (bif ((((a0_.args).map tx).length : Int) : Int) != ((((a1_.args).map tx).length : Int)) then (some (false)) else (d_impl_CoversPattern_L1 a0_ a1_ (some (true)) (a0_.args) 0 (([] : List (Bytes × Bytes))))))))))
def d_impl_CoversPattern_S1 (a0_ : Fact) (a1_ : Fact) (W0 : List (D × D)) (ix_ : Int) : St := ⟨[(3, D.ptr 0 0), (5, D.acc 1), (36, D.sl ((a0_.args).map tx)), (37, D.int .i64 ((((a0_.args).map tx).length : Int))), (38, D.int .i64 (ix_))], [Ob.box (Fact.c a1_), Ob.mp (W0)]⟩
theorem d_impl_CoversPattern_L1w (hΓ : Γ.nt = 76) {a0_ : Fact} {a1_ : Fact} {r : Bool} {k1 : Option Bool} (hE1 : k1 = some r → Ax Γ N Tryd.f10 (.q [[none]] (D.bool (r))) [1, 1, 1, 1] ⟨[], []⟩) (hm1 : (a0_.args).length ≤ maxLen) : ∀ (rest : List Bytes) (i1 : Nat) (m1_1 : List (Bytes × Bytes)), (a0_.args).drop i1 = rest → d_impl_CoversPattern_L1 a0_ a1_ k1 rest i1 m1_1 = some r → Ar Γ N Tryd.f10 (.q [[none]] (D.bool (r))) [1, 1, 1, 0, 1, 0] (rest.length + 1) (d_impl_CoversPattern_S1 a0_ a1_ ((m1_1).map (kS eS)) ((i1 : Int))) := by
  intro rest
  induction rest with
  | nil =>
    intro i1 m1_1 hd1 h
    rw [d_impl_CoversPattern_L1] at h
    refine AWr_succ fun N1 hN1 hS1 => ?_
    exact ((pre0.ge tx hd1).a [.hl 0 [] []]).ex hΓ hN1 (hE1 h)
  | cons x1_ xs1 ih1 =>
    intro i1 m1_1 hd1 h
    rw [d_impl_CoversPattern_L1] at h
    refine AWr_succ fun N1 hN1 hS1 => ?_
    obtain ⟨y80, h81, h⟩ := den_bind h
    have o5_ := (((pre0.lt tx hd1).l (map_row tx 1 (dc hd1) rfl)).g (d_impl_IsAtom_good h81))
    obtain ⟨h82, h⟩ | ⟨h82, h⟩ := den_if h
    · obtain ⟨x83, h84, h⟩ := den_bind h
      have o6_ := ((o5_.b h82).l (at_row tx 1 h84 rfl))
      obtain ⟨h85, h⟩ | ⟨h85, h⟩ := den_if h
      · have h := den_some h; subst h; exact (o6_.b h85).ret hΓ
      · exact ((o6_.b h85).a [.cn [3, 5, 36, 37, 38] [0, 1]]).ct hΓ hS1 (iS hd1 hm1) (ih1 (i1 + 1) (m1_1) (dn hd1) h)
    · have o7_ := (((o5_.b h82).w (show plk Tryd.prog 52 ((m1_1).map (kS eS)) (D.str (x1_)) true = some (D.tup [D.str (mGet ([] : Bytes) (x1_) (m1_1)), D.bool (mHas (x1_) (m1_1))]) from lk_kSok (e := eS) (z := ([] : Bytes)) (by kernel_rfl))).a [.d (D.tup [D.str (mGet ([] : Bytes) (x1_) (m1_1)), D.bool (mHas (x1_) (m1_1))])])
      obtain ⟨h86, h⟩ | ⟨h86, h⟩ := den_if h
      · obtain ⟨x87, h88, h⟩ := den_bind h
        have o8_ := (((o7_.r 5 h86).l (at_row tx 1 h88 rfl)).r 3 h86)
        obtain ⟨h89, h⟩ | ⟨h89, h⟩ := den_if h
        · have h := den_some h; subst h; exact (o8_.b h89).ret hΓ
        · exact ((((o8_.b h89).l (at_row tx 1 h88 rfl)).w (show kvPut (D.str (x1_)) (D.str (x87)) ((m1_1).map (kS eS)) = some ((mPut (x1_) (x87) (m1_1)).map (kS eS)) from put_kS (e := eS) (m := m1_1))).a [.kv ((mPut (x1_) (x87) (m1_1)).map (kS eS)), .cn [3, 5, 36, 37, 38] [0, 1]]).ct hΓ hS1 (iS hd1 hm1) (ih1 (i1 + 1) (mPut (x1_) (x87) (m1_1)) (dn hd1) h)
      · obtain ⟨x90, h91, h⟩ := den_bind h
        exact (((((o7_.r 8 h86).F 1).l (at_row tx 1 h91 rfl)).w (show kvPut (D.str (x1_)) (D.str (x90)) ((m1_1).map (kS eS)) = some ((mPut (x1_) (x90) (m1_1)).map (kS eS)) from put_kS (e := eS) (m := m1_1))).a [.kv ((mPut (x1_) (x90) (m1_1)).map (kS eS)), .cn [3, 5, 36, 37, 38] [0, 1]]).ct hΓ hS1 (iS hd1 hm1) (ih1 (i1 + 1) (mPut (x1_) (x90) (m1_1)) (dn hd1) h)
theorem d_impl_CoversPattern_good {a0_ : Fact} {a1_ : Fact} {r : Bool} (h : d_impl_CoversPattern a0_ a1_ = some r) : Good Tryd.prog 10 [D.agg (Fact.c a0_), D.agg (Fact.c a1_)] (D.bool (r)) := by
  refine gd Tryd.func10 [[none]] 76 fun hr Γ hΓ => ?_
  rw [d_impl_CoversPattern] at h
  obtain ⟨y1, h2, h⟩ := den_bind h
  obtain ⟨h3, h⟩ | ⟨h3, h⟩ := den_if h
  · have h := den_some h; subst h; exact (((pre0.g (d_impl_IsPattern_good h2)).r 4 h3).T 15).ret hΓ
  · obtain ⟨y4, h5, h⟩ := den_bind h
    have o9_ := ((((pre0.g (d_impl_IsPattern_good h2)).r 2 h3).g (d_impl_IsPattern_good h5)).r 2 h3)
    obtain ⟨h6, h⟩ | ⟨h6, h⟩ := den_if h
    · have h := den_some h; subst h; exact ((o9_.r 6 h6).T 9).ret hΓ
    · have o10_ := (o9_.r 6 h6)
      obtain ⟨h7, h⟩ | ⟨h7, h⟩ := den_if h
      · have h := den_some h; subst h; exact ((o10_.r 8 h7).T 1).ret hΓ
      · have o11_ := (o10_.r 8 h7)
        obtain ⟨h8, h⟩ | ⟨h8, h⟩ := den_if h
        · have h := den_some h; subst h; exact (o11_.b h8).ret hΓ
        · refine ((o11_.b h8).a [.cn [3, 5, 36, 37, 38] [1, 2]]).lp hΓ (d_impl_CoversPattern_L1w hΓ (fun h => ?_) (by have := (Rdb.sl (Rdb.agg (hr _ (List.mem_of_getElem? (i := 0) rfl)) (.sl ((a0_.args).map tx)) (by simp))).1; simpa using this) (a0_.args) 0 (([] : List (Bytes × Bytes))) rfl h)
          have h := den_some h; subst h; exact pre0.ret hΓ
end Go.Cx
