/- What functions of the program compute, and the walks that show it. No condition. -/
import Derived.Test.YtmifcpepeplijaaGreatDoorPFnAllFoundNLay
namespace Go.Cx
open Go.RowKit Go.Proofs
set_option linter.unusedVariables false
set_option linter.unusedSimpArgs false
set_option maxRecDepth 100000
variable {Γ : Ctx} {N : Nat → St → Prop}
def d_spec_l1New_L1 (a0_ : List Int) (k1 : Int → Option Cur) : List Int → Nat → Int → Option Cur
  | [], i1, v1_3 => (k1 (v1_3))
  | x1_ :: xs1, i1, v1_3 => (bif decide (((i1 : Int) : Int) < (4000)) then (d_spec_l1New_L1 a0_ k1 xs1 (i1 + 1) (bandI .i64 (IntKind.i64.wrap ((IntKind.i64.wrap ((IntKind.i64.wrap ((v1_3) * (167))) + (IntKind.i64.wrap (x1_)))) + (29))) (1073741823))) else (k1 (v1_3)))
def d_spec_l1New (a0_ : List Int) : Option Cur := (bif decide ((a0_).length ≤ maxLen) then (d_spec_l1New_L1 a0_ (fun (z1_3 : Int) => (some ((⟨a0_, 0, z1_3⟩ : Cur)))) (a0_) 0 (IntKind.i64.wrap ((851207) + (IntKind.i64.wrap ((3) * ((((a0_).map yx).length : Int))))))) else none)
def d_spec_l1New_S1 (a0_ : List Int) (v1_3 : Int) (ix_ : Int) : St := ⟨[(0, D.sl ((a0_).map yx)), (3, D.int .i64 (v1_3)), (4, D.int .i64 (ix_))], []⟩
theorem d_spec_l1New_L1w (hΓ : Γ.nt = 33) {a0_ : List Int} {r : Cur} {k1 : Int → Option Cur} (hE1 : ∀ (z1_3 : Int), k1 z1_3 = some r → Ax Γ N Tryz.f42 (.n (Cur.c r)) [1, 1, 1] ⟨[(0, D.sl ((a0_).map yx)), (3, D.int .i64 (z1_3))], []⟩) (hm1 : (a0_).length ≤ maxLen) : ∀ (rest : List Int) (i1 : Nat) (v1_3 : Int), (a0_).drop i1 = rest → d_spec_l1New_L1 a0_ k1 rest i1 v1_3 = some r → Ar Γ N Tryz.f42 (.n (Cur.c r)) [1, 1, 0, 1, 0] (rest.length + 1) (d_spec_l1New_S1 a0_ v1_3 ((i1 : Int))) := by
  intro rest
  induction rest with
  | nil =>
    intro i1 v1_3 hd1 h
    rw [d_spec_l1New_L1] at h
    refine AWr_succ fun N1 hN1 hS1 => ?_
    exact (((((pre0.ge yx hd1).ge yx hd1).ge yx hd1).F 1).a [.hl 0 [0, 3] []]).ex hΓ hN1 (hE1 (v1_3) h)
  | cons x1_ xs1 ih1 =>
    intro i1 v1_3 hd1 h
    rw [d_spec_l1New_L1] at h
    refine AWr_succ fun N1 hN1 hS1 => ?_
    have o1_ := (((pre0.lt yx hd1).lt yx hd1).lt yx hd1)
    obtain ⟨h13, h⟩ | ⟨h13, h⟩ := den_if h
    · exact (((o1_.b h13).l (map_row yx 1 (dc hd1) rfl)).a [.cn [0, 3, 4] []]).ct hΓ hS1 (iS hd1 hm1) (ih1 (i1 + 1) (bandI .i64 (IntKind.i64.wrap ((IntKind.i64.wrap ((IntKind.i64.wrap ((v1_3) * (167))) + (IntKind.i64.wrap (x1_)))) + (29))) (1073741823)) (dn hd1) h)
    · exact ((o1_.b h13).a [.hl 0 [0, 3] []]).ex hΓ hN1 (hE1 (v1_3) h)
theorem d_spec_l1New_good {a0_ : List Int} {r : Cur} (h : d_spec_l1New a0_ = some r) : GoodN Tryz.prog 42 [D.sl ((a0_).map yx)] (Cur.c r) := by
  refine gdN Tryz.func42 33 fun hr Γ hΓ => ?_
  rw [d_spec_l1New] at h
  obtain ⟨h14, h⟩ := den_ok h
  refine (pre0.a [.cn [0, 3, 4] []]).lp hΓ (d_spec_l1New_L1w hΓ (fun z1_3 h => ?_) (of_decide_eq_true h14) (a0_) 0 (IntKind.i64.wrap ((851207) + (IntKind.i64.wrap ((3) * ((((a0_).map yx).length : Int)))))) rfl h)
  cases h; exact pre0.ret hΓ
def d_spec_l1Byte (a0_ : Cur) : Option (Cur × Int) := (bif decide ((a0_.i : Int) < ((((a0_.b).map yx).length : Int))) then ((atI (a0_.b) (a0_.i)).bind fun x2 => (some (((⟨a0_.b, IntKind.i64.wrap ((a0_.i) + (1)), IntKind.i64.wrap ((IntKind.i64.wrap ((a0_.h) * (6364136223846793005))) + (1442695040888963407))⟩ : Cur), bandI .i64 (IntKind.i64.wrap ((bandI .i64 (bxorI .i64 (shrI .i64 (IntKind.i64.wrap ((IntKind.i64.wrap ((a0_.h) * (6364136223846793005))) + (1442695040888963407))) (35)) (shrI .i64 (IntKind.i64.wrap ((IntKind.i64.wrap ((a0_.h) * (6364136223846793005))) + (1442695040888963407))) (45))) (255)) + (IntKind.i64.wrap (x2)))) (255))))) else (some (((⟨a0_.b, a0_.i, IntKind.i64.wrap ((IntKind.i64.wrap ((a0_.h) * (6364136223846793005))) + (1442695040888963407))⟩ : Cur), bandI .i64 (bxorI .i64 (shrI .i64 (IntKind.i64.wrap ((IntKind.i64.wrap ((a0_.h) * (6364136223846793005))) + (1442695040888963407))) (35)) (shrI .i64 (IntKind.i64.wrap ((IntKind.i64.wrap ((a0_.h) * (6364136223846793005))) + (1442695040888963407))) (45))) (255)))))
theorem d_spec_l1Byte_good {a0_ : Cur} {r : Cur × Int} (h : d_spec_l1Byte a0_ = some r) : GoodP Tryz.prog 183 (Cur.c a0_) (Cur.c r.1) [] (D.int .i64 (r.2)) := by
  refine gdP Tryz.func183 [[none, none, none], [none]] 58 [D.sl ((a0_.b).map yx), D.int .i64 (a0_.i), D.int .i64 (a0_.h)] [] [] fun hr v0_ Γ hΓ => ?_
  rw [d_spec_l1Byte] at h
  obtain ⟨h1, h⟩ | ⟨h1, h⟩ := den_if h
  · obtain ⟨x2, h3, h⟩ := den_bind h
    cases h; exact ((((pre0.a [.n 10, .n 9]).b h1).a [.n 12]).l (at_row yx 1 h3 rfl)).ret hΓ
  · cases h; exact ((pre0.a [.n 10, .n 9]).b h1).ret hΓ
def d_spec_l1Below (a0_ : Cur) (a1_ : Int) : Option (Cur × Int) := (bif decide ((a1_ : Int) ≤ (0)) then (some ((a0_, 0))) else (bif decide ((a1_ : Int) ≤ (256)) then ((d_spec_l1Byte (a0_)).bind fun y3 => (bif decide (0 ≤ (y3.2 : Int)) && decide (0 < (a1_ : Int)) then (some ((y3.1, (y3.2 : Int) % (a1_)))) else none)) else ((d_spec_l1Byte (a0_)).bind fun y6 => ((d_spec_l1Byte (y6.1)).bind fun y8 => ((d_spec_l1Byte (y8.1)).bind fun y10 => (bif decide (0 ≤ (IntKind.i64.wrap ((IntKind.i64.wrap ((IntKind.i64.wrap ((y6.2) * (65536))) + (IntKind.i64.wrap ((y8.2) * (256))))) + (y10.2)) : Int)) && decide (0 < (a1_ : Int)) then (some ((y10.1, (IntKind.i64.wrap ((IntKind.i64.wrap ((IntKind.i64.wrap ((y6.2) * (65536))) + (IntKind.i64.wrap ((y8.2) * (256))))) + (y10.2)) : Int) % (a1_)))) else none))))))
theorem d_spec_l1Below_good {a0_ : Cur} {a1_ : Int} {r : Cur × Int} (h : d_spec_l1Below a0_ a1_ = some r) : GoodP Tryz.prog 147 (Cur.c a0_) (Cur.c r.1) [D.int .i64 (a1_)] (D.int .i64 (r.2)) := by
  refine gdP Tryz.func147 [[none, none, none], [none]] 31 [D.sl ((a0_.b).map yx), D.int .i64 (a0_.i), D.int .i64 (a0_.h)] [D.int .i64 (a1_)] [] fun hr v0_ Γ hΓ => ?_
  rw [d_spec_l1Below] at h
  obtain ⟨h1, h⟩ | ⟨h1, h⟩ := den_if h
  · cases h; exact (pre0.b h1).ret hΓ
  · obtain ⟨h2, h⟩ | ⟨h2, h⟩ := den_if h
    · obtain ⟨y3, h4, h⟩ := den_bind h
      obtain ⟨h5, h⟩ := den_ok h
      cases h; exact ((((pre0.b h1).b h2).hp [[none, none, none]] (d_spec_l1Byte_good h4)).w (quo_ok .i64 h5)).ret hΓ
    · obtain ⟨y6, h7, h⟩ := den_bind h
      obtain ⟨y8, h9, h⟩ := den_bind h
      obtain ⟨y10, h11, h⟩ := den_bind h
      obtain ⟨h12, h⟩ := den_ok h
      cases h; exact ((((((pre0.b h1).b h2).hp [[none, none, none]] (d_spec_l1Byte_good h7)).hp [[none, none, none]] (d_spec_l1Byte_good h9)).hp [[none, none, none]] (d_spec_l1Byte_good h11)).w (quo_ok .i64 h12)).ret hΓ
def d_spec_l1Once (a0_ : Cur) (a1_ : Int) : Option (Cur × Bool) := ((d_spec_l1Below (a0_) (a1_)).bind fun y1 => (some ((y1.1, (y1.2 : Int) == (0)))))
theorem d_spec_l1Once_good {a0_ : Cur} {a1_ : Int} {r : Cur × Bool} (h : d_spec_l1Once a0_ a1_ = some r) : GoodP Tryz.prog 101 (Cur.c a0_) (Cur.c r.1) [D.int .i64 (a1_)] (D.bool (r.2)) := by
  refine gdP Tryz.func101 [[none, none, none], [none]] 9 [D.sl ((a0_.b).map yx), D.int .i64 (a0_.i), D.int .i64 (a0_.h)] [D.int .i64 (a1_)] [] fun hr v0_ Γ hΓ => ?_
  rw [d_spec_l1Once] at h
  obtain ⟨y1, h2, h⟩ := den_bind h
  cases h; exact (pre0.hp [[none, none, none], [none]] (d_spec_l1Below_good h2)).ret hΓ
def d_spec_l2Rel (a0_ : Cur) : Option (Cur × (Bytes × Int)) := ((d_spec_l1Below (a0_) (6)).bind fun y1 => ((atI (([[111, 110], [111, 110], [97, 116], [112], [113], [122]] : List Bytes)) (y1.2)).bind fun x3 => ((atI (([2, 2, 2, 1, 1, 0] : List Int)) (y1.2)).bind fun x5 => (some ((y1.1, (x3, x5)))))))
theorem d_spec_l2Rel_good {a0_ : Cur} {r : Cur × (Bytes × Int)} (h : d_spec_l2Rel a0_ = some r) : GoodP Tryz.prog 184 (Cur.c a0_) (Cur.c r.1) [] (D.tup [D.str (r.2.1), D.int .i64 (r.2.2)]) := by
  refine gdP Tryz.func184 [[none, none, none], [none], [none]] 15 [D.sl ((a0_.b).map yx), D.int .i64 (a0_.i), D.int .i64 (a0_.h)] [] [] fun hr v0_ Γ hΓ => ?_
  rw [d_spec_l2Rel] at h
  obtain ⟨y1, h2, h⟩ := den_bind h
  obtain ⟨x3, h4, h⟩ := den_bind h
  obtain ⟨x5, h6, h⟩ := den_bind h
  cases h; exact (((((pre0.hp [[none, none, none], [none]] (d_spec_l1Below_good h2)).a [.n 9, .vw 0]).l (at_row tx 1 h4 rfl)).a [.vw 0]).l (at_row ixx 1 h6 rfl)).ret hΓ
def d_spec_l1Str (a0_ : Cur) (a1_ : List Bytes) : Option (Cur × Bytes) := ((d_spec_l1Below (a0_) ((((a1_).map tx).length : Int))).bind fun y1 => ((atI (a1_) (y1.2)).bind fun x3 => (some ((y1.1, x3)))))
theorem d_spec_l1Str_good {a0_ : Cur} {a1_ : List Bytes} {r : Cur × Bytes} (h : d_spec_l1Str a0_ a1_ = some r) : GoodP Tryz.prog 152 (Cur.c a0_) (Cur.c r.1) [D.fr 9 1 ((a1_).map tx)] (D.str (r.2)) := by
  refine gdP Tryz.func152 [[none, none, none], [none]] 12 [D.sl ((a0_.b).map yx), D.int .i64 (a0_.i), D.int .i64 (a0_.h)] [D.acc 1] [Ob.row .uq 9 1 ((a1_).map tx)] fun hr v0_ Γ hΓ => ?_
  rw [d_spec_l1Str] at h
  obtain ⟨y1, h2, h⟩ := den_bind h
  obtain ⟨x3, h4, h⟩ := den_bind h
  cases h; exact (((pre0.hp [[none, none, none], [none]] (d_spec_l1Below_good h2)).i (own_at tx 1 h4)).o 1 1 .uq (map_get tx (atI_get h4))).ret hΓ
def d_spec_l1Atom (a0_ : Cur) : Option (Cur × Bytes) := ((d_spec_l1Str (a0_) (([[97], [98], [99], [49], [50]] : List Bytes))).bind fun y1 => (some ((y1.1, y1.2))))
theorem d_spec_l1Atom_good {a0_ : Cur} {r : Cur × Bytes} (h : d_spec_l1Atom a0_ = some r) : GoodP Tryz.prog 181 (Cur.c a0_) (Cur.c r.1) [] (D.str (r.2)) := by
  refine gdP Tryz.func181 [[none, none, none], [none]] 6 [D.sl ((a0_.b).map yx), D.int .i64 (a0_.i), D.int .i64 (a0_.h)] [] [] fun hr v0_ Γ hΓ => ?_
  rw [d_spec_l1Atom] at h
  obtain ⟨y1, h2, h⟩ := den_bind h
  cases h; exact (pre0.hp [[none, none, none], [some (9, 1)]] (d_spec_l1Str_good h2)).ret hΓ
def d_spec_l3Term (a0_ : Cur) : Option (Cur × Bytes) := ((d_spec_l1Once (a0_) (4)).bind fun y1 => (bif y1.2 then ((d_spec_l1Atom (y1.1)).bind fun y4 => (some ((y4.1, y4.2)))) else ((d_spec_l1Str (y1.1) (([[63, 120], [63, 121], [63, 122]] : List Bytes))).bind fun y6 => (some ((y6.1, y6.2))))))
theorem d_spec_l3Term_good {a0_ : Cur} {r : Cur × Bytes} (h : d_spec_l3Term a0_ = some r) : GoodP Tryz.prog 193 (Cur.c a0_) (Cur.c r.1) [] (D.str (r.2)) := by
  refine gdP Tryz.func193 [[none, none, none], [none]] 10 [D.sl ((a0_.b).map yx), D.int .i64 (a0_.i), D.int .i64 (a0_.h)] [] [] fun hr v0_ Γ hΓ => ?_
  rw [d_spec_l3Term] at h
  obtain ⟨y1, h2, h⟩ := den_bind h
  obtain ⟨h3, h⟩ | ⟨h3, h⟩ := den_if h
  · obtain ⟨y4, h5, h⟩ := den_bind h
    cases h; exact (((pre0.hp [[none, none, none], [none]] (d_spec_l1Once_good h2)).b h3).hp [[none, none, none]] (d_spec_l1Atom_good h5)).ret hΓ
  · obtain ⟨y6, h7, h⟩ := den_bind h
    cases h; exact (((pre0.hp [[none, none, none], [none]] (d_spec_l1Once_good h2)).b h3).hp [[none, none, none], [some (9, 1)]] (d_spec_l1Str_good h7)).ret hΓ
def d_spec_l3Draw_L1 (y1 : Cur × (Bytes × Int)) (k1 : List Int → Int → Int → List Bytes → Option (Cur × Fact)) : Nat → Int → List Int → Int → Int → List Bytes → Option (Cur × Fact)
  | 0, _, _, _, _, _ => none
  | n1 + 1, v1_6, u1_0_0, u1_0_1, u1_0_2, w1_3 => (bif decide ((v1_6 : Int) < (y1.2.2)) then ((d_spec_l3Term ((⟨u1_0_0, u1_0_1, u1_0_2⟩ : Cur))).bind fun y30 => (bif room (((w1_3).map tx).length + ([[D.str (y30.2)]]).length) 16 then (d_spec_l3Draw_L1 y1 k1 n1 (IntKind.i64.wrap ((v1_6) + (1))) (y30.1.b) (y30.1.i) (y30.1.h) ((w1_3) ++ ([y30.2]))) else none)) else (k1 (u1_0_0) (u1_0_1) (u1_0_2) (w1_3)))
def d_spec_l3Draw (a0_ : Cur) : Option (Cur × Fact) := ((d_spec_l2Rel (a0_)).bind fun y1 => (d_spec_l3Draw_L1 y1 (fun (r1_0_0 : List Int) (r1_0_1 : Int) (r1_0_2 : Int) (q1_3 : List Bytes) => (some (((⟨r1_0_0, r1_0_1, r1_0_2⟩ : Cur), (⟨y1.2.1, q1_3⟩ : Fact))))) fuel (0) (y1.1.b) (y1.1.i) (y1.1.h) (([] : List Bytes))))
def d_spec_l3Draw_S1 (v0_ : Value) (y1 : Cur × (Bytes × Int)) (v1_6 : Int) (u1_0_1 : Int) (u1_0_2 : Int) (W1 : List (List D)) (W4 : List (List D)) : St := ⟨[(0, D.ptr 0 0), (2, D.ptr 1 0), (4, D.int .i64 (y1.2.2)), (5, D.ptr 2 0), (6, D.int .i64 (v1_6))], [Ob.pbx [D.sl (W1), D.int .i64 (u1_0_1), D.int .i64 (u1_0_2)] v0_, Ob.box [D.str ([]), D.nil], Ob.box [D.str (y1.2.1), D.acc 3], Ob.row .uq 9 1 (W4)]⟩
theorem d_spec_l3Draw_L1w (hΓ : Γ.nt = 27) {v0_ : Value} {y1 : Cur × (Bytes × Int)} {r : Cur × Fact} {k1 : List Int → Int → Int → List Bytes → Option (Cur × Fact)} (hE1 : ∀ (r1_0_0 : List Int) (r1_0_1 : Int) (r1_0_2 : Int) (q1_3 : List Bytes), k1 r1_0_0 r1_0_1 r1_0_2 q1_3 = some r → Ax Γ N Tryz.f179 (.p [[none, none, none], [none, some (9, 1)]] v0_ (Cur.c r.1) (D.agg [D.str (r.2.rel), D.fr 9 1 ((r.2.args).map tx)])) [1, 1, 1, 1] ⟨[(2, D.ptr 1 0), (5, D.ptr 2 0)], [Ob.pbx [D.sl ((r1_0_0).map yx), D.int .i64 (r1_0_1), D.int .i64 (r1_0_2)] v0_, Ob.box [D.str ([]), D.nil], Ob.box [D.str (y1.2.1), D.acc 3], Ob.row .uq 9 1 ((q1_3).map tx)]⟩) : ∀ (n1 : Nat) (v1_6 : Int) (u1_0_0 : List Int) (u1_0_1 : Int) (u1_0_2 : Int) (w1_3 : List Bytes), d_spec_l3Draw_L1 y1 k1 n1 v1_6 u1_0_0 u1_0_1 u1_0_2 w1_3 = some r → Ar Γ N Tryz.f179 (.p [[none, none, none], [none, some (9, 1)]] v0_ (Cur.c r.1) (D.agg [D.str (r.2.rel), D.fr 9 1 ((r.2.args).map tx)])) [1, 1, 1, 0, 1, 0] n1 (d_spec_l3Draw_S1 v0_ y1 v1_6 u1_0_1 u1_0_2 ((u1_0_0).map yx) ((w1_3).map tx)) := by
  intro n
  induction n with
  | zero => intro v1_6 u1_0_0 u1_0_1 u1_0_2 w1_3 h; simp [d_spec_l3Draw_L1] at h
  | succ n1 ih1 =>
    intro v1_6 u1_0_0 u1_0_1 u1_0_2 w1_3 h
    rw [d_spec_l3Draw_L1] at h
    refine AWr_succ fun N1 hN1 hS1 => ?_
    obtain ⟨h27, h⟩ | ⟨h27, h⟩ := den_if h
    · obtain ⟨y30, h31, h⟩ := den_bind h
      obtain ⟨h32, h⟩ := den_ok h
      exact (((((pre0.b h27).a [.n2 [0, 1, 2, 3, 4, 5, 6, 7] [0, 1, 2, 3, 4, 5, 6, 7] 3 5 [0, 1] [0], .gp [[none, none, none]] (Cur.c y30.1) (D.str (y30.2))]).w (show GoodP Tryz.prog 193 (Cur.c ((⟨u1_0_0, u1_0_1, u1_0_2⟩ : Cur))) (Cur.c y30.1) [] (D.str (y30.2)) from by simpa only [List.map_append, List.map_cons, List.map_nil, List.map_drop, List.map_take] using d_spec_l3Term_good h31)).w (room_ok h32)).a [.cn [0, 2, 4, 5, 6] [0, 1, 2, 5]]).cs hΓ hS1 (d_spec_l3Draw_S1 v0_ y1 (IntKind.i64.wrap ((v1_6) + (1))) (y30.1.i) (y30.1.h) ((y30.1.b).map yx) (((w1_3).map tx) ++ ([[D.str (y30.2)]]))) (by first | (simp only [mA] <;> rfl) | (simp only [mA, Fact.c, Pair.c, Cond.c, Action.c, Rule.c, Token.c, Match.c, Alpha.c, Node.c, Network.c, Stamp.c] <;> rfl)) (ih1 (IntKind.i64.wrap ((v1_6) + (1))) (y30.1.b) (y30.1.i) (y30.1.h) ((w1_3) ++ ([y30.2])) h)
    · exact ((pre0.b h27).a [.hl 0 [2, 5] [0, 1, 2, 3]]).ex hΓ hN1 (hE1 (u1_0_0) (u1_0_1) (u1_0_2) (w1_3) h)
theorem d_spec_l3Draw_good {a0_ : Cur} {r : Cur × Fact} (h : d_spec_l3Draw a0_ = some r) : GoodP Tryz.prog 179 (Cur.c a0_) (Cur.c r.1) [] (D.agg [D.str (r.2.rel), D.fr 9 1 ((r.2.args).map tx)]) := by
  refine gdP Tryz.func179 [[none, none, none], [none, some (9, 1)]] 27 [D.sl ((a0_.b).map yx), D.int .i64 (a0_.i), D.int .i64 (a0_.h)] [] [] fun hr v0_ Γ hΓ => ?_
  rw [d_spec_l3Draw] at h
  obtain ⟨y1, h2, h⟩ := den_bind h
  refine ((pre0.hp [[none, none, none]] (d_spec_l2Rel_good h2)).a [.pb 2 1 9 1, .cn [0, 2, 4, 5, 6] [0, 1, 2, 3]]).lp hΓ (d_spec_l3Draw_L1w hΓ (fun r1_0_0 r1_0_1 r1_0_2 q1_3 h => ?_) fuel (0) (y1.1.b) (y1.1.i) (y1.1.h) (([] : List Bytes)) h)
  cases h; exact pre0.ret hΓ
def d_spec_l1Int (a0_ : Cur) (a1_ : List Int) : Option (Cur × Int) := ((d_spec_l1Below (a0_) ((((a1_).map ixx).length : Int))).bind fun y1 => ((atI (a1_) (y1.2)).bind fun x3 => (some ((y1.1, x3)))))
theorem d_spec_l1Int_good {a0_ : Cur} {a1_ : List Int} {r : Cur × Int} (h : d_spec_l1Int a0_ a1_ = some r) : GoodP Tryz.prog 149 (Cur.c a0_) (Cur.c r.1) [D.fr 3 1 ((a1_).map ixx)] (D.int .i64 (r.2)) := by
  refine gdP Tryz.func149 [[none, none, none], [none]] 12 [D.sl ((a0_.b).map yx), D.int .i64 (a0_.i), D.int .i64 (a0_.h)] [D.acc 1] [Ob.row .uq 3 1 ((a1_).map ixx)] fun hr v0_ Γ hΓ => ?_
  rw [d_spec_l1Int] at h
  obtain ⟨y1, h2, h⟩ := den_bind h
  obtain ⟨x3, h4, h⟩ := den_bind h
  cases h; exact (((pre0.hp [[none, none, none], [none]] (d_spec_l1Below_good h2)).i (own_at ixx 1 h4)).o 1 1 .uq (map_get ixx (atI_get h4))).ret hΓ
def d_spec_l4Test (a0_ : Cur) (a1_ : Bytes) (a2_ : Bytes) : Option (Cur × Cond) := ((d_spec_l1Int (a0_) (([3, 4, 4, 5] : List Int))).bind fun y1 => (some ((y1.1, (⟨y1.2, (⟨[], []⟩ : Fact), a1_, a2_⟩ : Cond)))))
theorem d_spec_l4Test_good {a0_ : Cur} {a1_ : Bytes} {a2_ : Bytes} {r : Cur × Cond} (h : d_spec_l4Test a0_ a1_ a2_ = some r) : GoodP Tryz.prog 194 (Cur.c a0_) (Cur.c r.1) [D.str (a1_), D.str (a2_)] (D.agg [D.int .i64 (r.2.kind), D.str (r.2.pat.rel), D.fr 9 1 ((r.2.pat.args).map tx), D.str (r.2.left), D.str (r.2.right)]) := by
  refine gdP Tryz.func194 [[none, none, none], [none, none, some (9, 1), none, none]] 13 [D.sl ((a0_.b).map yx), D.int .i64 (a0_.i), D.int .i64 (a0_.h)] [D.str (a1_), D.str (a2_)] [] fun hr v0_ Γ hΓ => ?_
  rw [d_spec_l4Test] at h
  obtain ⟨y1, h2, h⟩ := den_bind h
  cases h; exact (pre0.hp [[none, none, none], [some (3, 1)]] (d_spec_l1Int_good h2)).ret hΓ
def d_spec_l4Draw (a0_ : Cur) : Option (Cur × Cond) := ((d_spec_l1Below (a0_) (5)).bind fun y1 => (bif (y1.2 : Int) == (0) then ((d_spec_l3Draw (y1.1)).bind fun y4 => (some ((y4.1, (⟨1, y4.2, [], []⟩ : Cond))))) else (bif (y1.2 : Int) == (1) then ((d_spec_l3Draw (y1.1)).bind fun y7 => (some ((y7.1, (⟨1, y7.2, [], []⟩ : Cond))))) else (bif (y1.2 : Int) == (2) then ((d_spec_l3Draw (y1.1)).bind fun y10 => (some ((y10.1, (⟨2, y10.2, [], []⟩ : Cond))))) else ((d_spec_l3Term (y1.1)).bind fun y12 => ((d_spec_l3Term (y12.1)).bind fun y14 => ((d_spec_l4Test (y14.1) (y12.2) (y14.2)).bind fun y16 => (some ((y16.1, y16.2))))))))))
theorem d_spec_l4Draw_good {a0_ : Cur} {r : Cur × Cond} (h : d_spec_l4Draw a0_ = some r) : GoodP Tryz.prog 180 (Cur.c a0_) (Cur.c r.1) [] (D.agg [D.int .i64 (r.2.kind), D.str (r.2.pat.rel), D.fr 9 1 ((r.2.pat.args).map tx), D.str (r.2.left), D.str (r.2.right)]) := by
  refine gdP Tryz.func180 [[none, none, none], [none, none, some (9, 1), none, none]] 24 [D.sl ((a0_.b).map yx), D.int .i64 (a0_.i), D.int .i64 (a0_.h)] [] [] fun hr v0_ Γ hΓ => ?_
  rw [d_spec_l4Draw] at h
  obtain ⟨y1, h2, h⟩ := den_bind h
  obtain ⟨h3, h⟩ | ⟨h3, h⟩ := den_if h
  · obtain ⟨y4, h5, h⟩ := den_bind h
    cases h; exact (((pre0.hp [[none, none, none], [none]] (d_spec_l1Below_good h2)).r 2 h3).hp [[none, none, none]] (d_spec_l3Draw_good h5)).ret hΓ
  · have o1_ := ((pre0.hp [[none, none, none], [none]] (d_spec_l1Below_good h2)).b h3)
    obtain ⟨h6, h⟩ | ⟨h6, h⟩ := den_if h
    · obtain ⟨y7, h8, h⟩ := den_bind h
      cases h; exact ((o1_.b h6).hp [[none, none, none]] (d_spec_l3Draw_good h8)).ret hΓ
    · obtain ⟨h9, h⟩ | ⟨h9, h⟩ := den_if h
      · obtain ⟨y10, h11, h⟩ := den_bind h
        cases h; exact (((o1_.b h6).b h9).hp [[none, none, none]] (d_spec_l3Draw_good h11)).ret hΓ
      · obtain ⟨y12, h13, h⟩ := den_bind h
        obtain ⟨y14, h15, h⟩ := den_bind h
        obtain ⟨y16, h17, h⟩ := den_bind h
        cases h; exact (((((o1_.b h6).b h9).hp [[none, none, none]] (d_spec_l3Term_good h13)).hp [[none, none, none]] (d_spec_l3Term_good h15)).hp [[none, none, none], [none], [none]] (d_spec_l4Test_good h17)).ret hΓ
def d_spec_l1In (a0_ : Int) (a1_ : Int) (a2_ : Int) : Option Bool := (bif decide ((a0_ : Int) ≥ (a1_)) then (some (decide ((a0_ : Int) ≤ (a2_)))) else (some (false)))
theorem d_spec_l1In_good {a0_ : Int} {a1_ : Int} {a2_ : Int} {r : Bool} (h : d_spec_l1In a0_ a1_ a2_ = some r) : Good Tryz.prog 45 [D.int .i64 (a0_), D.int .i64 (a1_), D.int .i64 (a2_)] (D.bool (r)) := by
  refine gd Tryz.func45 [[none]] 15 fun hr Γ hΓ => ?_
  rw [d_spec_l1In] at h
  obtain ⟨h1, h⟩ | ⟨h1, h⟩ := den_if h
  · cases h; exact (pre0.r 4 h1).ret hΓ
  · have h := den_some h; subst h; exact (pre0.r 4 h1).ret hΓ
def d_spec_IsAtom_L1 (a0_ : Bytes) (k1 : Option Bool) : Nat → Int → Option Bool
  | 0, _ => none
  | n1 + 1, v1_3 => (bif decide ((v1_3 : Int) < (((a0_).length : Int))) then ((atI (a0_) (v1_3)).bind fun b29 => ((d_spec_l1In (IntKind.i64.wrap (b29.toNat)) (97) (122)).bind fun y31 => (bif !(y31) then ((d_spec_l1In (IntKind.i64.wrap (b29.toNat)) (48) (57)).bind fun y34 => (bif !(y34) then (some (false)) else (d_spec_IsAtom_L1 a0_ k1 n1 (IntKind.i64.wrap ((v1_3) + (1)))))) else (d_spec_IsAtom_L1 a0_ k1 n1 (IntKind.i64.wrap ((v1_3) + (1))))))) else (k1 ))
def d_spec_IsAtom (a0_ : Bytes) : Option Bool := (d_spec_IsAtom_L1 a0_ ((d_spec_l1In (((a0_).length : Int)) (1) (8)).bind fun y37 => (some (y37))) fuel (0))
def d_spec_IsAtom_S1 (a0_ : Bytes) (v1_3 : Int) : St := ⟨[(0, D.str (a0_)), (3, D.int .i64 (v1_3))], []⟩
theorem d_spec_IsAtom_L1w (hΓ : Γ.nt = 27) {a0_ : Bytes} {r : Bool} {k1 : Option Bool} (hE1 : k1 = some r → Ax Γ N Tryz.f72 (.q [[none]] (D.bool (r))) [1, 1] ⟨[(0, D.str (a0_))], []⟩) : ∀ (n1 : Nat) (v1_3 : Int), d_spec_IsAtom_L1 a0_ k1 n1 v1_3 = some r → Ar Γ N Tryz.f72 (.q [[none]] (D.bool (r))) [1, 0, 1, 0] n1 (d_spec_IsAtom_S1 a0_ v1_3) := by
  intro n
  induction n with
  | zero => intro v1_3 h; simp [d_spec_IsAtom_L1] at h
  | succ n1 ih1 =>
    intro v1_3 h
    rw [d_spec_IsAtom_L1] at h
    refine AWr_succ fun N1 hN1 hS1 => ?_
    obtain ⟨h28, h⟩ | ⟨h28, h⟩ := den_if h
    · obtain ⟨b29, h30, h⟩ := den_bind h
      obtain ⟨y31, h32, h⟩ := den_bind h
      have o3_ := (((pre0.b h28).c h30).g (d_spec_l1In_good h32))
      obtain ⟨h33, h⟩ | ⟨h33, h⟩ := den_if h
      · obtain ⟨y34, h35, h⟩ := den_bind h
        have o4_ := (((((o3_.r 3 h33).c h30).r 2 h33).g (d_spec_l1In_good h35)).r 2 h33)
        obtain ⟨h36, h⟩ | ⟨h36, h⟩ := den_if h
        · have h := den_some h; subst h; exact (o4_.b h36).ret hΓ
        · exact ((o4_.b h36).a [.cn [0, 3] []]).cf hΓ hS1 (ih1 (IntKind.i64.wrap ((v1_3) + (1))) h)
      · exact (((o3_.r 7 h33).F 1).a [.cn [0, 3] []]).cf hΓ hS1 (ih1 (IntKind.i64.wrap ((v1_3) + (1))) h)
    · exact ((pre0.b h28).a [.hl 0 [0] []]).ex hΓ hN1 (hE1 h)
theorem d_spec_IsAtom_good {a0_ : Bytes} {r : Bool} (h : d_spec_IsAtom a0_ = some r) : Good Tryz.prog 72 [D.str (a0_)] (D.bool (r)) := by
  refine gd Tryz.func72 [[none]] 27 fun hr Γ hΓ => ?_
  rw [d_spec_IsAtom] at h
  refine (pre0.a [.cn [0, 3] []]).lp hΓ (d_spec_IsAtom_L1w hΓ (fun h => ?_) fuel (0) h)
  obtain ⟨y37, h38, h⟩ := den_bind h
  have h := den_some h; subst h; exact (pre0.g (d_spec_l1In_good h38)).ret hΓ
def d_spec_IsVar (a0_ : Bytes) : Option Bool := (bif decide ((((a0_).length : Int) : Int) > (1)) then ((atI (a0_) (0)).bind fun b2 => (bif (b2.toNat : Int) == (63) then ((pcut (a0_).length (some (D.int .i64 (1))) (none)).bind fun p => (fun l5 u6 => ((d_spec_IsAtom (((a0_).take u6).drop l5)).bind fun y8 => (some (y8)))) p.1 p.2) else (some (false)))) else (some (false)))
theorem d_spec_IsVar_good {a0_ : Bytes} {r : Bool} (h : d_spec_IsVar a0_ = some r) : Good Tryz.prog 107 [D.str (a0_)] (D.bool (r)) := by
  refine gd Tryz.func107 [[none]] 16 fun hr Γ hΓ => ?_
  rw [d_spec_IsVar] at h
  obtain ⟨h1, h⟩ | ⟨h1, h⟩ := den_if h
  · obtain ⟨b2, h3, h⟩ := den_bind h
    have o1_ := (((pre0.r 2 h1).c h3).r 2 h1)
    obtain ⟨h4, h⟩ | ⟨h4, h⟩ := den_if h
    · obtain ⟨⟨l5, u6⟩, h7, h⟩ := den_bind h
      obtain ⟨y8, h9, h⟩ := den_bind h
      have h := den_some h; subst h; exact ((((((o1_.r 2 h4).w h7).a [.cut l5 u6]).b h4).g (d_spec_IsAtom_good h9)).b h4).ret hΓ
    · have h := den_some h; subst h; exact (o1_.r 4 h4).ret hΓ
  · have h := den_some h; subst h; exact ((pre0.r 4 h1).F 4).ret hΓ
def d_spec_l1Put_L1 (a0_ : List Bytes) (a1_ : Bytes) (k1 : Bool → List Bytes → Option (List Bytes)) : List Bytes → Nat → Bool → List Bytes → Option (List Bytes)
  | [], i1, v1_6, w1_0 => (k1 (v1_6) (w1_0))
  | x1_ :: xs1, i1, v1_6, w1_0 => (bif !(v1_6) then (bif !(Op.bytesLess (x1_) (a1_)) then (bif !((x1_ : Bytes) == (a1_)) then (bif room (((w1_0).map tx).length + ([[D.str (a1_)]]).length) 16 then (bif room ((((w1_0).map tx) ++ ([[D.str (a1_)]])).length + ([[D.str (x1_)]]).length) 16 then (d_spec_l1Put_L1 a0_ a1_ k1 xs1 (i1 + 1) (true) (((w1_0) ++ ([a1_])) ++ ([x1_]))) else none) else none) else (bif room (((w1_0).map tx).length + ([[D.str (x1_)]]).length) 16 then (d_spec_l1Put_L1 a0_ a1_ k1 xs1 (i1 + 1) (true) ((w1_0) ++ ([x1_]))) else none)) else (bif room (((w1_0).map tx).length + ([[D.str (x1_)]]).length) 16 then (d_spec_l1Put_L1 a0_ a1_ k1 xs1 (i1 + 1) (v1_6) ((w1_0) ++ ([x1_]))) else none)) else (bif room (((w1_0).map tx).length + ([[D.str (x1_)]]).length) 16 then (d_spec_l1Put_L1 a0_ a1_ k1 xs1 (i1 + 1) (v1_6) ((w1_0) ++ ([x1_]))) else none))
def d_spec_l1Put (a0_ : List Bytes) (a1_ : Bytes) : Option (List Bytes) := (d_spec_l1Put_L1 a0_ a1_ (fun (z1_6 : Bool) (q1_0 : List Bytes) => (bif !(z1_6) then (bif room (((q1_0).map tx).length + ([[D.str (a1_)]]).length) 16 then (some ((q1_0) ++ ([a1_]))) else none) else (some (q1_0)))) (a0_) 0 (false) (([] : List Bytes)))
def d_spec_l1Put_S1 (a0_ : List Bytes) (a1_ : Bytes) (v1_6 : Bool) (W1 : List (List D)) (ix_ : Int) : St := ⟨[(0, D.sl ((a0_).map tx)), (1, D.str (a1_)), (5, D.acc 0), (6, D.bool (v1_6)), (7, D.int .i64 (ix_))], [Ob.row .uq 9 1 (W1)]⟩
theorem d_spec_l1Put_L1w (hΓ : Γ.nt = 49) {a0_ : List Bytes} {a1_ : Bytes} {r : List Bytes} {k1 : Bool → List Bytes → Option (List Bytes)} (hE1 : ∀ (z1_6 : Bool) (q1_0 : List Bytes), k1 z1_6 q1_0 = some r → Ax Γ N Tryz.f105 (.q [[some (9, 1)]] (D.fr 9 1 ((r).map tx))) [1, 1, 1, 1] ⟨[(1, D.str (a1_)), (5, D.acc 0), (6, D.bool (z1_6))], [Ob.row .uq 9 1 ((q1_0).map tx)]⟩) (hm1 : (a0_).length ≤ maxLen) : ∀ (rest : List Bytes) (i1 : Nat) (v1_6 : Bool) (w1_0 : List Bytes), (a0_).drop i1 = rest → d_spec_l1Put_L1 a0_ a1_ k1 rest i1 v1_6 w1_0 = some r → Ar Γ N Tryz.f105 (.q [[some (9, 1)]] (D.fr 9 1 ((r).map tx))) [1, 1, 1, 0, 1, 0] (rest.length + 1) (d_spec_l1Put_S1 a0_ a1_ v1_6 ((w1_0).map tx) ((i1 : Int))) := by
  intro rest
  induction rest with
  | nil =>
    intro i1 v1_6 w1_0 hd1 h
    rw [d_spec_l1Put_L1] at h
    refine AWr_succ fun N1 hN1 hS1 => ?_
    exact ((pre0.ge tx hd1).a [.hl 0 [1, 5, 6] [0]]).ex hΓ hN1 (hE1 (v1_6) (w1_0) h)
  | cons x1_ xs1 ih1 =>
    intro i1 v1_6 w1_0 hd1 h
    rw [d_spec_l1Put_L1] at h
    refine AWr_succ fun N1 hN1 hS1 => ?_
    obtain ⟨h58, h⟩ | ⟨h58, h⟩ := den_if h
    · have o3_ := ((((pre0.lt tx hd1).r 3 h58).l (map_row tx 1 (dc hd1) rfl)).r 4 h58)
      obtain ⟨h59, h⟩ | ⟨h59, h⟩ := den_if h
      · have o4_ := ((o3_.b h59).l (map_row tx 1 (dc hd1) rfl))
        obtain ⟨h60, h⟩ | ⟨h60, h⟩ := den_if h
        · obtain ⟨h61, h⟩ := den_ok h
          obtain ⟨h62, h⟩ := den_ok h
          exact (((((o4_.b h60).w (room_ok h61)).l (map_row tx 1 (dc hd1) rfl)).w (room_ok h62)).a [.cn [0, 1, 5, 6, 7] [4]]).cs hΓ hS1 (d_spec_l1Put_S1 a0_ a1_ true ((((w1_0).map tx) ++ ([[D.str (a1_)]])) ++ ([[D.str (x1_)]])) (IntKind.i64.wrap (((i1 : Int)) + (1)))) (by first | (simp only [iS hd1 hm1, mA] <;> rfl) | (simp only [iS hd1 hm1, mA, Fact.c, Pair.c, Cond.c, Action.c, Rule.c, Token.c, Match.c, Alpha.c, Node.c, Network.c, Stamp.c] <;> rfl)) (ih1 (i1 + 1) (true) (((w1_0) ++ ([a1_])) ++ ([x1_])) (dn hd1) h)
        · obtain ⟨h63, h⟩ := den_ok h
          exact ((((o4_.b h60).l (map_row tx 1 (dc hd1) rfl)).w (room_ok h63)).a [.cn [0, 1, 5, 6, 7] [2]]).cs hΓ hS1 (d_spec_l1Put_S1 a0_ a1_ true (((w1_0).map tx) ++ ([[D.str (x1_)]])) (IntKind.i64.wrap (((i1 : Int)) + (1)))) (by first | (simp only [iS hd1 hm1, mA] <;> rfl) | (simp only [iS hd1 hm1, mA, Fact.c, Pair.c, Cond.c, Action.c, Rule.c, Token.c, Match.c, Alpha.c, Node.c, Network.c, Stamp.c] <;> rfl)) (ih1 (i1 + 1) (true) ((w1_0) ++ ([x1_])) (dn hd1) h)
      · obtain ⟨h64, h⟩ := den_ok h
        exact ((((o3_.b h59).l (map_row tx 1 (dc hd1) rfl)).w (room_ok h64)).a [.cn [0, 1, 5, 6, 7] [2]]).cs hΓ hS1 (d_spec_l1Put_S1 a0_ a1_ v1_6 (((w1_0).map tx) ++ ([[D.str (x1_)]])) (IntKind.i64.wrap (((i1 : Int)) + (1)))) (by first | (simp only [iS hd1 hm1, mA] <;> rfl) | (simp only [iS hd1 hm1, mA, Fact.c, Pair.c, Cond.c, Action.c, Rule.c, Token.c, Match.c, Alpha.c, Node.c, Network.c, Stamp.c] <;> rfl)) (ih1 (i1 + 1) (v1_6) ((w1_0) ++ ([x1_])) (dn hd1) h)
    · obtain ⟨h65, h⟩ := den_ok h
      exact ((((((pre0.lt tx hd1).r 7 h58).F 1).l (map_row tx 1 (dc hd1) rfl)).w (room_ok h65)).a [.cn [0, 1, 5, 6, 7] [2]]).cs hΓ hS1 (d_spec_l1Put_S1 a0_ a1_ v1_6 (((w1_0).map tx) ++ ([[D.str (x1_)]])) (IntKind.i64.wrap (((i1 : Int)) + (1)))) (by first | (simp only [iS hd1 hm1, mA] <;> rfl) | (simp only [iS hd1 hm1, mA, Fact.c, Pair.c, Cond.c, Action.c, Rule.c, Token.c, Match.c, Alpha.c, Node.c, Network.c, Stamp.c] <;> rfl)) (ih1 (i1 + 1) (v1_6) ((w1_0) ++ ([x1_])) (dn hd1) h)
theorem d_spec_l1Put_good {a0_ : List Bytes} {a1_ : Bytes} {r : List Bytes} (h : d_spec_l1Put a0_ a1_ = some r) : Good Tryz.prog 105 [D.sl ((a0_).map tx), D.str (a1_)] (D.fr 9 1 ((r).map tx)) := by
  refine gd Tryz.func105 [[some (9, 1)]] 49 fun hr Γ hΓ => ?_
  rw [d_spec_l1Put] at h
  refine (pre0.a [.cn [0, 1, 5, 6, 7] [0]]).lp hΓ (d_spec_l1Put_L1w hΓ (fun z1_6 q1_0 h => ?_) (by have := (Rdb.sl (hr _ (List.mem_of_getElem? (i := 0) rfl))).1; simpa using this) (a0_) 0 (false) (([] : List Bytes)) rfl h)
  obtain ⟨h66, h⟩ | ⟨h66, h⟩ := den_if h
  · obtain ⟨h67, h⟩ := den_ok h
    cases h; exact ((pre0.b h66).w (room_ok h67)).rts hΓ (D.fr 9 1 (((q1_0).map tx) ++ ([[D.str (a1_)]]))) (by first | rfl | (simp only [mA] <;> rfl))
  · have h := den_some h; subst h; exact (pre0.b h66).ret hΓ
def d_spec_VarsOf_L1 (a0_ : Fact) (k1 : List Bytes → Option (List Bytes)) : List Bytes → Nat → List Bytes → Option (List Bytes)
  | [], i1, w1_1 => (k1 (w1_1))
  | x1_ :: xs1, i1, w1_1 => ((d_spec_IsVar (x1_)).bind fun y37 => (bif y37 then ((d_spec_l1Put (w1_1) (x1_)).bind fun y40 => (d_spec_VarsOf_L1 a0_ k1 xs1 (i1 + 1) (y40))) else (d_spec_VarsOf_L1 a0_ k1 xs1 (i1 + 1) (w1_1))))
def d_spec_VarsOf (a0_ : Fact) : Option (List Bytes) := (d_spec_VarsOf_L1 a0_ (fun (q1_0 : List Bytes) => (some (q1_0))) (a0_.args) 0 (([] : List Bytes)))
def d_spec_VarsOf_S1 (a0_ : Fact) (W0 : List (List D)) (ix_ : Int) : St := ⟨[(1, D.ptr 0 0), (3, D.acc 1), (4, D.int .i64 (ix_))], [Ob.box (Fact.c a0_), Ob.row .uq 9 1 (W0)]⟩
theorem d_spec_VarsOf_L1w (hΓ : Γ.nt = 27) {a0_ : Fact} {r : List Bytes} {k1 : List Bytes → Option (List Bytes)} (hE1 : ∀ (q1_0 : List Bytes), k1 q1_0 = some r → Ax Γ N Tryz.f53 (.q [[some (9, 1)]] (D.fr 9 1 ((r).map tx))) [1, 1, 1] ⟨[(3, D.acc 0)], [Ob.row .uq 9 1 ((q1_0).map tx)]⟩) (hm1 : (a0_.args).length ≤ maxLen) : ∀ (rest : List Bytes) (i1 : Nat) (w1_1 : List Bytes), (a0_.args).drop i1 = rest → d_spec_VarsOf_L1 a0_ k1 rest i1 w1_1 = some r → Ar Γ N Tryz.f53 (.q [[some (9, 1)]] (D.fr 9 1 ((r).map tx))) [1, 1, 0, 1, 0] (rest.length + 1) (d_spec_VarsOf_S1 a0_ ((w1_1).map tx) ((i1 : Int))) := by
  intro rest
  induction rest with
  | nil =>
    intro i1 w1_1 hd1 h
    rw [d_spec_VarsOf_L1] at h
    refine AWr_succ fun N1 hN1 hS1 => ?_
    exact ((pre0.ge tx hd1).a [.hl 0 [3] [1]]).ex hΓ hN1 (hE1 (w1_1) h)
  | cons x1_ xs1 ih1 =>
    intro i1 w1_1 hd1 h
    rw [d_spec_VarsOf_L1] at h
    refine AWr_succ fun N1 hN1 hS1 => ?_
    obtain ⟨y37, h38, h⟩ := den_bind h
    have o2_ := (((pre0.lt tx hd1).l (map_row tx 1 (dc hd1) rfl)).g (d_spec_IsVar_good h38))
    obtain ⟨h39, h⟩ | ⟨h39, h⟩ := den_if h
    · obtain ⟨y40, h41, h⟩ := den_bind h
      exact ((((o2_.b h39).l (map_row tx 1 (dc hd1) rfl)).g (d_spec_l1Put_good h41)).a [.cn [1, 3, 4] [0, 2]]).ct hΓ hS1 (iS hd1 hm1) (ih1 (i1 + 1) (y40) (dn hd1) h)
    · exact ((o2_.b h39).a [.cn [1, 3, 4] [0, 1]]).ct hΓ hS1 (iS hd1 hm1) (ih1 (i1 + 1) (w1_1) (dn hd1) h)
theorem d_spec_VarsOf_good {a0_ : Fact} {r : List Bytes} (h : d_spec_VarsOf a0_ = some r) : Good Tryz.prog 53 [D.agg (Fact.c a0_)] (D.fr 9 1 ((r).map tx)) := by
  refine gd Tryz.func53 [[some (9, 1)]] 27 fun hr Γ hΓ => ?_
  rw [d_spec_VarsOf] at h
  refine (pre0.a [.cn [1, 3, 4] [0, 1]]).lp hΓ (d_spec_VarsOf_L1w hΓ (fun q1_0 h => ?_) (by have := (Rdb.sl (Rdb.agg (hr _ (List.mem_of_getElem? (i := 0) rfl)) (.sl ((a0_.args).map tx)) (by simp))).1; simpa using this) (a0_.args) 0 (([] : List Bytes)) rfl h)
  have h := den_some h; subst h; exact pre0.ret hΓ
def d_spec_BoundVars_L2 (a0_ : Rule) (a1_ : Int) (i1 : Nat) (y159 : List Bytes) (k2 : List Bytes → Option (List Bytes)) : List Bytes → Nat → List Bytes → Option (List Bytes)
  | [], i2, w2_1 => (k2 (w2_1))
  | x2_ :: xs2, i2, w2_1 => ((d_spec_l1Put (w2_1) (x2_)).bind fun y183 => (d_spec_BoundVars_L2 a0_ a1_ i1 y159 k2 xs2 (i2 + 1) (y183)))
def d_spec_BoundVars_L1 (a0_ : Rule) (a1_ : Int) (k1 : List Bytes → Option (List Bytes)) : List Cond → Nat → List Bytes → Option (List Bytes)
  | [], i1, w1_1 => (k1 (w1_1))
  | x1_ :: xs1, i1, w1_1 => (bif decide (((i1 : Int) : Int) < (a1_)) then (bif (x1_.kind : Int) == (1) then ((d_spec_VarsOf (x1_.pat)).bind fun y159 => (bif decide ((y159).length ≤ maxLen) then (d_spec_BoundVars_L2 a0_ a1_ i1 y159 (fun (q2_1 : List Bytes) => (d_spec_BoundVars_L1 a0_ a1_ k1 xs1 (i1 + 1) (q2_1))) (y159) 0 (w1_1)) else none)) else (d_spec_BoundVars_L1 a0_ a1_ k1 xs1 (i1 + 1) (w1_1))) else (k1 (w1_1)))
def d_spec_BoundVars (a0_ : Rule) (a1_ : Int) : Option (List Bytes) := (d_spec_BoundVars_L1 a0_ a1_ (fun (q1_0 : List Bytes) => (some (q1_0))) (a0_.conds) 0 (([] : List Bytes)))
def d_spec_BoundVars_S1 (a0_ : Rule) (a1_ : Int) (W0 : List (List D)) (ix_ : Int) : St := ⟨[(1, D.int .i64 (a1_)), (2, D.ptr 0 0), (5, D.acc 1), (6, D.int .i64 (ix_))], [Ob.box (Rule.c a0_), Ob.row .uq 9 1 (W0)]⟩
def d_spec_BoundVars_S2 (a0_ : Rule) (a1_ : Int) (i1 : Nat) (y159 : List Bytes) (W0 : List (List D)) (ix_ : Int) : St := ⟨[(1, D.int .i64 (a1_)), (2, D.ptr 0 0), (5, D.acc 1), (6, D.int .i64 ((i1 : Int))), (7, D.acc 2), (8, D.int .i64 (ix_))], [Ob.box (Rule.c a0_), Ob.row .uq 9 1 (W0), Ob.row .uq 9 1 ((y159).map tx)]⟩
theorem d_spec_BoundVars_L2w (hΓ : Γ.nt = 49) {a0_ : Rule} {a1_ : Int} {i1 : Nat} {y159 : List Bytes} {r : List Bytes} {k2 : List Bytes → Option (List Bytes)} (hE2 : ∀ (q2_1 : List Bytes), k2 q2_1 = some r → Ax Γ N Tryz.f46 (.q [[some (9, 1)]] (D.fr 9 1 ((r).map tx))) [1, 1, 0, 1, 0, 0, 1, 1] ⟨[(1, D.int .i64 (a1_)), (2, D.ptr 0 0), (5, D.acc 1), (6, D.int .i64 ((i1 : Int)))], [Ob.box (Rule.c a0_), Ob.row .uq 9 1 ((q2_1).map tx)]⟩) (hm2 : (y159).length ≤ maxLen) : ∀ (rest : List Bytes) (i2 : Nat) (w2_1 : List Bytes), (y159).drop i2 = rest → d_spec_BoundVars_L2 a0_ a1_ i1 y159 k2 rest i2 w2_1 = some r → Ar Γ N Tryz.f46 (.q [[some (9, 1)]] (D.fr 9 1 ((r).map tx))) [1, 1, 0, 1, 0, 0, 1, 0, 0, 1, 0, 1, 1, 0] (rest.length + 1) (d_spec_BoundVars_S2 a0_ a1_ i1 y159 ((w2_1).map tx) ((i2 : Int))) := by
  intro rest
  induction rest with
  | nil =>
    intro i2 w2_1 hd2 h
    rw [d_spec_BoundVars_L2] at h
    refine AWr_succ fun N2 hN2 hS2 => ?_
    exact ((pre0.ge tx hd2).a [.hl 3 [1, 2, 5, 6] [0, 1]]).ex hΓ hN2 (hE2 (w2_1) h)
  | cons x2_ xs2 ih2 =>
    intro i2 w2_1 hd2 h
    rw [d_spec_BoundVars_L2] at h
    refine AWr_succ fun N2 hN2 hS2 => ?_
    obtain ⟨y183, h184, h⟩ := den_bind h
    exact (((((pre0.lt tx hd2).i (own_ixl tx 1 (dc hd2))).o 1 1 .uq (map_get tx (dc hd2))).g (d_spec_l1Put_good h184)).a [.cn [1, 2, 5, 6, 7, 8] [0, 3, 2]]).ct hΓ hS2 (iS hd2 hm2) (ih2 (i2 + 1) (y183) (dn hd2) h)
theorem d_spec_BoundVars_L1w (hΓ : Γ.nt = 49) {a0_ : Rule} {a1_ : Int} {r : List Bytes} {k1 : List Bytes → Option (List Bytes)} (hE1 : ∀ (q1_0 : List Bytes), k1 q1_0 = some r → Ax Γ N Tryz.f46 (.q [[some (9, 1)]] (D.fr 9 1 ((r).map tx))) [1, 1, 1] ⟨[(5, D.acc 0)], [Ob.row .uq 9 1 ((q1_0).map tx)]⟩) (hm1 : (a0_.conds).length ≤ maxLen) : ∀ (rest : List Cond) (i1 : Nat) (w1_1 : List Bytes), (a0_.conds).drop i1 = rest → d_spec_BoundVars_L1 a0_ a1_ k1 rest i1 w1_1 = some r → Ar Γ N Tryz.f46 (.q [[some (9, 1)]] (D.fr 9 1 ((r).map tx))) [1, 1, 0, 1, 0] (rest.length + 1) (d_spec_BoundVars_S1 a0_ a1_ ((w1_1).map tx) ((i1 : Int))) := by
  intro rest
  induction rest with
  | nil =>
    intro i1 w1_1 hd1 h
    rw [d_spec_BoundVars_L1] at h
    refine AWr_succ fun N1 hN1 hS1 => ?_
    exact ((((((pre0.ge Cond.c hd1).ge Cond.c hd1).ge Cond.c hd1).ge Cond.c hd1).F 1).a [.hl 0 [5] [1]]).ex hΓ hN1 (hE1 (w1_1) h)
  | cons x1_ xs1 ih1 =>
    intro i1 w1_1 hd1 h
    rw [d_spec_BoundVars_L1] at h
    refine AWr_succ fun N1 hN1 hS1 => ?_
    have o3_ := ((((pre0.lt Cond.c hd1).lt Cond.c hd1).lt Cond.c hd1).lt Cond.c hd1)
    obtain ⟨h157, h⟩ | ⟨h157, h⟩ := den_if h
    · have o4_ := ((o3_.b h157).l (map_row Cond.c 5 (dc hd1) rfl))
      obtain ⟨h158, h⟩ | ⟨h158, h⟩ := den_if h
      · obtain ⟨y159, h160, h⟩ := den_bind h
        obtain ⟨h185, h⟩ := den_ok h
        refine ((((o4_.b h158).l (map_row Cond.c 5 (dc hd1) rfl)).g (d_spec_VarsOf_good h160)).a [.cn [1, 2, 5, 6, 7, 8] [0, 1, 2]]).lp hΓ (d_spec_BoundVars_L2w hΓ (fun q2_1 h => ?_) (of_decide_eq_true h185) (y159) 0 (w1_1) rfl h)
        exact (pre0.a [.cn [1, 2, 5, 6] [0, 1]]).ct hΓ hS1 (iS hd1 hm1) (ih1 (i1 + 1) (q2_1) (dn hd1) h)
      · exact ((o4_.b h158).a [.cn [1, 2, 5, 6] [0, 1]]).ct hΓ hS1 (iS hd1 hm1) (ih1 (i1 + 1) (w1_1) (dn hd1) h)
    · exact ((o3_.b h157).a [.hl 0 [5] [1]]).ex hΓ hN1 (hE1 (w1_1) h)
theorem d_spec_BoundVars_good {a0_ : Rule} {a1_ : Int} {r : List Bytes} (h : d_spec_BoundVars a0_ a1_ = some r) : Good Tryz.prog 46 [D.agg (Rule.c a0_), D.int .i64 (a1_)] (D.fr 9 1 ((r).map tx)) := by
  refine gd Tryz.func46 [[some (9, 1)]] 49 fun hr Γ hΓ => ?_
  rw [d_spec_BoundVars] at h
  refine (pre0.a [.cn [1, 2, 5, 6] [0, 1]]).lp hΓ (d_spec_BoundVars_L1w hΓ (fun q1_0 h => ?_) (by have := (Rdb.sl (Rdb.agg (hr _ (List.mem_of_getElem? (i := 0) rfl)) (.sl ((a0_.conds).map Cond.c)) (by simp))).1; simpa using this) (a0_.conds) 0 (([] : List Bytes)) rfl h)
  have h := den_some h; subst h; exact pre0.ret hΓ
def d_spec_l1HasText_L1 (a0_ : List Bytes) (a1_ : Bytes) (k1 : Option Bool) : List Bytes → Nat → Option Bool
  | [], i1 => (k1 )
  | x1_ :: xs1, i1 => (bif (x1_ : Bytes) == (a1_) then (some (true)) else (d_spec_l1HasText_L1 a0_ a1_ k1 xs1 (i1 + 1) ))
def d_spec_l1HasText (a0_ : List Bytes) (a1_ : Bytes) : Option Bool := (d_spec_l1HasText_L1 a0_ a1_ (some (false)) (a0_) 0 )
def d_spec_l1HasText_S1 (a0_ : List Bytes) (a1_ : Bytes) (ix_ : Int) : St := ⟨[(0, D.sl ((a0_).map tx)), (1, D.str (a1_)), (5, D.int .i64 (ix_))], []⟩
theorem d_spec_l1HasText_L1w (hΓ : Γ.nt = 18) {a0_ : List Bytes} {a1_ : Bytes} {r : Bool} {k1 : Option Bool} (hE1 : k1 = some r → Ax Γ N Tryz.f49 (.q [[none]] (D.bool (r))) [1, 1] ⟨[], []⟩) (hm1 : (a0_).length ≤ maxLen) : ∀ (rest : List Bytes) (i1 : Nat) , (a0_).drop i1 = rest → d_spec_l1HasText_L1 a0_ a1_ k1 rest i1  = some r → Ar Γ N Tryz.f49 (.q [[none]] (D.bool (r))) [1, 0, 1, 0] (rest.length + 1) (d_spec_l1HasText_S1 a0_ a1_ ((i1 : Int))) := by
  intro rest
  induction rest with
  | nil =>
    intro i1  hd1 h
    rw [d_spec_l1HasText_L1] at h
    refine AWr_succ fun N1 hN1 hS1 => ?_
    exact ((pre0.ge tx hd1).a [.hl 0 [] []]).ex hΓ hN1 (hE1 h)
  | cons x1_ xs1 ih1 =>
    intro i1  hd1 h
    rw [d_spec_l1HasText_L1] at h
    refine AWr_succ fun N1 hN1 hS1 => ?_
    have o2_ := ((pre0.lt tx hd1).l (map_row tx 1 (dc hd1) rfl))
    obtain ⟨h13, h⟩ | ⟨h13, h⟩ := den_if h
    · have h := den_some h; subst h; exact (o2_.b h13).ret hΓ
    · exact ((o2_.b h13).a [.cn [0, 1, 5] []]).ct hΓ hS1 (iS hd1 hm1) (ih1 (i1 + 1)  (dn hd1) h)
theorem d_spec_l1HasText_good {a0_ : List Bytes} {a1_ : Bytes} {r : Bool} (h : d_spec_l1HasText a0_ a1_ = some r) : Good Tryz.prog 49 [D.sl ((a0_).map tx), D.str (a1_)] (D.bool (r)) := by
  refine gd Tryz.func49 [[none]] 18 fun hr Γ hΓ => ?_
  rw [d_spec_l1HasText] at h
  refine (pre0.a [.cn [0, 1, 5] []]).lp hΓ (d_spec_l1HasText_L1w hΓ (fun h => ?_) (by have := (Rdb.sl (hr _ (List.mem_of_getElem? (i := 0) rfl))).1; simpa using this) (a0_) 0  rfl h)
  have h := den_some h; subst h; exact pre0.ret hΓ
def d_spec_IsName (a0_ : Bytes) : Option Bool := ((d_spec_IsAtom (a0_)).bind fun y1 => (bif y1 then ((atI (a0_) (0)).bind fun b4 => ((d_spec_l1In (IntKind.i64.wrap (b4.toNat)) (97) (122)).bind fun y6 => (some (y6)))) else (some (false))))
theorem d_spec_IsName_good {a0_ : Bytes} {r : Bool} (h : d_spec_IsName a0_ = some r) : Good Tryz.prog 44 [D.str (a0_)] (D.bool (r)) := by
  refine gd Tryz.func44 [[none]] 11 fun hr Γ hΓ => ?_
  rw [d_spec_IsName] at h
  obtain ⟨y1, h2, h⟩ := den_bind h
  obtain ⟨h3, h⟩ | ⟨h3, h⟩ := den_if h
  · obtain ⟨b4, h5, h⟩ := den_bind h
    obtain ⟨y6, h7, h⟩ := den_bind h
    have h := den_some h; subst h; exact ((((((pre0.g (d_spec_IsAtom_good h2)).r 2 h3).c h5).r 2 h3).g (d_spec_l1In_good h7)).b h3).ret hΓ
  · have h := den_some h; subst h; exact ((pre0.g (d_spec_IsAtom_good h2)).r 5 h3).ret hΓ
def d_spec_IsTerm (a0_ : Bytes) : Option Bool := ((d_spec_IsAtom (a0_)).bind fun y1 => (bif y1 then (some (true)) else ((d_spec_IsVar (a0_)).bind fun y4 => (some (y4)))))
theorem d_spec_IsTerm_good {a0_ : Bytes} {r : Bool} (h : d_spec_IsTerm a0_ = some r) : Good Tryz.prog 106 [D.str (a0_)] (D.bool (r)) := by
  refine gd Tryz.func106 [[none]] 9 fun hr Γ hΓ => ?_
  rw [d_spec_IsTerm] at h
  obtain ⟨y1, h2, h⟩ := den_bind h
  obtain ⟨h3, h⟩ | ⟨h3, h⟩ := den_if h
  · have h := den_some h; subst h; exact ((pre0.g (d_spec_IsAtom_good h2)).r 3 h3).ret hΓ
  · obtain ⟨y4, h5, h⟩ := den_bind h
    have h := den_some h; subst h; exact ((((pre0.g (d_spec_IsAtom_good h2)).r 2 h3).g (d_spec_IsVar_good h5)).b h3).ret hΓ
def d_spec_IsPattern_L1 (a0_ : Fact) (k1 : Option Bool) : List Bytes → Nat → Option Bool
  | [], i1 => (k1 )
  | x1_ :: xs1, i1 => ((d_spec_IsTerm (x1_)).bind fun y21 => (bif !(y21) then (some (false)) else (d_spec_IsPattern_L1 a0_ k1 xs1 (i1 + 1) )))
def d_spec_IsPattern (a0_ : Fact) : Option Bool := (d_spec_IsPattern_L1 a0_ ((d_spec_IsName (a0_.rel)).bind fun y24 => (bif y24 then (some (decide (((((a0_.args).map tx).length : Int) : Int) ≤ (3)))) else (some (false)))) (a0_.args) 0 )
def d_spec_IsPattern_S1 (a0_ : Fact) (ix_ : Int) : St := ⟨[(1, D.ptr 0 0), (3, D.int .i64 (ix_))], [Ob.box (Fact.c a0_)]⟩
theorem d_spec_IsPattern_L1w (hΓ : Γ.nt = 27) {a0_ : Fact} {r : Bool} {k1 : Option Bool} (hE1 : k1 = some r → Ax Γ N Tryz.f69 (.q [[none]] (D.bool (r))) [1, 1] ⟨[(1, D.ptr 0 0)], [Ob.box (Fact.c a0_)]⟩) (hm1 : (a0_.args).length ≤ maxLen) : ∀ (rest : List Bytes) (i1 : Nat) , (a0_.args).drop i1 = rest → d_spec_IsPattern_L1 a0_ k1 rest i1  = some r → Ar Γ N Tryz.f69 (.q [[none]] (D.bool (r))) [1, 0, 1, 0] (rest.length + 1) (d_spec_IsPattern_S1 a0_ ((i1 : Int))) := by
  intro rest
  induction rest with
  | nil =>
    intro i1  hd1 h
    rw [d_spec_IsPattern_L1] at h
    refine AWr_succ fun N1 hN1 hS1 => ?_
    exact ((pre0.ge tx hd1).a [.hl 0 [1] [0]]).ex hΓ hN1 (hE1 h)
  | cons x1_ xs1 ih1 =>
    intro i1  hd1 h
    rw [d_spec_IsPattern_L1] at h
    refine AWr_succ fun N1 hN1 hS1 => ?_
    obtain ⟨y21, h22, h⟩ := den_bind h
    have o2_ := (((pre0.lt tx hd1).l (map_row tx 1 (dc hd1) rfl)).g (d_spec_IsTerm_good h22))
    obtain ⟨h23, h⟩ | ⟨h23, h⟩ := den_if h
    · have h := den_some h; subst h; exact (o2_.b h23).ret hΓ
    · exact ((o2_.b h23).a [.cn [1, 3] [0]]).ct hΓ hS1 (iS hd1 hm1) (ih1 (i1 + 1)  (dn hd1) h)
theorem d_spec_IsPattern_good {a0_ : Fact} {r : Bool} (h : d_spec_IsPattern a0_ = some r) : Good Tryz.prog 69 [D.agg (Fact.c a0_)] (D.bool (r)) := by
  refine gd Tryz.func69 [[none]] 27 fun hr Γ hΓ => ?_
  rw [d_spec_IsPattern] at h
  refine (pre0.a [.cn [1, 3] [0]]).lp hΓ (d_spec_IsPattern_L1w hΓ (fun h => ?_) (by have := (Rdb.sl (Rdb.agg (hr _ (List.mem_of_getElem? (i := 0) rfl)) (.sl ((a0_.args).map tx)) (by simp))).1; simpa using this) (a0_.args) 0  rfl h)
  obtain ⟨y24, h25, h⟩ := den_bind h
  obtain ⟨h26, h⟩ | ⟨h26, h⟩ := den_if h
  · cases h; exact ((pre0.g (d_spec_IsName_good h25)).r 5 h26).ret hΓ
  · have h := den_some h; subst h; exact ((pre0.g (d_spec_IsName_good h25)).r 5 h26).ret hΓ
def d_spec_IsCond (a0_ : Cond) : Option Bool := (bif (a0_.kind : Int) == (1) then ((d_spec_IsPattern (a0_.pat)).bind fun y2 => (bif y2 then (bif (a0_.left : Bytes) == ([]) then (some ((a0_.right : Bytes) == ([]))) else (some (false))) else (some (false)))) else (bif (a0_.kind : Int) == (2) then ((d_spec_IsPattern (a0_.pat)).bind fun y7 => (bif y7 then (bif (a0_.left : Bytes) == ([]) then (some ((a0_.right : Bytes) == ([]))) else (some (false))) else (some (false)))) else (bif (a0_.kind : Int) == (3) then (bif (a0_.pat.rel : Bytes) == ([]) then (bif ((((a0_.pat.args).map tx).length : Int) : Int) == (0) then ((d_spec_IsTerm (a0_.left)).bind fun y14 => (bif y14 then ((d_spec_IsTerm (a0_.right)).bind fun y17 => (some (y17))) else (some (false)))) else (some (false))) else (some (false))) else (bif (a0_.kind : Int) == (4) then (bif (a0_.pat.rel : Bytes) == ([]) then (bif ((((a0_.pat.args).map tx).length : Int) : Int) == (0) then ((d_spec_IsTerm (a0_.left)).bind fun y22 => (bif y22 then ((d_spec_IsTerm (a0_.right)).bind fun y25 => (some (y25))) else (some (false)))) else (some (false))) else (some (false))) else (bif (a0_.kind : Int) == (5) then (bif (a0_.pat.rel : Bytes) == ([]) then (bif ((((a0_.pat.args).map tx).length : Int) : Int) == (0) then ((d_spec_IsTerm (a0_.left)).bind fun y30 => (bif y30 then ((d_spec_IsTerm (a0_.right)).bind fun y33 => (some (y33))) else (some (false)))) else (some (false))) else (some (false))) else (some (false)))))))
theorem d_spec_IsCond_good {a0_ : Cond} {r : Bool} (h : d_spec_IsCond a0_ = some r) : Good Tryz.prog 47 [D.agg (Cond.c a0_)] (D.bool (r)) := by
  refine gd Tryz.func47 [[none]] 46 fun hr Γ hΓ => ?_
  rw [d_spec_IsCond] at h
  obtain ⟨h1, h⟩ | ⟨h1, h⟩ := den_if h
  · obtain ⟨y2, h3, h⟩ := den_bind h
    have o1_ := ((pre0.r 2 h1).g (d_spec_IsPattern_good h3))
    obtain ⟨h4, h⟩ | ⟨h4, h⟩ := den_if h
    · have o2_ := (o1_.r 4 h4)
      obtain ⟨h5, h⟩ | ⟨h5, h⟩ := den_if h
      · cases h; exact (o2_.r 4 h5).ret hΓ
      · have h := den_some h; subst h; exact (o2_.r 4 h5).ret hΓ
    · have h := den_some h; subst h; exact ((o1_.r 4 h4).F 4).ret hΓ
  · obtain ⟨h6, h⟩ | ⟨h6, h⟩ := den_if h
    · obtain ⟨y7, h8, h⟩ := den_bind h
      have o3_ := (((pre0.b h1).b h6).g (d_spec_IsPattern_good h8))
      obtain ⟨h9, h⟩ | ⟨h9, h⟩ := den_if h
      · have o4_ := (o3_.r 4 h9)
        obtain ⟨h10, h⟩ | ⟨h10, h⟩ := den_if h
        · cases h; exact (o4_.r 4 h10).ret hΓ
        · have h := den_some h; subst h; exact (o4_.r 4 h10).ret hΓ
      · have h := den_some h; subst h; exact ((o3_.r 4 h9).F 4).ret hΓ
    · have o5_ := ((pre0.b h1).b h6)
      obtain ⟨h11, h⟩ | ⟨h11, h⟩ := den_if h
      · have o6_ := (o5_.r 2 h11)
        obtain ⟨h12, h⟩ | ⟨h12, h⟩ := den_if h
        · have o7_ := (o6_.r 6 h12)
          obtain ⟨h13, h⟩ | ⟨h13, h⟩ := den_if h
          · obtain ⟨y14, h15, h⟩ := den_bind h
            have o8_ := (((o7_.r 3 h13).g (d_spec_IsTerm_good h15)).b h13)
            obtain ⟨h16, h⟩ | ⟨h16, h⟩ := den_if h
            · obtain ⟨y17, h18, h⟩ := den_bind h
              have h := den_some h; subst h; exact (((o8_.r 3 h16).g (d_spec_IsTerm_good h18)).b h16).ret hΓ
            · have h := den_some h; subst h; exact (o8_.r 4 h16).ret hΓ
          · have h := den_some h; subst h; exact ((o7_.r 4 h13).F 4).ret hΓ
        · have h := den_some h; subst h; exact ((o6_.r 6 h12).F 8).ret hΓ
      · obtain ⟨h19, h⟩ | ⟨h19, h⟩ := den_if h
        · have o9_ := ((o5_.b h11).r 2 h19)
          obtain ⟨h20, h⟩ | ⟨h20, h⟩ := den_if h
          · have o10_ := (o9_.r 6 h20)
            obtain ⟨h21, h⟩ | ⟨h21, h⟩ := den_if h
            · obtain ⟨y22, h23, h⟩ := den_bind h
              have o11_ := (((o10_.r 3 h21).g (d_spec_IsTerm_good h23)).b h21)
              obtain ⟨h24, h⟩ | ⟨h24, h⟩ := den_if h
              · obtain ⟨y25, h26, h⟩ := den_bind h
                have h := den_some h; subst h; exact (((o11_.r 3 h24).g (d_spec_IsTerm_good h26)).b h24).ret hΓ
              · have h := den_some h; subst h; exact (o11_.r 4 h24).ret hΓ
            · have h := den_some h; subst h; exact ((o10_.r 4 h21).F 4).ret hΓ
          · have h := den_some h; subst h; exact ((o9_.r 6 h20).F 8).ret hΓ
        · have o12_ := ((o5_.b h11).b h19)
          obtain ⟨h27, h⟩ | ⟨h27, h⟩ := den_if h
          · obtain ⟨h28, h⟩ | ⟨h28, h⟩ := den_if h
            · have o13_ := ((o12_.b h27).r 6 h28)
              obtain ⟨h29, h⟩ | ⟨h29, h⟩ := den_if h
              · obtain ⟨y30, h31, h⟩ := den_bind h
                have o14_ := (((o13_.r 3 h29).g (d_spec_IsTerm_good h31)).b h29)
                obtain ⟨h32, h⟩ | ⟨h32, h⟩ := den_if h
                · obtain ⟨y33, h34, h⟩ := den_bind h
                  have h := den_some h; subst h; exact (((o14_.r 3 h32).g (d_spec_IsTerm_good h34)).b h32).ret hΓ
                · have h := den_some h; subst h; exact (o14_.r 4 h32).ret hΓ
              · have h := den_some h; subst h; exact ((o13_.r 4 h29).F 4).ret hΓ
            · have h := den_some h; subst h; exact (((o12_.b h27).r 6 h28).F 8).ret hΓ
          · have h := den_some h; subst h; exact (o12_.b h27).ret hΓ
def d_spec_CondVars (a0_ : Cond) : Option (List Bytes) := ((d_spec_VarsOf (a0_.pat)).bind fun y1 => ((d_spec_IsVar (a0_.left)).bind fun y3 => (bif y3 then ((d_spec_l1Put (y1) (a0_.left)).bind fun y6 => ((d_spec_IsVar (a0_.right)).bind fun y8 => (bif y8 then ((d_spec_l1Put (y6) (a0_.right)).bind fun y11 => (some (y11))) else (some (y6))))) else ((d_spec_IsVar (a0_.right)).bind fun y13 => (bif y13 then ((d_spec_l1Put (y1) (a0_.right)).bind fun y16 => (some (y16))) else (some (y1)))))))
theorem d_spec_CondVars_good {a0_ : Cond} {r : List Bytes} (h : d_spec_CondVars a0_ = some r) : Good Tryz.prog 48 [D.agg (Cond.c a0_)] (D.fr 9 1 ((r).map tx)) := by
  refine gd Tryz.func48 [[some (9, 1)]] 22 fun hr Γ hΓ => ?_
  rw [d_spec_CondVars] at h
  obtain ⟨y1, h2, h⟩ := den_bind h
  obtain ⟨y3, h4, h⟩ := den_bind h
  have o1_ := ((pre0.g (d_spec_VarsOf_good h2)).g (d_spec_IsVar_good h4))
  obtain ⟨h5, h⟩ | ⟨h5, h⟩ := den_if h
  · obtain ⟨y6, h7, h⟩ := den_bind h
    obtain ⟨y8, h9, h⟩ := den_bind h
    have o2_ := (((o1_.b h5).g (d_spec_l1Put_good h7)).g (d_spec_IsVar_good h9))
    obtain ⟨h10, h⟩ | ⟨h10, h⟩ := den_if h
    · obtain ⟨y11, h12, h⟩ := den_bind h
      have h := den_some h; subst h; exact ((o2_.b h10).g (d_spec_l1Put_good h12)).ret hΓ
    · have h := den_some h; subst h; exact (o2_.b h10).ret hΓ
  · obtain ⟨y13, h14, h⟩ := den_bind h
    have o3_ := ((o1_.b h5).g (d_spec_IsVar_good h14))
    obtain ⟨h15, h⟩ | ⟨h15, h⟩ := den_if h
    · obtain ⟨y16, h17, h⟩ := den_bind h
      have h := den_some h; subst h; exact ((o3_.b h15).g (d_spec_l1Put_good h17)).ret hΓ
    · have h := den_some h; subst h; exact (o3_.b h15).ret hΓ
def d_spec_IsTest (a0_ : Cond) : Option Bool := ((d_spec_IsCond (a0_)).bind fun y1 => (bif y1 then (some (decide ((a0_.kind : Int) ≥ (3)))) else (some (false))))
theorem d_spec_IsTest_good {a0_ : Cond} {r : Bool} (h : d_spec_IsTest a0_ = some r) : Good Tryz.prog 50 [D.agg (Cond.c a0_)] (D.bool (r)) := by
  refine gd Tryz.func50 [[none]] 10 fun hr Γ hΓ => ?_
  rw [d_spec_IsTest] at h
  obtain ⟨y1, h2, h⟩ := den_bind h
  obtain ⟨h3, h⟩ | ⟨h3, h⟩ := den_if h
  · cases h; exact ((pre0.g (d_spec_IsCond_good h2)).r 4 h3).ret hΓ
  · have h := den_some h; subst h; exact ((pre0.g (d_spec_IsCond_good h2)).r 4 h3).ret hΓ
def d_spec_l5Elsewhere_L1 (a0_ : Rule) (a1_ : Int) (a2_ : Bytes) (k1 : Option Bool) : List Cond → Nat → Option Bool
  | [], i1 => (k1 )
  | x1_ :: xs1, i1 => (bif ((i1 : Int) : Int) != (a1_) then ((d_spec_CondVars (x1_)).bind fun y34 => ((d_spec_l1HasText (y34) (a2_)).bind fun y36 => (bif y36 then (some (true)) else (d_spec_l5Elsewhere_L1 a0_ a1_ a2_ k1 xs1 (i1 + 1) )))) else (d_spec_l5Elsewhere_L1 a0_ a1_ a2_ k1 xs1 (i1 + 1) ))
def d_spec_l5Elsewhere_L2 (a0_ : Rule) (a2_ : Bytes) (k2 : Option Bool) : List Action → Nat → Option Bool
  | [], i2 => (k2 )
  | x2_ :: xs2, i2 => ((d_spec_VarsOf (x2_.pat)).bind fun y67 => ((d_spec_l1HasText (y67) (a2_)).bind fun y69 => (bif y69 then (some (true)) else (d_spec_l5Elsewhere_L2 a0_ a2_ k2 xs2 (i2 + 1) ))))
def d_spec_l5Elsewhere (a0_ : Rule) (a1_ : Int) (a2_ : Bytes) : Option Bool := (d_spec_l5Elsewhere_L1 a0_ a1_ a2_ (d_spec_l5Elsewhere_L2 a0_ a2_ (some (false)) (a0_.acts) 0 ) (a0_.conds) 0 )
def d_spec_l5Elsewhere_S1 (a0_ : Rule) (a1_ : Int) (a2_ : Bytes) (ix_ : Int) : St := ⟨[(1, D.int .i64 (a1_)), (2, D.str (a2_)), (3, D.ptr 0 0), (7, D.int .i64 (ix_))], [Ob.box (Rule.c a0_)]⟩
theorem d_spec_l5Elsewhere_L1w (hΓ : Γ.nt = 45) {a0_ : Rule} {a1_ : Int} {a2_ : Bytes} {r : Bool} {k1 : Option Bool} (hE1 : k1 = some r → Ax Γ N Tryz.f51 (.q [[none]] (D.bool (r))) [1, 1] ⟨[(2, D.str (a2_)), (3, D.ptr 0 0)], [Ob.box (Rule.c a0_)]⟩) (hm1 : (a0_.conds).length ≤ maxLen) : ∀ (rest : List Cond) (i1 : Nat) , (a0_.conds).drop i1 = rest → d_spec_l5Elsewhere_L1 a0_ a1_ a2_ k1 rest i1  = some r → Ar Γ N Tryz.f51 (.q [[none]] (D.bool (r))) [1, 0, 1, 0] (rest.length + 1) (d_spec_l5Elsewhere_S1 a0_ a1_ a2_ ((i1 : Int))) := by
  intro rest
  induction rest with
  | nil =>
    intro i1  hd1 h
    rw [d_spec_l5Elsewhere_L1] at h
    refine AWr_succ fun N1 hN1 hS1 => ?_
    exact ((pre0.ge Cond.c hd1).a [.hl 0 [2, 3] [0]]).ex hΓ hN1 (hE1 h)
  | cons x1_ xs1 ih1 =>
    intro i1  hd1 h
    rw [d_spec_l5Elsewhere_L1] at h
    refine AWr_succ fun N1 hN1 hS1 => ?_
    obtain ⟨h33, h⟩ | ⟨h33, h⟩ := den_if h
    · obtain ⟨y34, h35, h⟩ := den_bind h
      obtain ⟨y36, h37, h⟩ := den_bind h
      have o3_ := ((((((((pre0.lt Cond.c hd1).r 4 h33).l (map_row Cond.c 5 (dc hd1) rfl)).r 2 h33).g (d_spec_CondVars_good h35)).r 2 h33).g (d_spec_l1HasText_good h37)).b h33)
      obtain ⟨h38, h⟩ | ⟨h38, h⟩ := den_if h
      · have h := den_some h; subst h; exact (o3_.b h38).ret hΓ
      · exact ((o3_.b h38).a [.cn [1, 2, 3, 7] [0]]).ct hΓ hS1 (iS hd1 hm1) (ih1 (i1 + 1)  (dn hd1) h)
    · exact ((((pre0.lt Cond.c hd1).r 9 h33).F 1).a [.cn [1, 2, 3, 7] [0]]).ct hΓ hS1 (iS hd1 hm1) (ih1 (i1 + 1)  (dn hd1) h)
def d_spec_l5Elsewhere_S2 (a0_ : Rule) (a2_ : Bytes) (ix_ : Int) : St := ⟨[(2, D.str (a2_)), (3, D.ptr 0 0), (8, D.int .i64 (ix_))], [Ob.box (Rule.c a0_)]⟩
theorem d_spec_l5Elsewhere_L2w (hΓ : Γ.nt = 45) {a0_ : Rule} {a2_ : Bytes} {r : Bool} {k2 : Option Bool} (hE2 : k2 = some r → Ax Γ N Tryz.f51 (.q [[none]] (D.bool (r))) [1, 1, 1] ⟨[], []⟩) (hm2 : (a0_.acts).length ≤ maxLen) : ∀ (rest : List Action) (i2 : Nat) , (a0_.acts).drop i2 = rest → d_spec_l5Elsewhere_L2 a0_ a2_ k2 rest i2  = some r → Ar Γ N Tryz.f51 (.q [[none]] (D.bool (r))) [1, 1, 0, 1, 0] (rest.length + 1) (d_spec_l5Elsewhere_S2 a0_ a2_ ((i2 : Int))) := by
  intro rest
  induction rest with
  | nil =>
    intro i2  hd2 h
    rw [d_spec_l5Elsewhere_L2] at h
    refine AWr_succ fun N2 hN2 hS2 => ?_
    exact ((pre0.ge Action.c hd2).a [.hl 0 [] []]).ex hΓ hN2 (hE2 h)
  | cons x2_ xs2 ih2 =>
    intro i2  hd2 h
    rw [d_spec_l5Elsewhere_L2] at h
    refine AWr_succ fun N2 hN2 hS2 => ?_
    obtain ⟨y67, h68, h⟩ := den_bind h
    obtain ⟨y69, h70, h⟩ := den_bind h
    have o4_ := ((((pre0.lt Action.c hd2).l (map_row Action.c 3 (dc hd2) rfl)).g (d_spec_VarsOf_good h68)).g (d_spec_l1HasText_good h70))
    obtain ⟨h71, h⟩ | ⟨h71, h⟩ := den_if h
    · have h := den_some h; subst h; exact (o4_.b h71).ret hΓ
    · exact ((o4_.b h71).a [.cn [2, 3, 8] [0]]).ct hΓ hS2 (iS hd2 hm2) (ih2 (i2 + 1)  (dn hd2) h)
theorem d_spec_l5Elsewhere_good {a0_ : Rule} {a1_ : Int} {a2_ : Bytes} {r : Bool} (h : d_spec_l5Elsewhere a0_ a1_ a2_ = some r) : Good Tryz.prog 51 [D.agg (Rule.c a0_), D.int .i64 (a1_), D.str (a2_)] (D.bool (r)) := by
  refine gd Tryz.func51 [[none]] 45 fun hr Γ hΓ => ?_
  rw [d_spec_l5Elsewhere] at h
  refine (pre0.a [.cn [1, 2, 3, 7] [0]]).lp hΓ (d_spec_l5Elsewhere_L1w hΓ (fun h => ?_) (by have := (Rdb.sl (Rdb.agg (hr _ (List.mem_of_getElem? (i := 0) rfl)) (.sl ((a0_.conds).map Cond.c)) (by simp))).1; simpa using this) (a0_.conds) 0  rfl h)
  refine (pre0.a [.cn [2, 3, 8] [0]]).lp hΓ (d_spec_l5Elsewhere_L2w hΓ (fun h => ?_) (by have := (Rdb.sl (Rdb.agg (hr _ (List.mem_of_getElem? (i := 0) rfl)) (.sl ((a0_.acts).map Action.c)) (by simp))).1; simpa using this) (a0_.acts) 0  rfl h)
  have h := den_some h; subst h; exact pre0.ret hΓ
def d_spec_IsAction (a0_ : Action) : Option Bool := (bif (a0_.kind : Int) == (1) then ((d_spec_IsPattern (a0_.pat)).bind fun y2 => (some (y2))) else (bif (a0_.kind : Int) == (2) then ((d_spec_IsPattern (a0_.pat)).bind fun y5 => (some (y5))) else (bif (a0_.kind : Int) == (3) then (bif (a0_.pat.rel : Bytes) == ([]) then (some (((((a0_.pat.args).map tx).length : Int) : Int) == (0))) else (some (false))) else (some (false)))))
theorem d_spec_IsAction_good {a0_ : Action} {r : Bool} (h : d_spec_IsAction a0_ = some r) : Good Tryz.prog 52 [D.agg (Action.c a0_)] (D.bool (r)) := by
  refine gd Tryz.func52 [[none]] 24 fun hr Γ hΓ => ?_
  rw [d_spec_IsAction] at h
  obtain ⟨h1, h⟩ | ⟨h1, h⟩ := den_if h
  · obtain ⟨y2, h3, h⟩ := den_bind h
    have h := den_some h; subst h; exact ((pre0.r 2 h1).g (d_spec_IsPattern_good h3)).ret hΓ
  · obtain ⟨h4, h⟩ | ⟨h4, h⟩ := den_if h
    · obtain ⟨y5, h6, h⟩ := den_bind h
      have h := den_some h; subst h; exact (((pre0.b h1).b h4).g (d_spec_IsPattern_good h6)).ret hΓ
    · have o1_ := ((pre0.b h1).b h4)
      obtain ⟨h7, h⟩ | ⟨h7, h⟩ := den_if h
      · obtain ⟨h8, h⟩ | ⟨h8, h⟩ := den_if h
        · cases h; exact ((o1_.b h7).r 6 h8).ret hΓ
        · have h := den_some h; subst h; exact ((o1_.b h7).r 6 h8).ret hΓ
      · have h := den_some h; subst h; exact (o1_.b h7).ret hΓ
def d_spec_RuleVars_L2 (a0_ : Rule) (i1 : Nat) (y147 : List Bytes) (k2 : List Bytes → Option (List Bytes)) : List Bytes → Nat → List Bytes → Option (List Bytes)
  | [], i2, w2_1 => (k2 (w2_1))
  | x2_ :: xs2, i2, w2_1 => ((d_spec_l1Put (w2_1) (x2_)).bind fun y171 => (d_spec_RuleVars_L2 a0_ i1 y147 k2 xs2 (i2 + 1) (y171)))
def d_spec_RuleVars_L1 (a0_ : Rule) (k1 : List Bytes → Option (List Bytes)) : List Cond → Nat → List Bytes → Option (List Bytes)
  | [], i1, w1_1 => (k1 (w1_1))
  | x1_ :: xs1, i1, w1_1 => ((d_spec_CondVars (x1_)).bind fun y147 => (bif decide ((y147).length ≤ maxLen) then (d_spec_RuleVars_L2 a0_ i1 y147 (fun (q2_1 : List Bytes) => (d_spec_RuleVars_L1 a0_ k1 xs1 (i1 + 1) (q2_1))) (y147) 0 (w1_1)) else none))
def d_spec_RuleVars_L4 (a0_ : Rule) (i3 : Nat) (y320 : List Bytes) (k4 : List Bytes → Option (List Bytes)) : List Bytes → Nat → List Bytes → Option (List Bytes)
  | [], i4, w4_1 => (k4 (w4_1))
  | x4_ :: xs4, i4, w4_1 => ((d_spec_l1Put (w4_1) (x4_)).bind fun y344 => (d_spec_RuleVars_L4 a0_ i3 y320 k4 xs4 (i4 + 1) (y344)))
def d_spec_RuleVars_L3 (a0_ : Rule) (k3 : List Bytes → Option (List Bytes)) : List Action → Nat → List Bytes → Option (List Bytes)
  | [], i3, w3_1 => (k3 (w3_1))
  | x3_ :: xs3, i3, w3_1 => ((d_spec_VarsOf (x3_.pat)).bind fun y320 => (bif decide ((y320).length ≤ maxLen) then (d_spec_RuleVars_L4 a0_ i3 y320 (fun (q4_1 : List Bytes) => (d_spec_RuleVars_L3 a0_ k3 xs3 (i3 + 1) (q4_1))) (y320) 0 (w3_1)) else none))
def d_spec_RuleVars (a0_ : Rule) : Option (List Bytes) := (d_spec_RuleVars_L1 a0_ (fun (q1_1 : List Bytes) => (d_spec_RuleVars_L3 a0_ (fun (q3_0 : List Bytes) => (some (q3_0))) (a0_.acts) 0 (q1_1))) (a0_.conds) 0 (([] : List Bytes)))
def d_spec_RuleVars_S1 (a0_ : Rule) (W0 : List (List D)) (ix_ : Int) : St := ⟨[(1, D.ptr 0 0), (3, D.acc 1), (4, D.int .i64 (ix_))], [Ob.box (Rule.c a0_), Ob.row .uq 9 1 (W0)]⟩
def d_spec_RuleVars_S2 (a0_ : Rule) (i1 : Nat) (y147 : List Bytes) (W0 : List (List D)) (ix_ : Int) : St := ⟨[(1, D.ptr 0 0), (3, D.acc 1), (4, D.int .i64 ((i1 : Int))), (5, D.acc 2), (6, D.int .i64 (ix_))], [Ob.box (Rule.c a0_), Ob.row .uq 9 1 (W0), Ob.row .uq 9 1 ((y147).map tx)]⟩
theorem d_spec_RuleVars_L2w (hΓ : Γ.nt = 63) {a0_ : Rule} {i1 : Nat} {y147 : List Bytes} {r : List Bytes} {k2 : List Bytes → Option (List Bytes)} (hE2 : ∀ (q2_1 : List Bytes), k2 q2_1 = some r → Ax Γ N Tryz.f54 (.q [[some (9, 1)]] (D.fr 9 1 ((r).map tx))) [1, 1, 0, 1, 0, 0, 1, 1] ⟨[(1, D.ptr 0 0), (3, D.acc 1), (4, D.int .i64 ((i1 : Int)))], [Ob.box (Rule.c a0_), Ob.row .uq 9 1 ((q2_1).map tx)]⟩) (hm2 : (y147).length ≤ maxLen) : ∀ (rest : List Bytes) (i2 : Nat) (w2_1 : List Bytes), (y147).drop i2 = rest → d_spec_RuleVars_L2 a0_ i1 y147 k2 rest i2 w2_1 = some r → Ar Γ N Tryz.f54 (.q [[some (9, 1)]] (D.fr 9 1 ((r).map tx))) [1, 1, 0, 1, 0, 0, 1, 0, 0, 1, 1, 0] (rest.length + 1) (d_spec_RuleVars_S2 a0_ i1 y147 ((w2_1).map tx) ((i2 : Int))) := by
  intro rest
  induction rest with
  | nil =>
    intro i2 w2_1 hd2 h
    rw [d_spec_RuleVars_L2] at h
    refine AWr_succ fun N2 hN2 hS2 => ?_
    exact ((pre0.ge tx hd2).a [.hl 3 [1, 3, 4] [0, 1]]).ex hΓ hN2 (hE2 (w2_1) h)
  | cons x2_ xs2 ih2 =>
    intro i2 w2_1 hd2 h
    rw [d_spec_RuleVars_L2] at h
    refine AWr_succ fun N2 hN2 hS2 => ?_
    obtain ⟨y171, h172, h⟩ := den_bind h
    exact (((((pre0.lt tx hd2).i (own_ixl tx 1 (dc hd2))).o 1 1 .uq (map_get tx (dc hd2))).g (d_spec_l1Put_good h172)).a [.cn [1, 3, 4, 5, 6] [0, 3, 2]]).ct hΓ hS2 (iS hd2 hm2) (ih2 (i2 + 1) (y171) (dn hd2) h)
theorem d_spec_RuleVars_L1w (hΓ : Γ.nt = 63) {a0_ : Rule} {r : List Bytes} {k1 : List Bytes → Option (List Bytes)} (hE1 : ∀ (q1_1 : List Bytes), k1 q1_1 = some r → Ax Γ N Tryz.f54 (.q [[some (9, 1)]] (D.fr 9 1 ((r).map tx))) [1, 1, 1] ⟨[(1, D.ptr 0 0), (3, D.acc 1)], [Ob.box (Rule.c a0_), Ob.row .uq 9 1 ((q1_1).map tx)]⟩) (hm1 : (a0_.conds).length ≤ maxLen) : ∀ (rest : List Cond) (i1 : Nat) (w1_1 : List Bytes), (a0_.conds).drop i1 = rest → d_spec_RuleVars_L1 a0_ k1 rest i1 w1_1 = some r → Ar Γ N Tryz.f54 (.q [[some (9, 1)]] (D.fr 9 1 ((r).map tx))) [1, 1, 0, 1, 0] (rest.length + 1) (d_spec_RuleVars_S1 a0_ ((w1_1).map tx) ((i1 : Int))) := by
  intro rest
  induction rest with
  | nil =>
    intro i1 w1_1 hd1 h
    rw [d_spec_RuleVars_L1] at h
    refine AWr_succ fun N1 hN1 hS1 => ?_
    exact ((pre0.ge Cond.c hd1).a [.hl 0 [1, 3] [0, 1]]).ex hΓ hN1 (hE1 (w1_1) h)
  | cons x1_ xs1 ih1 =>
    intro i1 w1_1 hd1 h
    rw [d_spec_RuleVars_L1] at h
    refine AWr_succ fun N1 hN1 hS1 => ?_
    obtain ⟨y147, h148, h⟩ := den_bind h
    obtain ⟨h173, h⟩ := den_ok h
    refine ((((pre0.lt Cond.c hd1).l (map_row Cond.c 5 (dc hd1) rfl)).g (d_spec_CondVars_good h148)).a [.cn [1, 3, 4, 5, 6] [0, 1, 2]]).lp hΓ (d_spec_RuleVars_L2w hΓ (fun q2_1 h => ?_) (of_decide_eq_true h173) (y147) 0 (w1_1) rfl h)
    exact (pre0.a [.cn [1, 3, 4] [0, 1]]).ct hΓ hS1 (iS hd1 hm1) (ih1 (i1 + 1) (q2_1) (dn hd1) h)
def d_spec_RuleVars_S3 (a0_ : Rule) (W0 : List (List D)) (ix_ : Int) : St := ⟨[(1, D.ptr 0 0), (3, D.acc 1), (7, D.int .i64 (ix_))], [Ob.box (Rule.c a0_), Ob.row .uq 9 1 (W0)]⟩
def d_spec_RuleVars_S4 (a0_ : Rule) (i3 : Nat) (y320 : List Bytes) (W0 : List (List D)) (ix_ : Int) : St := ⟨[(1, D.ptr 0 0), (3, D.acc 1), (7, D.int .i64 ((i3 : Int))), (8, D.acc 2), (9, D.int .i64 (ix_))], [Ob.box (Rule.c a0_), Ob.row .uq 9 1 (W0), Ob.row .uq 9 1 ((y320).map tx)]⟩
theorem d_spec_RuleVars_L4w (hΓ : Γ.nt = 63) {a0_ : Rule} {i3 : Nat} {y320 : List Bytes} {r : List Bytes} {k4 : List Bytes → Option (List Bytes)} (hE4 : ∀ (q4_1 : List Bytes), k4 q4_1 = some r → Ax Γ N Tryz.f54 (.q [[some (9, 1)]] (D.fr 9 1 ((r).map tx))) [1, 1, 1, 0, 1, 0, 0, 1, 1] ⟨[(1, D.ptr 0 0), (3, D.acc 1), (7, D.int .i64 ((i3 : Int)))], [Ob.box (Rule.c a0_), Ob.row .uq 9 1 ((q4_1).map tx)]⟩) (hm4 : (y320).length ≤ maxLen) : ∀ (rest : List Bytes) (i4 : Nat) (w4_1 : List Bytes), (y320).drop i4 = rest → d_spec_RuleVars_L4 a0_ i3 y320 k4 rest i4 w4_1 = some r → Ar Γ N Tryz.f54 (.q [[some (9, 1)]] (D.fr 9 1 ((r).map tx))) [1, 1, 1, 0, 1, 0, 0, 1, 0, 0, 1, 1, 0] (rest.length + 1) (d_spec_RuleVars_S4 a0_ i3 y320 ((w4_1).map tx) ((i4 : Int))) := by
  intro rest
  induction rest with
  | nil =>
    intro i4 w4_1 hd4 h
    rw [d_spec_RuleVars_L4] at h
    refine AWr_succ fun N4 hN4 hS4 => ?_
    exact ((pre0.ge tx hd4).a [.hl 3 [1, 3, 7] [0, 1]]).ex hΓ hN4 (hE4 (w4_1) h)
  | cons x4_ xs4 ih4 =>
    intro i4 w4_1 hd4 h
    rw [d_spec_RuleVars_L4] at h
    refine AWr_succ fun N4 hN4 hS4 => ?_
    obtain ⟨y344, h345, h⟩ := den_bind h
    exact (((((pre0.lt tx hd4).i (own_ixl tx 1 (dc hd4))).o 1 1 .uq (map_get tx (dc hd4))).g (d_spec_l1Put_good h345)).a [.cn [1, 3, 7, 8, 9] [0, 3, 2]]).ct hΓ hS4 (iS hd4 hm4) (ih4 (i4 + 1) (y344) (dn hd4) h)
theorem d_spec_RuleVars_L3w (hΓ : Γ.nt = 63) {a0_ : Rule} {r : List Bytes} {k3 : List Bytes → Option (List Bytes)} (hE3 : ∀ (q3_0 : List Bytes), k3 q3_0 = some r → Ax Γ N Tryz.f54 (.q [[some (9, 1)]] (D.fr 9 1 ((r).map tx))) [1, 1, 1, 1] ⟨[(3, D.acc 0)], [Ob.row .uq 9 1 ((q3_0).map tx)]⟩) (hm3 : (a0_.acts).length ≤ maxLen) : ∀ (rest : List Action) (i3 : Nat) (w3_1 : List Bytes), (a0_.acts).drop i3 = rest → d_spec_RuleVars_L3 a0_ k3 rest i3 w3_1 = some r → Ar Γ N Tryz.f54 (.q [[some (9, 1)]] (D.fr 9 1 ((r).map tx))) [1, 1, 1, 0, 1, 0] (rest.length + 1) (d_spec_RuleVars_S3 a0_ ((w3_1).map tx) ((i3 : Int))) := by
  intro rest
  induction rest with
  | nil =>
    intro i3 w3_1 hd3 h
    rw [d_spec_RuleVars_L3] at h
    refine AWr_succ fun N3 hN3 hS3 => ?_
    exact ((pre0.ge Action.c hd3).a [.hl 0 [3] [1]]).ex hΓ hN3 (hE3 (w3_1) h)
  | cons x3_ xs3 ih3 =>
    intro i3 w3_1 hd3 h
    rw [d_spec_RuleVars_L3] at h
    refine AWr_succ fun N3 hN3 hS3 => ?_
    obtain ⟨y320, h321, h⟩ := den_bind h
    obtain ⟨h346, h⟩ := den_ok h
    refine ((((pre0.lt Action.c hd3).l (map_row Action.c 3 (dc hd3) rfl)).g (d_spec_VarsOf_good h321)).a [.cn [1, 3, 7, 8, 9] [0, 1, 2]]).lp hΓ (d_spec_RuleVars_L4w hΓ (fun q4_1 h => ?_) (of_decide_eq_true h346) (y320) 0 (w3_1) rfl h)
    exact (pre0.a [.cn [1, 3, 7] [0, 1]]).ct hΓ hS3 (iS hd3 hm3) (ih3 (i3 + 1) (q4_1) (dn hd3) h)
theorem d_spec_RuleVars_good {a0_ : Rule} {r : List Bytes} (h : d_spec_RuleVars a0_ = some r) : Good Tryz.prog 54 [D.agg (Rule.c a0_)] (D.fr 9 1 ((r).map tx)) := by
  refine gd Tryz.func54 [[some (9, 1)]] 63 fun hr Γ hΓ => ?_
  rw [d_spec_RuleVars] at h
  refine (pre0.a [.cn [1, 3, 4] [0, 1]]).lp hΓ (d_spec_RuleVars_L1w hΓ (fun q1_1 h => ?_) (by have := (Rdb.sl (Rdb.agg (hr _ (List.mem_of_getElem? (i := 0) rfl)) (.sl ((a0_.conds).map Cond.c)) (by simp))).1; simpa using this) (a0_.conds) 0 (([] : List Bytes)) rfl h)
  refine (pre0.a [.cn [1, 3, 7] [0, 1]]).lp hΓ (d_spec_RuleVars_L3w hΓ (fun q3_0 h => ?_) (by have := (Rdb.sl (Rdb.agg (hr _ (List.mem_of_getElem? (i := 0) rfl)) (.sl ((a0_.acts).map Action.c)) (by simp))).1; simpa using this) (a0_.acts) 0 (q1_1) rfl h)
  have h := den_some h; subst h; exact pre0.ret hΓ
def d_spec_IsRule_L2 (a0_ : Rule) (y13 : List Bytes) (i1 : Nat) (x1_ : Cond) (y648 : List Bytes) (y650 : List Bytes) (k2 : Option Bool) : List Bytes → Nat → Option Bool
  | [], i2 => (k2 )
  | x2_ :: xs2, i2 => ((d_spec_l1HasText (y648) (x2_)).bind fun y710 => ((d_spec_IsTest (x1_)).bind fun y712 => (bif y712 then (bif !(y710) then (some (false)) else (bif (x1_.kind : Int) == (2) then (d_spec_IsRule_L2 a0_ y13 i1 x1_ y648 y650 k2 xs2 (i2 + 1) ) else (d_spec_IsRule_L2 a0_ y13 i1 x1_ y648 y650 k2 xs2 (i2 + 1) ))) else (bif (x1_.kind : Int) == (2) then (bif !(y710) then ((d_spec_l5Elsewhere (a0_) ((i1 : Int)) (x2_)).bind fun y719 => (bif y719 then (some (false)) else (d_spec_IsRule_L2 a0_ y13 i1 x1_ y648 y650 k2 xs2 (i2 + 1) ))) else (d_spec_IsRule_L2 a0_ y13 i1 x1_ y648 y650 k2 xs2 (i2 + 1) )) else (d_spec_IsRule_L2 a0_ y13 i1 x1_ y648 y650 k2 xs2 (i2 + 1) )))))
def d_spec_IsRule_L3 (a0_ : Rule) (y13 : List Bytes) (i1 : Nat) (x1_ : Cond) (y723 : List Bytes) (y725 : List Bytes) (k3 : Option Bool) : List Bytes → Nat → Option Bool
  | [], i3 => (k3 )
  | x3_ :: xs3, i3 => ((d_spec_l1HasText (y723) (x3_)).bind fun y785 => ((d_spec_IsTest (x1_)).bind fun y787 => (bif y787 then (bif !(y785) then (some (false)) else (bif (x1_.kind : Int) == (2) then (d_spec_IsRule_L3 a0_ y13 i1 x1_ y723 y725 k3 xs3 (i3 + 1) ) else (d_spec_IsRule_L3 a0_ y13 i1 x1_ y723 y725 k3 xs3 (i3 + 1) ))) else (bif (x1_.kind : Int) == (2) then (bif !(y785) then ((d_spec_l5Elsewhere (a0_) ((i1 : Int)) (x3_)).bind fun y794 => (bif y794 then (some (false)) else (d_spec_IsRule_L3 a0_ y13 i1 x1_ y723 y725 k3 xs3 (i3 + 1) ))) else (d_spec_IsRule_L3 a0_ y13 i1 x1_ y723 y725 k3 xs3 (i3 + 1) )) else (d_spec_IsRule_L3 a0_ y13 i1 x1_ y723 y725 k3 xs3 (i3 + 1) )))))
def d_spec_IsRule_L1 (a0_ : Rule) (y13 : List Bytes) (k1 : Option Bool) : List Cond → Nat → Option Bool
  | [], i1 => (k1 )
  | x1_ :: xs1, i1 => ((d_spec_IsCond (x1_)).bind fun y643 => (bif !(y643) then (some (false)) else (bif ((i1 : Int) : Int) == (0) then (bif (x1_.kind : Int) != (1) then (some (false)) else ((d_spec_BoundVars (a0_) ((i1 : Int))).bind fun y648 => ((d_spec_CondVars (x1_)).bind fun y650 => (bif decide ((y650).length ≤ maxLen) then (d_spec_IsRule_L2 a0_ y13 i1 x1_ y648 y650 (d_spec_IsRule_L1 a0_ y13 k1 xs1 (i1 + 1) ) (y650) 0 ) else none)))) else ((d_spec_BoundVars (a0_) ((i1 : Int))).bind fun y723 => ((d_spec_CondVars (x1_)).bind fun y725 => (bif decide ((y725).length ≤ maxLen) then (d_spec_IsRule_L3 a0_ y13 i1 x1_ y723 y725 (d_spec_IsRule_L1 a0_ y13 k1 xs1 (i1 + 1) ) (y725) 0 ) else none))))))
def d_spec_IsRule_L5 (a0_ : Rule) (y13 : List Bytes) (i4 : Nat) (y929 : List Bytes) (k5 : Option Bool) : List Bytes → Nat → Option Bool
  | [], i5 => (k5 )
  | x5_ :: xs5, i5 => ((d_spec_l1HasText (y13) (x5_)).bind fun y952 => (bif !(y952) then (some (false)) else (d_spec_IsRule_L5 a0_ y13 i4 y929 k5 xs5 (i5 + 1) )))
def d_spec_IsRule_L4 (a0_ : Rule) (y13 : List Bytes) (k4 : Option Bool) : List Action → Nat → Option Bool
  | [], i4 => (k4 )
  | x4_ :: xs4, i4 => ((d_spec_IsAction (x4_)).bind fun y926 => (bif !(y926) then (some (false)) else ((d_spec_VarsOf (x4_.pat)).bind fun y929 => (bif decide ((y929).length ≤ maxLen) then (d_spec_IsRule_L5 a0_ y13 i4 y929 (d_spec_IsRule_L4 a0_ y13 k4 xs4 (i4 + 1) ) (y929) 0 ) else none))))
def d_spec_IsRule (a0_ : Rule) : Option Bool := ((d_spec_IsName (a0_.name)).bind fun y1 => (bif !(y1) then (some (false)) else ((d_spec_l1In (a0_.prio) (0) (9)).bind fun y4 => (bif !(y4) then (some (false)) else ((d_spec_l1In ((((a0_.conds).map Cond.c).length : Int)) (1) (4)).bind fun y7 => (bif !(y7) then (some (false)) else ((d_spec_l1In ((((a0_.acts).map Action.c).length : Int)) (1) (2)).bind fun y10 => (bif !(y10) then (some (false)) else ((d_spec_BoundVars (a0_) ((((a0_.conds).map Cond.c).length : Int))).bind fun y13 => (d_spec_IsRule_L1 a0_ y13 (d_spec_IsRule_L4 a0_ y13 ((d_spec_RuleVars (a0_)).bind fun y956 => (some (decide (((((y956).map tx).length : Int) : Int) ≤ (6))))) (a0_.acts) 0 ) (a0_.conds) 0 ))))))))))
def d_spec_IsRule_S1 (a0_ : Rule) (y13 : List Bytes) (ix_ : Int) : St := ⟨[(1, D.ptr 0 0), (3, D.acc 1), (4, D.int .i64 (ix_))], [Ob.box (Rule.c a0_), Ob.row .uq 9 1 ((y13).map tx)]⟩
def d_spec_IsRule_S2 (a0_ : Rule) (y13 : List Bytes) (i1 : Nat) (x1_ : Cond) (y648 : List Bytes) (y650 : List Bytes) (ix_ : Int) : St := ⟨[(1, D.ptr 0 0), (3, D.acc 1), (4, D.int .i64 ((i1 : Int))), (5, D.ptr 2 0), (6, D.acc 3), (7, D.acc 4), (8, D.int .i64 (ix_))], [Ob.box (Rule.c a0_), Ob.row .uq 9 1 ((y13).map tx), Ob.box [D.int .i64 (x1_.kind), D.str (x1_.pat.rel), D.sl ((x1_.pat.args).map tx), D.str (x1_.left), D.str (x1_.right)], Ob.row .uq 9 1 ((y648).map tx), Ob.row .uq 9 1 ((y650).map tx)]⟩
theorem d_spec_IsRule_L2w (hΓ : Γ.nt = 145) {a0_ : Rule} {y13 : List Bytes} {i1 : Nat} {x1_ : Cond} {y648 : List Bytes} {y650 : List Bytes} {r : Bool} {k2 : Option Bool} (hE2 : k2 = some r → Ax Γ N Tryz.f10 (.q [[none]] (D.bool (r))) [1, 1, 1, 0, 1, 0, 0, 1, 1] ⟨[(1, D.ptr 0 0), (3, D.acc 1), (4, D.int .i64 ((i1 : Int)))], [Ob.box (Rule.c a0_), Ob.row .uq 9 1 ((y13).map tx)]⟩) (hm2 : (y650).length ≤ maxLen) : ∀ (rest : List Bytes) (i2 : Nat) , (y650).drop i2 = rest → d_spec_IsRule_L2 a0_ y13 i1 x1_ y648 y650 k2 rest i2  = some r → Ar Γ N Tryz.f10 (.q [[none]] (D.bool (r))) [1, 1, 1, 0, 1, 0, 0, 1, 0, 0, 1, 1, 1, 1, 1, 0] (rest.length + 1) (d_spec_IsRule_S2 a0_ y13 i1 x1_ y648 y650 ((i2 : Int))) := by
  intro rest
  induction rest with
  | nil =>
    intro i2  hd2 h
    rw [d_spec_IsRule_L2] at h
    refine AWr_succ fun N2 hN2 hS2 => ?_
    exact ((pre0.ge tx hd2).a [.hl 3 [1, 3, 4] [0, 1]]).ex hΓ hN2 (hE2 h)
  | cons x2_ xs2 ih2 =>
    intro i2  hd2 h
    rw [d_spec_IsRule_L2] at h
    refine AWr_succ fun N2 hN2 hS2 => ?_
    obtain ⟨y710, h711, h⟩ := den_bind h
    obtain ⟨y712, h713, h⟩ := den_bind h
    have o118_ := ((((((pre0.lt tx hd2).i (own_ixl tx 1 (dc hd2))).o 1 1 .uq (map_get tx (dc hd2))).g (d_spec_l1HasText_good h711)).a [.n 21]).g (d_spec_IsTest_good h713))
    obtain ⟨h714, h⟩ | ⟨h714, h⟩ := den_if h
    · have o119_ := (o118_.r 3 h714)
      obtain ⟨h715, h⟩ | ⟨h715, h⟩ := den_if h
      · have h := den_some h; subst h; exact ((((((o119_.r 4 h715).a [bF, bF]).r 2 h715).a [bF, bF, bF, bF, bF, bF, bF]).r 2 h715).T 1).ret hΓ
      · have o120_ := (o119_.r 4 h715)
        obtain ⟨h716, h⟩ | ⟨h716, h⟩ := den_if h
        · exact ((((((o120_.r 2 h716).b h715).b h716).r 11 h715).F 1).a [.cn [1, 3, 4, 5, 6, 7, 8] [0, 1, 2, 3, 4]]).ct hΓ hS2 (iS hd2 hm2) (ih2 (i2 + 1)  (dn hd2) h)
        · exact ((((((((((o120_.r 2 h716).b h715).b h716).b h715).F 7).b h715).F 1).b h715).F 1).a [.cn [1, 3, 4, 5, 6, 7, 8] [0, 1, 2, 3, 4]]).ct hΓ hS2 (iS hd2 hm2) (ih2 (i2 + 1)  (dn hd2) h)
    · have o121_ := ((o118_.r 3 h714).F 4)
      obtain ⟨h717, h⟩ | ⟨h717, h⟩ := den_if h
      · have o122_ := ((((o121_.r 2 h717).F 1).b h717).F 1)
        obtain ⟨h718, h⟩ | ⟨h718, h⟩ := den_if h
        · obtain ⟨y719, h720, h⟩ := den_bind h
          have o123_ := (((((((((o122_.r 5 h718).i (own_ixl tx 1 (dc hd2))).b h718).o 1 1 .uq (map_get tx (dc hd2))).b h718).g (d_spec_l5Elsewhere_good h720)).F 1).b h718).F 1)
          obtain ⟨h721, h⟩ | ⟨h721, h⟩ := den_if h
          · have h := den_some h; subst h; exact (o123_.b h721).ret hΓ
          · exact ((o123_.b h721).a [.cn [1, 3, 4, 5, 6, 7, 8] [0, 1, 2, 3, 4]]).ct hΓ hS2 (iS hd2 hm2) (ih2 (i2 + 1)  (dn hd2) h)
        · exact (((((o122_.r 7 h718).F 1).b h718).F 2).a [.cn [1, 3, 4, 5, 6, 7, 8] [0, 1, 2, 3, 4]]).ct hΓ hS2 (iS hd2 hm2) (ih2 (i2 + 1)  (dn hd2) h)
      · exact (((((o121_.r 2 h717).F 1).b h717).F 12).a [.cn [1, 3, 4, 5, 6, 7, 8] [0, 1, 2, 3, 4]]).ct hΓ hS2 (iS hd2 hm2) (ih2 (i2 + 1)  (dn hd2) h)
def d_spec_IsRule_S3 (a0_ : Rule) (y13 : List Bytes) (i1 : Nat) (x1_ : Cond) (y723 : List Bytes) (y725 : List Bytes) (ix_ : Int) : St := ⟨[(1, D.ptr 0 0), (3, D.acc 1), (4, D.int .i64 ((i1 : Int))), (5, D.ptr 2 0), (6, D.acc 3), (7, D.acc 4), (8, D.int .i64 (ix_))], [Ob.box (Rule.c a0_), Ob.row .uq 9 1 ((y13).map tx), Ob.box [D.int .i64 (x1_.kind), D.str (x1_.pat.rel), D.sl ((x1_.pat.args).map tx), D.str (x1_.left), D.str (x1_.right)], Ob.row .uq 9 1 ((y723).map tx), Ob.row .uq 9 1 ((y725).map tx)]⟩
theorem d_spec_IsRule_L3w (hΓ : Γ.nt = 145) {a0_ : Rule} {y13 : List Bytes} {i1 : Nat} {x1_ : Cond} {y723 : List Bytes} {y725 : List Bytes} {r : Bool} {k3 : Option Bool} (hE3 : k3 = some r → Ax Γ N Tryz.f10 (.q [[none]] (D.bool (r))) [1, 1, 1, 0, 1, 0, 0, 1, 1] ⟨[(1, D.ptr 0 0), (3, D.acc 1), (4, D.int .i64 ((i1 : Int)))], [Ob.box (Rule.c a0_), Ob.row .uq 9 1 ((y13).map tx)]⟩) (hm3 : (y725).length ≤ maxLen) : ∀ (rest : List Bytes) (i3 : Nat) , (y725).drop i3 = rest → d_spec_IsRule_L3 a0_ y13 i1 x1_ y723 y725 k3 rest i3  = some r → Ar Γ N Tryz.f10 (.q [[none]] (D.bool (r))) [1, 1, 1, 0, 1, 0, 0, 1, 0, 0, 1, 1, 1, 1, 1, 0] (rest.length + 1) (d_spec_IsRule_S3 a0_ y13 i1 x1_ y723 y725 ((i3 : Int))) := by
  intro rest
  induction rest with
  | nil =>
    intro i3  hd3 h
    rw [d_spec_IsRule_L3] at h
    refine AWr_succ fun N3 hN3 hS3 => ?_
    exact ((pre0.ge tx hd3).a [.hl 3 [1, 3, 4] [0, 1]]).ex hΓ hN3 (hE3 h)
  | cons x3_ xs3 ih3 =>
    intro i3  hd3 h
    rw [d_spec_IsRule_L3] at h
    refine AWr_succ fun N3 hN3 hS3 => ?_
    obtain ⟨y785, h786, h⟩ := den_bind h
    obtain ⟨y787, h788, h⟩ := den_bind h
    have o124_ := ((((((pre0.lt tx hd3).i (own_ixl tx 1 (dc hd3))).o 1 1 .uq (map_get tx (dc hd3))).g (d_spec_l1HasText_good h786)).a [.n 21]).g (d_spec_IsTest_good h788))
    obtain ⟨h789, h⟩ | ⟨h789, h⟩ := den_if h
    · have o125_ := (o124_.r 3 h789)
      obtain ⟨h790, h⟩ | ⟨h790, h⟩ := den_if h
      · have h := den_some h; subst h; exact ((((((o125_.r 4 h790).a [bF, bF]).r 2 h790).a [bF, bF, bF, bF, bF, bF, bF]).r 2 h790).T 1).ret hΓ
      · have o126_ := (o125_.r 4 h790)
        obtain ⟨h791, h⟩ | ⟨h791, h⟩ := den_if h
        · exact ((((((o126_.r 2 h791).b h790).b h791).r 11 h790).F 1).a [.cn [1, 3, 4, 5, 6, 7, 8] [0, 1, 2, 3, 4]]).ct hΓ hS3 (iS hd3 hm3) (ih3 (i3 + 1)  (dn hd3) h)
        · exact ((((((((((o126_.r 2 h791).b h790).b h791).b h790).F 7).b h790).F 1).b h790).F 1).a [.cn [1, 3, 4, 5, 6, 7, 8] [0, 1, 2, 3, 4]]).ct hΓ hS3 (iS hd3 hm3) (ih3 (i3 + 1)  (dn hd3) h)
    · have o127_ := ((o124_.r 3 h789).F 4)
      obtain ⟨h792, h⟩ | ⟨h792, h⟩ := den_if h
      · have o128_ := ((((o127_.r 2 h792).F 1).b h792).F 1)
        obtain ⟨h793, h⟩ | ⟨h793, h⟩ := den_if h
        · obtain ⟨y794, h795, h⟩ := den_bind h
          have o129_ := (((((((((o128_.r 5 h793).i (own_ixl tx 1 (dc hd3))).b h793).o 1 1 .uq (map_get tx (dc hd3))).b h793).g (d_spec_l5Elsewhere_good h795)).F 1).b h793).F 1)
          obtain ⟨h796, h⟩ | ⟨h796, h⟩ := den_if h
          · have h := den_some h; subst h; exact (o129_.b h796).ret hΓ
          · exact ((o129_.b h796).a [.cn [1, 3, 4, 5, 6, 7, 8] [0, 1, 2, 3, 4]]).ct hΓ hS3 (iS hd3 hm3) (ih3 (i3 + 1)  (dn hd3) h)
        · exact (((((o128_.r 7 h793).F 1).b h793).F 2).a [.cn [1, 3, 4, 5, 6, 7, 8] [0, 1, 2, 3, 4]]).ct hΓ hS3 (iS hd3 hm3) (ih3 (i3 + 1)  (dn hd3) h)
      · exact (((((o127_.r 2 h792).F 1).b h792).F 12).a [.cn [1, 3, 4, 5, 6, 7, 8] [0, 1, 2, 3, 4]]).ct hΓ hS3 (iS hd3 hm3) (ih3 (i3 + 1)  (dn hd3) h)
theorem d_spec_IsRule_L1w (hΓ : Γ.nt = 145) {a0_ : Rule} {y13 : List Bytes} {r : Bool} {k1 : Option Bool} (hE1 : k1 = some r → Ax Γ N Tryz.f10 (.q [[none]] (D.bool (r))) [1, 1, 1, 1] ⟨[(1, D.ptr 0 0), (3, D.acc 1)], [Ob.box (Rule.c a0_), Ob.row .uq 9 1 ((y13).map tx)]⟩) (hm1 : (a0_.conds).length ≤ maxLen) : ∀ (rest : List Cond) (i1 : Nat) , (a0_.conds).drop i1 = rest → d_spec_IsRule_L1 a0_ y13 k1 rest i1  = some r → Ar Γ N Tryz.f10 (.q [[none]] (D.bool (r))) [1, 1, 1, 0, 1, 0] (rest.length + 1) (d_spec_IsRule_S1 a0_ y13 ((i1 : Int))) := by
  intro rest
  induction rest with
  | nil =>
    intro i1  hd1 h
    rw [d_spec_IsRule_L1] at h
    refine AWr_succ fun N1 hN1 hS1 => ?_
    exact ((pre0.ge Cond.c hd1).a [.hl 0 [1, 3] [0, 1]]).ex hΓ hN1 (hE1 h)
  | cons x1_ xs1 ih1 =>
    intro i1  hd1 h
    rw [d_spec_IsRule_L1] at h
    refine AWr_succ fun N1 hN1 hS1 => ?_
    obtain ⟨y643, h644, h⟩ := den_bind h
    have o130_ := (((pre0.lt Cond.c hd1).l (map_row Cond.c 5 (dc hd1) rfl)).g (d_spec_IsCond_good h644))
    obtain ⟨h645, h⟩ | ⟨h645, h⟩ := den_if h
    · have h := den_some h; subst h; exact ((((o130_.r 3 h645).a [bF, bF, bF]).r 2 h645).T 1).ret hΓ
    · have o131_ := (o130_.r 3 h645)
      obtain ⟨h646, h⟩ | ⟨h646, h⟩ := den_if h
      · have o132_ := ((((o131_.r 3 h646).b h645).b h646).b h645)
        obtain ⟨h647, h⟩ | ⟨h647, h⟩ := den_if h
        · have h := den_some h; subst h; exact (o132_.b h647).ret hΓ
        · obtain ⟨y648, h649, h⟩ := den_bind h
          obtain ⟨y650, h651, h⟩ := den_bind h
          obtain ⟨h722, h⟩ := den_ok h
          refine ((((o132_.b h647).g (d_spec_BoundVars_good h649)).g (d_spec_CondVars_good h651)).a [.cn [1, 3, 4, 5, 6, 7, 8] [0, 1, 2, 3, 4]]).lp hΓ (d_spec_IsRule_L2w hΓ (fun h => ?_) (of_decide_eq_true h722) (y650) 0  rfl h)
          exact (pre0.a [.cn [1, 3, 4] [0, 1]]).ct hΓ hS1 (iS hd1 hm1) (ih1 (i1 + 1)  (dn hd1) h)
      · obtain ⟨y723, h724, h⟩ := den_bind h
        obtain ⟨y725, h726, h⟩ := den_bind h
        obtain ⟨h797, h⟩ := den_ok h
        refine ((((((((o131_.r 3 h646).b h645).b h646).b h645).F 1).g (d_spec_BoundVars_good h724)).g (d_spec_CondVars_good h726)).a [.cn [1, 3, 4, 5, 6, 7, 8] [0, 1, 2, 3, 4]]).lp hΓ (d_spec_IsRule_L3w hΓ (fun h => ?_) (of_decide_eq_true h797) (y725) 0  rfl h)
        exact (pre0.a [.cn [1, 3, 4] [0, 1]]).ct hΓ hS1 (iS hd1 hm1) (ih1 (i1 + 1)  (dn hd1) h)
def d_spec_IsRule_S4 (a0_ : Rule) (y13 : List Bytes) (ix_ : Int) : St := ⟨[(1, D.ptr 0 0), (3, D.acc 1), (10, D.int .i64 (ix_))], [Ob.box (Rule.c a0_), Ob.row .uq 9 1 ((y13).map tx)]⟩
def d_spec_IsRule_S5 (a0_ : Rule) (y13 : List Bytes) (i4 : Nat) (y929 : List Bytes) (ix_ : Int) : St := ⟨[(1, D.ptr 0 0), (3, D.acc 1), (10, D.int .i64 ((i4 : Int))), (11, D.acc 2), (12, D.int .i64 (ix_))], [Ob.box (Rule.c a0_), Ob.row .uq 9 1 ((y13).map tx), Ob.row .uq 9 1 ((y929).map tx)]⟩
theorem d_spec_IsRule_L5w (hΓ : Γ.nt = 145) {a0_ : Rule} {y13 : List Bytes} {i4 : Nat} {y929 : List Bytes} {r : Bool} {k5 : Option Bool} (hE5 : k5 = some r → Ax Γ N Tryz.f10 (.q [[none]] (D.bool (r))) [1, 1, 1, 1, 0, 1, 0, 0, 1, 1] ⟨[(1, D.ptr 0 0), (3, D.acc 1), (10, D.int .i64 ((i4 : Int)))], [Ob.box (Rule.c a0_), Ob.row .uq 9 1 ((y13).map tx)]⟩) (hm5 : (y929).length ≤ maxLen) : ∀ (rest : List Bytes) (i5 : Nat) , (y929).drop i5 = rest → d_spec_IsRule_L5 a0_ y13 i4 y929 k5 rest i5  = some r → Ar Γ N Tryz.f10 (.q [[none]] (D.bool (r))) [1, 1, 1, 1, 0, 1, 0, 0, 1, 0, 0, 1, 1, 1, 0] (rest.length + 1) (d_spec_IsRule_S5 a0_ y13 i4 y929 ((i5 : Int))) := by
  intro rest
  induction rest with
  | nil =>
    intro i5  hd5 h
    rw [d_spec_IsRule_L5] at h
    refine AWr_succ fun N5 hN5 hS5 => ?_
    exact ((pre0.ge tx hd5).a [.hl 3 [1, 3, 10] [0, 1]]).ex hΓ hN5 (hE5 h)
  | cons x5_ xs5 ih5 =>
    intro i5  hd5 h
    rw [d_spec_IsRule_L5] at h
    refine AWr_succ fun N5 hN5 hS5 => ?_
    obtain ⟨y952, h953, h⟩ := den_bind h
    have o137_ := ((((pre0.lt tx hd5).i (own_ixl tx 1 (dc hd5))).o 1 1 .uq (map_get tx (dc hd5))).g (d_spec_l1HasText_good h953))
    obtain ⟨h954, h⟩ | ⟨h954, h⟩ := den_if h
    · have h := den_some h; subst h; exact (o137_.b h954).ret hΓ
    · exact ((o137_.b h954).a [.cn [1, 3, 10, 11, 12] [0, 1, 2]]).ct hΓ hS5 (iS hd5 hm5) (ih5 (i5 + 1)  (dn hd5) h)
theorem d_spec_IsRule_L4w (hΓ : Γ.nt = 145) {a0_ : Rule} {y13 : List Bytes} {r : Bool} {k4 : Option Bool} (hE4 : k4 = some r → Ax Γ N Tryz.f10 (.q [[none]] (D.bool (r))) [1, 1, 1, 1, 1] ⟨[(1, D.ptr 0 0)], [Ob.box (Rule.c a0_)]⟩) (hm4 : (a0_.acts).length ≤ maxLen) : ∀ (rest : List Action) (i4 : Nat) , (a0_.acts).drop i4 = rest → d_spec_IsRule_L4 a0_ y13 k4 rest i4  = some r → Ar Γ N Tryz.f10 (.q [[none]] (D.bool (r))) [1, 1, 1, 1, 0, 1, 0] (rest.length + 1) (d_spec_IsRule_S4 a0_ y13 ((i4 : Int))) := by
  intro rest
  induction rest with
  | nil =>
    intro i4  hd4 h
    rw [d_spec_IsRule_L4] at h
    refine AWr_succ fun N4 hN4 hS4 => ?_
    exact ((pre0.ge Action.c hd4).a [.hl 0 [1] [0]]).ex hΓ hN4 (hE4 h)
  | cons x4_ xs4 ih4 =>
    intro i4  hd4 h
    rw [d_spec_IsRule_L4] at h
    refine AWr_succ fun N4 hN4 hS4 => ?_
    obtain ⟨y926, h927, h⟩ := den_bind h
    have o138_ := (((pre0.lt Action.c hd4).l (map_row Action.c 3 (dc hd4) rfl)).g (d_spec_IsAction_good h927))
    obtain ⟨h928, h⟩ | ⟨h928, h⟩ := den_if h
    · have h := den_some h; subst h; exact (o138_.b h928).ret hΓ
    · obtain ⟨y929, h930, h⟩ := den_bind h
      obtain ⟨h955, h⟩ := den_ok h
      refine ((((o138_.b h928).l (map_row Action.c 3 (dc hd4) rfl)).g (d_spec_VarsOf_good h930)).a [.cn [1, 3, 10, 11, 12] [0, 1, 2]]).lp hΓ (d_spec_IsRule_L5w hΓ (fun h => ?_) (of_decide_eq_true h955) (y929) 0  rfl h)
      exact (pre0.a [.cn [1, 3, 10] [0, 1]]).ct hΓ hS4 (iS hd4 hm4) (ih4 (i4 + 1)  (dn hd4) h)
theorem d_spec_IsRule_good {a0_ : Rule} {r : Bool} (h : d_spec_IsRule a0_ = some r) : Good Tryz.prog 10 [D.agg (Rule.c a0_)] (D.bool (r)) := by
  refine gd Tryz.func10 [[none]] 145 fun hr Γ hΓ => ?_
  rw [d_spec_IsRule] at h
  obtain ⟨y1, h2, h⟩ := den_bind h
  obtain ⟨h3, h⟩ | ⟨h3, h⟩ := den_if h
  · have h := den_some h; subst h; exact (((pre0.g (d_spec_IsName_good h2)).r 5 h3).T 13).ret hΓ
  · obtain ⟨y4, h5, h⟩ := den_bind h
    have o139_ := ((((pre0.g (d_spec_IsName_good h2)).r 3 h3).g (d_spec_l1In_good h5)).r 2 h3)
    obtain ⟨h6, h⟩ | ⟨h6, h⟩ := den_if h
    · have h := den_some h; subst h; exact ((o139_.r 6 h6).T 7).ret hΓ
    · obtain ⟨y7, h8, h⟩ := den_bind h
      have o140_ := (((o139_.r 4 h6).g (d_spec_l1In_good h8)).r 2 h6)
      obtain ⟨h9, h⟩ | ⟨h9, h⟩ := den_if h
      · have h := den_some h; subst h; exact ((o140_.r 6 h9).T 1).ret hΓ
      · obtain ⟨y10, h11, h⟩ := den_bind h
        have o141_ := (((o140_.r 4 h9).g (d_spec_l1In_good h11)).r 2 h9)
        obtain ⟨h12, h⟩ | ⟨h12, h⟩ := den_if h
        · have h := den_some h; subst h; exact (o141_.b h12).ret hΓ
        · obtain ⟨y13, h14, h⟩ := den_bind h
          refine (((o141_.b h12).g (d_spec_BoundVars_good h14)).a [.cn [1, 3, 4] [0, 1]]).lp hΓ (d_spec_IsRule_L1w hΓ (fun h => ?_) (by have := (Rdb.sl (Rdb.agg (hr _ (List.mem_of_getElem? (i := 0) rfl)) (.sl ((a0_.conds).map Cond.c)) (by simp))).1; simpa using this) (a0_.conds) 0  rfl h)
          refine (pre0.a [.cn [1, 3, 10] [0, 1]]).lp hΓ (d_spec_IsRule_L4w hΓ (fun h => ?_) (by have := (Rdb.sl (Rdb.agg (hr _ (List.mem_of_getElem? (i := 0) rfl)) (.sl ((a0_.acts).map Action.c)) (by simp))).1; simpa using this) (a0_.acts) 0  rfl h)
          obtain ⟨y956, h957, h⟩ := den_bind h
          cases h; exact (pre0.g (d_spec_RuleVars_good h957)).ret hΓ
def d_spec_Split_L1 (a0_ : Bytes) (a1_ : Bytes) (k1 : Int → List Bytes → Option (List Bytes)) : Nat → Int → Int → List Bytes → Option (List Bytes)
  | 0, _, _, _ => none
  | n1 + 1, v1_6, v1_7, w1_0 => (bif decide ((IntKind.i64.wrap ((v1_7) + (((a1_).length : Int))) : Int) ≤ (((a0_).length : Int))) then ((pcut (a0_).length (some (D.int .i64 (v1_7))) (some (D.int .i64 (IntKind.i64.wrap ((v1_7) + (((a1_).length : Int))))))).bind fun p => (fun l49 u50 => (bif (((a0_).take u50).drop l49 : Bytes) == (a1_) then ((pcut (a0_).length (some (D.int .i64 (v1_6))) (some (D.int .i64 (v1_7)))).bind fun p => (fun l53 u54 => (bif room (((w1_0).map tx).length + ([[D.str (((a0_).take u54).drop l53)]]).length) 16 then (d_spec_Split_L1 a0_ a1_ k1 n1 (IntKind.i64.wrap ((v1_7) + (((a1_).length : Int)))) (IntKind.i64.wrap ((v1_7) + (((a1_).length : Int)))) ((w1_0) ++ ([((a0_).take u54).drop l53]))) else none)) p.1 p.2) else (d_spec_Split_L1 a0_ a1_ k1 n1 (v1_6) (IntKind.i64.wrap ((v1_7) + (1))) (w1_0)))) p.1 p.2) else (k1 (v1_6) (w1_0)))
def d_spec_Split (a0_ : Bytes) (a1_ : Bytes) : Option (List Bytes) := (bif (a1_ : Bytes) == ([]) then (bif room ((([] : List (List D))).length + ([[D.str (a0_)]]).length) 16 then (some ((([] : List Bytes)) ++ ([a0_]))) else none) else (d_spec_Split_L1 a0_ a1_ (fun (z1_6 : Int) (q1_0 : List Bytes) => ((pcut (a0_).length (some (D.int .i64 (z1_6))) (none)).bind fun p => (fun l57 u58 => (bif room (((q1_0).map tx).length + ([[D.str (((a0_).take u58).drop l57)]]).length) 16 then (some ((q1_0) ++ ([((a0_).take u58).drop l57]))) else none)) p.1 p.2)) fuel (0) (0) (([] : List Bytes))))
def d_spec_Split_S1 (a0_ : Bytes) (a1_ : Bytes) (v1_6 : Int) (v1_7 : Int) (W2 : List (List D)) : St := ⟨[(0, D.str (a0_)), (1, D.str (a1_)), (5, D.acc 0), (6, D.int .i64 (v1_6)), (7, D.int .i64 (v1_7))], [Ob.row .uq 9 1 (W2)]⟩
theorem d_spec_Split_L1w (hΓ : Γ.nt = 51) {a0_ : Bytes} {a1_ : Bytes} {r : List Bytes} {k1 : Int → List Bytes → Option (List Bytes)} (hE1 : ∀ (z1_6 : Int) (q1_0 : List Bytes), k1 z1_6 q1_0 = some r → Ax Γ N Tryz.f195 (.q [[some (9, 1)]] (D.fr 9 1 ((r).map tx))) [1, 1, 1, 1, 1] ⟨[(0, D.str (a0_)), (5, D.acc 0), (6, D.int .i64 (z1_6))], [Ob.row .uq 9 1 ((q1_0).map tx)]⟩) : ∀ (n1 : Nat) (v1_6 : Int) (v1_7 : Int) (w1_0 : List Bytes), d_spec_Split_L1 a0_ a1_ k1 n1 v1_6 v1_7 w1_0 = some r → Ar Γ N Tryz.f195 (.q [[some (9, 1)]] (D.fr 9 1 ((r).map tx))) [1, 1, 1, 1, 0, 1, 0] n1 (d_spec_Split_S1 a0_ a1_ v1_6 v1_7 ((w1_0).map tx)) := by
  intro n
  induction n with
  | zero => intro v1_6 v1_7 w1_0 h; simp [d_spec_Split_L1] at h
  | succ n1 ih1 =>
    intro v1_6 v1_7 w1_0 h
    rw [d_spec_Split_L1] at h
    refine AWr_succ fun N1 hN1 hS1 => ?_
    obtain ⟨h48, h⟩ | ⟨h48, h⟩ := den_if h
    · obtain ⟨⟨l49, u50⟩, h51, h⟩ := den_bind h
      have o2_ := (((pre0.b h48).w h51).a [.cut l49 u50])
      obtain ⟨h52, h⟩ | ⟨h52, h⟩ := den_if h
      · obtain ⟨⟨l53, u54⟩, h55, h⟩ := den_bind h
        obtain ⟨h56, h⟩ := den_ok h
        exact ((((o2_.b h52).w h55).w (room_ok h56)).a [.cut l53 u54, .cn [0, 1, 5, 6, 7] [2]]).cs hΓ hS1 (d_spec_Split_S1 a0_ a1_ (IntKind.i64.wrap ((v1_7) + (((a1_).length : Int)))) (IntKind.i64.wrap ((v1_7) + (((a1_).length : Int)))) (((w1_0).map tx) ++ ([[D.str (((a0_).take u54).drop l53)]]))) (by first | (simp only [mA] <;> rfl) | (simp only [mA, Fact.c, Pair.c, Cond.c, Action.c, Rule.c, Token.c, Match.c, Alpha.c, Node.c, Network.c, Stamp.c] <;> rfl)) (ih1 (IntKind.i64.wrap ((v1_7) + (((a1_).length : Int)))) (IntKind.i64.wrap ((v1_7) + (((a1_).length : Int)))) ((w1_0) ++ ([((a0_).take u54).drop l53])) h)
      · exact ((o2_.b h52).a [.cn [0, 1, 5, 6, 7] [0]]).cf hΓ hS1 (ih1 (v1_6) (IntKind.i64.wrap ((v1_7) + (1))) (w1_0) h)
    · exact ((pre0.b h48).a [.hl 0 [0, 5, 6] [0]]).ex hΓ hN1 (hE1 (v1_6) (w1_0) h)
theorem d_spec_Split_good {a0_ : Bytes} {a1_ : Bytes} {r : List Bytes} (h : d_spec_Split a0_ a1_ = some r) : Good Tryz.prog 195 [D.str (a0_), D.str (a1_)] (D.fr 9 1 ((r).map tx)) := by
  refine gd Tryz.func195 [[some (9, 1)]] 51 fun hr Γ hΓ => ?_
  rw [d_spec_Split] at h
  obtain ⟨h1, h⟩ | ⟨h1, h⟩ := den_if h
  · obtain ⟨h2, h⟩ := den_ok h
    cases h; exact (((pre0.a [.pro 4]).b h1).w (room_ok h2)).rts hΓ (D.fr 9 1 ((([] : List (List D))) ++ ([[D.str (a0_)]]))) (by first | rfl | (simp only [mA] <;> rfl))
  · refine (((pre0.a [.pro 4]).b h1).a [.cn [0, 1, 5, 6, 7] [1]]).lp hΓ (d_spec_Split_L1w hΓ (fun z1_6 q1_0 h => ?_) fuel (0) (0) (([] : List Bytes)) h)
    obtain ⟨⟨l57, u58⟩, h59, h⟩ := den_bind h
    obtain ⟨h60, h⟩ := den_ok h
    cases h; exact (((pre0.w h59).w (room_ok h60)).a [.cut l57 u58]).rts hΓ (D.fr 9 1 (((q1_0).map tx) ++ ([[D.str (((a0_).take u58).drop l57)]]))) (by first | rfl | (simp only [mA] <;> rfl) | (simp only [mA, List.map_drop] <;> rfl))
def d_spec_FormatInt_R_L1  (k1 : Option Bytes) : Nat → Int → Bytes → Option Bytes
  | 0, _, _ => none
  | n1 + 1, v1_0, v1_3 => (bif decide (0 ≤ (v1_0 : Int)) && decide (0 < (10 : Int)) then (bif decide (([UInt8.ofNat (IntKind.u8.wrap (IntKind.i64.wrap ((48) + ((v1_0 : Int) % (10))))).toNat] : Bytes).length + (v1_3 : Bytes).length ≤ maxLen) then (bif decide (0 ≤ (v1_0 : Int)) && decide (0 < (10 : Int)) then (bif ((v1_0 : Int) / (10) : Int) == (0) then (some (([UInt8.ofNat (IntKind.u8.wrap (IntKind.i64.wrap ((48) + ((v1_0 : Int) % (10))))).toNat]) ++ (v1_3))) else (d_spec_FormatInt_R_L1  k1 n1 ((v1_0 : Int) / (10)) (([UInt8.ofNat (IntKind.u8.wrap (IntKind.i64.wrap ((48) + ((v1_0 : Int) % (10))))).toNat]) ++ (v1_3)))) else none) else none) else none)
def d_spec_FormatInt_R : Nat → Int → Option Bytes
  | 0, _ => none
  | m_ + 1, a0_ => (bif (a0_ : Int) == (-9223372036854775808) then (some ([45, 57, 50, 50, 51, 51, 55, 50, 48, 51, 54, 56, 53, 52, 55, 55, 53, 56, 48, 56])) else (bif decide ((a0_ : Int) < (0)) then ((d_spec_FormatInt_R m_ (IntKind.i64.wrap (0 - (a0_)))).bind fun y3 => (bif decide (([45] : Bytes).length + (y3 : Bytes).length ≤ maxLen) then (some (([45]) ++ (y3))) else none)) else (d_spec_FormatInt_R_L1  none fuel (a0_) ([]))))
def d_spec_FormatInt_R_S1 (v1_0 : Int) (v1_3 : Bytes) : St := ⟨[(0, D.int .i64 (v1_0)), (3, D.str (v1_3))], []⟩
theorem d_spec_FormatInt_R_L1w (hΓ : Γ.nt = 25)  {r : Bytes} {k1 : Option Bytes} (hE1 : k1 = some r → Ax Γ N Tryz.f155 (.q [[none]] (D.str (r))) [1, 1, 1, 1, 0, 0] ⟨[], []⟩) : ∀ (n1 : Nat) (v1_0 : Int) (v1_3 : Bytes), d_spec_FormatInt_R_L1  k1 n1 v1_0 v1_3 = some r → Ar Γ N Tryz.f155 (.q [[none]] (D.str (r))) [1, 1, 1, 1, 0] n1 (d_spec_FormatInt_R_S1 v1_0 v1_3) := by
  intro n
  induction n with
  | zero => intro v1_0 v1_3 h; simp [d_spec_FormatInt_R_L1] at h
  | succ n1 ih1 =>
    intro v1_0 v1_3 h
    rw [d_spec_FormatInt_R_L1] at h
    refine AWr_succ fun N1 hN1 hS1 => ?_
    obtain ⟨h14, h⟩ := den_ok h
    obtain ⟨h15, h⟩ := den_ok h
    obtain ⟨h16, h⟩ := den_ok h
    have o2_ := (((pre0.w (quo_ok .i64 h14)).w (of_decide_eq_true h15)).w (quo_ok .i64 h16))
    obtain ⟨h17, h⟩ | ⟨h17, h⟩ := den_if h
    · cases h; exact (o2_.b h17).rts hΓ (D.str (([UInt8.ofNat (IntKind.u8.wrap (IntKind.i64.wrap ((48) + ((v1_0 : Int) % (10))))).toNat]) ++ (v1_3))) (by first | rfl | (simp only [mA] <;> rfl))
    · exact ((o2_.b h17).a [.cn [0, 3] []]).cf hΓ hS1 (ih1 ((v1_0 : Int) / (10)) (([UInt8.ofNat (IntKind.u8.wrap (IntKind.i64.wrap ((48) + ((v1_0 : Int) % (10))))).toNat]) ++ (v1_3)) h)
theorem d_spec_FormatInt_R_step {m_ : Nat} (ihR : ∀ {a0_ : Int} {r : Bytes}, d_spec_FormatInt_R m_ a0_ = some r → Good Tryz.prog 155 [D.int .i64 (a0_)] (D.str (r))) {a0_ : Int} {r : Bytes} (h : d_spec_FormatInt_R (m_ + 1) a0_ = some r) : Good Tryz.prog 155 [D.int .i64 (a0_)] (D.str (r)) := by
  refine gd Tryz.func155 [[none]] 25 fun hr Γ hΓ => ?_
  rw [d_spec_FormatInt_R] at h
  obtain ⟨h1, h⟩ | ⟨h1, h⟩ := den_if h
  · cases h; exact (pre0.b h1).ret hΓ
  · obtain ⟨h2, h⟩ | ⟨h2, h⟩ := den_if h
    · obtain ⟨y3, h4, h⟩ := den_bind h
      obtain ⟨h5, h⟩ := den_ok h
      cases h; exact ((((pre0.b h1).b h2).g (ihR h4)).w (of_decide_eq_true h5)).rts hΓ (D.str (([45]) ++ (y3))) (by first | rfl | (simp only [mA] <;> rfl))
    · refine (((pre0.b h1).b h2).a [.cn [0, 3] []]).lp hΓ (d_spec_FormatInt_R_L1w hΓ (fun h => ?_) fuel (a0_) ([]) h)
      cases h
theorem d_spec_FormatInt_R_good : ∀ (m_ : Nat) {a0_ : Int} {r : Bytes}, d_spec_FormatInt_R m_ a0_ = some r → Good Tryz.prog 155 [D.int .i64 (a0_)] (D.str (r))
  | 0, _, _, h => by cases h
  | m_ + 1, _, _, h => d_spec_FormatInt_R_step (fun h => d_spec_FormatInt_R_good m_ h) h
def d_spec_FormatInt (a0_ : Int) : Option Bytes := d_spec_FormatInt_R fuel a0_
theorem d_spec_FormatInt_good {a0_ : Int} {r : Bytes} (h : d_spec_FormatInt a0_ = some r) : Good Tryz.prog 155 [D.int .i64 (a0_)] (D.str (r)) := d_spec_FormatInt_R_good fuel h
def d_spec_ParseInt_L1 (a0_ : Bytes) (k1 : Int → Option (Int × Bool)) : Nat → Int → Int → Option (Int × Bool)
  | 0, _, _ => none
  | n1 + 1, v1_4, v1_5 => (bif decide ((v1_5 : Int) < (((a0_).length : Int))) then ((atI (a0_) (v1_5)).bind fun b25 => (bif decide ((b25.toNat : Int) < (48)) then (some ((0, false))) else (bif decide ((b25.toNat : Int) > (57)) then (some ((0, false))) else (d_spec_ParseInt_L1 a0_ k1 n1 (IntKind.i64.wrap ((IntKind.i64.wrap ((10) * (v1_4))) + (IntKind.i64.wrap (IntKind.u8.wrap ((b25.toNat) - (48)))))) (IntKind.i64.wrap ((v1_5) + (1))))))) else (k1 (v1_4)))
def d_spec_ParseInt (a0_ : Bytes) : Option (Int × Bool) := ((d_spec_l1In (((a0_).length : Int)) (1) (4)).bind fun y1 => (bif !(y1) then (some ((0, false))) else (d_spec_ParseInt_L1 a0_ (fun (z1_4 : Int) => ((d_spec_FormatInt (z1_4)).bind fun y29 => (bif !((y29 : Bytes) == (a0_)) then (some ((0, false))) else (some ((z1_4, true)))))) fuel (0) (0))))
def d_spec_ParseInt_S1 (a0_ : Bytes) (v1_4 : Int) (v1_5 : Int) : St := ⟨[(0, D.str (a0_)), (4, D.int .i64 (v1_4)), (5, D.int .i64 (v1_5))], []⟩
theorem d_spec_ParseInt_L1w (hΓ : Γ.nt = 39) {a0_ : Bytes} {r : Int × Bool} {k1 : Int → Option (Int × Bool)} (hE1 : ∀ (z1_4 : Int), k1 z1_4 = some r → Ax Γ N Tryz.f163 (.q [[none], [none]] (D.tup [D.int .i64 (r.1), D.bool (r.2)])) [1, 1, 1, 1] ⟨[(0, D.str (a0_)), (4, D.int .i64 (z1_4))], []⟩) : ∀ (n1 : Nat) (v1_4 : Int) (v1_5 : Int), d_spec_ParseInt_L1 a0_ k1 n1 v1_4 v1_5 = some r → Ar Γ N Tryz.f163 (.q [[none], [none]] (D.tup [D.int .i64 (r.1), D.bool (r.2)])) [1, 1, 1, 0, 1, 0] n1 (d_spec_ParseInt_S1 a0_ v1_4 v1_5) := by
  intro n
  induction n with
  | zero => intro v1_4 v1_5 h; simp [d_spec_ParseInt_L1] at h
  | succ n1 ih1 =>
    intro v1_4 v1_5 h
    rw [d_spec_ParseInt_L1] at h
    refine AWr_succ fun N1 hN1 hS1 => ?_
    obtain ⟨h24, h⟩ | ⟨h24, h⟩ := den_if h
    · obtain ⟨b25, h26, h⟩ := den_bind h
      have o3_ := ((pre0.b h24).c h26)
      obtain ⟨h27, h⟩ | ⟨h27, h⟩ := den_if h
      · cases h; exact ((o3_.r 5 h27).T 1).ret hΓ
      · have o4_ := (((o3_.r 3 h27).c h26).r 2 h27)
        obtain ⟨h28, h⟩ | ⟨h28, h⟩ := den_if h
        · cases h; exact (o4_.b h28).ret hΓ
        · exact (((o4_.b h28).c h26).a [.cn [0, 4, 5] []]).cf hΓ hS1 (ih1 (IntKind.i64.wrap ((IntKind.i64.wrap ((10) * (v1_4))) + (IntKind.i64.wrap (IntKind.u8.wrap ((b25.toNat) - (48)))))) (IntKind.i64.wrap ((v1_5) + (1))) h)
    · exact ((pre0.b h24).a [.hl 0 [0, 4] []]).ex hΓ hN1 (hE1 (v1_4) h)
theorem d_spec_ParseInt_good {a0_ : Bytes} {r : Int × Bool} (h : d_spec_ParseInt a0_ = some r) : Good Tryz.prog 163 [D.str (a0_)] (D.tup [D.int .i64 (r.1), D.bool (r.2)]) := by
  refine gd Tryz.func163 [[none], [none]] 39 fun hr Γ hΓ => ?_
  rw [d_spec_ParseInt] at h
  obtain ⟨y1, h2, h⟩ := den_bind h
  obtain ⟨h3, h⟩ | ⟨h3, h⟩ := den_if h
  · cases h; exact ((pre0.g (d_spec_l1In_good h2)).b h3).ret hΓ
  · refine (((pre0.g (d_spec_l1In_good h2)).b h3).a [.cn [0, 4, 5] []]).lp hΓ (d_spec_ParseInt_L1w hΓ (fun z1_4 h => ?_) fuel (0) (0) h)
    obtain ⟨y29, h30, h⟩ := den_bind h
    obtain ⟨h31, h⟩ | ⟨h31, h⟩ := den_if h
    · cases h; exact ((pre0.g (d_spec_FormatInt_good h30)).b h31).ret hΓ
    · cases h; exact ((pre0.g (d_spec_FormatInt_good h30)).b h31).ret hΓ
def d_spec_l4Sign (a0_ : Int) : Option Bytes := (bif (a0_ : Int) == (3) then (some ([32, 61, 32])) else (bif (a0_ : Int) == (4) then (some ([32, 33, 61, 32])) else (some ([32, 60, 32]))))
theorem d_spec_l4Sign_good {a0_ : Int} {r : Bytes} (h : d_spec_l4Sign a0_ = some r) : Good Tryz.prog 223 [D.int .i64 (a0_)] (D.str (r)) := by
  refine gd Tryz.func223 [[none]] 8 fun hr Γ hΓ => ?_
  rw [d_spec_l4Sign] at h
  obtain ⟨h1, h⟩ | ⟨h1, h⟩ := den_if h
  · cases h; exact (pre0.b h1).ret hΓ
  · obtain ⟨h2, h⟩ | ⟨h2, h⟩ := den_if h
    · cases h; exact ((pre0.b h1).b h2).ret hΓ
    · cases h; exact ((pre0.b h1).b h2).ret hΓ
def d_spec_l2Parts (a0_ : Bytes) : Option (Bytes × (List Bytes) × Bool) := ((d_spec_Split (a0_) ([40])).bind fun y1 => (bif ((((y1).map tx).length : Int) : Int) != (2) then (some (([], [], false))) else ((atI (y1) (1)).bind fun x4 => (bif (((x4).length : Int) : Int) == (0) then (some (([], [], false))) else ((atI (x4) (IntKind.i64.wrap ((((x4).length : Int)) - (1)))).bind fun b7 => (bif (b7.toNat : Int) != (41) then (some (([], [], false))) else ((pcut (x4).length (none) (some (D.int .i64 (IntKind.i64.wrap ((((x4).length : Int)) - (1)))))).bind fun p => (fun l10 u11 => (bif (((x4).take u11).drop l10 : Bytes) == ([]) then ((atI (y1) (0)).bind fun x14 => (some ((x14, ([] : List Bytes), true)))) else ((atI (y1) (0)).bind fun x16 => ((d_spec_Split (((x4).take u11).drop l10) ([44])).bind fun y18 => (some ((x16, y18, true))))))) p.1 p.2)))))))
theorem d_spec_l2Parts_good {a0_ : Bytes} {r : Bytes × (List Bytes) × Bool} (h : d_spec_l2Parts a0_ = some r) : Good Tryz.prog 232 [D.str (a0_)] (D.tup [D.str (r.1), D.fr 9 1 ((r.2.1).map tx), D.bool (r.2.2)]) := by
  refine gd Tryz.func232 [[none], [some (9, 1)], [none]] 51 fun hr Γ hΓ => ?_
  rw [d_spec_l2Parts] at h
  obtain ⟨y1, h2, h⟩ := den_bind h
  have o1_ := ((pre0.g (d_spec_Split_good h2)).a [.n 19])
  obtain ⟨h3, h⟩ | ⟨h3, h⟩ := den_if h
  · cases h; exact ((o1_.r 6 h3).T 12).ret hΓ
  · obtain ⟨x4, h5, h⟩ := den_bind h
    have o2_ := (((((o1_.r 2 h3).i (own_at tx 1 h5)).b h3).o 1 1 .uq (map_get tx (atI_get h5))).r 3 h3)
    obtain ⟨h6, h⟩ | ⟨h6, h⟩ := den_if h
    · cases h; exact ((o2_.r 11 h6).T 1).ret hΓ
    · obtain ⟨b7, h8, h⟩ := den_bind h
      have o3_ := (((((((((((o2_.r 2 h6).i (own_at tx 1 h5)).b h6).o 1 1 .uq (map_get tx (atI_get h5))).r 2 h6).i (own_at tx 1 h5)).b h6).o 1 1 .uq (map_get tx (atI_get h5))).r 3 h6).c h8).r 2 h6)
      obtain ⟨h9, h⟩ | ⟨h9, h⟩ := den_if h
      · cases h; exact (o3_.b h9).ret hΓ
      · obtain ⟨⟨l10, u11⟩, h12, h⟩ := den_bind h
        have o4_ := ((((((((o3_.b h9).a [.n 8]).i (own_at tx 1 h5)).o 1 1 .uq (map_get tx (atI_get h5))).i (own_at tx 1 h5)).o 1 1 .uq (map_get tx (atI_get h5))).w h12).a [.cut l10 u11])
        obtain ⟨h13, h⟩ | ⟨h13, h⟩ := den_if h
        · obtain ⟨x14, h15, h⟩ := den_bind h
          cases h; exact (((o4_.b h13).i (own_at tx 1 h15)).o 1 1 .uq (map_get tx (atI_get h15))).ret hΓ
        · obtain ⟨x16, h17, h⟩ := den_bind h
          obtain ⟨y18, h19, h⟩ := den_bind h
          cases h; exact (((((o4_.b h13).a [.n 5]).i (own_at tx 1 h17)).o 1 1 .uq (map_get tx (atI_get h17))).g (d_spec_Split_good h19)).ret hΓ
def d_spec_ParsePattern (a0_ : Bytes) : Option (Fact × Bool) := ((d_spec_l2Parts (a0_)).bind fun y1 => (bif !(y1.2.2) then (some (((⟨[], []⟩ : Fact), false))) else ((d_spec_IsPattern ((⟨y1.1, y1.2.1⟩ : Fact))).bind fun y4 => (bif !(y4) then (some (((⟨[], []⟩ : Fact), false))) else (some (((⟨y1.1, y1.2.1⟩ : Fact), true)))))))
theorem d_spec_ParsePattern_good {a0_ : Bytes} {r : Fact × Bool} (h : d_spec_ParsePattern a0_ = some r) : Good Tryz.prog 224 [D.str (a0_)] (D.tup [D.agg [D.str (r.1.rel), D.fr 9 1 ((r.1.args).map tx)], D.bool (r.2)]) := by
  refine gd Tryz.func224 [[none, some (9, 1)], [none]] 26 fun hr Γ hΓ => ?_
  rw [d_spec_ParsePattern] at h
  obtain ⟨y1, h2, h⟩ := den_bind h
  obtain ⟨h3, h⟩ | ⟨h3, h⟩ := den_if h
  · cases h; exact (((pre0.g (d_spec_l2Parts_good h2)).r 4 h3).T 1).ret hΓ
  · obtain ⟨y4, h5, h⟩ := den_bind h
    have o1_ := (((((pre0.g (d_spec_l2Parts_good h2)).r 2 h3).a [.d (D.bool (y4))]).w (show Good Tryz.prog 69 [D.agg [D.str (y1.1), D.sl ((y1.2.1).map tx)]] (D.bool (y4)) from by first | (simpa only [List.map_append, List.map_cons, List.map_nil, List.map_drop, List.map_take] using d_spec_IsPattern_good h5) | exact d_spec_IsPattern_good h5 | (have t := d_spec_IsPattern_good h5; simp only [List.map_append, List.map_drop, List.map_take, Fact.c] at t; exact t))).r 2 h3)
    obtain ⟨h6, h⟩ | ⟨h6, h⟩ := den_if h
    · cases h; exact (o1_.b h6).ret hΓ
    · cases h; exact (o1_.b h6).ret hΓ
def d_spec_ParseCond_L1 (a0_ : Bytes) (k1 : Option (Cond × Bool)) : Nat → Int → Option (Cond × Bool)
  | 0, _ => none
  | n1 + 1, v1_4 => (bif decide ((v1_4 : Int) ≤ (5)) then ((d_spec_l4Sign (v1_4)).bind fun y28 => ((d_spec_Split (a0_) (y28)).bind fun y30 => (bif ((((y30).map tx).length : Int) : Int) == (2) then ((atI (y30) (0)).bind fun x33 => ((atI (y30) (1)).bind fun x35 => ((d_spec_IsCond ((⟨v1_4, (⟨[], []⟩ : Fact), x33, x35⟩ : Cond))).bind fun y37 => (bif y37 then (some (((⟨v1_4, (⟨[], []⟩ : Fact), x33, x35⟩ : Cond), true))) else (d_spec_ParseCond_L1 a0_ k1 n1 (IntKind.i64.wrap ((v1_4) + (1)))))))) else (d_spec_ParseCond_L1 a0_ k1 n1 (IntKind.i64.wrap ((v1_4) + (1))))))) else (k1 ))
def d_spec_ParseCond (a0_ : Bytes) : Option (Cond × Bool) := (d_spec_ParseCond_L1 a0_ (bif decide ((((a0_).length : Int) : Int) > (4)) then ((pcut (a0_).length (none) (some (D.int .i64 (4)))).bind fun p => (fun l41 u42 => (bif (((a0_).take u42).drop l41 : Bytes) == ([110, 111, 116, 32]) then ((pcut (a0_).length (some (D.int .i64 (4))) (none)).bind fun p => (fun l45 u46 => ((d_spec_ParsePattern (((a0_).take u46).drop l45)).bind fun y48 => (bif !(y48.2) then (some (((⟨0, (⟨[], []⟩ : Fact), [], []⟩ : Cond), false))) else (some (((⟨2, y48.1, [], []⟩ : Cond), true)))))) p.1 p.2) else ((d_spec_ParsePattern (a0_)).bind fun y51 => (bif !(y51.2) then (some (((⟨0, (⟨[], []⟩ : Fact), [], []⟩ : Cond), false))) else (some (((⟨1, y51.1, [], []⟩ : Cond), true))))))) p.1 p.2) else ((d_spec_ParsePattern (a0_)).bind fun y54 => (bif !(y54.2) then (some (((⟨0, (⟨[], []⟩ : Fact), [], []⟩ : Cond), false))) else (some (((⟨1, y54.1, [], []⟩ : Cond), true)))))) fuel (3))
def d_spec_ParseCond_S1 (a0_ : Bytes) (v1_4 : Int) : St := ⟨[(0, D.str (a0_)), (2, D.ptr 0 0), (4, D.int .i64 (v1_4))], [Ob.box [D.int .i64 (0), D.str ([]), D.nil, D.str ([]), D.str ([])]]⟩
theorem d_spec_ParseCond_L1w (hΓ : Γ.nt = 55) {a0_ : Bytes} {r : Cond × Bool} {k1 : Option (Cond × Bool)} (hE1 : k1 = some r → Ax Γ N Tryz.f212 (.q [[none, none, some (9, 1), none, none], [none]] (D.tup [D.agg [D.int .i64 (r.1.kind), D.str (r.1.pat.rel), D.fr 9 1 ((r.1.pat.args).map tx), D.str (r.1.left), D.str (r.1.right)], D.bool (r.2)])) [1, 1] ⟨[(0, D.str (a0_)), (2, D.ptr 0 0)], [Ob.box [D.int .i64 (0), D.str ([]), D.nil, D.str ([]), D.str ([])]]⟩) : ∀ (n1 : Nat) (v1_4 : Int), d_spec_ParseCond_L1 a0_ k1 n1 v1_4 = some r → Ar Γ N Tryz.f212 (.q [[none, none, some (9, 1), none, none], [none]] (D.tup [D.agg [D.int .i64 (r.1.kind), D.str (r.1.pat.rel), D.fr 9 1 ((r.1.pat.args).map tx), D.str (r.1.left), D.str (r.1.right)], D.bool (r.2)])) [1, 0, 1, 0] n1 (d_spec_ParseCond_S1 a0_ v1_4) := by
  intro n
  induction n with
  | zero => intro v1_4 h; simp [d_spec_ParseCond_L1] at h
  | succ n1 ih1 =>
    intro v1_4 h
    rw [d_spec_ParseCond_L1] at h
    refine AWr_succ fun N1 hN1 hS1 => ?_
    obtain ⟨h27, h⟩ | ⟨h27, h⟩ := den_if h
    · obtain ⟨y28, h29, h⟩ := den_bind h
      obtain ⟨y30, h31, h⟩ := den_bind h
      have o3_ := (((pre0.b h27).g (d_spec_l4Sign_good h29)).g (d_spec_Split_good h31))
      obtain ⟨h32, h⟩ | ⟨h32, h⟩ := den_if h
      · obtain ⟨x33, h34, h⟩ := den_bind h
        obtain ⟨x35, h36, h⟩ := den_bind h
        obtain ⟨y37, h38, h⟩ := den_bind h
        have o4_ := ((((((((o3_.b h32).a [.n 9]).i (own_at tx 1 h34)).o 1 1 .uq (map_get tx (atI_get h34))).i (own_at tx 1 h36)).o 1 1 .uq (map_get tx (atI_get h36))).a [.d (D.bool (y37))]).w (show Good Tryz.prog 47 [D.agg [D.int .i64 (v1_4), D.str ([]), D.sl ([]), D.str (x33), D.str (x35)]] (D.bool (y37)) from by first | (simpa only [List.map_append, List.map_cons, List.map_nil, List.map_drop, List.map_take] using d_spec_IsCond_good h38) | exact d_spec_IsCond_good h38 | (have t := d_spec_IsCond_good h38; simp only [List.map_append, List.map_drop, List.map_take, Cond.c] at t; exact t)))
        obtain ⟨h39, h⟩ | ⟨h39, h⟩ := den_if h
        · cases h; exact (o4_.b h39).ret hΓ
        · exact ((o4_.b h39).a [.cn [0, 2, 4] [0]]).cf hΓ hS1 (ih1 (IntKind.i64.wrap ((v1_4) + (1))) h)
      · exact ((o3_.b h32).a [.cn [0, 2, 4] [0]]).cf hΓ hS1 (ih1 (IntKind.i64.wrap ((v1_4) + (1))) h)
    · exact ((pre0.b h27).a [.hl 0 [0, 2] [0]]).ex hΓ hN1 (hE1 h)
theorem d_spec_ParseCond_good {a0_ : Bytes} {r : Cond × Bool} (h : d_spec_ParseCond a0_ = some r) : Good Tryz.prog 212 [D.str (a0_)] (D.tup [D.agg [D.int .i64 (r.1.kind), D.str (r.1.pat.rel), D.fr 9 1 ((r.1.pat.args).map tx), D.str (r.1.left), D.str (r.1.right)], D.bool (r.2)]) := by
  refine gd Tryz.func212 [[none, none, some (9, 1), none, none], [none]] 55 fun hr Γ hΓ => ?_
  rw [d_spec_ParseCond] at h
  refine (pre0.a [.cn [0, 2, 4] [0]]).lp hΓ (d_spec_ParseCond_L1w hΓ (fun h => ?_) fuel (3) h)
  obtain ⟨h40, h⟩ | ⟨h40, h⟩ := den_if h
  · obtain ⟨⟨l41, u42⟩, h43, h⟩ := den_bind h
    have o5_ := ((((pre0.r 2 h40).w h43).a [.cut l41 u42]).r 2 h40)
    obtain ⟨h44, h⟩ | ⟨h44, h⟩ := den_if h
    · obtain ⟨⟨l45, u46⟩, h47, h⟩ := den_bind h
      obtain ⟨y48, h49, h⟩ := den_bind h
      have o6_ := ((((o5_.b h44).w h47).a [.cut l45 u46]).g (d_spec_ParsePattern_good h49))
      obtain ⟨h50, h⟩ | ⟨h50, h⟩ := den_if h
      · cases h; exact (o6_.b h50).ret hΓ
      · cases h; exact (o6_.b h50).ret hΓ
    · obtain ⟨y51, h52, h⟩ := den_bind h
      have o7_ := ((o5_.b h44).g (d_spec_ParsePattern_good h52))
      obtain ⟨h53, h⟩ | ⟨h53, h⟩ := den_if h
      · cases h; exact (o7_.b h53).ret hΓ
      · cases h; exact (o7_.b h53).ret hΓ
  · obtain ⟨y54, h55, h⟩ := den_bind h
    have o8_ := (((pre0.r 4 h40).F 1).g (d_spec_ParsePattern_good h55))
    obtain ⟨h56, h⟩ | ⟨h56, h⟩ := den_if h
    · cases h; exact (o8_.b h56).ret hΓ
    · cases h; exact (o8_.b h56).ret hΓ
def d_spec_l5Action (a0_ : Bytes) : Option (Action × Bool) := (bif (a0_ : Bytes) == ([115, 116, 111, 112]) then (some (((⟨3, (⟨[], []⟩ : Fact)⟩ : Action), true))) else ((d_spec_Split (a0_) ([32])).bind fun y2 => (bif ((((y2).map tx).length : Int) : Int) != (2) then (some (((⟨0, (⟨[], []⟩ : Fact)⟩ : Action), false))) else ((atI (y2) (0)).bind fun x5 => (bif !((x5 : Bytes) == ([97, 100, 100])) then (bif !((x5 : Bytes) == ([100, 114, 111, 112])) then (some (((⟨0, (⟨[], []⟩ : Fact)⟩ : Action), false))) else ((atI (y2) (1)).bind fun x9 => ((d_spec_ParsePattern (x9)).bind fun y11 => (bif (x5 : Bytes) == ([97, 100, 100]) then (some (((⟨1, y11.1⟩ : Action), y11.2))) else (some (((⟨2, y11.1⟩ : Action), y11.2))))))) else ((atI (y2) (1)).bind fun x14 => ((d_spec_ParsePattern (x14)).bind fun y16 => (bif (x5 : Bytes) == ([97, 100, 100]) then (some (((⟨1, y16.1⟩ : Action), y16.2))) else (some (((⟨2, y16.1⟩ : Action), y16.2)))))))))))
theorem d_spec_l5Action_good {a0_ : Bytes} {r : Action × Bool} (h : d_spec_l5Action a0_ = some r) : Good Tryz.prog 213 [D.str (a0_)] (D.tup [D.agg [D.int .i64 (r.1.kind), D.str (r.1.pat.rel), D.fr 9 1 ((r.1.pat.args).map tx)], D.bool (r.2)]) := by
  refine gd Tryz.func213 [[none, none, some (9, 1)], [none]] 45 fun hr Γ hΓ => ?_
  rw [d_spec_l5Action] at h
  obtain ⟨h1, h⟩ | ⟨h1, h⟩ := den_if h
  · cases h; exact (pre0.b h1).ret hΓ
  · obtain ⟨y2, h3, h⟩ := den_bind h
    have o1_ := ((pre0.b h1).g (d_spec_Split_good h3))
    obtain ⟨h4, h⟩ | ⟨h4, h⟩ := den_if h
    · cases h; exact ((((o1_.r 5 h4).a [bF, bF, bF, bF]).r 2 h4).T 1).ret hΓ
    · obtain ⟨x5, h6, h⟩ := den_bind h
      have o2_ := (((((o1_.r 2 h4).i (own_at tx 1 h6)).b h4).o 1 1 .uq (map_get tx (atI_get h6))).r 2 h4)
      obtain ⟨h7, h⟩ | ⟨h7, h⟩ := den_if h
      · have o3_ := ((((((((o2_.r 2 h7).i (own_at tx 1 h6)).b h7).o 1 1 .uq (map_get tx (atI_get h6))).b h7).b h4).b h7).b h4)
        obtain ⟨h8, h⟩ | ⟨h8, h⟩ := den_if h
        · cases h; exact (o3_.b h8).ret hΓ
        · obtain ⟨x9, h10, h⟩ := den_bind h
          obtain ⟨y11, h12, h⟩ := den_bind h
          have o4_ := ((((((o3_.b h8).i (own_at tx 1 h10)).o 1 1 .uq (map_get tx (atI_get h10))).g (d_spec_ParsePattern_good h12)).i (own_at tx 1 h6)).o 1 1 .uq (map_get tx (atI_get h6)))
          obtain ⟨h13, h⟩ | ⟨h13, h⟩ := den_if h
          · cases h; exact (o4_.b h13).ret hΓ
          · cases h; exact (o4_.b h13).ret hΓ
      · obtain ⟨x14, h15, h⟩ := den_bind h
        obtain ⟨y16, h17, h⟩ := den_bind h
        have o5_ := ((((((((((o2_.r 4 h7).b h4).b h7).b h4).F 1).i (own_at tx 1 h15)).o 1 1 .uq (map_get tx (atI_get h15))).g (d_spec_ParsePattern_good h17)).i (own_at tx 1 h6)).o 1 1 .uq (map_get tx (atI_get h6)))
        obtain ⟨h18, h⟩ | ⟨h18, h⟩ := den_if h
        · cases h; exact (o5_.b h18).ret hΓ
        · cases h; exact (o5_.b h18).ret hΓ
def d_spec_l5Sides_L1 (a0_ : Rule) (a2_ : Bytes) (y1 : List Bytes) (k1 : List Cond → Option (Rule × Bool)) : List Bytes → Nat → List Cond → Option (Rule × Bool)
  | [], i1, w1_3 => (k1 (w1_3))
  | x1_ :: xs1, i1, w1_3 => ((d_spec_ParseCond (x1_)).bind fun y35 => (bif !(y35.2) then (some (((⟨a0_.name, a0_.prio, w1_3, []⟩ : Rule), false))) else (bif room (((w1_3).map Cond.c).length + ([[D.int .i64 (y35.1.kind), D.str (y35.1.pat.rel), D.sl ((y35.1.pat.args).map tx), D.str (y35.1.left), D.str (y35.1.right)]]).length) 80 then (d_spec_l5Sides_L1 a0_ a2_ y1 k1 xs1 (i1 + 1) ((w1_3) ++ ([y35.1]))) else none)))
def d_spec_l5Sides_L2 (a0_ : Rule) (q1_2 : List Cond) (y39 : List Bytes) (k2 : List Action → Option (Rule × Bool)) : List Bytes → Nat → List Action → Option (Rule × Bool)
  | [], i2, w2_4 => (k2 (w2_4))
  | x2_ :: xs2, i2, w2_4 => ((d_spec_l5Action (x2_)).bind fun y73 => (bif !(y73.2) then (some (((⟨a0_.name, a0_.prio, q1_2, w2_4⟩ : Rule), false))) else (bif room (((w2_4).map Action.c).length + ([[D.int .i64 (y73.1.kind), D.str (y73.1.pat.rel), D.sl ((y73.1.pat.args).map tx)]]).length) 48 then (d_spec_l5Sides_L2 a0_ q1_2 y39 k2 xs2 (i2 + 1) ((w2_4) ++ ([y73.1]))) else none)))
def d_spec_l5Sides (a0_ : Rule) (a1_ : Bytes) (a2_ : Bytes) : Option (Rule × Bool) := ((d_spec_Split (a1_) ([32, 38, 32])).bind fun y1 => (bif decide ((y1).length ≤ maxLen) then (d_spec_l5Sides_L1 a0_ a2_ y1 (fun (q1_2 : List Cond) => ((d_spec_Split (a2_) ([32, 38, 32])).bind fun y39 => (bif decide ((y39).length ≤ maxLen) then (d_spec_l5Sides_L2 a0_ q1_2 y39 (fun (q2_3 : List Action) => ((d_spec_IsRule ((⟨a0_.name, a0_.prio, q1_2, q2_3⟩ : Rule))).bind fun y77 => (some (((⟨a0_.name, a0_.prio, q1_2, q2_3⟩ : Rule), y77))))) (y39) 0 (([] : List Action))) else none))) (y1) 0 (([] : List Cond))) else none))
def d_spec_l5Sides_S1 (a0_ : Rule) (a2_ : Bytes) (y1 : List Bytes) (W0 : List (List D)) (ix_ : Int) : St := ⟨[(2, D.str (a2_)), (3, D.ptr 0 0), (6, D.ptr 1 0), (8, D.acc 2), (9, D.int .i64 (ix_))], [Ob.box [D.str (a0_.name), D.int .i64 (a0_.prio), D.acc 3, D.nil], Ob.box [D.str ([]), D.int .i64 (0), D.nil, D.nil], Ob.row .uq 9 1 ((y1).map tx), Ob.row .uq 36 5 (W0)]⟩
theorem d_spec_l5Sides_L1w (hΓ : Γ.nt = 69) {a0_ : Rule} {a2_ : Bytes} {y1 : List Bytes} {r : Rule × Bool} {k1 : List Cond → Option (Rule × Bool)} (hE1 : ∀ (q1_2 : List Cond), k1 q1_2 = some r → Ax Γ N Tryz.f196 (.q [[none, none, some (36, 5), some (91, 3)], [none]] (D.tup [D.agg [D.str (r.1.name), D.int .i64 (r.1.prio), D.fr 36 5 ((r.1.conds).map Cond.c), D.fr 91 3 ((r.1.acts).map Action.c)], D.bool (r.2)])) [1, 1, 1] ⟨[(2, D.str (a2_)), (3, D.ptr 0 0), (6, D.ptr 1 0)], [Ob.box [D.str (a0_.name), D.int .i64 (a0_.prio), D.acc 2, D.nil], Ob.box [D.str ([]), D.int .i64 (0), D.nil, D.nil], Ob.row .uq 36 5 ((q1_2).map Cond.c)]⟩) (hm1 : (y1).length ≤ maxLen) : ∀ (rest : List Bytes) (i1 : Nat) (w1_3 : List Cond), (y1).drop i1 = rest → d_spec_l5Sides_L1 a0_ a2_ y1 k1 rest i1 w1_3 = some r → Ar Γ N Tryz.f196 (.q [[none, none, some (36, 5), some (91, 3)], [none]] (D.tup [D.agg [D.str (r.1.name), D.int .i64 (r.1.prio), D.fr 36 5 ((r.1.conds).map Cond.c), D.fr 91 3 ((r.1.acts).map Action.c)], D.bool (r.2)])) [1, 1, 0, 1, 0] (rest.length + 1) (d_spec_l5Sides_S1 a0_ a2_ y1 ((w1_3).map Cond.c) ((i1 : Int))) := by
  intro rest
  induction rest with
  | nil =>
    intro i1 w1_3 hd1 h
    rw [d_spec_l5Sides_L1] at h
    refine AWr_succ fun N1 hN1 hS1 => ?_
    exact ((pre0.ge tx hd1).a [.hl 0 [2, 3, 6] [0, 1, 3]]).ex hΓ hN1 (hE1 (w1_3) h)
  | cons x1_ xs1 ih1 =>
    intro i1 w1_3 hd1 h
    rw [d_spec_l5Sides_L1] at h
    refine AWr_succ fun N1 hN1 hS1 => ?_
    obtain ⟨y35, h36, h⟩ := den_bind h
    have o3_ := ((((pre0.lt tx hd1).i (own_ixl tx 1 (dc hd1))).o 1 1 .uq (map_get tx (dc hd1))).g (d_spec_ParseCond_good h36))
    obtain ⟨h37, h⟩ | ⟨h37, h⟩ := den_if h
    · cases h; exact (o3_.b h37).ret hΓ
    · obtain ⟨h38, h⟩ := den_ok h
      exact (((o3_.b h37).w (room_ok h38)).a [.cn [2, 3, 6, 8, 9] [0, 1, 2, 7]]).cs hΓ hS1 (d_spec_l5Sides_S1 a0_ a2_ y1 (((w1_3).map Cond.c) ++ ([[D.int .i64 (y35.1.kind), D.str (y35.1.pat.rel), D.sl ((y35.1.pat.args).map tx), D.str (y35.1.left), D.str (y35.1.right)]])) (IntKind.i64.wrap (((i1 : Int)) + (1)))) (by first | (simp only [iS hd1 hm1, mA] <;> rfl) | (simp only [iS hd1 hm1, mA, Fact.c, Pair.c, Cond.c, Action.c, Rule.c, Token.c, Match.c, Alpha.c, Node.c, Network.c, Stamp.c] <;> rfl)) (ih1 (i1 + 1) ((w1_3) ++ ([y35.1])) (dn hd1) h)
def d_spec_l5Sides_S2 (a0_ : Rule) (q1_2 : List Cond) (y39 : List Bytes) (W0 : List (List D)) (ix_ : Int) : St := ⟨[(3, D.ptr 0 0), (6, D.ptr 1 0), (12, D.acc 2), (13, D.int .i64 (ix_))], [Ob.box [D.str (a0_.name), D.int .i64 (a0_.prio), D.acc 3, D.acc 4], Ob.box [D.str ([]), D.int .i64 (0), D.nil, D.nil], Ob.row .uq 9 1 ((y39).map tx), Ob.row .uq 36 5 ((q1_2).map Cond.c), Ob.row .uq 91 3 (W0)]⟩
theorem d_spec_l5Sides_L2w (hΓ : Γ.nt = 69) {a0_ : Rule} {q1_2 : List Cond} {y39 : List Bytes} {r : Rule × Bool} {k2 : List Action → Option (Rule × Bool)} (hE2 : ∀ (q2_3 : List Action), k2 q2_3 = some r → Ax Γ N Tryz.f196 (.q [[none, none, some (36, 5), some (91, 3)], [none]] (D.tup [D.agg [D.str (r.1.name), D.int .i64 (r.1.prio), D.fr 36 5 ((r.1.conds).map Cond.c), D.fr 91 3 ((r.1.acts).map Action.c)], D.bool (r.2)])) [1, 1, 1, 1, 1] ⟨[(3, D.ptr 0 0), (6, D.ptr 1 0)], [Ob.box [D.str (a0_.name), D.int .i64 (a0_.prio), D.acc 2, D.acc 3], Ob.box [D.str ([]), D.int .i64 (0), D.nil, D.nil], Ob.row .uq 36 5 ((q1_2).map Cond.c), Ob.row .uq 91 3 ((q2_3).map Action.c)]⟩) (hm2 : (y39).length ≤ maxLen) : ∀ (rest : List Bytes) (i2 : Nat) (w2_4 : List Action), (y39).drop i2 = rest → d_spec_l5Sides_L2 a0_ q1_2 y39 k2 rest i2 w2_4 = some r → Ar Γ N Tryz.f196 (.q [[none, none, some (36, 5), some (91, 3)], [none]] (D.tup [D.agg [D.str (r.1.name), D.int .i64 (r.1.prio), D.fr 36 5 ((r.1.conds).map Cond.c), D.fr 91 3 ((r.1.acts).map Action.c)], D.bool (r.2)])) [1, 1, 1, 1, 0, 1, 0] (rest.length + 1) (d_spec_l5Sides_S2 a0_ q1_2 y39 ((w2_4).map Action.c) ((i2 : Int))) := by
  intro rest
  induction rest with
  | nil =>
    intro i2 w2_4 hd2 h
    rw [d_spec_l5Sides_L2] at h
    refine AWr_succ fun N2 hN2 hS2 => ?_
    exact ((pre0.ge tx hd2).a [.hl 0 [3, 6] [0, 1, 3, 4]]).ex hΓ hN2 (hE2 (w2_4) h)
  | cons x2_ xs2 ih2 =>
    intro i2 w2_4 hd2 h
    rw [d_spec_l5Sides_L2] at h
    refine AWr_succ fun N2 hN2 hS2 => ?_
    obtain ⟨y73, h74, h⟩ := den_bind h
    have o4_ := ((((pre0.lt tx hd2).i (own_ixl tx 1 (dc hd2))).o 1 1 .uq (map_get tx (dc hd2))).g (d_spec_l5Action_good h74))
    obtain ⟨h75, h⟩ | ⟨h75, h⟩ := den_if h
    · cases h; exact (o4_.b h75).ret hΓ
    · obtain ⟨h76, h⟩ := den_ok h
      exact (((o4_.b h75).w (room_ok h76)).a [.cn [3, 6, 12, 13] [0, 1, 2, 3, 8]]).cs hΓ hS2 (d_spec_l5Sides_S2 a0_ q1_2 y39 (((w2_4).map Action.c) ++ ([[D.int .i64 (y73.1.kind), D.str (y73.1.pat.rel), D.sl ((y73.1.pat.args).map tx)]])) (IntKind.i64.wrap (((i2 : Int)) + (1)))) (by first | (simp only [iS hd2 hm2, mA] <;> rfl) | (simp only [iS hd2 hm2, mA, Fact.c, Pair.c, Cond.c, Action.c, Rule.c, Token.c, Match.c, Alpha.c, Node.c, Network.c, Stamp.c] <;> rfl)) (ih2 (i2 + 1) ((w2_4) ++ ([y73.1])) (dn hd2) h)
theorem d_spec_l5Sides_good {a0_ : Rule} {a1_ : Bytes} {a2_ : Bytes} {r : Rule × Bool} (h : d_spec_l5Sides a0_ a1_ a2_ = some r) : Good Tryz.prog 196 [D.agg [D.str (a0_.name), D.int .i64 (a0_.prio), D.nil, D.nil], D.str (a1_), D.str (a2_)] (D.tup [D.agg [D.str (r.1.name), D.int .i64 (r.1.prio), D.fr 36 5 ((r.1.conds).map Cond.c), D.fr 91 3 ((r.1.acts).map Action.c)], D.bool (r.2)]) := by
  refine gd Tryz.func196 [[none, none, some (36, 5), some (91, 3)], [none]] 69 fun hr Γ hΓ => ?_
  rw [d_spec_l5Sides] at h
  obtain ⟨y1, h2, h⟩ := den_bind h
  obtain ⟨h80, h⟩ := den_ok h
  refine ((pre0.g (d_spec_Split_good h2)).a [.pb 0 2 36 5, .cn [2, 3, 6, 8, 9] [0, 1, 2, 3]]).lp hΓ (d_spec_l5Sides_L1w hΓ (fun q1_2 h => ?_) (of_decide_eq_true h80) (y1) 0 (([] : List Cond)) rfl h)
  obtain ⟨y39, h40, h⟩ := den_bind h
  obtain ⟨h79, h⟩ := den_ok h
  refine ((pre0.g (d_spec_Split_good h40)).a [.pb 0 3 91 3, .cn [3, 6, 12, 13] [0, 1, 3, 2, 4]]).lp hΓ (d_spec_l5Sides_L2w hΓ (fun q2_3 h => ?_) (of_decide_eq_true h79) (y39) 0 (([] : List Action)) rfl h)
  obtain ⟨y77, h78, h⟩ := den_bind h
  cases h; exact ((pre0.a [.n 3, .d (D.bool (y77))]).w (show Good Tryz.prog 10 [D.agg [D.str (a0_.name), D.int .i64 (a0_.prio), D.sl ((q1_2).map Cond.c), D.sl ((q2_3).map Action.c)]] (D.bool (y77)) from by first | (simpa only [List.map_append, List.map_cons, List.map_nil, List.map_drop, List.map_take] using d_spec_IsRule_good h78) | exact d_spec_IsRule_good h78 | (have t := d_spec_IsRule_good h78; simp only [List.map_append, List.map_drop, List.map_take, Rule.c] at t; exact t))).ret hΓ
def d_spec_ParseRule (a0_ : Bytes) : Option (Rule × Bool) := ((d_spec_Split (a0_) ([58, 32])).bind fun y1 => (bif ((((y1).map tx).length : Int) : Int) != (2) then (some (((⟨[], 0, [], []⟩ : Rule), false))) else ((atI (y1) (0)).bind fun x4 => ((d_spec_Split (x4) ([32])).bind fun y6 => ((atI (y1) (1)).bind fun x8 => ((d_spec_Split (x8) ([32, 45, 62, 32])).bind fun y10 => (bif ((((y6).map tx).length : Int) : Int) != (2) then (some (((⟨[], 0, [], []⟩ : Rule), false))) else (bif ((((y10).map tx).length : Int) : Int) != (2) then (some (((⟨[], 0, [], []⟩ : Rule), false))) else ((atI (y6) (1)).bind fun x14 => ((d_spec_ParseInt (x14)).bind fun y16 => (bif !(y16.2) then (some (((⟨[], 0, [], []⟩ : Rule), false))) else ((atI (y6) (0)).bind fun x19 => ((atI (y10) (0)).bind fun x21 => ((atI (y10) (1)).bind fun x23 => ((d_spec_l5Sides ((⟨x19, y16.1, [], []⟩ : Rule)) (x21) (x23)).bind fun y25 => (bif !(y25.2) then (some (((⟨[], 0, [], []⟩ : Rule), false))) else (some ((y25.1, true)))))))))))))))))))
theorem d_spec_ParseRule_good {a0_ : Bytes} {r : Rule × Bool} (h : d_spec_ParseRule a0_ = some r) : Good Tryz.prog 182 [D.str (a0_)] (D.tup [D.agg [D.str (r.1.name), D.int .i64 (r.1.prio), D.fr 36 5 ((r.1.conds).map Cond.c), D.fr 91 3 ((r.1.acts).map Action.c)], D.bool (r.2)]) := by
  refine gd Tryz.func182 [[none, none, some (36, 5), some (91, 3)], [none]] 63 fun hr Γ hΓ => ?_
  rw [d_spec_ParseRule] at h
  obtain ⟨y1, h2, h⟩ := den_bind h
  obtain ⟨h3, h⟩ | ⟨h3, h⟩ := den_if h
  · cases h; exact ((pre0.g (d_spec_Split_good h2)).b h3).ret hΓ
  · obtain ⟨x4, h5, h⟩ := den_bind h
    obtain ⟨y6, h7, h⟩ := den_bind h
    obtain ⟨x8, h9, h⟩ := den_bind h
    obtain ⟨y10, h11, h⟩ := den_bind h
    have o1_ := ((((((((pre0.g (d_spec_Split_good h2)).b h3).i (own_at tx 1 h5)).o 1 1 .uq (map_get tx (atI_get h5))).g (d_spec_Split_good h7)).i (own_at tx 1 h9)).o 1 1 .uq (map_get tx (atI_get h9))).g (d_spec_Split_good h11))
    obtain ⟨h12, h⟩ | ⟨h12, h⟩ := den_if h
    · cases h; exact ((o1_.r 4 h12).T 1).ret hΓ
    · have o2_ := (o1_.r 4 h12)
      obtain ⟨h13, h⟩ | ⟨h13, h⟩ := den_if h
      · cases h; exact (o2_.b h13).ret hΓ
      · obtain ⟨x14, h15, h⟩ := den_bind h
        obtain ⟨y16, h17, h⟩ := den_bind h
        have o3_ := ((((o2_.b h13).i (own_at tx 1 h15)).o 1 1 .uq (map_get tx (atI_get h15))).g (d_spec_ParseInt_good h17))
        obtain ⟨h18, h⟩ | ⟨h18, h⟩ := den_if h
        · cases h; exact (o3_.b h18).ret hΓ
        · obtain ⟨x19, h20, h⟩ := den_bind h
          obtain ⟨x21, h22, h⟩ := den_bind h
          obtain ⟨x23, h24, h⟩ := den_bind h
          obtain ⟨y25, h26, h⟩ := den_bind h
          have o4_ := ((((((((((o3_.b h18).a [.n 17]).i (own_at tx 1 h20)).o 1 1 .uq (map_get tx (atI_get h20))).i (own_at tx 1 h22)).o 1 1 .uq (map_get tx (atI_get h22))).i (own_at tx 1 h24)).o 1 1 .uq (map_get tx (atI_get h24))).a [.nl (D.tup [D.agg [D.str (y25.1.name), D.int .i64 (y25.1.prio), D.fr 36 5 ((y25.1.conds).map Cond.c), D.fr 91 3 ((y25.1.acts).map Action.c)], D.bool (y25.2)])]).w (show Good Tryz.prog 196 [D.agg [D.str (x19), D.int .i64 (y16.1), D.nil, D.nil], D.str (x21), D.str (x23)] (D.tup [D.agg [D.str (y25.1.name), D.int .i64 (y25.1.prio), D.fr 36 5 ((y25.1.conds).map Cond.c), D.fr 91 3 ((y25.1.acts).map Action.c)], D.bool (y25.2)]) from by first | (simpa only [List.map_append, List.map_cons, List.map_nil, List.map_drop, List.map_take] using d_spec_l5Sides_good h26) | exact d_spec_l5Sides_good h26 | (have t := d_spec_l5Sides_good h26; simp only [List.map_append, List.map_drop, List.map_take, Rule.c] at t; exact t)))
          obtain ⟨h27, h⟩ | ⟨h27, h⟩ := den_if h
          · cases h; exact (o4_.b h27).ret hΓ
          · cases h; exact (o4_.b h27).ret hΓ
def d_spec_l5Known (a0_ : Cur) (a1_ : Int) : Option (Cur × Rule) := ((d_spec_l1Below (a0_) ((iMin (a1_) ((((([[114, 32, 49, 58, 32, 111, 110, 40, 63, 120, 44, 63, 121, 41, 32, 38, 32, 111, 110, 40, 63, 121, 44, 63, 122, 41, 32, 45, 62, 32, 97, 100, 100, 32, 111, 110, 40, 63, 120, 44, 63, 122, 41], [114, 32, 50, 58, 32, 111, 110, 40, 63, 120, 44, 63, 121, 41, 32, 38, 32, 112, 40, 63, 121, 41, 32, 45, 62, 32, 97, 100, 100, 32, 112, 40, 63, 120, 41], [114, 32, 48, 58, 32, 112, 40, 63, 120, 41, 32, 38, 32, 111, 110, 40, 63, 120, 44, 63, 121, 41, 32, 38, 32, 63, 120, 32, 33, 61, 32, 63, 121, 32, 45, 62, 32, 97, 100, 100, 32, 97, 116, 40, 63, 121, 44, 63, 120, 41], [114, 32, 51, 58, 32, 97, 116, 40, 63, 120, 44, 63, 121, 41, 32, 38, 32, 112, 40, 63, 120, 41, 32, 38, 32, 112, 40, 63, 121, 41, 32, 38, 32, 63, 120, 32, 60, 32, 63, 121, 32, 45, 62, 32, 97, 100, 100, 32, 122, 40, 41], [114, 32, 52, 58, 32, 111, 110, 40, 63, 120, 44, 97, 41, 32, 45, 62, 32, 97, 100, 100, 32, 113, 40, 63, 120, 41, 32, 38, 32, 97, 100, 100, 32, 112, 40, 97, 41], [114, 32, 49, 58, 32, 97, 116, 40, 63, 120, 44, 63, 120, 41, 32, 38, 32, 113, 40, 49, 41, 32, 45, 62, 32, 97, 100, 100, 32, 111, 110, 40, 63, 120, 44, 49, 41], [114, 32, 49, 58, 32, 112, 40, 63, 120, 41, 32, 38, 32, 110, 111, 116, 32, 113, 40, 63, 120, 41, 32, 45, 62, 32, 97, 100, 100, 32, 97, 116, 40, 63, 120, 44, 98, 41], [114, 32, 50, 58, 32, 111, 110, 40, 63, 120, 44, 63, 121, 41, 32, 38, 32, 110, 111, 116, 32, 97, 116, 40, 63, 121, 44, 63, 122, 41, 32, 45, 62, 32, 97, 100, 100, 32, 113, 40, 63, 121, 41], [114, 32, 53, 58, 32, 97, 116, 40, 63, 120, 44, 63, 121, 41, 32, 38, 32, 110, 111, 116, 32, 112, 40, 63, 121, 41, 32, 38, 32, 63, 120, 32, 33, 61, 32, 63, 121, 32, 45, 62, 32, 97, 100, 100, 32, 122, 40, 41], [114, 32, 57, 58, 32, 113, 40, 63, 120, 41, 32, 38, 32, 112, 40, 63, 120, 41, 32, 45, 62, 32, 100, 114, 111, 112, 32, 112, 40, 63, 120, 41], [114, 32, 48, 58, 32, 97, 116, 40, 63, 120, 44, 49, 41, 32, 38, 32, 97, 116, 40, 63, 121, 44, 50, 41, 32, 38, 32, 63, 120, 32, 61, 32, 63, 121, 32, 45, 62, 32, 100, 114, 111, 112, 32, 97, 116, 40, 63, 120, 44, 49, 41, 32, 38, 32, 115, 116, 111, 112], [114, 32, 49, 58, 32, 111, 110, 40, 63, 120, 44, 63, 120, 41, 32, 45, 62, 32, 115, 116, 111, 112], [114, 32, 55, 58, 32, 122, 40, 41, 32, 38, 32, 111, 110, 40, 63, 120, 44, 63, 121, 41, 32, 45, 62, 32, 100, 114, 111, 112, 32, 122, 40, 41, 32, 38, 32, 97, 100, 100, 32, 111, 110, 40, 63, 121, 44, 63, 120, 41]] : List Bytes)).map tx).length : Int))))).bind fun y1 => ((atI (([[114, 32, 49, 58, 32, 111, 110, 40, 63, 120, 44, 63, 121, 41, 32, 38, 32, 111, 110, 40, 63, 121, 44, 63, 122, 41, 32, 45, 62, 32, 97, 100, 100, 32, 111, 110, 40, 63, 120, 44, 63, 122, 41], [114, 32, 50, 58, 32, 111, 110, 40, 63, 120, 44, 63, 121, 41, 32, 38, 32, 112, 40, 63, 121, 41, 32, 45, 62, 32, 97, 100, 100, 32, 112, 40, 63, 120, 41], [114, 32, 48, 58, 32, 112, 40, 63, 120, 41, 32, 38, 32, 111, 110, 40, 63, 120, 44, 63, 121, 41, 32, 38, 32, 63, 120, 32, 33, 61, 32, 63, 121, 32, 45, 62, 32, 97, 100, 100, 32, 97, 116, 40, 63, 121, 44, 63, 120, 41], [114, 32, 51, 58, 32, 97, 116, 40, 63, 120, 44, 63, 121, 41, 32, 38, 32, 112, 40, 63, 120, 41, 32, 38, 32, 112, 40, 63, 121, 41, 32, 38, 32, 63, 120, 32, 60, 32, 63, 121, 32, 45, 62, 32, 97, 100, 100, 32, 122, 40, 41], [114, 32, 52, 58, 32, 111, 110, 40, 63, 120, 44, 97, 41, 32, 45, 62, 32, 97, 100, 100, 32, 113, 40, 63, 120, 41, 32, 38, 32, 97, 100, 100, 32, 112, 40, 97, 41], [114, 32, 49, 58, 32, 97, 116, 40, 63, 120, 44, 63, 120, 41, 32, 38, 32, 113, 40, 49, 41, 32, 45, 62, 32, 97, 100, 100, 32, 111, 110, 40, 63, 120, 44, 49, 41], [114, 32, 49, 58, 32, 112, 40, 63, 120, 41, 32, 38, 32, 110, 111, 116, 32, 113, 40, 63, 120, 41, 32, 45, 62, 32, 97, 100, 100, 32, 97, 116, 40, 63, 120, 44, 98, 41], [114, 32, 50, 58, 32, 111, 110, 40, 63, 120, 44, 63, 121, 41, 32, 38, 32, 110, 111, 116, 32, 97, 116, 40, 63, 121, 44, 63, 122, 41, 32, 45, 62, 32, 97, 100, 100, 32, 113, 40, 63, 121, 41], [114, 32, 53, 58, 32, 97, 116, 40, 63, 120, 44, 63, 121, 41, 32, 38, 32, 110, 111, 116, 32, 112, 40, 63, 121, 41, 32, 38, 32, 63, 120, 32, 33, 61, 32, 63, 121, 32, 45, 62, 32, 97, 100, 100, 32, 122, 40, 41], [114, 32, 57, 58, 32, 113, 40, 63, 120, 41, 32, 38, 32, 112, 40, 63, 120, 41, 32, 45, 62, 32, 100, 114, 111, 112, 32, 112, 40, 63, 120, 41], [114, 32, 48, 58, 32, 97, 116, 40, 63, 120, 44, 49, 41, 32, 38, 32, 97, 116, 40, 63, 121, 44, 50, 41, 32, 38, 32, 63, 120, 32, 61, 32, 63, 121, 32, 45, 62, 32, 100, 114, 111, 112, 32, 97, 116, 40, 63, 120, 44, 49, 41, 32, 38, 32, 115, 116, 111, 112], [114, 32, 49, 58, 32, 111, 110, 40, 63, 120, 44, 63, 120, 41, 32, 45, 62, 32, 115, 116, 111, 112], [114, 32, 55, 58, 32, 122, 40, 41, 32, 38, 32, 111, 110, 40, 63, 120, 44, 63, 121, 41, 32, 45, 62, 32, 100, 114, 111, 112, 32, 122, 40, 41, 32, 38, 32, 97, 100, 100, 32, 111, 110, 40, 63, 121, 44, 63, 120, 41]] : List Bytes)) (y1.2)).bind fun x3 => ((d_spec_ParseRule (x3)).bind fun y5 => (some ((y1.1, y5.1))))))
theorem d_spec_l5Known_good {a0_ : Cur} {a1_ : Int} {r : Cur × Rule} (h : d_spec_l5Known a0_ a1_ = some r) : GoodP Tryz.prog 146 (Cur.c a0_) (Cur.c r.1) [D.int .i64 (a1_)] (D.agg [D.str (r.2.name), D.int .i64 (r.2.prio), D.fr 36 5 ((r.2.conds).map Cond.c), D.fr 91 3 ((r.2.acts).map Action.c)]) := by
  refine gdP Tryz.func146 [[none, none, none], [none, none, some (36, 5), some (91, 3)]] 23 [D.sl ((a0_.b).map yx), D.int .i64 (a0_.i), D.int .i64 (a0_.h)] [D.int .i64 (a1_)] [] fun hr v0_ Γ hΓ => ?_
  rw [d_spec_l5Known] at h
  obtain ⟨y1, h2, h⟩ := den_bind h
  obtain ⟨x3, h4, h⟩ := den_bind h
  obtain ⟨y5, h6, h⟩ := den_bind h
  cases h; exact ((((pre0.hp [[none, none, none], [none]] (d_spec_l1Below_good h2)).i (own_at tx 1 h4)).o 1 1 .uq (map_get tx (atI_get h4))).g (d_spec_ParseRule_good h6)).ret hΓ
def d_spec_l5Random_L1 (y1 : Cur × Int) (k1 : List Int → Int → Int → List Cond → Option (Cur × Rule)) : Nat → Int → List Int → Int → Int → List Cond → Option (Cur × Rule)
  | 0, _, _, _, _, _ => none
  | n1 + 1, v1_4, u1_0_0, u1_0_1, u1_0_2, w1_3 => (bif decide ((v1_4 : Int) > (0)) then ((d_spec_l4Draw ((⟨u1_0_0, u1_0_1, u1_0_2⟩ : Cur))).bind fun y28 => (bif room (((w1_3).map Cond.c).length + ([[D.int .i64 (y28.2.kind), D.str (y28.2.pat.rel), D.sl ((y28.2.pat.args).map tx), D.str (y28.2.left), D.str (y28.2.right)]]).length) 80 then (d_spec_l5Random_L1 y1 k1 n1 (IntKind.i64.wrap ((v1_4) - (1))) (y28.1.b) (y28.1.i) (y28.1.h) ((w1_3) ++ ([y28.2]))) else none)) else (k1 (u1_0_0) (u1_0_1) (u1_0_2) (w1_3)))
def d_spec_l5Random_L2 (y1 : Cur × Int) (q1_3 : List Cond) (y31 : List Bytes) (y33 : Cur × Fact) (k2 : List Int → Int → Int → List Bytes → Option (Cur × Rule)) : Nat → Int → List Int → Int → Int → List Bytes → Option (Cur × Rule)
  | 0, _, _, _, _, _ => none
  | n2 + 1, v2_7, u2_0_0, u2_0_1, u2_0_2, w2_6 => (bif decide ((v2_7 : Int) < ((((w2_6).map tx).length : Int))) then ((atI (w2_6) (v2_7)).bind fun x91 => ((d_spec_IsVar (x91)).bind fun y93 => (bif y93 then ((d_spec_l1HasText (y31) (x91)).bind fun y96 => (bif !(y96) then ((d_spec_l1Atom ((⟨u2_0_0, u2_0_1, u2_0_2⟩ : Cur))).bind fun y101 => (d_spec_l5Random_L2 y1 q1_3 y31 y33 k2 n2 (IntKind.i64.wrap ((v2_7) + (1))) (y101.1.b) (y101.1.i) (y101.1.h) ((w2_6).set (v2_7).toNat y101.2))) else (d_spec_l5Random_L2 y1 q1_3 y31 y33 k2 n2 (IntKind.i64.wrap ((v2_7) + (1))) (u2_0_0) (u2_0_1) (u2_0_2) (w2_6)))) else (d_spec_l5Random_L2 y1 q1_3 y31 y33 k2 n2 (IntKind.i64.wrap ((v2_7) + (1))) (u2_0_0) (u2_0_1) (u2_0_2) (w2_6))))) else (k2 (u2_0_0) (u2_0_1) (u2_0_2) (w2_6)))
def d_spec_l5Random (a0_ : Cur) : Option (Cur × Rule) := ((d_spec_l1Below (a0_) (4)).bind fun y1 => ((d_spec_l3Draw (y1.1)).bind fun y3 => ((d_spec_l1Below (y3.1) (3)).bind fun y5 => (d_spec_l5Random_L1 y1 (fun (r1_0_0 : List Int) (r1_0_1 : Int) (r1_0_2 : Int) (q1_3 : List Cond) => ((d_spec_BoundVars ((⟨[114], y1.2, q1_3, []⟩ : Rule)) ((((q1_3).map Cond.c).length : Int))).bind fun y31 => ((d_spec_l3Draw ((⟨r1_0_0, r1_0_1, r1_0_2⟩ : Cur))).bind fun y33 => (d_spec_l5Random_L2 y1 q1_3 y31 y33 (fun (r2_0_0 : List Int) (r2_0_1 : Int) (r2_0_2 : Int) (q2_5 : List Bytes) => ((d_spec_l1Int ((⟨r2_0_0, r2_0_1, r2_0_2⟩ : Cur)) (([1, 1, 2] : List Int))).bind fun y105 => (bif room ((([] : List (List D))).length + ([[D.int .i64 (y105.2), D.str (y33.2.rel), D.sl ((q2_5).map tx)]]).length) 48 then ((d_spec_l1Once (y105.1) (6)).bind fun y108 => (bif y108.2 then (bif room (((([] : List (List D))) ++ ([[D.int .i64 (y105.2), D.str (y33.2.rel), D.sl ((q2_5).map tx)]])).length + ([[D.int .i64 (3), D.str ([]), D.sl ([])]]).length) 48 then ((d_spec_IsRule ((⟨[114], y1.2, q1_3, ((([] : List Action)) ++ ([(⟨y105.2, (⟨y33.2.rel, q2_5⟩ : Fact)⟩ : Action)])) ++ ([(⟨3, (⟨[], []⟩ : Fact)⟩ : Action)])⟩ : Rule))).bind fun y112 => (bif !(y112) then ((d_spec_l5Known (y108.1) (99)).bind fun y115 => (some ((y115.1, y115.2)))) else (some ((y108.1, (⟨[114], y1.2, q1_3, ((([] : List Action)) ++ ([(⟨y105.2, (⟨y33.2.rel, q2_5⟩ : Fact)⟩ : Action)])) ++ ([(⟨3, (⟨[], []⟩ : Fact)⟩ : Action)])⟩ : Rule)))))) else none) else ((d_spec_IsRule ((⟨[114], y1.2, q1_3, (([] : List Action)) ++ ([(⟨y105.2, (⟨y33.2.rel, q2_5⟩ : Fact)⟩ : Action)])⟩ : Rule))).bind fun y117 => (bif !(y117) then ((d_spec_l5Known (y108.1) (99)).bind fun y120 => (some ((y120.1, y120.2)))) else (some ((y108.1, (⟨[114], y1.2, q1_3, (([] : List Action)) ++ ([(⟨y105.2, (⟨y33.2.rel, q2_5⟩ : Fact)⟩ : Action)])⟩ : Rule)))))))) else none))) fuel (0) (y33.1.b) (y33.1.i) (y33.1.h) (y33.2.args))))) fuel (y5.2) (y5.1.b) (y5.1.i) (y5.1.h) ([(⟨1, y3.2, [], []⟩ : Cond)])))))
def d_spec_l5Random_S1 (v0_ : Value) (y1 : Cur × Int) (v1_4 : Int) (u1_0_1 : Int) (u1_0_2 : Int) (W1 : List (List D)) (W4 : List (List D)) : St := ⟨[(0, D.ptr 0 0), (2, D.ptr 1 0), (3, D.ptr 2 0), (4, D.int .i64 (v1_4))], [Ob.pbx [D.sl (W1), D.int .i64 (u1_0_1), D.int .i64 (u1_0_2)] v0_, Ob.box [D.str ([]), D.int .i64 (0), D.nil, D.nil], Ob.box [D.str ([114]), D.int .i64 (y1.2), D.acc 3, D.nil], Ob.row .uq 36 5 (W4)]⟩
theorem d_spec_l5Random_L1w (hΓ : Γ.nt = 88) {v0_ : Value} {y1 : Cur × Int} {r : Cur × Rule} {k1 : List Int → Int → Int → List Cond → Option (Cur × Rule)} (hE1 : ∀ (r1_0_0 : List Int) (r1_0_1 : Int) (r1_0_2 : Int) (q1_3 : List Cond), k1 r1_0_0 r1_0_1 r1_0_2 q1_3 = some r → Ax Γ N Tryz.f145 (.p [[none, none, none], [none, none, some (36, 5), some (91, 3)]] v0_ (Cur.c r.1) (D.agg [D.str (r.2.name), D.int .i64 (r.2.prio), D.fr 36 5 ((r.2.conds).map Cond.c), D.fr 91 3 ((r.2.acts).map Action.c)])) [1, 1, 1] ⟨[(0, D.ptr 0 0), (2, D.ptr 1 0), (3, D.ptr 2 0)], [Ob.pbx [D.sl ((r1_0_0).map yx), D.int .i64 (r1_0_1), D.int .i64 (r1_0_2)] v0_, Ob.box [D.str ([]), D.int .i64 (0), D.nil, D.nil], Ob.box [D.str ([114]), D.int .i64 (y1.2), D.acc 3, D.nil], Ob.row .uq 36 5 ((q1_3).map Cond.c)]⟩) : ∀ (n1 : Nat) (v1_4 : Int) (u1_0_0 : List Int) (u1_0_1 : Int) (u1_0_2 : Int) (w1_3 : List Cond), d_spec_l5Random_L1 y1 k1 n1 v1_4 u1_0_0 u1_0_1 u1_0_2 w1_3 = some r → Ar Γ N Tryz.f145 (.p [[none, none, none], [none, none, some (36, 5), some (91, 3)]] v0_ (Cur.c r.1) (D.agg [D.str (r.2.name), D.int .i64 (r.2.prio), D.fr 36 5 ((r.2.conds).map Cond.c), D.fr 91 3 ((r.2.acts).map Action.c)])) [1, 1, 0, 1, 0] n1 (d_spec_l5Random_S1 v0_ y1 v1_4 u1_0_1 u1_0_2 ((u1_0_0).map yx) ((w1_3).map Cond.c)) := by
  intro n
  induction n with
  | zero => intro v1_4 u1_0_0 u1_0_1 u1_0_2 w1_3 h; simp [d_spec_l5Random_L1] at h
  | succ n1 ih1 =>
    intro v1_4 u1_0_0 u1_0_1 u1_0_2 w1_3 h
    rw [d_spec_l5Random_L1] at h
    refine AWr_succ fun N1 hN1 hS1 => ?_
    obtain ⟨h25, h⟩ | ⟨h25, h⟩ := den_if h
    · obtain ⟨y28, h29, h⟩ := den_bind h
      obtain ⟨h30, h⟩ := den_ok h
      exact (((((pre0.b h25).a [.n2 [0, 1, 2, 3, 4, 5, 6, 7] [0, 1, 2, 3, 4, 5, 6, 7] 3 5 [0, 1] [0, 4], .gp [[none, none, none]] (Cur.c y28.1) (D.agg [D.int .i64 (y28.2.kind), D.str (y28.2.pat.rel), D.fr 9 1 ((y28.2.pat.args).map tx), D.str (y28.2.left), D.str (y28.2.right)])]).w (show GoodP Tryz.prog 180 (Cur.c ((⟨u1_0_0, u1_0_1, u1_0_2⟩ : Cur))) (Cur.c y28.1) [] (D.agg [D.int .i64 (y28.2.kind), D.str (y28.2.pat.rel), D.fr 9 1 ((y28.2.pat.args).map tx), D.str (y28.2.left), D.str (y28.2.right)]) from by simpa only [List.map_append, List.map_cons, List.map_nil, List.map_drop, List.map_take] using d_spec_l4Draw_good h29)).w (room_ok h30)).a [.cn [0, 2, 3, 4] [0, 1, 2, 6]]).cs hΓ hS1 (d_spec_l5Random_S1 v0_ y1 (IntKind.i64.wrap ((v1_4) - (1))) (y28.1.i) (y28.1.h) ((y28.1.b).map yx) (((w1_3).map Cond.c) ++ ([[D.int .i64 (y28.2.kind), D.str (y28.2.pat.rel), D.sl ((y28.2.pat.args).map tx), D.str (y28.2.left), D.str (y28.2.right)]]))) (by first | (simp only [mA] <;> rfl) | (simp only [mA, Fact.c, Pair.c, Cond.c, Action.c, Rule.c, Token.c, Match.c, Alpha.c, Node.c, Network.c, Stamp.c] <;> rfl)) (ih1 (IntKind.i64.wrap ((v1_4) - (1))) (y28.1.b) (y28.1.i) (y28.1.h) ((w1_3) ++ ([y28.2])) h)
    · exact ((pre0.b h25).a [.hl 0 [0, 2, 3] [0, 1, 2, 3]]).ex hΓ hN1 (hE1 (u1_0_0) (u1_0_1) (u1_0_2) (w1_3) h)
def d_spec_l5Random_S2 (v0_ : Value) (y1 : Cur × Int) (q1_3 : List Cond) (y31 : List Bytes) (y33 : Cur × Fact) (v2_7 : Int) (u2_0_1 : Int) (u2_0_2 : Int) (W1 : List (List D)) (W4 : List (List D)) : St := ⟨[(0, D.ptr 0 0), (2, D.ptr 1 0), (3, D.ptr 2 0), (5, D.acc 3), (6, D.ptr 4 0), (7, D.int .i64 (v2_7))], [Ob.pbx [D.sl (W1), D.int .i64 (u2_0_1), D.int .i64 (u2_0_2)] v0_, Ob.box [D.str ([]), D.int .i64 (0), D.nil, D.nil], Ob.box [D.str ([114]), D.int .i64 (y1.2), D.acc 5, D.nil], Ob.row .uq 9 1 ((y31).map tx), Ob.box [D.str (y33.2.rel), D.acc 6], Ob.row .uq 36 5 ((q1_3).map Cond.c), Ob.row .uq 9 1 (W4)]⟩
theorem d_spec_l5Random_L2w (hΓ : Γ.nt = 88) {v0_ : Value} {y1 : Cur × Int} {q1_3 : List Cond} {y31 : List Bytes} {y33 : Cur × Fact} {r : Cur × Rule} {k2 : List Int → Int → Int → List Bytes → Option (Cur × Rule)} (hE2 : ∀ (r2_0_0 : List Int) (r2_0_1 : Int) (r2_0_2 : Int) (q2_5 : List Bytes), k2 r2_0_0 r2_0_1 r2_0_2 q2_5 = some r → Ax Γ N Tryz.f145 (.p [[none, none, none], [none, none, some (36, 5), some (91, 3)]] v0_ (Cur.c r.1) (D.agg [D.str (r.2.name), D.int .i64 (r.2.prio), D.fr 36 5 ((r.2.conds).map Cond.c), D.fr 91 3 ((r.2.acts).map Action.c)])) [1, 1, 1, 1, 1, 1] ⟨[(0, D.ptr 0 0), (2, D.ptr 1 0), (3, D.ptr 2 0), (6, D.ptr 3 0)], [Ob.pbx [D.sl ((r2_0_0).map yx), D.int .i64 (r2_0_1), D.int .i64 (r2_0_2)] v0_, Ob.box [D.str ([]), D.int .i64 (0), D.nil, D.nil], Ob.box [D.str ([114]), D.int .i64 (y1.2), D.acc 4, D.nil], Ob.box [D.str (y33.2.rel), D.acc 5], Ob.row .uq 36 5 ((q1_3).map Cond.c), Ob.row .uq 9 1 ((q2_5).map tx)]⟩) : ∀ (n2 : Nat) (v2_7 : Int) (u2_0_0 : List Int) (u2_0_1 : Int) (u2_0_2 : Int) (w2_6 : List Bytes), d_spec_l5Random_L2 y1 q1_3 y31 y33 k2 n2 v2_7 u2_0_0 u2_0_1 u2_0_2 w2_6 = some r → Ar Γ N Tryz.f145 (.p [[none, none, none], [none, none, some (36, 5), some (91, 3)]] v0_ (Cur.c r.1) (D.agg [D.str (r.2.name), D.int .i64 (r.2.prio), D.fr 36 5 ((r.2.conds).map Cond.c), D.fr 91 3 ((r.2.acts).map Action.c)])) [1, 1, 1, 1, 1, 0, 1, 0] n2 (d_spec_l5Random_S2 v0_ y1 q1_3 y31 y33 v2_7 u2_0_1 u2_0_2 ((u2_0_0).map yx) ((w2_6).map tx)) := by
  intro n
  induction n with
  | zero => intro v2_7 u2_0_0 u2_0_1 u2_0_2 w2_6 h; simp [d_spec_l5Random_L2] at h
  | succ n2 ih2 =>
    intro v2_7 u2_0_0 u2_0_1 u2_0_2 w2_6 h
    rw [d_spec_l5Random_L2] at h
    refine AWr_succ fun N2 hN2 hS2 => ?_
    obtain ⟨h90, h⟩ | ⟨h90, h⟩ := den_if h
    · obtain ⟨x91, h92, h⟩ := den_bind h
      obtain ⟨y93, h94, h⟩ := den_bind h
      have o3_ := ((((pre0.b h90).i (own_at tx 1 h92)).o 1 1 .uq (map_get tx (atI_get h92))).g (d_spec_IsVar_good h94))
      obtain ⟨h95, h⟩ | ⟨h95, h⟩ := den_if h
      · obtain ⟨y96, h97, h⟩ := den_bind h
        have o4_ := (((((((o3_.r 5 h95).i (own_at tx 1 h92)).b h95).o 1 1 .uq (map_get tx (atI_get h92))).b h95).g (d_spec_l1HasText_good h97)).r 2 h95)
        obtain ⟨h98, h⟩ | ⟨h98, h⟩ := den_if h
        · obtain ⟨y101, h102, h⟩ := den_bind h
          exact ((((((o4_.b h98).a [.n2 [0, 1, 2, 3, 4, 5, 6] [0, 1, 2, 3, 4, 5, 6] 4 5 [0, 1, 2] [0], .gp [[none, none, none]] (Cur.c y101.1) (D.str (y101.2))]).w (show GoodP Tryz.prog 181 (Cur.c ((⟨u2_0_0, u2_0_1, u2_0_2⟩ : Cur))) (Cur.c y101.1) [] (D.str (y101.2)) from by simpa only [List.map_append, List.map_cons, List.map_nil, List.map_drop, List.map_take] using d_spec_l1Atom_good h102)).i (own_at tx 1 h92)).w (show ((w2_6).map tx)[(v2_7).toNat]? = some [D.str (x91)] from map_get tx (atI_get h92))).a [.row [D.str (x91)], .cn [0, 2, 3, 5, 6, 7] [0, 1, 2, 3, 4, 5, 6]]).cs hΓ hS2 (d_spec_l5Random_S2 v0_ y1 q1_3 y31 y33 (IntKind.i64.wrap ((v2_7) + (1))) (y101.1.i) (y101.1.h) ((y101.1.b).map yx) (((w2_6).map tx).set (v2_7).toNat [D.str (y101.2)])) (by first | (simp only [mA] <;> rfl) | (simp only [mA, Fact.c, Pair.c, Cond.c, Action.c, Rule.c, Token.c, Match.c, Alpha.c, Node.c, Network.c, Stamp.c] <;> rfl)) (ih2 (IntKind.i64.wrap ((v2_7) + (1))) (y101.1.b) (y101.1.i) (y101.1.h) ((w2_6).set (v2_7).toNat y101.2) h)
        · exact ((o4_.b h98).a [.cn [0, 2, 3, 5, 6, 7] [0, 1, 2, 3, 4, 5, 6]]).cf hΓ hS2 (ih2 (IntKind.i64.wrap ((v2_7) + (1))) (u2_0_0) (u2_0_1) (u2_0_2) (w2_6) h)
      · exact (((o3_.r 9 h95).F 1).a [.cn [0, 2, 3, 5, 6, 7] [0, 1, 2, 3, 4, 5, 6]]).cf hΓ hS2 (ih2 (IntKind.i64.wrap ((v2_7) + (1))) (u2_0_0) (u2_0_1) (u2_0_2) (w2_6) h)
    · exact ((pre0.b h90).a [.hl 0 [0, 2, 3, 6] [0, 1, 2, 4, 5, 6]]).ex hΓ hN2 (hE2 (u2_0_0) (u2_0_1) (u2_0_2) (w2_6) h)
theorem d_spec_l5Random_good {a0_ : Cur} {r : Cur × Rule} (h : d_spec_l5Random a0_ = some r) : GoodP Tryz.prog 145 (Cur.c a0_) (Cur.c r.1) [] (D.agg [D.str (r.2.name), D.int .i64 (r.2.prio), D.fr 36 5 ((r.2.conds).map Cond.c), D.fr 91 3 ((r.2.acts).map Action.c)]) := by
  refine gdP Tryz.func145 [[none, none, none], [none, none, some (36, 5), some (91, 3)]] 88 [D.sl ((a0_.b).map yx), D.int .i64 (a0_.i), D.int .i64 (a0_.h)] [] [] fun hr v0_ Γ hΓ => ?_
  rw [d_spec_l5Random] at h
  obtain ⟨y1, h2, h⟩ := den_bind h
  obtain ⟨y3, h4, h⟩ := den_bind h
  obtain ⟨y5, h6, h⟩ := den_bind h
  refine ((((pre0.hp [[none, none, none], [none]] (d_spec_l1Below_good h2)).hp [[none, none, none]] (d_spec_l3Draw_good h4)).hp [[none, none, none], [none]] (d_spec_l1Below_good h6)).a [.cn [0, 2, 3, 4] [0, 1, 4, 3]]).lps hΓ (d_spec_l5Random_S1 v0_ y1 (y5.2) (y5.1.i) (y5.1.h) ((y5.1.b).map yx) ([[D.int .i64 (1), D.str (y3.2.rel), D.sl ((y3.2.args).map tx), D.str ([]), D.str ([])]])) (by first | (simp only [mA] <;> rfl) | (simp only [mA, Fact.c, Pair.c, Cond.c, Action.c, Rule.c, Token.c, Match.c, Alpha.c, Node.c, Network.c, Stamp.c] <;> rfl)) (d_spec_l5Random_L1w hΓ (fun r1_0_0 r1_0_1 r1_0_2 q1_3 h => ?_) fuel (y5.2) (y5.1.b) (y5.1.i) (y5.1.h) ([(⟨1, y3.2, [], []⟩ : Cond)]) h)
  obtain ⟨y31, h32, h⟩ := den_bind h
  obtain ⟨y33, h34, h⟩ := den_bind h
  refine (((((pre0.a [.d (D.fr 9 1 ((y31).map tx))]).w (show Good Tryz.prog 46 [D.agg [D.str ([114]), D.int .i64 (y1.2), D.sl ((q1_3).map Cond.c), D.sl ([])], D.int .i64 ((((q1_3).map Cond.c).length : Int))] (D.fr 9 1 ((y31).map tx)) from by first | (simpa only [List.map_append, List.map_cons, List.map_nil, List.map_drop, List.map_take] using d_spec_BoundVars_good h32) | exact d_spec_BoundVars_good h32 | (have t := d_spec_BoundVars_good h32; simp only [List.map_append, List.map_drop, List.map_take, Rule.c] at t; exact t))).a [.gp [[none, none, none]] (Cur.c y33.1) (D.agg [D.str (y33.2.rel), D.fr 9 1 ((y33.2.args).map tx)])]).w (show GoodP Tryz.prog 179 (Cur.c ((⟨r1_0_0, r1_0_1, r1_0_2⟩ : Cur))) (Cur.c y33.1) [] (D.agg [D.str (y33.2.rel), D.fr 9 1 ((y33.2.args).map tx)]) from by simpa only [List.map_append, List.map_cons, List.map_nil, List.map_drop, List.map_take] using d_spec_l3Draw_good h34)).a [.cn [0, 2, 3, 5, 6, 7] [0, 1, 2, 4, 6, 3, 5]]).lp hΓ (d_spec_l5Random_L2w hΓ (fun r2_0_0 r2_0_1 r2_0_2 q2_5 h => ?_) fuel (0) (y33.1.b) (y33.1.i) (y33.1.h) (y33.2.args) h)
  obtain ⟨y105, h106, h⟩ := den_bind h
  obtain ⟨h107, h⟩ := den_ok h
  obtain ⟨y108, h109, h⟩ := den_bind h
  have o5_ := ((((pre0.a [.n2 [0, 1, 2, 3, 5, 4, 6, 7, 8, 9, 10] [0, 1, 2, 3, 5, 4, 6, 7, 8, 9, 10] 5 8 [0, 1, 4] [0, 5, 6], .gp [[none, none, none], [some (3, 1)]] (Cur.c y105.1) (D.int .i64 (y105.2))]).w (show GoodP Tryz.prog 149 (Cur.c ((⟨r2_0_0, r2_0_1, r2_0_2⟩ : Cur))) (Cur.c y105.1) [D.fr 3 1 ((([1, 1, 2] : List Int)).map ixx)] (D.int .i64 (y105.2)) from by simpa only [List.map_append, List.map_cons, List.map_nil, List.map_drop, List.map_take] using d_spec_l1Int_good h106)).w (room_ok h107)).hp [[none, none, none], [none]] (d_spec_l1Once_good h109))
  obtain ⟨h110, h⟩ | ⟨h110, h⟩ := den_if h
  · obtain ⟨h111, h⟩ := den_ok h
    obtain ⟨y112, h113, h⟩ := den_bind h
    have o6_ := ((((o5_.b h110).w (room_ok h111)).a [.d (D.bool (y112))]).w (show Good Tryz.prog 10 [D.agg [D.str ([114]), D.int .i64 (y1.2), D.sl ((q1_3).map Cond.c), D.sl (((([] : List (List D))) ++ ([[D.int .i64 (y105.2), D.str (y33.2.rel), D.sl ((q2_5).map tx)]])) ++ ([[D.int .i64 (3), D.str ([]), D.sl ([])]]))]] (D.bool (y112)) from by first | (simpa only [List.map_append, List.map_cons, List.map_nil, List.map_drop, List.map_take] using d_spec_IsRule_good h113) | exact d_spec_IsRule_good h113 | (have t := d_spec_IsRule_good h113; simp only [List.map_append, List.map_drop, List.map_take, Rule.c] at t; exact t)))
    obtain ⟨h114, h⟩ | ⟨h114, h⟩ := den_if h
    · obtain ⟨y115, h116, h⟩ := den_bind h
      cases h; exact ((o6_.b h114).hp [[none, none, none], [none]] (d_spec_l5Known_good h116)).ret hΓ
    · cases h; exact (o6_.b h114).rts hΓ (D.tup [D.agg [D.str ([114]), D.int .i64 (y1.2), D.fr 36 5 ((q1_3).map Cond.c), D.fr 91 3 (((([] : List (List D))) ++ ([[D.int .i64 (y105.2), D.str (y33.2.rel), D.sl ((q2_5).map tx)]])) ++ ([[D.int .i64 (3), D.str ([]), D.sl ([])]]))], D.agg [D.sl ((y108.1.b).map yx), D.int .i64 (y108.1.i), D.int .i64 (y108.1.h)], D.val v0_]) (by first | rfl | (simp only [mA] <;> rfl))
  · obtain ⟨y117, h118, h⟩ := den_bind h
    have o7_ := (((o5_.b h110).a [.d (D.bool (y117))]).w (show Good Tryz.prog 10 [D.agg [D.str ([114]), D.int .i64 (y1.2), D.sl ((q1_3).map Cond.c), D.sl ((([] : List (List D))) ++ ([[D.int .i64 (y105.2), D.str (y33.2.rel), D.sl ((q2_5).map tx)]]))]] (D.bool (y117)) from by first | (simpa only [List.map_append, List.map_cons, List.map_nil, List.map_drop, List.map_take] using d_spec_IsRule_good h118) | exact d_spec_IsRule_good h118 | (have t := d_spec_IsRule_good h118; simp only [List.map_append, List.map_drop, List.map_take, Rule.c] at t; exact t)))
    obtain ⟨h119, h⟩ | ⟨h119, h⟩ := den_if h
    · obtain ⟨y120, h121, h⟩ := den_bind h
      cases h; exact ((o7_.b h119).hp [[none, none, none], [none]] (d_spec_l5Known_good h121)).ret hΓ
    · cases h; exact (o7_.b h119).rts hΓ (D.tup [D.agg [D.str ([114]), D.int .i64 (y1.2), D.fr 36 5 ((q1_3).map Cond.c), D.fr 91 3 ((([] : List (List D))) ++ ([[D.int .i64 (y105.2), D.str (y33.2.rel), D.sl ((q2_5).map tx)]]))], D.agg [D.sl ((y108.1.b).map yx), D.int .i64 (y108.1.i), D.int .i64 (y108.1.h)], D.val v0_]) (by first | rfl | (simp only [mA] <;> rfl))
def d_spec_l5Draw (a0_ : Cur) : Option (Cur × Rule) := ((d_spec_l1Once (a0_) (3)).bind fun y1 => (bif y1.2 then ((d_spec_l5Random (y1.1)).bind fun y4 => (some ((y4.1, y4.2)))) else ((d_spec_l5Known (y1.1) (99)).bind fun y6 => (some ((y6.1, y6.2))))))
theorem d_spec_l5Draw_good {a0_ : Cur} {r : Cur × Rule} (h : d_spec_l5Draw a0_ = some r) : GoodP Tryz.prog 100 (Cur.c a0_) (Cur.c r.1) [] (D.agg [D.str (r.2.name), D.int .i64 (r.2.prio), D.fr 36 5 ((r.2.conds).map Cond.c), D.fr 91 3 ((r.2.acts).map Action.c)]) := by
  refine gdP Tryz.func100 [[none, none, none], [none, none, some (36, 5), some (91, 3)]] 9 [D.sl ((a0_.b).map yx), D.int .i64 (a0_.i), D.int .i64 (a0_.h)] [] [] fun hr v0_ Γ hΓ => ?_
  rw [d_spec_l5Draw] at h
  obtain ⟨y1, h2, h⟩ := den_bind h
  obtain ⟨h3, h⟩ | ⟨h3, h⟩ := den_if h
  · obtain ⟨y4, h5, h⟩ := den_bind h
    cases h; exact (((pre0.hp [[none, none, none], [none]] (d_spec_l1Once_good h2)).b h3).hp [[none, none, none]] (d_spec_l5Random_good h5)).ret hΓ
  · obtain ⟨y6, h7, h⟩ := den_bind h
    cases h; exact (((pre0.hp [[none, none, none], [none]] (d_spec_l1Once_good h2)).b h3).hp [[none, none, none], [none]] (d_spec_l5Known_good h7)).ret hΓ
def d_spec_l1Word (a0_ : Cur) : Option (Cur × Bytes) := ((d_spec_l1Str (a0_) (([[97], [98], [111, 110], [55], [49, 48], [57, 57, 57, 57], [49, 48, 48, 48, 48], [48, 48, 55], [48], [], [65], [63, 120], [63, 63], [63], [97, 98, 99, 100, 101, 102, 103, 104], [97, 98, 99, 100, 101, 102, 103, 104, 105], [63, 97, 98, 99, 100, 101, 102, 103, 104], [97, 45, 98], [120, 49], [49, 120], [45, 51]] : List Bytes))).bind fun y1 => (some ((y1.1, y1.2))))
theorem d_spec_l1Word_good {a0_ : Cur} {r : Cur × Bytes} (h : d_spec_l1Word a0_ = some r) : GoodP Tryz.prog 148 (Cur.c a0_) (Cur.c r.1) [] (D.str (r.2)) := by
  refine gdP Tryz.func148 [[none, none, none], [none]] 6 [D.sl ((a0_.b).map yx), D.int .i64 (a0_.i), D.int .i64 (a0_.h)] [] [] fun hr v0_ Γ hΓ => ?_
  rw [d_spec_l1Word] at h
  obtain ⟨y1, h2, h⟩ := den_bind h
  cases h; exact (pre0.hp [[none, none, none], [some (9, 1)]] (d_spec_l1Str_good h2)).ret hΓ
def d_spec_l3Any (a0_ : Cur) : Option (Cur × Fact) := ((d_spec_l3Draw (a0_)).bind fun y1 => ((d_spec_l1Below (y1.1) (10)).bind fun y3 => (bif (y3.2 : Int) == (0) then ((d_spec_l1Word (y3.1)).bind fun y6 => (some ((y6.1, (⟨y6.2, y1.2.args⟩ : Fact))))) else (bif (y3.2 : Int) == (1) then ((d_spec_l1Word (y3.1)).bind fun y11 => (bif room (((y1.2.args).map tx).length + ([[D.str (y11.2)]]).length) 16 then (some ((y11.1, (⟨y1.2.rel, (y1.2.args) ++ ([y11.2])⟩ : Fact)))) else none)) else (bif (y3.2 : Int) == (2) then ((d_spec_l1Below (y3.1) (5)).bind fun y15 => (bif decide (0 ≤ (y15.2 : Int)) && decide ((y15.2).toNat ≤ ((([[63, 120], [63, 120], [63, 121], [63, 120]] : List Bytes)).map tx).length) then (some ((y15.1, (⟨y1.2.rel, (([[63, 120], [63, 120], [63, 121], [63, 120]] : List Bytes)).take (y15.2).toNat⟩ : Fact)))) else none)) else (some ((y3.1, y1.2))))))))
theorem d_spec_l3Any_good {a0_ : Cur} {r : Cur × Fact} (h : d_spec_l3Any a0_ = some r) : GoodP Tryz.prog 151 (Cur.c a0_) (Cur.c r.1) [] (D.agg [D.str (r.2.rel), D.fr 9 1 ((r.2.args).map tx)]) := by
  refine gdP Tryz.func151 [[none, none, none], [none, some (9, 1)]] 30 [D.sl ((a0_.b).map yx), D.int .i64 (a0_.i), D.int .i64 (a0_.h)] [] [] fun hr v0_ Γ hΓ => ?_
  rw [d_spec_l3Any] at h
  obtain ⟨y1, h2, h⟩ := den_bind h
  obtain ⟨y3, h4, h⟩ := den_bind h
  have o1_ := ((pre0.hp [[none, none, none]] (d_spec_l3Draw_good h2)).hp [[none, none, none], [none]] (d_spec_l1Below_good h4))
  obtain ⟨h5, h⟩ | ⟨h5, h⟩ := den_if h
  · obtain ⟨y6, h7, h⟩ := den_bind h
    cases h; exact ((o1_.b h5).hp [[none, none, none]] (d_spec_l1Word_good h7)).ret hΓ
  · obtain ⟨h8, h⟩ | ⟨h8, h⟩ := den_if h
    · obtain ⟨y11, h12, h⟩ := den_bind h
      obtain ⟨h13, h⟩ := den_ok h
      cases h; exact (((((o1_.b h5).b h8).a [.n2 [0, 1, 2, 3, 4, 5, 6, 7] [0, 1, 2, 3, 4, 5, 6, 7] 3 5 [0, 1] [0]]).hp [[none, none, none]] (d_spec_l1Word_good h12)).w (room_ok h13)).rts hΓ (D.tup [D.agg [D.str (y1.2.rel), D.fr 9 1 (((y1.2.args).map tx) ++ ([[D.str (y11.2)]]))], D.agg [D.sl ((y11.1.b).map yx), D.int .i64 (y11.1.i), D.int .i64 (y11.1.h)], D.val v0_]) (by first | rfl | (simp only [mA] <;> rfl))
    · have o2_ := ((o1_.b h5).b h8)
      obtain ⟨h14, h⟩ | ⟨h14, h⟩ := den_if h
      · obtain ⟨y15, h16, h⟩ := den_bind h
        obtain ⟨h17, h⟩ := den_ok h
        cases h; exact ((((o2_.b h14).hp [[none, none, none], [none]] (d_spec_l1Below_good h16)).w (cut_ok h17)).a [.cut 0 (y15.2).toNat]).rts hΓ (D.tup [D.agg [D.str (y1.2.rel), D.fr 9 1 (((([[63, 120], [63, 120], [63, 121], [63, 120]] : List Bytes)).map tx).take (y15.2).toNat)], D.agg [D.sl ((y15.1.b).map yx), D.int .i64 (y15.1.i), D.int .i64 (y15.1.h)], D.val v0_]) (by first | rfl | (simp only [mA] <;> rfl))
      · cases h; exact (o2_.b h14).ret hΓ
def d_spec_l4Any (a0_ : Cur) : Option (Cur × Cond) := ((d_spec_l4Draw (a0_)).bind fun y1 => ((d_spec_l1Below (y1.1) (12)).bind fun y3 => (bif (y3.2 : Int) == (0) then ((d_spec_l1Int (y3.1) (([0, 1, 3, 5, 6, -1] : List Int))).bind fun y6 => (some ((y6.1, (⟨y6.2, y1.2.pat, y1.2.left, y1.2.right⟩ : Cond))))) else (bif (y3.2 : Int) == (1) then ((d_spec_l1Word (y3.1)).bind fun y9 => (some ((y9.1, (⟨y1.2.kind, y1.2.pat, y9.2, y1.2.right⟩ : Cond))))) else (bif (y3.2 : Int) == (2) then ((d_spec_l3Any (y3.1)).bind fun y12 => (some ((y12.1, (⟨y1.2.kind, y12.2, y1.2.left, y1.2.right⟩ : Cond))))) else (some ((y3.1, y1.2))))))))
theorem d_spec_l4Any_good {a0_ : Cur} {r : Cur × Cond} (h : d_spec_l4Any a0_ = some r) : GoodP Tryz.prog 150 (Cur.c a0_) (Cur.c r.1) [] (D.agg [D.int .i64 (r.2.kind), D.str (r.2.pat.rel), D.fr 9 1 ((r.2.pat.args).map tx), D.str (r.2.left), D.str (r.2.right)]) := by
  refine gdP Tryz.func150 [[none, none, none], [none, none, some (9, 1), none, none]] 25 [D.sl ((a0_.b).map yx), D.int .i64 (a0_.i), D.int .i64 (a0_.h)] [] [] fun hr v0_ Γ hΓ => ?_
  rw [d_spec_l4Any] at h
  obtain ⟨y1, h2, h⟩ := den_bind h
  obtain ⟨y3, h4, h⟩ := den_bind h
  have o1_ := ((pre0.hp [[none, none, none]] (d_spec_l4Draw_good h2)).hp [[none, none, none], [none]] (d_spec_l1Below_good h4))
  obtain ⟨h5, h⟩ | ⟨h5, h⟩ := den_if h
  · obtain ⟨y6, h7, h⟩ := den_bind h
    cases h; exact ((o1_.b h5).hp [[none, none, none], [some (3, 1)]] (d_spec_l1Int_good h7)).ret hΓ
  · obtain ⟨h8, h⟩ | ⟨h8, h⟩ := den_if h
    · obtain ⟨y9, h10, h⟩ := den_bind h
      cases h; exact (((o1_.b h5).b h8).hp [[none, none, none]] (d_spec_l1Word_good h10)).ret hΓ
    · have o2_ := ((o1_.b h5).b h8)
      obtain ⟨h11, h⟩ | ⟨h11, h⟩ := den_if h
      · obtain ⟨y12, h13, h⟩ := den_bind h
        cases h; exact ((o2_.b h11).hp [[none, none, none]] (d_spec_l3Any_good h13)).ret hΓ
      · cases h; exact (o2_.b h11).ret hΓ
def d_spec_l5Any (a0_ : Cur) : Option (Cur × Rule) := ((d_spec_l5Draw (a0_)).bind fun y1 => ((d_spec_l1Below (y1.1) (14)).bind fun y3 => (bif (y3.2 : Int) == (0) then ((d_spec_l1Word (y3.1)).bind fun y6 => (some ((y6.1, (⟨y6.2, y1.2.prio, y1.2.conds, y1.2.acts⟩ : Rule))))) else (bif (y3.2 : Int) == (1) then ((d_spec_l1Int (y3.1) (([-1, 0, 9, 10] : List Int))).bind fun y9 => (some ((y9.1, (⟨y1.2.name, y9.2, y1.2.conds, y1.2.acts⟩ : Rule))))) else (bif (y3.2 : Int) == (2) then ((d_spec_l4Any (y3.1)).bind fun y14 => (bif room (((y1.2.conds).map Cond.c).length + ([[D.int .i64 (y14.2.kind), D.str (y14.2.pat.rel), D.sl ((y14.2.pat.args).map tx), D.str (y14.2.left), D.str (y14.2.right)]]).length) 80 then (some ((y14.1, (⟨y1.2.name, y1.2.prio, (y1.2.conds) ++ ([y14.2]), y1.2.acts⟩ : Rule)))) else none)) else (bif (y3.2 : Int) == (3) then ((d_spec_l1Int (y3.1) (([0, 1, 2, 3, 4] : List Int))).bind fun y22 => ((d_spec_l3Any (y22.1)).bind fun y24 => (bif room (((y1.2.acts).map Action.c).length + ([[D.int .i64 (y22.2), D.str (y24.2.rel), D.sl ((y24.2.args).map tx)]]).length) 48 then (some ((y24.1, (⟨y1.2.name, y1.2.prio, y1.2.conds, (y1.2.acts) ++ ([(⟨y22.2, y24.2⟩ : Action)])⟩ : Rule)))) else none))) else (bif (y3.2 : Int) == (4) then ((pcut ((y1.2.conds).map Cond.c).length (some (D.int .i64 (1))) (none)).bind fun p => (fun l28 u29 => (some ((y3.1, (⟨y1.2.name, y1.2.prio, ((y1.2.conds).take u29).drop l28, y1.2.acts⟩ : Rule))))) p.1 p.2) else (bif (y3.2 : Int) == (5) then ((pcut ((y1.2.acts).map Action.c).length (some (D.int .i64 (1))) (none)).bind fun p => (fun l32 u33 => (some ((y3.1, (⟨y1.2.name, y1.2.prio, y1.2.conds, ((y1.2.acts).take u33).drop l32⟩ : Rule))))) p.1 p.2) else (bif (y3.2 : Int) == (6) then ((d_spec_l1Str (y3.1) (([[63, 102], [63, 97], [63, 103]] : List Bytes))).bind fun y36 => ((d_spec_l1Int (y36.1) (([1, 2] : List Int))).bind fun y38 => ((d_spec_l1Str (y38.1) (([[63, 102], [63, 120]] : List Bytes))).bind fun y40 => (some ((y40.1, (⟨y1.2.name, y1.2.prio, [(⟨1, (⟨[116], ([[63, 97], [63, 98], [63, 99]] : List Bytes)⟩ : Fact), [], []⟩ : Cond), (⟨1, (⟨[116], ([[63, 100], [63, 101], y36.2] : List Bytes)⟩ : Fact), [], []⟩ : Cond), (⟨y38.2, (⟨[117], [y40.2]⟩ : Fact), [], []⟩ : Cond)], [(⟨3, (⟨[], []⟩ : Fact)⟩ : Action)]⟩ : Rule))))))) else (some ((y3.1, y1.2))))))))))))
theorem d_spec_l5Any_good {a0_ : Cur} {r : Cur × Rule} (h : d_spec_l5Any a0_ = some r) : GoodP Tryz.prog 102 (Cur.c a0_) (Cur.c r.1) [] (D.agg [D.str (r.2.name), D.int .i64 (r.2.prio), D.sl ((r.2.conds).map Cond.c), D.sl ((r.2.acts).map Action.c)]) := by
  refine gdP Tryz.func102 [[none, none, none], [none, none, none, none]] 79 [D.sl ((a0_.b).map yx), D.int .i64 (a0_.i), D.int .i64 (a0_.h)] [] [] fun hr v0_ Γ hΓ => ?_
  rw [d_spec_l5Any] at h
  obtain ⟨y1, h2, h⟩ := den_bind h
  obtain ⟨y3, h4, h⟩ := den_bind h
  have o1_ := ((pre0.hp [[none, none, none]] (d_spec_l5Draw_good h2)).hp [[none, none, none], [none]] (d_spec_l1Below_good h4))
  obtain ⟨h5, h⟩ | ⟨h5, h⟩ := den_if h
  · obtain ⟨y6, h7, h⟩ := den_bind h
    cases h; exact (((o1_.b h5).hp [[none, none, none]] (d_spec_l1Word_good h7)).a [.sk 2, .sk 3]).ret hΓ
  · obtain ⟨h8, h⟩ | ⟨h8, h⟩ := den_if h
    · obtain ⟨y9, h10, h⟩ := den_bind h
      cases h; exact ((((o1_.b h5).b h8).hp [[none, none, none], [some (3, 1)]] (d_spec_l1Int_good h10)).a [.sk 2, .sk 3]).ret hΓ
    · have o2_ := ((o1_.b h5).b h8)
      obtain ⟨h11, h⟩ | ⟨h11, h⟩ := den_if h
      · obtain ⟨y14, h15, h⟩ := den_bind h
        obtain ⟨h16, h⟩ := den_ok h
        cases h; exact (((((o2_.b h11).a [.n2 [0, 1, 2, 3, 4, 5, 6, 7] [0, 1, 2, 3, 4, 5, 6, 7] 3 5 [0, 1] [0, 5]]).hp [[none, none, none]] (d_spec_l4Any_good h15)).w (room_ok h16)).a [.sk 7, .sk 3]).rts hΓ (D.tup [D.agg [D.str (y1.2.name), D.int .i64 (y1.2.prio), D.sl (((y1.2.conds).map Cond.c) ++ ([[D.int .i64 (y14.2.kind), D.str (y14.2.pat.rel), D.sl ((y14.2.pat.args).map tx), D.str (y14.2.left), D.str (y14.2.right)]])), D.sl ((y1.2.acts).map Action.c)], D.agg [D.sl ((y14.1.b).map yx), D.int .i64 (y14.1.i), D.int .i64 (y14.1.h)], D.val v0_]) (by first | rfl | (simp only [mA] <;> rfl))
      · obtain ⟨h17, h⟩ | ⟨h17, h⟩ := den_if h
        · obtain ⟨y22, h23, h⟩ := den_bind h
          obtain ⟨y24, h25, h⟩ := den_bind h
          obtain ⟨h26, h⟩ := den_ok h
          cases h; exact (((((((o2_.b h11).b h17).a [.n2 [0, 1, 2, 3, 5, 4, 6, 7, 8, 9, 10, 11] [0, 1, 2, 3, 5, 4, 6, 7, 8, 9, 10, 11] 5 9 [0, 1, 4] [0, 5, 6]]).hp [[none, none, none], [some (3, 1)]] (d_spec_l1Int_good h23)).hp [[none, none, none]] (d_spec_l3Any_good h25)).w (room_ok h26)).a [.sk 2, .sk 8]).rts hΓ (D.tup [D.agg [D.str (y1.2.name), D.int .i64 (y1.2.prio), D.sl ((y1.2.conds).map Cond.c), D.sl (((y1.2.acts).map Action.c) ++ ([[D.int .i64 (y22.2), D.str (y24.2.rel), D.sl ((y24.2.args).map tx)]]))], D.agg [D.sl ((y24.1.b).map yx), D.int .i64 (y24.1.i), D.int .i64 (y24.1.h)], D.val v0_]) (by first | rfl | (simp only [mA] <;> rfl))
        · have o3_ := ((o2_.b h11).b h17)
          obtain ⟨h27, h⟩ | ⟨h27, h⟩ := den_if h
          · obtain ⟨⟨l28, u29⟩, h30, h⟩ := den_bind h
            cases h; exact (((o3_.b h27).w (show pcut ((y1.2.conds).map Cond.c).length (some (D.int .i64 (1))) (none) = some (l28, u29) ∧ (((y1.2.conds).map Cond.c).all fun r => r.length == 5) = true from ⟨h30, by simp [List.all_eq_true]⟩)).a [.fz, .cut l28 u29, .sk 3]).rts hΓ (D.tup [D.agg [D.str (y1.2.name), D.int .i64 (y1.2.prio), D.sl ((((y1.2.conds).map Cond.c).take u29).drop l28), D.sl ((y1.2.acts).map Action.c)], D.agg [D.sl ((y3.1.b).map yx), D.int .i64 (y3.1.i), D.int .i64 (y3.1.h)], D.val v0_]) (by first | rfl | (simp only [mA] <;> rfl) | (simp only [mA, List.map_drop] <;> rfl))
          · obtain ⟨h31, h⟩ | ⟨h31, h⟩ := den_if h
            · obtain ⟨⟨l32, u33⟩, h34, h⟩ := den_bind h
              cases h; exact ((((o3_.b h27).b h31).w (show pcut ((y1.2.acts).map Action.c).length (some (D.int .i64 (1))) (none) = some (l32, u33) ∧ (((y1.2.acts).map Action.c).all fun r => r.length == 3) = true from ⟨h34, by simp [List.all_eq_true]⟩)).a [.fz, .cut l32 u33, .sk 2]).rts hΓ (D.tup [D.agg [D.str (y1.2.name), D.int .i64 (y1.2.prio), D.sl ((y1.2.conds).map Cond.c), D.sl ((((y1.2.acts).map Action.c).take u33).drop l32)], D.agg [D.sl ((y3.1.b).map yx), D.int .i64 (y3.1.i), D.int .i64 (y3.1.h)], D.val v0_]) (by first | rfl | (simp only [mA] <;> rfl) | (simp only [mA, List.map_drop] <;> rfl))
            · have o4_ := ((o3_.b h27).b h31)
              obtain ⟨h35, h⟩ | ⟨h35, h⟩ := den_if h
              · obtain ⟨y36, h37, h⟩ := den_bind h
                obtain ⟨y38, h39, h⟩ := den_bind h
                obtain ⟨y40, h41, h⟩ := den_bind h
                cases h; exact (((((o4_.b h35).hp [[none, none, none], [some (9, 1)]] (d_spec_l1Str_good h37)).hp [[none, none, none], [some (3, 1)]] (d_spec_l1Int_good h39)).hp [[none, none, none], [some (9, 1)]] (d_spec_l1Str_good h41)).a [.sk 11, .sk 12]).ret hΓ
              · cases h; exact ((o4_.b h35).a [.sk 2, .sk 3]).ret hΓ
def d_spec_l2Draw_L1 (y1 : Cur × (Bytes × Int)) (k1 : List Int → Int → Int → List Bytes → Option (Cur × Fact)) : Nat → Int → List Int → Int → Int → List Bytes → Option (Cur × Fact)
  | 0, _, _, _, _, _ => none
  | n1 + 1, v1_6, u1_0_0, u1_0_1, u1_0_2, w1_3 => (bif decide ((v1_6 : Int) < (y1.2.2)) then ((d_spec_l1Atom ((⟨u1_0_0, u1_0_1, u1_0_2⟩ : Cur))).bind fun y30 => (bif room (((w1_3).map tx).length + ([[D.str (y30.2)]]).length) 16 then (d_spec_l2Draw_L1 y1 k1 n1 (IntKind.i64.wrap ((v1_6) + (1))) (y30.1.b) (y30.1.i) (y30.1.h) ((w1_3) ++ ([y30.2]))) else none)) else (k1 (u1_0_0) (u1_0_1) (u1_0_2) (w1_3)))
def d_spec_l2Draw (a0_ : Cur) : Option (Cur × Fact) := ((d_spec_l2Rel (a0_)).bind fun y1 => (d_spec_l2Draw_L1 y1 (fun (r1_0_0 : List Int) (r1_0_1 : Int) (r1_0_2 : Int) (q1_3 : List Bytes) => (some (((⟨r1_0_0, r1_0_1, r1_0_2⟩ : Cur), (⟨y1.2.1, q1_3⟩ : Fact))))) fuel (0) (y1.1.b) (y1.1.i) (y1.1.h) (([] : List Bytes))))
def d_spec_l2Draw_S1 (v0_ : Value) (y1 : Cur × (Bytes × Int)) (v1_6 : Int) (u1_0_1 : Int) (u1_0_2 : Int) (W1 : List (List D)) (W4 : List (List D)) : St := ⟨[(0, D.ptr 0 0), (2, D.ptr 1 0), (4, D.int .i64 (y1.2.2)), (5, D.ptr 2 0), (6, D.int .i64 (v1_6))], [Ob.pbx [D.sl (W1), D.int .i64 (u1_0_1), D.int .i64 (u1_0_2)] v0_, Ob.box [D.str ([]), D.nil], Ob.box [D.str (y1.2.1), D.acc 3], Ob.row .uq 9 1 (W4)]⟩
theorem d_spec_l2Draw_L1w (hΓ : Γ.nt = 27) {v0_ : Value} {y1 : Cur × (Bytes × Int)} {r : Cur × Fact} {k1 : List Int → Int → Int → List Bytes → Option (Cur × Fact)} (hE1 : ∀ (r1_0_0 : List Int) (r1_0_1 : Int) (r1_0_2 : Int) (q1_3 : List Bytes), k1 r1_0_0 r1_0_1 r1_0_2 q1_3 = some r → Ax Γ N Tryz.f156 (.p [[none, none, none], [none, some (9, 1)]] v0_ (Cur.c r.1) (D.agg [D.str (r.2.rel), D.fr 9 1 ((r.2.args).map tx)])) [1, 1, 1, 1] ⟨[(2, D.ptr 1 0), (5, D.ptr 2 0)], [Ob.pbx [D.sl ((r1_0_0).map yx), D.int .i64 (r1_0_1), D.int .i64 (r1_0_2)] v0_, Ob.box [D.str ([]), D.nil], Ob.box [D.str (y1.2.1), D.acc 3], Ob.row .uq 9 1 ((q1_3).map tx)]⟩) : ∀ (n1 : Nat) (v1_6 : Int) (u1_0_0 : List Int) (u1_0_1 : Int) (u1_0_2 : Int) (w1_3 : List Bytes), d_spec_l2Draw_L1 y1 k1 n1 v1_6 u1_0_0 u1_0_1 u1_0_2 w1_3 = some r → Ar Γ N Tryz.f156 (.p [[none, none, none], [none, some (9, 1)]] v0_ (Cur.c r.1) (D.agg [D.str (r.2.rel), D.fr 9 1 ((r.2.args).map tx)])) [1, 1, 1, 0, 1, 0] n1 (d_spec_l2Draw_S1 v0_ y1 v1_6 u1_0_1 u1_0_2 ((u1_0_0).map yx) ((w1_3).map tx)) := by
  intro n
  induction n with
  | zero => intro v1_6 u1_0_0 u1_0_1 u1_0_2 w1_3 h; simp [d_spec_l2Draw_L1] at h
  | succ n1 ih1 =>
    intro v1_6 u1_0_0 u1_0_1 u1_0_2 w1_3 h
    rw [d_spec_l2Draw_L1] at h
    refine AWr_succ fun N1 hN1 hS1 => ?_
    obtain ⟨h27, h⟩ | ⟨h27, h⟩ := den_if h
    · obtain ⟨y30, h31, h⟩ := den_bind h
      obtain ⟨h32, h⟩ := den_ok h
      exact (((((pre0.b h27).a [.n2 [0, 1, 2, 3, 4, 5, 6, 7] [0, 1, 2, 3, 4, 5, 6, 7] 3 5 [0, 1] [0], .gp [[none, none, none]] (Cur.c y30.1) (D.str (y30.2))]).w (show GoodP Tryz.prog 181 (Cur.c ((⟨u1_0_0, u1_0_1, u1_0_2⟩ : Cur))) (Cur.c y30.1) [] (D.str (y30.2)) from by simpa only [List.map_append, List.map_cons, List.map_nil, List.map_drop, List.map_take] using d_spec_l1Atom_good h31)).w (room_ok h32)).a [.cn [0, 2, 4, 5, 6] [0, 1, 2, 5]]).cs hΓ hS1 (d_spec_l2Draw_S1 v0_ y1 (IntKind.i64.wrap ((v1_6) + (1))) (y30.1.i) (y30.1.h) ((y30.1.b).map yx) (((w1_3).map tx) ++ ([[D.str (y30.2)]]))) (by first | (simp only [mA] <;> rfl) | (simp only [mA, Fact.c, Pair.c, Cond.c, Action.c, Rule.c, Token.c, Match.c, Alpha.c, Node.c, Network.c, Stamp.c] <;> rfl)) (ih1 (IntKind.i64.wrap ((v1_6) + (1))) (y30.1.b) (y30.1.i) (y30.1.h) ((w1_3) ++ ([y30.2])) h)
    · exact ((pre0.b h27).a [.hl 0 [2, 5] [0, 1, 2, 3]]).ex hΓ hN1 (hE1 (u1_0_0) (u1_0_1) (u1_0_2) (w1_3) h)
theorem d_spec_l2Draw_good {a0_ : Cur} {r : Cur × Fact} (h : d_spec_l2Draw a0_ = some r) : GoodP Tryz.prog 156 (Cur.c a0_) (Cur.c r.1) [] (D.agg [D.str (r.2.rel), D.fr 9 1 ((r.2.args).map tx)]) := by
  refine gdP Tryz.func156 [[none, none, none], [none, some (9, 1)]] 27 [D.sl ((a0_.b).map yx), D.int .i64 (a0_.i), D.int .i64 (a0_.h)] [] [] fun hr v0_ Γ hΓ => ?_
  rw [d_spec_l2Draw] at h
  obtain ⟨y1, h2, h⟩ := den_bind h
  refine ((pre0.hp [[none, none, none]] (d_spec_l2Rel_good h2)).a [.pb 2 1 9 1, .cn [0, 2, 4, 5, 6] [0, 1, 2, 3]]).lp hΓ (d_spec_l2Draw_L1w hΓ (fun r1_0_0 r1_0_1 r1_0_2 q1_3 h => ?_) fuel (0) (y1.1.b) (y1.1.i) (y1.1.h) (([] : List Bytes)) h)
  cases h; exact pre0.ret hΓ
def d_spec_l1Cmp (a0_ : Bytes) (a1_ : Bytes) : Option Int := (bif Op.bytesLess (a0_) (a1_) then (some (-1)) else (bif !(Op.bytesLess (a0_) (a1_) || (a0_ : Bytes) == (a1_)) then (some (1)) else (some (0))))
theorem d_spec_l1Cmp_good {a0_ : Bytes} {a1_ : Bytes} {r : Int} (h : d_spec_l1Cmp a0_ a1_ = some r) : Good Tryz.prog 120 [D.str (a0_), D.str (a1_)] (D.int .i64 (r)) := by
  refine gd Tryz.func120 [[none]] 13 fun hr Γ hΓ => ?_
  rw [d_spec_l1Cmp] at h
  obtain ⟨h1, h⟩ | ⟨h1, h⟩ := den_if h
  · cases h; exact (pre0.b h1).ret hΓ
  · obtain ⟨h2, h⟩ | ⟨h2, h⟩ := den_if h
    · have h := den_some h; subst h; exact ((pre0.b h1).b h2).ret hΓ
    · have h := den_some h; subst h; exact ((pre0.b h1).b h2).ret hΓ
def d_spec_CompareAtoms (a0_ : Bytes) (a1_ : Bytes) : Option Int := ((d_spec_ParseInt (a0_)).bind fun y1 => ((d_spec_ParseInt (a1_)).bind fun y3 => (bif y1.2 then (bif y3.2 then (bif decide ((y1.1 : Int) < (y3.1)) then (some (-1)) else (bif !(y3.2) then (some (-1)) else (bif decide ((y1.1 : Int) > (y3.1)) then (some (1)) else (bif !(y1.2) then (some (1)) else (some (0)))))) else (bif !(y3.2) then (some (-1)) else (some (0)))) else (bif y3.2 then (bif !(y1.2) then (some (1)) else ((d_spec_l1Cmp (a0_) (a1_)).bind fun y14 => (some (y14)))) else ((d_spec_l1Cmp (a0_) (a1_)).bind fun y16 => (some (y16)))))))
theorem d_spec_CompareAtoms_good {a0_ : Bytes} {a1_ : Bytes} {r : Int} (h : d_spec_CompareAtoms a0_ a1_ = some r) : Good Tryz.prog 121 [D.str (a0_), D.str (a1_)] (D.int .i64 (r)) := by
  refine gd Tryz.func121 [[none]] 54 fun hr Γ hΓ => ?_
  rw [d_spec_CompareAtoms] at h
  obtain ⟨y1, h2, h⟩ := den_bind h
  obtain ⟨y3, h4, h⟩ := den_bind h
  have o1_ := ((pre0.g (d_spec_ParseInt_good h2)).g (d_spec_ParseInt_good h4))
  obtain ⟨h5, h⟩ | ⟨h5, h⟩ := den_if h
  · have o2_ := (o1_.r 2 h5)
    obtain ⟨h6, h⟩ | ⟨h6, h⟩ := den_if h
    · have o3_ := (o2_.r 4 h6)
      obtain ⟨h7, h⟩ | ⟨h7, h⟩ := den_if h
      · cases h; exact (o3_.r 2 h7).ret hΓ
      · have o4_ := ((o3_.b h7).r 3 h5)
        obtain ⟨h8, h⟩ | ⟨h8, h⟩ := den_if h
        · cases h; exact (o4_.b h8).ret hΓ
        · have o5_ := (((o4_.b h8).r 2 h5).r 4 h6)
          obtain ⟨h9, h⟩ | ⟨h9, h⟩ := den_if h
          · have h := den_some h; subst h; exact (o5_.r 2 h9).ret hΓ
          · have o6_ := ((o5_.b h9).r 3 h6)
            obtain ⟨h10, h⟩ | ⟨h10, h⟩ := den_if h
            · have h := den_some h; subst h; exact (o6_.b h10).ret hΓ
            · have h := den_some h; subst h; exact ((o6_.b h10).b h5).ret hΓ
    · have o7_ := (((o2_.r 4 h6).F 1).r 3 h5)
      obtain ⟨h11, h⟩ | ⟨h11, h⟩ := den_if h
      · cases h; exact (o7_.b h11).ret hΓ
      · have h := den_some h; subst h; exact (((((((o7_.b h11).r 2 h5).r 4 h6).F 1).r 3 h6).F 1).b h5).ret hΓ
  · have o8_ := ((((((o1_.r 2 h5).F 5).r 3 h5).F 1).r 2 h5).F 5)
    obtain ⟨h12, h⟩ | ⟨h12, h⟩ := den_if h
    · have o9_ := (o8_.r 3 h12)
      obtain ⟨h13, h⟩ | ⟨h13, h⟩ := den_if h
      · have h := den_some h; subst h; exact (o9_.b h13).ret hΓ
      · obtain ⟨y14, h15, h⟩ := den_bind h
        have h := den_some h; subst h; exact (((o9_.b h13).b h5).g (d_spec_l1Cmp_good h15)).ret hΓ
    · obtain ⟨y16, h17, h⟩ := den_bind h
      have h := den_some h; subst h; exact ((((o8_.r 3 h12).F 1).b h5).g (d_spec_l1Cmp_good h17)).ret hΓ
def d_spec_CompareFacts_L1 (a0_ : Fact) (a1_ : Fact) (k1 : Option Int) : List Bytes → Nat → Option Int
  | [], i1 => (k1 )
  | x1_ :: xs1, i1 => (bif decide (((i1 : Int) : Int) < ((((a1_.args).map tx).length : Int))) then ((atI (a1_.args) ((i1 : Int))).bind fun x37 => ((d_spec_CompareAtoms (x1_) (x37)).bind fun y39 => (bif (y39 : Int) != (0) then (some (y39)) else (d_spec_CompareFacts_L1 a0_ a1_ k1 xs1 (i1 + 1) )))) else (k1 ))
def d_spec_CompareFacts (a0_ : Fact) (a1_ : Fact) : Option Int := (bif !((a0_.rel : Bytes) == (a1_.rel)) then ((d_spec_l1Cmp (a0_.rel) (a1_.rel)).bind fun y2 => (some (y2))) else (d_spec_CompareFacts_L1 a0_ a1_ (bif decide (((((a0_.args).map tx).length : Int) : Int) < ((((a1_.args).map tx).length : Int))) then (some (-1)) else (bif decide (((((a0_.args).map tx).length : Int) : Int) > ((((a1_.args).map tx).length : Int))) then (some (1)) else (some (0)))) (a0_.args) 0 ))
def d_spec_CompareFacts_S1 (a0_ : Fact) (a1_ : Fact) (ix_ : Int) : St := ⟨[(2, D.ptr 0 0), (3, D.ptr 1 0), (5, D.int .i64 (ix_))], [Ob.box (Fact.c a0_), Ob.box (Fact.c a1_)]⟩
theorem d_spec_CompareFacts_L1w (hΓ : Γ.nt = 61) {a0_ : Fact} {a1_ : Fact} {r : Int} {k1 : Option Int} (hE1 : k1 = some r → Ax Γ N Tryz.f68 (.q [[none]] (D.int .i64 (r))) [1, 1, 1] ⟨[(2, D.ptr 0 0), (3, D.ptr 1 0)], [Ob.box (Fact.c a0_), Ob.box (Fact.c a1_)]⟩) (hm1 : (a0_.args).length ≤ maxLen) : ∀ (rest : List Bytes) (i1 : Nat) , (a0_.args).drop i1 = rest → d_spec_CompareFacts_L1 a0_ a1_ k1 rest i1  = some r → Ar Γ N Tryz.f68 (.q [[none]] (D.int .i64 (r))) [1, 1, 0, 1, 0] (rest.length + 1) (d_spec_CompareFacts_S1 a0_ a1_ ((i1 : Int))) := by
  intro rest
  induction rest with
  | nil =>
    intro i1  hd1 h
    rw [d_spec_CompareFacts_L1] at h
    refine AWr_succ fun N1 hN1 hS1 => ?_
    exact ((((((((pre0.ge tx hd1).ge tx hd1).ge tx hd1).ge tx hd1).ge tx hd1).ge tx hd1).F 1).a [.hl 0 [2, 3] [0, 1]]).ex hΓ hN1 (hE1 h)
  | cons x1_ xs1 ih1 =>
    intro i1  hd1 h
    rw [d_spec_CompareFacts_L1] at h
    refine AWr_succ fun N1 hN1 hS1 => ?_
    have o3_ := ((((((pre0.lt tx hd1).lt tx hd1).lt tx hd1).lt tx hd1).lt tx hd1).lt tx hd1)
    obtain ⟨h36, h⟩ | ⟨h36, h⟩ := den_if h
    · obtain ⟨x37, h38, h⟩ := den_bind h
      obtain ⟨y39, h40, h⟩ := den_bind h
      have o4_ := (((((o3_.b h36).a [.n 10]).l (map_row tx 1 (dc hd1) rfl)).l (at_row tx 1 h38 rfl)).g (d_spec_CompareAtoms_good h40))
      obtain ⟨h41, h⟩ | ⟨h41, h⟩ := den_if h
      · have h := den_some h; subst h; exact (o4_.b h41).ret hΓ
      · exact ((o4_.b h41).a [.cn [2, 3, 5] [0, 1]]).ct hΓ hS1 (iS hd1 hm1) (ih1 (i1 + 1)  (dn hd1) h)
    · exact ((o3_.b h36).a [.hl 0 [2, 3] [0, 1]]).ex hΓ hN1 (hE1 h)
theorem d_spec_CompareFacts_good {a0_ : Fact} {a1_ : Fact} {r : Int} (h : d_spec_CompareFacts a0_ a1_ = some r) : Good Tryz.prog 68 [D.agg (Fact.c a0_), D.agg (Fact.c a1_)] (D.int .i64 (r)) := by
  refine gd Tryz.func68 [[none]] 61 fun hr Γ hΓ => ?_
  rw [d_spec_CompareFacts] at h
  obtain ⟨h1, h⟩ | ⟨h1, h⟩ := den_if h
  · obtain ⟨y2, h3, h⟩ := den_bind h
    have h := den_some h; subst h; exact ((pre0.b h1).g (d_spec_l1Cmp_good h3)).ret hΓ
  · refine ((pre0.b h1).a [.cn [2, 3, 5] [0, 1]]).lp hΓ (d_spec_CompareFacts_L1w hΓ (fun h => ?_) (by have := (Rdb.sl (Rdb.agg (hr _ (List.mem_of_getElem? (i := 0) rfl)) (.sl ((a0_.args).map tx)) (by simp))).1; simpa using this) (a0_.args) 0  rfl h)
    obtain ⟨h42, h⟩ | ⟨h42, h⟩ := den_if h
    · cases h; exact (pre0.b h42).ret hΓ
    · obtain ⟨h43, h⟩ | ⟨h43, h⟩ := den_if h
      · have h := den_some h; subst h; exact ((pre0.b h42).b h43).ret hΓ
      · have h := den_some h; subst h; exact ((pre0.b h42).b h43).ret hΓ
def d_spec_l1Texts (a0_ : List Bytes) : Option (List Bytes) := (bif room ((([] : List (List D))).length + ((a0_).map tx).length) 16 then (some ((([] : List Bytes)) ++ (a0_))) else none)
theorem d_spec_l1Texts_good {a0_ : List Bytes} {r : List Bytes} (h : d_spec_l1Texts a0_ = some r) : Good Tryz.prog 164 [D.sl ((a0_).map tx)] (D.fr 9 1 ((r).map tx)) := by
  refine gd Tryz.func164 [[some (9, 1)]] 6 fun hr Γ hΓ => ?_
  rw [d_spec_l1Texts] at h
  obtain ⟨h1, h⟩ := den_ok h
  cases h; exact (((pre0.w (room_ok h1)).w (show (∀ r ∈ ((a0_).map tx), r.length = 1) ∧ (true = true → D.flatRows ((a0_).map tx) = true) from ⟨by first | simp | (intro r hr; obtain ⟨x, _, rfl⟩ := List.mem_map.1 (List.mem_of_mem_take (List.mem_of_mem_drop hr)); rfl), by simp [D.flatRows, D.flat]⟩)).a [.pro 2, .fl true]).rts hΓ (D.fr 9 1 ((([] : List (List D))) ++ ((a0_).map tx))) (by first | rfl | (simp only [mA] <;> rfl))
def d_spec_l2Copy (a0_ : Fact) : Option Fact := ((d_spec_l1Texts (a0_.args)).bind fun y1 => (some ((⟨a0_.rel, y1⟩ : Fact))))
theorem d_spec_l2Copy_good {a0_ : Fact} {r : Fact} (h : d_spec_l2Copy a0_ = some r) : Good Tryz.prog 124 [D.agg (Fact.c a0_)] (D.agg [D.str (r.rel), D.fr 9 1 ((r.args).map tx)]) := by
  refine gd Tryz.func124 [[none, some (9, 1)]] 9 fun hr Γ hΓ => ?_
  rw [d_spec_l2Copy] at h
  obtain ⟨y1, h2, h⟩ := den_bind h
  cases h; exact ((pre0.a [.n 5]).g (d_spec_l1Texts_good h2)).ret hΓ
def d_spec_l2Put_L1 (a0_ : List Fact) (a1_ : Fact) (k1 : Bool → List Fact → Option (List Fact)) : List Fact → Nat → Bool → List Fact → Option (List Fact)
  | [], i1, v1_6, w1_1 => (k1 (v1_6) (w1_1))
  | x1_ :: xs1, i1, v1_6, w1_1 => (bif !(v1_6) then ((d_spec_CompareFacts (x1_) (a1_)).bind fun y129 => (bif decide ((y129 : Int) ≥ (0)) then ((d_spec_CompareFacts (x1_) (a1_)).bind fun y132 => (bif decide ((y132 : Int) > (0)) then ((d_spec_l2Copy (a1_)).bind fun y135 => (bif room (((w1_1).map Fact.c).length + ([[D.str (y135.rel), D.sl ((y135.args).map tx)]]).length) 40 then ((d_spec_l2Copy (x1_)).bind fun y138 => (bif room ((((w1_1).map Fact.c) ++ ([[D.str (y135.rel), D.sl ((y135.args).map tx)]])).length + ([[D.str (y138.rel), D.sl ((y138.args).map tx)]]).length) 40 then (d_spec_l2Put_L1 a0_ a1_ k1 xs1 (i1 + 1) (true) (((w1_1) ++ ([y135])) ++ ([y138]))) else none)) else none)) else ((d_spec_l2Copy (x1_)).bind fun y141 => (bif room (((w1_1).map Fact.c).length + ([[D.str (y141.rel), D.sl ((y141.args).map tx)]]).length) 40 then (d_spec_l2Put_L1 a0_ a1_ k1 xs1 (i1 + 1) (true) ((w1_1) ++ ([y141]))) else none)))) else ((d_spec_l2Copy (x1_)).bind fun y144 => (bif room (((w1_1).map Fact.c).length + ([[D.str (y144.rel), D.sl ((y144.args).map tx)]]).length) 40 then (d_spec_l2Put_L1 a0_ a1_ k1 xs1 (i1 + 1) (v1_6) ((w1_1) ++ ([y144]))) else none)))) else ((d_spec_l2Copy (x1_)).bind fun y147 => (bif room (((w1_1).map Fact.c).length + ([[D.str (y147.rel), D.sl ((y147.args).map tx)]]).length) 40 then (d_spec_l2Put_L1 a0_ a1_ k1 xs1 (i1 + 1) (v1_6) ((w1_1) ++ ([y147]))) else none)))
def d_spec_l2Put (a0_ : List Fact) (a1_ : Fact) : Option (List Fact) := (d_spec_l2Put_L1 a0_ a1_ (fun (z1_6 : Bool) (q1_1 : List Fact) => (bif !(z1_6) then ((d_spec_l2Copy (a1_)).bind fun y151 => (bif room (((q1_1).map Fact.c).length + ([[D.str (y151.rel), D.sl ((y151.args).map tx)]]).length) 40 then (some ((q1_1) ++ ([y151]))) else none)) else (some (q1_1)))) (a0_) 0 (false) (([] : List Fact)))
def d_spec_l2Put_S1 (a0_ : List Fact) (a1_ : Fact) (v1_6 : Bool) (W1 : List (List D)) (ix_ : Int) : St := ⟨[(0, D.sl ((a0_).map Fact.c)), (3, D.ptr 0 0), (5, D.acc 1), (6, D.bool (v1_6)), (7, D.int .i64 (ix_))], [Ob.box (Fact.c a1_), Ob.row .uq 42 2 (W1)]⟩
theorem d_spec_l2Put_L1w (hΓ : Γ.nt = 54) {a0_ : List Fact} {a1_ : Fact} {r : List Fact} {k1 : Bool → List Fact → Option (List Fact)} (hE1 : ∀ (z1_6 : Bool) (q1_1 : List Fact), k1 z1_6 q1_1 = some r → Ax Γ N Tryz.f154 (.q [[some (42, 2)]] (D.fr 42 2 ((r).map Fact.c))) [1, 1, 1, 1] ⟨[(3, D.ptr 0 0), (5, D.acc 1), (6, D.bool (z1_6))], [Ob.box (Fact.c a1_), Ob.row .uq 42 2 ((q1_1).map Fact.c)]⟩) (hm1 : (a0_).length ≤ maxLen) : ∀ (rest : List Fact) (i1 : Nat) (v1_6 : Bool) (w1_1 : List Fact), (a0_).drop i1 = rest → d_spec_l2Put_L1 a0_ a1_ k1 rest i1 v1_6 w1_1 = some r → Ar Γ N Tryz.f154 (.q [[some (42, 2)]] (D.fr 42 2 ((r).map Fact.c))) [1, 1, 1, 0, 1, 0] (rest.length + 1) (d_spec_l2Put_S1 a0_ a1_ v1_6 ((w1_1).map Fact.c) ((i1 : Int))) := by
  intro rest
  induction rest with
  | nil =>
    intro i1 v1_6 w1_1 hd1 h
    rw [d_spec_l2Put_L1] at h
    refine AWr_succ fun N1 hN1 hS1 => ?_
    exact ((pre0.ge Fact.c hd1).a [.hl 0 [3, 5, 6] [0, 1]]).ex hΓ hN1 (hE1 (v1_6) (w1_1) h)
  | cons x1_ xs1 ih1 =>
    intro i1 v1_6 w1_1 hd1 h
    rw [d_spec_l2Put_L1] at h
    refine AWr_succ fun N1 hN1 hS1 => ?_
    have o4_ := ((pre0.lt Fact.c hd1).a [.n 8])
    obtain ⟨h128, h⟩ | ⟨h128, h⟩ := den_if h
    · obtain ⟨y129, h130, h⟩ := den_bind h
      have o5_ := (((((o4_.r 3 h128).l (map_row Fact.c 2 (dc hd1) rfl)).r 3 h128).g (d_spec_CompareFacts_good h130)).r 2 h128)
      obtain ⟨h131, h⟩ | ⟨h131, h⟩ := den_if h
      · obtain ⟨y132, h133, h⟩ := den_bind h
        have o6_ := ((((o5_.b h131).a [.n 5]).l (map_row Fact.c 2 (dc hd1) rfl)).g (d_spec_CompareFacts_good h133))
        obtain ⟨h134, h⟩ | ⟨h134, h⟩ := den_if h
        · obtain ⟨y135, h136, h⟩ := den_bind h
          obtain ⟨h137, h⟩ := den_ok h
          obtain ⟨y138, h139, h⟩ := den_bind h
          obtain ⟨h140, h⟩ := den_ok h
          exact (((((((o6_.b h134).g (d_spec_l2Copy_good h136)).w (room_ok h137)).l (map_row Fact.c 2 (dc hd1) rfl)).g (d_spec_l2Copy_good h139)).w (room_ok h140)).a [.cn [0, 3, 5, 6, 7] [0, 7]]).cs hΓ hS1 (d_spec_l2Put_S1 a0_ a1_ true ((((w1_1).map Fact.c) ++ ([[D.str (y135.rel), D.sl ((y135.args).map tx)]])) ++ ([[D.str (y138.rel), D.sl ((y138.args).map tx)]])) (IntKind.i64.wrap (((i1 : Int)) + (1)))) (by first | (simp only [iS hd1 hm1, mA] <;> rfl) | (simp only [iS hd1 hm1, mA, Fact.c, Pair.c, Cond.c, Action.c, Rule.c, Token.c, Match.c, Alpha.c, Node.c, Network.c, Stamp.c] <;> rfl)) (ih1 (i1 + 1) (true) (((w1_1) ++ ([y135])) ++ ([y138])) (dn hd1) h)
        · obtain ⟨y141, h142, h⟩ := den_bind h
          obtain ⟨h143, h⟩ := den_ok h
          exact (((((o6_.b h134).l (map_row Fact.c 2 (dc hd1) rfl)).g (d_spec_l2Copy_good h142)).w (room_ok h143)).a [.cn [0, 3, 5, 6, 7] [0, 4]]).cs hΓ hS1 (d_spec_l2Put_S1 a0_ a1_ true (((w1_1).map Fact.c) ++ ([[D.str (y141.rel), D.sl ((y141.args).map tx)]])) (IntKind.i64.wrap (((i1 : Int)) + (1)))) (by first | (simp only [iS hd1 hm1, mA] <;> rfl) | (simp only [iS hd1 hm1, mA, Fact.c, Pair.c, Cond.c, Action.c, Rule.c, Token.c, Match.c, Alpha.c, Node.c, Network.c, Stamp.c] <;> rfl)) (ih1 (i1 + 1) (true) ((w1_1) ++ ([y141])) (dn hd1) h)
      · obtain ⟨y144, h145, h⟩ := den_bind h
        obtain ⟨h146, h⟩ := den_ok h
        exact (((((o5_.b h131).l (map_row Fact.c 2 (dc hd1) rfl)).g (d_spec_l2Copy_good h145)).w (room_ok h146)).a [.cn [0, 3, 5, 6, 7] [0, 4]]).cs hΓ hS1 (d_spec_l2Put_S1 a0_ a1_ v1_6 (((w1_1).map Fact.c) ++ ([[D.str (y144.rel), D.sl ((y144.args).map tx)]])) (IntKind.i64.wrap (((i1 : Int)) + (1)))) (by first | (simp only [iS hd1 hm1, mA] <;> rfl) | (simp only [iS hd1 hm1, mA, Fact.c, Pair.c, Cond.c, Action.c, Rule.c, Token.c, Match.c, Alpha.c, Node.c, Network.c, Stamp.c] <;> rfl)) (ih1 (i1 + 1) (v1_6) ((w1_1) ++ ([y144])) (dn hd1) h)
    · obtain ⟨y147, h148, h⟩ := den_bind h
      obtain ⟨h149, h⟩ := den_ok h
      exact ((((((o4_.r 8 h128).F 1).l (map_row Fact.c 2 (dc hd1) rfl)).g (d_spec_l2Copy_good h148)).w (room_ok h149)).a [.cn [0, 3, 5, 6, 7] [0, 4]]).cs hΓ hS1 (d_spec_l2Put_S1 a0_ a1_ v1_6 (((w1_1).map Fact.c) ++ ([[D.str (y147.rel), D.sl ((y147.args).map tx)]])) (IntKind.i64.wrap (((i1 : Int)) + (1)))) (by first | (simp only [iS hd1 hm1, mA] <;> rfl) | (simp only [iS hd1 hm1, mA, Fact.c, Pair.c, Cond.c, Action.c, Rule.c, Token.c, Match.c, Alpha.c, Node.c, Network.c, Stamp.c] <;> rfl)) (ih1 (i1 + 1) (v1_6) ((w1_1) ++ ([y147])) (dn hd1) h)
theorem d_spec_l2Put_good {a0_ : List Fact} {a1_ : Fact} {r : List Fact} (h : d_spec_l2Put a0_ a1_ = some r) : Good Tryz.prog 154 [D.sl ((a0_).map Fact.c), D.agg (Fact.c a1_)] (D.fr 42 2 ((r).map Fact.c)) := by
  refine gd Tryz.func154 [[some (42, 2)]] 54 fun hr Γ hΓ => ?_
  rw [d_spec_l2Put] at h
  refine (pre0.a [.cn [0, 3, 5, 6, 7] [0, 1]]).lp hΓ (d_spec_l2Put_L1w hΓ (fun z1_6 q1_1 h => ?_) (by have := (Rdb.sl (hr _ (List.mem_of_getElem? (i := 0) rfl))).1; simpa using this) (a0_) 0 (false) (([] : List Fact)) rfl h)
  obtain ⟨h150, h⟩ | ⟨h150, h⟩ := den_if h
  · obtain ⟨y151, h152, h⟩ := den_bind h
    obtain ⟨h153, h⟩ := den_ok h
    cases h; exact (((pre0.b h150).g (d_spec_l2Copy_good h152)).w (room_ok h153)).rts hΓ (D.fr 42 2 (((q1_1).map Fact.c) ++ ([[D.str (y151.rel), D.sl ((y151.args).map tx)]]))) (by first | rfl | (simp only [mA] <;> rfl))
  · have h := den_some h; subst h; exact (pre0.b h150).ret hΓ
def d_spec_l2Set_L1  (k1 : List Int → Int → Int → List Fact → Option (Cur × (List Fact))) : Nat → Int → List Int → Int → Int → List Fact → Option (Cur × (List Fact))
  | 0, _, _, _, _, _ => none
  | n1 + 1, v1_6, u1_0_0, u1_0_1, u1_0_2, w1_1 => (bif decide ((v1_6 : Int) > (0)) then ((d_spec_l2Draw ((⟨u1_0_0, u1_0_1, u1_0_2⟩ : Cur))).bind fun y19 => ((d_spec_l2Put (w1_1) (y19.2)).bind fun y21 => (d_spec_l2Set_L1  k1 n1 (IntKind.i64.wrap ((v1_6) - (1))) (y19.1.b) (y19.1.i) (y19.1.h) (y21)))) else (k1 (u1_0_0) (u1_0_1) (u1_0_2) (w1_1)))
def d_spec_l2Set (a0_ : Cur) (a1_ : Int) : Option (Cur × (List Fact)) := ((d_spec_l1Below (a0_) (IntKind.i64.wrap ((a1_) + (1)))).bind fun y1 => (d_spec_l2Set_L1  (fun (r1_0_0 : List Int) (r1_0_1 : Int) (r1_0_2 : Int) (q1_1 : List Fact) => (some (((⟨r1_0_0, r1_0_1, r1_0_2⟩ : Cur), q1_1)))) fuel (y1.2) (y1.1.b) (y1.1.i) (y1.1.h) (([] : List Fact))))
def d_spec_l2Set_S1 (v0_ : Value) (v1_6 : Int) (u1_0_1 : Int) (u1_0_2 : Int) (W1 : List (List D)) (W4 : List (List D)) : St := ⟨[(0, D.ptr 0 0), (5, D.acc 1), (6, D.int .i64 (v1_6))], [Ob.pbx [D.sl (W1), D.int .i64 (u1_0_1), D.int .i64 (u1_0_2)] v0_, Ob.row .uq 42 2 (W4)]⟩
theorem d_spec_l2Set_L1w (hΓ : Γ.nt = 21) {v0_ : Value}  {r : Cur × (List Fact)} {k1 : List Int → Int → Int → List Fact → Option (Cur × (List Fact))} (hE1 : ∀ (r1_0_0 : List Int) (r1_0_1 : Int) (r1_0_2 : Int) (q1_1 : List Fact), k1 r1_0_0 r1_0_1 r1_0_2 q1_1 = some r → Ax Γ N Tryz.f104 (.p [[none, none, none], [some (42, 2)]] v0_ (Cur.c r.1) (D.fr 42 2 ((r.2).map Fact.c))) [1, 1, 1] ⟨[(5, D.acc 1)], [Ob.pbx [D.sl ((r1_0_0).map yx), D.int .i64 (r1_0_1), D.int .i64 (r1_0_2)] v0_, Ob.row .uq 42 2 ((q1_1).map Fact.c)]⟩) : ∀ (n1 : Nat) (v1_6 : Int) (u1_0_0 : List Int) (u1_0_1 : Int) (u1_0_2 : Int) (w1_1 : List Fact), d_spec_l2Set_L1  k1 n1 v1_6 u1_0_0 u1_0_1 u1_0_2 w1_1 = some r → Ar Γ N Tryz.f104 (.p [[none, none, none], [some (42, 2)]] v0_ (Cur.c r.1) (D.fr 42 2 ((r.2).map Fact.c))) [1, 1, 0, 1, 0] n1 (d_spec_l2Set_S1 v0_ v1_6 u1_0_1 u1_0_2 ((u1_0_0).map yx) ((w1_1).map Fact.c)) := by
  intro n
  induction n with
  | zero => intro v1_6 u1_0_0 u1_0_1 u1_0_2 w1_1 h; simp [d_spec_l2Set_L1] at h
  | succ n1 ih1 =>
    intro v1_6 u1_0_0 u1_0_1 u1_0_2 w1_1 h
    rw [d_spec_l2Set_L1] at h
    refine AWr_succ fun N1 hN1 hS1 => ?_
    obtain ⟨h18, h⟩ | ⟨h18, h⟩ := den_if h
    · obtain ⟨y19, h20, h⟩ := den_bind h
      obtain ⟨y21, h22, h⟩ := den_bind h
      exact (((((pre0.b h18).a [.gp [[none, none, none]] (Cur.c y19.1) (D.agg [D.str (y19.2.rel), D.fr 9 1 ((y19.2.args).map tx)])]).w (show GoodP Tryz.prog 156 (Cur.c ((⟨u1_0_0, u1_0_1, u1_0_2⟩ : Cur))) (Cur.c y19.1) [] (D.agg [D.str (y19.2.rel), D.fr 9 1 ((y19.2.args).map tx)]) from by simpa only [List.map_append, List.map_cons, List.map_nil, List.map_drop, List.map_take] using d_spec_l2Draw_good h20)).g (d_spec_l2Put_good h22)).a [.cn [0, 5, 6] [0, 3]]).cf hΓ hS1 (ih1 (IntKind.i64.wrap ((v1_6) - (1))) (y19.1.b) (y19.1.i) (y19.1.h) (y21) h)
    · exact ((pre0.b h18).a [.hl 0 [5] [0, 1]]).ex hΓ hN1 (hE1 (u1_0_0) (u1_0_1) (u1_0_2) (w1_1) h)
theorem d_spec_l2Set_good {a0_ : Cur} {a1_ : Int} {r : Cur × (List Fact)} (h : d_spec_l2Set a0_ a1_ = some r) : GoodP Tryz.prog 104 (Cur.c a0_) (Cur.c r.1) [D.int .i64 (a1_)] (D.fr 42 2 ((r.2).map Fact.c)) := by
  refine gdP Tryz.func104 [[none, none, none], [some (42, 2)]] 21 [D.sl ((a0_.b).map yx), D.int .i64 (a0_.i), D.int .i64 (a0_.h)] [D.int .i64 (a1_)] [] fun hr v0_ Γ hΓ => ?_
  rw [d_spec_l2Set] at h
  obtain ⟨y1, h2, h⟩ := den_bind h
  refine ((pre0.hp [[none, none, none], [none]] (d_spec_l1Below_good h2)).a [.cn [0, 5, 6] [0, 1]]).lp hΓ (d_spec_l2Set_L1w hΓ (fun r1_0_0 r1_0_1 r1_0_2 q1_1 h => ?_) fuel (y1.2) (y1.1.b) (y1.1.i) (y1.1.h) (([] : List Fact)) h)
  cases h; exact pre0.ret hΓ
def d_spec_l2Any (a0_ : Cur) : Option (Cur × Fact) := ((d_spec_l2Draw (a0_)).bind fun y1 => ((d_spec_l1Below (y1.1) (10)).bind fun y3 => (bif (y3.2 : Int) == (0) then ((d_spec_l1Word (y3.1)).bind fun y6 => (some ((y6.1, (⟨y6.2, y1.2.args⟩ : Fact))))) else (bif (y3.2 : Int) == (1) then ((d_spec_l1Word (y3.1)).bind fun y11 => (bif room (((y1.2.args).map tx).length + ([[D.str (y11.2)]]).length) 16 then (some ((y11.1, (⟨y1.2.rel, (y1.2.args) ++ ([y11.2])⟩ : Fact)))) else none)) else (bif (y3.2 : Int) == (2) then ((d_spec_l1Below (y3.1) (5)).bind fun y15 => (bif decide (0 ≤ (y15.2 : Int)) && decide ((y15.2).toNat ≤ ((([[97], [98], [99], [97]] : List Bytes)).map tx).length) then (some ((y15.1, (⟨y1.2.rel, (([[97], [98], [99], [97]] : List Bytes)).take (y15.2).toNat⟩ : Fact)))) else none)) else (some ((y3.1, y1.2))))))))
theorem d_spec_l2Any_good {a0_ : Cur} {r : Cur × Fact} (h : d_spec_l2Any a0_ = some r) : GoodP Tryz.prog 153 (Cur.c a0_) (Cur.c r.1) [] (D.agg [D.str (r.2.rel), D.fr 9 1 ((r.2.args).map tx)]) := by
  refine gdP Tryz.func153 [[none, none, none], [none, some (9, 1)]] 30 [D.sl ((a0_.b).map yx), D.int .i64 (a0_.i), D.int .i64 (a0_.h)] [] [] fun hr v0_ Γ hΓ => ?_
  rw [d_spec_l2Any] at h
  obtain ⟨y1, h2, h⟩ := den_bind h
  obtain ⟨y3, h4, h⟩ := den_bind h
  have o1_ := ((pre0.hp [[none, none, none]] (d_spec_l2Draw_good h2)).hp [[none, none, none], [none]] (d_spec_l1Below_good h4))
  obtain ⟨h5, h⟩ | ⟨h5, h⟩ := den_if h
  · obtain ⟨y6, h7, h⟩ := den_bind h
    cases h; exact ((o1_.b h5).hp [[none, none, none]] (d_spec_l1Word_good h7)).ret hΓ
  · obtain ⟨h8, h⟩ | ⟨h8, h⟩ := den_if h
    · obtain ⟨y11, h12, h⟩ := den_bind h
      obtain ⟨h13, h⟩ := den_ok h
      cases h; exact (((((o1_.b h5).b h8).a [.n2 [0, 1, 2, 3, 4, 5, 6, 7] [0, 1, 2, 3, 4, 5, 6, 7] 3 5 [0, 1] [0]]).hp [[none, none, none]] (d_spec_l1Word_good h12)).w (room_ok h13)).rts hΓ (D.tup [D.agg [D.str (y1.2.rel), D.fr 9 1 (((y1.2.args).map tx) ++ ([[D.str (y11.2)]]))], D.agg [D.sl ((y11.1.b).map yx), D.int .i64 (y11.1.i), D.int .i64 (y11.1.h)], D.val v0_]) (by first | rfl | (simp only [mA] <;> rfl))
    · have o2_ := ((o1_.b h5).b h8)
      obtain ⟨h14, h⟩ | ⟨h14, h⟩ := den_if h
      · obtain ⟨y15, h16, h⟩ := den_bind h
        obtain ⟨h17, h⟩ := den_ok h
        cases h; exact ((((o2_.b h14).hp [[none, none, none], [none]] (d_spec_l1Below_good h16)).w (cut_ok h17)).a [.cut 0 (y15.2).toNat]).rts hΓ (D.tup [D.agg [D.str (y1.2.rel), D.fr 9 1 (((([[97], [98], [99], [97]] : List Bytes)).map tx).take (y15.2).toNat)], D.agg [D.sl ((y15.1.b).map yx), D.int .i64 (y15.1.i), D.int .i64 (y15.1.h)], D.val v0_]) (by first | rfl | (simp only [mA] <;> rfl))
      · cases h; exact (o2_.b h14).ret hΓ
def d_spec_l2List_L1 (y3 : Cur × Int) (k1 : List Fact → Option (Cur × (List Fact))) : Nat → Int → List Fact → Option (Cur × (List Fact))
  | 0, _, _ => none
  | n1 + 1, v1_4, w1_1 => (bif decide ((v1_4 : Int) < (25)) then ((d_spec_FormatInt (v1_4)).bind fun y31 => ((d_spec_l2Put (w1_1) ((⟨[110], [y31]⟩ : Fact))).bind fun y33 => (d_spec_l2List_L1 y3 k1 n1 (IntKind.i64.wrap ((v1_4) + (1))) (y33)))) else (k1 (w1_1)))
def d_spec_l2List (a0_ : Cur) : Option (Cur × (List Fact)) := ((d_spec_l2Set (a0_) (6)).bind fun y1 => ((d_spec_l1Below (y1.1) (8)).bind fun y3 => (bif (y3.2 : Int) == (0) then ((d_spec_l2Any (y3.1)).bind fun y6 => (bif room (((y1.2).map Fact.c).length + ([[D.str (y6.2.rel), D.sl ((y6.2.args).map tx)]]).length) 40 then (some ((y6.1, (y1.2) ++ ([y6.2])))) else none)) else (bif (y3.2 : Int) == (1) then (d_spec_l2List_L1 y3 (fun (q1_1 : List Fact) => ((d_spec_l1Int (y3.1) (([23, 24, 25] : List Int))).bind fun y35 => (bif decide (0 ≤ (y35.2 : Int)) && decide ((y35.2).toNat ≤ ((q1_1).map Fact.c).length) then (some ((y35.1, (q1_1).take (y35.2).toNat))) else none))) fuel (0) (y1.2)) else (some ((y3.1, y1.2)))))))
def d_spec_l2List_S1 (v0_ : Value) (y3 : Cur × Int) (v1_4 : Int) (W1 : List (List D)) : St := ⟨[(0, D.ptr 0 0), (3, D.acc 1), (4, D.int .i64 (v1_4))], [Ob.pbx (Cur.c y3.1) v0_, Ob.row .uq 42 2 (W1)]⟩
theorem d_spec_l2List_L1w (hΓ : Γ.nt = 34) {v0_ : Value} {y3 : Cur × Int} {r : Cur × (List Fact)} {k1 : List Fact → Option (Cur × (List Fact))} (hE1 : ∀ (q1_1 : List Fact), k1 q1_1 = some r → Ax Γ N Tryz.f103 (.p [[none, none, none], [some (42, 2)]] v0_ (Cur.c r.1) (D.fr 42 2 ((r.2).map Fact.c))) [1, 1, 0, 1, 0, 1, 1, 1, 0, 1] ⟨[(0, D.ptr 0 0), (3, D.acc 1)], [Ob.pbx (Cur.c y3.1) v0_, Ob.row .uq 42 2 ((q1_1).map Fact.c)]⟩) : ∀ (n1 : Nat) (v1_4 : Int) (w1_1 : List Fact), d_spec_l2List_L1 y3 k1 n1 v1_4 w1_1 = some r → Ar Γ N Tryz.f103 (.p [[none, none, none], [some (42, 2)]] v0_ (Cur.c r.1) (D.fr 42 2 ((r.2).map Fact.c))) [1, 1, 0, 1, 0, 1, 1, 1, 0, 0, 1, 0] n1 (d_spec_l2List_S1 v0_ y3 v1_4 ((w1_1).map Fact.c)) := by
  intro n
  induction n with
  | zero => intro v1_4 w1_1 h; simp [d_spec_l2List_L1] at h
  | succ n1 ih1 =>
    intro v1_4 w1_1 h
    rw [d_spec_l2List_L1] at h
    refine AWr_succ fun N1 hN1 hS1 => ?_
    obtain ⟨h30, h⟩ | ⟨h30, h⟩ := den_if h
    · obtain ⟨y31, h32, h⟩ := den_bind h
      obtain ⟨y33, h34, h⟩ := den_bind h
      exact (((((pre0.b h30).g (d_spec_FormatInt_good h32)).a [.d (D.fr 42 2 ((y33).map Fact.c))]).w (show Good Tryz.prog 154 [D.sl ((w1_1).map Fact.c), D.agg [D.str ([110]), D.sl ([[D.str (y31)]])]] (D.fr 42 2 ((y33).map Fact.c)) from by first | (simpa only [List.map_append, List.map_cons, List.map_nil, List.map_drop, List.map_take] using d_spec_l2Put_good h34) | exact d_spec_l2Put_good h34 | (have t := d_spec_l2Put_good h34; simp only [List.map_append, List.map_drop, List.map_take, Fact.c] at t; exact t))).a [.cn [0, 3, 4] [0, 3]]).cf hΓ hS1 (ih1 (IntKind.i64.wrap ((v1_4) + (1))) (y33) h)
    · exact ((pre0.b h30).a [.hl 2 [0, 3] [0, 1]]).ex hΓ hN1 (hE1 (w1_1) h)
theorem d_spec_l2List_good {a0_ : Cur} {r : Cur × (List Fact)} (h : d_spec_l2List a0_ = some r) : GoodP Tryz.prog 103 (Cur.c a0_) (Cur.c r.1) [] (D.fr 42 2 ((r.2).map Fact.c)) := by
  refine gdP Tryz.func103 [[none, none, none], [some (42, 2)]] 34 [D.sl ((a0_.b).map yx), D.int .i64 (a0_.i), D.int .i64 (a0_.h)] [] [] fun hr v0_ Γ hΓ => ?_
  rw [d_spec_l2List] at h
  obtain ⟨y1, h2, h⟩ := den_bind h
  obtain ⟨y3, h4, h⟩ := den_bind h
  have o1_ := ((pre0.hp [[none, none, none], [none]] (d_spec_l2Set_good h2)).hp [[none, none, none], [none]] (d_spec_l1Below_good h4))
  obtain ⟨h5, h⟩ | ⟨h5, h⟩ := den_if h
  · obtain ⟨y6, h7, h⟩ := den_bind h
    obtain ⟨h8, h⟩ := den_ok h
    cases h; exact (((o1_.b h5).hp [[none, none, none]] (d_spec_l2Any_good h7)).w (room_ok h8)).rts hΓ (D.tup [D.fr 42 2 (((y1.2).map Fact.c) ++ ([[D.str (y6.2.rel), D.sl ((y6.2.args).map tx)]])), D.agg [D.sl ((y6.1.b).map yx), D.int .i64 (y6.1.i), D.int .i64 (y6.1.h)], D.val v0_]) (by first | rfl | (simp only [mA] <;> rfl))
  · obtain ⟨h9, h⟩ | ⟨h9, h⟩ := den_if h
    · refine (((o1_.b h5).b h9).a [.cn [0, 3, 4] [0, 1]]).lp hΓ (d_spec_l2List_L1w hΓ (fun q1_1 h => ?_) fuel (0) (y1.2) h)
      obtain ⟨y35, h36, h⟩ := den_bind h
      obtain ⟨h37, h⟩ := den_ok h
      cases h; exact (((pre0.hp [[none, none, none], [some (3, 1)]] (d_spec_l1Int_good h36)).w (cut_ok h37)).a [.cut 0 (y35.2).toNat]).rts hΓ (D.tup [D.fr 42 2 (((q1_1).map Fact.c).take (y35.2).toNat), D.agg [D.sl ((y35.1.b).map yx), D.int .i64 (y35.1.i), D.int .i64 (y35.1.h)], D.val v0_]) (by first | rfl | (simp only [mA] <;> rfl))
    · cases h; exact ((o1_.b h5).b h9).ret hΓ
def d_spec_l6Draw (a0_ : Cur) : Option (Cur × (Rule × (List Fact))) := ((d_spec_l5Draw (a0_)).bind fun y1 => ((d_spec_l1Once (y1.1) (8)).bind fun y3 => (bif y3.2 then ((d_spec_l5Any (y3.1)).bind fun y6 => ((d_spec_l1Once (y6.1) (8)).bind fun y8 => (bif y8.2 then ((d_spec_l2List (y8.1)).bind fun y13 => (some ((y13.1, (y6.2, y13.2))))) else ((d_spec_l2Set (y8.1) (9)).bind fun y17 => (some ((y17.1, (y6.2, y17.2)))))))) else ((d_spec_l1Once (y3.1) (8)).bind fun y19 => (bif y19.2 then ((d_spec_l2List (y19.1)).bind fun y24 => (some ((y24.1, (y1.2, y24.2))))) else ((d_spec_l2Set (y19.1) (9)).bind fun y28 => (some ((y28.1, (y1.2, y28.2))))))))))
theorem d_spec_l6Draw_good {a0_ : Cur} {r : Cur × (Rule × (List Fact))} (h : d_spec_l6Draw a0_ = some r) : GoodP Tryz.prog 43 (Cur.c a0_) (Cur.c r.1) [] (D.tup [D.agg [D.str (r.2.1.name), D.int .i64 (r.2.1.prio), D.sl ((r.2.1.conds).map Cond.c), D.sl ((r.2.1.acts).map Action.c)], D.fr 42 2 ((r.2.2).map Fact.c)]) := by
  refine gdP Tryz.func43 [[none, none, none], [none, none, none, none], [some (42, 2)]] 19 [D.sl ((a0_.b).map yx), D.int .i64 (a0_.i), D.int .i64 (a0_.h)] [] [] fun hr v0_ Γ hΓ => ?_
  rw [d_spec_l6Draw] at h
  obtain ⟨y1, h2, h⟩ := den_bind h
  obtain ⟨y3, h4, h⟩ := den_bind h
  have o1_ := ((pre0.hp [[none, none, none]] (d_spec_l5Draw_good h2)).hp [[none, none, none], [none]] (d_spec_l1Once_good h4))
  obtain ⟨h5, h⟩ | ⟨h5, h⟩ := den_if h
  · obtain ⟨y6, h7, h⟩ := den_bind h
    obtain ⟨y8, h9, h⟩ := den_bind h
    have o2_ := (((o1_.b h5).hp [[none, none, none]] (d_spec_l5Any_good h7)).hp [[none, none, none], [none]] (d_spec_l1Once_good h9))
    obtain ⟨h10, h⟩ | ⟨h10, h⟩ := den_if h
    · obtain ⟨y13, h14, h⟩ := den_bind h
      cases h; exact (((o2_.b h10).a [.n2 [0, 1, 2, 3, 4] [0, 1, 2, 3, 4] 2 3 [0] [0]]).hp [[none, none, none]] (d_spec_l2List_good h14)).ret hΓ
    · obtain ⟨y17, h18, h⟩ := den_bind h
      cases h; exact (((o2_.b h10).a [.n2 [0, 1, 2, 3, 4] [0, 1, 2, 3, 4] 2 3 [0] [0]]).hp [[none, none, none], [none]] (d_spec_l2Set_good h18)).ret hΓ
  · obtain ⟨y19, h20, h⟩ := den_bind h
    have o3_ := ((o1_.b h5).hp [[none, none, none], [none]] (d_spec_l1Once_good h20))
    obtain ⟨h21, h⟩ | ⟨h21, h⟩ := den_if h
    · obtain ⟨y24, h25, h⟩ := den_bind h
      cases h; exact ((((o3_.b h21).a [.n2 [0, 1, 2, 3, 4] [0, 1, 2, 3, 4] 2 3 [0] [0]]).hp [[none, none, none]] (d_spec_l2List_good h25)).a [.sk 2, .sk 3]).ret hΓ
    · obtain ⟨y28, h29, h⟩ := den_bind h
      cases h; exact ((((o3_.b h21).a [.n2 [0, 1, 2, 3, 4] [0, 1, 2, 3, 4] 2 3 [0] [0]]).hp [[none, none, none], [none]] (d_spec_l2Set_good h29)).a [.sk 2, .sk 3]).ret hΓ
def d_spec_DrawMatchesOf (a0_ : List Int) : Option (Rule × (List Fact)) := ((d_spec_l1New (a0_)).bind fun y1 => ((d_spec_l6Draw (y1)).bind fun y3 => (some ((y3.2.1, y3.2.2)))))
theorem d_spec_DrawMatchesOf_good {a0_ : List Int} {r : Rule × (List Fact)} (h : d_spec_DrawMatchesOf a0_ = some r) : Good Tryz.prog 9 [D.sl ((a0_).map yx)] (D.tup [D.agg [D.str (r.1.name), D.int .i64 (r.1.prio), D.sl ((r.1.conds).map Cond.c), D.sl ((r.1.acts).map Action.c)], D.fr 42 2 ((r.2).map Fact.c)]) := by
  refine gd Tryz.func9 [[none, none, none, none], [some (42, 2)]] 11 fun hr Γ hΓ => ?_
  rw [d_spec_DrawMatchesOf] at h
  obtain ⟨y1, h2, h⟩ := den_bind h
  obtain ⟨y3, h4, h⟩ := den_bind h
  cases h; exact ((pre0.hn (d_spec_l1New_good h2)).hp [[none, none, none]] (d_spec_l6Draw_good h4)).ret hΓ
def d_impl_IsAtom_L1 (a0_ : Bytes) (k1 : Option Bool) : Nat → Int → Option Bool
  | 0, _ => none
  | n1 + 1, v1_3 => (bif decide ((v1_3 : Int) < (((a0_).length : Int))) then ((atI (a0_) (v1_3)).bind fun b31 => (bif decide ((b31.toNat : Int) < (97)) then (bif decide ((b31.toNat : Int) < (48)) then (some (false)) else (bif decide ((b31.toNat : Int) > (57)) then (some (false)) else (d_impl_IsAtom_L1 a0_ k1 n1 (IntKind.i64.wrap ((v1_3) + (1)))))) else (bif decide ((b31.toNat : Int) > (122)) then (bif decide ((b31.toNat : Int) < (48)) then (some (false)) else (bif decide ((b31.toNat : Int) > (57)) then (some (false)) else (d_impl_IsAtom_L1 a0_ k1 n1 (IntKind.i64.wrap ((v1_3) + (1)))))) else (d_impl_IsAtom_L1 a0_ k1 n1 (IntKind.i64.wrap ((v1_3) + (1))))))) else (k1 ))
def d_impl_IsAtom (a0_ : Bytes) : Option Bool := (bif decide ((((a0_).length : Int) : Int) < (1)) then (some (false)) else (bif decide ((((a0_).length : Int) : Int) > (8)) then (some (false)) else (d_impl_IsAtom_L1 a0_ (some (true)) fuel (0))))
def d_impl_IsAtom_S1 (a0_ : Bytes) (v1_3 : Int) : St := ⟨[(0, D.str (a0_)), (3, D.int .i64 (v1_3))], []⟩
theorem d_impl_IsAtom_L1w (hΓ : Γ.nt = 40) {a0_ : Bytes} {r : Bool} {k1 : Option Bool} (hE1 : k1 = some r → Ax Γ N Tryz.f110 (.q [[none]] (D.bool (r))) [1, 1, 1] ⟨[], []⟩) : ∀ (n1 : Nat) (v1_3 : Int), d_impl_IsAtom_L1 a0_ k1 n1 v1_3 = some r → Ar Γ N Tryz.f110 (.q [[none]] (D.bool (r))) [1, 1, 0, 1, 0] n1 (d_impl_IsAtom_S1 a0_ v1_3) := by
  intro n
  induction n with
  | zero => intro v1_3 h; simp [d_impl_IsAtom_L1] at h
  | succ n1 ih1 =>
    intro v1_3 h
    rw [d_impl_IsAtom_L1] at h
    refine AWr_succ fun N1 hN1 hS1 => ?_
    obtain ⟨h30, h⟩ | ⟨h30, h⟩ := den_if h
    · obtain ⟨b31, h32, h⟩ := den_bind h
      have o7_ := ((pre0.b h30).c h32)
      obtain ⟨h33, h⟩ | ⟨h33, h⟩ := den_if h
      · have o8_ := ((((o7_.r 5 h33).T 3).c h32).T 2)
        obtain ⟨h34, h⟩ | ⟨h34, h⟩ := den_if h
        · have h := den_some h; subst h; exact ((((o8_.r 4 h34).T 1).b h34).T 2).ret hΓ
        · have o9_ := ((((((o8_.r 3 h34).c h32).b h34).T 1).b h34).T 1)
          obtain ⟨h35, h⟩ | ⟨h35, h⟩ := den_if h
          · have h := den_some h; subst h; exact (o9_.b h35).ret hΓ
          · exact ((o9_.b h35).a [.cn [0, 3] []]).cf hΓ hS1 (ih1 (IntKind.i64.wrap ((v1_3) + (1))) h)
      · have o10_ := (((o7_.r 3 h33).c h32).r 2 h33)
        obtain ⟨h36, h⟩ | ⟨h36, h⟩ := den_if h
        · have o11_ := (((o10_.r 3 h36).c h32).r 2 h36)
          obtain ⟨h37, h⟩ | ⟨h37, h⟩ := den_if h
          · have h := den_some h; subst h; exact (((((o11_.r 4 h37).b h36).b h37).b h36).T 1).ret hΓ
          · have o12_ := ((((((o11_.r 3 h37).c h32).b h37).b h36).b h37).b h36)
            obtain ⟨h38, h⟩ | ⟨h38, h⟩ := den_if h
            · have h := den_some h; subst h; exact (o12_.b h38).ret hΓ
            · exact ((o12_.b h38).a [.cn [0, 3] []]).cf hΓ hS1 (ih1 (IntKind.i64.wrap ((v1_3) + (1))) h)
        · exact (((o10_.r 7 h36).F 1).a [bF, bF, bF, bF, .cn [0, 3] []]).cf hΓ hS1 (ih1 (IntKind.i64.wrap ((v1_3) + (1))) h)
    · exact ((pre0.b h30).a [.hl 0 [] []]).ex hΓ hN1 (hE1 h)
theorem d_impl_IsAtom_good {a0_ : Bytes} {r : Bool} (h : d_impl_IsAtom a0_ = some r) : Good Tryz.prog 110 [D.str (a0_)] (D.bool (r)) := by
  refine gd Tryz.func110 [[none]] 40 fun hr Γ hΓ => ?_
  rw [d_impl_IsAtom] at h
  obtain ⟨h1, h⟩ | ⟨h1, h⟩ := den_if h
  · have h := den_some h; subst h; exact ((pre0.r 4 h1).T 1).ret hΓ
  · have o13_ := (pre0.r 4 h1)
    obtain ⟨h2, h⟩ | ⟨h2, h⟩ := den_if h
    · have h := den_some h; subst h; exact (o13_.b h2).ret hΓ
    · refine ((o13_.b h2).a [.cn [0, 3] []]).lp hΓ (d_impl_IsAtom_L1w hΓ (fun h => ?_) fuel (0) h)
      have h := den_some h; subst h; exact pre0.ret hΓ
def d_impl_IsName (a0_ : Bytes) : Option Bool := ((d_impl_IsAtom (a0_)).bind fun y1 => (bif y1 then ((atI (a0_) (0)).bind fun b4 => (some (decide ((b4.toNat : Int) ≥ (97))))) else (some (false))))
theorem d_impl_IsName_good {a0_ : Bytes} {r : Bool} (h : d_impl_IsName a0_ = some r) : Good Tryz.prog 57 [D.str (a0_)] (D.bool (r)) := by
  refine gd Tryz.func57 [[none]] 10 fun hr Γ hΓ => ?_
  rw [d_impl_IsName] at h
  obtain ⟨y1, h2, h⟩ := den_bind h
  obtain ⟨h3, h⟩ | ⟨h3, h⟩ := den_if h
  · obtain ⟨b4, h5, h⟩ := den_bind h
    cases h; exact ((((pre0.g (d_impl_IsAtom_good h2)).r 2 h3).c h5).r 2 h3).ret hΓ
  · have h := den_some h; subst h; exact ((pre0.g (d_impl_IsAtom_good h2)).r 4 h3).ret hΓ
def d_impl_IsVar (a0_ : Bytes) : Option Bool := (bif decide ((((a0_).length : Int) : Int) > (1)) then ((atI (a0_) (0)).bind fun b2 => (bif (b2.toNat : Int) == (63) then ((pcut (a0_).length (some (D.int .i64 (1))) (none)).bind fun p => (fun l5 u6 => ((d_impl_IsAtom (((a0_).take u6).drop l5)).bind fun y8 => (some (y8)))) p.1 p.2) else (some (false)))) else (some (false)))
theorem d_impl_IsVar_good {a0_ : Bytes} {r : Bool} (h : d_impl_IsVar a0_ = some r) : Good Tryz.prog 116 [D.str (a0_)] (D.bool (r)) := by
  refine gd Tryz.func116 [[none]] 16 fun hr Γ hΓ => ?_
  rw [d_impl_IsVar] at h
  obtain ⟨h1, h⟩ | ⟨h1, h⟩ := den_if h
  · obtain ⟨b2, h3, h⟩ := den_bind h
    have o1_ := (((pre0.r 2 h1).c h3).r 2 h1)
    obtain ⟨h4, h⟩ | ⟨h4, h⟩ := den_if h
    · obtain ⟨⟨l5, u6⟩, h7, h⟩ := den_bind h
      obtain ⟨y8, h9, h⟩ := den_bind h
      have h := den_some h; subst h; exact ((((((o1_.r 2 h4).w h7).a [.cut l5 u6]).b h4).g (d_impl_IsAtom_good h9)).b h4).ret hΓ
    · have h := den_some h; subst h; exact (o1_.r 4 h4).ret hΓ
  · have h := den_some h; subst h; exact ((pre0.r 4 h1).F 4).ret hΓ
def d_impl_IsTerm (a0_ : Bytes) : Option Bool := ((d_impl_IsAtom (a0_)).bind fun y1 => (bif y1 then (some (true)) else ((d_impl_IsVar (a0_)).bind fun y4 => (some (y4)))))
theorem d_impl_IsTerm_good {a0_ : Bytes} {r : Bool} (h : d_impl_IsTerm a0_ = some r) : Good Tryz.prog 112 [D.str (a0_)] (D.bool (r)) := by
  refine gd Tryz.func112 [[none]] 9 fun hr Γ hΓ => ?_
  rw [d_impl_IsTerm] at h
  obtain ⟨y1, h2, h⟩ := den_bind h
  obtain ⟨h3, h⟩ | ⟨h3, h⟩ := den_if h
  · have h := den_some h; subst h; exact ((pre0.g (d_impl_IsAtom_good h2)).r 3 h3).ret hΓ
  · obtain ⟨y4, h5, h⟩ := den_bind h
    have h := den_some h; subst h; exact ((((pre0.g (d_impl_IsAtom_good h2)).r 2 h3).g (d_impl_IsVar_good h5)).b h3).ret hΓ
def d_impl_IsPattern_L1 (a0_ : Fact) (k1 : Option Bool) : List Bytes → Nat → Option Bool
  | [], i1 => (k1 )
  | x1_ :: xs1, i1 => ((d_impl_IsTerm (x1_)).bind fun y25 => (bif !(y25) then (some (false)) else (d_impl_IsPattern_L1 a0_ k1 xs1 (i1 + 1) )))
def d_impl_IsPattern (a0_ : Fact) : Option Bool := ((d_impl_IsName (a0_.rel)).bind fun y1 => (bif !(y1) then (some (false)) else (bif decide (((((a0_.args).map tx).length : Int) : Int) > (3)) then (some (false)) else (d_impl_IsPattern_L1 a0_ (some (true)) (a0_.args) 0 ))))
def d_impl_IsPattern_S1 (a0_ : Fact) (ix_ : Int) : St := ⟨[(16, D.sl ((a0_.args).map tx)), (17, D.int .i64 ((((a0_.args).map tx).length : Int))), (18, D.int .i64 (ix_))], []⟩
theorem d_impl_IsPattern_L1w (hΓ : Γ.nt = 26) {a0_ : Fact} {r : Bool} {k1 : Option Bool} (hE1 : k1 = some r → Ax Γ N Tryz.f111 (.q [[none]] (D.bool (r))) [1, 1, 1] ⟨[], []⟩) (hm1 : (a0_.args).length ≤ maxLen) : ∀ (rest : List Bytes) (i1 : Nat) , (a0_.args).drop i1 = rest → d_impl_IsPattern_L1 a0_ k1 rest i1  = some r → Ar Γ N Tryz.f111 (.q [[none]] (D.bool (r))) [1, 1, 0, 1, 0] (rest.length + 1) (d_impl_IsPattern_S1 a0_ ((i1 : Int))) := by
  intro rest
  induction rest with
  | nil =>
    intro i1  hd1 h
    rw [d_impl_IsPattern_L1] at h
    refine AWr_succ fun N1 hN1 hS1 => ?_
    exact ((pre0.ge tx hd1).a [.hl 0 [] []]).ex hΓ hN1 (hE1 h)
  | cons x1_ xs1 ih1 =>
    intro i1  hd1 h
    rw [d_impl_IsPattern_L1] at h
    refine AWr_succ fun N1 hN1 hS1 => ?_
    obtain ⟨y25, h26, h⟩ := den_bind h
    have o2_ := (((pre0.lt tx hd1).l (map_row tx 1 (dc hd1) rfl)).g (d_impl_IsTerm_good h26))
    obtain ⟨h27, h⟩ | ⟨h27, h⟩ := den_if h
    · have h := den_some h; subst h; exact (o2_.b h27).ret hΓ
    · exact ((o2_.b h27).a [.cn [16, 17, 18] []]).ct hΓ hS1 (iS hd1 hm1) (ih1 (i1 + 1)  (dn hd1) h)
theorem d_impl_IsPattern_good {a0_ : Fact} {r : Bool} (h : d_impl_IsPattern a0_ = some r) : Good Tryz.prog 111 [D.agg (Fact.c a0_)] (D.bool (r)) := by
  refine gd Tryz.func111 [[none]] 26 fun hr Γ hΓ => ?_
  rw [d_impl_IsPattern] at h
  obtain ⟨y1, h2, h⟩ := den_bind h
  obtain ⟨h3, h⟩ | ⟨h3, h⟩ := den_if h
  · have h := den_some h; subst h; exact (((pre0.g (d_impl_IsName_good h2)).r 5 h3).T 1).ret hΓ
  · have o3_ := ((pre0.g (d_impl_IsName_good h2)).r 5 h3)
    obtain ⟨h4, h⟩ | ⟨h4, h⟩ := den_if h
    · have h := den_some h; subst h; exact (o3_.b h4).ret hΓ
    · refine ((o3_.b h4).a [.cn [16, 17, 18] []]).lp hΓ (d_impl_IsPattern_L1w hΓ (fun h => ?_) (by have := (Rdb.sl (Rdb.agg (hr _ (List.mem_of_getElem? (i := 0) rfl)) (.sl ((a0_.args).map tx)) (by simp))).1; simpa using this) (a0_.args) 0  rfl h)
      have h := den_some h; subst h; exact pre0.ret hΓ
def d_impl_zeroPattern (a0_ : Fact) : Option Bool := (bif (a0_.rel : Bytes) == ([]) then (some (((((a0_.args).map tx).length : Int) : Int) == (0))) else (some (false)))
theorem d_impl_zeroPattern_good {a0_ : Fact} {r : Bool} (h : d_impl_zeroPattern a0_ = some r) : Good Tryz.prog 113 [D.agg (Fact.c a0_)] (D.bool (r)) := by
  refine gd Tryz.func113 [[none]] 12 fun hr Γ hΓ => ?_
  rw [d_impl_zeroPattern] at h
  obtain ⟨h1, h⟩ | ⟨h1, h⟩ := den_if h
  · cases h; exact (pre0.r 5 h1).ret hΓ
  · have h := den_some h; subst h; exact (pre0.r 5 h1).ret hΓ
def d_impl_IsCond (a0_ : Cond) : Option Bool := (bif (a0_.kind : Int) == (1) then ((d_impl_IsPattern (a0_.pat)).bind fun y2 => (bif y2 then (bif (a0_.left : Bytes) == ([]) then (some ((a0_.right : Bytes) == ([]))) else (some (false))) else (some (false)))) else (bif (a0_.kind : Int) == (2) then ((d_impl_IsPattern (a0_.pat)).bind fun y7 => (bif y7 then (bif (a0_.left : Bytes) == ([]) then (some ((a0_.right : Bytes) == ([]))) else (some (false))) else (some (false)))) else (bif (a0_.kind : Int) == (3) then ((d_impl_IsTerm (a0_.left)).bind fun y12 => (bif y12 then ((d_impl_IsTerm (a0_.right)).bind fun y15 => (bif y15 then ((d_impl_zeroPattern (a0_.pat)).bind fun y18 => (some (y18))) else (some (false)))) else (some (false)))) else (bif (a0_.kind : Int) == (4) then ((d_impl_IsTerm (a0_.left)).bind fun y21 => (bif y21 then ((d_impl_IsTerm (a0_.right)).bind fun y24 => (bif y24 then ((d_impl_zeroPattern (a0_.pat)).bind fun y27 => (some (y27))) else (some (false)))) else (some (false)))) else (bif (a0_.kind : Int) == (5) then ((d_impl_IsTerm (a0_.left)).bind fun y30 => (bif y30 then ((d_impl_IsTerm (a0_.right)).bind fun y33 => (bif y33 then ((d_impl_zeroPattern (a0_.pat)).bind fun y36 => (some (y36))) else (some (false)))) else (some (false)))) else (some (false)))))))
theorem d_impl_IsCond_good {a0_ : Cond} {r : Bool} (h : d_impl_IsCond a0_ = some r) : Good Tryz.prog 58 [D.agg (Cond.c a0_)] (D.bool (r)) := by
  refine gd Tryz.func58 [[none]] 38 fun hr Γ hΓ => ?_
  rw [d_impl_IsCond] at h
  obtain ⟨h1, h⟩ | ⟨h1, h⟩ := den_if h
  · obtain ⟨y2, h3, h⟩ := den_bind h
    have o1_ := ((pre0.r 2 h1).g (d_impl_IsPattern_good h3))
    obtain ⟨h4, h⟩ | ⟨h4, h⟩ := den_if h
    · have o2_ := (o1_.r 4 h4)
      obtain ⟨h5, h⟩ | ⟨h5, h⟩ := den_if h
      · cases h; exact (o2_.r 4 h5).ret hΓ
      · have h := den_some h; subst h; exact (o2_.r 4 h5).ret hΓ
    · have h := den_some h; subst h; exact ((o1_.r 4 h4).F 4).ret hΓ
  · obtain ⟨h6, h⟩ | ⟨h6, h⟩ := den_if h
    · obtain ⟨y7, h8, h⟩ := den_bind h
      have o3_ := (((pre0.b h1).b h6).g (d_impl_IsPattern_good h8))
      obtain ⟨h9, h⟩ | ⟨h9, h⟩ := den_if h
      · have o4_ := (o3_.r 4 h9)
        obtain ⟨h10, h⟩ | ⟨h10, h⟩ := den_if h
        · cases h; exact (o4_.r 4 h10).ret hΓ
        · have h := den_some h; subst h; exact (o4_.r 4 h10).ret hΓ
      · have h := den_some h; subst h; exact ((o3_.r 4 h9).F 4).ret hΓ
    · have o5_ := ((pre0.b h1).b h6)
      obtain ⟨h11, h⟩ | ⟨h11, h⟩ := den_if h
      · obtain ⟨y12, h13, h⟩ := den_bind h
        have o6_ := ((o5_.r 2 h11).g (d_impl_IsTerm_good h13))
        obtain ⟨h14, h⟩ | ⟨h14, h⟩ := den_if h
        · obtain ⟨y15, h16, h⟩ := den_bind h
          have o7_ := (((o6_.r 3 h14).g (d_impl_IsTerm_good h16)).b h14)
          obtain ⟨h17, h⟩ | ⟨h17, h⟩ := den_if h
          · obtain ⟨y18, h19, h⟩ := den_bind h
            have h := den_some h; subst h; exact (((o7_.r 3 h17).g (d_impl_zeroPattern_good h19)).b h17).ret hΓ
          · have h := den_some h; subst h; exact (o7_.r 4 h17).ret hΓ
        · have h := den_some h; subst h; exact ((o6_.r 4 h14).F 4).ret hΓ
      · obtain ⟨h20, h⟩ | ⟨h20, h⟩ := den_if h
        · obtain ⟨y21, h22, h⟩ := den_bind h
          have o8_ := (((o5_.b h11).r 2 h20).g (d_impl_IsTerm_good h22))
          obtain ⟨h23, h⟩ | ⟨h23, h⟩ := den_if h
          · obtain ⟨y24, h25, h⟩ := den_bind h
            have o9_ := (((o8_.r 3 h23).g (d_impl_IsTerm_good h25)).b h23)
            obtain ⟨h26, h⟩ | ⟨h26, h⟩ := den_if h
            · obtain ⟨y27, h28, h⟩ := den_bind h
              have h := den_some h; subst h; exact (((o9_.r 3 h26).g (d_impl_zeroPattern_good h28)).b h26).ret hΓ
            · have h := den_some h; subst h; exact (o9_.r 4 h26).ret hΓ
          · have h := den_some h; subst h; exact ((o8_.r 4 h23).F 4).ret hΓ
        · have o10_ := ((o5_.b h11).b h20)
          obtain ⟨h29, h⟩ | ⟨h29, h⟩ := den_if h
          · obtain ⟨y30, h31, h⟩ := den_bind h
            have o11_ := ((o10_.b h29).g (d_impl_IsTerm_good h31))
            obtain ⟨h32, h⟩ | ⟨h32, h⟩ := den_if h
            · obtain ⟨y33, h34, h⟩ := den_bind h
              have o12_ := (((o11_.r 3 h32).g (d_impl_IsTerm_good h34)).b h32)
              obtain ⟨h35, h⟩ | ⟨h35, h⟩ := den_if h
              · obtain ⟨y36, h37, h⟩ := den_bind h
                have h := den_some h; subst h; exact (((o12_.r 3 h35).g (d_impl_zeroPattern_good h37)).b h35).ret hΓ
              · have h := den_some h; subst h; exact (o12_.r 4 h35).ret hΓ
            · have h := den_some h; subst h; exact ((o11_.r 4 h32).F 4).ret hΓ
          · have h := den_some h; subst h; exact (o10_.b h29).ret hΓ
def d_impl_varsAmong_L1 (a0_ : List Bytes) (k1 : List Bytes → Option (List Bytes)) : List Bytes → Nat → List Bytes → Option (List Bytes)
  | [], i1, w1_0 => (k1 (w1_0))
  | x1_ :: xs1, i1, w1_0 => ((d_impl_IsVar (x1_)).bind fun y32 => (bif y32 then (bif room (((w1_0).map tx).length + ([[D.str (x1_)]]).length) 16 then (d_impl_varsAmong_L1 a0_ k1 xs1 (i1 + 1) ((w1_0) ++ ([x1_]))) else none) else (d_impl_varsAmong_L1 a0_ k1 xs1 (i1 + 1) (w1_0))))
def d_impl_varsAmong (a0_ : List Bytes) : Option (List Bytes) := (d_impl_varsAmong_L1 a0_ (fun (q1_0 : List Bytes) => (some (q1_0))) (a0_) 0 (([] : List Bytes)))
def d_impl_varsAmong_S1 (a0_ : List Bytes) (W0 : List (List D)) (ix_ : Int) : St := ⟨[(3, D.acc 0), (6, D.sl ((a0_).map tx)), (7, D.int .i64 ((((a0_).map tx).length : Int))), (8, D.int .i64 (ix_))], [Ob.row .uq 9 1 (W0)]⟩
theorem d_impl_varsAmong_L1w (hΓ : Γ.nt = 20) {a0_ : List Bytes} {r : List Bytes} {k1 : List Bytes → Option (List Bytes)} (hE1 : ∀ (q1_0 : List Bytes), k1 q1_0 = some r → Ax Γ N Tryz.f62 (.q [[some (9, 1)]] (D.fr 9 1 ((r).map tx))) [1, 1, 1] ⟨[(3, D.acc 0)], [Ob.row .uq 9 1 ((q1_0).map tx)]⟩) (hm1 : (a0_).length ≤ maxLen) : ∀ (rest : List Bytes) (i1 : Nat) (w1_0 : List Bytes), (a0_).drop i1 = rest → d_impl_varsAmong_L1 a0_ k1 rest i1 w1_0 = some r → Ar Γ N Tryz.f62 (.q [[some (9, 1)]] (D.fr 9 1 ((r).map tx))) [1, 1, 0, 1, 0] (rest.length + 1) (d_impl_varsAmong_S1 a0_ ((w1_0).map tx) ((i1 : Int))) := by
  intro rest
  induction rest with
  | nil =>
    intro i1 w1_0 hd1 h
    rw [d_impl_varsAmong_L1] at h
    refine AWr_succ fun N1 hN1 hS1 => ?_
    exact ((pre0.ge tx hd1).a [.hl 0 [3] [0]]).ex hΓ hN1 (hE1 (w1_0) h)
  | cons x1_ xs1 ih1 =>
    intro i1 w1_0 hd1 h
    rw [d_impl_varsAmong_L1] at h
    refine AWr_succ fun N1 hN1 hS1 => ?_
    obtain ⟨y32, h33, h⟩ := den_bind h
    have o2_ := (((pre0.lt tx hd1).l (map_row tx 1 (dc hd1) rfl)).g (d_impl_IsVar_good h33))
    obtain ⟨h34, h⟩ | ⟨h34, h⟩ := den_if h
    · obtain ⟨h35, h⟩ := den_ok h
      exact (((o2_.b h34).w (room_ok h35)).a [.cn [3, 6, 7, 8] [2]]).cs hΓ hS1 (d_impl_varsAmong_S1 a0_ (((w1_0).map tx) ++ ([[D.str (x1_)]])) (IntKind.i64.wrap (((i1 : Int)) + (1)))) (by first | (simp only [iS hd1 hm1, mA] <;> rfl) | (simp only [iS hd1 hm1, mA, Fact.c, Pair.c, Cond.c, Action.c, Rule.c, Token.c, Match.c, Alpha.c, Node.c, Network.c, Stamp.c] <;> rfl)) (ih1 (i1 + 1) ((w1_0) ++ ([x1_])) (dn hd1) h)
    · exact ((o2_.b h34).a [.cn [3, 6, 7, 8] [0]]).ct hΓ hS1 (iS hd1 hm1) (ih1 (i1 + 1) (w1_0) (dn hd1) h)
theorem d_impl_varsAmong_good {a0_ : List Bytes} {r : List Bytes} (h : d_impl_varsAmong a0_ = some r) : Good Tryz.prog 62 [D.sl ((a0_).map tx)] (D.fr 9 1 ((r).map tx)) := by
  refine gd Tryz.func62 [[some (9, 1)]] 20 fun hr Γ hΓ => ?_
  rw [d_impl_varsAmong] at h
  refine (pre0.a [.pro 3, .cn [3, 6, 7, 8] [0]]).lp hΓ (d_impl_varsAmong_L1w hΓ (fun q1_0 h => ?_) (by have := (Rdb.sl (hr _ (List.mem_of_getElem? (i := 0) rfl))).1; simpa using this) (a0_) 0 (([] : List Bytes)) rfl h)
  have h := den_some h; subst h; exact pre0.ret hΓ
def d_impl_SortedTexts_L1 (a0_ : List Bytes) (k1 : List Bytes → Option (List Bytes)) : List Bytes → Nat → List Bytes → Option (List Bytes)
  | [], i1, w1_1 => (k1 (w1_1))
  | x1_ :: xs1, i1, w1_1 => (bif ((i1 : Int) : Int) == (0) then (bif room (((w1_1).map tx).length + ([[D.str (x1_)]]).length) 16 then (d_impl_SortedTexts_L1 a0_ k1 xs1 (i1 + 1) ((w1_1) ++ ([x1_]))) else none) else ((atI (sortB ((([] : List Bytes)) ++ (a0_))) (IntKind.i64.wrap (((i1 : Int)) - (1)))).bind fun x47 => (bif !((x47 : Bytes) == (x1_)) then (bif room (((w1_1).map tx).length + ([[D.str (x1_)]]).length) 16 then (d_impl_SortedTexts_L1 a0_ k1 xs1 (i1 + 1) ((w1_1) ++ ([x1_]))) else none) else (d_impl_SortedTexts_L1 a0_ k1 xs1 (i1 + 1) (w1_1)))))
def d_impl_SortedTexts (a0_ : List Bytes) : Option (List Bytes) := (bif room ((([] : List (List D))).length + ((a0_).map tx).length) 16 then (bif decide (((([] : List Bytes)) ++ (a0_)).length < 4611686018427387904) then (bif decide ((sortB ((([] : List Bytes)) ++ (a0_))).length ≤ maxLen) then (d_impl_SortedTexts_L1 a0_ (fun (q1_0 : List Bytes) => (some (q1_0))) (sortB ((([] : List Bytes)) ++ (a0_))) 0 (([] : List Bytes))) else none) else none) else none)
def d_impl_SortedTexts_S1 (a0_ : List Bytes) (W0 : List (List D)) (ix_ : Int) : St := ⟨[(3, D.acc 0), (4, D.acc 1), (11, D.acc 0), (12, D.int .i64 ((((sortB ((([] : List Bytes)) ++ (a0_))).map tx).length : Int))), (13, D.int .i64 (ix_))], [Ob.row .uq 9 1 ((sortB ((([] : List Bytes)) ++ (a0_))).map tx), Ob.row .uq 9 1 (W0)]⟩
theorem d_impl_SortedTexts_L1w (hΓ : Γ.nt = 35) {a0_ : List Bytes} {r : List Bytes} {k1 : List Bytes → Option (List Bytes)} (hE1 : ∀ (q1_0 : List Bytes), k1 q1_0 = some r → Ax Γ N Tryz.f64 (.q [[some (9, 1)]] (D.fr 9 1 ((r).map tx))) [1, 1, 1, 1, 1] ⟨[(4, D.acc 0)], [Ob.row .uq 9 1 ((q1_0).map tx)]⟩) (hm1 : (sortB ((([] : List Bytes)) ++ (a0_))).length ≤ maxLen) : ∀ (rest : List Bytes) (i1 : Nat) (w1_1 : List Bytes), (sortB ((([] : List Bytes)) ++ (a0_))).drop i1 = rest → d_impl_SortedTexts_L1 a0_ k1 rest i1 w1_1 = some r → Ar Γ N Tryz.f64 (.q [[some (9, 1)]] (D.fr 9 1 ((r).map tx))) [1, 1, 1, 1, 0, 1, 0] (rest.length + 1) (d_impl_SortedTexts_S1 a0_ ((w1_1).map tx) ((i1 : Int))) := by
  intro rest
  induction rest with
  | nil =>
    intro i1 w1_1 hd1 h
    rw [d_impl_SortedTexts_L1] at h
    refine AWr_succ fun N1 hN1 hS1 => ?_
    exact ((pre0.ge tx hd1).a [.hl 0 [4] [1]]).ex hΓ hN1 (hE1 (w1_1) h)
  | cons x1_ xs1 ih1 =>
    intro i1 w1_1 hd1 h
    rw [d_impl_SortedTexts_L1] at h
    refine AWr_succ fun N1 hN1 hS1 => ?_
    have o3_ := (((pre0.lt tx hd1).i (own_ixl tx 1 (dc hd1))).o 1 1 .uq (map_get tx (dc hd1)))
    obtain ⟨h45, h⟩ | ⟨h45, h⟩ := den_if h
    · obtain ⟨h46, h⟩ := den_ok h
      exact ((((o3_.r 8 h45).T 1).w (room_ok h46)).a [.cn [3, 4, 11, 12, 13] [0, 3]]).cs hΓ hS1 (d_impl_SortedTexts_S1 a0_ (((w1_1).map tx) ++ ([[D.str (x1_)]])) (IntKind.i64.wrap (((i1 : Int)) + (1)))) (by first | (simp only [iS hd1 hm1, mA] <;> rfl) | (simp only [iS hd1 hm1, mA, Fact.c, Pair.c, Cond.c, Action.c, Rule.c, Token.c, Match.c, Alpha.c, Node.c, Network.c, Stamp.c] <;> rfl)) (ih1 (i1 + 1) ((w1_1) ++ ([x1_])) (dn hd1) h)
    · obtain ⟨x47, h48, h⟩ := den_bind h
      have o4_ := (((((o3_.r 4 h45).i (own_at tx 1 h48)).b h45).o 1 1 .uq (map_get tx (atI_get h48))).r 3 h45)
      obtain ⟨h49, h⟩ | ⟨h49, h⟩ := den_if h
      · obtain ⟨h50, h⟩ := den_ok h
        exact (((o4_.b h49).w (room_ok h50)).a [.cn [3, 4, 11, 12, 13] [0, 3]]).cs hΓ hS1 (d_impl_SortedTexts_S1 a0_ (((w1_1).map tx) ++ ([[D.str (x1_)]])) (IntKind.i64.wrap (((i1 : Int)) + (1)))) (by first | (simp only [iS hd1 hm1, mA] <;> rfl) | (simp only [iS hd1 hm1, mA, Fact.c, Pair.c, Cond.c, Action.c, Rule.c, Token.c, Match.c, Alpha.c, Node.c, Network.c, Stamp.c] <;> rfl)) (ih1 (i1 + 1) ((w1_1) ++ ([x1_])) (dn hd1) h)
      · exact ((o4_.b h49).a [.cn [3, 4, 11, 12, 13] [0, 1]]).ct hΓ hS1 (iS hd1 hm1) (ih1 (i1 + 1) (w1_1) (dn hd1) h)
theorem d_impl_SortedTexts_good {a0_ : List Bytes} {r : List Bytes} (h : d_impl_SortedTexts a0_ = some r) : Good Tryz.prog 64 [D.sl ((a0_).map tx)] (D.fr 9 1 ((r).map tx)) := by
  refine gd Tryz.func64 [[some (9, 1)]] 35 fun hr Γ hΓ => ?_
  rw [d_impl_SortedTexts] at h
  obtain ⟨h1, h⟩ := den_ok h
  obtain ⟨h2, h⟩ := den_ok h
  obtain ⟨h51, h⟩ := den_ok h
  refine (((((pre0.w (room_ok h1)).w (show (∀ r ∈ ((a0_).map tx), r.length = 1) ∧ (true = true → D.flatRows ((a0_).map tx) = true) from ⟨by first | simp | (intro r hr; obtain ⟨x, _, rfl⟩ := List.mem_map.1 (List.mem_of_mem_take (List.mem_of_mem_drop hr)); rfl), by simp [D.flatRows, D.flat]⟩)).w (show ((([] : List (List D))) ++ ((a0_).map tx)).flatten.all D.flat = true from by simpa only [List.map_append, List.map_cons, List.map_nil] using flat_tx_all ((([] : List Bytes)) ++ (a0_)))).w (show GoodM Tryz.prog 117 9 1 ((([] : List (List D))) ++ ((a0_).map tx)) ((sortB ((([] : List Bytes)) ++ (a0_))).map tx) from by simpa only [List.map_append, List.map_cons, List.map_nil] using (d_sort_Strings_good (e := 9) (of_decide_eq_true h2)))).a [.fl true, .mu 0 ((sortB ((([] : List Bytes)) ++ (a0_))).map tx), .pro 4, .cn [3, 4, 11, 12, 13] [0, 1]]).lp hΓ (d_impl_SortedTexts_L1w hΓ (fun q1_0 h => ?_) (of_decide_eq_true h51) (sortB ((([] : List Bytes)) ++ (a0_))) 0 (([] : List Bytes)) rfl h)
  have h := den_some h; subst h; exact pre0.ret hΓ
def d_impl_BoundVars_L1 (a0_ : Rule) (a1_ : Int) (k1 : List Bytes → Option (List Bytes)) : List Cond → Nat → List Bytes → Option (List Bytes)
  | [], i1, w1_0 => (k1 (w1_0))
  | x1_ :: xs1, i1, w1_0 => (bif decide (((i1 : Int) : Int) < (a1_)) then (bif (x1_.kind : Int) == (1) then ((d_impl_varsAmong (x1_.pat.args)).bind fun y39 => (bif room (((w1_0).map tx).length + ((y39).map tx).length) 16 then (d_impl_BoundVars_L1 a0_ a1_ k1 xs1 (i1 + 1) ((w1_0) ++ (y39))) else none)) else (d_impl_BoundVars_L1 a0_ a1_ k1 xs1 (i1 + 1) (w1_0))) else (d_impl_BoundVars_L1 a0_ a1_ k1 xs1 (i1 + 1) (w1_0)))
def d_impl_BoundVars (a0_ : Rule) (a1_ : Int) : Option (List Bytes) := (d_impl_BoundVars_L1 a0_ a1_ (fun (q1_0 : List Bytes) => ((d_impl_SortedTexts (q1_0)).bind fun y42 => (some (y42)))) (a0_.conds) 0 (([] : List Bytes)))
def d_impl_BoundVars_S1 (a0_ : Rule) (a1_ : Int) (W0 : List (List D)) (ix_ : Int) : St := ⟨[(1, D.int .i64 (a1_)), (5, D.acc 0), (9, D.sl ((a0_.conds).map Cond.c)), (10, D.int .i64 ((((a0_.conds).map Cond.c).length : Int))), (11, D.int .i64 (ix_))], [Ob.row .uq 9 1 (W0)]⟩
theorem d_impl_BoundVars_L1w (hΓ : Γ.nt = 33) {a0_ : Rule} {a1_ : Int} {r : List Bytes} {k1 : List Bytes → Option (List Bytes)} (hE1 : ∀ (q1_0 : List Bytes), k1 q1_0 = some r → Ax Γ N Tryz.f60 (.q [[some (9, 1)]] (D.fr 9 1 ((r).map tx))) [1, 1, 1] ⟨[(5, D.acc 0)], [Ob.row .uq 9 1 ((q1_0).map tx)]⟩) (hm1 : (a0_.conds).length ≤ maxLen) : ∀ (rest : List Cond) (i1 : Nat) (w1_0 : List Bytes), (a0_.conds).drop i1 = rest → d_impl_BoundVars_L1 a0_ a1_ k1 rest i1 w1_0 = some r → Ar Γ N Tryz.f60 (.q [[some (9, 1)]] (D.fr 9 1 ((r).map tx))) [1, 1, 0, 1, 0] (rest.length + 1) (d_impl_BoundVars_S1 a0_ a1_ ((w1_0).map tx) ((i1 : Int))) := by
  intro rest
  induction rest with
  | nil =>
    intro i1 w1_0 hd1 h
    rw [d_impl_BoundVars_L1] at h
    refine AWr_succ fun N1 hN1 hS1 => ?_
    exact ((pre0.ge Cond.c hd1).a [.hl 0 [5] [0]]).ex hΓ hN1 (hE1 (w1_0) h)
  | cons x1_ xs1 ih1 =>
    intro i1 w1_0 hd1 h
    rw [d_impl_BoundVars_L1] at h
    refine AWr_succ fun N1 hN1 hS1 => ?_
    have o3_ := ((pre0.lt Cond.c hd1).l (map_row Cond.c 5 (dc hd1) rfl))
    obtain ⟨h37, h⟩ | ⟨h37, h⟩ := den_if h
    · have o4_ := (o3_.r 4 h37)
      obtain ⟨h38, h⟩ | ⟨h38, h⟩ := den_if h
      · obtain ⟨y39, h40, h⟩ := den_bind h
        obtain ⟨h41, h⟩ := den_ok h
        exact ((((o4_.b h38).g (d_impl_varsAmong_good h40)).w (room_ok h41)).a [.cn [1, 5, 9, 10, 11] [3]]).cs hΓ hS1 (d_impl_BoundVars_S1 a0_ a1_ (((w1_0).map tx) ++ ((y39).map tx)) (IntKind.i64.wrap (((i1 : Int)) + (1)))) (by first | (simp only [iS hd1 hm1, mA] <;> rfl) | (simp only [iS hd1 hm1, mA, Fact.c, Pair.c, Cond.c, Action.c, Rule.c, Token.c, Match.c, Alpha.c, Node.c, Network.c, Stamp.c] <;> rfl)) (ih1 (i1 + 1) ((w1_0) ++ (y39)) (dn hd1) h)
      · exact ((o4_.b h38).a [.cn [1, 5, 9, 10, 11] [0]]).ct hΓ hS1 (iS hd1 hm1) (ih1 (i1 + 1) (w1_0) (dn hd1) h)
    · exact (((o3_.r 4 h37).F 1).a [.cn [1, 5, 9, 10, 11] [0]]).ct hΓ hS1 (iS hd1 hm1) (ih1 (i1 + 1) (w1_0) (dn hd1) h)
theorem d_impl_BoundVars_good {a0_ : Rule} {a1_ : Int} {r : List Bytes} (h : d_impl_BoundVars a0_ a1_ = some r) : Good Tryz.prog 60 [D.agg (Rule.c a0_), D.int .i64 (a1_)] (D.fr 9 1 ((r).map tx)) := by
  refine gd Tryz.func60 [[some (9, 1)]] 33 fun hr Γ hΓ => ?_
  rw [d_impl_BoundVars] at h
  refine (pre0.a [.pro 5, .cn [1, 5, 9, 10, 11] [1]]).lp hΓ (d_impl_BoundVars_L1w hΓ (fun q1_0 h => ?_) (by have := (Rdb.sl (Rdb.agg (hr _ (List.mem_of_getElem? (i := 0) rfl)) (.sl ((a0_.conds).map Cond.c)) (by simp))).1; simpa using this) (a0_.conds) 0 (([] : List Bytes)) rfl h)
  obtain ⟨y42, h43, h⟩ := den_bind h
  have h := den_some h; subst h; exact (pre0.g (d_impl_SortedTexts_good h43)).ret hΓ
def d_impl_copyTexts (a0_ : List Bytes) : Option (List Bytes) := (bif room ((([] : List (List D))).length + ((a0_).map tx).length) 16 then (some ((([] : List Bytes)) ++ (a0_))) else none)
theorem d_impl_copyTexts_good {a0_ : List Bytes} {r : List Bytes} (h : d_impl_copyTexts a0_ = some r) : Good Tryz.prog 176 [D.sl ((a0_).map tx)] (D.fr 9 1 ((r).map tx)) := by
  refine gd Tryz.func176 [[some (9, 1)]] 5 fun hr Γ hΓ => ?_
  rw [d_impl_copyTexts] at h
  obtain ⟨h1, h⟩ := den_ok h
  cases h; exact (((pre0.w (room_ok h1)).w (show (∀ r ∈ ((a0_).map tx), r.length = 1) ∧ (true = true → D.flatRows ((a0_).map tx) = true) from ⟨by first | simp | (intro r hr; obtain ⟨x, _, rfl⟩ := List.mem_map.1 (List.mem_of_mem_take (List.mem_of_mem_drop hr)); rfl), by simp [D.flatRows, D.flat]⟩)).a [.pro 2, .fl true]).rts hΓ (D.fr 9 1 ((([] : List (List D))) ++ ((a0_).map tx))) (by first | rfl | (simp only [mA] <;> rfl))
def d_impl_termsOf (a0_ : Cond) : Option (List Bytes) := ((d_impl_copyTexts (a0_.pat.args)).bind fun y1 => (bif room (((y1).map tx).length + ((([a0_.left, a0_.right] : List Bytes)).map tx).length) 16 then (some ((y1) ++ (([a0_.left, a0_.right] : List Bytes)))) else none))
theorem d_impl_termsOf_good {a0_ : Cond} {r : List Bytes} (h : d_impl_termsOf a0_ = some r) : Good Tryz.prog 160 [D.agg (Cond.c a0_)] (D.fr 9 1 ((r).map tx)) := by
  refine gd Tryz.func160 [[some (9, 1)]] 13 fun hr Γ hΓ => ?_
  rw [d_impl_termsOf] at h
  obtain ⟨y1, h2, h⟩ := den_bind h
  obtain ⟨h3, h⟩ := den_ok h
  cases h; exact (((pre0.a [.pro 2, .n 9]).g (d_impl_copyTexts_good h2)).w (room_ok h3)).rts hΓ (D.fr 9 1 (((y1).map tx) ++ ((([a0_.left, a0_.right] : List Bytes)).map tx))) (by first | rfl | (simp only [mA] <;> rfl))
def d_impl_CondVars (a0_ : Cond) : Option (List Bytes) := ((d_impl_termsOf (a0_)).bind fun y1 => ((d_impl_varsAmong (y1)).bind fun y3 => ((d_impl_SortedTexts (y3)).bind fun y5 => (some (y5)))))
theorem d_impl_CondVars_good {a0_ : Cond} {r : List Bytes} (h : d_impl_CondVars a0_ = some r) : Good Tryz.prog 114 [D.agg (Cond.c a0_)] (D.fr 9 1 ((r).map tx)) := by
  refine gd Tryz.func114 [[some (9, 1)]] 7 fun hr Γ hΓ => ?_
  rw [d_impl_CondVars] at h
  obtain ⟨y1, h2, h⟩ := den_bind h
  obtain ⟨y3, h4, h⟩ := den_bind h
  obtain ⟨y5, h6, h⟩ := den_bind h
  have h := den_some h; subst h; exact (((pre0.g (d_impl_termsOf_good h2)).g (d_impl_varsAmong_good h4)).g (d_impl_SortedTexts_good h6)).ret hΓ
def d_impl_hasText_L1 (a0_ : List Bytes) (a1_ : Bytes) (k1 : Option Bool) : List Bytes → Nat → Option Bool
  | [], i1 => (k1 )
  | x1_ :: xs1, i1 => (bif (x1_ : Bytes) == (a1_) then (some (true)) else (d_impl_hasText_L1 a0_ a1_ k1 xs1 (i1 + 1) ))
def d_impl_hasText (a0_ : List Bytes) (a1_ : Bytes) : Option Bool := (d_impl_hasText_L1 a0_ a1_ (some (false)) (a0_) 0 )
def d_impl_hasText_S1 (a0_ : List Bytes) (a1_ : Bytes) (ix_ : Int) : St := ⟨[(1, D.str (a1_)), (7, D.sl ((a0_).map tx)), (8, D.int .i64 ((((a0_).map tx).length : Int))), (9, D.int .i64 (ix_))], []⟩
theorem d_impl_hasText_L1w (hΓ : Γ.nt = 17) {a0_ : List Bytes} {a1_ : Bytes} {r : Bool} {k1 : Option Bool} (hE1 : k1 = some r → Ax Γ N Tryz.f63 (.q [[none]] (D.bool (r))) [1, 1] ⟨[], []⟩) (hm1 : (a0_).length ≤ maxLen) : ∀ (rest : List Bytes) (i1 : Nat) , (a0_).drop i1 = rest → d_impl_hasText_L1 a0_ a1_ k1 rest i1  = some r → Ar Γ N Tryz.f63 (.q [[none]] (D.bool (r))) [1, 0, 1, 0] (rest.length + 1) (d_impl_hasText_S1 a0_ a1_ ((i1 : Int))) := by
  intro rest
  induction rest with
  | nil =>
    intro i1  hd1 h
    rw [d_impl_hasText_L1] at h
    refine AWr_succ fun N1 hN1 hS1 => ?_
    exact ((pre0.ge tx hd1).a [.hl 0 [] []]).ex hΓ hN1 (hE1 h)
  | cons x1_ xs1 ih1 =>
    intro i1  hd1 h
    rw [d_impl_hasText_L1] at h
    refine AWr_succ fun N1 hN1 hS1 => ?_
    have o2_ := ((pre0.lt tx hd1).l (map_row tx 1 (dc hd1) rfl))
    obtain ⟨h13, h⟩ | ⟨h13, h⟩ := den_if h
    · have h := den_some h; subst h; exact (o2_.b h13).ret hΓ
    · exact ((o2_.b h13).a [.cn [1, 7, 8, 9] []]).ct hΓ hS1 (iS hd1 hm1) (ih1 (i1 + 1)  (dn hd1) h)
theorem d_impl_hasText_good {a0_ : List Bytes} {a1_ : Bytes} {r : Bool} (h : d_impl_hasText a0_ a1_ = some r) : Good Tryz.prog 63 [D.sl ((a0_).map tx), D.str (a1_)] (D.bool (r)) := by
  refine gd Tryz.func63 [[none]] 17 fun hr Γ hΓ => ?_
  rw [d_impl_hasText] at h
  refine (pre0.a [.cn [1, 7, 8, 9] []]).lp hΓ (d_impl_hasText_L1w hΓ (fun h => ?_) (by have := (Rdb.sl (hr _ (List.mem_of_getElem? (i := 0) rfl))).1; simpa using this) (a0_) 0  rfl h)
  have h := den_some h; subst h; exact pre0.ret hΓ
end Go.Cx
