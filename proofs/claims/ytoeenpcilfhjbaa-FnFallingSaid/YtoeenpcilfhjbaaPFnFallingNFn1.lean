/- What functions of the program compute, and the walks that show it. No condition. -/
import Derived.Test.YtoeenpcilfhjbaaPFnFallingSrM
namespace Go.Cx
open Go.RowKit Go.Proofs
set_option linter.unusedVariables false
set_option linter.unusedSimpArgs false
set_option maxRecDepth 100000
variable {Γ : Ctx} {N : Nat → St → Prop}
def d_spec_l1New_L1 (a0_ : List Int) (k1 : Int → Option Cur) : List Int → Nat → Int → Option Cur
  | [], i1, v1_3 => (k1 (v1_3))
  | x1_ :: xs1, i1, v1_3 => (bif decide (((i1 : Int) : Int) < (4000)) then (d_spec_l1New_L1 a0_ k1 xs1 (i1 + 1) (bandI .i64 (IntKind.i64.wrap ((IntKind.i64.wrap ((IntKind.i64.wrap ((v1_3) * (167))) + (IntKind.i64.wrap (x1_)))) + (29))) (1073741823))) else (k1 (v1_3)))
def d_spec_l1New (a0_ : List Int) : Option Cur := (bif decide ((a0_).length ≤ maxLen) then (d_spec_l1New_L1 a0_ (fun (z1_3 : Int) => (some ((⟨a0_, 0, z1_3⟩ : Cur)))) (a0_) 0 (IntKind.i64.wrap ((851207) + (IntKind.i64.wrap ((3) * ((((a0_).map yx).length : Int))))))) else none)
def d_spec_l1New_S1 (a0_ : List Int) (v1_3 : Int) (ix_ : Int) : St := ⟨[(0, D.sl ((a0_).map yx)), (3, D.int .i64 (v1_3)), (4, D.int .i64 (ix_))], []⟩
theorem d_spec_l1New_L1w (hΓ : Γ.nt = 33) {a0_ : List Int} {r : Cur} {k1 : Int → Option Cur} (hE1 : ∀ (z1_3 : Int), k1 z1_3 = some r → Ax Γ N Try.f13 (.n (Cur.c r)) [1, 1, 1] ⟨[(0, D.sl ((a0_).map yx)), (3, D.int .i64 (z1_3))], []⟩) (hm1 : (a0_).length ≤ maxLen) : ∀ (rest : List Int) (i1 : Nat) (v1_3 : Int), (a0_).drop i1 = rest → d_spec_l1New_L1 a0_ k1 rest i1 v1_3 = some r → Ar Γ N Try.f13 (.n (Cur.c r)) [1, 1, 0, 1, 0] (rest.length + 1) (d_spec_l1New_S1 a0_ v1_3 ((i1 : Int))) := by
  intro rest
  induction rest with
  | nil =>
    intro i1 v1_3 hd1 h
    rw [d_spec_l1New_L1] at h
    refine AWr_succ fun N1 hN1 hS1 => ?_
    exact (((((pre0.ge yx hd1).ge yx hd1).ge yx hd1).F 1).a [.hl 0 [0, 3] []]).ex hΓ hN1 (hE1 (v1_3) h)
  | cons x1_ xs1 ih1 =>
    intro i1 v1_3 hd1 h
    rw [d_spec_l1New_L1] at h
    refine AWr_succ fun N1 hN1 hS1 => ?_
    have o1_ := (((pre0.lt yx hd1).lt yx hd1).lt yx hd1)
    obtain ⟨h13, h⟩ | ⟨h13, h⟩ := den_if h
    · exact (((o1_.b h13).l (map_row yx 1 (dc hd1) rfl)).a [.cn [0, 3, 4] []]).ct hΓ hS1 (iS hd1 hm1) (ih1 (i1 + 1) (bandI .i64 (IntKind.i64.wrap ((IntKind.i64.wrap ((IntKind.i64.wrap ((v1_3) * (167))) + (IntKind.i64.wrap (x1_)))) + (29))) (1073741823)) (dn hd1) h)
    · exact ((o1_.b h13).a [.hl 0 [0, 3] []]).ex hΓ hN1 (hE1 (v1_3) h)
theorem d_spec_l1New_good {a0_ : List Int} {r : Cur} (h : d_spec_l1New a0_ = some r) : GoodN Try.prog 13 [D.sl ((a0_).map yx)] (Cur.c r) := by
  refine gdN Try.func13 33 fun hr Γ hΓ => ?_
  rw [d_spec_l1New] at h
  obtain ⟨h14, h⟩ := den_ok h
  refine (pre0.a [.cn [0, 3, 4] []]).lp hΓ (d_spec_l1New_L1w hΓ (fun z1_3 h => ?_) (of_decide_eq_true h14) (a0_) 0 (IntKind.i64.wrap ((851207) + (IntKind.i64.wrap ((3) * ((((a0_).map yx).length : Int)))))) rfl h)
  cases h; exact pre0.ret hΓ
def d_spec_l1Byte (a0_ : Cur) : Option (Cur × Int) := (bif decide ((a0_.i : Int) < ((((a0_.b).map yx).length : Int))) then ((atI (a0_.b) (a0_.i)).bind fun x2 => (some (((⟨a0_.b, IntKind.i64.wrap ((a0_.i) + (1)), IntKind.i64.wrap ((IntKind.i64.wrap ((a0_.h) * (6364136223846793005))) + (1442695040888963407))⟩ : Cur), bandI .i64 (IntKind.i64.wrap ((bandI .i64 (bxorI .i64 (shrI .i64 (IntKind.i64.wrap ((IntKind.i64.wrap ((a0_.h) * (6364136223846793005))) + (1442695040888963407))) (35)) (shrI .i64 (IntKind.i64.wrap ((IntKind.i64.wrap ((a0_.h) * (6364136223846793005))) + (1442695040888963407))) (45))) (255)) + (IntKind.i64.wrap (x2)))) (255))))) else (some (((⟨a0_.b, a0_.i, IntKind.i64.wrap ((IntKind.i64.wrap ((a0_.h) * (6364136223846793005))) + (1442695040888963407))⟩ : Cur), bandI .i64 (bxorI .i64 (shrI .i64 (IntKind.i64.wrap ((IntKind.i64.wrap ((a0_.h) * (6364136223846793005))) + (1442695040888963407))) (35)) (shrI .i64 (IntKind.i64.wrap ((IntKind.i64.wrap ((a0_.h) * (6364136223846793005))) + (1442695040888963407))) (45))) (255)))))
theorem d_spec_l1Byte_good {a0_ : Cur} {r : Cur × Int} (h : d_spec_l1Byte a0_ = some r) : GoodP Try.prog 20 (Cur.c a0_) (Cur.c r.1) [] (D.int .i64 (r.2)) := by
  refine gdP Try.func20 [[none, none, none], [none]] 58 [D.sl ((a0_.b).map yx), D.int .i64 (a0_.i), D.int .i64 (a0_.h)] [] [] fun hr v0_ Γ hΓ => ?_
  rw [d_spec_l1Byte] at h
  obtain ⟨h1, h⟩ | ⟨h1, h⟩ := den_if h
  · obtain ⟨x2, h3, h⟩ := den_bind h
    cases h; exact ((((pre0.a [.n 10, .n 9]).b h1).a [.n 12]).l (at_row yx 1 h3 rfl)).ret hΓ
  · cases h; exact ((pre0.a [.n 10, .n 9]).b h1).ret hΓ
def d_spec_l1Below (a0_ : Cur) (a1_ : Int) : Option (Cur × Int) := (bif decide ((a1_ : Int) ≤ (0)) then (some ((a0_, 0))) else (bif decide ((a1_ : Int) ≤ (256)) then ((d_spec_l1Byte (a0_)).bind fun y3 => (bif decide (0 ≤ (y3.2 : Int)) && decide (0 < (a1_ : Int)) then (some ((y3.1, (y3.2 : Int) % (a1_)))) else none)) else ((d_spec_l1Byte (a0_)).bind fun y6 => ((d_spec_l1Byte (y6.1)).bind fun y8 => ((d_spec_l1Byte (y8.1)).bind fun y10 => (bif decide (0 ≤ (IntKind.i64.wrap ((IntKind.i64.wrap ((IntKind.i64.wrap ((y6.2) * (65536))) + (IntKind.i64.wrap ((y8.2) * (256))))) + (y10.2)) : Int)) && decide (0 < (a1_ : Int)) then (some ((y10.1, (IntKind.i64.wrap ((IntKind.i64.wrap ((IntKind.i64.wrap ((y6.2) * (65536))) + (IntKind.i64.wrap ((y8.2) * (256))))) + (y10.2)) : Int) % (a1_)))) else none))))))
theorem d_spec_l1Below_good {a0_ : Cur} {a1_ : Int} {r : Cur × Int} (h : d_spec_l1Below a0_ a1_ = some r) : GoodP Try.prog 14 (Cur.c a0_) (Cur.c r.1) [D.int .i64 (a1_)] (D.int .i64 (r.2)) := by
  refine gdP Try.func14 [[none, none, none], [none]] 31 [D.sl ((a0_.b).map yx), D.int .i64 (a0_.i), D.int .i64 (a0_.h)] [D.int .i64 (a1_)] [] fun hr v0_ Γ hΓ => ?_
  rw [d_spec_l1Below] at h
  obtain ⟨h1, h⟩ | ⟨h1, h⟩ := den_if h
  · cases h; exact (pre0.b h1).ret hΓ
  · obtain ⟨h2, h⟩ | ⟨h2, h⟩ := den_if h
    · obtain ⟨y3, h4, h⟩ := den_bind h
      obtain ⟨h5, h⟩ := den_ok h
      cases h; exact ((((pre0.b h1).b h2).hp [[none, none, none]] (d_spec_l1Byte_good h4)).w (quo_ok .i64 h5)).ret hΓ
    · obtain ⟨y6, h7, h⟩ := den_bind h
      obtain ⟨y8, h9, h⟩ := den_bind h
      obtain ⟨y10, h11, h⟩ := den_bind h
      obtain ⟨h12, h⟩ := den_ok h
      cases h; exact ((((((pre0.b h1).b h2).hp [[none, none, none]] (d_spec_l1Byte_good h7)).hp [[none, none, none]] (d_spec_l1Byte_good h9)).hp [[none, none, none]] (d_spec_l1Byte_good h11)).w (quo_ok .i64 h12)).ret hΓ
def d_spec_l1Once (a0_ : Cur) (a1_ : Int) : Option (Cur × Bool) := ((d_spec_l1Below (a0_) (a1_)).bind fun y1 => (some ((y1.1, (y1.2 : Int) == (0)))))
theorem d_spec_l1Once_good {a0_ : Cur} {a1_ : Int} {r : Cur × Bool} (h : d_spec_l1Once a0_ a1_ = some r) : GoodP Try.prog 15 (Cur.c a0_) (Cur.c r.1) [D.int .i64 (a1_)] (D.bool (r.2)) := by
  refine gdP Try.func15 [[none, none, none], [none]] 9 [D.sl ((a0_.b).map yx), D.int .i64 (a0_.i), D.int .i64 (a0_.h)] [D.int .i64 (a1_)] [] fun hr v0_ Γ hΓ => ?_
  rw [d_spec_l1Once] at h
  obtain ⟨y1, h2, h⟩ := den_bind h
  cases h; exact (pre0.hp [[none, none, none], [none]] (d_spec_l1Below_good h2)).ret hΓ
def d_spec_l1Int (a0_ : Cur) (a1_ : List Int) : Option (Cur × Int) := ((d_spec_l1Below (a0_) ((((a1_).map ixx).length : Int))).bind fun y1 => ((atI (a1_) (y1.2)).bind fun x3 => (some ((y1.1, x3)))))
theorem d_spec_l1Int_good {a0_ : Cur} {a1_ : List Int} {r : Cur × Int} (h : d_spec_l1Int a0_ a1_ = some r) : GoodP Try.prog 21 (Cur.c a0_) (Cur.c r.1) [D.fr 3 1 ((a1_).map ixx)] (D.int .i64 (r.2)) := by
  refine gdP Try.func21 [[none, none, none], [none]] 12 [D.sl ((a0_.b).map yx), D.int .i64 (a0_.i), D.int .i64 (a0_.h)] [D.acc 1] [Ob.row .uq 3 1 ((a1_).map ixx)] fun hr v0_ Γ hΓ => ?_
  rw [d_spec_l1Int] at h
  obtain ⟨y1, h2, h⟩ := den_bind h
  obtain ⟨x3, h4, h⟩ := den_bind h
  cases h; exact (((pre0.hp [[none, none, none], [none]] (d_spec_l1Below_good h2)).i (own_at ixx 1 h4)).o 1 1 .uq (map_get ixx (atI_get h4))).ret hΓ
def d_spec_l1Odd (a0_ : Cur) : Option (Cur × Int) := ((d_spec_l1Int (a0_) (([-1, 0, 1, 2, 9, 10, 24, 25, 200, 201, 9999, 10000, 9223372036854775807, -9223372036854775808] : List Int))).bind fun y1 => (some ((y1.1, y1.2))))
theorem d_spec_l1Odd_good {a0_ : Cur} {r : Cur × Int} (h : d_spec_l1Odd a0_ = some r) : GoodP Try.prog 16 (Cur.c a0_) (Cur.c r.1) [] (D.int .i64 (r.2)) := by
  refine gdP Try.func16 [[none, none, none], [none]] 6 [D.sl ((a0_.b).map yx), D.int .i64 (a0_.i), D.int .i64 (a0_.h)] [] [] fun hr v0_ Γ hΓ => ?_
  rw [d_spec_l1Odd] at h
  obtain ⟨y1, h2, h⟩ := den_bind h
  cases h; exact (pre0.hp [[none, none, none], [some (3, 1)]] (d_spec_l1Int_good h2)).ret hΓ
def d_spec_DrawFalling_L1  (k1 : List Int → Option (List Int)) : Nat → Int → List Int → Int → Int → List Int → Option (List Int)
  | 0, _, _, _, _, _ => none
  | n1 + 1, v1_5, u1_0_0, u1_0_1, u1_0_2, w1_1 => (bif decide ((v1_5 : Int) > (0)) then ((d_spec_l1Below ((⟨u1_0_0, u1_0_1, u1_0_2⟩ : Cur)) (5)).bind fun y36 => ((d_spec_l1Once (y36.1) (8)).bind fun y38 => (bif y38.2 then ((d_spec_l1Odd (y38.1)).bind fun y41 => (bif room (((w1_1).map ixx).length + ([[D.int .i64 (y41.2)]]).length) 8 then (d_spec_DrawFalling_L1  k1 n1 (IntKind.i64.wrap ((v1_5) - (1))) (y41.1.b) (y41.1.i) (y41.1.h) ((w1_1) ++ ([y41.2]))) else none)) else (bif room (((w1_1).map ixx).length + ([[D.int .i64 (y36.2)]]).length) 8 then (d_spec_DrawFalling_L1  k1 n1 (IntKind.i64.wrap ((v1_5) - (1))) (y38.1.b) (y38.1.i) (y38.1.h) ((w1_1) ++ ([y36.2]))) else none)))) else (k1 (w1_1)))
def d_spec_DrawFalling (a0_ : List Int) : Option (List Int) := ((d_spec_l1New (a0_)).bind fun y1 => ((d_spec_l1Below (y1) (6)).bind fun y3 => (d_spec_DrawFalling_L1  (fun (q1_0 : List Int) => (some (q1_0))) fuel (y3.2) (y3.1.b) (y3.1.i) (y3.1.h) (([] : List Int)))))
def d_spec_DrawFalling_S1 (v1_5 : Int) (u1_0_1 : Int) (u1_0_2 : Int) (W1 : List (List D)) (W4 : List (List D)) : St := ⟨[(3, D.ptr 0 0), (4, D.acc 1), (5, D.int .i64 (v1_5))], [Ob.box [D.sl (W1), D.int .i64 (u1_0_1), D.int .i64 (u1_0_2)], Ob.row .uq 3 1 (W4)]⟩
theorem d_spec_DrawFalling_L1w (hΓ : Γ.nt = 27)  {r : List Int} {k1 : List Int → Option (List Int)} (hE1 : ∀ (q1_0 : List Int), k1 q1_0 = some r → Ax Γ N Try.f6 (.q [[some (3, 1)]] (D.fr 3 1 ((r).map ixx))) [1, 1, 1, 1] ⟨[(4, D.acc 0)], [Ob.row .uq 3 1 ((q1_0).map ixx)]⟩) : ∀ (n1 : Nat) (v1_5 : Int) (u1_0_0 : List Int) (u1_0_1 : Int) (u1_0_2 : Int) (w1_1 : List Int), d_spec_DrawFalling_L1  k1 n1 v1_5 u1_0_0 u1_0_1 u1_0_2 w1_1 = some r → Ar Γ N Try.f6 (.q [[some (3, 1)]] (D.fr 3 1 ((r).map ixx))) [1, 1, 1, 0, 1, 0] n1 (d_spec_DrawFalling_S1 v1_5 u1_0_1 u1_0_2 ((u1_0_0).map yx) ((w1_1).map ixx)) := by
  intro n
  induction n with
  | zero => intro v1_5 u1_0_0 u1_0_1 u1_0_2 w1_1 h; simp [d_spec_DrawFalling_L1] at h
  | succ n1 ih1 =>
    intro v1_5 u1_0_0 u1_0_1 u1_0_2 w1_1 h
    rw [d_spec_DrawFalling_L1] at h
    refine AWr_succ fun N1 hN1 hS1 => ?_
    obtain ⟨h35, h⟩ | ⟨h35, h⟩ := den_if h
    · obtain ⟨y36, h37, h⟩ := den_bind h
      obtain ⟨y38, h39, h⟩ := den_bind h
      have o2_ := ((((pre0.b h35).a [.gp [[none, none, none], [none]] (Cur.c y36.1) (D.int .i64 (y36.2))]).w (show GoodP Try.prog 14 (Cur.c ((⟨u1_0_0, u1_0_1, u1_0_2⟩ : Cur))) (Cur.c y36.1) [D.int .i64 (5)] (D.int .i64 (y36.2)) from by simpa only [List.map_append, List.map_cons, List.map_nil, List.map_drop, List.map_take] using d_spec_l1Below_good h37)).hp [[none, none, none], [none]] (d_spec_l1Once_good h39))
      obtain ⟨h40, h⟩ | ⟨h40, h⟩ := den_if h
      · obtain ⟨y41, h42, h⟩ := den_bind h
        obtain ⟨h43, h⟩ := den_ok h
        exact ((((o2_.b h40).hp [[none, none, none]] (d_spec_l1Odd_good h42)).w (room_ok h43)).a [.cn [3, 4, 5] [0, 3]]).cs hΓ hS1 (d_spec_DrawFalling_S1 (IntKind.i64.wrap ((v1_5) - (1))) (y41.1.i) (y41.1.h) ((y41.1.b).map yx) (((w1_1).map ixx) ++ ([[D.int .i64 (y41.2)]]))) (by first | (simp only [mA] <;> rfl) | (simp only [mA, Fact.c, Pair.c, Cond.c, Action.c, Rule.c, Token.c, Match.c, Alpha.c, Node.c, Network.c, Stamp.c] <;> rfl)) (ih1 (IntKind.i64.wrap ((v1_5) - (1))) (y41.1.b) (y41.1.i) (y41.1.h) ((w1_1) ++ ([y41.2])) h)
      · obtain ⟨h44, h⟩ := den_ok h
        exact (((o2_.b h40).w (room_ok h44)).a [.cn [3, 4, 5] [0, 3]]).cs hΓ hS1 (d_spec_DrawFalling_S1 (IntKind.i64.wrap ((v1_5) - (1))) (y38.1.i) (y38.1.h) ((y38.1.b).map yx) (((w1_1).map ixx) ++ ([[D.int .i64 (y36.2)]]))) (by first | (simp only [mA] <;> rfl) | (simp only [mA, Fact.c, Pair.c, Cond.c, Action.c, Rule.c, Token.c, Match.c, Alpha.c, Node.c, Network.c, Stamp.c] <;> rfl)) (ih1 (IntKind.i64.wrap ((v1_5) - (1))) (y38.1.b) (y38.1.i) (y38.1.h) ((w1_1) ++ ([y36.2])) h)
    · exact ((pre0.b h35).a [.hl 0 [4] [1]]).ex hΓ hN1 (hE1 (w1_1) h)
theorem d_spec_DrawFalling_good {a0_ : List Int} {r : List Int} (h : d_spec_DrawFalling a0_ = some r) : Good Try.prog 6 [D.sl ((a0_).map yx)] (D.fr 3 1 ((r).map ixx)) := by
  refine gd Try.func6 [[some (3, 1)]] 27 fun hr Γ hΓ => ?_
  rw [d_spec_DrawFalling] at h
  obtain ⟨y1, h2, h⟩ := den_bind h
  obtain ⟨y3, h4, h⟩ := den_bind h
  refine (((pre0.hn (d_spec_l1New_good h2)).hp [[none, none, none], [none]] (d_spec_l1Below_good h4)).a [.cn [3, 4, 5] [0, 1]]).lp hΓ (d_spec_DrawFalling_L1w hΓ (fun q1_0 h => ?_) fuel (y3.2) (y3.1.b) (y3.1.i) (y3.1.h) (([] : List Int)) h)
  have h := den_some h; subst h; exact pre0.ret hΓ
end Go.Cx
