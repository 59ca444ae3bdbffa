/- What functions of the program compute, and the walks that show it. No condition. -/
import Derived.Test.YtdckcgjimblpkaaDoorPCoversNFn1
namespace Go.Cx
open Go.RowKit Go.Proofs
set_option linter.unusedVariables false
set_option linter.unusedSimpArgs false
set_option maxRecDepth 100000
variable {Γ : Ctx} {N : Nat → St → Prop}
def d_spec_DrawCoversPattern_L1 (y3 : Cur × Fact) (k1 : List Bytes → Option (Fact × Fact)) : List Bytes → Nat → List Int → Int → Int → List Bytes → Option (Fact × Fact)
  | [], i1, u1_2_0, u1_2_1, u1_2_2, w1_6 => (k1 (w1_6))
  | x1_ :: xs1, i1, u1_2_0, u1_2_1, u1_2_2, w1_6 => ((d_spec_l1Str ((⟨u1_2_0, u1_2_1, u1_2_2⟩ : Cur)) (([x1_, [97], [63, 120], [63, 121]] : List Bytes))).bind fun y37 => (bif room (((w1_6).map tx).length + ([[D.str (y37.2)]]).length) 16 then (d_spec_DrawCoversPattern_L1 y3 k1 xs1 (i1 + 1) (y37.1.b) (y37.1.i) (y37.1.h) ((w1_6) ++ ([y37.2]))) else none))
def d_spec_DrawCoversPattern (a0_ : List Int) : Option (Fact × Fact) := ((d_spec_l1New (a0_)).bind fun y1 => ((d_spec_l3Any (y1)).bind fun y3 => ((d_spec_l1Once (y3.1) (3)).bind fun y5 => (bif y5.2 then ((d_spec_l3Any (y5.1)).bind fun y8 => (some ((y3.2, y8.2)))) else (bif decide ((y3.2.args).length ≤ maxLen) then (d_spec_DrawCoversPattern_L1 y3 (fun (q1_5 : List Bytes) => (some ((y3.2, (⟨y3.2.rel, q1_5⟩ : Fact))))) (y3.2.args) 0 (y5.1.b) (y5.1.i) (y5.1.h) (([] : List Bytes))) else none)))))
def d_spec_DrawCoversPattern_S1 (y3 : Cur × Fact) (u1_2_1 : Int) (u1_2_2 : Int) (W0 : List (List D)) (W3 : List (List D)) (ix_ : Int) : St := ⟨[(2, D.ptr 0 0), (3, D.ptr 1 0), (4, D.ptr 2 0), (5, D.ptr 3 0), (6, D.ptr 4 0), (7, D.int .i64 (ix_))], [Ob.box [D.str ([]), D.nil], Ob.box [D.str ([]), D.nil], Ob.box [D.sl (W0), D.int .i64 (u1_2_1), D.int .i64 (u1_2_2)], Ob.box [D.str (y3.2.rel), D.acc 5], Ob.box [D.str (y3.2.rel), D.acc 6], Ob.row .uq 9 1 ((y3.2.args).map tx), Ob.row .uq 9 1 (W3)]⟩
theorem d_spec_DrawCoversPattern_L1w (hΓ : Γ.nt = 42) {y3 : Cur × Fact} {r : Fact × Fact} {k1 : List Bytes → Option (Fact × Fact)} (hE1 : ∀ (q1_5 : List Bytes), k1 q1_5 = some r → Ax Γ N Tryd.f11 (.q [[none, some (9, 1)], [none, some (9, 1)]] (D.tup [D.agg [D.str (r.1.rel), D.fr 9 1 ((r.1.args).map tx)], D.agg [D.str (r.2.rel), D.fr 9 1 ((r.2.args).map tx)]])) [1, 1, 1, 1, 1, 1] ⟨[(2, D.ptr 0 0), (3, D.ptr 1 0), (5, D.ptr 2 0), (6, D.ptr 3 0)], [Ob.box [D.str ([]), D.nil], Ob.box [D.str ([]), D.nil], Ob.box [D.str (y3.2.rel), D.acc 4], Ob.box [D.str (y3.2.rel), D.acc 5], Ob.row .uq 9 1 ((y3.2.args).map tx), Ob.row .uq 9 1 ((q1_5).map tx)]⟩) (hm1 : (y3.2.args).length ≤ maxLen) : ∀ (rest : List Bytes) (i1 : Nat) (u1_2_0 : List Int) (u1_2_1 : Int) (u1_2_2 : Int) (w1_6 : List Bytes), (y3.2.args).drop i1 = rest → d_spec_DrawCoversPattern_L1 y3 k1 rest i1 u1_2_0 u1_2_1 u1_2_2 w1_6 = some r → Ar Γ N Tryd.f11 (.q [[none, some (9, 1)], [none, some (9, 1)]] (D.tup [D.agg [D.str (r.1.rel), D.fr 9 1 ((r.1.args).map tx)], D.agg [D.str (r.2.rel), D.fr 9 1 ((r.2.args).map tx)]])) [1, 1, 1, 1, 1, 0, 1, 0] (rest.length + 1) (d_spec_DrawCoversPattern_S1 y3 u1_2_1 u1_2_2 ((u1_2_0).map yx) ((w1_6).map tx) ((i1 : Int))) := by
  intro rest
  induction rest with
  | nil =>
    intro i1 u1_2_0 u1_2_1 u1_2_2 w1_6 hd1 h
    rw [d_spec_DrawCoversPattern_L1] at h
    refine AWr_succ fun N1 hN1 hS1 => ?_
    exact ((pre0.ge tx hd1).a [.hl 0 [2, 3, 5, 6] [0, 1, 3, 4, 5, 6]]).ex hΓ hN1 (hE1 (w1_6) h)
  | cons x1_ xs1 ih1 =>
    intro i1 u1_2_0 u1_2_1 u1_2_2 w1_6 hd1 h
    rw [d_spec_DrawCoversPattern_L1] at h
    refine AWr_succ fun N1 hN1 hS1 => ?_
    obtain ⟨y37, h38, h⟩ := den_bind h
    obtain ⟨h39, h⟩ := den_ok h
    exact (((((((pre0.lt tx hd1).a [.n2 [0, 1, 2, 3, 4, 5, 6, 7, 8, 9, 10, 11, 12, 13] [0, 1, 2, 3, 4, 5, 6, 7, 8, 9, 10, 11, 12, 13] 9 11 [0, 1] [2]]).i (own_ixl tx 1 (dc hd1))).o 1 1 .uq (map_get tx (dc hd1))).w (show GoodP Tryd.prog 28 (Cur.c ((⟨u1_2_0, u1_2_1, u1_2_2⟩ : Cur))) (Cur.c y37.1) [D.fr 9 1 ((([x1_, [97], [63, 120], [63, 121]] : List Bytes)).map tx)] (D.str (y37.2)) from by simpa only [List.map_append, List.map_cons, List.map_nil, List.map_drop, List.map_take] using d_spec_l1Str_good h38)).w (room_ok h39)).a [.gp [[none, none, none], [some (9, 1)]] (Cur.c y37.1) (D.str (y37.2)), .cn [2, 3, 4, 5, 6, 7] [0, 1, 2, 3, 4, 5, 9]]).cs hΓ hS1 (d_spec_DrawCoversPattern_S1 y3 (y37.1.i) (y37.1.h) ((y37.1.b).map yx) (((w1_6).map tx) ++ ([[D.str (y37.2)]])) (IntKind.i64.wrap (((i1 : Int)) + (1)))) (by first | (simp only [iS hd1 hm1, mA] <;> rfl) | (simp only [iS hd1 hm1, mA, Fact.c, Pair.c, Cond.c, Action.c, Rule.c, Token.c, Match.c, Alpha.c, Node.c, Network.c, Stamp.c] <;> rfl)) (ih1 (i1 + 1) (y37.1.b) (y37.1.i) (y37.1.h) ((w1_6) ++ ([y37.2])) (dn hd1) h)
theorem d_spec_DrawCoversPattern_good {a0_ : List Int} {r : Fact × Fact} (h : d_spec_DrawCoversPattern a0_ = some r) : Good Tryd.prog 11 [D.sl ((a0_).map yx)] (D.tup [D.agg [D.str (r.1.rel), D.fr 9 1 ((r.1.args).map tx)], D.agg [D.str (r.2.rel), D.fr 9 1 ((r.2.args).map tx)]]) := by
  refine gd Tryd.func11 [[none, some (9, 1)], [none, some (9, 1)]] 42 fun hr Γ hΓ => ?_
  rw [d_spec_DrawCoversPattern] at h
  obtain ⟨y1, h2, h⟩ := den_bind h
  obtain ⟨y3, h4, h⟩ := den_bind h
  obtain ⟨y5, h6, h⟩ := den_bind h
  have o1_ := (((pre0.hn (d_spec_l1New_good h2)).hp [[none, none, none]] (d_spec_l3Any_good h4)).hp [[none, none, none], [none]] (d_spec_l1Once_good h6))
  obtain ⟨h7, h⟩ | ⟨h7, h⟩ := den_if h
  · obtain ⟨y8, h9, h⟩ := den_bind h
    cases h; exact (((o1_.b h7).a [.n2 [0, 1, 2, 3, 4] [0, 1, 2, 3, 4] 2 3 [0] [2]]).hp [[none, none, none]] (d_spec_l3Any_good h9)).ret hΓ
  · obtain ⟨h40, h⟩ := den_ok h
    refine ((o1_.b h7).a [.pb 5 1 9 1, .cn [2, 3, 4, 5, 6, 7] [0, 1, 2, 4, 5, 3, 6]]).lp hΓ (d_spec_DrawCoversPattern_L1w hΓ (fun q1_5 h => ?_) (of_decide_eq_true h40) (y3.2.args) 0 (y5.1.b) (y5.1.i) (y5.1.h) (([] : List Bytes)) rfl h)
    cases h; exact (pre0.a [.n2 [0, 1, 2, 3] [0, 1, 2, 3] 2 3 [1] [0]]).ret hΓ
end Go.Cx
