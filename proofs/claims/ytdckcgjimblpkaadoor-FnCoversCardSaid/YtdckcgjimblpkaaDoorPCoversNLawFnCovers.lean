/- What functions of the program compute, and the walks that show it. No condition. -/
import Derived.Test.YtdckcgjimblpkaaDoorPCoversNFn2
namespace Go.Cx
open Go.RowKit Go.Proofs
set_option linter.unusedVariables false
set_option linter.unusedSimpArgs false
set_option maxRecDepth 100000
variable {Γ : Ctx} {N : Nat → St → Prop}
def d_laws_big (a0_ : List Int) : Option Bool := (some (decide (((((a0_).map yx).length : Int) : Int) > (4096))))
theorem d_laws_big_good {a0_ : List Int} {r : Bool} (h : d_laws_big a0_ = some r) : Good Tryd.prog 5 [D.sl ((a0_).map yx)] (D.bool (r)) := by
  refine gd Tryd.func5 [[none]] 6 fun hr Γ hΓ => ?_
  rw [d_laws_big] at h
  cases h; exact pre0.ret hΓ
def d_laws_FnCovers_L1 (y4 : Fact × Fact) (k1 : List Bytes → List Bytes → Option Bool) : Nat → Int → List Fact → List Bytes → List Bytes → Option Bool
  | 0, _, _, _, _ => none
  | n1 + 1, v1_10, w1_2, w1_3, w1_4 => (bif decide ((v1_10 : Int) < ((((w1_2).map Fact.c).length : Int))) then ((atI (w1_2) (v1_10)).bind fun x57 => ((d_spec_MatchFact ((⟨y4.2.rel, w1_4⟩ : Fact)) (x57) ([])).bind fun y59 => ((d_impl_MatchFact ((⟨y4.1.rel, w1_3⟩ : Fact)) (x57) ([])).bind fun y61 => (bif y59.2 then (bif !(y61.2) then (some (false)) else (d_laws_FnCovers_L1 y4 k1 n1 (IntKind.i64.wrap ((v1_10) + (1))) (w1_2) (w1_3) (w1_4))) else (d_laws_FnCovers_L1 y4 k1 n1 (IntKind.i64.wrap ((v1_10) + (1))) (w1_2) (w1_3) (w1_4)))))) else (k1 (w1_3) (w1_4)))
def d_laws_FnCovers_L2 (y4 : Fact × Fact) (y16 : List Fact) (k2 : Option Bool) : List Fact → Nat → Option Bool
  | [], i2 => (k2 )
  | x2_ :: xs2, i2 => ((d_spec_MatchFact (y4.2) (x2_) ([])).bind fun y108 => ((d_impl_MatchFact (y4.1) (x2_) ([])).bind fun y110 => (bif y108.2 then (bif !(y110.2) then (some (false)) else (d_laws_FnCovers_L2 y4 y16 k2 xs2 (i2 + 1) )) else (d_laws_FnCovers_L2 y4 y16 k2 xs2 (i2 + 1) ))))
def d_laws_FnCovers (a0_ : List Int) : Option Bool := ((d_laws_big (a0_)).bind fun y1 => (bif y1 then (some (true)) else ((d_spec_DrawCoversPattern (a0_)).bind fun y4 => ((d_impl_CoversPattern (y4.1) (y4.1)).bind fun y6 => ((d_spec_IsPattern (y4.1)).bind fun y8 => (bif (y6 : Bool) != (y8) then (some (false)) else ((d_impl_CoversPattern (y4.1) (y4.2)).bind fun y11 => (bif !(y11) then (some (true)) else ((d_spec_DrawInstance (a0_)).bind fun y14 => ((d_spec_DrawAreFacts (a0_)).bind fun y16 => ((d_spec_Instance (y4.2) (y14.2)).bind fun y18 => (bif y18.2 then (bif room (((y16).map Fact.c).length + ([[D.str (y18.1.rel), D.sl ((y18.1.args).map tx)]]).length) 40 then (d_laws_FnCovers_L1 y4 (fun (q1_2 : List Bytes) (q1_3 : List Bytes) => ((d_impl_CoversPattern ((⟨y4.2.rel, q1_3⟩ : Fact)) ((⟨y4.1.rel, q1_2⟩ : Fact))).bind fun y65 => (bif !(y65) then (some (true)) else ((d_impl_ShapeOf ((⟨y4.1.rel, q1_2⟩ : Fact))).bind fun y68 => ((d_impl_ShapeOf ((⟨y4.2.rel, q1_3⟩ : Fact))).bind fun y70 => ((d_spec_SamePattern (y68) (y70)).bind fun y72 => (some (y72)))))))) fuel (0) ((y16) ++ ([y18.1])) (y4.1.args) (y4.2.args)) else none) else (bif decide ((y16).length ≤ maxLen) then (d_laws_FnCovers_L2 y4 y16 ((d_impl_CoversPattern (y4.2) (y4.1)).bind fun y114 => (bif !(y114) then (some (true)) else ((d_impl_ShapeOf (y4.1)).bind fun y117 => ((d_impl_ShapeOf (y4.2)).bind fun y119 => ((d_spec_SamePattern (y117) (y119)).bind fun y121 => (some (y121))))))) (y16) 0 ) else none)))))))))))))
def d_laws_FnCovers_S1 (y4 : Fact × Fact) (v1_10 : Int) (W1 : List (List D)) (W2 : List (List D)) (W3 : List (List D)) : St := ⟨[(3, D.ptr 0 0), (4, D.ptr 1 0), (7, D.acc 2), (10, D.int .i64 (v1_10))], [Ob.box [D.str (y4.1.rel), D.acc 3], Ob.box [D.str (y4.2.rel), D.acc 4], Ob.row .uq 38 2 (W1), Ob.row .uq 9 1 (W2), Ob.row .uq 9 1 (W3)]⟩
theorem d_laws_FnCovers_L1w (hΓ : Γ.nt = 90) {y4 : Fact × Fact} {r : Bool} {k1 : List Bytes → List Bytes → Option Bool} (hE1 : ∀ (q1_2 : List Bytes) (q1_3 : List Bytes), k1 q1_2 q1_3 = some r → Ax Γ N Tryd.f4 (.q [[none]] (D.bool (r))) [1, 1, 1, 1, 1, 1, 1, 1, 1, 1] ⟨[(3, D.ptr 0 0), (4, D.ptr 1 0)], [Ob.box [D.str (y4.1.rel), D.acc 2], Ob.box [D.str (y4.2.rel), D.acc 3], Ob.row .uq 9 1 ((q1_2).map tx), Ob.row .uq 9 1 ((q1_3).map tx)]⟩) : ∀ (n1 : Nat) (v1_10 : Int) (w1_2 : List Fact) (w1_3 : List Bytes) (w1_4 : List Bytes), d_laws_FnCovers_L1 y4 k1 n1 v1_10 w1_2 w1_3 w1_4 = some r → Ar Γ N Tryd.f4 (.q [[none]] (D.bool (r))) [1, 1, 1, 1, 1, 1, 1, 1, 1, 0, 1, 0] n1 (d_laws_FnCovers_S1 y4 v1_10 ((w1_2).map Fact.c) ((w1_3).map tx) ((w1_4).map tx)) := by
  intro n
  induction n with
  | zero => intro v1_10 w1_2 w1_3 w1_4 h; simp [d_laws_FnCovers_L1] at h
  | succ n1 ih1 =>
    intro v1_10 w1_2 w1_3 w1_4 h
    rw [d_laws_FnCovers_L1] at h
    refine AWr_succ fun N1 hN1 hS1 => ?_
    obtain ⟨h56, h⟩ | ⟨h56, h⟩ := den_if h
    · obtain ⟨x57, h58, h⟩ := den_bind h
      obtain ⟨y59, h60, h⟩ := den_bind h
      obtain ⟨y61, h62, h⟩ := den_bind h
      have o5_ := ((((((((((pre0.b h56).a [.n 10]).i (own_at Fact.c 2 h58)).o 2 2 .uq (map_get Fact.c (atI_get h58))).w (show Good Tryd.prog 15 [D.agg [D.str (y4.2.rel), D.sl ((w1_4).map tx)], D.agg (Fact.c (x57)), D.sl ([])] (D.tup [D.fr 71 2 ((y59.1).map Pair.c), D.bool (y59.2)]) from by first | (simpa only [List.map_append, List.map_cons, List.map_nil, List.map_drop, List.map_take] using d_spec_MatchFact_good h60) | exact d_spec_MatchFact_good h60)).a [.d (D.tup [D.fr 71 2 ((y59.1).map Pair.c), D.bool (y59.2)]), .n 10]).i (own_at Fact.c 2 h58)).o 2 2 .uq (map_get Fact.c (atI_get h58))).w (show Good Tryd.prog 16 [D.agg [D.str (y4.1.rel), D.sl ((w1_3).map tx)], D.agg (Fact.c (x57)), D.sl ([])] (D.tup [D.fr 71 2 ((y61.1).map Pair.c), D.bool (y61.2)]) from by first | (simpa only [List.map_append, List.map_cons, List.map_nil, List.map_drop, List.map_take] using d_impl_MatchFact_good h62) | exact d_impl_MatchFact_good h62)).a [.d (D.tup [D.fr 71 2 ((y61.1).map Pair.c), D.bool (y61.2)])])
      obtain ⟨h63, h⟩ | ⟨h63, h⟩ := den_if h
      · have o6_ := (o5_.r 3 h63)
        obtain ⟨h64, h⟩ | ⟨h64, h⟩ := den_if h
        · have h := den_some h; subst h; exact (o6_.b h64).ret hΓ
        · exact ((o6_.b h64).a [.cn [3, 4, 7, 10] [0, 1, 2, 3, 4]]).cf hΓ hS1 (ih1 (IntKind.i64.wrap ((v1_10) + (1))) (w1_2) (w1_3) (w1_4) h)
      · exact (((o5_.r 3 h63).F 1).a [.cn [3, 4, 7, 10] [0, 1, 2, 3, 4]]).cf hΓ hS1 (ih1 (IntKind.i64.wrap ((v1_10) + (1))) (w1_2) (w1_3) (w1_4) h)
    · exact ((pre0.b h56).a [.hl 0 [3, 4] [0, 1, 3, 4]]).ex hΓ hN1 (hE1 (w1_3) (w1_4) h)
def d_laws_FnCovers_S2 (y4 : Fact × Fact) (y16 : List Fact) (ix_ : Int) : St := ⟨[(3, D.ptr 0 0), (4, D.ptr 1 0), (7, D.acc 2), (10, D.int .i64 (ix_))], [Ob.box [D.str (y4.1.rel), D.acc 3], Ob.box [D.str (y4.2.rel), D.acc 4], Ob.row .uq 38 2 ((y16).map Fact.c), Ob.row .uq 9 1 ((y4.1.args).map tx), Ob.row .uq 9 1 ((y4.2.args).map tx)]⟩
theorem d_laws_FnCovers_L2w (hΓ : Γ.nt = 90) {y4 : Fact × Fact} {y16 : List Fact} {r : Bool} {k2 : Option Bool} (hE2 : k2 = some r → Ax Γ N Tryd.f4 (.q [[none]] (D.bool (r))) [1, 1, 1, 1, 1, 1, 1, 1, 1, 1] ⟨[(3, D.ptr 0 0), (4, D.ptr 1 0)], [Ob.box [D.str (y4.1.rel), D.acc 2], Ob.box [D.str (y4.2.rel), D.acc 3], Ob.row .uq 9 1 ((y4.1.args).map tx), Ob.row .uq 9 1 ((y4.2.args).map tx)]⟩) (hm2 : (y16).length ≤ maxLen) : ∀ (rest : List Fact) (i2 : Nat) , (y16).drop i2 = rest → d_laws_FnCovers_L2 y4 y16 k2 rest i2  = some r → Ar Γ N Tryd.f4 (.q [[none]] (D.bool (r))) [1, 1, 1, 1, 1, 1, 1, 1, 1, 0, 1, 0] (rest.length + 1) (d_laws_FnCovers_S2 y4 y16 ((i2 : Int))) := by
  intro rest
  induction rest with
  | nil =>
    intro i2  hd2 h
    rw [d_laws_FnCovers_L2] at h
    refine AWr_succ fun N2 hN2 hS2 => ?_
    exact ((pre0.ge Fact.c hd2).a [.hl 0 [3, 4] [0, 1, 3, 4]]).ex hΓ hN2 (hE2 h)
  | cons x2_ xs2 ih2 =>
    intro i2  hd2 h
    rw [d_laws_FnCovers_L2] at h
    refine AWr_succ fun N2 hN2 hS2 => ?_
    obtain ⟨y108, h109, h⟩ := den_bind h
    obtain ⟨y110, h111, h⟩ := den_bind h
    have o7_ := ((((((((((pre0.lt Fact.c hd2).a [.n 10]).i (own_ixl Fact.c 2 (dc hd2))).o 2 2 .uq (map_get Fact.c (dc hd2))).w (show Good Tryd.prog 15 [D.agg (Fact.c (y4.2)), D.agg (Fact.c (x2_)), D.sl ([])] (D.tup [D.fr 71 2 ((y108.1).map Pair.c), D.bool (y108.2)]) from by first | (simpa only [List.map_append, List.map_cons, List.map_nil, List.map_drop, List.map_take] using d_spec_MatchFact_good h109) | exact d_spec_MatchFact_good h109)).a [.d (D.tup [D.fr 71 2 ((y108.1).map Pair.c), D.bool (y108.2)]), .n 10]).i (own_ixl Fact.c 2 (dc hd2))).o 2 2 .uq (map_get Fact.c (dc hd2))).w (show Good Tryd.prog 16 [D.agg (Fact.c (y4.1)), D.agg (Fact.c (x2_)), D.sl ([])] (D.tup [D.fr 71 2 ((y110.1).map Pair.c), D.bool (y110.2)]) from by first | (simpa only [List.map_append, List.map_cons, List.map_nil, List.map_drop, List.map_take] using d_impl_MatchFact_good h111) | exact d_impl_MatchFact_good h111)).a [.d (D.tup [D.fr 71 2 ((y110.1).map Pair.c), D.bool (y110.2)])])
    obtain ⟨h112, h⟩ | ⟨h112, h⟩ := den_if h
    · have o8_ := (o7_.r 3 h112)
      obtain ⟨h113, h⟩ | ⟨h113, h⟩ := den_if h
      · have h := den_some h; subst h; exact (o8_.b h113).ret hΓ
      · exact ((o8_.b h113).a [.cn [3, 4, 7, 10] [0, 1, 2, 3, 4]]).ct hΓ hS2 (iS hd2 hm2) (ih2 (i2 + 1)  (dn hd2) h)
    · exact (((o7_.r 3 h112).F 1).a [.cn [3, 4, 7, 10] [0, 1, 2, 3, 4]]).ct hΓ hS2 (iS hd2 hm2) (ih2 (i2 + 1)  (dn hd2) h)
theorem d_laws_FnCovers_good {a0_ : List Int} {r : Bool} (h : d_laws_FnCovers a0_ = some r) : Good Tryd.prog 4 [D.sl ((a0_).map yx)] (D.bool (r)) := by
  refine gd Tryd.func4 [[none]] 90 fun hr Γ hΓ => ?_
  rw [d_laws_FnCovers] at h
  obtain ⟨y1, h2, h⟩ := den_bind h
  obtain ⟨h3, h⟩ | ⟨h3, h⟩ := den_if h
  · have h := den_some h; subst h; exact ((pre0.g (d_laws_big_good h2)).b h3).ret hΓ
  · obtain ⟨y4, h5, h⟩ := den_bind h
    obtain ⟨y6, h7, h⟩ := den_bind h
    obtain ⟨y8, h9, h⟩ := den_bind h
    have o9_ := ((((((pre0.g (d_laws_big_good h2)).b h3).g (d_spec_DrawCoversPattern_good h5)).a [.n 4]).g (d_impl_CoversPattern_good h7)).g (d_spec_IsPattern_good h9))
    obtain ⟨h10, h⟩ | ⟨h10, h⟩ := den_if h
    · have h := den_some h; subst h; exact (o9_.b h10).ret hΓ
    · obtain ⟨y11, h12, h⟩ := den_bind h
      have o10_ := ((o9_.b h10).g (d_impl_CoversPattern_good h12))
      obtain ⟨h13, h⟩ | ⟨h13, h⟩ := den_if h
      · have h := den_some h; subst h; exact (o10_.b h13).ret hΓ
      · obtain ⟨y14, h15, h⟩ := den_bind h
        obtain ⟨y16, h17, h⟩ := den_bind h
        obtain ⟨y18, h19, h⟩ := den_bind h
        have o11_ := ((((o10_.b h13).g (d_spec_DrawInstance_good h15)).g (d_spec_DrawAreFacts_good h17)).g (d_spec_Instance_good h19))
        obtain ⟨h20, h⟩ | ⟨h20, h⟩ := den_if h
        · obtain ⟨h21, h⟩ := den_ok h
          refine (((o11_.b h20).w (room_ok h21)).a [.cn [3, 4, 7, 10] [2, 3, 11, 0, 1]]).lps hΓ (d_laws_FnCovers_S1 y4 0 (((y16).map Fact.c) ++ ([[D.str (y18.1.rel), D.sl ((y18.1.args).map tx)]])) ((y4.1.args).map tx) ((y4.2.args).map tx)) (by first | (simp only [mA] <;> rfl) | (simp only [mA, Fact.c, Pair.c, Cond.c, Action.c, Rule.c, Token.c, Match.c, Alpha.c, Node.c, Network.c, Stamp.c] <;> rfl)) (d_laws_FnCovers_L1w hΓ (fun q1_2 q1_3 h => ?_) fuel (0) ((y16) ++ ([y18.1])) (y4.1.args) (y4.2.args) h)
          obtain ⟨y65, h66, h⟩ := den_bind h
          have o12_ := ((pre0.w (show Good Tryd.prog 10 [D.agg [D.str (y4.2.rel), D.sl ((q1_3).map tx)], D.agg [D.str (y4.1.rel), D.sl ((q1_2).map tx)]] (D.bool (y65)) from by first | (simpa only [List.map_append, List.map_cons, List.map_nil, List.map_drop, List.map_take] using d_impl_CoversPattern_good h66) | exact d_impl_CoversPattern_good h66)).a [.n 8, .d (D.bool (y65))])
          obtain ⟨h67, h⟩ | ⟨h67, h⟩ := den_if h
          · have h := den_some h; subst h; exact (o12_.r 6 h67).ret hΓ
          · obtain ⟨y68, h69, h⟩ := den_bind h
            obtain ⟨y70, h71, h⟩ := den_bind h
            obtain ⟨y72, h73, h⟩ := den_bind h
            have h := den_some h; subst h; exact (((((((((o12_.r 2 h67).w (show Good Tryd.prog 7 [D.agg [D.str (y4.1.rel), D.sl ((q1_2).map tx)]] (D.agg [D.str (y68.rel), D.fr 9 1 ((y68.args).map tx)]) from by first | (simpa only [List.map_append, List.map_cons, List.map_nil, List.map_drop, List.map_take] using d_impl_ShapeOf_good h69) | exact d_impl_ShapeOf_good h69)).a [.d (D.agg [D.str (y68.rel), D.fr 9 1 ((y68.args).map tx)])]).r 2 h67).w (show Good Tryd.prog 7 [D.agg [D.str (y4.2.rel), D.sl ((q1_3).map tx)]] (D.agg [D.str (y70.rel), D.fr 9 1 ((y70.args).map tx)]) from by first | (simpa only [List.map_append, List.map_cons, List.map_nil, List.map_drop, List.map_take] using d_impl_ShapeOf_good h71) | exact d_impl_ShapeOf_good h71)).a [.d (D.agg [D.str (y70.rel), D.fr 9 1 ((y70.args).map tx)])]).b h67).g (d_spec_SamePattern_good h73)).b h67).ret hΓ
        · obtain ⟨h123, h⟩ := den_ok h
          refine ((o11_.b h20).a [.cn [3, 4, 7, 10] [2, 3, 7, 0, 1]]).lp hΓ (d_laws_FnCovers_L2w hΓ (fun h => ?_) (of_decide_eq_true h123) (y16) 0  rfl h)
          obtain ⟨y114, h115, h⟩ := den_bind h
          have o13_ := ((pre0.a [.n 8]).g (d_impl_CoversPattern_good h115))
          obtain ⟨h116, h⟩ | ⟨h116, h⟩ := den_if h
          · have h := den_some h; subst h; exact (o13_.r 6 h116).ret hΓ
          · obtain ⟨y117, h118, h⟩ := den_bind h
            obtain ⟨y119, h120, h⟩ := den_bind h
            obtain ⟨y121, h122, h⟩ := den_bind h
            have h := den_some h; subst h; exact (((((((o13_.r 2 h116).g (d_impl_ShapeOf_good h118)).r 2 h116).g (d_impl_ShapeOf_good h120)).b h116).g (d_spec_SamePattern_good h122)).b h116).ret hΓ
end Go.Cx
