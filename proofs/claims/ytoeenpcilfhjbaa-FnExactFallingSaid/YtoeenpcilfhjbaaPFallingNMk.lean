/- What functions of the program compute, and the walks that show it. No condition. -/
import Derived.Test.YtoeenpcilfhjbaaNData
namespace Go.Cx
open Go.RowKit Go.Proofs
set_option linter.unusedVariables false
set_option linter.unusedSimpArgs false
set_option maxRecDepth 100000
variable {Γ : Ctx} {N : Nat → St → Prop}
def d_laws_markIntS_L1  (k1 : List Int → Int → Option ((List Int) × Int)) : List Int → List Int → Int → Option ((List Int) × Int)
  | [], dn1, v1_1 => (k1 (dn1) (v1_1))
  | x1_ :: xs1, dn1, v1_1 => (d_laws_markIntS_L1  k1 xs1 (dn1 ++ [v1_1]) (IntKind.i64.wrap ((v1_1) + (1))))
def d_laws_markIntS (a0_ : List Int) (a1_ : Int) : Option ((List Int) × Int) := (d_laws_markIntS_L1  (fun (q1_0 : List Int) (z1_1 : Int) => (some ((q1_0, z1_1)))) (a0_) [] (a1_))
theorem d_laws_markIntS_L1w {Γ : Ctx} (hΓ : Γ.nt = 19) {N : Nat → St → Prop} {v0_ : Value}  {r : (List Int) × Int} {k1 : List Int → Int → Option ((List Int) × Int)} (hE1 : ∀ (q1_0 : List Int) (z1_1 : Int), k1 q1_0 z1_1 = some r → AW Try.prog Γ (lc Try.f11 [1, 1]) (KQ Try.prog Γ N (RetV Try.prog Try.f11 [v0_] [(1, (r.1).map ixx)] (D.int .i64 (r.2))) (lk' Try.f11 [1, 1])) ⟨[(1, D.int .i64 (z1_1))], [Ob.lent 1 ((q1_0).map ixx) (some v0_)]⟩) : ∀ (rest : List Int) (dn1 : List Int) (v1_1 : Int), (dn1).length + rest.length ≤ maxLen → d_laws_markIntS_L1  k1 rest dn1 v1_1 = some r → AWr Try.prog Γ (lc Try.f11 [1, 0, 1, 0, 0]) (KQ Try.prog Γ N (RetV Try.prog Try.f11 [v0_] [(1, (r.1).map ixx)] (D.int .i64 (r.2))) (lk' Try.f11 [1, 0, 1, 0])) (rest.length + 1) ⟨[(0, D.acc 0), (1, D.int .i64 (v1_1)), (5, D.int .i64 (((dn1).length : Int)))], [Ob.lent 1 ((dn1).map ixx ++ (rest).map ixx) (some v0_)]⟩ := by
  intro rest
  induction rest with
  | nil =>
    intro dn1 v1_1 hm1 h
    rw [d_laws_markIntS_L1] at h
    refine AWr_succ fun N1 hN1 hS1 => ?_
    have t := AW_N (N := N) (N' := N1) (K0 := (lk' Try.f11 [1, 0, 1, 0])) (by kernel_rfl) hN1 (hE1 (dn1) (v1_1) h)
    refine AW_goV (n := 2000) 1 [bF, .hl 0 [1] [0]] (.at_ (lc Try.f11 [1, 1]) (lk' Try.f11 [1, 1]) ⟨[(1, D.int .i64 (v1_1))], [Ob.lent 1 ((dn1).map ixx ++ (([] : List Int)).map ixx) (some v0_)]⟩) hΓ mix (by kernel_rfl) (ow (show (decide ((((dn1).length : Int) : Int) < ((((dn1).map ixx ++ (([] : List Int)).map ixx).length : Int)))) = false from (ge_mid _)) ow0) ?_
    refine AW_st (s := ⟨[(1, D.int .i64 (v1_1))], [Ob.lent 1 ((dn1).map ixx ++ (([] : List Int)).map ixx) (some v0_)]⟩) ?_ t
    simp only [List.map_nil, List.append_nil]
  | cons x1_ xs1 ih1 =>
    intro dn1 v1_1 hm1 h
    rw [d_laws_markIntS_L1] at h
    refine AWr_succ fun N1 hN1 hS1 => ?_
    have t := ih1 (dn1 ++ [v1_1]) (IntKind.i64.wrap ((v1_1) + (1))) (by simp only [List.length_append, List.length_cons, List.length_nil] at hm1 ⊢; omega) h
    refine AW_goV (n := 2000) 1 [bT, .ix ((dn1).length), .row [D.int .i64 (x1_)], .cn [0, 1, 5] [0]] (.cont 0 ⟨[(0, D.acc 0), (1, D.int .i64 (IntKind.i64.wrap ((v1_1) + (1)))), (5, D.int .i64 (IntKind.i64.wrap ((((dn1).length : Int)) + (1))))], [Ob.lent 1 (((dn1).map ixx ++ ([D.int .i64 (x1_)] :: (xs1).map ixx)).set (dn1).length [D.int .i64 (v1_1)]) (some v0_)]⟩) hΓ mix (by kernel_rfl) (ow (show (decide ((((dn1).length : Int) : Int) < ((((dn1).map ixx ++ ([D.int .i64 (x1_)] :: (xs1).map ixx)).length : Int)))) = true from (lt_mid _ _ _)) (ow (show (((dn1).length : Int)) = (((dn1).length : Nat) : Int) ∧ (dn1).length < ((dn1).map ixx ++ ([D.int .i64 (x1_)] :: (xs1).map ixx)).length from ⟨rfl, by simp only [List.length_set, List.length_append, List.length_map, List.length_cons]; omega⟩) (ow (show ((dn1).map ixx ++ ([D.int .i64 (x1_)] :: (xs1).map ixx))[(dn1).length]? = some [D.int .i64 (x1_)] from by (try simp only [set_mid]); exact get_mid _ _ _) ow0))) ?_
    refine (congrFun hS1 _).mpr ?_
    rw [i64_mid (by simp only [List.length_cons] at hm1; omega)]
    simp only [set_mid]
    simp only [List.map_append, List.map_cons, List.map_nil, List.append_assoc, List.cons_append, List.nil_append, List.length_append, List.length_cons, List.length_nil] at t ⊢
    exact t
theorem d_laws_markIntS_good {a0_ : List Int} {a1_ : Int} {r : (List Int) × Int} (h : d_laws_markIntS a0_ a1_ = some r) : GoodV Try.prog 11 [D.acc 0, D.int .i64 (a1_)] [(1, (a0_).map ixx)] [(1, (r.1).map ixx)] (D.int .i64 (r.2)) := by
  refine GoodV.of (c := bodyOf Try.f11) Try.func11 rfl (by decide) (by simp [Try.f11]) rfl rfl ?_
  intro hr Γ hΓ vs hvs
  match vs, hvs with
  | [v0_], _ =>
  have hΓ : Γ.nt = 19 := hΓ
  rw [d_laws_markIntS] at h
  refine (show AW Try.prog Γ (bodyOf Try.f11) (KQ Try.prog Γ (fun _ _ => False) (RetV Try.prog Try.f11 [v0_] [(1, (r.1).map ixx)] (D.int .i64 (r.2))) []) _ from ?_)
  refine AW_goV (n := 2000) 1 [.cn [0, 1, 5] [0]] (.lp (lc Try.f11 [1, 0, 1, 0, 0]) (lk' Try.f11 [1, 0, 1, 0]) ⟨[(0, D.acc 0), (1, D.int .i64 (a1_)), (5, D.int .i64 (0))], [Ob.lent 1 ((a0_).map ixx) (some v0_)]⟩) hΓ mix (by kernel_rfl) ow0 (AW_st (by rfl) (AW_of_r (d_laws_markIntS_L1w hΓ (fun q1_0 z1_1 h => ?_) (a0_) [] (a1_) (by have := hr _ (List.mem_of_getElem? (i := 0) rfl); simpa using this) h)))
  have h := den_some h; subst h
  exact AW_goV (n := 2000) 1 [] (.ret (D.tup [D.int .i64 (z1_1), D.agg [D.fr 0 1 ((q1_0).map ixx), D.val v0_]])) hΓ mix (by kernel_rfl) ow0 rfl
end Go.Cx
