/- What functions of the program compute, and the walks that show it. No condition. -/
import Derived.Test.YtoeenpcilfhjbaaPFallingSrM
namespace Go.Cx
open Go.RowKit Go.Proofs
set_option linter.unusedVariables false
set_option linter.unusedSimpArgs false
set_option maxRecDepth 100000
variable {Γ : Ctx} {N : Nat → St → Prop}
def d_spec_Falling_L2 (a0_ : List Int) (i1 : Nat) (x1_ : Int) (k2 : Int → List Int → Option (List Int)) : Nat → Int → List Int → Option (List Int)
  | 0, _, _ => none
  | n2 + 1, v2_5, w2_0 => (bif decide ((v2_5 : Int) > (0)) then ((atI (w2_0) (IntKind.i64.wrap ((v2_5) - (1)))).bind fun x161 => (bif decide ((x161 : Int) < (x1_)) then ((atI (w2_0) (v2_5)).bind fun x164 => (d_spec_Falling_L2 a0_ i1 x1_ k2 n2 (IntKind.i64.wrap ((v2_5) - (1))) ((w2_0).set (v2_5).toNat x161))) else (k2 (v2_5) (w2_0)))) else (k2 (v2_5) (w2_0)))
def d_spec_Falling_L1 (a0_ : List Int) (k1 : List Int → Option (List Int)) : List Int → Nat → List Int → Option (List Int)
  | [], i1, w1_0 => (k1 (w1_0))
  | x1_ :: xs1, i1, w1_0 => (bif room (((w1_0).map ixx).length + ([[D.int .i64 (x1_)]]).length) 8 then (d_spec_Falling_L2 a0_ i1 x1_ (fun (z2_5 : Int) (q2_0 : List Int) => ((atI (q2_0) (z2_5)).bind fun x166 => (d_spec_Falling_L1 a0_ k1 xs1 (i1 + 1) ((q2_0).set (z2_5).toNat x1_)))) fuel ((((w1_0).map ixx).length : Int)) ((w1_0) ++ ([x1_]))) else none)
def d_spec_Falling (a0_ : List Int) : Option (List Int) := (d_spec_Falling_L1 a0_ (fun (q1_0 : List Int) => (some (q1_0))) (a0_) 0 (([] : List Int)))
def d_spec_Falling_S1 (a0_ : List Int) (W0 : List (List D)) (ix_ : Int) : St := ⟨[(0, D.sl ((a0_).map ixx)), (3, D.acc 0), (4, D.int .i64 (ix_))], [Ob.row .uq 3 1 (W0)]⟩
def d_spec_Falling_S2 (a0_ : List Int) (i1 : Nat) (v2_5 : Int) (W1 : List (List D)) : St := ⟨[(0, D.sl ((a0_).map ixx)), (3, D.acc 0), (4, D.int .i64 ((i1 : Int))), (5, D.int .i64 (v2_5))], [Ob.row .uq 3 1 (W1)]⟩
theorem d_spec_Falling_L2w (hΓ : Γ.nt = 54) {a0_ : List Int} {i1 : Nat} {x1_ : Int} {r : List Int} {k2 : Int → List Int → Option (List Int)} (hE2 : ∀ (z2_5 : Int) (q2_0 : List Int), k2 z2_5 q2_0 = some r → Ax Γ N Try.f8 (.q [[some (3, 1)]] (D.fr 3 1 ((r).map ixx))) [1, 1, 0, 1, 0, 0, 1, 0, 0, 1, 1, 1] ⟨[(0, D.sl ((a0_).map ixx)), (3, D.acc 0), (4, D.int .i64 ((i1 : Int))), (5, D.int .i64 (z2_5))], [Ob.row .uq 3 1 ((q2_0).map ixx)]⟩) (hx1 : (a0_)[i1]? = some x1_) : ∀ (n2 : Nat) (v2_5 : Int) (w2_0 : List Int), d_spec_Falling_L2 a0_ i1 x1_ k2 n2 v2_5 w2_0 = some r → Ar Γ N Try.f8 (.q [[some (3, 1)]] (D.fr 3 1 ((r).map ixx))) [1, 1, 0, 1, 0, 0, 1, 0, 0, 1, 1, 0, 0] n2 (d_spec_Falling_S2 a0_ i1 v2_5 ((w2_0).map ixx)) := by
  intro n
  induction n with
  | zero => intro v2_5 w2_0 h; simp [d_spec_Falling_L2] at h
  | succ n2 ih2 =>
    intro v2_5 w2_0 h
    rw [d_spec_Falling_L2] at h
    refine AWr_succ fun N2 hN2 hS2 => ?_
    obtain ⟨h160, h⟩ | ⟨h160, h⟩ := den_if h
    · obtain ⟨x161, h162, h⟩ := den_bind h
      have o12_ := ((((((((pre0.a [.n 12]).r 4 h160).i (own_at ixx 1 h162)).b h160).o 1 1 .uq (map_get ixx (atI_get h162))).r 3 h160).l (map_row ixx 1 hx1 rfl)).r 3 h160)
      obtain ⟨h163, h⟩ | ⟨h163, h⟩ := den_if h
      · obtain ⟨x164, h165, h⟩ := den_bind h
        exact ((((((o12_.b h163).i (own_at ixx 1 h162)).o 1 1 .uq (map_get ixx (atI_get h162))).i (own_at ixx 1 h165)).w (show ((w2_0).map ixx)[(v2_5).toNat]? = some [D.int .i64 (x164)] from map_get ixx (atI_get h165))).a [.row [D.int .i64 (x164)], .cn [0, 3, 4, 5] [0]]).cs hΓ hS2 (d_spec_Falling_S2 a0_ i1 (IntKind.i64.wrap ((v2_5) - (1))) (((w2_0).map ixx).set (v2_5).toNat [D.int .i64 (x161)])) (by first | (simp only [mA] <;> rfl) | (simp only [mA, Fact.c, Pair.c, Cond.c, Action.c, Rule.c, Token.c, Match.c, Alpha.c, Node.c, Network.c, Stamp.c] <;> rfl)) (ih2 (IntKind.i64.wrap ((v2_5) - (1))) ((w2_0).set (v2_5).toNat x161) h)
      · exact ((o12_.b h163).a [.hl 5 [0, 3, 4, 5] [0]]).ex hΓ hN2 (hE2 (v2_5) (w2_0) h)
    · exact ((((pre0.a [.n 12]).r 11 h160).F 1).a [.hl 5 [0, 3, 4, 5] [0]]).ex hΓ hN2 (hE2 (v2_5) (w2_0) h)
theorem d_spec_Falling_L1w (hΓ : Γ.nt = 54) {a0_ : List Int} {r : List Int} {k1 : List Int → Option (List Int)} (hE1 : ∀ (q1_0 : List Int), k1 q1_0 = some r → Ax Γ N Try.f8 (.q [[some (3, 1)]] (D.fr 3 1 ((r).map ixx))) [1, 1, 1] ⟨[(3, D.acc 0)], [Ob.row .uq 3 1 ((q1_0).map ixx)]⟩) (hm1 : (a0_).length ≤ maxLen) : ∀ (rest : List Int) (i1 : Nat) (w1_0 : List Int), (a0_).drop i1 = rest → d_spec_Falling_L1 a0_ k1 rest i1 w1_0 = some r → Ar Γ N Try.f8 (.q [[some (3, 1)]] (D.fr 3 1 ((r).map ixx))) [1, 1, 0, 1, 0] (rest.length + 1) (d_spec_Falling_S1 a0_ ((w1_0).map ixx) ((i1 : Int))) := by
  intro rest
  induction rest with
  | nil =>
    intro i1 w1_0 hd1 h
    rw [d_spec_Falling_L1] at h
    refine AWr_succ fun N1 hN1 hS1 => ?_
    exact ((pre0.ge ixx hd1).a [.hl 0 [3] [0]]).ex hΓ hN1 (hE1 (w1_0) h)
  | cons x1_ xs1 ih1 =>
    intro i1 w1_0 hd1 h
    rw [d_spec_Falling_L1] at h
    refine AWr_succ fun N1 hN1 hS1 => ?_
    obtain ⟨h146, h⟩ := den_ok h
    refine ((((pre0.lt ixx hd1).l (map_row ixx 1 (dc hd1) rfl)).w (room_ok h146)).a [.cn [0, 3, 4, 5] [2]]).lps hΓ (d_spec_Falling_S2 a0_ i1 ((((w1_0).map ixx).length : Int)) (((w1_0).map ixx) ++ ([[D.int .i64 (x1_)]]))) (by first | (simp only [mA] <;> rfl) | (simp only [mA, Fact.c, Pair.c, Cond.c, Action.c, Rule.c, Token.c, Match.c, Alpha.c, Node.c, Network.c, Stamp.c] <;> rfl)) (d_spec_Falling_L2w hΓ (fun z2_5 q2_0 h => ?_) ((drop_cons hd1).1) fuel ((((w1_0).map ixx).length : Int)) ((w1_0) ++ ([x1_])) h)
    obtain ⟨x166, h167, h⟩ := den_bind h
    exact ((((pre0.l (map_row ixx 1 (dc hd1) rfl)).i (own_at ixx 1 h167)).w (show ((q2_0).map ixx)[(z2_5).toNat]? = some [D.int .i64 (x166)] from map_get ixx (atI_get h167))).a [.row [D.int .i64 (x166)], .cn [0, 3, 4] [0]]).cs hΓ hS1 (d_spec_Falling_S1 a0_ (((q2_0).map ixx).set (z2_5).toNat [D.int .i64 (x1_)]) (IntKind.i64.wrap (((i1 : Int)) + (1)))) (by first | (simp only [iS hd1 hm1, mA] <;> rfl) | (simp only [iS hd1 hm1, mA, Fact.c, Pair.c, Cond.c, Action.c, Rule.c, Token.c, Match.c, Alpha.c, Node.c, Network.c, Stamp.c] <;> rfl)) (ih1 (i1 + 1) ((q2_0).set (z2_5).toNat x1_) (dn hd1) h)
theorem d_spec_Falling_good {a0_ : List Int} {r : List Int} (h : d_spec_Falling a0_ = some r) : Good Try.prog 8 [D.sl ((a0_).map ixx)] (D.fr 3 1 ((r).map ixx)) := by
  refine gd Try.func8 [[some (3, 1)]] 54 fun hr Γ hΓ => ?_
  rw [d_spec_Falling] at h
  refine (pre0.a [.cn [0, 3, 4] [0]]).lp hΓ (d_spec_Falling_L1w hΓ (fun q1_0 h => ?_) (by have := (Rdb.sl (hr _ (List.mem_of_getElem? (i := 0) rfl))).1; simpa using this) (a0_) 0 (([] : List Int)) rfl h)
  have h := den_some h; subst h; exact pre0.ret hΓ
end Go.Cx
