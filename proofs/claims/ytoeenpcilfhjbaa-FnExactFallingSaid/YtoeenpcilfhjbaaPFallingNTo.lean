/- What functions of the program compute, and the walks that show it. No condition. -/
import Derived.Test.YtoeenpcilfhjbaaNData
namespace Go.Cx
open Go.RowKit Go.Proofs
set_option linter.unusedVariables false
set_option linter.unusedSimpArgs false
set_option maxRecDepth 100000
variable {Γ : Ctx} {N : Nat → St → Prop}
def d_laws_toIntS_L1 (a0_ : List Int) (k1 : List Int → Option (List Int)) : List Int → Nat → List Int → Option (List Int)
  | [], i1, w1_0 => (k1 (w1_0))
  | x1_ :: xs1, i1, w1_0 => (bif decide (i1 < ((w1_0).map ixx).length) then (((w1_0)[i1]?).bind fun x30 => (d_laws_toIntS_L1 a0_ k1 xs1 (i1 + 1) ((w1_0).set i1 x1_))) else none)
def d_laws_toIntS (a0_ : List Int) : Option (List Int) := (bif roomM ((((a0_).map ixx).length : Int)) 8 then (d_laws_toIntS_L1 a0_ (fun (q1_0 : List Int) => (some (q1_0))) (a0_) 0 (List.replicate ((((a0_).map ixx).length : Int)).toNat (0 : Int))) else none)
def d_laws_toIntS_S1 (a0_ : List Int) (W0 : List (List D)) (ix_ : Int) : St := ⟨[(0, D.sl ((a0_).map ixx)), (3, D.acc 0), (4, D.int .i64 (ix_))], [Ob.row .uq 3 1 (W0)]⟩
theorem d_laws_toIntS_L1w (hΓ : Γ.nt = 22) {a0_ : List Int} {r : List Int} {k1 : List Int → Option (List Int)} (hE1 : ∀ (q1_0 : List Int), k1 q1_0 = some r → Ax Γ N Try.f9 (.q [[some (3, 1)]] (D.fr 3 1 ((r).map ixx))) [1, 1, 1] ⟨[(3, D.acc 0)], [Ob.row .uq 3 1 ((q1_0).map ixx)]⟩) (hm1 : (a0_).length ≤ maxLen) : ∀ (rest : List Int) (i1 : Nat) (w1_0 : List Int), (a0_).drop i1 = rest → d_laws_toIntS_L1 a0_ k1 rest i1 w1_0 = some r → Ar Γ N Try.f9 (.q [[some (3, 1)]] (D.fr 3 1 ((r).map ixx))) [1, 1, 0, 1, 0] (rest.length + 1) (d_laws_toIntS_S1 a0_ ((w1_0).map ixx) ((i1 : Int))) := by
  intro rest
  induction rest with
  | nil =>
    intro i1 w1_0 hd1 h
    rw [d_laws_toIntS_L1] at h
    refine AWr_succ fun N1 hN1 hS1 => ?_
    exact ((pre0.ge ixx hd1).a [.hl 0 [3] [0]]).ex hΓ hN1 (hE1 (w1_0) h)
  | cons x1_ xs1 ih1 =>
    intro i1 w1_0 hd1 h
    rw [d_laws_toIntS_L1] at h
    refine AWr_succ fun N1 hN1 hS1 => ?_
    obtain ⟨h29, h⟩ := den_ok h
    obtain ⟨x30, h31, h⟩ := den_bind h
    exact (((((pre0.lt ixx hd1).l (map_row ixx 1 (dc hd1) rfl)).i (own_ix 1 h29)).w (show ((w1_0).map ixx)[i1]? = some [D.int .i64 (x30)] from map_get ixx h31)).a [.row [D.int .i64 (x30)], .cn [0, 3, 4] [0]]).cs hΓ hS1 (d_laws_toIntS_S1 a0_ (((w1_0).map ixx).set i1 [D.int .i64 (x1_)]) (IntKind.i64.wrap (((i1 : Int)) + (1)))) (by first | (simp only [iS hd1 hm1, mA] <;> rfl) | (simp only [iS hd1 hm1, mA, Fact.c, Pair.c, Cond.c, Action.c, Rule.c, Token.c, Match.c, Alpha.c, Node.c, Network.c, Stamp.c] <;> rfl)) (ih1 (i1 + 1) ((w1_0).set i1 x1_) (dn hd1) h)
theorem d_laws_toIntS_good {a0_ : List Int} {r : List Int} (h : d_laws_toIntS a0_ = some r) : Good Try.prog 9 [D.sl ((a0_).map ixx)] (D.fr 3 1 ((r).map ixx)) := by
  refine gd Try.func9 [[some (3, 1)]] 22 fun hr Γ hΓ => ?_
  rw [d_laws_toIntS] at h
  obtain ⟨h1, h⟩ := den_ok h
  refine ((pre0.w (roomM_ok h1)).a [.cn [0, 3, 4] [0]]).lps hΓ (d_laws_toIntS_S1 a0_ (List.replicate ((((a0_).map ixx).length : Int)).toNat [D.int .i64 (0)]) 0) (by first | (simp only [mA] <;> rfl) | (simp only [mA, Fact.c, Pair.c, Cond.c, Action.c, Rule.c, Token.c, Match.c, Alpha.c, Node.c, Network.c, Stamp.c] <;> rfl)) (d_laws_toIntS_L1w hΓ (fun q1_0 h => ?_) (by have := (Rdb.sl (hr _ (List.mem_of_getElem? (i := 0) rfl))).1; simpa using this) (a0_) 0 (List.replicate ((((a0_).map ixx).length : Int)).toNat (0 : Int)) rfl h)
  have h := den_some h; subst h; exact pre0.ret hΓ
end Go.Cx
