/- What functions of the program compute, and the walks that show it. No condition. -/
import Derived.Test.YtocmmccbfnhfpaaPTimesOfNMk
namespace Go.Cx
open Go.RowKit Go.Proofs
set_option linter.unusedVariables false
set_option linter.unusedSimpArgs false
set_option maxRecDepth 100000
def d_laws_heldStringS_L1 (a0_ : List Bytes) (k1 : Int → Option Int) : List Bytes → Nat → Int → Option Int
  | [], i1, v1_1 => (k1 (v1_1))
  | x1_ :: xs1, i1, v1_1 => ((d_laws_markText (v1_1)).bind fun y21 => (bif !((x1_ : Bytes) == (y21)) then (some (-1)) else (d_laws_heldStringS_L1 a0_ k1 xs1 (i1 + 1) (IntKind.i64.wrap ((v1_1) + (1))))))
def d_laws_heldStringS (a0_ : List Bytes) (a1_ : Int) : Option Int := (d_laws_heldStringS_L1 a0_ (fun (z1_1 : Int) => (some (z1_1))) (a0_) 0 (a1_))
def d_laws_heldFactS_L1 (a0_ : List Fact) (k1 : Int → Option Int) : List Fact → Nat → Int → Option Int
  | [], i1, v1_1 => (k1 (v1_1))
  | x1_ :: xs1, i1, v1_1 => ((d_laws_markText (v1_1)).bind fun y33 => (bif !((x1_.rel : Bytes) == (y33)) then (some (-1)) else ((d_laws_heldStringS (x1_.args) (IntKind.i64.wrap ((v1_1) + (1)))).bind fun y36 => (bif decide ((y36 : Int) < (0)) then (some (-1)) else (d_laws_heldFactS_L1 a0_ k1 xs1 (i1 + 1) (y36))))))
def d_laws_heldFactS (a0_ : List Fact) (a1_ : Int) : Option Int := (d_laws_heldFactS_L1 a0_ (fun (z1_1 : Int) => (some (z1_1))) (a0_) 0 (a1_))
def d_laws_heldIntS_L1 (a0_ : List Int) (k1 : Int → Option Int) : List Int → Nat → Int → Option Int
  | [], i1, v1_1 => (k1 (v1_1))
  | x1_ :: xs1, i1, v1_1 => (bif (x1_ : Int) != (v1_1) then (some (-1)) else (d_laws_heldIntS_L1 a0_ k1 xs1 (i1 + 1) (IntKind.i64.wrap ((v1_1) + (1)))))
def d_laws_heldIntS (a0_ : List Int) (a1_ : Int) : Option Int := (d_laws_heldIntS_L1 a0_ (fun (z1_1 : Int) => (some (z1_1))) (a0_) 0 (a1_))
theorem d_laws_heldIntS_L1w {Γ : Ctx} (hΓ : Γ.nt = 21) {N : Nat → St → Prop} {a0_ : List Int} {r : Int} {k1 : Int → Option Int} (hE1 : ∀ (z1_1 : Int), k1 z1_1 = some r → AW Try.prog Γ (dig (bodyOf Try.f30) [1, 1] []).1 (KQ Try.prog Γ N (RetQ Try.prog Try.f30 (D.int .i64 (r))) (dig (bodyOf Try.f30) [1, 1] []).2) ⟨[(1, D.int .i64 (z1_1))], []⟩) (hm1 : (a0_).length ≤ maxLen) : ∀ (rest : List Int) (i1 : Nat) (v1_1 : Int), (a0_).drop i1 = rest → d_laws_heldIntS_L1 a0_ k1 rest i1 v1_1 = some r → AWr Try.prog Γ (dig (bodyOf Try.f30) [1, 0, 1, 0, 0] []).1 (KQ Try.prog Γ N (RetQ Try.prog Try.f30 (D.int .i64 (r))) (dig (bodyOf Try.f30) [1, 0, 1, 0] []).2) (rest.length + 1) ⟨[(0, D.sl ((a0_).map ixx)), (1, D.int .i64 (v1_1)), (5, D.int .i64 ((i1 : Int)))], []⟩ := by
  intro rest
  induction rest with
  | nil =>
    intro i1 v1_1 hd1 h
    rw [d_laws_heldIntS_L1] at h
    refine AWr_succ fun N1 hN1 hS1 => ?_
    have t := AW_N (N := N) (N' := N1) (K0 := (dig (bodyOf Try.f30) [1, 0, 1, 0] []).2) (by kernel_rfl) hN1 (hE1 (v1_1) h)
    refine AW_go (n := 2000) [[none]] [.b false, .hl 0 [1] []] (.at_ (dig (bodyOf Try.f30) [1, 1] []).1 (dig (bodyOf Try.f30) [1, 1] []).2 ⟨[(1, D.int .i64 (v1_1))], []⟩) hΓ mix (by kernel_rfl) (ow ((ltm_false ixx (drop_nil hd1))) ow0) ?_
    first | exact t | (simp only [List.map_append, List.map_cons, List.map_nil, List.map_set] at t ⊢; exact t)
  | cons x1_ xs1 ih1 =>
    intro i1 v1_1 hd1 h
    rw [d_laws_heldIntS_L1] at h
    refine AWr_succ fun N1 hN1 hS1 => ?_
    rcases den_if h with ⟨h13, h⟩ | ⟨h13, h⟩
    · have h := den_some h
      subst h
      exact AW_go (n := 2000) [[none]] [.b true, .row (ixx x1_), .b true] (.ret (D.int .i64 (-1))) hΓ mix (by kernel_rfl) (ow ((ltm_true ixx (drop_cons hd1).2.1)) (ow (map_row ixx 1 (drop_cons hd1).1 rfl) (ow (h13) ow0))) rfl
    · have t := ih1 (i1 + 1) (IntKind.i64.wrap ((v1_1) + (1))) (drop_cons hd1).2.2 h
      refine AW_go (n := 2000) [[none]] [.b true, .row (ixx x1_), .b false, .cn [0, 1, 5] []] (.cont 0 ⟨[(0, D.sl ((a0_).map ixx)), (1, D.int .i64 (IntKind.i64.wrap ((v1_1) + (1)))), (5, D.int .i64 (IntKind.i64.wrap (((i1 : Int)) + (1))))], []⟩) hΓ mix (by kernel_rfl) (ow ((ltm_true ixx (drop_cons hd1).2.1)) (ow (map_row ixx 1 (drop_cons hd1).1 rfl) (ow (h13) ow0))) ?_
      refine (congrFun hS1 _).mpr ?_
      rw [i64_succ (drop_cons hd1).2.1 hm1]
      first | exact t | (simp only [List.map_append, List.map_cons, List.map_nil, List.map_set] at t ⊢; exact t)
theorem d_laws_heldIntS_good {a0_ : List Int} {a1_ : Int} {r : Int} (h : d_laws_heldIntS a0_ a1_ = some r) : Good Try.prog 30 [D.sl ((a0_).map ixx), D.int .i64 (a1_)] (D.int .i64 (r)) := by
  refine Good.of (c := bodyOf Try.f30) Try.func30 rfl (by decide) (by simp [Try.f30]) ?_
  intro hr Γ hΓ
  have hΓ : Γ.nt = 21 := hΓ
  rw [d_laws_heldIntS] at h
  refine (show AW Try.prog Γ (bodyOf Try.f30) (KQ Try.prog Γ (fun _ _ => False) (RetQ Try.prog Try.f30 (D.int .i64 (r))) []) _ from ?_)
  refine AW_go (n := 2000) [[none]] [.cn [0, 1, 5] []] (.lp (dig (bodyOf Try.f30) [1, 0, 1, 0, 0] []).1 (dig (bodyOf Try.f30) [1, 0, 1, 0] []).2 ⟨[(0, D.sl ((a0_).map ixx)), (1, D.int .i64 (a1_)), (5, D.int .i64 (0))], []⟩) hΓ mix (by kernel_rfl) ow0 (AW_st (by first | rfl | (simp only [List.map_append, List.map_cons, List.map_nil, List.map_set, List.map_replicate] <;> rfl)) (AW_of_r (d_laws_heldIntS_L1w hΓ (fun z1_1 h => ?_) (by have := (Rdb.sl (hr _ (List.mem_of_getElem? (i := 0) rfl))).1; simpa using this) (a0_) 0 (a1_) rfl h)))
  have h := den_some h
  subst h
  exact AW_go (n := 2000) [[none]] [] (.ret (D.int .i64 (z1_1))) hΓ mix (by kernel_rfl) ow0 rfl
end Go.Cx
