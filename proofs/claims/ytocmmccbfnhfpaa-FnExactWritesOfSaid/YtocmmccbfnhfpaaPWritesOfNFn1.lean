/- What functions of the program compute, and the walks that show it. No condition. -/
import Derived.Test.YtocmmccbfnhfpaaNLay
namespace Go.Cx
open Go.RowKit Go.Proofs
set_option linter.unusedVariables false
set_option linter.unusedSimpArgs false
set_option maxRecDepth 100000
def d_spec_l1Put_L1 (a0_ : List Bytes) (a1_ : Bytes) (k1 : Bool → List Bytes → Option (List Bytes)) : List Bytes → Nat → Bool → List Bytes → Option (List Bytes)
  | [], i1, v1_6, w1_0 => (k1 (v1_6) (w1_0))
  | x1_ :: xs1, i1, v1_6, w1_0 => (bif !(v1_6) then (bif !(Op.bytesLess (x1_) (a1_)) then (bif !((x1_ : Bytes) == (a1_)) then (bif room (((w1_0).map tx).length + ([[D.str (a1_)]]).length) 16 then (bif room ((((w1_0).map tx) ++ ([[D.str (a1_)]])).length + ([[D.str (x1_)]]).length) 16 then (d_spec_l1Put_L1 a0_ a1_ k1 xs1 (i1 + 1) (true) (((w1_0) ++ ([a1_])) ++ ([x1_]))) else none) else none) else (bif room (((w1_0).map tx).length + ([[D.str (x1_)]]).length) 16 then (d_spec_l1Put_L1 a0_ a1_ k1 xs1 (i1 + 1) (true) ((w1_0) ++ ([x1_]))) else none)) else (bif room (((w1_0).map tx).length + ([[D.str (x1_)]]).length) 16 then (d_spec_l1Put_L1 a0_ a1_ k1 xs1 (i1 + 1) (v1_6) ((w1_0) ++ ([x1_]))) else none)) else (bif room (((w1_0).map tx).length + ([[D.str (x1_)]]).length) 16 then (d_spec_l1Put_L1 a0_ a1_ k1 xs1 (i1 + 1) (v1_6) ((w1_0) ++ ([x1_]))) else none))
def d_spec_l1Put (a0_ : List Bytes) (a1_ : Bytes) : Option (List Bytes) := (d_spec_l1Put_L1 a0_ a1_ (fun (z1_6 : Bool) (q1_0 : List Bytes) => (bif !(z1_6) then (bif room (((q1_0).map tx).length + ([[D.str (a1_)]]).length) 16 then (some ((q1_0) ++ ([a1_]))) else none) else (some (q1_0)))) (a0_) 0 (false) (([] : List Bytes)))
theorem d_spec_l1Put_L1w {Γ : Ctx} (hΓ : Γ.nt = 49) {N : Nat → St → Prop} {a0_ : List Bytes} {a1_ : Bytes} {r : List Bytes} {k1 : Bool → List Bytes → Option (List Bytes)} (hE1 : ∀ (z1_6 : Bool) (q1_0 : List Bytes), k1 z1_6 q1_0 = some r → AW Try.prog Γ (dig (bodyOf Try.f85) [1, 1, 1, 1] []).1 (KQ Try.prog Γ N (RetQ Try.prog Try.f85 (D.fr 9 1 ((r).map tx))) (dig (bodyOf Try.f85) [1, 1, 1, 1] []).2) ⟨[(1, D.str (a1_)), (5, D.acc 0), (6, D.bool (z1_6))], [Ob.row .uq 9 1 ((q1_0).map tx)]⟩) (hm1 : (a0_).length ≤ maxLen) : ∀ (rest : List Bytes) (i1 : Nat) (v1_6 : Bool) (w1_0 : List Bytes), (a0_).drop i1 = rest → d_spec_l1Put_L1 a0_ a1_ k1 rest i1 v1_6 w1_0 = some r → AWr Try.prog Γ (dig (bodyOf Try.f85) [1, 1, 1, 0, 1, 0, 0] []).1 (KQ Try.prog Γ N (RetQ Try.prog Try.f85 (D.fr 9 1 ((r).map tx))) (dig (bodyOf Try.f85) [1, 1, 1, 0, 1, 0] []).2) (rest.length + 1) ⟨[(0, D.sl ((a0_).map tx)), (1, D.str (a1_)), (5, D.acc 0), (6, D.bool (v1_6)), (7, D.int .i64 ((i1 : Int)))], [Ob.row .uq 9 1 ((w1_0).map tx)]⟩ := by
  intro rest
  induction rest with
  | nil =>
    intro i1 v1_6 w1_0 hd1 h
    rw [d_spec_l1Put_L1] at h
    refine AWr_succ fun N1 hN1 hS1 => ?_
    have t := AW_N (N := N) (N' := N1) (K0 := (dig (bodyOf Try.f85) [1, 1, 1, 0, 1, 0] []).2) (by kernel_rfl) hN1 (hE1 (v1_6) (w1_0) h)
    refine AW_go (n := 2000) [[some (9, 1)]] [.b false, .hl 0 [1, 5, 6] [0]] (.at_ (dig (bodyOf Try.f85) [1, 1, 1, 1] []).1 (dig (bodyOf Try.f85) [1, 1, 1, 1] []).2 ⟨[(1, D.str (a1_)), (5, D.acc 0), (6, D.bool (v1_6))], [Ob.row .uq 9 1 ((w1_0).map tx)]⟩) hΓ mix (by kernel_rfl) (ow ((ltm_false tx (drop_nil hd1))) ow0) ?_
    first | exact t | (simp only [List.map_append, List.map_cons, List.map_nil, List.map_set] at t ⊢; exact t)
  | cons x1_ xs1 ih1 =>
    intro i1 v1_6 w1_0 hd1 h
    rw [d_spec_l1Put_L1] at h
    refine AWr_succ fun N1 hN1 hS1 => ?_
    rcases den_if h with ⟨h58, h⟩ | ⟨h58, h⟩
    · rcases den_if h with ⟨h59, h⟩ | ⟨h59, h⟩
      · rcases den_if h with ⟨h60, h⟩ | ⟨h60, h⟩
        · obtain ⟨h61, h⟩ := den_ok h
          obtain ⟨h62, h⟩ := den_ok h
          have t := ih1 (i1 + 1) (true) (((w1_0) ++ ([a1_])) ++ ([x1_])) (drop_cons hd1).2.2 h
          refine AW_go (n := 2000) [[some (9, 1)]] [.b true, .b true, .b true, .b true, .row (tx x1_), .b true, .b true, .b true, .b true, .b true, .row (tx x1_), .b true, .row (tx x1_), .cn [0, 1, 5, 6, 7] [4]] (.cont 0 ⟨[(0, D.sl ((a0_).map tx)), (1, D.str (a1_)), (5, D.acc 0), (6, D.bool (true)), (7, D.int .i64 (IntKind.i64.wrap (((i1 : Int)) + (1))))], [Ob.row .uq 9 1 ((((w1_0).map tx) ++ ([[D.str (a1_)]])) ++ ([[D.str (x1_)]]))]⟩) hΓ mix (by kernel_rfl) (ow ((ltm_true tx (drop_cons hd1).2.1)) (ow (h58) (ow (h58) (ow (h58) (ow (map_row tx 1 (drop_cons hd1).1 rfl) (ow (h58) (ow (h58) (ow (h58) (ow (h58) (ow (h59) (ow (map_row tx 1 (drop_cons hd1).1 rfl) (ow (h60) (ow (room_ok h61) (ow (map_row tx 1 (drop_cons hd1).1 rfl) (ow (room_ok h62) ow0))))))))))))))) ?_
          refine (congrFun hS1 _).mpr ?_
          rw [i64_succ (drop_cons hd1).2.1 hm1]
          first | exact t | (simp only [List.map_append, List.map_cons, List.map_nil, List.map_set] at t ⊢; exact t)
        · obtain ⟨h63, h⟩ := den_ok h
          have t := ih1 (i1 + 1) (true) ((w1_0) ++ ([x1_])) (drop_cons hd1).2.2 h
          refine AW_go (n := 2000) [[some (9, 1)]] [.b true, .b true, .b true, .b true, .row (tx x1_), .b true, .b true, .b true, .b true, .b true, .row (tx x1_), .b false, .row (tx x1_), .cn [0, 1, 5, 6, 7] [2]] (.cont 0 ⟨[(0, D.sl ((a0_).map tx)), (1, D.str (a1_)), (5, D.acc 0), (6, D.bool (true)), (7, D.int .i64 (IntKind.i64.wrap (((i1 : Int)) + (1))))], [Ob.row .uq 9 1 (((w1_0).map tx) ++ ([[D.str (x1_)]]))]⟩) hΓ mix (by kernel_rfl) (ow ((ltm_true tx (drop_cons hd1).2.1)) (ow (h58) (ow (h58) (ow (h58) (ow (map_row tx 1 (drop_cons hd1).1 rfl) (ow (h58) (ow (h58) (ow (h58) (ow (h58) (ow (h59) (ow (map_row tx 1 (drop_cons hd1).1 rfl) (ow (h60) (ow (map_row tx 1 (drop_cons hd1).1 rfl) (ow (room_ok h63) ow0)))))))))))))) ?_
          refine (congrFun hS1 _).mpr ?_
          rw [i64_succ (drop_cons hd1).2.1 hm1]
          first | exact t | (simp only [List.map_append, List.map_cons, List.map_nil, List.map_set] at t ⊢; exact t)
      · obtain ⟨h64, h⟩ := den_ok h
        have t := ih1 (i1 + 1) (v1_6) ((w1_0) ++ ([x1_])) (drop_cons hd1).2.2 h
        refine AW_go (n := 2000) [[some (9, 1)]] [.b true, .b true, .b true, .b true, .row (tx x1_), .b true, .b true, .b true, .b true, .b false, .row (tx x1_), .cn [0, 1, 5, 6, 7] [2]] (.cont 0 ⟨[(0, D.sl ((a0_).map tx)), (1, D.str (a1_)), (5, D.acc 0), (6, D.bool (v1_6)), (7, D.int .i64 (IntKind.i64.wrap (((i1 : Int)) + (1))))], [Ob.row .uq 9 1 (((w1_0).map tx) ++ ([[D.str (x1_)]]))]⟩) hΓ mix (by kernel_rfl) (ow ((ltm_true tx (drop_cons hd1).2.1)) (ow (h58) (ow (h58) (ow (h58) (ow (map_row tx 1 (drop_cons hd1).1 rfl) (ow (h58) (ow (h58) (ow (h58) (ow (h58) (ow (h59) (ow (map_row tx 1 (drop_cons hd1).1 rfl) (ow (room_ok h64) ow0)))))))))))) ?_
        refine (congrFun hS1 _).mpr ?_
        rw [i64_succ (drop_cons hd1).2.1 hm1]
        first | exact t | (simp only [List.map_append, List.map_cons, List.map_nil, List.map_set] at t ⊢; exact t)
    · obtain ⟨h65, h⟩ := den_ok h
      have t := ih1 (i1 + 1) (v1_6) ((w1_0) ++ ([x1_])) (drop_cons hd1).2.2 h
      refine AW_go (n := 2000) [[some (9, 1)]] [.b true, .b false, .b false, .b false, .b false, .b false, .b false, .b false, .b false, .row (tx x1_), .cn [0, 1, 5, 6, 7] [2]] (.cont 0 ⟨[(0, D.sl ((a0_).map tx)), (1, D.str (a1_)), (5, D.acc 0), (6, D.bool (v1_6)), (7, D.int .i64 (IntKind.i64.wrap (((i1 : Int)) + (1))))], [Ob.row .uq 9 1 (((w1_0).map tx) ++ ([[D.str (x1_)]]))]⟩) hΓ mix (by kernel_rfl) (ow ((ltm_true tx (drop_cons hd1).2.1)) (ow (h58) (ow (h58) (ow (h58) (ow (h58) (ow (h58) (ow (h58) (ow (h58) (ow (show (false) = false from rfl) (ow (map_row tx 1 (drop_cons hd1).1 rfl) (ow (room_ok h65) ow0))))))))))) ?_
      refine (congrFun hS1 _).mpr ?_
      rw [i64_succ (drop_cons hd1).2.1 hm1]
      first | exact t | (simp only [List.map_append, List.map_cons, List.map_nil, List.map_set] at t ⊢; exact t)
theorem d_spec_l1Put_good {a0_ : List Bytes} {a1_ : Bytes} {r : List Bytes} (h : d_spec_l1Put a0_ a1_ = some r) : Good Try.prog 85 [D.sl ((a0_).map tx), D.str (a1_)] (D.fr 9 1 ((r).map tx)) := by
  refine Good.of (c := bodyOf Try.f85) Try.func85 rfl (by decide) (by simp [Try.f85]) ?_
  intro hr Γ hΓ
  have hΓ : Γ.nt = 49 := hΓ
  rw [d_spec_l1Put] at h
  refine (show AW Try.prog Γ (bodyOf Try.f85) (KQ Try.prog Γ (fun _ _ => False) (RetQ Try.prog Try.f85 (D.fr 9 1 ((r).map tx))) []) _ from ?_)
  refine AW_go (n := 2000) [[some (9, 1)]] [.cn [0, 1, 5, 6, 7] [0]] (.lp (dig (bodyOf Try.f85) [1, 1, 1, 0, 1, 0, 0] []).1 (dig (bodyOf Try.f85) [1, 1, 1, 0, 1, 0] []).2 ⟨[(0, D.sl ((a0_).map tx)), (1, D.str (a1_)), (5, D.acc 0), (6, D.bool (false)), (7, D.int .i64 (0))], [Ob.row .uq 9 1 (([] : List (List D)))]⟩) hΓ mix (by kernel_rfl) ow0 (AW_st (by first | rfl | (simp only [List.map_append, List.map_cons, List.map_nil, List.map_set, List.map_replicate] <;> rfl)) (AW_of_r (d_spec_l1Put_L1w hΓ (fun z1_6 q1_0 h => ?_) (by have := (Rdb.sl (hr _ (List.mem_of_getElem? (i := 0) rfl))).1; simpa using this) (a0_) 0 (false) (([] : List Bytes)) rfl h)))
  rcases den_if h with ⟨h66, h⟩ | ⟨h66, h⟩
  · obtain ⟨h67, h⟩ := den_ok h
    have h := den_some h
    subst h
    exact AW_go (n := 2000) [[some (9, 1)]] [.b true] (.ret (D.fr 9 1 (((q1_0).map tx) ++ ([[D.str (a1_)]])))) hΓ mix (by kernel_rfl) (ow (h66) (ow (room_ok h67) ow0)) (by first | rfl | (simp only [List.map_append, List.map_cons, List.map_nil, List.map_set] <;> rfl))
  · have h := den_some h
    subst h
    exact AW_go (n := 2000) [[some (9, 1)]] [.b false] (.ret (D.fr 9 1 ((q1_0).map tx))) hΓ mix (by kernel_rfl) (ow (h66) ow0) rfl
def d_impl_SortedTexts_L1 (a0_ : List Bytes) (k1 : List Bytes → Option (List Bytes)) : List Bytes → Nat → List Bytes → Option (List Bytes)
  | [], i1, w1_1 => (k1 (w1_1))
  | x1_ :: xs1, i1, w1_1 => (bif ((i1 : Int) : Int) == (0) then (bif room (((w1_1).map tx).length + ([[D.str (x1_)]]).length) 16 then (d_impl_SortedTexts_L1 a0_ k1 xs1 (i1 + 1) ((w1_1) ++ ([x1_]))) else none) else ((atI (sortB ((([] : List Bytes)) ++ (a0_))) (IntKind.i64.wrap (((i1 : Int)) - (1)))).bind fun x47 => (bif !((x47 : Bytes) == (x1_)) then (bif room (((w1_1).map tx).length + ([[D.str (x1_)]]).length) 16 then (d_impl_SortedTexts_L1 a0_ k1 xs1 (i1 + 1) ((w1_1) ++ ([x1_]))) else none) else (d_impl_SortedTexts_L1 a0_ k1 xs1 (i1 + 1) (w1_1)))))
def d_impl_SortedTexts (a0_ : List Bytes) : Option (List Bytes) := (bif room ((([] : List (List D))).length + ((a0_).map tx).length) 16 then (bif decide (((([] : List Bytes)) ++ (a0_)).length < 4611686018427387904) then (bif decide ((sortB ((([] : List Bytes)) ++ (a0_))).length ≤ maxLen) then (d_impl_SortedTexts_L1 a0_ (fun (q1_0 : List Bytes) => (some (q1_0))) (sortB ((([] : List Bytes)) ++ (a0_))) 0 (([] : List Bytes))) else none) else none) else none)
theorem d_impl_SortedTexts_L1w {Γ : Ctx} (hΓ : Γ.nt = 35) {N : Nat → St → Prop} {a0_ : List Bytes} {r : List Bytes} {k1 : List Bytes → Option (List Bytes)} (hE1 : ∀ (q1_0 : List Bytes), k1 q1_0 = some r → AW Try.prog Γ (dig (bodyOf Try.f88) [1, 1, 1, 1, 1] []).1 (KQ Try.prog Γ N (RetQ Try.prog Try.f88 (D.fr 9 1 ((r).map tx))) (dig (bodyOf Try.f88) [1, 1, 1, 1, 1] []).2) ⟨[(4, D.acc 0)], [Ob.row .uq 9 1 ((q1_0).map tx)]⟩) (hm1 : (sortB ((([] : List Bytes)) ++ (a0_))).length ≤ maxLen) : ∀ (rest : List Bytes) (i1 : Nat) (w1_1 : List Bytes), (sortB ((([] : List Bytes)) ++ (a0_))).drop i1 = rest → d_impl_SortedTexts_L1 a0_ k1 rest i1 w1_1 = some r → AWr Try.prog Γ (dig (bodyOf Try.f88) [1, 1, 1, 1, 0, 1, 0, 0] []).1 (KQ Try.prog Γ N (RetQ Try.prog Try.f88 (D.fr 9 1 ((r).map tx))) (dig (bodyOf Try.f88) [1, 1, 1, 1, 0, 1, 0] []).2) (rest.length + 1) ⟨[(3, D.acc 0), (4, D.acc 1), (11, D.acc 0), (12, D.int .i64 ((((sortB ((([] : List Bytes)) ++ (a0_))).map tx).length : Int))), (13, D.int .i64 ((i1 : Int)))], [Ob.row .uq 9 1 ((sortB ((([] : List Bytes)) ++ (a0_))).map tx), Ob.row .uq 9 1 ((w1_1).map tx)]⟩ := by
  intro rest
  induction rest with
  | nil =>
    intro i1 w1_1 hd1 h
    rw [d_impl_SortedTexts_L1] at h
    refine AWr_succ fun N1 hN1 hS1 => ?_
    have t := AW_N (N := N) (N' := N1) (K0 := (dig (bodyOf Try.f88) [1, 1, 1, 1, 0, 1, 0] []).2) (by kernel_rfl) hN1 (hE1 (w1_1) h)
    refine AW_go (n := 2000) [[some (9, 1)]] [.b false, .hl 0 [4] [1]] (.at_ (dig (bodyOf Try.f88) [1, 1, 1, 1, 1] []).1 (dig (bodyOf Try.f88) [1, 1, 1, 1, 1] []).2 ⟨[(4, D.acc 0)], [Ob.row .uq 9 1 ((w1_1).map tx)]⟩) hΓ mix (by kernel_rfl) (ow ((ltm_false tx (drop_nil hd1))) ow0) ?_
    first | exact t | (simp only [List.map_append, List.map_cons, List.map_nil, List.map_set] at t ⊢; exact t)
  | cons x1_ xs1 ih1 =>
    intro i1 w1_1 hd1 h
    rw [d_impl_SortedTexts_L1] at h
    refine AWr_succ fun N1 hN1 hS1 => ?_
    rcases den_if h with ⟨h45, h⟩ | ⟨h45, h⟩
    · obtain ⟨h46, h⟩ := den_ok h
      have t := ih1 (i1 + 1) ((w1_1) ++ ([x1_])) (drop_cons hd1).2.2 h
      refine AW_go (n := 2000) [[some (9, 1)]] [.b true, .ix i1, .row [D.str (x1_)], .b true, .b true, .b true, .b true, .b true, .b true, .b true, .b true, .b true, .cn [3, 4, 11, 12, 13] [0, 3]] (.cont 0 ⟨[(3, D.acc 0), (4, D.acc 1), (11, D.acc 0), (12, D.int .i64 ((((sortB ((([] : List Bytes)) ++ (a0_))).map tx).length : Int))), (13, D.int .i64 (IntKind.i64.wrap (((i1 : Int)) + (1))))], [Ob.row .uq 9 1 ((sortB ((([] : List Bytes)) ++ (a0_))).map tx), Ob.row .uq 9 1 (((w1_1).map tx) ++ ([[D.str (x1_)]]))]⟩) hΓ mix (by kernel_rfl) (ow ((ltm_true tx (drop_cons hd1).2.1)) (ow (own_ixl tx 1 (drop_cons hd1).1) (ow (show 1 = 1 ∧ RK.opn .uq = true ∧ ((sortB ((([] : List Bytes)) ++ (a0_))).map tx)[i1]? = some [D.str (x1_)] ∧ 1 ≤ 1 from ⟨rfl, rfl, map_get tx (drop_cons hd1).1, by omega⟩) (ow (h45) (ow (h45) (ow (h45) (ow (h45) (ow (h45) (ow (h45) (ow (h45) (ow (h45) (ow (show (true) = true from rfl) (ow (room_ok h46) ow0))))))))))))) ?_
      refine (congrFun hS1 _).mpr ?_
      rw [i64_succ (drop_cons hd1).2.1 hm1]
      first | exact t | (simp only [List.map_append, List.map_cons, List.map_nil, List.map_set] at t ⊢; exact t)
    · obtain ⟨x47, h48, h⟩ := den_bind h
      rcases den_if h with ⟨h49, h⟩ | ⟨h49, h⟩
      · obtain ⟨h50, h⟩ := den_ok h
        have t := ih1 (i1 + 1) ((w1_1) ++ ([x1_])) (drop_cons hd1).2.2 h
        refine AW_go (n := 2000) [[some (9, 1)]] [.b true, .ix i1, .row [D.str (x1_)], .b false, .b false, .b false, .b false, .ix (IntKind.i64.wrap (((i1 : Int)) - (1))).toNat, .b false, .row [D.str (x47)], .b false, .b false, .b false, .b true, .cn [3, 4, 11, 12, 13] [0, 3]] (.cont 0 ⟨[(3, D.acc 0), (4, D.acc 1), (11, D.acc 0), (12, D.int .i64 ((((sortB ((([] : List Bytes)) ++ (a0_))).map tx).length : Int))), (13, D.int .i64 (IntKind.i64.wrap (((i1 : Int)) + (1))))], [Ob.row .uq 9 1 ((sortB ((([] : List Bytes)) ++ (a0_))).map tx), Ob.row .uq 9 1 (((w1_1).map tx) ++ ([[D.str (x1_)]]))]⟩) hΓ mix (by kernel_rfl) (ow ((ltm_true tx (drop_cons hd1).2.1)) (ow (own_ixl tx 1 (drop_cons hd1).1) (ow (show 1 = 1 ∧ RK.opn .uq = true ∧ ((sortB ((([] : List Bytes)) ++ (a0_))).map tx)[i1]? = some [D.str (x1_)] ∧ 1 ≤ 1 from ⟨rfl, rfl, map_get tx (drop_cons hd1).1, by omega⟩) (ow (h45) (ow (h45) (ow (h45) (ow (h45) (ow (own_at tx 1 h48) (ow (h45) (ow (show 1 = 1 ∧ RK.opn .uq = true ∧ ((sortB ((([] : List Bytes)) ++ (a0_))).map tx)[(IntKind.i64.wrap (((i1 : Int)) - (1))).toNat]? = some [D.str (x47)] ∧ 1 ≤ 1 from ⟨rfl, rfl, map_get tx (atI_get h48), by omega⟩) (ow (h45) (ow (h45) (ow (h45) (ow (h49) (ow (room_ok h50) ow0))))))))))))))) ?_
        refine (congrFun hS1 _).mpr ?_
        rw [i64_succ (drop_cons hd1).2.1 hm1]
        first | exact t | (simp only [List.map_append, List.map_cons, List.map_nil, List.map_set] at t ⊢; exact t)
      · have t := ih1 (i1 + 1) (w1_1) (drop_cons hd1).2.2 h
        refine AW_go (n := 2000) [[some (9, 1)]] [.b true, .ix i1, .row [D.str (x1_)], .b false, .b false, .b false, .b false, .ix (IntKind.i64.wrap (((i1 : Int)) - (1))).toNat, .b false, .row [D.str (x47)], .b false, .b false, .b false, .b false, .cn [3, 4, 11, 12, 13] [0, 1]] (.cont 0 ⟨[(3, D.acc 0), (4, D.acc 1), (11, D.acc 0), (12, D.int .i64 ((((sortB ((([] : List Bytes)) ++ (a0_))).map tx).length : Int))), (13, D.int .i64 (IntKind.i64.wrap (((i1 : Int)) + (1))))], [Ob.row .uq 9 1 ((sortB ((([] : List Bytes)) ++ (a0_))).map tx), Ob.row .uq 9 1 ((w1_1).map tx)]⟩) hΓ mix (by kernel_rfl) (ow ((ltm_true tx (drop_cons hd1).2.1)) (ow (own_ixl tx 1 (drop_cons hd1).1) (ow (show 1 = 1 ∧ RK.opn .uq = true ∧ ((sortB ((([] : List Bytes)) ++ (a0_))).map tx)[i1]? = some [D.str (x1_)] ∧ 1 ≤ 1 from ⟨rfl, rfl, map_get tx (drop_cons hd1).1, by omega⟩) (ow (h45) (ow (h45) (ow (h45) (ow (h45) (ow (own_at tx 1 h48) (ow (h45) (ow (show 1 = 1 ∧ RK.opn .uq = true ∧ ((sortB ((([] : List Bytes)) ++ (a0_))).map tx)[(IntKind.i64.wrap (((i1 : Int)) - (1))).toNat]? = some [D.str (x47)] ∧ 1 ≤ 1 from ⟨rfl, rfl, map_get tx (atI_get h48), by omega⟩) (ow (h45) (ow (h45) (ow (h45) (ow (h49) ow0)))))))))))))) ?_
        refine (congrFun hS1 _).mpr ?_
        rw [i64_succ (drop_cons hd1).2.1 hm1]
        first | exact t | (simp only [List.map_append, List.map_cons, List.map_nil, List.map_set] at t ⊢; exact t)
theorem d_impl_SortedTexts_good {a0_ : List Bytes} {r : List Bytes} (h : d_impl_SortedTexts a0_ = some r) : Good Try.prog 88 [D.sl ((a0_).map tx)] (D.fr 9 1 ((r).map tx)) := by
  refine Good.of (c := bodyOf Try.f88) Try.func88 rfl (by decide) (by simp [Try.f88]) ?_
  intro hr Γ hΓ
  have hΓ : Γ.nt = 35 := hΓ
  rw [d_impl_SortedTexts] at h
  refine (show AW Try.prog Γ (bodyOf Try.f88) (KQ Try.prog Γ (fun _ _ => False) (RetQ Try.prog Try.f88 (D.fr 9 1 ((r).map tx))) []) _ from ?_)
  obtain ⟨h1, h⟩ := den_ok h
  obtain ⟨h2, h⟩ := den_ok h
  obtain ⟨h51, h⟩ := den_ok h
  refine AW_go (n := 2000) [[some (9, 1)]] [.fl true, .mu 0 ((sortB ((([] : List Bytes)) ++ (a0_))).map tx), .pro 4, .cn [3, 4, 11, 12, 13] [0, 1]] (.lp (dig (bodyOf Try.f88) [1, 1, 1, 1, 0, 1, 0, 0] []).1 (dig (bodyOf Try.f88) [1, 1, 1, 1, 0, 1, 0] []).2 ⟨[(3, D.acc 0), (4, D.acc 1), (11, D.acc 0), (12, D.int .i64 ((((sortB ((([] : List Bytes)) ++ (a0_))).map tx).length : Int))), (13, D.int .i64 (0))], [Ob.row .uq 9 1 ((sortB ((([] : List Bytes)) ++ (a0_))).map tx), Ob.row .uq 9 1 (([] : List (List D)))]⟩) hΓ mix (by kernel_rfl) (ow (room_ok h1) (ow (show (∀ r ∈ ((a0_).map tx), r.length = 1) ∧ (true = true → D.flatRows ((a0_).map tx) = true) from ⟨by simp, by simp [D.flatRows, D.flat]⟩) (ow (show ((([] : List (List D))) ++ ((a0_).map tx)).flatten.all D.flat = true from by simpa only [List.map_append, List.map_cons, List.map_nil] using flat_tx_all ((([] : List Bytes)) ++ (a0_))) (ow (show GoodM Try.prog 145 9 1 ((([] : List (List D))) ++ ((a0_).map tx)) ((sortB ((([] : List Bytes)) ++ (a0_))).map tx) from by simpa only [List.map_append, List.map_cons, List.map_nil] using (d_sort_Strings_good (e := 9) (of_decide_eq_true h2))) ow0)))) (AW_st (by first | rfl | (simp only [List.map_append, List.map_cons, List.map_nil, List.map_set, List.map_replicate] <;> rfl)) (AW_of_r (d_impl_SortedTexts_L1w hΓ (fun q1_0 h => ?_) (of_decide_eq_true h51) (sortB ((([] : List Bytes)) ++ (a0_))) 0 (([] : List Bytes)) rfl h)))
  have h := den_some h
  subst h
  exact AW_go (n := 2000) [[some (9, 1)]] [] (.ret (D.fr 9 1 ((q1_0).map tx))) hΓ mix (by kernel_rfl) ow0 rfl
def d_spec_WritesOf_L1 (a0_ : Rule) (k1 : List Bytes → Option (List Bytes)) : List Action → Nat → List Bytes → Option (List Bytes)
  | [], i1, w1_1 => (k1 (w1_1))
  | x1_ :: xs1, i1, w1_1 => (bif (x1_.kind : Int) == (1) then ((d_spec_l1Put (w1_1) (x1_.pat.rel)).bind fun y43 => (d_spec_WritesOf_L1 a0_ k1 xs1 (i1 + 1) (y43))) else (bif (x1_.kind : Int) == (2) then ((d_spec_l1Put (w1_1) (x1_.pat.rel)).bind fun y46 => (d_spec_WritesOf_L1 a0_ k1 xs1 (i1 + 1) (y46))) else (d_spec_WritesOf_L1 a0_ k1 xs1 (i1 + 1) (w1_1))))
def d_spec_WritesOf (a0_ : Rule) : Option (List Bytes) := (d_spec_WritesOf_L1 a0_ (fun (q1_0 : List Bytes) => (some (q1_0))) (a0_.acts) 0 (([] : List Bytes)))
theorem d_spec_WritesOf_L1w {Γ : Ctx} (hΓ : Γ.nt = 39) {N : Nat → St → Prop} {a0_ : Rule} {r : List Bytes} {k1 : List Bytes → Option (List Bytes)} (hE1 : ∀ (q1_0 : List Bytes), k1 q1_0 = some r → AW Try.prog Γ (dig (bodyOf Try.f43) [1, 1, 1] []).1 (KQ Try.prog Γ N (RetQ Try.prog Try.f43 (D.fr 9 1 ((r).map tx))) (dig (bodyOf Try.f43) [1, 1, 1] []).2) ⟨[(3, D.acc 0)], [Ob.row .uq 9 1 ((q1_0).map tx)]⟩) (hm1 : (a0_.acts).length ≤ maxLen) : ∀ (rest : List Action) (i1 : Nat) (w1_1 : List Bytes), (a0_.acts).drop i1 = rest → d_spec_WritesOf_L1 a0_ k1 rest i1 w1_1 = some r → AWr Try.prog Γ (dig (bodyOf Try.f43) [1, 1, 0, 1, 0, 0] []).1 (KQ Try.prog Γ N (RetQ Try.prog Try.f43 (D.fr 9 1 ((r).map tx))) (dig (bodyOf Try.f43) [1, 1, 0, 1, 0] []).2) (rest.length + 1) ⟨[(1, D.ptr 0 0), (3, D.acc 1), (4, D.int .i64 ((i1 : Int)))], [Ob.box (Rule.c a0_), Ob.row .uq 9 1 ((w1_1).map tx)]⟩ := by
  intro rest
  induction rest with
  | nil =>
    intro i1 w1_1 hd1 h
    rw [d_spec_WritesOf_L1] at h
    refine AWr_succ fun N1 hN1 hS1 => ?_
    have t := AW_N (N := N) (N' := N1) (K0 := (dig (bodyOf Try.f43) [1, 1, 0, 1, 0] []).2) (by kernel_rfl) hN1 (hE1 (w1_1) h)
    refine AW_go (n := 2000) [[some (9, 1)]] [.b false, .hl 0 [3] [1]] (.at_ (dig (bodyOf Try.f43) [1, 1, 1] []).1 (dig (bodyOf Try.f43) [1, 1, 1] []).2 ⟨[(3, D.acc 0)], [Ob.row .uq 9 1 ((w1_1).map tx)]⟩) hΓ mix (by kernel_rfl) (ow ((ltm_false Action.c (drop_nil hd1))) ow0) ?_
    first | exact t | (simp only [List.map_append, List.map_cons, List.map_nil, List.map_set] at t ⊢; exact t)
  | cons x1_ xs1 ih1 =>
    intro i1 w1_1 hd1 h
    rw [d_spec_WritesOf_L1] at h
    refine AWr_succ fun N1 hN1 hS1 => ?_
    rcases den_if h with ⟨h42, h⟩ | ⟨h42, h⟩
    · obtain ⟨y43, h44, h⟩ := den_bind h
      have t := ih1 (i1 + 1) (y43) (drop_cons hd1).2.2 h
      refine AW_go (n := 2000) [[some (9, 1)]] [.b true, .row (Action.c x1_), .b true, .b true, .b true, .b true, .b true, .b true, .b true, .b true, .b true, .row (Action.c x1_), .d (D.fr 9 1 ((y43).map tx)), .cn [1, 3, 4] [0, 2]] (.cont 0 ⟨[(1, D.ptr 0 0), (3, D.acc 1), (4, D.int .i64 (IntKind.i64.wrap (((i1 : Int)) + (1))))], [Ob.box (Rule.c a0_), Ob.row .uq 9 1 ((y43).map tx)]⟩) hΓ mix (by kernel_rfl) (ow ((ltm_true Action.c (drop_cons hd1).2.1)) (ow (map_row Action.c 3 (drop_cons hd1).1 rfl) (ow (h42) (ow (h42) (ow (h42) (ow (h42) (ow (h42) (ow (h42) (ow (h42) (ow (h42) (ow (show (true) = true from rfl) (ow (map_row Action.c 3 (drop_cons hd1).1 rfl) (ow (d_spec_l1Put_good h44) ow0))))))))))))) ?_
      refine (congrFun hS1 _).mpr ?_
      rw [i64_succ (drop_cons hd1).2.1 hm1]
      first | exact t | (simp only [List.map_append, List.map_cons, List.map_nil, List.map_set] at t ⊢; exact t)
    · rcases den_if h with ⟨h45, h⟩ | ⟨h45, h⟩
      · obtain ⟨y46, h47, h⟩ := den_bind h
        have t := ih1 (i1 + 1) (y46) (drop_cons hd1).2.2 h
        refine AW_go (n := 2000) [[some (9, 1)]] [.b true, .row (Action.c x1_), .b false, .b false, .b false, .b false, .row (Action.c x1_), .b false, .b false, .b false, .b false, .b true, .row (Action.c x1_), .d (D.fr 9 1 ((y46).map tx)), .cn [1, 3, 4] [0, 2]] (.cont 0 ⟨[(1, D.ptr 0 0), (3, D.acc 1), (4, D.int .i64 (IntKind.i64.wrap (((i1 : Int)) + (1))))], [Ob.box (Rule.c a0_), Ob.row .uq 9 1 ((y46).map tx)]⟩) hΓ mix (by kernel_rfl) (ow ((ltm_true Action.c (drop_cons hd1).2.1)) (ow (map_row Action.c 3 (drop_cons hd1).1 rfl) (ow (h42) (ow (h42) (ow (h42) (ow (h42) (ow (map_row Action.c 3 (drop_cons hd1).1 rfl) (ow (h42) (ow (h42) (ow (h42) (ow (h42) (ow (h45) (ow (map_row Action.c 3 (drop_cons hd1).1 rfl) (ow (d_spec_l1Put_good h47) ow0)))))))))))))) ?_
        refine (congrFun hS1 _).mpr ?_
        rw [i64_succ (drop_cons hd1).2.1 hm1]
        first | exact t | (simp only [List.map_append, List.map_cons, List.map_nil, List.map_set] at t ⊢; exact t)
      · have t := ih1 (i1 + 1) (w1_1) (drop_cons hd1).2.2 h
        refine AW_go (n := 2000) [[some (9, 1)]] [.b true, .row (Action.c x1_), .b false, .b false, .b false, .b false, .row (Action.c x1_), .b false, .b false, .b false, .b false, .b false, .cn [1, 3, 4] [0, 1]] (.cont 0 ⟨[(1, D.ptr 0 0), (3, D.acc 1), (4, D.int .i64 (IntKind.i64.wrap (((i1 : Int)) + (1))))], [Ob.box (Rule.c a0_), Ob.row .uq 9 1 ((w1_1).map tx)]⟩) hΓ mix (by kernel_rfl) (ow ((ltm_true Action.c (drop_cons hd1).2.1)) (ow (map_row Action.c 3 (drop_cons hd1).1 rfl) (ow (h42) (ow (h42) (ow (h42) (ow (h42) (ow (map_row Action.c 3 (drop_cons hd1).1 rfl) (ow (h42) (ow (h42) (ow (h42) (ow (h42) (ow (h45) ow0)))))))))))) ?_
        refine (congrFun hS1 _).mpr ?_
        rw [i64_succ (drop_cons hd1).2.1 hm1]
        first | exact t | (simp only [List.map_append, List.map_cons, List.map_nil, List.map_set] at t ⊢; exact t)
theorem d_spec_WritesOf_good {a0_ : Rule} {r : List Bytes} (h : d_spec_WritesOf a0_ = some r) : Good Try.prog 43 [D.agg (Rule.c a0_)] (D.fr 9 1 ((r).map tx)) := by
  refine Good.of (c := bodyOf Try.f43) Try.func43 rfl (by decide) (by simp [Try.f43]) ?_
  intro hr Γ hΓ
  have hΓ : Γ.nt = 39 := hΓ
  rw [d_spec_WritesOf] at h
  refine (show AW Try.prog Γ (bodyOf Try.f43) (KQ Try.prog Γ (fun _ _ => False) (RetQ Try.prog Try.f43 (D.fr 9 1 ((r).map tx))) []) _ from ?_)
  refine AW_go (n := 2000) [[some (9, 1)]] [.cn [1, 3, 4] [0, 1]] (.lp (dig (bodyOf Try.f43) [1, 1, 0, 1, 0, 0] []).1 (dig (bodyOf Try.f43) [1, 1, 0, 1, 0] []).2 ⟨[(1, D.ptr 0 0), (3, D.acc 1), (4, D.int .i64 (0))], [Ob.box (Rule.c a0_), Ob.row .uq 9 1 (([] : List (List D)))]⟩) hΓ mix (by kernel_rfl) ow0 (AW_st (by first | rfl | (simp only [List.map_append, List.map_cons, List.map_nil, List.map_set, List.map_replicate] <;> rfl)) (AW_of_r (d_spec_WritesOf_L1w hΓ (fun q1_0 h => ?_) (by have := (Rdb.sl (Rdb.agg (hr _ (List.mem_of_getElem? (i := 0) rfl)) (.sl ((a0_.acts).map Action.c)) (by simp))).1; simpa using this) (a0_.acts) 0 (([] : List Bytes)) rfl h)))
  have h := den_some h
  subst h
  exact AW_go (n := 2000) [[some (9, 1)]] [] (.ret (D.fr 9 1 ((q1_0).map tx))) hΓ mix (by kernel_rfl) ow0 rfl
def d_impl_WritesOf_L1 (a0_ : Rule) (k1 : List Bytes → Option (List Bytes)) : List Action → Nat → List Bytes → Option (List Bytes)
  | [], i1, w1_0 => (k1 (w1_0))
  | x1_ :: xs1, i1, w1_0 => (bif (x1_.kind : Int) == (1) then (bif room (((w1_0).map tx).length + ([[D.str (x1_.pat.rel)]]).length) 16 then (d_impl_WritesOf_L1 a0_ k1 xs1 (i1 + 1) ((w1_0) ++ ([x1_.pat.rel]))) else none) else (bif (x1_.kind : Int) == (2) then (bif room (((w1_0).map tx).length + ([[D.str (x1_.pat.rel)]]).length) 16 then (d_impl_WritesOf_L1 a0_ k1 xs1 (i1 + 1) ((w1_0) ++ ([x1_.pat.rel]))) else none) else (d_impl_WritesOf_L1 a0_ k1 xs1 (i1 + 1) (w1_0))))
def d_impl_WritesOf (a0_ : Rule) : Option (List Bytes) := (d_impl_WritesOf_L1 a0_ (fun (q1_0 : List Bytes) => ((d_impl_SortedTexts (q1_0)).bind fun y36 => (some (y36)))) (a0_.acts) 0 (([] : List Bytes)))
theorem d_impl_WritesOf_L1w {Γ : Ctx} (hΓ : Γ.nt = 30) {N : Nat → St → Prop} {a0_ : Rule} {r : List Bytes} {k1 : List Bytes → Option (List Bytes)} (hE1 : ∀ (q1_0 : List Bytes), k1 q1_0 = some r → AW Try.prog Γ (dig (bodyOf Try.f44) [1, 1, 1] []).1 (KQ Try.prog Γ N (RetQ Try.prog Try.f44 (D.fr 9 1 ((r).map tx))) (dig (bodyOf Try.f44) [1, 1, 1] []).2) ⟨[(3, D.acc 0)], [Ob.row .uq 9 1 ((q1_0).map tx)]⟩) (hm1 : (a0_.acts).length ≤ maxLen) : ∀ (rest : List Action) (i1 : Nat) (w1_0 : List Bytes), (a0_.acts).drop i1 = rest → d_impl_WritesOf_L1 a0_ k1 rest i1 w1_0 = some r → AWr Try.prog Γ (dig (bodyOf Try.f44) [1, 1, 0, 1, 0, 0] []).1 (KQ Try.prog Γ N (RetQ Try.prog Try.f44 (D.fr 9 1 ((r).map tx))) (dig (bodyOf Try.f44) [1, 1, 0, 1, 0] []).2) (rest.length + 1) ⟨[(3, D.acc 0), (7, D.sl ((a0_.acts).map Action.c)), (8, D.int .i64 ((((a0_.acts).map Action.c).length : Int))), (9, D.int .i64 ((i1 : Int)))], [Ob.row .uq 9 1 ((w1_0).map tx)]⟩ := by
  intro rest
  induction rest with
  | nil =>
    intro i1 w1_0 hd1 h
    rw [d_impl_WritesOf_L1] at h
    refine AWr_succ fun N1 hN1 hS1 => ?_
    have t := AW_N (N := N) (N' := N1) (K0 := (dig (bodyOf Try.f44) [1, 1, 0, 1, 0] []).2) (by kernel_rfl) hN1 (hE1 (w1_0) h)
    refine AW_go (n := 2000) [[some (9, 1)]] [.b false, .hl 0 [3] [0]] (.at_ (dig (bodyOf Try.f44) [1, 1, 1] []).1 (dig (bodyOf Try.f44) [1, 1, 1] []).2 ⟨[(3, D.acc 0)], [Ob.row .uq 9 1 ((w1_0).map tx)]⟩) hΓ mix (by kernel_rfl) (ow ((ltm_false Action.c (drop_nil hd1))) ow0) ?_
    first | exact t | (simp only [List.map_append, List.map_cons, List.map_nil, List.map_set] at t ⊢; exact t)
  | cons x1_ xs1 ih1 =>
    intro i1 w1_0 hd1 h
    rw [d_impl_WritesOf_L1] at h
    refine AWr_succ fun N1 hN1 hS1 => ?_
    rcases den_if h with ⟨h32, h⟩ | ⟨h32, h⟩
    · obtain ⟨h33, h⟩ := den_ok h
      have t := ih1 (i1 + 1) ((w1_0) ++ ([x1_.pat.rel])) (drop_cons hd1).2.2 h
      refine AW_go (n := 2000) [[some (9, 1)]] [.b true, .row (Action.c x1_), .b true, .b true, .b true, .b true, .b true, .cn [3, 7, 8, 9] [3]] (.cont 0 ⟨[(3, D.acc 0), (7, D.sl ((a0_.acts).map Action.c)), (8, D.int .i64 ((((a0_.acts).map Action.c).length : Int))), (9, D.int .i64 (IntKind.i64.wrap (((i1 : Int)) + (1))))], [Ob.row .uq 9 1 (((w1_0).map tx) ++ ([[D.str (x1_.pat.rel)]]))]⟩) hΓ mix (by kernel_rfl) (ow ((ltm_true Action.c (drop_cons hd1).2.1)) (ow (map_row Action.c 3 (drop_cons hd1).1 rfl) (ow (h32) (ow (h32) (ow (h32) (ow (h32) (ow (show (true) = true from rfl) (ow (room_ok h33) ow0)))))))) ?_
      refine (congrFun hS1 _).mpr ?_
      rw [i64_succ (drop_cons hd1).2.1 hm1]
      first | exact t | (simp only [List.map_append, List.map_cons, List.map_nil, List.map_set] at t ⊢; exact t)
    · rcases den_if h with ⟨h34, h⟩ | ⟨h34, h⟩
      · obtain ⟨h35, h⟩ := den_ok h
        have t := ih1 (i1 + 1) ((w1_0) ++ ([x1_.pat.rel])) (drop_cons hd1).2.2 h
        refine AW_go (n := 2000) [[some (9, 1)]] [.b true, .row (Action.c x1_), .b false, .b false, .b false, .b false, .b true, .cn [3, 7, 8, 9] [3]] (.cont 0 ⟨[(3, D.acc 0), (7, D.sl ((a0_.acts).map Action.c)), (8, D.int .i64 ((((a0_.acts).map Action.c).length : Int))), (9, D.int .i64 (IntKind.i64.wrap (((i1 : Int)) + (1))))], [Ob.row .uq 9 1 (((w1_0).map tx) ++ ([[D.str (x1_.pat.rel)]]))]⟩) hΓ mix (by kernel_rfl) (ow ((ltm_true Action.c (drop_cons hd1).2.1)) (ow (map_row Action.c 3 (drop_cons hd1).1 rfl) (ow (h32) (ow (h32) (ow (h32) (ow (h32) (ow (h34) (ow (room_ok h35) ow0)))))))) ?_
        refine (congrFun hS1 _).mpr ?_
        rw [i64_succ (drop_cons hd1).2.1 hm1]
        first | exact t | (simp only [List.map_append, List.map_cons, List.map_nil, List.map_set] at t ⊢; exact t)
      · have t := ih1 (i1 + 1) (w1_0) (drop_cons hd1).2.2 h
        refine AW_go (n := 2000) [[some (9, 1)]] [.b true, .row (Action.c x1_), .b false, .b false, .b false, .b false, .b false, .cn [3, 7, 8, 9] [0]] (.cont 0 ⟨[(3, D.acc 0), (7, D.sl ((a0_.acts).map Action.c)), (8, D.int .i64 ((((a0_.acts).map Action.c).length : Int))), (9, D.int .i64 (IntKind.i64.wrap (((i1 : Int)) + (1))))], [Ob.row .uq 9 1 ((w1_0).map tx)]⟩) hΓ mix (by kernel_rfl) (ow ((ltm_true Action.c (drop_cons hd1).2.1)) (ow (map_row Action.c 3 (drop_cons hd1).1 rfl) (ow (h32) (ow (h32) (ow (h32) (ow (h32) (ow (h34) ow0))))))) ?_
        refine (congrFun hS1 _).mpr ?_
        rw [i64_succ (drop_cons hd1).2.1 hm1]
        first | exact t | (simp only [List.map_append, List.map_cons, List.map_nil, List.map_set] at t ⊢; exact t)
theorem d_impl_WritesOf_good {a0_ : Rule} {r : List Bytes} (h : d_impl_WritesOf a0_ = some r) : Good Try.prog 44 [D.agg (Rule.c a0_)] (D.fr 9 1 ((r).map tx)) := by
  refine Good.of (c := bodyOf Try.f44) Try.func44 rfl (by decide) (by simp [Try.f44]) ?_
  intro hr Γ hΓ
  have hΓ : Γ.nt = 30 := hΓ
  rw [d_impl_WritesOf] at h
  refine (show AW Try.prog Γ (bodyOf Try.f44) (KQ Try.prog Γ (fun _ _ => False) (RetQ Try.prog Try.f44 (D.fr 9 1 ((r).map tx))) []) _ from ?_)
  refine AW_go (n := 2000) [[some (9, 1)]] [.pro 3, .cn [3, 7, 8, 9] [1]] (.lp (dig (bodyOf Try.f44) [1, 1, 0, 1, 0, 0] []).1 (dig (bodyOf Try.f44) [1, 1, 0, 1, 0] []).2 ⟨[(3, D.acc 0), (7, D.sl ((a0_.acts).map Action.c)), (8, D.int .i64 ((((a0_.acts).map Action.c).length : Int))), (9, D.int .i64 (0))], [Ob.row .uq 9 1 (([] : List (List D)))]⟩) hΓ mix (by kernel_rfl) ow0 (AW_st (by first | rfl | (simp only [List.map_append, List.map_cons, List.map_nil, List.map_set, List.map_replicate] <;> rfl)) (AW_of_r (d_impl_WritesOf_L1w hΓ (fun q1_0 h => ?_) (by have := (Rdb.sl (Rdb.agg (hr _ (List.mem_of_getElem? (i := 0) rfl)) (.sl ((a0_.acts).map Action.c)) (by simp))).1; simpa using this) (a0_.acts) 0 (([] : List Bytes)) rfl h)))
  obtain ⟨y36, h37, h⟩ := den_bind h
  have h := den_some h
  subst h
  exact AW_go (n := 2000) [[some (9, 1)]] [.d (D.fr 9 1 ((y36).map tx))] (.ret (D.fr 9 1 ((y36).map tx))) hΓ mix (by kernel_rfl) (ow (d_impl_SortedTexts_good h37) ow0) rfl
end Go.Cx
