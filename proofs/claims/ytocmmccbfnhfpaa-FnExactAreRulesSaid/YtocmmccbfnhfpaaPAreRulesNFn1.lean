/- What functions of the program compute, and the walks that show it. No condition. -/
import Derived.Test.YtocmmccbfnhfpaaNLay
namespace Go.Cx
open Go.RowKit Go.Proofs
set_option linter.unusedVariables false
set_option linter.unusedSimpArgs false
set_option maxRecDepth 100000
def d_impl_copyTexts (a0_ : List Bytes) : Option (List Bytes) := (bif room ((([] : List (List D))).length + ((a0_).map tx).length) 16 then (some ((([] : List Bytes)) ++ (a0_))) else none)
theorem d_impl_copyTexts_good {a0_ : List Bytes} {r : List Bytes} (h : d_impl_copyTexts a0_ = some r) : Good Try.prog 134 [D.sl ((a0_).map tx)] (D.fr 9 1 ((r).map tx)) := by
  refine Good.of (c := bodyOf Try.f134) Try.func134 rfl (by decide) (by simp [Try.f134]) ?_
  intro hr Γ hΓ
  have hΓ : Γ.nt = 5 := hΓ
  rw [d_impl_copyTexts] at h
  refine (show AW Try.prog Γ (bodyOf Try.f134) (KQ Try.prog Γ (fun _ _ => False) (RetQ Try.prog Try.f134 (D.fr 9 1 ((r).map tx))) []) _ from ?_)
  obtain ⟨h1, h⟩ := den_ok h
  have h := den_some h
  subst h
  exact AW_go (n := 2000) [[some (9, 1)]] [.pro 2, .fl true] (.ret (D.fr 9 1 ((([] : List (List D))) ++ ((a0_).map tx)))) hΓ mix (by kernel_rfl) (ow (room_ok h1) (ow (show (∀ r ∈ ((a0_).map tx), r.length = 1) ∧ (true = true → D.flatRows ((a0_).map tx) = true) from ⟨by simp, by simp [D.flatRows, D.flat]⟩) ow0)) (by first | rfl | (simp only [List.map_append, List.map_cons, List.map_nil, List.map_set] <;> rfl))
def d_spec_l1Put_L1 (a0_ : List Bytes) (a1_ : Bytes) (k1 : Bool → List Bytes → Option (List Bytes)) : List Bytes → Nat → Bool → List Bytes → Option (List Bytes)
  | [], i1, v1_6, w1_0 => (k1 (v1_6) (w1_0))
  | x1_ :: xs1, i1, v1_6, w1_0 => (bif !(v1_6) then (bif !(Op.bytesLess (x1_) (a1_)) then (bif !((x1_ : Bytes) == (a1_)) then (bif room (((w1_0).map tx).length + ([[D.str (a1_)]]).length) 16 then (bif room ((((w1_0).map tx) ++ ([[D.str (a1_)]])).length + ([[D.str (x1_)]]).length) 16 then (d_spec_l1Put_L1 a0_ a1_ k1 xs1 (i1 + 1) (true) (((w1_0) ++ ([a1_])) ++ ([x1_]))) else none) else none) else (bif room (((w1_0).map tx).length + ([[D.str (x1_)]]).length) 16 then (d_spec_l1Put_L1 a0_ a1_ k1 xs1 (i1 + 1) (true) ((w1_0) ++ ([x1_]))) else none)) else (bif room (((w1_0).map tx).length + ([[D.str (x1_)]]).length) 16 then (d_spec_l1Put_L1 a0_ a1_ k1 xs1 (i1 + 1) (v1_6) ((w1_0) ++ ([x1_]))) else none)) else (bif room (((w1_0).map tx).length + ([[D.str (x1_)]]).length) 16 then (d_spec_l1Put_L1 a0_ a1_ k1 xs1 (i1 + 1) (v1_6) ((w1_0) ++ ([x1_]))) else none))
def d_spec_l1Put (a0_ : List Bytes) (a1_ : Bytes) : Option (List Bytes) := (d_spec_l1Put_L1 a0_ a1_ (fun (z1_6 : Bool) (q1_0 : List Bytes) => (bif !(z1_6) then (bif room (((q1_0).map tx).length + ([[D.str (a1_)]]).length) 16 then (some ((q1_0) ++ ([a1_]))) else none) else (some (q1_0)))) (a0_) 0 (false) (([] : List Bytes)))
theorem d_spec_l1Put_L1w {Γ : Ctx} (hΓ : Γ.nt = 49) {N : Nat → St → Prop} {a0_ : List Bytes} {a1_ : Bytes} {r : List Bytes} {k1 : Bool → List Bytes → Option (List Bytes)} (hE1 : ∀ (z1_6 : Bool) (q1_0 : List Bytes), k1 z1_6 q1_0 = some r → AW Try.prog Γ (dig (bodyOf Try.f85) [1, 1, 1, 1] []).1 (KQ Try.prog Γ N (RetQ Try.prog Try.f85 (D.fr 9 1 ((r).map tx))) (dig (bodyOf Try.f85) [1, 1, 1, 1] []).2) ⟨[(1, D.str (a1_)), (5, D.acc 0), (6, D.bool (z1_6))], [Ob.row .uq 9 1 ((q1_0).map tx)]⟩) (hm1 : (a0_).length ≤ maxLen) : ∀ (rest : List Bytes) (i1 : Nat) (v1_6 : Bool) (w1_0 : List Bytes), (a0_).drop i1 = rest → d_spec_l1Put_L1 a0_ a1_ k1 rest i1 v1_6 w1_0 = some r → AWr Try.prog Γ (dig (bodyOf Try.f85) [1, 1, 1, 0, 1, 0, 0] []).1 (KQ Try.prog Γ N (RetQ Try.prog Try.f85 (D.fr 9 1 ((r).map tx))) (dig (bodyOf Try.f85) [1, 1, 1, 0, 1, 0] []).2) (rest.length + 1) ⟨[(0, D.sl ((a0_).map tx)), (1, D.str (a1_)), (5, D.acc 0), (6, D.bool (v1_6)), (7, D.int .i64 ((i1 : Int)))], [Ob.row .uq 9 1 ((w1_0).map tx)]⟩ := by
  intro rest
  induction rest with
  | nil =>
    intro i1 v1_6 w1_0 hd1 h
    rw [d_spec_l1Put_L1] at h
    refine AWr_succ fun N1 hN1 hS1 => ?_
    have t := AW_N (N := N) (N' := N1) (K0 := (dig (bodyOf Try.f85) [1, 1, 1, 0, 1, 0] []).2) (by kernel_rfl) hN1 (hE1 (v1_6) (w1_0) h)
    refine AW_go (n := 2000) [[some (9, 1)]] [.b false, .hl 0 [1, 5, 6] [0]] (.at_ (dig (bodyOf Try.f85) [1, 1, 1, 1] []).1 (dig (bodyOf Try.f85) [1, 1, 1, 1] []).2 ⟨[(1, D.str (a1_)), (5, D.acc 0), (6, D.bool (v1_6))], [Ob.row .uq 9 1 ((w1_0).map tx)]⟩) hΓ mix (by kernel_rfl) (ow ((ltm_false tx (drop_nil hd1))) ow0) ?_
    first | exact t | (simp only [List.map_append, List.map_cons, List.map_nil, List.map_set] at t ⊢; exact t)
  | cons x1_ xs1 ih1 =>
    intro i1 v1_6 w1_0 hd1 h
    rw [d_spec_l1Put_L1] at h
    refine AWr_succ fun N1 hN1 hS1 => ?_
    rcases den_if h with ⟨h58, h⟩ | ⟨h58, h⟩
    · rcases den_if h with ⟨h59, h⟩ | ⟨h59, h⟩
      · rcases den_if h with ⟨h60, h⟩ | ⟨h60, h⟩
        · obtain ⟨h61, h⟩ := den_ok h
          obtain ⟨h62, h⟩ := den_ok h
          have t := ih1 (i1 + 1) (true) (((w1_0) ++ ([a1_])) ++ ([x1_])) (drop_cons hd1).2.2 h
          refine AW_go (n := 2000) [[some (9, 1)]] [.b true, .b true, .b true, .b true, .row (tx x1_), .b true, .b true, .b true, .b true, .b true, .row (tx x1_), .b true, .row (tx x1_), .cn [0, 1, 5, 6, 7] [4]] (.cont 0 ⟨[(0, D.sl ((a0_).map tx)), (1, D.str (a1_)), (5, D.acc 0), (6, D.bool (true)), (7, D.int .i64 (IntKind.i64.wrap (((i1 : Int)) + (1))))], [Ob.row .uq 9 1 ((((w1_0).map tx) ++ ([[D.str (a1_)]])) ++ ([[D.str (x1_)]]))]⟩) hΓ mix (by kernel_rfl) (ow ((ltm_true tx (drop_cons hd1).2.1)) (ow (h58) (ow (h58) (ow (h58) (ow (map_row tx 1 (drop_cons hd1).1 rfl) (ow (h58) (ow (h58) (ow (h58) (ow (h58) (ow (h59) (ow (map_row tx 1 (drop_cons hd1).1 rfl) (ow (h60) (ow (room_ok h61) (ow (map_row tx 1 (drop_cons hd1).1 rfl) (ow (room_ok h62) ow0))))))))))))))) ?_
          refine (congrFun hS1 _).mpr ?_
          rw [i64_succ (drop_cons hd1).2.1 hm1]
          first | exact t | (simp only [List.map_append, List.map_cons, List.map_nil, List.map_set] at t ⊢; exact t)
        · obtain ⟨h63, h⟩ := den_ok h
          have t := ih1 (i1 + 1) (true) ((w1_0) ++ ([x1_])) (drop_cons hd1).2.2 h
          refine AW_go (n := 2000) [[some (9, 1)]] [.b true, .b true, .b true, .b true, .row (tx x1_), .b true, .b true, .b true, .b true, .b true, .row (tx x1_), .b false, .row (tx x1_), .cn [0, 1, 5, 6, 7] [2]] (.cont 0 ⟨[(0, D.sl ((a0_).map tx)), (1, D.str (a1_)), (5, D.acc 0), (6, D.bool (true)), (7, D.int .i64 (IntKind.i64.wrap (((i1 : Int)) + (1))))], [Ob.row .uq 9 1 (((w1_0).map tx) ++ ([[D.str (x1_)]]))]⟩) hΓ mix (by kernel_rfl) (ow ((ltm_true tx (drop_cons hd1).2.1)) (ow (h58) (ow (h58) (ow (h58) (ow (map_row tx 1 (drop_cons hd1).1 rfl) (ow (h58) (ow (h58) (ow (h58) (ow (h58) (ow (h59) (ow (map_row tx 1 (drop_cons hd1).1 rfl) (ow (h60) (ow (map_row tx 1 (drop_cons hd1).1 rfl) (ow (room_ok h63) ow0)))))))))))))) ?_
          refine (congrFun hS1 _).mpr ?_
          rw [i64_succ (drop_cons hd1).2.1 hm1]
          first | exact t | (simp only [List.map_append, List.map_cons, List.map_nil, List.map_set] at t ⊢; exact t)
      · obtain ⟨h64, h⟩ := den_ok h
        have t := ih1 (i1 + 1) (v1_6) ((w1_0) ++ ([x1_])) (drop_cons hd1).2.2 h
        refine AW_go (n := 2000) [[some (9, 1)]] [.b true, .b true, .b true, .b true, .row (tx x1_), .b true, .b true, .b true, .b true, .b false, .row (tx x1_), .cn [0, 1, 5, 6, 7] [2]] (.cont 0 ⟨[(0, D.sl ((a0_).map tx)), (1, D.str (a1_)), (5, D.acc 0), (6, D.bool (v1_6)), (7, D.int .i64 (IntKind.i64.wrap (((i1 : Int)) + (1))))], [Ob.row .uq 9 1 (((w1_0).map tx) ++ ([[D.str (x1_)]]))]⟩) hΓ mix (by kernel_rfl) (ow ((ltm_true tx (drop_cons hd1).2.1)) (ow (h58) (ow (h58) (ow (h58) (ow (map_row tx 1 (drop_cons hd1).1 rfl) (ow (h58) (ow (h58) (ow (h58) (ow (h58) (ow (h59) (ow (map_row tx 1 (drop_cons hd1).1 rfl) (ow (room_ok h64) ow0)))))))))))) ?_
        refine (congrFun hS1 _).mpr ?_
        rw [i64_succ (drop_cons hd1).2.1 hm1]
        first | exact t | (simp only [List.map_append, List.map_cons, List.map_nil, List.map_set] at t ⊢; exact t)
    · obtain ⟨h65, h⟩ := den_ok h
      have t := ih1 (i1 + 1) (v1_6) ((w1_0) ++ ([x1_])) (drop_cons hd1).2.2 h
      refine AW_go (n := 2000) [[some (9, 1)]] [.b true, .b false, .b false, .b false, .b false, .b false, .b false, .b false, .b false, .row (tx x1_), .cn [0, 1, 5, 6, 7] [2]] (.cont 0 ⟨[(0, D.sl ((a0_).map tx)), (1, D.str (a1_)), (5, D.acc 0), (6, D.bool (v1_6)), (7, D.int .i64 (IntKind.i64.wrap (((i1 : Int)) + (1))))], [Ob.row .uq 9 1 (((w1_0).map tx) ++ ([[D.str (x1_)]]))]⟩) hΓ mix (by kernel_rfl) (ow ((ltm_true tx (drop_cons hd1).2.1)) (ow (h58) (ow (h58) (ow (h58) (ow (h58) (ow (h58) (ow (h58) (ow (h58) (ow (show (false) = false from rfl) (ow (map_row tx 1 (drop_cons hd1).1 rfl) (ow (room_ok h65) ow0))))))))))) ?_
      refine (congrFun hS1 _).mpr ?_
      rw [i64_succ (drop_cons hd1).2.1 hm1]
      first | exact t | (simp only [List.map_append, List.map_cons, List.map_nil, List.map_set] at t ⊢; exact t)
theorem d_spec_l1Put_good {a0_ : List Bytes} {a1_ : Bytes} {r : List Bytes} (h : d_spec_l1Put a0_ a1_ = some r) : Good Try.prog 85 [D.sl ((a0_).map tx), D.str (a1_)] (D.fr 9 1 ((r).map tx)) := by
  refine Good.of (c := bodyOf Try.f85) Try.func85 rfl (by decide) (by simp [Try.f85]) ?_
  intro hr Γ hΓ
  have hΓ : Γ.nt = 49 := hΓ
  rw [d_spec_l1Put] at h
  refine (show AW Try.prog Γ (bodyOf Try.f85) (KQ Try.prog Γ (fun _ _ => False) (RetQ Try.prog Try.f85 (D.fr 9 1 ((r).map tx))) []) _ from ?_)
  refine AW_go (n := 2000) [[some (9, 1)]] [.cn [0, 1, 5, 6, 7] [0]] (.lp (dig (bodyOf Try.f85) [1, 1, 1, 0, 1, 0, 0] []).1 (dig (bodyOf Try.f85) [1, 1, 1, 0, 1, 0] []).2 ⟨[(0, D.sl ((a0_).map tx)), (1, D.str (a1_)), (5, D.acc 0), (6, D.bool (false)), (7, D.int .i64 (0))], [Ob.row .uq 9 1 (([] : List (List D)))]⟩) hΓ mix (by kernel_rfl) ow0 (AW_st (by first | rfl | (simp only [List.map_append, List.map_cons, List.map_nil, List.map_set, List.map_replicate] <;> rfl)) (AW_of_r (d_spec_l1Put_L1w hΓ (fun z1_6 q1_0 h => ?_) (by have := (Rdb.sl (hr _ (List.mem_of_getElem? (i := 0) rfl))).1; simpa using this) (a0_) 0 (false) (([] : List Bytes)) rfl h)))
  rcases den_if h with ⟨h66, h⟩ | ⟨h66, h⟩
  · obtain ⟨h67, h⟩ := den_ok h
    have h := den_some h
    subst h
    exact AW_go (n := 2000) [[some (9, 1)]] [.b true] (.ret (D.fr 9 1 (((q1_0).map tx) ++ ([[D.str (a1_)]])))) hΓ mix (by kernel_rfl) (ow (h66) (ow (room_ok h67) ow0)) (by first | rfl | (simp only [List.map_append, List.map_cons, List.map_nil, List.map_set] <;> rfl))
  · have h := den_some h
    subst h
    exact AW_go (n := 2000) [[some (9, 1)]] [.b false] (.ret (D.fr 9 1 ((q1_0).map tx))) hΓ mix (by kernel_rfl) (ow (h66) ow0) rfl
def d_impl_SortedTexts_L1 (a0_ : List Bytes) (k1 : List Bytes → Option (List Bytes)) : List Bytes → Nat → List Bytes → Option (List Bytes)
  | [], i1, w1_1 => (k1 (w1_1))
  | x1_ :: xs1, i1, w1_1 => (bif ((i1 : Int) : Int) == (0) then (bif room (((w1_1).map tx).length + ([[D.str (x1_)]]).length) 16 then (d_impl_SortedTexts_L1 a0_ k1 xs1 (i1 + 1) ((w1_1) ++ ([x1_]))) else none) else ((atI (sortB ((([] : List Bytes)) ++ (a0_))) (IntKind.i64.wrap (((i1 : Int)) - (1)))).bind fun x47 => (bif !((x47 : Bytes) == (x1_)) then (bif room (((w1_1).map tx).length + ([[D.str (x1_)]]).length) 16 then (d_impl_SortedTexts_L1 a0_ k1 xs1 (i1 + 1) ((w1_1) ++ ([x1_]))) else none) else (d_impl_SortedTexts_L1 a0_ k1 xs1 (i1 + 1) (w1_1)))))
def d_impl_SortedTexts (a0_ : List Bytes) : Option (List Bytes) := (bif room ((([] : List (List D))).length + ((a0_).map tx).length) 16 then (bif decide (((([] : List Bytes)) ++ (a0_)).length < 4611686018427387904) then (bif decide ((sortB ((([] : List Bytes)) ++ (a0_))).length ≤ maxLen) then (d_impl_SortedTexts_L1 a0_ (fun (q1_0 : List Bytes) => (some (q1_0))) (sortB ((([] : List Bytes)) ++ (a0_))) 0 (([] : List Bytes))) else none) else none) else none)
theorem d_impl_SortedTexts_L1w {Γ : Ctx} (hΓ : Γ.nt = 35) {N : Nat → St → Prop} {a0_ : List Bytes} {r : List Bytes} {k1 : List Bytes → Option (List Bytes)} (hE1 : ∀ (q1_0 : List Bytes), k1 q1_0 = some r → AW Try.prog Γ (dig (bodyOf Try.f88) [1, 1, 1, 1, 1] []).1 (KQ Try.prog Γ N (RetQ Try.prog Try.f88 (D.fr 9 1 ((r).map tx))) (dig (bodyOf Try.f88) [1, 1, 1, 1, 1] []).2) ⟨[(4, D.acc 0)], [Ob.row .uq 9 1 ((q1_0).map tx)]⟩) (hm1 : (sortB ((([] : List Bytes)) ++ (a0_))).length ≤ maxLen) : ∀ (rest : List Bytes) (i1 : Nat) (w1_1 : List Bytes), (sortB ((([] : List Bytes)) ++ (a0_))).drop i1 = rest → d_impl_SortedTexts_L1 a0_ k1 rest i1 w1_1 = some r → AWr Try.prog Γ (dig (bodyOf Try.f88) [1, 1, 1, 1, 0, 1, 0, 0] []).1 (KQ Try.prog Γ N (RetQ Try.prog Try.f88 (D.fr 9 1 ((r).map tx))) (dig (bodyOf Try.f88) [1, 1, 1, 1, 0, 1, 0] []).2) (rest.length + 1) ⟨[(3, D.acc 0), (4, D.acc 1), (11, D.acc 0), (12, D.int .i64 ((((sortB ((([] : List Bytes)) ++ (a0_))).map tx).length : Int))), (13, D.int .i64 ((i1 : Int)))], [Ob.row .uq 9 1 ((sortB ((([] : List Bytes)) ++ (a0_))).map tx), Ob.row .uq 9 1 ((w1_1).map tx)]⟩ := by
  intro rest
  induction rest with
  | nil =>
    intro i1 w1_1 hd1 h
    rw [d_impl_SortedTexts_L1] at h
    refine AWr_succ fun N1 hN1 hS1 => ?_
    have t := AW_N (N := N) (N' := N1) (K0 := (dig (bodyOf Try.f88) [1, 1, 1, 1, 0, 1, 0] []).2) (by kernel_rfl) hN1 (hE1 (w1_1) h)
    refine AW_go (n := 2000) [[some (9, 1)]] [.b false, .hl 0 [4] [1]] (.at_ (dig (bodyOf Try.f88) [1, 1, 1, 1, 1] []).1 (dig (bodyOf Try.f88) [1, 1, 1, 1, 1] []).2 ⟨[(4, D.acc 0)], [Ob.row .uq 9 1 ((w1_1).map tx)]⟩) hΓ mix (by kernel_rfl) (ow ((ltm_false tx (drop_nil hd1))) ow0) ?_
    first | exact t | (simp only [List.map_append, List.map_cons, List.map_nil, List.map_set] at t ⊢; exact t)
  | cons x1_ xs1 ih1 =>
    intro i1 w1_1 hd1 h
    rw [d_impl_SortedTexts_L1] at h
    refine AWr_succ fun N1 hN1 hS1 => ?_
    rcases den_if h with ⟨h45, h⟩ | ⟨h45, h⟩
    · obtain ⟨h46, h⟩ := den_ok h
      have t := ih1 (i1 + 1) ((w1_1) ++ ([x1_])) (drop_cons hd1).2.2 h
      refine AW_go (n := 2000) [[some (9, 1)]] [.b true, .ix i1, .row [D.str (x1_)], .b true, .b true, .b true, .b true, .b true, .b true, .b true, .b true, .b true, .cn [3, 4, 11, 12, 13] [0, 3]] (.cont 0 ⟨[(3, D.acc 0), (4, D.acc 1), (11, D.acc 0), (12, D.int .i64 ((((sortB ((([] : List Bytes)) ++ (a0_))).map tx).length : Int))), (13, D.int .i64 (IntKind.i64.wrap (((i1 : Int)) + (1))))], [Ob.row .uq 9 1 ((sortB ((([] : List Bytes)) ++ (a0_))).map tx), Ob.row .uq 9 1 (((w1_1).map tx) ++ ([[D.str (x1_)]]))]⟩) hΓ mix (by kernel_rfl) (ow ((ltm_true tx (drop_cons hd1).2.1)) (ow (own_ixl tx 1 (drop_cons hd1).1) (ow (show 1 = 1 ∧ RK.opn .uq = true ∧ ((sortB ((([] : List Bytes)) ++ (a0_))).map tx)[i1]? = some [D.str (x1_)] ∧ 1 ≤ 1 from ⟨rfl, rfl, map_get tx (drop_cons hd1).1, by omega⟩) (ow (h45) (ow (h45) (ow (h45) (ow (h45) (ow (h45) (ow (h45) (ow (h45) (ow (h45) (ow (show (true) = true from rfl) (ow (room_ok h46) ow0))))))))))))) ?_
      refine (congrFun hS1 _).mpr ?_
      rw [i64_succ (drop_cons hd1).2.1 hm1]
      first | exact t | (simp only [List.map_append, List.map_cons, List.map_nil, List.map_set] at t ⊢; exact t)
    · obtain ⟨x47, h48, h⟩ := den_bind h
      rcases den_if h with ⟨h49, h⟩ | ⟨h49, h⟩
      · obtain ⟨h50, h⟩ := den_ok h
        have t := ih1 (i1 + 1) ((w1_1) ++ ([x1_])) (drop_cons hd1).2.2 h
        refine AW_go (n := 2000) [[some (9, 1)]] [.b true, .ix i1, .row [D.str (x1_)], .b false, .b false, .b false, .b false, .ix (IntKind.i64.wrap (((i1 : Int)) - (1))).toNat, .b false, .row [D.str (x47)], .b false, .b false, .b false, .b true, .cn [3, 4, 11, 12, 13] [0, 3]] (.cont 0 ⟨[(3, D.acc 0), (4, D.acc 1), (11, D.acc 0), (12, D.int .i64 ((((sortB ((([] : List Bytes)) ++ (a0_))).map tx).length : Int))), (13, D.int .i64 (IntKind.i64.wrap (((i1 : Int)) + (1))))], [Ob.row .uq 9 1 ((sortB ((([] : List Bytes)) ++ (a0_))).map tx), Ob.row .uq 9 1 (((w1_1).map tx) ++ ([[D.str (x1_)]]))]⟩) hΓ mix (by kernel_rfl) (ow ((ltm_true tx (drop_cons hd1).2.1)) (ow (own_ixl tx 1 (drop_cons hd1).1) (ow (show 1 = 1 ∧ RK.opn .uq = true ∧ ((sortB ((([] : List Bytes)) ++ (a0_))).map tx)[i1]? = some [D.str (x1_)] ∧ 1 ≤ 1 from ⟨rfl, rfl, map_get tx (drop_cons hd1).1, by omega⟩) (ow (h45) (ow (h45) (ow (h45) (ow (h45) (ow (own_at tx 1 h48) (ow (h45) (ow (show 1 = 1 ∧ RK.opn .uq = true ∧ ((sortB ((([] : List Bytes)) ++ (a0_))).map tx)[(IntKind.i64.wrap (((i1 : Int)) - (1))).toNat]? = some [D.str (x47)] ∧ 1 ≤ 1 from ⟨rfl, rfl, map_get tx (atI_get h48), by omega⟩) (ow (h45) (ow (h45) (ow (h45) (ow (h49) (ow (room_ok h50) ow0))))))))))))))) ?_
        refine (congrFun hS1 _).mpr ?_
        rw [i64_succ (drop_cons hd1).2.1 hm1]
        first | exact t | (simp only [List.map_append, List.map_cons, List.map_nil, List.map_set] at t ⊢; exact t)
      · have t := ih1 (i1 + 1) (w1_1) (drop_cons hd1).2.2 h
        refine AW_go (n := 2000) [[some (9, 1)]] [.b true, .ix i1, .row [D.str (x1_)], .b false, .b false, .b false, .b false, .ix (IntKind.i64.wrap (((i1 : Int)) - (1))).toNat, .b false, .row [D.str (x47)], .b false, .b false, .b false, .b false, .cn [3, 4, 11, 12, 13] [0, 1]] (.cont 0 ⟨[(3, D.acc 0), (4, D.acc 1), (11, D.acc 0), (12, D.int .i64 ((((sortB ((([] : List Bytes)) ++ (a0_))).map tx).length : Int))), (13, D.int .i64 (IntKind.i64.wrap (((i1 : Int)) + (1))))], [Ob.row .uq 9 1 ((sortB ((([] : List Bytes)) ++ (a0_))).map tx), Ob.row .uq 9 1 ((w1_1).map tx)]⟩) hΓ mix (by kernel_rfl) (ow ((ltm_true tx (drop_cons hd1).2.1)) (ow (own_ixl tx 1 (drop_cons hd1).1) (ow (show 1 = 1 ∧ RK.opn .uq = true ∧ ((sortB ((([] : List Bytes)) ++ (a0_))).map tx)[i1]? = some [D.str (x1_)] ∧ 1 ≤ 1 from ⟨rfl, rfl, map_get tx (drop_cons hd1).1, by omega⟩) (ow (h45) (ow (h45) (ow (h45) (ow (h45) (ow (own_at tx 1 h48) (ow (h45) (ow (show 1 = 1 ∧ RK.opn .uq = true ∧ ((sortB ((([] : List Bytes)) ++ (a0_))).map tx)[(IntKind.i64.wrap (((i1 : Int)) - (1))).toNat]? = some [D.str (x47)] ∧ 1 ≤ 1 from ⟨rfl, rfl, map_get tx (atI_get h48), by omega⟩) (ow (h45) (ow (h45) (ow (h45) (ow (h49) ow0)))))))))))))) ?_
        refine (congrFun hS1 _).mpr ?_
        rw [i64_succ (drop_cons hd1).2.1 hm1]
        first | exact t | (simp only [List.map_append, List.map_cons, List.map_nil, List.map_set] at t ⊢; exact t)
theorem d_impl_SortedTexts_good {a0_ : List Bytes} {r : List Bytes} (h : d_impl_SortedTexts a0_ = some r) : Good Try.prog 88 [D.sl ((a0_).map tx)] (D.fr 9 1 ((r).map tx)) := by
  refine Good.of (c := bodyOf Try.f88) Try.func88 rfl (by decide) (by simp [Try.f88]) ?_
  intro hr Γ hΓ
  have hΓ : Γ.nt = 35 := hΓ
  rw [d_impl_SortedTexts] at h
  refine (show AW Try.prog Γ (bodyOf Try.f88) (KQ Try.prog Γ (fun _ _ => False) (RetQ Try.prog Try.f88 (D.fr 9 1 ((r).map tx))) []) _ from ?_)
  obtain ⟨h1, h⟩ := den_ok h
  obtain ⟨h2, h⟩ := den_ok h
  obtain ⟨h51, h⟩ := den_ok h
  refine AW_go (n := 2000) [[some (9, 1)]] [.fl true, .mu 0 ((sortB ((([] : List Bytes)) ++ (a0_))).map tx), .pro 4, .cn [3, 4, 11, 12, 13] [0, 1]] (.lp (dig (bodyOf Try.f88) [1, 1, 1, 1, 0, 1, 0, 0] []).1 (dig (bodyOf Try.f88) [1, 1, 1, 1, 0, 1, 0] []).2 ⟨[(3, D.acc 0), (4, D.acc 1), (11, D.acc 0), (12, D.int .i64 ((((sortB ((([] : List Bytes)) ++ (a0_))).map tx).length : Int))), (13, D.int .i64 (0))], [Ob.row .uq 9 1 ((sortB ((([] : List Bytes)) ++ (a0_))).map tx), Ob.row .uq 9 1 (([] : List (List D)))]⟩) hΓ mix (by kernel_rfl) (ow (room_ok h1) (ow (show (∀ r ∈ ((a0_).map tx), r.length = 1) ∧ (true = true → D.flatRows ((a0_).map tx) = true) from ⟨by simp, by simp [D.flatRows, D.flat]⟩) (ow (show ((([] : List (List D))) ++ ((a0_).map tx)).flatten.all D.flat = true from by simpa only [List.map_append, List.map_cons, List.map_nil] using flat_tx_all ((([] : List Bytes)) ++ (a0_))) (ow (show GoodM Try.prog 145 9 1 ((([] : List (List D))) ++ ((a0_).map tx)) ((sortB ((([] : List Bytes)) ++ (a0_))).map tx) from by simpa only [List.map_append, List.map_cons, List.map_nil] using (d_sort_Strings_good (e := 9) (of_decide_eq_true h2))) ow0)))) (AW_st (by first | rfl | (simp only [List.map_append, List.map_cons, List.map_nil, List.map_set, List.map_replicate] <;> rfl)) (AW_of_r (d_impl_SortedTexts_L1w hΓ (fun q1_0 h => ?_) (of_decide_eq_true h51) (sortB ((([] : List Bytes)) ++ (a0_))) 0 (([] : List Bytes)) rfl h)))
  have h := den_some h
  subst h
  exact AW_go (n := 2000) [[some (9, 1)]] [] (.ret (D.fr 9 1 ((q1_0).map tx))) hΓ mix (by kernel_rfl) ow0 rfl
def d_spec_l1In (a0_ : Int) (a1_ : Int) (a2_ : Int) : Option Bool := (bif decide ((a0_ : Int) ≥ (a1_)) then (some (decide ((a0_ : Int) ≤ (a2_)))) else (some (false)))
theorem d_spec_l1In_good {a0_ : Int} {a1_ : Int} {a2_ : Int} {r : Bool} (h : d_spec_l1In a0_ a1_ a2_ = some r) : Good Try.prog 98 [D.int .i64 (a0_), D.int .i64 (a1_), D.int .i64 (a2_)] (D.bool (r)) := by
  refine Good.of (c := bodyOf Try.f98) Try.func98 rfl (by decide) (by simp [Try.f98]) ?_
  intro hr Γ hΓ
  have hΓ : Γ.nt = 15 := hΓ
  rw [d_spec_l1In] at h
  refine (show AW Try.prog Γ (bodyOf Try.f98) (KQ Try.prog Γ (fun _ _ => False) (RetQ Try.prog Try.f98 (D.bool (r))) []) _ from ?_)
  rcases den_if h with ⟨h1, h⟩ | ⟨h1, h⟩
  · have h := den_some h
    subst h
    exact AW_go (n := 2000) [[none]] [.b true, .b true, .b true, .b true] (.ret (D.bool (decide ((a0_ : Int) ≤ (a2_))))) hΓ mix (by kernel_rfl) (ow (h1) (ow (h1) (ow (h1) (ow (h1) ow0)))) rfl
  · have h := den_some h
    subst h
    exact AW_go (n := 2000) [[none]] [.b false, .b false, .b false, .b false] (.ret (D.bool (false))) hΓ mix (by kernel_rfl) (ow (h1) (ow (h1) (ow (h1) (ow (h1) ow0)))) rfl
def d_spec_IsAtom_L1 (a0_ : Bytes) (k1 : Option Bool) : Nat → Int → Option Bool
  | 0, _ => none
  | n1 + 1, v1_3 => (bif decide ((v1_3 : Int) < (((a0_).length : Int))) then ((atI (a0_) (v1_3)).bind fun b29 => ((d_spec_l1In (IntKind.i64.wrap (b29.toNat)) (97) (122)).bind fun y31 => (bif !(y31) then ((d_spec_l1In (IntKind.i64.wrap (b29.toNat)) (48) (57)).bind fun y34 => (bif !(y34) then (some (false)) else (d_spec_IsAtom_L1 a0_ k1 n1 (IntKind.i64.wrap ((v1_3) + (1)))))) else (d_spec_IsAtom_L1 a0_ k1 n1 (IntKind.i64.wrap ((v1_3) + (1))))))) else (k1 ))
def d_spec_IsAtom (a0_ : Bytes) : Option Bool := (d_spec_IsAtom_L1 a0_ ((d_spec_l1In (((a0_).length : Int)) (1) (8)).bind fun y37 => (some (y37))) fuel (0))
theorem d_spec_IsAtom_L1w {Γ : Ctx} (hΓ : Γ.nt = 27) {N : Nat → St → Prop} {a0_ : Bytes} {r : Bool} {k1 : Option Bool} (hE1 : k1 = some r → AW Try.prog Γ (dig (bodyOf Try.f166) [1, 1] []).1 (KQ Try.prog Γ N (RetQ Try.prog Try.f166 (D.bool (r))) (dig (bodyOf Try.f166) [1, 1] []).2) ⟨[(0, D.str (a0_))], []⟩) : ∀ (n1 : Nat) (v1_3 : Int), d_spec_IsAtom_L1 a0_ k1 n1 v1_3 = some r → AWr Try.prog Γ (dig (bodyOf Try.f166) [1, 0, 1, 0, 0] []).1 (KQ Try.prog Γ N (RetQ Try.prog Try.f166 (D.bool (r))) (dig (bodyOf Try.f166) [1, 0, 1, 0] []).2) n1 ⟨[(0, D.str (a0_)), (3, D.int .i64 (v1_3))], []⟩ := by
  intro n
  induction n with
  | zero => intro v1_3 h; simp [d_spec_IsAtom_L1] at h
  | succ n1 ih1 =>
    intro v1_3 h
    rw [d_spec_IsAtom_L1] at h
    refine AWr_succ fun N1 hN1 hS1 => ?_
    rcases den_if h with ⟨h28, h⟩ | ⟨h28, h⟩
    · obtain ⟨b29, h30, h⟩ := den_bind h
      obtain ⟨y31, h32, h⟩ := den_bind h
      rcases den_if h with ⟨h33, h⟩ | ⟨h33, h⟩
      · obtain ⟨y34, h35, h⟩ := den_bind h
        rcases den_if h with ⟨h36, h⟩ | ⟨h36, h⟩
        · have h := den_some h
          subst h
          exact AW_go (n := 2000) [[none]] [.b true, .ch b29, .d (D.bool (y31)), .b true, .b true, .b true, .ch b29, .b true, .b true, .d (D.bool (y34)), .b true, .b true, .b true] (.ret (D.bool (false))) hΓ mix (by kernel_rfl) (ow (h28) (ow (at_str h30) (ow (d_spec_l1In_good h32) (ow (h33) (ow (h33) (ow (h33) (ow (at_str h30) (ow (h33) (ow (h33) (ow (d_spec_l1In_good h35) (ow (h33) (ow (h33) (ow (h36) ow0))))))))))))) rfl
        · have t := ih1 (IntKind.i64.wrap ((v1_3) + (1))) h
          refine AW_go (n := 2000) [[none]] [.b true, .ch b29, .d (D.bool (y31)), .b true, .b true, .b true, .ch b29, .b true, .b true, .d (D.bool (y34)), .b true, .b true, .b false, .cn [0, 3] []] (.cont 0 ⟨[(0, D.str (a0_)), (3, D.int .i64 (IntKind.i64.wrap ((v1_3) + (1))))], []⟩) hΓ mix (by kernel_rfl) (ow (h28) (ow (at_str h30) (ow (d_spec_l1In_good h32) (ow (h33) (ow (h33) (ow (h33) (ow (at_str h30) (ow (h33) (ow (h33) (ow (d_spec_l1In_good h35) (ow (h33) (ow (h33) (ow (h36) ow0))))))))))))) ?_
          refine (congrFun hS1 _).mpr ?_
          first | exact t | (simp only [List.map_append, List.map_cons, List.map_nil, List.map_set] at t ⊢; exact t)
      · have t := ih1 (IntKind.i64.wrap ((v1_3) + (1))) h
        refine AW_go (n := 2000) [[none]] [.b true, .ch b29, .d (D.bool (y31)), .b false, .b false, .b false, .b false, .b false, .b false, .b false, .b false, .cn [0, 3] []] (.cont 0 ⟨[(0, D.str (a0_)), (3, D.int .i64 (IntKind.i64.wrap ((v1_3) + (1))))], []⟩) hΓ mix (by kernel_rfl) (ow (h28) (ow (at_str h30) (ow (d_spec_l1In_good h32) (ow (h33) (ow (h33) (ow (h33) (ow (h33) (ow (h33) (ow (h33) (ow (h33) (ow (show (false) = false from rfl) ow0))))))))))) ?_
        refine (congrFun hS1 _).mpr ?_
        first | exact t | (simp only [List.map_append, List.map_cons, List.map_nil, List.map_set] at t ⊢; exact t)
    · have t := AW_N (N := N) (N' := N1) (K0 := (dig (bodyOf Try.f166) [1, 0, 1, 0] []).2) (by kernel_rfl) hN1 (hE1  h)
      refine AW_go (n := 2000) [[none]] [.b false, .hl 0 [0] []] (.at_ (dig (bodyOf Try.f166) [1, 1] []).1 (dig (bodyOf Try.f166) [1, 1] []).2 ⟨[(0, D.str (a0_))], []⟩) hΓ mix (by kernel_rfl) (ow (h28) ow0) ?_
      first | exact t | (simp only [List.map_append, List.map_cons, List.map_nil, List.map_set] at t ⊢; exact t)
theorem d_spec_IsAtom_good {a0_ : Bytes} {r : Bool} (h : d_spec_IsAtom a0_ = some r) : Good Try.prog 166 [D.str (a0_)] (D.bool (r)) := by
  refine Good.of (c := bodyOf Try.f166) Try.func166 rfl (by decide) (by simp [Try.f166]) ?_
  intro hr Γ hΓ
  have hΓ : Γ.nt = 27 := hΓ
  rw [d_spec_IsAtom] at h
  refine (show AW Try.prog Γ (bodyOf Try.f166) (KQ Try.prog Γ (fun _ _ => False) (RetQ Try.prog Try.f166 (D.bool (r))) []) _ from ?_)
  refine AW_go (n := 2000) [[none]] [.cn [0, 3] []] (.lp (dig (bodyOf Try.f166) [1, 0, 1, 0, 0] []).1 (dig (bodyOf Try.f166) [1, 0, 1, 0] []).2 ⟨[(0, D.str (a0_)), (3, D.int .i64 (0))], []⟩) hΓ mix (by kernel_rfl) ow0 (AW_st (by first | rfl | (simp only [List.map_append, List.map_cons, List.map_nil, List.map_set, List.map_replicate] <;> rfl)) (AW_of_r (d_spec_IsAtom_L1w hΓ (fun h => ?_) fuel (0) h)))
  obtain ⟨y37, h38, h⟩ := den_bind h
  have h := den_some h
  subst h
  exact AW_go (n := 2000) [[none]] [.d (D.bool (y37))] (.ret (D.bool (y37))) hΓ mix (by kernel_rfl) (ow (d_spec_l1In_good h38) ow0) rfl
def d_spec_IsVar (a0_ : Bytes) : Option Bool := (bif decide ((((a0_).length : Int) : Int) > (1)) then ((atI (a0_) (0)).bind fun b2 => (bif (b2.toNat : Int) == (63) then ((pcut (a0_).length (some (D.int .i64 (1))) (none)).bind fun p => (fun l5 u6 => ((d_spec_IsAtom (((a0_).take u6).drop l5)).bind fun y8 => (some (y8)))) p.1 p.2) else (some (false)))) else (some (false)))
theorem d_spec_IsVar_good {a0_ : Bytes} {r : Bool} (h : d_spec_IsVar a0_ = some r) : Good Try.prog 147 [D.str (a0_)] (D.bool (r)) := by
  refine Good.of (c := bodyOf Try.f147) Try.func147 rfl (by decide) (by simp [Try.f147]) ?_
  intro hr Γ hΓ
  have hΓ : Γ.nt = 16 := hΓ
  rw [d_spec_IsVar] at h
  refine (show AW Try.prog Γ (bodyOf Try.f147) (KQ Try.prog Γ (fun _ _ => False) (RetQ Try.prog Try.f147 (D.bool (r))) []) _ from ?_)
  rcases den_if h with ⟨h1, h⟩ | ⟨h1, h⟩
  · obtain ⟨b2, h3, h⟩ := den_bind h
    rcases den_if h with ⟨h4, h⟩ | ⟨h4, h⟩
    · obtain ⟨⟨l5, u6⟩, h7, h⟩ := den_bind h
      obtain ⟨y8, h9, h⟩ := den_bind h
      have h := den_some h
      subst h
      exact AW_go (n := 2000) [[none]] [.b true, .b true, .ch b2, .b true, .b true, .b true, .b true, .cut l5 u6, .b true, .d (D.bool (y8)), .b true] (.ret (D.bool (y8))) hΓ mix (by kernel_rfl) (ow (h1) (ow (h1) (ow (at_str h3) (ow (h1) (ow (h1) (ow (h4) (ow (h4) (ow (h7) (ow (h4) (ow (d_spec_IsAtom_good h9) (ow (h4) ow0))))))))))) rfl
    · have h := den_some h
      subst h
      exact AW_go (n := 2000) [[none]] [.b true, .b true, .ch b2, .b true, .b true, .b false, .b false, .b false, .b false] (.ret (D.bool (false))) hΓ mix (by kernel_rfl) (ow (h1) (ow (h1) (ow (at_str h3) (ow (h1) (ow (h1) (ow (h4) (ow (h4) (ow (h4) (ow (h4) ow0))))))))) rfl
  · have h := den_some h
    subst h
    exact AW_go (n := 2000) [[none]] [.b false, .b false, .b false, .b false, .b false, .b false, .b false, .b false] (.ret (D.bool (false))) hΓ mix (by kernel_rfl) (ow (h1) (ow (h1) (ow (h1) (ow (h1) (ow (show (false) = false from rfl) (ow (show (false) = false from rfl) (ow (show (false) = false from rfl) (ow (show (false) = false from rfl) ow0)))))))) rfl
def d_spec_VarsOf_L1 (a0_ : Fact) (k1 : List Bytes → Option (List Bytes)) : List Bytes → Nat → List Bytes → Option (List Bytes)
  | [], i1, w1_1 => (k1 (w1_1))
  | x1_ :: xs1, i1, w1_1 => ((d_spec_IsVar (x1_)).bind fun y37 => (bif y37 then ((d_spec_l1Put (w1_1) (x1_)).bind fun y40 => (d_spec_VarsOf_L1 a0_ k1 xs1 (i1 + 1) (y40))) else (d_spec_VarsOf_L1 a0_ k1 xs1 (i1 + 1) (w1_1))))
def d_spec_VarsOf (a0_ : Fact) : Option (List Bytes) := (d_spec_VarsOf_L1 a0_ (fun (q1_0 : List Bytes) => (some (q1_0))) (a0_.args) 0 (([] : List Bytes)))
theorem d_spec_VarsOf_L1w {Γ : Ctx} (hΓ : Γ.nt = 27) {N : Nat → St → Prop} {a0_ : Fact} {r : List Bytes} {k1 : List Bytes → Option (List Bytes)} (hE1 : ∀ (q1_0 : List Bytes), k1 q1_0 = some r → AW Try.prog Γ (dig (bodyOf Try.f91) [1, 1, 1] []).1 (KQ Try.prog Γ N (RetQ Try.prog Try.f91 (D.fr 9 1 ((r).map tx))) (dig (bodyOf Try.f91) [1, 1, 1] []).2) ⟨[(3, D.acc 0)], [Ob.row .uq 9 1 ((q1_0).map tx)]⟩) (hm1 : (a0_.args).length ≤ maxLen) : ∀ (rest : List Bytes) (i1 : Nat) (w1_1 : List Bytes), (a0_.args).drop i1 = rest → d_spec_VarsOf_L1 a0_ k1 rest i1 w1_1 = some r → AWr Try.prog Γ (dig (bodyOf Try.f91) [1, 1, 0, 1, 0, 0] []).1 (KQ Try.prog Γ N (RetQ Try.prog Try.f91 (D.fr 9 1 ((r).map tx))) (dig (bodyOf Try.f91) [1, 1, 0, 1, 0] []).2) (rest.length + 1) ⟨[(1, D.ptr 0 0), (3, D.acc 1), (4, D.int .i64 ((i1 : Int)))], [Ob.box (Fact.c a0_), Ob.row .uq 9 1 ((w1_1).map tx)]⟩ := by
  intro rest
  induction rest with
  | nil =>
    intro i1 w1_1 hd1 h
    rw [d_spec_VarsOf_L1] at h
    refine AWr_succ fun N1 hN1 hS1 => ?_
    have t := AW_N (N := N) (N' := N1) (K0 := (dig (bodyOf Try.f91) [1, 1, 0, 1, 0] []).2) (by kernel_rfl) hN1 (hE1 (w1_1) h)
    refine AW_go (n := 2000) [[some (9, 1)]] [.b false, .hl 0 [3] [1]] (.at_ (dig (bodyOf Try.f91) [1, 1, 1] []).1 (dig (bodyOf Try.f91) [1, 1, 1] []).2 ⟨[(3, D.acc 0)], [Ob.row .uq 9 1 ((w1_1).map tx)]⟩) hΓ mix (by kernel_rfl) (ow ((ltm_false tx (drop_nil hd1))) ow0) ?_
    first | exact t | (simp only [List.map_append, List.map_cons, List.map_nil, List.map_set] at t ⊢; exact t)
  | cons x1_ xs1 ih1 =>
    intro i1 w1_1 hd1 h
    rw [d_spec_VarsOf_L1] at h
    refine AWr_succ fun N1 hN1 hS1 => ?_
    obtain ⟨y37, h38, h⟩ := den_bind h
    rcases den_if h with ⟨h39, h⟩ | ⟨h39, h⟩
    · obtain ⟨y40, h41, h⟩ := den_bind h
      have t := ih1 (i1 + 1) (y40) (drop_cons hd1).2.2 h
      refine AW_go (n := 2000) [[some (9, 1)]] [.b true, .row (tx x1_), .d (D.bool (y37)), .b true, .row (tx x1_), .d (D.fr 9 1 ((y40).map tx)), .cn [1, 3, 4] [0, 2]] (.cont 0 ⟨[(1, D.ptr 0 0), (3, D.acc 1), (4, D.int .i64 (IntKind.i64.wrap (((i1 : Int)) + (1))))], [Ob.box (Fact.c a0_), Ob.row .uq 9 1 ((y40).map tx)]⟩) hΓ mix (by kernel_rfl) (ow ((ltm_true tx (drop_cons hd1).2.1)) (ow (map_row tx 1 (drop_cons hd1).1 rfl) (ow (d_spec_IsVar_good h38) (ow (h39) (ow (map_row tx 1 (drop_cons hd1).1 rfl) (ow (d_spec_l1Put_good h41) ow0)))))) ?_
      refine (congrFun hS1 _).mpr ?_
      rw [i64_succ (drop_cons hd1).2.1 hm1]
      first | exact t | (simp only [List.map_append, List.map_cons, List.map_nil, List.map_set] at t ⊢; exact t)
    · have t := ih1 (i1 + 1) (w1_1) (drop_cons hd1).2.2 h
      refine AW_go (n := 2000) [[some (9, 1)]] [.b true, .row (tx x1_), .d (D.bool (y37)), .b false, .cn [1, 3, 4] [0, 1]] (.cont 0 ⟨[(1, D.ptr 0 0), (3, D.acc 1), (4, D.int .i64 (IntKind.i64.wrap (((i1 : Int)) + (1))))], [Ob.box (Fact.c a0_), Ob.row .uq 9 1 ((w1_1).map tx)]⟩) hΓ mix (by kernel_rfl) (ow ((ltm_true tx (drop_cons hd1).2.1)) (ow (map_row tx 1 (drop_cons hd1).1 rfl) (ow (d_spec_IsVar_good h38) (ow (h39) ow0)))) ?_
      refine (congrFun hS1 _).mpr ?_
      rw [i64_succ (drop_cons hd1).2.1 hm1]
      first | exact t | (simp only [List.map_append, List.map_cons, List.map_nil, List.map_set] at t ⊢; exact t)
theorem d_spec_VarsOf_good {a0_ : Fact} {r : List Bytes} (h : d_spec_VarsOf a0_ = some r) : Good Try.prog 91 [D.agg (Fact.c a0_)] (D.fr 9 1 ((r).map tx)) := by
  refine Good.of (c := bodyOf Try.f91) Try.func91 rfl (by decide) (by simp [Try.f91]) ?_
  intro hr Γ hΓ
  have hΓ : Γ.nt = 27 := hΓ
  rw [d_spec_VarsOf] at h
  refine (show AW Try.prog Γ (bodyOf Try.f91) (KQ Try.prog Γ (fun _ _ => False) (RetQ Try.prog Try.f91 (D.fr 9 1 ((r).map tx))) []) _ from ?_)
  refine AW_go (n := 2000) [[some (9, 1)]] [.cn [1, 3, 4] [0, 1]] (.lp (dig (bodyOf Try.f91) [1, 1, 0, 1, 0, 0] []).1 (dig (bodyOf Try.f91) [1, 1, 0, 1, 0] []).2 ⟨[(1, D.ptr 0 0), (3, D.acc 1), (4, D.int .i64 (0))], [Ob.box (Fact.c a0_), Ob.row .uq 9 1 (([] : List (List D)))]⟩) hΓ mix (by kernel_rfl) ow0 (AW_st (by first | rfl | (simp only [List.map_append, List.map_cons, List.map_nil, List.map_set, List.map_replicate] <;> rfl)) (AW_of_r (d_spec_VarsOf_L1w hΓ (fun q1_0 h => ?_) (by have := (Rdb.sl (Rdb.agg (hr _ (List.mem_of_getElem? (i := 0) rfl)) (.sl ((a0_.args).map tx)) (by simp))).1; simpa using this) (a0_.args) 0 (([] : List Bytes)) rfl h)))
  have h := den_some h
  subst h
  exact AW_go (n := 2000) [[some (9, 1)]] [] (.ret (D.fr 9 1 ((q1_0).map tx))) hΓ mix (by kernel_rfl) ow0 rfl
def d_spec_BoundVars_L2 (a0_ : Rule) (a1_ : Int) (i1 : Nat) (y159 : List Bytes) (k2 : List Bytes → Option (List Bytes)) : List Bytes → Nat → List Bytes → Option (List Bytes)
  | [], i2, w2_1 => (k2 (w2_1))
  | x2_ :: xs2, i2, w2_1 => ((d_spec_l1Put (w2_1) (x2_)).bind fun y183 => (d_spec_BoundVars_L2 a0_ a1_ i1 y159 k2 xs2 (i2 + 1) (y183)))
def d_spec_BoundVars_L1 (a0_ : Rule) (a1_ : Int) (k1 : List Bytes → Option (List Bytes)) : List Cond → Nat → List Bytes → Option (List Bytes)
  | [], i1, w1_1 => (k1 (w1_1))
  | x1_ :: xs1, i1, w1_1 => (bif decide (((i1 : Int) : Int) < (a1_)) then (bif (x1_.kind : Int) == (1) then ((d_spec_VarsOf (x1_.pat)).bind fun y159 => (bif decide ((y159).length ≤ maxLen) then (d_spec_BoundVars_L2 a0_ a1_ i1 y159 (fun (q2_1 : List Bytes) => (d_spec_BoundVars_L1 a0_ a1_ k1 xs1 (i1 + 1) (q2_1))) (y159) 0 (w1_1)) else none)) else (d_spec_BoundVars_L1 a0_ a1_ k1 xs1 (i1 + 1) (w1_1))) else (k1 (w1_1)))
def d_spec_BoundVars (a0_ : Rule) (a1_ : Int) : Option (List Bytes) := (d_spec_BoundVars_L1 a0_ a1_ (fun (q1_0 : List Bytes) => (some (q1_0))) (a0_.conds) 0 (([] : List Bytes)))
theorem d_spec_BoundVars_L2w {Γ : Ctx} (hΓ : Γ.nt = 49) {N : Nat → St → Prop} {a0_ : Rule} {a1_ : Int} {i1 : Nat} {y159 : List Bytes} {r : List Bytes} {k2 : List Bytes → Option (List Bytes)} (hE2 : ∀ (q2_1 : List Bytes), k2 q2_1 = some r → AW Try.prog Γ (dig (bodyOf Try.f45) [1, 1, 0, 1, 0, 0, 1, 1] []).1 (KQ Try.prog Γ N (RetQ Try.prog Try.f45 (D.fr 9 1 ((r).map tx))) (dig (bodyOf Try.f45) [1, 1, 0, 1, 0, 0, 1, 1] []).2) ⟨[(1, D.int .i64 (a1_)), (2, D.ptr 0 0), (5, D.acc 1), (6, D.int .i64 ((i1 : Int)))], [Ob.box (Rule.c a0_), Ob.row .uq 9 1 ((q2_1).map tx)]⟩) (hm2 : (y159).length ≤ maxLen) : ∀ (rest : List Bytes) (i2 : Nat) (w2_1 : List Bytes), (y159).drop i2 = rest → d_spec_BoundVars_L2 a0_ a1_ i1 y159 k2 rest i2 w2_1 = some r → AWr Try.prog Γ (dig (bodyOf Try.f45) [1, 1, 0, 1, 0, 0, 1, 0, 0, 1, 0, 1, 1, 0, 0] []).1 (KQ Try.prog Γ N (RetQ Try.prog Try.f45 (D.fr 9 1 ((r).map tx))) (dig (bodyOf Try.f45) [1, 1, 0, 1, 0, 0, 1, 0, 0, 1, 0, 1, 1, 0] []).2) (rest.length + 1) ⟨[(1, D.int .i64 (a1_)), (2, D.ptr 0 0), (5, D.acc 1), (6, D.int .i64 ((i1 : Int))), (7, D.acc 2), (8, D.int .i64 ((i2 : Int)))], [Ob.box (Rule.c a0_), Ob.row .uq 9 1 ((w2_1).map tx), Ob.row .uq 9 1 ((y159).map tx)]⟩ := by
  intro rest
  induction rest with
  | nil =>
    intro i2 w2_1 hd2 h
    rw [d_spec_BoundVars_L2] at h
    refine AWr_succ fun N2 hN2 hS2 => ?_
    have t := AW_N (N := N) (N' := N2) (K0 := (dig (bodyOf Try.f45) [1, 1, 0, 1, 0, 0, 1, 0, 0, 1, 0, 1, 1, 0] []).2) (by kernel_rfl) hN2 (hE2 (w2_1) h)
    refine AW_go (n := 2000) [[some (9, 1)]] [.b false, .hl 3 [1, 2, 5, 6] [0, 1]] (.at_ (dig (bodyOf Try.f45) [1, 1, 0, 1, 0, 0, 1, 1] []).1 (dig (bodyOf Try.f45) [1, 1, 0, 1, 0, 0, 1, 1] []).2 ⟨[(1, D.int .i64 (a1_)), (2, D.ptr 0 0), (5, D.acc 1), (6, D.int .i64 ((i1 : Int)))], [Ob.box (Rule.c a0_), Ob.row .uq 9 1 ((w2_1).map tx)]⟩) hΓ mix (by kernel_rfl) (ow ((ltm_false tx (drop_nil hd2))) ow0) ?_
    first | exact t | (simp only [List.map_append, List.map_cons, List.map_nil, List.map_set] at t ⊢; exact t)
  | cons x2_ xs2 ih2 =>
    intro i2 w2_1 hd2 h
    rw [d_spec_BoundVars_L2] at h
    refine AWr_succ fun N2 hN2 hS2 => ?_
    obtain ⟨y183, h184, h⟩ := den_bind h
    have t := ih2 (i2 + 1) (y183) (drop_cons hd2).2.2 h
    refine AW_go (n := 2000) [[some (9, 1)]] [.b true, .ix i2, .row [D.str (x2_)], .d (D.fr 9 1 ((y183).map tx)), .cn [1, 2, 5, 6, 7, 8] [0, 3, 2]] (.cont 1 ⟨[(1, D.int .i64 (a1_)), (2, D.ptr 0 0), (5, D.acc 1), (6, D.int .i64 ((i1 : Int))), (7, D.acc 2), (8, D.int .i64 (IntKind.i64.wrap (((i2 : Int)) + (1))))], [Ob.box (Rule.c a0_), Ob.row .uq 9 1 ((y183).map tx), Ob.row .uq 9 1 ((y159).map tx)]⟩) hΓ mix (by kernel_rfl) (ow ((ltm_true tx (drop_cons hd2).2.1)) (ow (own_ixl tx 1 (drop_cons hd2).1) (ow (show 1 = 1 ∧ RK.opn .uq = true ∧ ((y159).map tx)[i2]? = some [D.str (x2_)] ∧ 1 ≤ 1 from ⟨rfl, rfl, map_get tx (drop_cons hd2).1, by omega⟩) (ow (d_spec_l1Put_good h184) ow0)))) ?_
    refine (congrFun hS2 _).mpr ?_
    rw [i64_succ (drop_cons hd2).2.1 hm2]
    first | exact t | (simp only [List.map_append, List.map_cons, List.map_nil, List.map_set] at t ⊢; exact t)
theorem d_spec_BoundVars_L1w {Γ : Ctx} (hΓ : Γ.nt = 49) {N : Nat → St → Prop} {a0_ : Rule} {a1_ : Int} {r : List Bytes} {k1 : List Bytes → Option (List Bytes)} (hE1 : ∀ (q1_0 : List Bytes), k1 q1_0 = some r → AW Try.prog Γ (dig (bodyOf Try.f45) [1, 1, 1] []).1 (KQ Try.prog Γ N (RetQ Try.prog Try.f45 (D.fr 9 1 ((r).map tx))) (dig (bodyOf Try.f45) [1, 1, 1] []).2) ⟨[(5, D.acc 0)], [Ob.row .uq 9 1 ((q1_0).map tx)]⟩) (hm1 : (a0_.conds).length ≤ maxLen) : ∀ (rest : List Cond) (i1 : Nat) (w1_1 : List Bytes), (a0_.conds).drop i1 = rest → d_spec_BoundVars_L1 a0_ a1_ k1 rest i1 w1_1 = some r → AWr Try.prog Γ (dig (bodyOf Try.f45) [1, 1, 0, 1, 0, 0] []).1 (KQ Try.prog Γ N (RetQ Try.prog Try.f45 (D.fr 9 1 ((r).map tx))) (dig (bodyOf Try.f45) [1, 1, 0, 1, 0] []).2) (rest.length + 1) ⟨[(1, D.int .i64 (a1_)), (2, D.ptr 0 0), (5, D.acc 1), (6, D.int .i64 ((i1 : Int)))], [Ob.box (Rule.c a0_), Ob.row .uq 9 1 ((w1_1).map tx)]⟩ := by
  intro rest
  induction rest with
  | nil =>
    intro i1 w1_1 hd1 h
    rw [d_spec_BoundVars_L1] at h
    refine AWr_succ fun N1 hN1 hS1 => ?_
    have t := AW_N (N := N) (N' := N1) (K0 := (dig (bodyOf Try.f45) [1, 1, 0, 1, 0] []).2) (by kernel_rfl) hN1 (hE1 (w1_1) h)
    refine AW_go (n := 2000) [[some (9, 1)]] [.b false, .b false, .b false, .b false, .b false, .hl 0 [5] [1]] (.at_ (dig (bodyOf Try.f45) [1, 1, 1] []).1 (dig (bodyOf Try.f45) [1, 1, 1] []).2 ⟨[(5, D.acc 0)], [Ob.row .uq 9 1 ((w1_1).map tx)]⟩) hΓ mix (by kernel_rfl) (ow ((ltm_false Cond.c (drop_nil hd1))) (ow ((ltm_false Cond.c (drop_nil hd1))) (ow ((ltm_false Cond.c (drop_nil hd1))) (ow ((ltm_false Cond.c (drop_nil hd1))) (ow (show (false) = false from rfl) ow0))))) ?_
    first | exact t | (simp only [List.map_append, List.map_cons, List.map_nil, List.map_set] at t ⊢; exact t)
  | cons x1_ xs1 ih1 =>
    intro i1 w1_1 hd1 h
    rw [d_spec_BoundVars_L1] at h
    refine AWr_succ fun N1 hN1 hS1 => ?_
    rcases den_if h with ⟨h157, h⟩ | ⟨h157, h⟩
    · rcases den_if h with ⟨h158, h⟩ | ⟨h158, h⟩
      · obtain ⟨y159, h160, h⟩ := den_bind h
        obtain ⟨h185, h⟩ := den_ok h
        refine AW_go (n := 2000) [[some (9, 1)]] [.b true, .b true, .b true, .b true, .b true, .row (Cond.c x1_), .b true, .row (Cond.c x1_), .d (D.fr 9 1 ((y159).map tx)), .cn [1, 2, 5, 6, 7, 8] [0, 1, 2]] (.lp (dig (bodyOf Try.f45) [1, 1, 0, 1, 0, 0, 1, 0, 0, 1, 0, 1, 1, 0, 0] []).1 (dig (bodyOf Try.f45) [1, 1, 0, 1, 0, 0, 1, 0, 0, 1, 0, 1, 1, 0] []).2 ⟨[(1, D.int .i64 (a1_)), (2, D.ptr 0 0), (5, D.acc 1), (6, D.int .i64 ((i1 : Int))), (7, D.acc 2), (8, D.int .i64 (0))], [Ob.box (Rule.c a0_), Ob.row .uq 9 1 ((w1_1).map tx), Ob.row .uq 9 1 ((y159).map tx)]⟩) hΓ mix (by kernel_rfl) (ow ((ltm_true Cond.c (drop_cons hd1).2.1)) (ow ((ltm_true Cond.c (drop_cons hd1).2.1)) (ow ((ltm_true Cond.c (drop_cons hd1).2.1)) (ow ((ltm_true Cond.c (drop_cons hd1).2.1)) (ow (h157) (ow (map_row Cond.c 5 (drop_cons hd1).1 rfl) (ow (h158) (ow (map_row Cond.c 5 (drop_cons hd1).1 rfl) (ow (d_spec_VarsOf_good h160) ow0))))))))) (AW_st (by first | rfl | (simp only [List.map_append, List.map_cons, List.map_nil, List.map_set, List.map_replicate] <;> rfl)) (AW_of_r (d_spec_BoundVars_L2w hΓ (fun q2_1 h => ?_) (of_decide_eq_true h185) (y159) 0 (w1_1) rfl h)))
        have t := ih1 (i1 + 1) (q2_1) (drop_cons hd1).2.2 h
        refine AW_go (n := 2000) [[some (9, 1)]] [.cn [1, 2, 5, 6] [0, 1]] (.cont 0 ⟨[(1, D.int .i64 (a1_)), (2, D.ptr 0 0), (5, D.acc 1), (6, D.int .i64 (IntKind.i64.wrap (((i1 : Int)) + (1))))], [Ob.box (Rule.c a0_), Ob.row .uq 9 1 ((q2_1).map tx)]⟩) hΓ mix (by kernel_rfl) ow0 ?_
        refine (congrFun hS1 _).mpr ?_
        rw [i64_succ (drop_cons hd1).2.1 hm1]
        first | exact t | (simp only [List.map_append, List.map_cons, List.map_nil, List.map_set] at t ⊢; exact t)
      · have t := ih1 (i1 + 1) (w1_1) (drop_cons hd1).2.2 h
        refine AW_go (n := 2000) [[some (9, 1)]] [.b true, .b true, .b true, .b true, .b true, .row (Cond.c x1_), .b false, .cn [1, 2, 5, 6] [0, 1]] (.cont 0 ⟨[(1, D.int .i64 (a1_)), (2, D.ptr 0 0), (5, D.acc 1), (6, D.int .i64 (IntKind.i64.wrap (((i1 : Int)) + (1))))], [Ob.box (Rule.c a0_), Ob.row .uq 9 1 ((w1_1).map tx)]⟩) hΓ mix (by kernel_rfl) (ow ((ltm_true Cond.c (drop_cons hd1).2.1)) (ow ((ltm_true Cond.c (drop_cons hd1).2.1)) (ow ((ltm_true Cond.c (drop_cons hd1).2.1)) (ow ((ltm_true Cond.c (drop_cons hd1).2.1)) (ow (h157) (ow (map_row Cond.c 5 (drop_cons hd1).1 rfl) (ow (h158) ow0))))))) ?_
        refine (congrFun hS1 _).mpr ?_
        rw [i64_succ (drop_cons hd1).2.1 hm1]
        first | exact t | (simp only [List.map_append, List.map_cons, List.map_nil, List.map_set] at t ⊢; exact t)
    · have t := AW_N (N := N) (N' := N1) (K0 := (dig (bodyOf Try.f45) [1, 1, 0, 1, 0] []).2) (by kernel_rfl) hN1 (hE1 (w1_1) h)
      refine AW_go (n := 2000) [[some (9, 1)]] [.b true, .b true, .b true, .b true, .b false, .hl 0 [5] [1]] (.at_ (dig (bodyOf Try.f45) [1, 1, 1] []).1 (dig (bodyOf Try.f45) [1, 1, 1] []).2 ⟨[(5, D.acc 0)], [Ob.row .uq 9 1 ((w1_1).map tx)]⟩) hΓ mix (by kernel_rfl) (ow ((ltm_true Cond.c (drop_cons hd1).2.1)) (ow ((ltm_true Cond.c (drop_cons hd1).2.1)) (ow ((ltm_true Cond.c (drop_cons hd1).2.1)) (ow ((ltm_true Cond.c (drop_cons hd1).2.1)) (ow (h157) ow0))))) ?_
      first | exact t | (simp only [List.map_append, List.map_cons, List.map_nil, List.map_set] at t ⊢; exact t)
theorem d_spec_BoundVars_good {a0_ : Rule} {a1_ : Int} {r : List Bytes} (h : d_spec_BoundVars a0_ a1_ = some r) : Good Try.prog 45 [D.agg (Rule.c a0_), D.int .i64 (a1_)] (D.fr 9 1 ((r).map tx)) := by
  refine Good.of (c := bodyOf Try.f45) Try.func45 rfl (by decide) (by simp [Try.f45]) ?_
  intro hr Γ hΓ
  have hΓ : Γ.nt = 49 := hΓ
  rw [d_spec_BoundVars] at h
  refine (show AW Try.prog Γ (bodyOf Try.f45) (KQ Try.prog Γ (fun _ _ => False) (RetQ Try.prog Try.f45 (D.fr 9 1 ((r).map tx))) []) _ from ?_)
  refine AW_go (n := 2000) [[some (9, 1)]] [.cn [1, 2, 5, 6] [0, 1]] (.lp (dig (bodyOf Try.f45) [1, 1, 0, 1, 0, 0] []).1 (dig (bodyOf Try.f45) [1, 1, 0, 1, 0] []).2 ⟨[(1, D.int .i64 (a1_)), (2, D.ptr 0 0), (5, D.acc 1), (6, D.int .i64 (0))], [Ob.box (Rule.c a0_), Ob.row .uq 9 1 (([] : List (List D)))]⟩) hΓ mix (by kernel_rfl) ow0 (AW_st (by first | rfl | (simp only [List.map_append, List.map_cons, List.map_nil, List.map_set, List.map_replicate] <;> rfl)) (AW_of_r (d_spec_BoundVars_L1w hΓ (fun q1_0 h => ?_) (by have := (Rdb.sl (Rdb.agg (hr _ (List.mem_of_getElem? (i := 0) rfl)) (.sl ((a0_.conds).map Cond.c)) (by simp))).1; simpa using this) (a0_.conds) 0 (([] : List Bytes)) rfl h)))
  have h := den_some h
  subst h
  exact AW_go (n := 2000) [[some (9, 1)]] [] (.ret (D.fr 9 1 ((q1_0).map tx))) hΓ mix (by kernel_rfl) ow0 rfl
def d_impl_IsAtom_L1 (a0_ : Bytes) (k1 : Option Bool) : Nat → Int → Option Bool
  | 0, _ => none
  | n1 + 1, v1_3 => (bif decide ((v1_3 : Int) < (((a0_).length : Int))) then ((atI (a0_) (v1_3)).bind fun b31 => (bif decide ((b31.toNat : Int) < (97)) then (bif decide ((b31.toNat : Int) < (48)) then (some (false)) else (bif decide ((b31.toNat : Int) > (57)) then (some (false)) else (d_impl_IsAtom_L1 a0_ k1 n1 (IntKind.i64.wrap ((v1_3) + (1)))))) else (bif decide ((b31.toNat : Int) > (122)) then (bif decide ((b31.toNat : Int) < (48)) then (some (false)) else (bif decide ((b31.toNat : Int) > (57)) then (some (false)) else (d_impl_IsAtom_L1 a0_ k1 n1 (IntKind.i64.wrap ((v1_3) + (1)))))) else (d_impl_IsAtom_L1 a0_ k1 n1 (IntKind.i64.wrap ((v1_3) + (1))))))) else (k1 ))
def d_impl_IsAtom (a0_ : Bytes) : Option Bool := (bif decide ((((a0_).length : Int) : Int) < (1)) then (some (false)) else (bif decide ((((a0_).length : Int) : Int) > (8)) then (some (false)) else (d_impl_IsAtom_L1 a0_ (some (true)) fuel (0))))
theorem d_impl_IsAtom_L1w {Γ : Ctx} (hΓ : Γ.nt = 40) {N : Nat → St → Prop} {a0_ : Bytes} {r : Bool} {k1 : Option Bool} (hE1 : k1 = some r → AW Try.prog Γ (dig (bodyOf Try.f169) [1, 1, 1] []).1 (KQ Try.prog Γ N (RetQ Try.prog Try.f169 (D.bool (r))) (dig (bodyOf Try.f169) [1, 1, 1] []).2) ⟨[], []⟩) : ∀ (n1 : Nat) (v1_3 : Int), d_impl_IsAtom_L1 a0_ k1 n1 v1_3 = some r → AWr Try.prog Γ (dig (bodyOf Try.f169) [1, 1, 0, 1, 0, 0] []).1 (KQ Try.prog Γ N (RetQ Try.prog Try.f169 (D.bool (r))) (dig (bodyOf Try.f169) [1, 1, 0, 1, 0] []).2) n1 ⟨[(0, D.str (a0_)), (3, D.int .i64 (v1_3))], []⟩ := by
  intro n
  induction n with
  | zero => intro v1_3 h; simp [d_impl_IsAtom_L1] at h
  | succ n1 ih1 =>
    intro v1_3 h
    rw [d_impl_IsAtom_L1] at h
    refine AWr_succ fun N1 hN1 hS1 => ?_
    rcases den_if h with ⟨h30, h⟩ | ⟨h30, h⟩
    · obtain ⟨b31, h32, h⟩ := den_bind h
      rcases den_if h with ⟨h33, h⟩ | ⟨h33, h⟩
      · rcases den_if h with ⟨h34, h⟩ | ⟨h34, h⟩
        · have h := den_some h
          subst h
          exact AW_go (n := 2000) [[none]] [.b true, .ch b31, .b true, .b true, .b true, .b true, .b true, .b true, .b true, .b true, .ch b31, .b true, .b true, .b true, .b true, .b true, .b true, .b true, .b true, .b true, .b true] (.ret (D.bool (false))) hΓ mix (by kernel_rfl) (ow (h30) (ow (at_str h32) (ow (h33) (ow (h33) (ow (h33) (ow (h33) (ow (h33) (ow (show (true) = true from rfl) (ow (show (true) = true from rfl) (ow (show (true) = true from rfl) (ow (at_str h32) (ow (show (true) = true from rfl) (ow (show (true) = true from rfl) (ow (h34) (ow (h34) (ow (h34) (ow (h34) (ow (show (true) = true from rfl) (ow (h34) (ow (show (true) = true from rfl) (ow (show (true) = true from rfl) ow0))))))))))))))))))))) rfl
        · rcases den_if h with ⟨h35, h⟩ | ⟨h35, h⟩
          · have h := den_some h
            subst h
            exact AW_go (n := 2000) [[none]] [.b true, .ch b31, .b true, .b true, .b true, .b true, .b true, .b true, .b true, .b true, .ch b31, .b true, .b true, .b false, .b false, .b false, .ch b31, .b false, .b true, .b false, .b true, .b true] (.ret (D.bool (false))) hΓ mix (by kernel_rfl) (ow (h30) (ow (at_str h32) (ow (h33) (ow (h33) (ow (h33) (ow (h33) (ow (h33) (ow (show (true) = true from rfl) (ow (show (true) = true from rfl) (ow (show (true) = true from rfl) (ow (at_str h32) (ow (show (true) = true from rfl) (ow (show (true) = true from rfl) (ow (h34) (ow (h34) (ow (h34) (ow (at_str h32) (ow (h34) (ow (show (true) = true from rfl) (ow (h34) (ow (show (true) = true from rfl) (ow (h35) ow0)))))))))))))))))))))) rfl
          · have t := ih1 (IntKind.i64.wrap ((v1_3) + (1))) h
            refine AW_go (n := 2000) [[none]] [.b true, .ch b31, .b true, .b true, .b true, .b true, .b true, .b true, .b true, .b true, .ch b31, .b true, .b true, .b false, .b false, .b false, .ch b31, .b false, .b true, .b false, .b true, .b false, .cn [0, 3] []] (.cont 0 ⟨[(0, D.str (a0_)), (3, D.int .i64 (IntKind.i64.wrap ((v1_3) + (1))))], []⟩) hΓ mix (by kernel_rfl) (ow (h30) (ow (at_str h32) (ow (h33) (ow (h33) (ow (h33) (ow (h33) (ow (h33) (ow (show (true) = true from rfl) (ow (show (true) = true from rfl) (ow (show (true) = true from rfl) (ow (at_str h32) (ow (show (true) = true from rfl) (ow (show (true) = true from rfl) (ow (h34) (ow (h34) (ow (h34) (ow (at_str h32) (ow (h34) (ow (show (true) = true from rfl) (ow (h34) (ow (show (true) = true from rfl) (ow (h35) ow0)))))))))))))))))))))) ?_
            refine (congrFun hS1 _).mpr ?_
            first | exact t | (simp only [List.map_append, List.map_cons, List.map_nil, List.map_set] at t ⊢; exact t)
      · rcases den_if h with ⟨h36, h⟩ | ⟨h36, h⟩
        · rcases den_if h with ⟨h37, h⟩ | ⟨h37, h⟩
          · have h := den_some h
            subst h
            exact AW_go (n := 2000) [[none]] [.b true, .ch b31, .b false, .b false, .b false, .ch b31, .b false, .b false, .b true, .b true, .b true, .ch b31, .b true, .b true, .b true, .b true, .b true, .b true, .b true, .b true, .b true, .b true] (.ret (D.bool (false))) hΓ mix (by kernel_rfl) (ow (h30) (ow (at_str h32) (ow (h33) (ow (h33) (ow (h33) (ow (at_str h32) (ow (h33) (ow (h33) (ow (h36) (ow (h36) (ow (h36) (ow (at_str h32) (ow (h36) (ow (h36) (ow (h37) (ow (h37) (ow (h37) (ow (h37) (ow (h36) (ow (h37) (ow (h36) (ow (show (true) = true from rfl) ow0)))))))))))))))))))))) rfl
          · rcases den_if h with ⟨h38, h⟩ | ⟨h38, h⟩
            · have h := den_some h
              subst h
              exact AW_go (n := 2000) [[none]] [.b true, .ch b31, .b false, .b false, .b false, .ch b31, .b false, .b false, .b true, .b true, .b true, .ch b31, .b true, .b true, .b false, .b false, .b false, .ch b31, .b false, .b true, .b false, .b true, .b true] (.ret (D.bool (false))) hΓ mix (by kernel_rfl) (ow (h30) (ow (at_str h32) (ow (h33) (ow (h33) (ow (h33) (ow (at_str h32) (ow (h33) (ow (h33) (ow (h36) (ow (h36) (ow (h36) (ow (at_str h32) (ow (h36) (ow (h36) (ow (h37) (ow (h37) (ow (h37) (ow (at_str h32) (ow (h37) (ow (h36) (ow (h37) (ow (h36) (ow (h38) ow0))))))))))))))))))))))) rfl
            · have t := ih1 (IntKind.i64.wrap ((v1_3) + (1))) h
              refine AW_go (n := 2000) [[none]] [.b true, .ch b31, .b false, .b false, .b false, .ch b31, .b false, .b false, .b true, .b true, .b true, .ch b31, .b true, .b true, .b false, .b false, .b false, .ch b31, .b false, .b true, .b false, .b true, .b false, .cn [0, 3] []] (.cont 0 ⟨[(0, D.str (a0_)), (3, D.int .i64 (IntKind.i64.wrap ((v1_3) + (1))))], []⟩) hΓ mix (by kernel_rfl) (ow (h30) (ow (at_str h32) (ow (h33) (ow (h33) (ow (h33) (ow (at_str h32) (ow (h33) (ow (h33) (ow (h36) (ow (h36) (ow (h36) (ow (at_str h32) (ow (h36) (ow (h36) (ow (h37) (ow (h37) (ow (h37) (ow (at_str h32) (ow (h37) (ow (h36) (ow (h37) (ow (h36) (ow (h38) ow0))))))))))))))))))))))) ?_
              refine (congrFun hS1 _).mpr ?_
              first | exact t | (simp only [List.map_append, List.map_cons, List.map_nil, List.map_set] at t ⊢; exact t)
        · have t := ih1 (IntKind.i64.wrap ((v1_3) + (1))) h
          refine AW_go (n := 2000) [[none]] [.b true, .ch b31, .b false, .b false, .b false, .ch b31, .b false, .b false, .b false, .b false, .b false, .b false, .b false, .b false, .b false, .b false, .b false, .b false, .b false, .b false, .cn [0, 3] []] (.cont 0 ⟨[(0, D.str (a0_)), (3, D.int .i64 (IntKind.i64.wrap ((v1_3) + (1))))], []⟩) hΓ mix (by kernel_rfl) (ow (h30) (ow (at_str h32) (ow (h33) (ow (h33) (ow (h33) (ow (at_str h32) (ow (h33) (ow (h33) (ow (h36) (ow (h36) (ow (h36) (ow (h36) (ow (h36) (ow (h36) (ow (h36) (ow (show (false) = false from rfl) ow0)))))))))))))))) ?_
          refine (congrFun hS1 _).mpr ?_
          first | exact t | (simp only [List.map_append, List.map_cons, List.map_nil, List.map_set] at t ⊢; exact t)
    · have t := AW_N (N := N) (N' := N1) (K0 := (dig (bodyOf Try.f169) [1, 1, 0, 1, 0] []).2) (by kernel_rfl) hN1 (hE1  h)
      refine AW_go (n := 2000) [[none]] [.b false, .hl 0 [] []] (.at_ (dig (bodyOf Try.f169) [1, 1, 1] []).1 (dig (bodyOf Try.f169) [1, 1, 1] []).2 ⟨[], []⟩) hΓ mix (by kernel_rfl) (ow (h30) ow0) ?_
      first | exact t | (simp only [List.map_append, List.map_cons, List.map_nil, List.map_set] at t ⊢; exact t)
theorem d_impl_IsAtom_good {a0_ : Bytes} {r : Bool} (h : d_impl_IsAtom a0_ = some r) : Good Try.prog 169 [D.str (a0_)] (D.bool (r)) := by
  refine Good.of (c := bodyOf Try.f169) Try.func169 rfl (by decide) (by simp [Try.f169]) ?_
  intro hr Γ hΓ
  have hΓ : Γ.nt = 40 := hΓ
  rw [d_impl_IsAtom] at h
  refine (show AW Try.prog Γ (bodyOf Try.f169) (KQ Try.prog Γ (fun _ _ => False) (RetQ Try.prog Try.f169 (D.bool (r))) []) _ from ?_)
  rcases den_if h with ⟨h1, h⟩ | ⟨h1, h⟩
  · have h := den_some h
    subst h
    exact AW_go (n := 2000) [[none]] [.b true, .b true, .b true, .b true, .b true] (.ret (D.bool (false))) hΓ mix (by kernel_rfl) (ow (h1) (ow (h1) (ow (h1) (ow (h1) (ow (show (true) = true from rfl) ow0))))) rfl
  · rcases den_if h with ⟨h2, h⟩ | ⟨h2, h⟩
    · have h := den_some h
      subst h
      exact AW_go (n := 2000) [[none]] [.b false, .b false, .b false, .b false, .b true] (.ret (D.bool (false))) hΓ mix (by kernel_rfl) (ow (h1) (ow (h1) (ow (h1) (ow (h1) (ow (h2) ow0))))) rfl
    · refine AW_go (n := 2000) [[none]] [.b false, .b false, .b false, .b false, .b false, .cn [0, 3] []] (.lp (dig (bodyOf Try.f169) [1, 1, 0, 1, 0, 0] []).1 (dig (bodyOf Try.f169) [1, 1, 0, 1, 0] []).2 ⟨[(0, D.str (a0_)), (3, D.int .i64 (0))], []⟩) hΓ mix (by kernel_rfl) (ow (h1) (ow (h1) (ow (h1) (ow (h1) (ow (h2) ow0))))) (AW_st (by first | rfl | (simp only [List.map_append, List.map_cons, List.map_nil, List.map_set, List.map_replicate] <;> rfl)) (AW_of_r (d_impl_IsAtom_L1w hΓ (fun h => ?_) fuel (0) h)))
      have h := den_some h
      subst h
      exact AW_go (n := 2000) [[none]] [] (.ret (D.bool (true))) hΓ mix (by kernel_rfl) ow0 rfl
def d_impl_IsVar (a0_ : Bytes) : Option Bool := (bif decide ((((a0_).length : Int) : Int) > (1)) then ((atI (a0_) (0)).bind fun b2 => (bif (b2.toNat : Int) == (63) then ((pcut (a0_).length (some (D.int .i64 (1))) (none)).bind fun p => (fun l5 u6 => ((d_impl_IsAtom (((a0_).take u6).drop l5)).bind fun y8 => (some (y8)))) p.1 p.2) else (some (false)))) else (some (false)))
theorem d_impl_IsVar_good {a0_ : Bytes} {r : Bool} (h : d_impl_IsVar a0_ = some r) : Good Try.prog 148 [D.str (a0_)] (D.bool (r)) := by
  refine Good.of (c := bodyOf Try.f148) Try.func148 rfl (by decide) (by simp [Try.f148]) ?_
  intro hr Γ hΓ
  have hΓ : Γ.nt = 16 := hΓ
  rw [d_impl_IsVar] at h
  refine (show AW Try.prog Γ (bodyOf Try.f148) (KQ Try.prog Γ (fun _ _ => False) (RetQ Try.prog Try.f148 (D.bool (r))) []) _ from ?_)
  rcases den_if h with ⟨h1, h⟩ | ⟨h1, h⟩
  · obtain ⟨b2, h3, h⟩ := den_bind h
    rcases den_if h with ⟨h4, h⟩ | ⟨h4, h⟩
    · obtain ⟨⟨l5, u6⟩, h7, h⟩ := den_bind h
      obtain ⟨y8, h9, h⟩ := den_bind h
      have h := den_some h
      subst h
      exact AW_go (n := 2000) [[none]] [.b true, .b true, .ch b2, .b true, .b true, .b true, .b true, .cut l5 u6, .b true, .d (D.bool (y8)), .b true] (.ret (D.bool (y8))) hΓ mix (by kernel_rfl) (ow (h1) (ow (h1) (ow (at_str h3) (ow (h1) (ow (h1) (ow (h4) (ow (h4) (ow (h7) (ow (h4) (ow (d_impl_IsAtom_good h9) (ow (h4) ow0))))))))))) rfl
    · have h := den_some h
      subst h
      exact AW_go (n := 2000) [[none]] [.b true, .b true, .ch b2, .b true, .b true, .b false, .b false, .b false, .b false] (.ret (D.bool (false))) hΓ mix (by kernel_rfl) (ow (h1) (ow (h1) (ow (at_str h3) (ow (h1) (ow (h1) (ow (h4) (ow (h4) (ow (h4) (ow (h4) ow0))))))))) rfl
  · have h := den_some h
    subst h
    exact AW_go (n := 2000) [[none]] [.b false, .b false, .b false, .b false, .b false, .b false, .b false, .b false] (.ret (D.bool (false))) hΓ mix (by kernel_rfl) (ow (h1) (ow (h1) (ow (h1) (ow (h1) (ow (show (false) = false from rfl) (ow (show (false) = false from rfl) (ow (show (false) = false from rfl) (ow (show (false) = false from rfl) ow0)))))))) rfl
def d_impl_varsAmong_L1 (a0_ : List Bytes) (k1 : List Bytes → Option (List Bytes)) : List Bytes → Nat → List Bytes → Option (List Bytes)
  | [], i1, w1_0 => (k1 (w1_0))
  | x1_ :: xs1, i1, w1_0 => ((d_impl_IsVar (x1_)).bind fun y32 => (bif y32 then (bif room (((w1_0).map tx).length + ([[D.str (x1_)]]).length) 16 then (d_impl_varsAmong_L1 a0_ k1 xs1 (i1 + 1) ((w1_0) ++ ([x1_]))) else none) else (d_impl_varsAmong_L1 a0_ k1 xs1 (i1 + 1) (w1_0))))
def d_impl_varsAmong (a0_ : List Bytes) : Option (List Bytes) := (d_impl_varsAmong_L1 a0_ (fun (q1_0 : List Bytes) => (some (q1_0))) (a0_) 0 (([] : List Bytes)))
theorem d_impl_varsAmong_L1w {Γ : Ctx} (hΓ : Γ.nt = 20) {N : Nat → St → Prop} {a0_ : List Bytes} {r : List Bytes} {k1 : List Bytes → Option (List Bytes)} (hE1 : ∀ (q1_0 : List Bytes), k1 q1_0 = some r → AW Try.prog Γ (dig (bodyOf Try.f92) [1, 1, 1] []).1 (KQ Try.prog Γ N (RetQ Try.prog Try.f92 (D.fr 9 1 ((r).map tx))) (dig (bodyOf Try.f92) [1, 1, 1] []).2) ⟨[(3, D.acc 0)], [Ob.row .uq 9 1 ((q1_0).map tx)]⟩) (hm1 : (a0_).length ≤ maxLen) : ∀ (rest : List Bytes) (i1 : Nat) (w1_0 : List Bytes), (a0_).drop i1 = rest → d_impl_varsAmong_L1 a0_ k1 rest i1 w1_0 = some r → AWr Try.prog Γ (dig (bodyOf Try.f92) [1, 1, 0, 1, 0, 0] []).1 (KQ Try.prog Γ N (RetQ Try.prog Try.f92 (D.fr 9 1 ((r).map tx))) (dig (bodyOf Try.f92) [1, 1, 0, 1, 0] []).2) (rest.length + 1) ⟨[(3, D.acc 0), (6, D.sl ((a0_).map tx)), (7, D.int .i64 ((((a0_).map tx).length : Int))), (8, D.int .i64 ((i1 : Int)))], [Ob.row .uq 9 1 ((w1_0).map tx)]⟩ := by
  intro rest
  induction rest with
  | nil =>
    intro i1 w1_0 hd1 h
    rw [d_impl_varsAmong_L1] at h
    refine AWr_succ fun N1 hN1 hS1 => ?_
    have t := AW_N (N := N) (N' := N1) (K0 := (dig (bodyOf Try.f92) [1, 1, 0, 1, 0] []).2) (by kernel_rfl) hN1 (hE1 (w1_0) h)
    refine AW_go (n := 2000) [[some (9, 1)]] [.b false, .hl 0 [3] [0]] (.at_ (dig (bodyOf Try.f92) [1, 1, 1] []).1 (dig (bodyOf Try.f92) [1, 1, 1] []).2 ⟨[(3, D.acc 0)], [Ob.row .uq 9 1 ((w1_0).map tx)]⟩) hΓ mix (by kernel_rfl) (ow ((ltm_false tx (drop_nil hd1))) ow0) ?_
    first | exact t | (simp only [List.map_append, List.map_cons, List.map_nil, List.map_set] at t ⊢; exact t)
  | cons x1_ xs1 ih1 =>
    intro i1 w1_0 hd1 h
    rw [d_impl_varsAmong_L1] at h
    refine AWr_succ fun N1 hN1 hS1 => ?_
    obtain ⟨y32, h33, h⟩ := den_bind h
    rcases den_if h with ⟨h34, h⟩ | ⟨h34, h⟩
    · obtain ⟨h35, h⟩ := den_ok h
      have t := ih1 (i1 + 1) ((w1_0) ++ ([x1_])) (drop_cons hd1).2.2 h
      refine AW_go (n := 2000) [[some (9, 1)]] [.b true, .row (tx x1_), .d (D.bool (y32)), .b true, .cn [3, 6, 7, 8] [2]] (.cont 0 ⟨[(3, D.acc 0), (6, D.sl ((a0_).map tx)), (7, D.int .i64 ((((a0_).map tx).length : Int))), (8, D.int .i64 (IntKind.i64.wrap (((i1 : Int)) + (1))))], [Ob.row .uq 9 1 (((w1_0).map tx) ++ ([[D.str (x1_)]]))]⟩) hΓ mix (by kernel_rfl) (ow ((ltm_true tx (drop_cons hd1).2.1)) (ow (map_row tx 1 (drop_cons hd1).1 rfl) (ow (d_impl_IsVar_good h33) (ow (h34) (ow (room_ok h35) ow0))))) ?_
      refine (congrFun hS1 _).mpr ?_
      rw [i64_succ (drop_cons hd1).2.1 hm1]
      first | exact t | (simp only [List.map_append, List.map_cons, List.map_nil, List.map_set] at t ⊢; exact t)
    · have t := ih1 (i1 + 1) (w1_0) (drop_cons hd1).2.2 h
      refine AW_go (n := 2000) [[some (9, 1)]] [.b true, .row (tx x1_), .d (D.bool (y32)), .b false, .cn [3, 6, 7, 8] [0]] (.cont 0 ⟨[(3, D.acc 0), (6, D.sl ((a0_).map tx)), (7, D.int .i64 ((((a0_).map tx).length : Int))), (8, D.int .i64 (IntKind.i64.wrap (((i1 : Int)) + (1))))], [Ob.row .uq 9 1 ((w1_0).map tx)]⟩) hΓ mix (by kernel_rfl) (ow ((ltm_true tx (drop_cons hd1).2.1)) (ow (map_row tx 1 (drop_cons hd1).1 rfl) (ow (d_impl_IsVar_good h33) (ow (h34) ow0)))) ?_
      refine (congrFun hS1 _).mpr ?_
      rw [i64_succ (drop_cons hd1).2.1 hm1]
      first | exact t | (simp only [List.map_append, List.map_cons, List.map_nil, List.map_set] at t ⊢; exact t)
theorem d_impl_varsAmong_good {a0_ : List Bytes} {r : List Bytes} (h : d_impl_varsAmong a0_ = some r) : Good Try.prog 92 [D.sl ((a0_).map tx)] (D.fr 9 1 ((r).map tx)) := by
  refine Good.of (c := bodyOf Try.f92) Try.func92 rfl (by decide) (by simp [Try.f92]) ?_
  intro hr Γ hΓ
  have hΓ : Γ.nt = 20 := hΓ
  rw [d_impl_varsAmong] at h
  refine (show AW Try.prog Γ (bodyOf Try.f92) (KQ Try.prog Γ (fun _ _ => False) (RetQ Try.prog Try.f92 (D.fr 9 1 ((r).map tx))) []) _ from ?_)
  refine AW_go (n := 2000) [[some (9, 1)]] [.pro 3, .cn [3, 6, 7, 8] [0]] (.lp (dig (bodyOf Try.f92) [1, 1, 0, 1, 0, 0] []).1 (dig (bodyOf Try.f92) [1, 1, 0, 1, 0] []).2 ⟨[(3, D.acc 0), (6, D.sl ((a0_).map tx)), (7, D.int .i64 ((((a0_).map tx).length : Int))), (8, D.int .i64 (0))], [Ob.row .uq 9 1 (([] : List (List D)))]⟩) hΓ mix (by kernel_rfl) ow0 (AW_st (by first | rfl | (simp only [List.map_append, List.map_cons, List.map_nil, List.map_set, List.map_replicate] <;> rfl)) (AW_of_r (d_impl_varsAmong_L1w hΓ (fun q1_0 h => ?_) (by have := (Rdb.sl (hr _ (List.mem_of_getElem? (i := 0) rfl))).1; simpa using this) (a0_) 0 (([] : List Bytes)) rfl h)))
  have h := den_some h
  subst h
  exact AW_go (n := 2000) [[some (9, 1)]] [] (.ret (D.fr 9 1 ((q1_0).map tx))) hΓ mix (by kernel_rfl) ow0 rfl
def d_impl_BoundVars_L1 (a0_ : Rule) (a1_ : Int) (k1 : List Bytes → Option (List Bytes)) : List Cond → Nat → List Bytes → Option (List Bytes)
  | [], i1, w1_0 => (k1 (w1_0))
  | x1_ :: xs1, i1, w1_0 => (bif decide (((i1 : Int) : Int) < (a1_)) then (bif (x1_.kind : Int) == (1) then ((d_impl_varsAmong (x1_.pat.args)).bind fun y39 => (bif room (((w1_0).map tx).length + ((y39).map tx).length) 16 then (d_impl_BoundVars_L1 a0_ a1_ k1 xs1 (i1 + 1) ((w1_0) ++ (y39))) else none)) else (d_impl_BoundVars_L1 a0_ a1_ k1 xs1 (i1 + 1) (w1_0))) else (d_impl_BoundVars_L1 a0_ a1_ k1 xs1 (i1 + 1) (w1_0)))
def d_impl_BoundVars (a0_ : Rule) (a1_ : Int) : Option (List Bytes) := (d_impl_BoundVars_L1 a0_ a1_ (fun (q1_0 : List Bytes) => ((d_impl_SortedTexts (q1_0)).bind fun y42 => (some (y42)))) (a0_.conds) 0 (([] : List Bytes)))
theorem d_impl_BoundVars_L1w {Γ : Ctx} (hΓ : Γ.nt = 33) {N : Nat → St → Prop} {a0_ : Rule} {a1_ : Int} {r : List Bytes} {k1 : List Bytes → Option (List Bytes)} (hE1 : ∀ (q1_0 : List Bytes), k1 q1_0 = some r → AW Try.prog Γ (dig (bodyOf Try.f46) [1, 1, 1] []).1 (KQ Try.prog Γ N (RetQ Try.prog Try.f46 (D.fr 9 1 ((r).map tx))) (dig (bodyOf Try.f46) [1, 1, 1] []).2) ⟨[(5, D.acc 0)], [Ob.row .uq 9 1 ((q1_0).map tx)]⟩) (hm1 : (a0_.conds).length ≤ maxLen) : ∀ (rest : List Cond) (i1 : Nat) (w1_0 : List Bytes), (a0_.conds).drop i1 = rest → d_impl_BoundVars_L1 a0_ a1_ k1 rest i1 w1_0 = some r → AWr Try.prog Γ (dig (bodyOf Try.f46) [1, 1, 0, 1, 0, 0] []).1 (KQ Try.prog Γ N (RetQ Try.prog Try.f46 (D.fr 9 1 ((r).map tx))) (dig (bodyOf Try.f46) [1, 1, 0, 1, 0] []).2) (rest.length + 1) ⟨[(1, D.int .i64 (a1_)), (5, D.acc 0), (9, D.sl ((a0_.conds).map Cond.c)), (10, D.int .i64 ((((a0_.conds).map Cond.c).length : Int))), (11, D.int .i64 ((i1 : Int)))], [Ob.row .uq 9 1 ((w1_0).map tx)]⟩ := by
  intro rest
  induction rest with
  | nil =>
    intro i1 w1_0 hd1 h
    rw [d_impl_BoundVars_L1] at h
    refine AWr_succ fun N1 hN1 hS1 => ?_
    have t := AW_N (N := N) (N' := N1) (K0 := (dig (bodyOf Try.f46) [1, 1, 0, 1, 0] []).2) (by kernel_rfl) hN1 (hE1 (w1_0) h)
    refine AW_go (n := 2000) [[some (9, 1)]] [.b false, .hl 0 [5] [0]] (.at_ (dig (bodyOf Try.f46) [1, 1, 1] []).1 (dig (bodyOf Try.f46) [1, 1, 1] []).2 ⟨[(5, D.acc 0)], [Ob.row .uq 9 1 ((w1_0).map tx)]⟩) hΓ mix (by kernel_rfl) (ow ((ltm_false Cond.c (drop_nil hd1))) ow0) ?_
    first | exact t | (simp only [List.map_append, List.map_cons, List.map_nil, List.map_set] at t ⊢; exact t)
  | cons x1_ xs1 ih1 =>
    intro i1 w1_0 hd1 h
    rw [d_impl_BoundVars_L1] at h
    refine AWr_succ fun N1 hN1 hS1 => ?_
    rcases den_if h with ⟨h37, h⟩ | ⟨h37, h⟩
    · rcases den_if h with ⟨h38, h⟩ | ⟨h38, h⟩
      · obtain ⟨y39, h40, h⟩ := den_bind h
        obtain ⟨h41, h⟩ := den_ok h
        have t := ih1 (i1 + 1) ((w1_0) ++ (y39)) (drop_cons hd1).2.2 h
        refine AW_go (n := 2000) [[some (9, 1)]] [.b true, .row (Cond.c x1_), .b true, .b true, .b true, .b true, .b true, .d (D.fr 9 1 ((y39).map tx)), .cn [1, 5, 9, 10, 11] [3]] (.cont 0 ⟨[(1, D.int .i64 (a1_)), (5, D.acc 0), (9, D.sl ((a0_.conds).map Cond.c)), (10, D.int .i64 ((((a0_.conds).map Cond.c).length : Int))), (11, D.int .i64 (IntKind.i64.wrap (((i1 : Int)) + (1))))], [Ob.row .uq 9 1 (((w1_0).map tx) ++ ((y39).map tx))]⟩) hΓ mix (by kernel_rfl) (ow ((ltm_true Cond.c (drop_cons hd1).2.1)) (ow (map_row Cond.c 5 (drop_cons hd1).1 rfl) (ow (h37) (ow (h37) (ow (h37) (ow (h37) (ow (h38) (ow (d_impl_varsAmong_good h40) (ow (room_ok h41) ow0))))))))) ?_
        refine (congrFun hS1 _).mpr ?_
        rw [i64_succ (drop_cons hd1).2.1 hm1]
        first | exact t | (simp only [List.map_append, List.map_cons, List.map_nil, List.map_set] at t ⊢; exact t)
      · have t := ih1 (i1 + 1) (w1_0) (drop_cons hd1).2.2 h
        refine AW_go (n := 2000) [[some (9, 1)]] [.b true, .row (Cond.c x1_), .b true, .b true, .b true, .b true, .b false, .cn [1, 5, 9, 10, 11] [0]] (.cont 0 ⟨[(1, D.int .i64 (a1_)), (5, D.acc 0), (9, D.sl ((a0_.conds).map Cond.c)), (10, D.int .i64 ((((a0_.conds).map Cond.c).length : Int))), (11, D.int .i64 (IntKind.i64.wrap (((i1 : Int)) + (1))))], [Ob.row .uq 9 1 ((w1_0).map tx)]⟩) hΓ mix (by kernel_rfl) (ow ((ltm_true Cond.c (drop_cons hd1).2.1)) (ow (map_row Cond.c 5 (drop_cons hd1).1 rfl) (ow (h37) (ow (h37) (ow (h37) (ow (h37) (ow (h38) ow0))))))) ?_
        refine (congrFun hS1 _).mpr ?_
        rw [i64_succ (drop_cons hd1).2.1 hm1]
        first | exact t | (simp only [List.map_append, List.map_cons, List.map_nil, List.map_set] at t ⊢; exact t)
    · have t := ih1 (i1 + 1) (w1_0) (drop_cons hd1).2.2 h
      refine AW_go (n := 2000) [[some (9, 1)]] [.b true, .row (Cond.c x1_), .b false, .b false, .b false, .b false, .b false, .cn [1, 5, 9, 10, 11] [0]] (.cont 0 ⟨[(1, D.int .i64 (a1_)), (5, D.acc 0), (9, D.sl ((a0_.conds).map Cond.c)), (10, D.int .i64 ((((a0_.conds).map Cond.c).length : Int))), (11, D.int .i64 (IntKind.i64.wrap (((i1 : Int)) + (1))))], [Ob.row .uq 9 1 ((w1_0).map tx)]⟩) hΓ mix (by kernel_rfl) (ow ((ltm_true Cond.c (drop_cons hd1).2.1)) (ow (map_row Cond.c 5 (drop_cons hd1).1 rfl) (ow (h37) (ow (h37) (ow (h37) (ow (h37) (ow (show (false) = false from rfl) ow0))))))) ?_
      refine (congrFun hS1 _).mpr ?_
      rw [i64_succ (drop_cons hd1).2.1 hm1]
      first | exact t | (simp only [List.map_append, List.map_cons, List.map_nil, List.map_set] at t ⊢; exact t)
theorem d_impl_BoundVars_good {a0_ : Rule} {a1_ : Int} {r : List Bytes} (h : d_impl_BoundVars a0_ a1_ = some r) : Good Try.prog 46 [D.agg (Rule.c a0_), D.int .i64 (a1_)] (D.fr 9 1 ((r).map tx)) := by
  refine Good.of (c := bodyOf Try.f46) Try.func46 rfl (by decide) (by simp [Try.f46]) ?_
  intro hr Γ hΓ
  have hΓ : Γ.nt = 33 := hΓ
  rw [d_impl_BoundVars] at h
  refine (show AW Try.prog Γ (bodyOf Try.f46) (KQ Try.prog Γ (fun _ _ => False) (RetQ Try.prog Try.f46 (D.fr 9 1 ((r).map tx))) []) _ from ?_)
  refine AW_go (n := 2000) [[some (9, 1)]] [.pro 5, .cn [1, 5, 9, 10, 11] [1]] (.lp (dig (bodyOf Try.f46) [1, 1, 0, 1, 0, 0] []).1 (dig (bodyOf Try.f46) [1, 1, 0, 1, 0] []).2 ⟨[(1, D.int .i64 (a1_)), (5, D.acc 0), (9, D.sl ((a0_.conds).map Cond.c)), (10, D.int .i64 ((((a0_.conds).map Cond.c).length : Int))), (11, D.int .i64 (0))], [Ob.row .uq 9 1 (([] : List (List D)))]⟩) hΓ mix (by kernel_rfl) ow0 (AW_st (by first | rfl | (simp only [List.map_append, List.map_cons, List.map_nil, List.map_set, List.map_replicate] <;> rfl)) (AW_of_r (d_impl_BoundVars_L1w hΓ (fun q1_0 h => ?_) (by have := (Rdb.sl (Rdb.agg (hr _ (List.mem_of_getElem? (i := 0) rfl)) (.sl ((a0_.conds).map Cond.c)) (by simp))).1; simpa using this) (a0_.conds) 0 (([] : List Bytes)) rfl h)))
  obtain ⟨y42, h43, h⟩ := den_bind h
  have h := den_some h
  subst h
  exact AW_go (n := 2000) [[some (9, 1)]] [.d (D.fr 9 1 ((y42).map tx))] (.ret (D.fr 9 1 ((y42).map tx))) hΓ mix (by kernel_rfl) (ow (d_impl_SortedTexts_good h43) ow0) rfl
def d_spec_CondVars (a0_ : Cond) : Option (List Bytes) := ((d_spec_VarsOf (a0_.pat)).bind fun y1 => ((d_spec_IsVar (a0_.left)).bind fun y3 => (bif y3 then ((d_spec_l1Put (y1) (a0_.left)).bind fun y6 => ((d_spec_IsVar (a0_.right)).bind fun y8 => (bif y8 then ((d_spec_l1Put (y6) (a0_.right)).bind fun y11 => (some (y11))) else (some (y6))))) else ((d_spec_IsVar (a0_.right)).bind fun y13 => (bif y13 then ((d_spec_l1Put (y1) (a0_.right)).bind fun y16 => (some (y16))) else (some (y1)))))))
theorem d_spec_CondVars_good {a0_ : Cond} {r : List Bytes} (h : d_spec_CondVars a0_ = some r) : Good Try.prog 93 [D.agg (Cond.c a0_)] (D.fr 9 1 ((r).map tx)) := by
  refine Good.of (c := bodyOf Try.f93) Try.func93 rfl (by decide) (by simp [Try.f93]) ?_
  intro hr Γ hΓ
  have hΓ : Γ.nt = 22 := hΓ
  rw [d_spec_CondVars] at h
  refine (show AW Try.prog Γ (bodyOf Try.f93) (KQ Try.prog Γ (fun _ _ => False) (RetQ Try.prog Try.f93 (D.fr 9 1 ((r).map tx))) []) _ from ?_)
  obtain ⟨y1, h2, h⟩ := den_bind h
  obtain ⟨y3, h4, h⟩ := den_bind h
  rcases den_if h with ⟨h5, h⟩ | ⟨h5, h⟩
  · obtain ⟨y6, h7, h⟩ := den_bind h
    obtain ⟨y8, h9, h⟩ := den_bind h
    rcases den_if h with ⟨h10, h⟩ | ⟨h10, h⟩
    · obtain ⟨y11, h12, h⟩ := den_bind h
      have h := den_some h
      subst h
      exact AW_go (n := 2000) [[some (9, 1)]] [.d (D.fr 9 1 ((y1).map tx)), .d (D.bool (y3)), .b true, .d (D.fr 9 1 ((y6).map tx)), .d (D.bool (y8)), .b true, .d (D.fr 9 1 ((y11).map tx))] (.ret (D.fr 9 1 ((y11).map tx))) hΓ mix (by kernel_rfl) (ow (d_spec_VarsOf_good h2) (ow (d_spec_IsVar_good h4) (ow (h5) (ow (d_spec_l1Put_good h7) (ow (d_spec_IsVar_good h9) (ow (h10) (ow (d_spec_l1Put_good h12) ow0))))))) rfl
    · have h := den_some h
      subst h
      exact AW_go (n := 2000) [[some (9, 1)]] [.d (D.fr 9 1 ((y1).map tx)), .d (D.bool (y3)), .b true, .d (D.fr 9 1 ((y6).map tx)), .d (D.bool (y8)), .b false] (.ret (D.fr 9 1 ((y6).map tx))) hΓ mix (by kernel_rfl) (ow (d_spec_VarsOf_good h2) (ow (d_spec_IsVar_good h4) (ow (h5) (ow (d_spec_l1Put_good h7) (ow (d_spec_IsVar_good h9) (ow (h10) ow0)))))) rfl
  · obtain ⟨y13, h14, h⟩ := den_bind h
    rcases den_if h with ⟨h15, h⟩ | ⟨h15, h⟩
    · obtain ⟨y16, h17, h⟩ := den_bind h
      have h := den_some h
      subst h
      exact AW_go (n := 2000) [[some (9, 1)]] [.d (D.fr 9 1 ((y1).map tx)), .d (D.bool (y3)), .b false, .d (D.bool (y13)), .b true, .d (D.fr 9 1 ((y16).map tx))] (.ret (D.fr 9 1 ((y16).map tx))) hΓ mix (by kernel_rfl) (ow (d_spec_VarsOf_good h2) (ow (d_spec_IsVar_good h4) (ow (h5) (ow (d_spec_IsVar_good h14) (ow (h15) (ow (d_spec_l1Put_good h17) ow0)))))) rfl
    · have h := den_some h
      subst h
      exact AW_go (n := 2000) [[some (9, 1)]] [.d (D.fr 9 1 ((y1).map tx)), .d (D.bool (y3)), .b false, .d (D.bool (y13)), .b false] (.ret (D.fr 9 1 ((y1).map tx))) hΓ mix (by kernel_rfl) (ow (d_spec_VarsOf_good h2) (ow (d_spec_IsVar_good h4) (ow (h5) (ow (d_spec_IsVar_good h14) (ow (h15) ow0))))) rfl
def d_spec_RuleVars_L2 (a0_ : Rule) (i1 : Nat) (y147 : List Bytes) (k2 : List Bytes → Option (List Bytes)) : List Bytes → Nat → List Bytes → Option (List Bytes)
  | [], i2, w2_1 => (k2 (w2_1))
  | x2_ :: xs2, i2, w2_1 => ((d_spec_l1Put (w2_1) (x2_)).bind fun y171 => (d_spec_RuleVars_L2 a0_ i1 y147 k2 xs2 (i2 + 1) (y171)))
def d_spec_RuleVars_L1 (a0_ : Rule) (k1 : List Bytes → Option (List Bytes)) : List Cond → Nat → List Bytes → Option (List Bytes)
  | [], i1, w1_1 => (k1 (w1_1))
  | x1_ :: xs1, i1, w1_1 => ((d_spec_CondVars (x1_)).bind fun y147 => (bif decide ((y147).length ≤ maxLen) then (d_spec_RuleVars_L2 a0_ i1 y147 (fun (q2_1 : List Bytes) => (d_spec_RuleVars_L1 a0_ k1 xs1 (i1 + 1) (q2_1))) (y147) 0 (w1_1)) else none))
def d_spec_RuleVars_L4 (a0_ : Rule) (i3 : Nat) (y320 : List Bytes) (k4 : List Bytes → Option (List Bytes)) : List Bytes → Nat → List Bytes → Option (List Bytes)
  | [], i4, w4_1 => (k4 (w4_1))
  | x4_ :: xs4, i4, w4_1 => ((d_spec_l1Put (w4_1) (x4_)).bind fun y344 => (d_spec_RuleVars_L4 a0_ i3 y320 k4 xs4 (i4 + 1) (y344)))
def d_spec_RuleVars_L3 (a0_ : Rule) (k3 : List Bytes → Option (List Bytes)) : List Action → Nat → List Bytes → Option (List Bytes)
  | [], i3, w3_1 => (k3 (w3_1))
  | x3_ :: xs3, i3, w3_1 => ((d_spec_VarsOf (x3_.pat)).bind fun y320 => (bif decide ((y320).length ≤ maxLen) then (d_spec_RuleVars_L4 a0_ i3 y320 (fun (q4_1 : List Bytes) => (d_spec_RuleVars_L3 a0_ k3 xs3 (i3 + 1) (q4_1))) (y320) 0 (w3_1)) else none))
def d_spec_RuleVars (a0_ : Rule) : Option (List Bytes) := (d_spec_RuleVars_L1 a0_ (fun (q1_1 : List Bytes) => (d_spec_RuleVars_L3 a0_ (fun (q3_0 : List Bytes) => (some (q3_0))) (a0_.acts) 0 (q1_1))) (a0_.conds) 0 (([] : List Bytes)))
theorem d_spec_RuleVars_L2w {Γ : Ctx} (hΓ : Γ.nt = 63) {N : Nat → St → Prop} {a0_ : Rule} {i1 : Nat} {y147 : List Bytes} {r : List Bytes} {k2 : List Bytes → Option (List Bytes)} (hE2 : ∀ (q2_1 : List Bytes), k2 q2_1 = some r → AW Try.prog Γ (dig (bodyOf Try.f47) [1, 1, 0, 1, 0, 0, 1, 1] []).1 (KQ Try.prog Γ N (RetQ Try.prog Try.f47 (D.fr 9 1 ((r).map tx))) (dig (bodyOf Try.f47) [1, 1, 0, 1, 0, 0, 1, 1] []).2) ⟨[(1, D.ptr 0 0), (3, D.acc 1), (4, D.int .i64 ((i1 : Int)))], [Ob.box (Rule.c a0_), Ob.row .uq 9 1 ((q2_1).map tx)]⟩) (hm2 : (y147).length ≤ maxLen) : ∀ (rest : List Bytes) (i2 : Nat) (w2_1 : List Bytes), (y147).drop i2 = rest → d_spec_RuleVars_L2 a0_ i1 y147 k2 rest i2 w2_1 = some r → AWr Try.prog Γ (dig (bodyOf Try.f47) [1, 1, 0, 1, 0, 0, 1, 0, 0, 1, 1, 0, 0] []).1 (KQ Try.prog Γ N (RetQ Try.prog Try.f47 (D.fr 9 1 ((r).map tx))) (dig (bodyOf Try.f47) [1, 1, 0, 1, 0, 0, 1, 0, 0, 1, 1, 0] []).2) (rest.length + 1) ⟨[(1, D.ptr 0 0), (3, D.acc 1), (4, D.int .i64 ((i1 : Int))), (5, D.acc 2), (6, D.int .i64 ((i2 : Int)))], [Ob.box (Rule.c a0_), Ob.row .uq 9 1 ((w2_1).map tx), Ob.row .uq 9 1 ((y147).map tx)]⟩ := by
  intro rest
  induction rest with
  | nil =>
    intro i2 w2_1 hd2 h
    rw [d_spec_RuleVars_L2] at h
    refine AWr_succ fun N2 hN2 hS2 => ?_
    have t := AW_N (N := N) (N' := N2) (K0 := (dig (bodyOf Try.f47) [1, 1, 0, 1, 0, 0, 1, 0, 0, 1, 1, 0] []).2) (by kernel_rfl) hN2 (hE2 (w2_1) h)
    refine AW_go (n := 2000) [[some (9, 1)]] [.b false, .hl 3 [1, 3, 4] [0, 1]] (.at_ (dig (bodyOf Try.f47) [1, 1, 0, 1, 0, 0, 1, 1] []).1 (dig (bodyOf Try.f47) [1, 1, 0, 1, 0, 0, 1, 1] []).2 ⟨[(1, D.ptr 0 0), (3, D.acc 1), (4, D.int .i64 ((i1 : Int)))], [Ob.box (Rule.c a0_), Ob.row .uq 9 1 ((w2_1).map tx)]⟩) hΓ mix (by kernel_rfl) (ow ((ltm_false tx (drop_nil hd2))) ow0) ?_
    first | exact t | (simp only [List.map_append, List.map_cons, List.map_nil, List.map_set] at t ⊢; exact t)
  | cons x2_ xs2 ih2 =>
    intro i2 w2_1 hd2 h
    rw [d_spec_RuleVars_L2] at h
    refine AWr_succ fun N2 hN2 hS2 => ?_
    obtain ⟨y171, h172, h⟩ := den_bind h
    have t := ih2 (i2 + 1) (y171) (drop_cons hd2).2.2 h
    refine AW_go (n := 2000) [[some (9, 1)]] [.b true, .ix i2, .row [D.str (x2_)], .d (D.fr 9 1 ((y171).map tx)), .cn [1, 3, 4, 5, 6] [0, 3, 2]] (.cont 1 ⟨[(1, D.ptr 0 0), (3, D.acc 1), (4, D.int .i64 ((i1 : Int))), (5, D.acc 2), (6, D.int .i64 (IntKind.i64.wrap (((i2 : Int)) + (1))))], [Ob.box (Rule.c a0_), Ob.row .uq 9 1 ((y171).map tx), Ob.row .uq 9 1 ((y147).map tx)]⟩) hΓ mix (by kernel_rfl) (ow ((ltm_true tx (drop_cons hd2).2.1)) (ow (own_ixl tx 1 (drop_cons hd2).1) (ow (show 1 = 1 ∧ RK.opn .uq = true ∧ ((y147).map tx)[i2]? = some [D.str (x2_)] ∧ 1 ≤ 1 from ⟨rfl, rfl, map_get tx (drop_cons hd2).1, by omega⟩) (ow (d_spec_l1Put_good h172) ow0)))) ?_
    refine (congrFun hS2 _).mpr ?_
    rw [i64_succ (drop_cons hd2).2.1 hm2]
    first | exact t | (simp only [List.map_append, List.map_cons, List.map_nil, List.map_set] at t ⊢; exact t)
theorem d_spec_RuleVars_L1w {Γ : Ctx} (hΓ : Γ.nt = 63) {N : Nat → St → Prop} {a0_ : Rule} {r : List Bytes} {k1 : List Bytes → Option (List Bytes)} (hE1 : ∀ (q1_1 : List Bytes), k1 q1_1 = some r → AW Try.prog Γ (dig (bodyOf Try.f47) [1, 1, 1] []).1 (KQ Try.prog Γ N (RetQ Try.prog Try.f47 (D.fr 9 1 ((r).map tx))) (dig (bodyOf Try.f47) [1, 1, 1] []).2) ⟨[(1, D.ptr 0 0), (3, D.acc 1)], [Ob.box (Rule.c a0_), Ob.row .uq 9 1 ((q1_1).map tx)]⟩) (hm1 : (a0_.conds).length ≤ maxLen) : ∀ (rest : List Cond) (i1 : Nat) (w1_1 : List Bytes), (a0_.conds).drop i1 = rest → d_spec_RuleVars_L1 a0_ k1 rest i1 w1_1 = some r → AWr Try.prog Γ (dig (bodyOf Try.f47) [1, 1, 0, 1, 0, 0] []).1 (KQ Try.prog Γ N (RetQ Try.prog Try.f47 (D.fr 9 1 ((r).map tx))) (dig (bodyOf Try.f47) [1, 1, 0, 1, 0] []).2) (rest.length + 1) ⟨[(1, D.ptr 0 0), (3, D.acc 1), (4, D.int .i64 ((i1 : Int)))], [Ob.box (Rule.c a0_), Ob.row .uq 9 1 ((w1_1).map tx)]⟩ := by
  intro rest
  induction rest with
  | nil =>
    intro i1 w1_1 hd1 h
    rw [d_spec_RuleVars_L1] at h
    refine AWr_succ fun N1 hN1 hS1 => ?_
    have t := AW_N (N := N) (N' := N1) (K0 := (dig (bodyOf Try.f47) [1, 1, 0, 1, 0] []).2) (by kernel_rfl) hN1 (hE1 (w1_1) h)
    refine AW_go (n := 2000) [[some (9, 1)]] [.b false, .hl 0 [1, 3] [0, 1]] (.at_ (dig (bodyOf Try.f47) [1, 1, 1] []).1 (dig (bodyOf Try.f47) [1, 1, 1] []).2 ⟨[(1, D.ptr 0 0), (3, D.acc 1)], [Ob.box (Rule.c a0_), Ob.row .uq 9 1 ((w1_1).map tx)]⟩) hΓ mix (by kernel_rfl) (ow ((ltm_false Cond.c (drop_nil hd1))) ow0) ?_
    first | exact t | (simp only [List.map_append, List.map_cons, List.map_nil, List.map_set] at t ⊢; exact t)
  | cons x1_ xs1 ih1 =>
    intro i1 w1_1 hd1 h
    rw [d_spec_RuleVars_L1] at h
    refine AWr_succ fun N1 hN1 hS1 => ?_
    obtain ⟨y147, h148, h⟩ := den_bind h
    obtain ⟨h173, h⟩ := den_ok h
    refine AW_go (n := 2000) [[some (9, 1)]] [.b true, .row (Cond.c x1_), .d (D.fr 9 1 ((y147).map tx)), .cn [1, 3, 4, 5, 6] [0, 1, 2]] (.lp (dig (bodyOf Try.f47) [1, 1, 0, 1, 0, 0, 1, 0, 0, 1, 1, 0, 0] []).1 (dig (bodyOf Try.f47) [1, 1, 0, 1, 0, 0, 1, 0, 0, 1, 1, 0] []).2 ⟨[(1, D.ptr 0 0), (3, D.acc 1), (4, D.int .i64 ((i1 : Int))), (5, D.acc 2), (6, D.int .i64 (0))], [Ob.box (Rule.c a0_), Ob.row .uq 9 1 ((w1_1).map tx), Ob.row .uq 9 1 ((y147).map tx)]⟩) hΓ mix (by kernel_rfl) (ow ((ltm_true Cond.c (drop_cons hd1).2.1)) (ow (map_row Cond.c 5 (drop_cons hd1).1 rfl) (ow (d_spec_CondVars_good h148) ow0))) (AW_st (by first | rfl | (simp only [List.map_append, List.map_cons, List.map_nil, List.map_set, List.map_replicate] <;> rfl)) (AW_of_r (d_spec_RuleVars_L2w hΓ (fun q2_1 h => ?_) (of_decide_eq_true h173) (y147) 0 (w1_1) rfl h)))
    have t := ih1 (i1 + 1) (q2_1) (drop_cons hd1).2.2 h
    refine AW_go (n := 2000) [[some (9, 1)]] [.cn [1, 3, 4] [0, 1]] (.cont 0 ⟨[(1, D.ptr 0 0), (3, D.acc 1), (4, D.int .i64 (IntKind.i64.wrap (((i1 : Int)) + (1))))], [Ob.box (Rule.c a0_), Ob.row .uq 9 1 ((q2_1).map tx)]⟩) hΓ mix (by kernel_rfl) ow0 ?_
    refine (congrFun hS1 _).mpr ?_
    rw [i64_succ (drop_cons hd1).2.1 hm1]
    first | exact t | (simp only [List.map_append, List.map_cons, List.map_nil, List.map_set] at t ⊢; exact t)
theorem d_spec_RuleVars_L4w {Γ : Ctx} (hΓ : Γ.nt = 63) {N : Nat → St → Prop} {a0_ : Rule} {i3 : Nat} {y320 : List Bytes} {r : List Bytes} {k4 : List Bytes → Option (List Bytes)} (hE4 : ∀ (q4_1 : List Bytes), k4 q4_1 = some r → AW Try.prog Γ (dig (bodyOf Try.f47) [1, 1, 1, 0, 1, 0, 0, 1, 1] []).1 (KQ Try.prog Γ N (RetQ Try.prog Try.f47 (D.fr 9 1 ((r).map tx))) (dig (bodyOf Try.f47) [1, 1, 1, 0, 1, 0, 0, 1, 1] []).2) ⟨[(1, D.ptr 0 0), (3, D.acc 1), (7, D.int .i64 ((i3 : Int)))], [Ob.box (Rule.c a0_), Ob.row .uq 9 1 ((q4_1).map tx)]⟩) (hm4 : (y320).length ≤ maxLen) : ∀ (rest : List Bytes) (i4 : Nat) (w4_1 : List Bytes), (y320).drop i4 = rest → d_spec_RuleVars_L4 a0_ i3 y320 k4 rest i4 w4_1 = some r → AWr Try.prog Γ (dig (bodyOf Try.f47) [1, 1, 1, 0, 1, 0, 0, 1, 0, 0, 1, 1, 0, 0] []).1 (KQ Try.prog Γ N (RetQ Try.prog Try.f47 (D.fr 9 1 ((r).map tx))) (dig (bodyOf Try.f47) [1, 1, 1, 0, 1, 0, 0, 1, 0, 0, 1, 1, 0] []).2) (rest.length + 1) ⟨[(1, D.ptr 0 0), (3, D.acc 1), (7, D.int .i64 ((i3 : Int))), (8, D.acc 2), (9, D.int .i64 ((i4 : Int)))], [Ob.box (Rule.c a0_), Ob.row .uq 9 1 ((w4_1).map tx), Ob.row .uq 9 1 ((y320).map tx)]⟩ := by
  intro rest
  induction rest with
  | nil =>
    intro i4 w4_1 hd4 h
    rw [d_spec_RuleVars_L4] at h
    refine AWr_succ fun N4 hN4 hS4 => ?_
    have t := AW_N (N := N) (N' := N4) (K0 := (dig (bodyOf Try.f47) [1, 1, 1, 0, 1, 0, 0, 1, 0, 0, 1, 1, 0] []).2) (by kernel_rfl) hN4 (hE4 (w4_1) h)
    refine AW_go (n := 2000) [[some (9, 1)]] [.b false, .hl 3 [1, 3, 7] [0, 1]] (.at_ (dig (bodyOf Try.f47) [1, 1, 1, 0, 1, 0, 0, 1, 1] []).1 (dig (bodyOf Try.f47) [1, 1, 1, 0, 1, 0, 0, 1, 1] []).2 ⟨[(1, D.ptr 0 0), (3, D.acc 1), (7, D.int .i64 ((i3 : Int)))], [Ob.box (Rule.c a0_), Ob.row .uq 9 1 ((w4_1).map tx)]⟩) hΓ mix (by kernel_rfl) (ow ((ltm_false tx (drop_nil hd4))) ow0) ?_
    first | exact t | (simp only [List.map_append, List.map_cons, List.map_nil, List.map_set] at t ⊢; exact t)
  | cons x4_ xs4 ih4 =>
    intro i4 w4_1 hd4 h
    rw [d_spec_RuleVars_L4] at h
    refine AWr_succ fun N4 hN4 hS4 => ?_
    obtain ⟨y344, h345, h⟩ := den_bind h
    have t := ih4 (i4 + 1) (y344) (drop_cons hd4).2.2 h
    refine AW_go (n := 2000) [[some (9, 1)]] [.b true, .ix i4, .row [D.str (x4_)], .d (D.fr 9 1 ((y344).map tx)), .cn [1, 3, 7, 8, 9] [0, 3, 2]] (.cont 1 ⟨[(1, D.ptr 0 0), (3, D.acc 1), (7, D.int .i64 ((i3 : Int))), (8, D.acc 2), (9, D.int .i64 (IntKind.i64.wrap (((i4 : Int)) + (1))))], [Ob.box (Rule.c a0_), Ob.row .uq 9 1 ((y344).map tx), Ob.row .uq 9 1 ((y320).map tx)]⟩) hΓ mix (by kernel_rfl) (ow ((ltm_true tx (drop_cons hd4).2.1)) (ow (own_ixl tx 1 (drop_cons hd4).1) (ow (show 1 = 1 ∧ RK.opn .uq = true ∧ ((y320).map tx)[i4]? = some [D.str (x4_)] ∧ 1 ≤ 1 from ⟨rfl, rfl, map_get tx (drop_cons hd4).1, by omega⟩) (ow (d_spec_l1Put_good h345) ow0)))) ?_
    refine (congrFun hS4 _).mpr ?_
    rw [i64_succ (drop_cons hd4).2.1 hm4]
    first | exact t | (simp only [List.map_append, List.map_cons, List.map_nil, List.map_set] at t ⊢; exact t)
theorem d_spec_RuleVars_L3w {Γ : Ctx} (hΓ : Γ.nt = 63) {N : Nat → St → Prop} {a0_ : Rule} {r : List Bytes} {k3 : List Bytes → Option (List Bytes)} (hE3 : ∀ (q3_0 : List Bytes), k3 q3_0 = some r → AW Try.prog Γ (dig (bodyOf Try.f47) [1, 1, 1, 1] []).1 (KQ Try.prog Γ N (RetQ Try.prog Try.f47 (D.fr 9 1 ((r).map tx))) (dig (bodyOf Try.f47) [1, 1, 1, 1] []).2) ⟨[(3, D.acc 0)], [Ob.row .uq 9 1 ((q3_0).map tx)]⟩) (hm3 : (a0_.acts).length ≤ maxLen) : ∀ (rest : List Action) (i3 : Nat) (w3_1 : List Bytes), (a0_.acts).drop i3 = rest → d_spec_RuleVars_L3 a0_ k3 rest i3 w3_1 = some r → AWr Try.prog Γ (dig (bodyOf Try.f47) [1, 1, 1, 0, 1, 0, 0] []).1 (KQ Try.prog Γ N (RetQ Try.prog Try.f47 (D.fr 9 1 ((r).map tx))) (dig (bodyOf Try.f47) [1, 1, 1, 0, 1, 0] []).2) (rest.length + 1) ⟨[(1, D.ptr 0 0), (3, D.acc 1), (7, D.int .i64 ((i3 : Int)))], [Ob.box (Rule.c a0_), Ob.row .uq 9 1 ((w3_1).map tx)]⟩ := by
  intro rest
  induction rest with
  | nil =>
    intro i3 w3_1 hd3 h
    rw [d_spec_RuleVars_L3] at h
    refine AWr_succ fun N3 hN3 hS3 => ?_
    have t := AW_N (N := N) (N' := N3) (K0 := (dig (bodyOf Try.f47) [1, 1, 1, 0, 1, 0] []).2) (by kernel_rfl) hN3 (hE3 (w3_1) h)
    refine AW_go (n := 2000) [[some (9, 1)]] [.b false, .hl 0 [3] [1]] (.at_ (dig (bodyOf Try.f47) [1, 1, 1, 1] []).1 (dig (bodyOf Try.f47) [1, 1, 1, 1] []).2 ⟨[(3, D.acc 0)], [Ob.row .uq 9 1 ((w3_1).map tx)]⟩) hΓ mix (by kernel_rfl) (ow ((ltm_false Action.c (drop_nil hd3))) ow0) ?_
    first | exact t | (simp only [List.map_append, List.map_cons, List.map_nil, List.map_set] at t ⊢; exact t)
  | cons x3_ xs3 ih3 =>
    intro i3 w3_1 hd3 h
    rw [d_spec_RuleVars_L3] at h
    refine AWr_succ fun N3 hN3 hS3 => ?_
    obtain ⟨y320, h321, h⟩ := den_bind h
    obtain ⟨h346, h⟩ := den_ok h
    refine AW_go (n := 2000) [[some (9, 1)]] [.b true, .row (Action.c x3_), .d (D.fr 9 1 ((y320).map tx)), .cn [1, 3, 7, 8, 9] [0, 1, 2]] (.lp (dig (bodyOf Try.f47) [1, 1, 1, 0, 1, 0, 0, 1, 0, 0, 1, 1, 0, 0] []).1 (dig (bodyOf Try.f47) [1, 1, 1, 0, 1, 0, 0, 1, 0, 0, 1, 1, 0] []).2 ⟨[(1, D.ptr 0 0), (3, D.acc 1), (7, D.int .i64 ((i3 : Int))), (8, D.acc 2), (9, D.int .i64 (0))], [Ob.box (Rule.c a0_), Ob.row .uq 9 1 ((w3_1).map tx), Ob.row .uq 9 1 ((y320).map tx)]⟩) hΓ mix (by kernel_rfl) (ow ((ltm_true Action.c (drop_cons hd3).2.1)) (ow (map_row Action.c 3 (drop_cons hd3).1 rfl) (ow (d_spec_VarsOf_good h321) ow0))) (AW_st (by first | rfl | (simp only [List.map_append, List.map_cons, List.map_nil, List.map_set, List.map_replicate] <;> rfl)) (AW_of_r (d_spec_RuleVars_L4w hΓ (fun q4_1 h => ?_) (of_decide_eq_true h346) (y320) 0 (w3_1) rfl h)))
    have t := ih3 (i3 + 1) (q4_1) (drop_cons hd3).2.2 h
    refine AW_go (n := 2000) [[some (9, 1)]] [.cn [1, 3, 7] [0, 1]] (.cont 0 ⟨[(1, D.ptr 0 0), (3, D.acc 1), (7, D.int .i64 (IntKind.i64.wrap (((i3 : Int)) + (1))))], [Ob.box (Rule.c a0_), Ob.row .uq 9 1 ((q4_1).map tx)]⟩) hΓ mix (by kernel_rfl) ow0 ?_
    refine (congrFun hS3 _).mpr ?_
    rw [i64_succ (drop_cons hd3).2.1 hm3]
    first | exact t | (simp only [List.map_append, List.map_cons, List.map_nil, List.map_set] at t ⊢; exact t)
theorem d_spec_RuleVars_good {a0_ : Rule} {r : List Bytes} (h : d_spec_RuleVars a0_ = some r) : Good Try.prog 47 [D.agg (Rule.c a0_)] (D.fr 9 1 ((r).map tx)) := by
  refine Good.of (c := bodyOf Try.f47) Try.func47 rfl (by decide) (by simp [Try.f47]) ?_
  intro hr Γ hΓ
  have hΓ : Γ.nt = 63 := hΓ
  rw [d_spec_RuleVars] at h
  refine (show AW Try.prog Γ (bodyOf Try.f47) (KQ Try.prog Γ (fun _ _ => False) (RetQ Try.prog Try.f47 (D.fr 9 1 ((r).map tx))) []) _ from ?_)
  refine AW_go (n := 2000) [[some (9, 1)]] [.cn [1, 3, 4] [0, 1]] (.lp (dig (bodyOf Try.f47) [1, 1, 0, 1, 0, 0] []).1 (dig (bodyOf Try.f47) [1, 1, 0, 1, 0] []).2 ⟨[(1, D.ptr 0 0), (3, D.acc 1), (4, D.int .i64 (0))], [Ob.box (Rule.c a0_), Ob.row .uq 9 1 (([] : List (List D)))]⟩) hΓ mix (by kernel_rfl) ow0 (AW_st (by first | rfl | (simp only [List.map_append, List.map_cons, List.map_nil, List.map_set, List.map_replicate] <;> rfl)) (AW_of_r (d_spec_RuleVars_L1w hΓ (fun q1_1 h => ?_) (by have := (Rdb.sl (Rdb.agg (hr _ (List.mem_of_getElem? (i := 0) rfl)) (.sl ((a0_.conds).map Cond.c)) (by simp))).1; simpa using this) (a0_.conds) 0 (([] : List Bytes)) rfl h)))
  refine AW_go (n := 2000) [[some (9, 1)]] [.cn [1, 3, 7] [0, 1]] (.lp (dig (bodyOf Try.f47) [1, 1, 1, 0, 1, 0, 0] []).1 (dig (bodyOf Try.f47) [1, 1, 1, 0, 1, 0] []).2 ⟨[(1, D.ptr 0 0), (3, D.acc 1), (7, D.int .i64 (0))], [Ob.box (Rule.c a0_), Ob.row .uq 9 1 ((q1_1).map tx)]⟩) hΓ mix (by kernel_rfl) ow0 (AW_st (by first | rfl | (simp only [List.map_append, List.map_cons, List.map_nil, List.map_set, List.map_replicate] <;> rfl)) (AW_of_r (d_spec_RuleVars_L3w hΓ (fun q3_0 h => ?_) (by have := (Rdb.sl (Rdb.agg (hr _ (List.mem_of_getElem? (i := 0) rfl)) (.sl ((a0_.acts).map Action.c)) (by simp))).1; simpa using this) (a0_.acts) 0 (q1_1) rfl h)))
  have h := den_some h
  subst h
  exact AW_go (n := 2000) [[some (9, 1)]] [] (.ret (D.fr 9 1 ((q3_0).map tx))) hΓ mix (by kernel_rfl) ow0 rfl
def d_impl_termsOf (a0_ : Cond) : Option (List Bytes) := ((d_impl_copyTexts (a0_.pat.args)).bind fun y1 => (bif room (((y1).map tx).length + ([[D.str (a0_.left)], [D.str (a0_.right)]]).length) 16 then (some ((y1) ++ ([a0_.left, a0_.right]))) else none))
theorem d_impl_termsOf_good {a0_ : Cond} {r : List Bytes} (h : d_impl_termsOf a0_ = some r) : Good Try.prog 188 [D.agg (Cond.c a0_)] (D.fr 9 1 ((r).map tx)) := by
  refine Good.of (c := bodyOf Try.f188) Try.func188 rfl (by decide) (by simp [Try.f188]) ?_
  intro hr Γ hΓ
  have hΓ : Γ.nt = 13 := hΓ
  rw [d_impl_termsOf] at h
  refine (show AW Try.prog Γ (bodyOf Try.f188) (KQ Try.prog Γ (fun _ _ => False) (RetQ Try.prog Try.f188 (D.fr 9 1 ((r).map tx))) []) _ from ?_)
  obtain ⟨y1, h2, h⟩ := den_bind h
  obtain ⟨h3, h⟩ := den_ok h
  have h := den_some h
  subst h
  exact AW_go (n := 2000) [[some (9, 1)]] [.pro 2, .n 9, .d (D.fr 9 1 ((y1).map tx))] (.ret (D.fr 9 1 (((y1).map tx) ++ ([[D.str (a0_.left)], [D.str (a0_.right)]])))) hΓ mix (by kernel_rfl) (ow (d_impl_copyTexts_good h2) (ow (room_ok h3) ow0)) (by first | rfl | (simp only [List.map_append, List.map_cons, List.map_nil, List.map_set] <;> rfl))
def d_impl_CondVars (a0_ : Cond) : Option (List Bytes) := ((d_impl_termsOf (a0_)).bind fun y1 => ((d_impl_varsAmong (y1)).bind fun y3 => ((d_impl_SortedTexts (y3)).bind fun y5 => (some (y5)))))
theorem d_impl_CondVars_good {a0_ : Cond} {r : List Bytes} (h : d_impl_CondVars a0_ = some r) : Good Try.prog 149 [D.agg (Cond.c a0_)] (D.fr 9 1 ((r).map tx)) := by
  refine Good.of (c := bodyOf Try.f149) Try.func149 rfl (by decide) (by simp [Try.f149]) ?_
  intro hr Γ hΓ
  have hΓ : Γ.nt = 7 := hΓ
  rw [d_impl_CondVars] at h
  refine (show AW Try.prog Γ (bodyOf Try.f149) (KQ Try.prog Γ (fun _ _ => False) (RetQ Try.prog Try.f149 (D.fr 9 1 ((r).map tx))) []) _ from ?_)
  obtain ⟨y1, h2, h⟩ := den_bind h
  obtain ⟨y3, h4, h⟩ := den_bind h
  obtain ⟨y5, h6, h⟩ := den_bind h
  have h := den_some h
  subst h
  exact AW_go (n := 2000) [[some (9, 1)]] [.d (D.fr 9 1 ((y1).map tx)), .d (D.fr 9 1 ((y3).map tx)), .d (D.fr 9 1 ((y5).map tx))] (.ret (D.fr 9 1 ((y5).map tx))) hΓ mix (by kernel_rfl) (ow (d_impl_termsOf_good h2) (ow (d_impl_varsAmong_good h4) (ow (d_impl_SortedTexts_good h6) ow0))) rfl
def d_impl_condVarsOf_L1 (a0_ : List Cond) (k1 : List Bytes → Option (List Bytes)) : List Cond → Nat → List Bytes → Option (List Bytes)
  | [], i1, w1_0 => (k1 (w1_0))
  | x1_ :: xs1, i1, w1_0 => ((d_impl_CondVars (x1_)).bind fun y27 => (bif room (((w1_0).map tx).length + ((y27).map tx).length) 16 then (d_impl_condVarsOf_L1 a0_ k1 xs1 (i1 + 1) ((w1_0) ++ (y27))) else none))
def d_impl_condVarsOf (a0_ : List Cond) : Option (List Bytes) := (d_impl_condVarsOf_L1 a0_ (fun (q1_0 : List Bytes) => (some (q1_0))) (a0_) 0 (([] : List Bytes)))
theorem d_impl_condVarsOf_L1w {Γ : Ctx} (hΓ : Γ.nt = 18) {N : Nat → St → Prop} {a0_ : List Cond} {r : List Bytes} {k1 : List Bytes → Option (List Bytes)} (hE1 : ∀ (q1_0 : List Bytes), k1 q1_0 = some r → AW Try.prog Γ (dig (bodyOf Try.f94) [1, 1, 1] []).1 (KQ Try.prog Γ N (RetQ Try.prog Try.f94 (D.fr 9 1 ((r).map tx))) (dig (bodyOf Try.f94) [1, 1, 1] []).2) ⟨[(3, D.acc 0)], [Ob.row .uq 9 1 ((q1_0).map tx)]⟩) (hm1 : (a0_).length ≤ maxLen) : ∀ (rest : List Cond) (i1 : Nat) (w1_0 : List Bytes), (a0_).drop i1 = rest → d_impl_condVarsOf_L1 a0_ k1 rest i1 w1_0 = some r → AWr Try.prog Γ (dig (bodyOf Try.f94) [1, 1, 0, 1, 0, 0] []).1 (KQ Try.prog Γ N (RetQ Try.prog Try.f94 (D.fr 9 1 ((r).map tx))) (dig (bodyOf Try.f94) [1, 1, 0, 1, 0] []).2) (rest.length + 1) ⟨[(3, D.acc 0), (6, D.sl ((a0_).map Cond.c)), (7, D.int .i64 ((((a0_).map Cond.c).length : Int))), (8, D.int .i64 ((i1 : Int)))], [Ob.row .uq 9 1 ((w1_0).map tx)]⟩ := by
  intro rest
  induction rest with
  | nil =>
    intro i1 w1_0 hd1 h
    rw [d_impl_condVarsOf_L1] at h
    refine AWr_succ fun N1 hN1 hS1 => ?_
    have t := AW_N (N := N) (N' := N1) (K0 := (dig (bodyOf Try.f94) [1, 1, 0, 1, 0] []).2) (by kernel_rfl) hN1 (hE1 (w1_0) h)
    refine AW_go (n := 2000) [[some (9, 1)]] [.b false, .hl 0 [3] [0]] (.at_ (dig (bodyOf Try.f94) [1, 1, 1] []).1 (dig (bodyOf Try.f94) [1, 1, 1] []).2 ⟨[(3, D.acc 0)], [Ob.row .uq 9 1 ((w1_0).map tx)]⟩) hΓ mix (by kernel_rfl) (ow ((ltm_false Cond.c (drop_nil hd1))) ow0) ?_
    first | exact t | (simp only [List.map_append, List.map_cons, List.map_nil, List.map_set] at t ⊢; exact t)
  | cons x1_ xs1 ih1 =>
    intro i1 w1_0 hd1 h
    rw [d_impl_condVarsOf_L1] at h
    refine AWr_succ fun N1 hN1 hS1 => ?_
    obtain ⟨y27, h28, h⟩ := den_bind h
    obtain ⟨h29, h⟩ := den_ok h
    have t := ih1 (i1 + 1) ((w1_0) ++ (y27)) (drop_cons hd1).2.2 h
    refine AW_go (n := 2000) [[some (9, 1)]] [.b true, .row (Cond.c x1_), .d (D.fr 9 1 ((y27).map tx)), .cn [3, 6, 7, 8] [3]] (.cont 0 ⟨[(3, D.acc 0), (6, D.sl ((a0_).map Cond.c)), (7, D.int .i64 ((((a0_).map Cond.c).length : Int))), (8, D.int .i64 (IntKind.i64.wrap (((i1 : Int)) + (1))))], [Ob.row .uq 9 1 (((w1_0).map tx) ++ ((y27).map tx))]⟩) hΓ mix (by kernel_rfl) (ow ((ltm_true Cond.c (drop_cons hd1).2.1)) (ow (map_row Cond.c 5 (drop_cons hd1).1 rfl) (ow (d_impl_CondVars_good h28) (ow (room_ok h29) ow0)))) ?_
    refine (congrFun hS1 _).mpr ?_
    rw [i64_succ (drop_cons hd1).2.1 hm1]
    first | exact t | (simp only [List.map_append, List.map_cons, List.map_nil, List.map_set] at t ⊢; exact t)
theorem d_impl_condVarsOf_good {a0_ : List Cond} {r : List Bytes} (h : d_impl_condVarsOf a0_ = some r) : Good Try.prog 94 [D.sl ((a0_).map Cond.c)] (D.fr 9 1 ((r).map tx)) := by
  refine Good.of (c := bodyOf Try.f94) Try.func94 rfl (by decide) (by simp [Try.f94]) ?_
  intro hr Γ hΓ
  have hΓ : Γ.nt = 18 := hΓ
  rw [d_impl_condVarsOf] at h
  refine (show AW Try.prog Γ (bodyOf Try.f94) (KQ Try.prog Γ (fun _ _ => False) (RetQ Try.prog Try.f94 (D.fr 9 1 ((r).map tx))) []) _ from ?_)
  refine AW_go (n := 2000) [[some (9, 1)]] [.pro 3, .cn [3, 6, 7, 8] [0]] (.lp (dig (bodyOf Try.f94) [1, 1, 0, 1, 0, 0] []).1 (dig (bodyOf Try.f94) [1, 1, 0, 1, 0] []).2 ⟨[(3, D.acc 0), (6, D.sl ((a0_).map Cond.c)), (7, D.int .i64 ((((a0_).map Cond.c).length : Int))), (8, D.int .i64 (0))], [Ob.row .uq 9 1 (([] : List (List D)))]⟩) hΓ mix (by kernel_rfl) ow0 (AW_st (by first | rfl | (simp only [List.map_append, List.map_cons, List.map_nil, List.map_set, List.map_replicate] <;> rfl)) (AW_of_r (d_impl_condVarsOf_L1w hΓ (fun q1_0 h => ?_) (by have := (Rdb.sl (hr _ (List.mem_of_getElem? (i := 0) rfl))).1; simpa using this) (a0_) 0 (([] : List Bytes)) rfl h)))
  have h := den_some h
  subst h
  exact AW_go (n := 2000) [[some (9, 1)]] [] (.ret (D.fr 9 1 ((q1_0).map tx))) hΓ mix (by kernel_rfl) ow0 rfl
end Go.Cx
