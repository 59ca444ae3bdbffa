/- What functions of the program compute, and the walks that show it. No condition. -/
import Derived.Test.YtamlfpljmobdoaaDoorNLay
namespace Go.Cx
open Go.RowKit Go.Proofs
set_option linter.unusedVariables false
set_option linter.unusedSimpArgs false
set_option maxRecDepth 100000
def d_spec_l1Cmp (a0_ : Bytes) (a1_ : Bytes) : Option Int := (bif Op.bytesLess (a0_) (a1_) then (some (-1)) else (bif !(Op.bytesLess (a0_) (a1_) || (a0_ : Bytes) == (a1_)) then (some (1)) else (some (0))))
theorem d_spec_l1Cmp_good {a0_ : Bytes} {a1_ : Bytes} {r : Int} (h : d_spec_l1Cmp a0_ a1_ = some r) : Good Tryd.prog 53 [D.str (a0_), D.str (a1_)] (D.int .i64 (r)) := by
  refine Good.of (c := bodyOf Tryd.f53) Tryd.func53 rfl (by decide) (by simp [Tryd.f53]) ?_
  intro hr Γ hΓ
  have hΓ : Γ.nt = 13 := hΓ
  rw [d_spec_l1Cmp] at h
  refine (show AW Tryd.prog Γ (bodyOf Tryd.f53) (KQ Tryd.prog Γ (fun _ _ => False) (RetQ Tryd.prog Tryd.f53 (D.int .i64 (r))) []) _ from ?_)
  rcases den_if h with ⟨h1, h⟩ | ⟨h1, h⟩
  · have h := den_some h
    subst h
    exact AW_go (n := 2000) [[none]] [.b true] (.ret (D.int .i64 (-1))) hΓ mix (by kernel_rfl) (ow (h1) ow0) rfl
  · rcases den_if h with ⟨h2, h⟩ | ⟨h2, h⟩
    · have h := den_some h
      subst h
      exact AW_go (n := 2000) [[none]] [.b false, .b true] (.ret (D.int .i64 (1))) hΓ mix (by kernel_rfl) (ow (h1) (ow (h2) ow0)) rfl
    · have h := den_some h
      subst h
      exact AW_go (n := 2000) [[none]] [.b false, .b false] (.ret (D.int .i64 (0))) hΓ mix (by kernel_rfl) (ow (h1) (ow (h2) ow0)) rfl
def d_spec_l1In (a0_ : Int) (a1_ : Int) (a2_ : Int) : Option Bool := (bif decide ((a0_ : Int) ≥ (a1_)) then (some (decide ((a0_ : Int) ≤ (a2_)))) else (some (false)))
theorem d_spec_l1In_good {a0_ : Int} {a1_ : Int} {a2_ : Int} {r : Bool} (h : d_spec_l1In a0_ a1_ a2_ = some r) : Good Tryd.prog 30 [D.int .i64 (a0_), D.int .i64 (a1_), D.int .i64 (a2_)] (D.bool (r)) := by
  refine Good.of (c := bodyOf Tryd.f30) Tryd.func30 rfl (by decide) (by simp [Tryd.f30]) ?_
  intro hr Γ hΓ
  have hΓ : Γ.nt = 15 := hΓ
  rw [d_spec_l1In] at h
  refine (show AW Tryd.prog Γ (bodyOf Tryd.f30) (KQ Tryd.prog Γ (fun _ _ => False) (RetQ Tryd.prog Tryd.f30 (D.bool (r))) []) _ from ?_)
  rcases den_if h with ⟨h1, h⟩ | ⟨h1, h⟩
  · have h := den_some h
    subst h
    exact AW_go (n := 2000) [[none]] [.b true, .b true, .b true, .b true] (.ret (D.bool (decide ((a0_ : Int) ≤ (a2_))))) hΓ mix (by kernel_rfl) (ow (h1) (ow (h1) (ow (h1) (ow (h1) ow0)))) rfl
  · have h := den_some h
    subst h
    exact AW_go (n := 2000) [[none]] [.b false, .b false, .b false, .b false] (.ret (D.bool (false))) hΓ mix (by kernel_rfl) (ow (h1) (ow (h1) (ow (h1) (ow (h1) ow0)))) rfl
def d_spec_FormatInt_R_L1  (k1 : Option Bytes) : Nat → Int → Bytes → Option Bytes
  | 0, _, _ => none
  | n1 + 1, v1_0, v1_3 => (bif decide (0 ≤ (v1_0 : Int)) && decide (0 < (10 : Int)) then (bif decide (([UInt8.ofNat (IntKind.u8.wrap (IntKind.i64.wrap ((48) + ((v1_0 : Int) % (10))))).toNat] : Bytes).length + (v1_3 : Bytes).length ≤ maxLen) then (bif decide (0 ≤ (v1_0 : Int)) && decide (0 < (10 : Int)) then (bif ((v1_0 : Int) / (10) : Int) == (0) then (some (([UInt8.ofNat (IntKind.u8.wrap (IntKind.i64.wrap ((48) + ((v1_0 : Int) % (10))))).toNat]) ++ (v1_3))) else (d_spec_FormatInt_R_L1  k1 n1 ((v1_0 : Int) / (10)) (([UInt8.ofNat (IntKind.u8.wrap (IntKind.i64.wrap ((48) + ((v1_0 : Int) % (10))))).toNat]) ++ (v1_3)))) else none) else none) else none)
def d_spec_FormatInt_R : Nat → Int → Option Bytes
  | 0, _ => none
  | m_ + 1, a0_ => (bif (a0_ : Int) == (-9223372036854775808) then (some ([45, 57, 50, 50, 51, 51, 55, 50, 48, 51, 54, 56, 53, 52, 55, 55, 53, 56, 48, 56])) else (bif decide ((a0_ : Int) < (0)) then ((d_spec_FormatInt_R m_ (IntKind.i64.wrap (0 - (a0_)))).bind fun y3 => (bif decide (([45] : Bytes).length + (y3 : Bytes).length ≤ maxLen) then (some (([45]) ++ (y3))) else none)) else (d_spec_FormatInt_R_L1  none fuel (a0_) ([]))))
theorem d_spec_FormatInt_R_L1w {Γ : Ctx} (hΓ : Γ.nt = 25) {N : Nat → St → Prop}  {r : Bytes} {k1 : Option Bytes} (hE1 : k1 = some r → AW Tryd.prog Γ (dig (bodyOf Tryd.f41) [1, 1, 1, 1, 0, 0] []).1 (KQ Tryd.prog Γ N (RetQ Tryd.prog Tryd.f41 (D.str (r))) (dig (bodyOf Tryd.f41) [1, 1, 1, 1, 0, 0] []).2) ⟨[], []⟩) : ∀ (n1 : Nat) (v1_0 : Int) (v1_3 : Bytes), d_spec_FormatInt_R_L1  k1 n1 v1_0 v1_3 = some r → AWr Tryd.prog Γ (dig (bodyOf Tryd.f41) [1, 1, 1, 1, 0, 0] []).1 (KQ Tryd.prog Γ N (RetQ Tryd.prog Tryd.f41 (D.str (r))) (dig (bodyOf Tryd.f41) [1, 1, 1, 1, 0] []).2) n1 ⟨[(0, D.int .i64 (v1_0)), (3, D.str (v1_3))], []⟩ := by
  intro n
  induction n with
  | zero => intro v1_0 v1_3 h; simp [d_spec_FormatInt_R_L1] at h
  | succ n1 ih1 =>
    intro v1_0 v1_3 h
    rw [d_spec_FormatInt_R_L1] at h
    refine AWr_succ fun N1 hN1 hS1 => ?_
    obtain ⟨h14, h⟩ := den_ok h
    obtain ⟨h15, h⟩ := den_ok h
    obtain ⟨h16, h⟩ := den_ok h
    rcases den_if h with ⟨h17, h⟩ | ⟨h17, h⟩
    · have h := den_some h
      subst h
      exact AW_go (n := 2000) [[none]] [.b true] (.ret (D.str (([UInt8.ofNat (IntKind.u8.wrap (IntKind.i64.wrap ((48) + ((v1_0 : Int) % (10))))).toNat]) ++ (v1_3)))) hΓ mix (by kernel_rfl) (ow (quo_ok .i64 h14) (ow (of_decide_eq_true h15) (ow (quo_ok .i64 h16) (ow (h17) ow0)))) (by first | rfl | (simp only [List.map_append, List.map_cons, List.map_nil, List.map_set] <;> rfl))
    · have t := ih1 ((v1_0 : Int) / (10)) (([UInt8.ofNat (IntKind.u8.wrap (IntKind.i64.wrap ((48) + ((v1_0 : Int) % (10))))).toNat]) ++ (v1_3)) h
      refine AW_go (n := 2000) [[none]] [.b false, .cn [0, 3] []] (.cont 0 ⟨[(0, D.int .i64 ((v1_0 : Int) / (10))), (3, D.str (([UInt8.ofNat (IntKind.u8.wrap (IntKind.i64.wrap ((48) + ((v1_0 : Int) % (10))))).toNat]) ++ (v1_3)))], []⟩) hΓ mix (by kernel_rfl) (ow (quo_ok .i64 h14) (ow (of_decide_eq_true h15) (ow (quo_ok .i64 h16) (ow (h17) ow0)))) ?_
      refine (congrFun hS1 _).mpr ?_
      first | exact t | (simp only [List.map_append, List.map_cons, List.map_nil, List.map_set] at t ⊢; exact t)
theorem d_spec_FormatInt_R_step {m_ : Nat} (ihR : ∀ {a0_ : Int} {r : Bytes}, d_spec_FormatInt_R m_ a0_ = some r → Good Tryd.prog 41 [D.int .i64 (a0_)] (D.str (r))) {a0_ : Int} {r : Bytes} (h : d_spec_FormatInt_R (m_ + 1) a0_ = some r) : Good Tryd.prog 41 [D.int .i64 (a0_)] (D.str (r)) := by
  refine Good.of (c := bodyOf Tryd.f41) Tryd.func41 rfl (by decide) (by simp [Tryd.f41]) ?_
  intro hr Γ hΓ
  have hΓ : Γ.nt = 25 := hΓ
  rw [d_spec_FormatInt_R] at h
  refine (show AW Tryd.prog Γ (bodyOf Tryd.f41) (KQ Tryd.prog Γ (fun _ _ => False) (RetQ Tryd.prog Tryd.f41 (D.str (r))) []) _ from ?_)
  rcases den_if h with ⟨h1, h⟩ | ⟨h1, h⟩
  · have h := den_some h
    subst h
    exact AW_go (n := 2000) [[none]] [.b true] (.ret (D.str ([45, 57, 50, 50, 51, 51, 55, 50, 48, 51, 54, 56, 53, 52, 55, 55, 53, 56, 48, 56]))) hΓ mix (by kernel_rfl) (ow (h1) ow0) rfl
  · rcases den_if h with ⟨h2, h⟩ | ⟨h2, h⟩
    · obtain ⟨y3, h4, h⟩ := den_bind h
      obtain ⟨h5, h⟩ := den_ok h
      have h := den_some h
      subst h
      exact AW_go (n := 2000) [[none]] [.b false, .b true, .d (D.str (y3))] (.ret (D.str (([45]) ++ (y3)))) hΓ mix (by kernel_rfl) (ow (h1) (ow (h2) (ow (ihR h4) (ow (of_decide_eq_true h5) ow0)))) (by first | rfl | (simp only [List.map_append, List.map_cons, List.map_nil, List.map_set] <;> rfl))
    · refine AW_go (n := 2000) [[none]] [.b false, .b false, .cn [0, 3] []] (.lp (dig (bodyOf Tryd.f41) [1, 1, 1, 1, 0, 0] []).1 (dig (bodyOf Tryd.f41) [1, 1, 1, 1, 0] []).2 ⟨[(0, D.int .i64 (a0_)), (3, D.str ([]))], []⟩) hΓ mix (by kernel_rfl) (ow (h1) (ow (h2) ow0)) (AW_st (by first | rfl | (simp only [List.map_append, List.map_cons, List.map_nil, List.map_set, List.map_replicate] <;> rfl)) (AW_of_r (d_spec_FormatInt_R_L1w hΓ (fun h => ?_) fuel (a0_) ([]) h)))
      cases h
theorem d_spec_FormatInt_R_good : ∀ (m_ : Nat) {a0_ : Int} {r : Bytes}, d_spec_FormatInt_R m_ a0_ = some r → Good Tryd.prog 41 [D.int .i64 (a0_)] (D.str (r))
  | 0, _, _, h => by cases h
  | m_ + 1, _, _, h => d_spec_FormatInt_R_step (fun h => d_spec_FormatInt_R_good m_ h) h
def d_spec_FormatInt (a0_ : Int) : Option Bytes := d_spec_FormatInt_R fuel a0_
theorem d_spec_FormatInt_good {a0_ : Int} {r : Bytes} (h : d_spec_FormatInt a0_ = some r) : Good Tryd.prog 41 [D.int .i64 (a0_)] (D.str (r)) := d_spec_FormatInt_R_good fuel h
def d_spec_ParseInt_L1 (a0_ : Bytes) (k1 : Int → Option (Int × Bool)) : Nat → Int → Int → Option (Int × Bool)
  | 0, _, _ => none
  | n1 + 1, v1_4, v1_5 => (bif decide ((v1_5 : Int) < (((a0_).length : Int))) then ((atI (a0_) (v1_5)).bind fun b25 => (bif decide ((b25.toNat : Int) < (48)) then (some ((0, false))) else (bif decide ((b25.toNat : Int) > (57)) then (some ((0, false))) else (d_spec_ParseInt_L1 a0_ k1 n1 (IntKind.i64.wrap ((IntKind.i64.wrap ((10) * (v1_4))) + (IntKind.i64.wrap (IntKind.u8.wrap ((b25.toNat) - (48)))))) (IntKind.i64.wrap ((v1_5) + (1))))))) else (k1 (v1_4)))
def d_spec_ParseInt (a0_ : Bytes) : Option (Int × Bool) := ((d_spec_l1In (((a0_).length : Int)) (1) (4)).bind fun y1 => (bif !(y1) then (some ((0, false))) else (d_spec_ParseInt_L1 a0_ (fun (z1_4 : Int) => ((d_spec_FormatInt (z1_4)).bind fun y29 => (bif !((y29 : Bytes) == (a0_)) then (some ((0, false))) else (some ((z1_4, true)))))) fuel (0) (0))))
theorem d_spec_ParseInt_L1w {Γ : Ctx} (hΓ : Γ.nt = 39) {N : Nat → St → Prop} {a0_ : Bytes} {r : Int × Bool} {k1 : Int → Option (Int × Bool)} (hE1 : ∀ (z1_4 : Int), k1 z1_4 = some r → AW Tryd.prog Γ (dig (bodyOf Tryd.f75) [1, 1, 1, 1] []).1 (KQ Tryd.prog Γ N (RetQ Tryd.prog Tryd.f75 (D.tup [D.int .i64 (r.1), D.bool (r.2)])) (dig (bodyOf Tryd.f75) [1, 1, 1, 1] []).2) ⟨[(0, D.str (a0_)), (4, D.int .i64 (z1_4))], []⟩) : ∀ (n1 : Nat) (v1_4 : Int) (v1_5 : Int), d_spec_ParseInt_L1 a0_ k1 n1 v1_4 v1_5 = some r → AWr Tryd.prog Γ (dig (bodyOf Tryd.f75) [1, 1, 1, 0, 1, 0, 0] []).1 (KQ Tryd.prog Γ N (RetQ Tryd.prog Tryd.f75 (D.tup [D.int .i64 (r.1), D.bool (r.2)])) (dig (bodyOf Tryd.f75) [1, 1, 1, 0, 1, 0] []).2) n1 ⟨[(0, D.str (a0_)), (4, D.int .i64 (v1_4)), (5, D.int .i64 (v1_5))], []⟩ := by
  intro n
  induction n with
  | zero => intro v1_4 v1_5 h; simp [d_spec_ParseInt_L1] at h
  | succ n1 ih1 =>
    intro v1_4 v1_5 h
    rw [d_spec_ParseInt_L1] at h
    refine AWr_succ fun N1 hN1 hS1 => ?_
    rcases den_if h with ⟨h24, h⟩ | ⟨h24, h⟩
    · obtain ⟨b25, h26, h⟩ := den_bind h
      rcases den_if h with ⟨h27, h⟩ | ⟨h27, h⟩
      · have h := den_some h
        subst h
        exact AW_go (n := 2000) [[none], [none]] [.b true, .ch b25, .b true, .b true, .b true, .b true, .b true, .b true] (.ret (D.tup [D.int .i64 (0), D.bool (false)])) hΓ mix (by kernel_rfl) (ow (h24) (ow (at_str h26) (ow (h27) (ow (h27) (ow (h27) (ow (h27) (ow (h27) (ow (show (true) = true from rfl) ow0)))))))) rfl
      · rcases den_if h with ⟨h28, h⟩ | ⟨h28, h⟩
        · have h := den_some h
          subst h
          exact AW_go (n := 2000) [[none], [none]] [.b true, .ch b25, .b false, .b false, .b false, .ch b25, .b false, .b false, .b true] (.ret (D.tup [D.int .i64 (0), D.bool (false)])) hΓ mix (by kernel_rfl) (ow (h24) (ow (at_str h26) (ow (h27) (ow (h27) (ow (h27) (ow (at_str h26) (ow (h27) (ow (h27) (ow (h28) ow0))))))))) rfl
        · have t := ih1 (IntKind.i64.wrap ((IntKind.i64.wrap ((10) * (v1_4))) + (IntKind.i64.wrap (IntKind.u8.wrap ((b25.toNat) - (48)))))) (IntKind.i64.wrap ((v1_5) + (1))) h
          refine AW_go (n := 2000) [[none], [none]] [.b true, .ch b25, .b false, .b false, .b false, .ch b25, .b false, .b false, .b false, .ch b25, .cn [0, 4, 5] []] (.cont 0 ⟨[(0, D.str (a0_)), (4, D.int .i64 (IntKind.i64.wrap ((IntKind.i64.wrap ((10) * (v1_4))) + (IntKind.i64.wrap (IntKind.u8.wrap ((b25.toNat) - (48))))))), (5, D.int .i64 (IntKind.i64.wrap ((v1_5) + (1))))], []⟩) hΓ mix (by kernel_rfl) (ow (h24) (ow (at_str h26) (ow (h27) (ow (h27) (ow (h27) (ow (at_str h26) (ow (h27) (ow (h27) (ow (h28) (ow (at_str h26) ow0)))))))))) ?_
          refine (congrFun hS1 _).mpr ?_
          first | exact t | (simp only [List.map_append, List.map_cons, List.map_nil, List.map_set] at t ⊢; exact t)
    · have t := AW_N (N := N) (N' := N1) (K0 := (dig (bodyOf Tryd.f75) [1, 1, 1, 0, 1, 0] []).2) (by kernel_rfl) hN1 (hE1 (v1_4) h)
      refine AW_go (n := 2000) [[none], [none]] [.b false, .hl 0 [0, 4] []] (.at_ (dig (bodyOf Tryd.f75) [1, 1, 1, 1] []).1 (dig (bodyOf Tryd.f75) [1, 1, 1, 1] []).2 ⟨[(0, D.str (a0_)), (4, D.int .i64 (v1_4))], []⟩) hΓ mix (by kernel_rfl) (ow (h24) ow0) ?_
      first | exact t | (simp only [List.map_append, List.map_cons, List.map_nil, List.map_set] at t ⊢; exact t)
theorem d_spec_ParseInt_good {a0_ : Bytes} {r : Int × Bool} (h : d_spec_ParseInt a0_ = some r) : Good Tryd.prog 75 [D.str (a0_)] (D.tup [D.int .i64 (r.1), D.bool (r.2)]) := by
  refine Good.of (c := bodyOf Tryd.f75) Tryd.func75 rfl (by decide) (by simp [Tryd.f75]) ?_
  intro hr Γ hΓ
  have hΓ : Γ.nt = 39 := hΓ
  rw [d_spec_ParseInt] at h
  refine (show AW Tryd.prog Γ (bodyOf Tryd.f75) (KQ Tryd.prog Γ (fun _ _ => False) (RetQ Tryd.prog Tryd.f75 (D.tup [D.int .i64 (r.1), D.bool (r.2)])) []) _ from ?_)
  obtain ⟨y1, h2, h⟩ := den_bind h
  rcases den_if h with ⟨h3, h⟩ | ⟨h3, h⟩
  · have h := den_some h
    subst h
    exact AW_go (n := 2000) [[none], [none]] [.d (D.bool (y1)), .b true] (.ret (D.tup [D.int .i64 (0), D.bool (false)])) hΓ mix (by kernel_rfl) (ow (d_spec_l1In_good h2) (ow (h3) ow0)) rfl
  · refine AW_go (n := 2000) [[none], [none]] [.d (D.bool (y1)), .b false, .cn [0, 4, 5] []] (.lp (dig (bodyOf Tryd.f75) [1, 1, 1, 0, 1, 0, 0] []).1 (dig (bodyOf Tryd.f75) [1, 1, 1, 0, 1, 0] []).2 ⟨[(0, D.str (a0_)), (4, D.int .i64 (0)), (5, D.int .i64 (0))], []⟩) hΓ mix (by kernel_rfl) (ow (d_spec_l1In_good h2) (ow (h3) ow0)) (AW_st (by first | rfl | (simp only [List.map_append, List.map_cons, List.map_nil, List.map_set, List.map_replicate] <;> rfl)) (AW_of_r (d_spec_ParseInt_L1w hΓ (fun z1_4 h => ?_) fuel (0) (0) h)))
    obtain ⟨y29, h30, h⟩ := den_bind h
    rcases den_if h with ⟨h31, h⟩ | ⟨h31, h⟩
    · have h := den_some h
      subst h
      exact AW_go (n := 2000) [[none], [none]] [.d (D.str (y29)), .b true] (.ret (D.tup [D.int .i64 (0), D.bool (false)])) hΓ mix (by kernel_rfl) (ow (d_spec_FormatInt_good h30) (ow (h31) ow0)) rfl
    · have h := den_some h
      subst h
      exact AW_go (n := 2000) [[none], [none]] [.d (D.str (y29)), .b false] (.ret (D.tup [D.int .i64 (z1_4), D.bool (true)])) hΓ mix (by kernel_rfl) (ow (d_spec_FormatInt_good h30) (ow (h31) ow0)) rfl
def d_spec_CompareAtoms (a0_ : Bytes) (a1_ : Bytes) : Option Int := ((d_spec_ParseInt (a0_)).bind fun y1 => ((d_spec_ParseInt (a1_)).bind fun y3 => (bif y1.2 then (bif y3.2 then (bif decide ((y1.1 : Int) < (y3.1)) then (some (-1)) else (bif !(y3.2) then (some (-1)) else (bif decide ((y1.1 : Int) > (y3.1)) then (some (1)) else (bif !(y1.2) then (some (1)) else (some (0)))))) else (bif !(y3.2) then (some (-1)) else (some (0)))) else (bif y3.2 then (bif !(y1.2) then (some (1)) else ((d_spec_l1Cmp (a0_) (a1_)).bind fun y14 => (some (y14)))) else ((d_spec_l1Cmp (a0_) (a1_)).bind fun y16 => (some (y16)))))))
theorem d_spec_CompareAtoms_good {a0_ : Bytes} {a1_ : Bytes} {r : Int} (h : d_spec_CompareAtoms a0_ a1_ = some r) : Good Tryd.prog 54 [D.str (a0_), D.str (a1_)] (D.int .i64 (r)) := by
  refine Good.of (c := bodyOf Tryd.f54) Tryd.func54 rfl (by decide) (by simp [Tryd.f54]) ?_
  intro hr Γ hΓ
  have hΓ : Γ.nt = 54 := hΓ
  rw [d_spec_CompareAtoms] at h
  refine (show AW Tryd.prog Γ (bodyOf Tryd.f54) (KQ Tryd.prog Γ (fun _ _ => False) (RetQ Tryd.prog Tryd.f54 (D.int .i64 (r))) []) _ from ?_)
  obtain ⟨y1, h2, h⟩ := den_bind h
  obtain ⟨y3, h4, h⟩ := den_bind h
  rcases den_if h with ⟨h5, h⟩ | ⟨h5, h⟩
  · rcases den_if h with ⟨h6, h⟩ | ⟨h6, h⟩
    · rcases den_if h with ⟨h7, h⟩ | ⟨h7, h⟩
      · have h := den_some h
        subst h
        exact AW_go (n := 2000) [[none]] [.d (D.tup [D.int .i64 (y1.1), D.bool (y1.2)]), .d (D.tup [D.int .i64 (y3.1), D.bool (y3.2)]), .b true, .b true, .b true, .b true, .b true, .b true, .b true, .b true] (.ret (D.int .i64 (-1))) hΓ mix (by kernel_rfl) (ow (d_spec_ParseInt_good h2) (ow (d_spec_ParseInt_good h4) (ow (h5) (ow (h5) (ow (h6) (ow (h6) (ow (h6) (ow (h6) (ow (h7) (ow (h7) ow0)))))))))) rfl
      · rcases den_if h with ⟨h8, h⟩ | ⟨h8, h⟩
        · have h := den_some h
          subst h
          exact AW_go (n := 2000) [[none]] [.d (D.tup [D.int .i64 (y1.1), D.bool (y1.2)]), .d (D.tup [D.int .i64 (y3.1), D.bool (y3.2)]), .b true, .b true, .b true, .b true, .b true, .b true, .b false, .b true, .b true, .b true, .b true] (.ret (D.int .i64 (-1))) hΓ mix (by kernel_rfl) (ow (d_spec_ParseInt_good h2) (ow (d_spec_ParseInt_good h4) (ow (h5) (ow (h5) (ow (h6) (ow (h6) (ow (h6) (ow (h6) (ow (h7) (ow (h5) (ow (h5) (ow (h5) (ow (h8) ow0))))))))))))) rfl
        · rcases den_if h with ⟨h9, h⟩ | ⟨h9, h⟩
          · have h := den_some h
            subst h
            exact AW_go (n := 2000) [[none]] [.d (D.tup [D.int .i64 (y1.1), D.bool (y1.2)]), .d (D.tup [D.int .i64 (y3.1), D.bool (y3.2)]), .b true, .b true, .b true, .b true, .b true, .b true, .b false, .b true, .b true, .b true, .b false, .b true, .b true, .b true, .b true, .b true, .b true, .b true, .b true] (.ret (D.int .i64 (1))) hΓ mix (by kernel_rfl) (ow (d_spec_ParseInt_good h2) (ow (d_spec_ParseInt_good h4) (ow (h5) (ow (h5) (ow (h6) (ow (h6) (ow (h6) (ow (h6) (ow (h7) (ow (h5) (ow (h5) (ow (h5) (ow (h8) (ow (h5) (ow (h5) (ow (h6) (ow (h6) (ow (h6) (ow (h6) (ow (h9) (ow (h9) ow0))))))))))))))))))))) rfl
          · rcases den_if h with ⟨h10, h⟩ | ⟨h10, h⟩
            · have h := den_some h
              subst h
              exact AW_go (n := 2000) [[none]] [.d (D.tup [D.int .i64 (y1.1), D.bool (y1.2)]), .d (D.tup [D.int .i64 (y3.1), D.bool (y3.2)]), .b true, .b true, .b true, .b true, .b true, .b true, .b false, .b true, .b true, .b true, .b false, .b true, .b true, .b true, .b true, .b true, .b true, .b false, .b true, .b true, .b true, .b true] (.ret (D.int .i64 (1))) hΓ mix (by kernel_rfl) (ow (d_spec_ParseInt_good h2) (ow (d_spec_ParseInt_good h4) (ow (h5) (ow (h5) (ow (h6) (ow (h6) (ow (h6) (ow (h6) (ow (h7) (ow (h5) (ow (h5) (ow (h5) (ow (h8) (ow (h5) (ow (h5) (ow (h6) (ow (h6) (ow (h6) (ow (h6) (ow (h9) (ow (h6) (ow (h6) (ow (h6) (ow (h10) ow0)))))))))))))))))))))))) rfl
            · have h := den_some h
              subst h
              exact AW_go (n := 2000) [[none]] [.d (D.tup [D.int .i64 (y1.1), D.bool (y1.2)]), .d (D.tup [D.int .i64 (y3.1), D.bool (y3.2)]), .b true, .b true, .b true, .b true, .b true, .b true, .b false, .b true, .b true, .b true, .b false, .b true, .b true, .b true, .b true, .b true, .b true, .b false, .b true, .b true, .b true, .b false, .b true] (.ret (D.int .i64 (0))) hΓ mix (by kernel_rfl) (ow (d_spec_ParseInt_good h2) (ow (d_spec_ParseInt_good h4) (ow (h5) (ow (h5) (ow (h6) (ow (h6) (ow (h6) (ow (h6) (ow (h7) (ow (h5) (ow (h5) (ow (h5) (ow (h8) (ow (h5) (ow (h5) (ow (h6) (ow (h6) (ow (h6) (ow (h6) (ow (h9) (ow (h6) (ow (h6) (ow (h6) (ow (h10) (ow (h5) ow0))))))))))))))))))))))))) rfl
    · rcases den_if h with ⟨h11, h⟩ | ⟨h11, h⟩
      · have h := den_some h
        subst h
        exact AW_go (n := 2000) [[none]] [.d (D.tup [D.int .i64 (y1.1), D.bool (y1.2)]), .d (D.tup [D.int .i64 (y3.1), D.bool (y3.2)]), .b true, .b true, .b false, .b false, .b false, .b false, .b false, .b true, .b true, .b true, .b true] (.ret (D.int .i64 (-1))) hΓ mix (by kernel_rfl) (ow (d_spec_ParseInt_good h2) (ow (d_spec_ParseInt_good h4) (ow (h5) (ow (h5) (ow (h6) (ow (h6) (ow (h6) (ow (h6) (ow (show (false) = false from rfl) (ow (h5) (ow (h5) (ow (h5) (ow (h11) ow0))))))))))))) rfl
      · have h := den_some h
        subst h
        exact AW_go (n := 2000) [[none]] [.d (D.tup [D.int .i64 (y1.1), D.bool (y1.2)]), .d (D.tup [D.int .i64 (y3.1), D.bool (y3.2)]), .b true, .b true, .b false, .b false, .b false, .b false, .b false, .b true, .b true, .b true, .b false, .b true, .b true, .b false, .b false, .b false, .b false, .b false, .b false, .b false, .b false, .b false, .b true] (.ret (D.int .i64 (0))) hΓ mix (by kernel_rfl) (ow (d_spec_ParseInt_good h2) (ow (d_spec_ParseInt_good h4) (ow (h5) (ow (h5) (ow (h6) (ow (h6) (ow (h6) (ow (h6) (ow (show (false) = false from rfl) (ow (h5) (ow (h5) (ow (h5) (ow (h11) (ow (h5) (ow (h5) (ow (h6) (ow (h6) (ow (h6) (ow (h6) (ow (show (false) = false from rfl) (ow (h6) (ow (h6) (ow (h6) (ow (show (false) = false from rfl) (ow (h5) ow0))))))))))))))))))))))))) rfl
  · rcases den_if h with ⟨h12, h⟩ | ⟨h12, h⟩
    · rcases den_if h with ⟨h13, h⟩ | ⟨h13, h⟩
      · have h := den_some h
        subst h
        exact AW_go (n := 2000) [[none]] [.d (D.tup [D.int .i64 (y1.1), D.bool (y1.2)]), .d (D.tup [D.int .i64 (y3.1), D.bool (y3.2)]), .b false, .b false, .b false, .b false, .b false, .b false, .b false, .b false, .b false, .b false, .b false, .b false, .b false, .b false, .b false, .b false, .b false, .b false, .b true, .b true, .b true, .b true] (.ret (D.int .i64 (1))) hΓ mix (by kernel_rfl) (ow (d_spec_ParseInt_good h2) (ow (d_spec_ParseInt_good h4) (ow (h5) (ow (h5) (ow (show (false) = false from rfl) (ow (show (false) = false from rfl) (ow (show (false) = false from rfl) (ow (show (false) = false from rfl) (ow (show (false) = false from rfl) (ow (h5) (ow (h5) (ow (h5) (ow (show (false) = false from rfl) (ow (h5) (ow (h5) (ow (show (false) = false from rfl) (ow (show (false) = false from rfl) (ow (show (false) = false from rfl) (ow (show (false) = false from rfl) (ow (show (false) = false from rfl) (ow (h12) (ow (h12) (ow (h12) (ow (h13) ow0)))))))))))))))))))))))) rfl
      · obtain ⟨y14, h15, h⟩ := den_bind h
        have h := den_some h
        subst h
        exact AW_go (n := 2000) [[none]] [.d (D.tup [D.int .i64 (y1.1), D.bool (y1.2)]), .d (D.tup [D.int .i64 (y3.1), D.bool (y3.2)]), .b false, .b false, .b false, .b false, .b false, .b false, .b false, .b false, .b false, .b false, .b false, .b false, .b false, .b false, .b false, .b false, .b false, .b false, .b true, .b true, .b true, .b false, .b false, .d (D.int .i64 (y14))] (.ret (D.int .i64 (y14))) hΓ mix (by kernel_rfl) (ow (d_spec_ParseInt_good h2) (ow (d_spec_ParseInt_good h4) (ow (h5) (ow (h5) (ow (show (false) = false from rfl) (ow (show (false) = false from rfl) (ow (show (false) = false from rfl) (ow (show (false) = false from rfl) (ow (show (false) = false from rfl) (ow (h5) (ow (h5) (ow (h5) (ow (show (false) = false from rfl) (ow (h5) (ow (h5) (ow (show (false) = false from rfl) (ow (show (false) = false from rfl) (ow (show (false) = false from rfl) (ow (show (false) = false from rfl) (ow (show (false) = false from rfl) (ow (h12) (ow (h12) (ow (h12) (ow (h13) (ow (h5) (ow (d_spec_l1Cmp_good h15) ow0)))))))))))))))))))))))))) rfl
    · obtain ⟨y16, h17, h⟩ := den_bind h
      have h := den_some h
      subst h
      exact AW_go (n := 2000) [[none]] [.d (D.tup [D.int .i64 (y1.1), D.bool (y1.2)]), .d (D.tup [D.int .i64 (y3.1), D.bool (y3.2)]), .b false, .b false, .b false, .b false, .b false, .b false, .b false, .b false, .b false, .b false, .b false, .b false, .b false, .b false, .b false, .b false, .b false, .b false, .b false, .b false, .b false, .b false, .b false, .d (D.int .i64 (y16))] (.ret (D.int .i64 (y16))) hΓ mix (by kernel_rfl) (ow (d_spec_ParseInt_good h2) (ow (d_spec_ParseInt_good h4) (ow (h5) (ow (h5) (ow (show (false) = false from rfl) (ow (show (false) = false from rfl) (ow (show (false) = false from rfl) (ow (show (false) = false from rfl) (ow (show (false) = false from rfl) (ow (h5) (ow (h5) (ow (h5) (ow (show (false) = false from rfl) (ow (h5) (ow (h5) (ow (show (false) = false from rfl) (ow (show (false) = false from rfl) (ow (show (false) = false from rfl) (ow (show (false) = false from rfl) (ow (show (false) = false from rfl) (ow (h12) (ow (h12) (ow (h12) (ow (show (false) = false from rfl) (ow (h5) (ow (d_spec_l1Cmp_good h17) ow0)))))))))))))))))))))))))) rfl
def d_spec_CompareFacts_L1 (a0_ : Fact) (a1_ : Fact) (k1 : Option Int) : List Bytes → Nat → Option Int
  | [], i1 => (k1 )
  | x1_ :: xs1, i1 => (bif decide (((i1 : Int) : Int) < ((((a1_.args).map tx).length : Int))) then ((atI (a1_.args) ((i1 : Int))).bind fun x37 => ((d_spec_CompareAtoms (x1_) (x37)).bind fun y39 => (bif (y39 : Int) != (0) then (some (y39)) else (d_spec_CompareFacts_L1 a0_ a1_ k1 xs1 (i1 + 1) )))) else (k1 ))
def d_spec_CompareFacts (a0_ : Fact) (a1_ : Fact) : Option Int := (bif !((a0_.rel : Bytes) == (a1_.rel)) then ((d_spec_l1Cmp (a0_.rel) (a1_.rel)).bind fun y2 => (some (y2))) else (d_spec_CompareFacts_L1 a0_ a1_ (bif decide (((((a0_.args).map tx).length : Int) : Int) < ((((a1_.args).map tx).length : Int))) then (some (-1)) else (bif decide (((((a0_.args).map tx).length : Int) : Int) > ((((a1_.args).map tx).length : Int))) then (some (1)) else (some (0)))) (a0_.args) 0 ))
theorem d_spec_CompareFacts_L1w {Γ : Ctx} (hΓ : Γ.nt = 61) {N : Nat → St → Prop} {a0_ : Fact} {a1_ : Fact} {r : Int} {k1 : Option Int} (hE1 : k1 = some r → AW Tryd.prog Γ (dig (bodyOf Tryd.f23) [1, 1, 1] []).1 (KQ Tryd.prog Γ N (RetQ Tryd.prog Tryd.f23 (D.int .i64 (r))) (dig (bodyOf Tryd.f23) [1, 1, 1] []).2) ⟨[(2, D.ptr 0 0), (3, D.ptr 1 0)], [Ob.box (Fact.c a0_), Ob.box (Fact.c a1_)]⟩) (hm1 : (a0_.args).length ≤ maxLen) : ∀ (rest : List Bytes) (i1 : Nat) , (a0_.args).drop i1 = rest → d_spec_CompareFacts_L1 a0_ a1_ k1 rest i1  = some r → AWr Tryd.prog Γ (dig (bodyOf Tryd.f23) [1, 1, 0, 1, 0, 0] []).1 (KQ Tryd.prog Γ N (RetQ Tryd.prog Tryd.f23 (D.int .i64 (r))) (dig (bodyOf Tryd.f23) [1, 1, 0, 1, 0] []).2) (rest.length + 1) ⟨[(2, D.ptr 0 0), (3, D.ptr 1 0), (5, D.int .i64 ((i1 : Int)))], [Ob.box (Fact.c a0_), Ob.box (Fact.c a1_)]⟩ := by
  intro rest
  induction rest with
  | nil =>
    intro i1  hd1 h
    rw [d_spec_CompareFacts_L1] at h
    refine AWr_succ fun N1 hN1 hS1 => ?_
    have t := AW_N (N := N) (N' := N1) (K0 := (dig (bodyOf Tryd.f23) [1, 1, 0, 1, 0] []).2) (by kernel_rfl) hN1 (hE1  h)
    refine AW_go (n := 2000) [[none]] [.b false, .b false, .b false, .b false, .b false, .b false, .b false, .hl 0 [2, 3] [0, 1]] (.at_ (dig (bodyOf Tryd.f23) [1, 1, 1] []).1 (dig (bodyOf Tryd.f23) [1, 1, 1] []).2 ⟨[(2, D.ptr 0 0), (3, D.ptr 1 0)], [Ob.box (Fact.c a0_), Ob.box (Fact.c a1_)]⟩) hΓ mix (by kernel_rfl) (ow ((ltm_false tx (drop_nil hd1))) (ow ((ltm_false tx (drop_nil hd1))) (ow ((ltm_false tx (drop_nil hd1))) (ow ((ltm_false tx (drop_nil hd1))) (ow ((ltm_false tx (drop_nil hd1))) (ow ((ltm_false tx (drop_nil hd1))) (ow (show (false) = false from rfl) ow0))))))) ?_
    first | exact t | (simp only [List.map_append, List.map_cons, List.map_nil, List.map_set] at t ⊢; exact t)
  | cons x1_ xs1 ih1 =>
    intro i1  hd1 h
    rw [d_spec_CompareFacts_L1] at h
    refine AWr_succ fun N1 hN1 hS1 => ?_
    rcases den_if h with ⟨h36, h⟩ | ⟨h36, h⟩
    · obtain ⟨x37, h38, h⟩ := den_bind h
      obtain ⟨y39, h40, h⟩ := den_bind h
      rcases den_if h with ⟨h41, h⟩ | ⟨h41, h⟩
      · have h := den_some h
        subst h
        exact AW_go (n := 2000) [[none]] [.b true, .b true, .b true, .b true, .b true, .b true, .b true, .n 10, .row (tx x1_), .row (tx x37), .d (D.int .i64 (y39)), .b true] (.ret (D.int .i64 (y39))) hΓ mix (by kernel_rfl) (ow ((ltm_true tx (drop_cons hd1).2.1)) (ow ((ltm_true tx (drop_cons hd1).2.1)) (ow ((ltm_true tx (drop_cons hd1).2.1)) (ow ((ltm_true tx (drop_cons hd1).2.1)) (ow ((ltm_true tx (drop_cons hd1).2.1)) (ow ((ltm_true tx (drop_cons hd1).2.1)) (ow (h36) (ow (map_row tx 1 (drop_cons hd1).1 rfl) (ow (at_row tx 1 h38 rfl) (ow (d_spec_CompareAtoms_good h40) (ow (h41) ow0))))))))))) rfl
      · have t := ih1 (i1 + 1)  (drop_cons hd1).2.2 h
        refine AW_go (n := 2000) [[none]] [.b true, .b true, .b true, .b true, .b true, .b true, .b true, .n 10, .row (tx x1_), .row (tx x37), .d (D.int .i64 (y39)), .b false, .cn [2, 3, 5] [0, 1]] (.cont 0 ⟨[(2, D.ptr 0 0), (3, D.ptr 1 0), (5, D.int .i64 (IntKind.i64.wrap (((i1 : Int)) + (1))))], [Ob.box (Fact.c a0_), Ob.box (Fact.c a1_)]⟩) hΓ mix (by kernel_rfl) (ow ((ltm_true tx (drop_cons hd1).2.1)) (ow ((ltm_true tx (drop_cons hd1).2.1)) (ow ((ltm_true tx (drop_cons hd1).2.1)) (ow ((ltm_true tx (drop_cons hd1).2.1)) (ow ((ltm_true tx (drop_cons hd1).2.1)) (ow ((ltm_true tx (drop_cons hd1).2.1)) (ow (h36) (ow (map_row tx 1 (drop_cons hd1).1 rfl) (ow (at_row tx 1 h38 rfl) (ow (d_spec_CompareAtoms_good h40) (ow (h41) ow0))))))))))) ?_
        refine (congrFun hS1 _).mpr ?_
        rw [i64_succ (drop_cons hd1).2.1 hm1]
        first | exact t | (simp only [List.map_append, List.map_cons, List.map_nil, List.map_set] at t ⊢; exact t)
    · have t := AW_N (N := N) (N' := N1) (K0 := (dig (bodyOf Tryd.f23) [1, 1, 0, 1, 0] []).2) (by kernel_rfl) hN1 (hE1  h)
      refine AW_go (n := 2000) [[none]] [.b true, .b true, .b true, .b true, .b true, .b true, .b false, .hl 0 [2, 3] [0, 1]] (.at_ (dig (bodyOf Tryd.f23) [1, 1, 1] []).1 (dig (bodyOf Tryd.f23) [1, 1, 1] []).2 ⟨[(2, D.ptr 0 0), (3, D.ptr 1 0)], [Ob.box (Fact.c a0_), Ob.box (Fact.c a1_)]⟩) hΓ mix (by kernel_rfl) (ow ((ltm_true tx (drop_cons hd1).2.1)) (ow ((ltm_true tx (drop_cons hd1).2.1)) (ow ((ltm_true tx (drop_cons hd1).2.1)) (ow ((ltm_true tx (drop_cons hd1).2.1)) (ow ((ltm_true tx (drop_cons hd1).2.1)) (ow ((ltm_true tx (drop_cons hd1).2.1)) (ow (h36) ow0))))))) ?_
      first | exact t | (simp only [List.map_append, List.map_cons, List.map_nil, List.map_set] at t ⊢; exact t)
theorem d_spec_CompareFacts_good {a0_ : Fact} {a1_ : Fact} {r : Int} (h : d_spec_CompareFacts a0_ a1_ = some r) : Good Tryd.prog 23 [D.agg (Fact.c a0_), D.agg (Fact.c a1_)] (D.int .i64 (r)) := by
  refine Good.of (c := bodyOf Tryd.f23) Tryd.func23 rfl (by decide) (by simp [Tryd.f23]) ?_
  intro hr Γ hΓ
  have hΓ : Γ.nt = 61 := hΓ
  rw [d_spec_CompareFacts] at h
  refine (show AW Tryd.prog Γ (bodyOf Tryd.f23) (KQ Tryd.prog Γ (fun _ _ => False) (RetQ Tryd.prog Tryd.f23 (D.int .i64 (r))) []) _ from ?_)
  rcases den_if h with ⟨h1, h⟩ | ⟨h1, h⟩
  · obtain ⟨y2, h3, h⟩ := den_bind h
    have h := den_some h
    subst h
    exact AW_go (n := 2000) [[none]] [.b true, .d (D.int .i64 (y2))] (.ret (D.int .i64 (y2))) hΓ mix (by kernel_rfl) (ow (h1) (ow (d_spec_l1Cmp_good h3) ow0)) rfl
  · refine AW_go (n := 2000) [[none]] [.b false, .cn [2, 3, 5] [0, 1]] (.lp (dig (bodyOf Tryd.f23) [1, 1, 0, 1, 0, 0] []).1 (dig (bodyOf Tryd.f23) [1, 1, 0, 1, 0] []).2 ⟨[(2, D.ptr 0 0), (3, D.ptr 1 0), (5, D.int .i64 (0))], [Ob.box (Fact.c a0_), Ob.box (Fact.c a1_)]⟩) hΓ mix (by kernel_rfl) (ow (h1) ow0) (AW_st (by first | rfl | (simp only [List.map_append, List.map_cons, List.map_nil, List.map_set, List.map_replicate] <;> rfl)) (AW_of_r (d_spec_CompareFacts_L1w hΓ (fun h => ?_) (by have := (Rdb.sl (Rdb.agg (hr _ (List.mem_of_getElem? (i := 0) rfl)) (.sl ((a0_.args).map tx)) (by simp))).1; simpa using this) (a0_.args) 0  rfl h)))
    rcases den_if h with ⟨h42, h⟩ | ⟨h42, h⟩
    · have h := den_some h
      subst h
      exact AW_go (n := 2000) [[none]] [.b true] (.ret (D.int .i64 (-1))) hΓ mix (by kernel_rfl) (ow (h42) ow0) rfl
    · rcases den_if h with ⟨h43, h⟩ | ⟨h43, h⟩
      · have h := den_some h
        subst h
        exact AW_go (n := 2000) [[none]] [.b false, .b true] (.ret (D.int .i64 (1))) hΓ mix (by kernel_rfl) (ow (h42) (ow (h43) ow0)) rfl
      · have h := den_some h
        subst h
        exact AW_go (n := 2000) [[none]] [.b false, .b false] (.ret (D.int .i64 (0))) hΓ mix (by kernel_rfl) (ow (h42) (ow (h43) ow0)) rfl
def d_spec_CompareTokens_L1 (a0_ : Token) (a1_ : Token) (k1 : Option Int) : List Fact → Nat → Option Int
  | [], i1 => (k1 )
  | x1_ :: xs1, i1 => (bif decide (((i1 : Int) : Int) < ((((a1_.facts).map Fact.c).length : Int))) then ((atI (a1_.facts) ((i1 : Int))).bind fun x34 => ((d_spec_CompareFacts (x1_) (x34)).bind fun y36 => (bif (y36 : Int) != (0) then (some (y36)) else (d_spec_CompareTokens_L1 a0_ a1_ k1 xs1 (i1 + 1) )))) else (k1 ))
def d_spec_CompareTokens (a0_ : Token) (a1_ : Token) : Option Int := (d_spec_CompareTokens_L1 a0_ a1_ (bif decide (((((a0_.facts).map Fact.c).length : Int) : Int) < ((((a1_.facts).map Fact.c).length : Int))) then (some (-1)) else (bif decide (((((a0_.facts).map Fact.c).length : Int) : Int) > ((((a1_.facts).map Fact.c).length : Int))) then (some (1)) else (some (0)))) (a0_.facts) 0 )
theorem d_spec_CompareTokens_L1w {Γ : Ctx} (hΓ : Γ.nt = 51) {N : Nat → St → Prop} {a0_ : Token} {a1_ : Token} {r : Int} {k1 : Option Int} (hE1 : k1 = some r → AW Tryd.prog Γ (dig (bodyOf Tryd.f7) [1, 1] []).1 (KQ Tryd.prog Γ N (RetQ Tryd.prog Tryd.f7 (D.int .i64 (r))) (dig (bodyOf Tryd.f7) [1, 1] []).2) ⟨[(2, D.ptr 0 0), (3, D.ptr 1 0)], [Ob.box (Token.c a0_), Ob.box (Token.c a1_)]⟩) (hm1 : (a0_.facts).length ≤ maxLen) : ∀ (rest : List Fact) (i1 : Nat) , (a0_.facts).drop i1 = rest → d_spec_CompareTokens_L1 a0_ a1_ k1 rest i1  = some r → AWr Tryd.prog Γ (dig (bodyOf Tryd.f7) [1, 0, 1, 0, 0] []).1 (KQ Tryd.prog Γ N (RetQ Tryd.prog Tryd.f7 (D.int .i64 (r))) (dig (bodyOf Tryd.f7) [1, 0, 1, 0] []).2) (rest.length + 1) ⟨[(2, D.ptr 0 0), (3, D.ptr 1 0), (5, D.int .i64 ((i1 : Int)))], [Ob.box (Token.c a0_), Ob.box (Token.c a1_)]⟩ := by
  intro rest
  induction rest with
  | nil =>
    intro i1  hd1 h
    rw [d_spec_CompareTokens_L1] at h
    refine AWr_succ fun N1 hN1 hS1 => ?_
    have t := AW_N (N := N) (N' := N1) (K0 := (dig (bodyOf Tryd.f7) [1, 0, 1, 0] []).2) (by kernel_rfl) hN1 (hE1  h)
    refine AW_go (n := 2000) [[none]] [.b false, .b false, .b false, .b false, .b false, .b false, .b false, .hl 0 [2, 3] [0, 1]] (.at_ (dig (bodyOf Tryd.f7) [1, 1] []).1 (dig (bodyOf Tryd.f7) [1, 1] []).2 ⟨[(2, D.ptr 0 0), (3, D.ptr 1 0)], [Ob.box (Token.c a0_), Ob.box (Token.c a1_)]⟩) hΓ mix (by kernel_rfl) (ow ((ltm_false Fact.c (drop_nil hd1))) (ow ((ltm_false Fact.c (drop_nil hd1))) (ow ((ltm_false Fact.c (drop_nil hd1))) (ow ((ltm_false Fact.c (drop_nil hd1))) (ow ((ltm_false Fact.c (drop_nil hd1))) (ow ((ltm_false Fact.c (drop_nil hd1))) (ow (show (false) = false from rfl) ow0))))))) ?_
    first | exact t | (simp only [List.map_append, List.map_cons, List.map_nil, List.map_set] at t ⊢; exact t)
  | cons x1_ xs1 ih1 =>
    intro i1  hd1 h
    rw [d_spec_CompareTokens_L1] at h
    refine AWr_succ fun N1 hN1 hS1 => ?_
    rcases den_if h with ⟨h33, h⟩ | ⟨h33, h⟩
    · obtain ⟨x34, h35, h⟩ := den_bind h
      obtain ⟨y36, h37, h⟩ := den_bind h
      rcases den_if h with ⟨h38, h⟩ | ⟨h38, h⟩
      · have h := den_some h
        subst h
        exact AW_go (n := 2000) [[none]] [.b true, .b true, .b true, .b true, .b true, .b true, .b true, .n 10, .row (Fact.c x1_), .row (Fact.c x34), .d (D.int .i64 (y36)), .b true] (.ret (D.int .i64 (y36))) hΓ mix (by kernel_rfl) (ow ((ltm_true Fact.c (drop_cons hd1).2.1)) (ow ((ltm_true Fact.c (drop_cons hd1).2.1)) (ow ((ltm_true Fact.c (drop_cons hd1).2.1)) (ow ((ltm_true Fact.c (drop_cons hd1).2.1)) (ow ((ltm_true Fact.c (drop_cons hd1).2.1)) (ow ((ltm_true Fact.c (drop_cons hd1).2.1)) (ow (h33) (ow (map_row Fact.c 2 (drop_cons hd1).1 rfl) (ow (at_row Fact.c 2 h35 rfl) (ow (d_spec_CompareFacts_good h37) (ow (h38) ow0))))))))))) rfl
      · have t := ih1 (i1 + 1)  (drop_cons hd1).2.2 h
        refine AW_go (n := 2000) [[none]] [.b true, .b true, .b true, .b true, .b true, .b true, .b true, .n 10, .row (Fact.c x1_), .row (Fact.c x34), .d (D.int .i64 (y36)), .b false, .cn [2, 3, 5] [0, 1]] (.cont 0 ⟨[(2, D.ptr 0 0), (3, D.ptr 1 0), (5, D.int .i64 (IntKind.i64.wrap (((i1 : Int)) + (1))))], [Ob.box (Token.c a0_), Ob.box (Token.c a1_)]⟩) hΓ mix (by kernel_rfl) (ow ((ltm_true Fact.c (drop_cons hd1).2.1)) (ow ((ltm_true Fact.c (drop_cons hd1).2.1)) (ow ((ltm_true Fact.c (drop_cons hd1).2.1)) (ow ((ltm_true Fact.c (drop_cons hd1).2.1)) (ow ((ltm_true Fact.c (drop_cons hd1).2.1)) (ow ((ltm_true Fact.c (drop_cons hd1).2.1)) (ow (h33) (ow (map_row Fact.c 2 (drop_cons hd1).1 rfl) (ow (at_row Fact.c 2 h35 rfl) (ow (d_spec_CompareFacts_good h37) (ow (h38) ow0))))))))))) ?_
        refine (congrFun hS1 _).mpr ?_
        rw [i64_succ (drop_cons hd1).2.1 hm1]
        first | exact t | (simp only [List.map_append, List.map_cons, List.map_nil, List.map_set] at t ⊢; exact t)
    · have t := AW_N (N := N) (N' := N1) (K0 := (dig (bodyOf Tryd.f7) [1, 0, 1, 0] []).2) (by kernel_rfl) hN1 (hE1  h)
      refine AW_go (n := 2000) [[none]] [.b true, .b true, .b true, .b true, .b true, .b true, .b false, .hl 0 [2, 3] [0, 1]] (.at_ (dig (bodyOf Tryd.f7) [1, 1] []).1 (dig (bodyOf Tryd.f7) [1, 1] []).2 ⟨[(2, D.ptr 0 0), (3, D.ptr 1 0)], [Ob.box (Token.c a0_), Ob.box (Token.c a1_)]⟩) hΓ mix (by kernel_rfl) (ow ((ltm_true Fact.c (drop_cons hd1).2.1)) (ow ((ltm_true Fact.c (drop_cons hd1).2.1)) (ow ((ltm_true Fact.c (drop_cons hd1).2.1)) (ow ((ltm_true Fact.c (drop_cons hd1).2.1)) (ow ((ltm_true Fact.c (drop_cons hd1).2.1)) (ow ((ltm_true Fact.c (drop_cons hd1).2.1)) (ow (h33) ow0))))))) ?_
      first | exact t | (simp only [List.map_append, List.map_cons, List.map_nil, List.map_set] at t ⊢; exact t)
theorem d_spec_CompareTokens_good {a0_ : Token} {a1_ : Token} {r : Int} (h : d_spec_CompareTokens a0_ a1_ = some r) : Good Tryd.prog 7 [D.agg (Token.c a0_), D.agg (Token.c a1_)] (D.int .i64 (r)) := by
  refine Good.of (c := bodyOf Tryd.f7) Tryd.func7 rfl (by decide) (by simp [Tryd.f7]) ?_
  intro hr Γ hΓ
  have hΓ : Γ.nt = 51 := hΓ
  rw [d_spec_CompareTokens] at h
  refine (show AW Tryd.prog Γ (bodyOf Tryd.f7) (KQ Tryd.prog Γ (fun _ _ => False) (RetQ Tryd.prog Tryd.f7 (D.int .i64 (r))) []) _ from ?_)
  refine AW_go (n := 2000) [[none]] [.cn [2, 3, 5] [0, 1]] (.lp (dig (bodyOf Tryd.f7) [1, 0, 1, 0, 0] []).1 (dig (bodyOf Tryd.f7) [1, 0, 1, 0] []).2 ⟨[(2, D.ptr 0 0), (3, D.ptr 1 0), (5, D.int .i64 (0))], [Ob.box (Token.c a0_), Ob.box (Token.c a1_)]⟩) hΓ mix (by kernel_rfl) ow0 (AW_st (by first | rfl | (simp only [List.map_append, List.map_cons, List.map_nil, List.map_set, List.map_replicate] <;> rfl)) (AW_of_r (d_spec_CompareTokens_L1w hΓ (fun h => ?_) (by have := (Rdb.sl (Rdb.agg (hr _ (List.mem_of_getElem? (i := 0) rfl)) (.sl ((a0_.facts).map Fact.c)) (by simp))).1; simpa using this) (a0_.facts) 0  rfl h)))
  rcases den_if h with ⟨h39, h⟩ | ⟨h39, h⟩
  · have h := den_some h
    subst h
    exact AW_go (n := 2000) [[none]] [.b true] (.ret (D.int .i64 (-1))) hΓ mix (by kernel_rfl) (ow (h39) ow0) rfl
  · rcases den_if h with ⟨h40, h⟩ | ⟨h40, h⟩
    · have h := den_some h
      subst h
      exact AW_go (n := 2000) [[none]] [.b false, .b true] (.ret (D.int .i64 (1))) hΓ mix (by kernel_rfl) (ow (h39) (ow (h40) ow0)) rfl
    · have h := den_some h
      subst h
      exact AW_go (n := 2000) [[none]] [.b false, .b false] (.ret (D.int .i64 (0))) hΓ mix (by kernel_rfl) (ow (h39) (ow (h40) ow0)) rfl
def d_impl_FormatInt (a0_ : Int) : Option Bytes := ((d_strconv_Itoa (a0_)).bind fun y1 => (some (y1)))
theorem d_impl_FormatInt_good {a0_ : Int} {r : Bytes} (h : d_impl_FormatInt a0_ = some r) : Good Tryd.prog 47 [D.int .i64 (a0_)] (D.str (r)) := by
  refine Good.of (c := bodyOf Tryd.f47) Tryd.func47 rfl (by decide) (by simp [Tryd.f47]) ?_
  intro hr Γ hΓ
  have hΓ : Γ.nt = 5 := hΓ
  rw [d_impl_FormatInt] at h
  refine (show AW Tryd.prog Γ (bodyOf Tryd.f47) (KQ Tryd.prog Γ (fun _ _ => False) (RetQ Tryd.prog Tryd.f47 (D.str (r))) []) _ from ?_)
  obtain ⟨y1, h2, h⟩ := den_bind h
  have h := den_some h
  subst h
  exact AW_go (n := 2000) [[none]] [.d (D.str (y1))] (.ret (D.str (y1))) hΓ mix (by kernel_rfl) (ow (d_strconv_Itoa_good h2) ow0) rfl
def d_impl_ParseInt (a0_ : Bytes) : Option (Int × Bool) := (bif decide ((((a0_).length : Int) : Int) < (1)) then (some ((0, false))) else (bif decide ((((a0_).length : Int) : Int) > (4)) then (some ((0, false))) else ((d_strconv_Atoi (a0_)).bind fun y3 => (bif y3.2 then (some ((0, false))) else (bif decide ((y3.1 : Int) < (0)) then (some ((0, false))) else (bif decide ((y3.1 : Int) > (9999)) then (some ((0, false))) else ((d_impl_FormatInt (y3.1)).bind fun y8 => (bif !((y8 : Bytes) == (a0_)) then (some ((0, false))) else (some ((y3.1, true)))))))))))
theorem d_impl_ParseInt_good {a0_ : Bytes} {r : Int × Bool} (h : d_impl_ParseInt a0_ = some r) : Good Tryd.prog 93 [D.str (a0_)] (D.tup [D.int .i64 (r.1), D.bool (r.2)]) := by
  refine Good.of (c := bodyOf Tryd.f93) Tryd.func93 rfl (by decide) (by simp [Tryd.f93]) ?_
  intro hr Γ hΓ
  have hΓ : Γ.nt = 36 := hΓ
  rw [d_impl_ParseInt] at h
  refine (show AW Tryd.prog Γ (bodyOf Tryd.f93) (KQ Tryd.prog Γ (fun _ _ => False) (RetQ Tryd.prog Tryd.f93 (D.tup [D.int .i64 (r.1), D.bool (r.2)])) []) _ from ?_)
  rcases den_if h with ⟨h1, h⟩ | ⟨h1, h⟩
  · have h := den_some h
    subst h
    exact AW_go (n := 2000) [[none], [none]] [.b true, .b true, .b true, .b true, .b true] (.ret (D.tup [D.int .i64 (0), D.bool (false)])) hΓ mix (by kernel_rfl) (ow (h1) (ow (h1) (ow (h1) (ow (h1) (ow (show (true) = true from rfl) ow0))))) rfl
  · rcases den_if h with ⟨h2, h⟩ | ⟨h2, h⟩
    · have h := den_some h
      subst h
      exact AW_go (n := 2000) [[none], [none]] [.b false, .b false, .b false, .b false, .b true] (.ret (D.tup [D.int .i64 (0), D.bool (false)])) hΓ mix (by kernel_rfl) (ow (h1) (ow (h1) (ow (h1) (ow (h1) (ow (h2) ow0))))) rfl
    · obtain ⟨y3, h4, h⟩ := den_bind h
      rcases den_if h with ⟨h5, h⟩ | ⟨h5, h⟩
      · have h := den_some h
        subst h
        exact AW_go (n := 2000) [[none], [none]] [.b false, .b false, .b false, .b false, .b false, .d (D.tup [D.int .i64 (y3.1), D.ifc (y3.2)]), .b true, .b true, .b true, .b true, .b true, .b true, .b true, .b true, .b true, .b true, .b true, .b true] (.ret (D.tup [D.int .i64 (0), D.bool (false)])) hΓ mix (by kernel_rfl) (ow (h1) (ow (h1) (ow (h1) (ow (h1) (ow (h2) (ow (d_strconv_Atoi_good h4) (ow (h5) (ow (h5) (ow (h5) (ow (show (true) = true from rfl) (ow (show (true) = true from rfl) (ow (show (true) = true from rfl) (ow (show (true) = true from rfl) (ow (show (true) = true from rfl) (ow (show (true) = true from rfl) (ow (show (true) = true from rfl) (ow (show (true) = true from rfl) (ow (show (true) = true from rfl) ow0)))))))))))))))))) rfl
      · rcases den_if h with ⟨h6, h⟩ | ⟨h6, h⟩
        · have h := den_some h
          subst h
          exact AW_go (n := 2000) [[none], [none]] [.b false, .b false, .b false, .b false, .b false, .d (D.tup [D.int .i64 (y3.1), D.ifc (y3.2)]), .b false, .b false, .b false, .b true, .b true, .b true, .b true, .b true, .b true, .b true, .b true, .b true] (.ret (D.tup [D.int .i64 (0), D.bool (false)])) hΓ mix (by kernel_rfl) (ow (h1) (ow (h1) (ow (h1) (ow (h1) (ow (h2) (ow (d_strconv_Atoi_good h4) (ow (h5) (ow (h5) (ow (h5) (ow (h6) (ow (h6) (ow (h6) (ow (show (true) = true from rfl) (ow (show (true) = true from rfl) (ow (show (true) = true from rfl) (ow (show (true) = true from rfl) (ow (show (true) = true from rfl) (ow (show (true) = true from rfl) ow0)))))))))))))))))) rfl
        · rcases den_if h with ⟨h7, h⟩ | ⟨h7, h⟩
          · have h := den_some h
            subst h
            exact AW_go (n := 2000) [[none], [none]] [.b false, .b false, .b false, .b false, .b false, .d (D.tup [D.int .i64 (y3.1), D.ifc (y3.2)]), .b false, .b false, .b false, .b false, .b false, .b false, .b true, .b true, .b true, .b true, .b true, .b true] (.ret (D.tup [D.int .i64 (0), D.bool (false)])) hΓ mix (by kernel_rfl) (ow (h1) (ow (h1) (ow (h1) (ow (h1) (ow (h2) (ow (d_strconv_Atoi_good h4) (ow (h5) (ow (h5) (ow (h5) (ow (h6) (ow (h6) (ow (h6) (ow (h7) (ow (h7) (ow (h7) (ow (h7) (ow (h7) (ow (show (true) = true from rfl) ow0)))))))))))))))))) rfl
          · obtain ⟨y8, h9, h⟩ := den_bind h
            rcases den_if h with ⟨h10, h⟩ | ⟨h10, h⟩
            · have h := den_some h
              subst h
              exact AW_go (n := 2000) [[none], [none]] [.b false, .b false, .b false, .b false, .b false, .d (D.tup [D.int .i64 (y3.1), D.ifc (y3.2)]), .b false, .b false, .b false, .b false, .b false, .b false, .b false, .b false, .d (D.str (y8)), .b false, .b false, .b false, .b true] (.ret (D.tup [D.int .i64 (0), D.bool (false)])) hΓ mix (by kernel_rfl) (ow (h1) (ow (h1) (ow (h1) (ow (h1) (ow (h2) (ow (d_strconv_Atoi_good h4) (ow (h5) (ow (h5) (ow (h5) (ow (h6) (ow (h6) (ow (h6) (ow (h7) (ow (h7) (ow (d_impl_FormatInt_good h9) (ow (h7) (ow (h7) (ow (h7) (ow (h10) ow0))))))))))))))))))) rfl
            · have h := den_some h
              subst h
              exact AW_go (n := 2000) [[none], [none]] [.b false, .b false, .b false, .b false, .b false, .d (D.tup [D.int .i64 (y3.1), D.ifc (y3.2)]), .b false, .b false, .b false, .b false, .b false, .b false, .b false, .b false, .d (D.str (y8)), .b false, .b false, .b false, .b false] (.ret (D.tup [D.int .i64 (y3.1), D.bool (true)])) hΓ mix (by kernel_rfl) (ow (h1) (ow (h1) (ow (h1) (ow (h1) (ow (h2) (ow (d_strconv_Atoi_good h4) (ow (h5) (ow (h5) (ow (h5) (ow (h6) (ow (h6) (ow (h6) (ow (h7) (ow (h7) (ow (d_impl_FormatInt_good h9) (ow (h7) (ow (h7) (ow (h7) (ow (h10) ow0))))))))))))))))))) rfl
def d_impl_compareInts (a0_ : Int) (a1_ : Int) : Option Int := (bif decide ((a0_ : Int) < (a1_)) then (some (-1)) else (bif decide ((a0_ : Int) > (a1_)) then (some (1)) else (some (0))))
theorem d_impl_compareInts_good {a0_ : Int} {a1_ : Int} {r : Int} (h : d_impl_compareInts a0_ a1_ = some r) : Good Tryd.prog 58 [D.int .i64 (a0_), D.int .i64 (a1_)] (D.int .i64 (r)) := by
  refine Good.of (c := bodyOf Tryd.f58) Tryd.func58 rfl (by decide) (by simp [Tryd.f58]) ?_
  intro hr Γ hΓ
  have hΓ : Γ.nt = 13 := hΓ
  rw [d_impl_compareInts] at h
  refine (show AW Tryd.prog Γ (bodyOf Tryd.f58) (KQ Tryd.prog Γ (fun _ _ => False) (RetQ Tryd.prog Tryd.f58 (D.int .i64 (r))) []) _ from ?_)
  rcases den_if h with ⟨h1, h⟩ | ⟨h1, h⟩
  · have h := den_some h
    subst h
    exact AW_go (n := 2000) [[none]] [.b true] (.ret (D.int .i64 (-1))) hΓ mix (by kernel_rfl) (ow (h1) ow0) rfl
  · rcases den_if h with ⟨h2, h⟩ | ⟨h2, h⟩
    · have h := den_some h
      subst h
      exact AW_go (n := 2000) [[none]] [.b false, .b true] (.ret (D.int .i64 (1))) hΓ mix (by kernel_rfl) (ow (h1) (ow (h2) ow0)) rfl
    · have h := den_some h
      subst h
      exact AW_go (n := 2000) [[none]] [.b false, .b false] (.ret (D.int .i64 (0))) hΓ mix (by kernel_rfl) (ow (h1) (ow (h2) ow0)) rfl
def d_impl_CompareAtoms (a0_ : Bytes) (a1_ : Bytes) : Option Int := ((d_impl_ParseInt (a0_)).bind fun y1 => ((d_impl_ParseInt (a1_)).bind fun y3 => (bif y1.2 then (bif y3.2 then ((d_impl_compareInts (y1.1) (y3.1)).bind fun y7 => (some (y7))) else (some (-1))) else (bif y3.2 then (some (1)) else ((d_strings_Compare (a0_) (a1_)).bind fun y10 => (some (y10)))))))
theorem d_impl_CompareAtoms_good {a0_ : Bytes} {a1_ : Bytes} {r : Int} (h : d_impl_CompareAtoms a0_ a1_ = some r) : Good Tryd.prog 78 [D.str (a0_), D.str (a1_)] (D.int .i64 (r)) := by
  refine Good.of (c := bodyOf Tryd.f78) Tryd.func78 rfl (by decide) (by simp [Tryd.f78]) ?_
  intro hr Γ hΓ
  have hΓ : Γ.nt = 34 := hΓ
  rw [d_impl_CompareAtoms] at h
  refine (show AW Tryd.prog Γ (bodyOf Tryd.f78) (KQ Tryd.prog Γ (fun _ _ => False) (RetQ Tryd.prog Tryd.f78 (D.int .i64 (r))) []) _ from ?_)
  obtain ⟨y1, h2, h⟩ := den_bind h
  obtain ⟨y3, h4, h⟩ := den_bind h
  rcases den_if h with ⟨h5, h⟩ | ⟨h5, h⟩
  · rcases den_if h with ⟨h6, h⟩ | ⟨h6, h⟩
    · obtain ⟨y7, h8, h⟩ := den_bind h
      have h := den_some h
      subst h
      exact AW_go (n := 2000) [[none]] [.d (D.tup [D.int .i64 (y1.1), D.bool (y1.2)]), .d (D.tup [D.int .i64 (y3.1), D.bool (y3.2)]), .b true, .b true, .b true, .d (D.int .i64 (y7))] (.ret (D.int .i64 (y7))) hΓ mix (by kernel_rfl) (ow (d_impl_ParseInt_good h2) (ow (d_impl_ParseInt_good h4) (ow (h5) (ow (h5) (ow (h6) (ow (d_impl_compareInts_good h8) ow0)))))) rfl
    · have h := den_some h
      subst h
      exact AW_go (n := 2000) [[none]] [.d (D.tup [D.int .i64 (y1.1), D.bool (y1.2)]), .d (D.tup [D.int .i64 (y3.1), D.bool (y3.2)]), .b true, .b true, .b false, .b true] (.ret (D.int .i64 (-1))) hΓ mix (by kernel_rfl) (ow (d_impl_ParseInt_good h2) (ow (d_impl_ParseInt_good h4) (ow (h5) (ow (h5) (ow (h6) (ow (h5) ow0)))))) rfl
  · rcases den_if h with ⟨h9, h⟩ | ⟨h9, h⟩
    · have h := den_some h
      subst h
      exact AW_go (n := 2000) [[none]] [.d (D.tup [D.int .i64 (y1.1), D.bool (y1.2)]), .d (D.tup [D.int .i64 (y3.1), D.bool (y3.2)]), .b false, .b false, .b false, .b false, .b true] (.ret (D.int .i64 (1))) hΓ mix (by kernel_rfl) (ow (d_impl_ParseInt_good h2) (ow (d_impl_ParseInt_good h4) (ow (h5) (ow (h5) (ow (show (false) = false from rfl) (ow (h5) (ow (h9) ow0))))))) rfl
    · obtain ⟨y10, h11, h⟩ := den_bind h
      have h := den_some h
      subst h
      exact AW_go (n := 2000) [[none]] [.d (D.tup [D.int .i64 (y1.1), D.bool (y1.2)]), .d (D.tup [D.int .i64 (y3.1), D.bool (y3.2)]), .b false, .b false, .b false, .b false, .b false, .d (D.int .i64 (y10))] (.ret (D.int .i64 (y10))) hΓ mix (by kernel_rfl) (ow (d_impl_ParseInt_good h2) (ow (d_impl_ParseInt_good h4) (ow (h5) (ow (h5) (ow (show (false) = false from rfl) (ow (h5) (ow (h9) (ow (d_strings_Compare_good h11) ow0)))))))) rfl
def d_impl_CompareFacts_L1 (a0_ : Fact) (a1_ : Fact) (k1 : Option Int) : List Bytes → Nat → Option Int
  | [], i1 => (k1 )
  | x1_ :: xs1, i1 => (bif decide (((i1 : Int) : Int) < ((((a1_.args).map tx).length : Int))) then ((atI (a1_.args) ((i1 : Int))).bind fun x37 => ((d_impl_CompareAtoms (x1_) (x37)).bind fun y39 => (bif (y39 : Int) != (0) then (some (y39)) else (d_impl_CompareFacts_L1 a0_ a1_ k1 xs1 (i1 + 1) )))) else (k1 ))
def d_impl_CompareFacts (a0_ : Fact) (a1_ : Fact) : Option Int := ((d_strings_Compare (a0_.rel) (a1_.rel)).bind fun y1 => (bif (y1 : Int) != (0) then (some (y1)) else (d_impl_CompareFacts_L1 a0_ a1_ ((d_impl_compareInts ((((a0_.args).map tx).length : Int)) ((((a1_.args).map tx).length : Int))).bind fun y42 => (some (y42))) (a0_.args) 0 )))
theorem d_impl_CompareFacts_L1w {Γ : Ctx} (hΓ : Γ.nt = 51) {N : Nat → St → Prop} {a0_ : Fact} {a1_ : Fact} {r : Int} {k1 : Option Int} (hE1 : k1 = some r → AW Tryd.prog Γ (dig (bodyOf Tryd.f57) [1, 1, 1] []).1 (KQ Tryd.prog Γ N (RetQ Tryd.prog Tryd.f57 (D.int .i64 (r))) (dig (bodyOf Tryd.f57) [1, 1, 1] []).2) ⟨[(2, D.ptr 0 0), (3, D.ptr 1 0)], [Ob.box (Fact.c a0_), Ob.box (Fact.c a1_)]⟩) (hm1 : (a0_.args).length ≤ maxLen) : ∀ (rest : List Bytes) (i1 : Nat) , (a0_.args).drop i1 = rest → d_impl_CompareFacts_L1 a0_ a1_ k1 rest i1  = some r → AWr Tryd.prog Γ (dig (bodyOf Tryd.f57) [1, 1, 0, 1, 0, 0] []).1 (KQ Tryd.prog Γ N (RetQ Tryd.prog Tryd.f57 (D.int .i64 (r))) (dig (bodyOf Tryd.f57) [1, 1, 0, 1, 0] []).2) (rest.length + 1) ⟨[(2, D.ptr 0 0), (3, D.ptr 1 0), (6, D.int .i64 ((i1 : Int)))], [Ob.box (Fact.c a0_), Ob.box (Fact.c a1_)]⟩ := by
  intro rest
  induction rest with
  | nil =>
    intro i1  hd1 h
    rw [d_impl_CompareFacts_L1] at h
    refine AWr_succ fun N1 hN1 hS1 => ?_
    have t := AW_N (N := N) (N' := N1) (K0 := (dig (bodyOf Tryd.f57) [1, 1, 0, 1, 0] []).2) (by kernel_rfl) hN1 (hE1  h)
    refine AW_go (n := 2000) [[none]] [.b false, .b false, .b false, .b false, .b false, .b false, .b false, .hl 0 [2, 3] [0, 1]] (.at_ (dig (bodyOf Tryd.f57) [1, 1, 1] []).1 (dig (bodyOf Tryd.f57) [1, 1, 1] []).2 ⟨[(2, D.ptr 0 0), (3, D.ptr 1 0)], [Ob.box (Fact.c a0_), Ob.box (Fact.c a1_)]⟩) hΓ mix (by kernel_rfl) (ow ((ltm_false tx (drop_nil hd1))) (ow ((ltm_false tx (drop_nil hd1))) (ow ((ltm_false tx (drop_nil hd1))) (ow ((ltm_false tx (drop_nil hd1))) (ow ((ltm_false tx (drop_nil hd1))) (ow ((ltm_false tx (drop_nil hd1))) (ow (show (false) = false from rfl) ow0))))))) ?_
    first | exact t | (simp only [List.map_append, List.map_cons, List.map_nil, List.map_set] at t ⊢; exact t)
  | cons x1_ xs1 ih1 =>
    intro i1  hd1 h
    rw [d_impl_CompareFacts_L1] at h
    refine AWr_succ fun N1 hN1 hS1 => ?_
    rcases den_if h with ⟨h36, h⟩ | ⟨h36, h⟩
    · obtain ⟨x37, h38, h⟩ := den_bind h
      obtain ⟨y39, h40, h⟩ := den_bind h
      rcases den_if h with ⟨h41, h⟩ | ⟨h41, h⟩
      · have h := den_some h
        subst h
        exact AW_go (n := 2000) [[none]] [.b true, .b true, .b true, .b true, .b true, .b true, .b true, .n 10, .row (tx x1_), .row (tx x37), .d (D.int .i64 (y39)), .b true] (.ret (D.int .i64 (y39))) hΓ mix (by kernel_rfl) (ow ((ltm_true tx (drop_cons hd1).2.1)) (ow ((ltm_true tx (drop_cons hd1).2.1)) (ow ((ltm_true tx (drop_cons hd1).2.1)) (ow ((ltm_true tx (drop_cons hd1).2.1)) (ow ((ltm_true tx (drop_cons hd1).2.1)) (ow ((ltm_true tx (drop_cons hd1).2.1)) (ow (h36) (ow (map_row tx 1 (drop_cons hd1).1 rfl) (ow (at_row tx 1 h38 rfl) (ow (d_impl_CompareAtoms_good h40) (ow (h41) ow0))))))))))) rfl
      · have t := ih1 (i1 + 1)  (drop_cons hd1).2.2 h
        refine AW_go (n := 2000) [[none]] [.b true, .b true, .b true, .b true, .b true, .b true, .b true, .n 10, .row (tx x1_), .row (tx x37), .d (D.int .i64 (y39)), .b false, .cn [2, 3, 6] [0, 1]] (.cont 0 ⟨[(2, D.ptr 0 0), (3, D.ptr 1 0), (6, D.int .i64 (IntKind.i64.wrap (((i1 : Int)) + (1))))], [Ob.box (Fact.c a0_), Ob.box (Fact.c a1_)]⟩) hΓ mix (by kernel_rfl) (ow ((ltm_true tx (drop_cons hd1).2.1)) (ow ((ltm_true tx (drop_cons hd1).2.1)) (ow ((ltm_true tx (drop_cons hd1).2.1)) (ow ((ltm_true tx (drop_cons hd1).2.1)) (ow ((ltm_true tx (drop_cons hd1).2.1)) (ow ((ltm_true tx (drop_cons hd1).2.1)) (ow (h36) (ow (map_row tx 1 (drop_cons hd1).1 rfl) (ow (at_row tx 1 h38 rfl) (ow (d_impl_CompareAtoms_good h40) (ow (h41) ow0))))))))))) ?_
        refine (congrFun hS1 _).mpr ?_
        rw [i64_succ (drop_cons hd1).2.1 hm1]
        first | exact t | (simp only [List.map_append, List.map_cons, List.map_nil, List.map_set] at t ⊢; exact t)
    · have t := AW_N (N := N) (N' := N1) (K0 := (dig (bodyOf Tryd.f57) [1, 1, 0, 1, 0] []).2) (by kernel_rfl) hN1 (hE1  h)
      refine AW_go (n := 2000) [[none]] [.b true, .b true, .b true, .b true, .b true, .b true, .b false, .hl 0 [2, 3] [0, 1]] (.at_ (dig (bodyOf Tryd.f57) [1, 1, 1] []).1 (dig (bodyOf Tryd.f57) [1, 1, 1] []).2 ⟨[(2, D.ptr 0 0), (3, D.ptr 1 0)], [Ob.box (Fact.c a0_), Ob.box (Fact.c a1_)]⟩) hΓ mix (by kernel_rfl) (ow ((ltm_true tx (drop_cons hd1).2.1)) (ow ((ltm_true tx (drop_cons hd1).2.1)) (ow ((ltm_true tx (drop_cons hd1).2.1)) (ow ((ltm_true tx (drop_cons hd1).2.1)) (ow ((ltm_true tx (drop_cons hd1).2.1)) (ow ((ltm_true tx (drop_cons hd1).2.1)) (ow (h36) ow0))))))) ?_
      first | exact t | (simp only [List.map_append, List.map_cons, List.map_nil, List.map_set] at t ⊢; exact t)
theorem d_impl_CompareFacts_good {a0_ : Fact} {a1_ : Fact} {r : Int} (h : d_impl_CompareFacts a0_ a1_ = some r) : Good Tryd.prog 57 [D.agg (Fact.c a0_), D.agg (Fact.c a1_)] (D.int .i64 (r)) := by
  refine Good.of (c := bodyOf Tryd.f57) Tryd.func57 rfl (by decide) (by simp [Tryd.f57]) ?_
  intro hr Γ hΓ
  have hΓ : Γ.nt = 51 := hΓ
  rw [d_impl_CompareFacts] at h
  refine (show AW Tryd.prog Γ (bodyOf Tryd.f57) (KQ Tryd.prog Γ (fun _ _ => False) (RetQ Tryd.prog Tryd.f57 (D.int .i64 (r))) []) _ from ?_)
  obtain ⟨y1, h2, h⟩ := den_bind h
  rcases den_if h with ⟨h3, h⟩ | ⟨h3, h⟩
  · have h := den_some h
    subst h
    exact AW_go (n := 2000) [[none]] [.d (D.int .i64 (y1)), .b true] (.ret (D.int .i64 (y1))) hΓ mix (by kernel_rfl) (ow (d_strings_Compare_good h2) (ow (h3) ow0)) rfl
  · refine AW_go (n := 2000) [[none]] [.d (D.int .i64 (y1)), .b false, .cn [2, 3, 6] [0, 1]] (.lp (dig (bodyOf Tryd.f57) [1, 1, 0, 1, 0, 0] []).1 (dig (bodyOf Tryd.f57) [1, 1, 0, 1, 0] []).2 ⟨[(2, D.ptr 0 0), (3, D.ptr 1 0), (6, D.int .i64 (0))], [Ob.box (Fact.c a0_), Ob.box (Fact.c a1_)]⟩) hΓ mix (by kernel_rfl) (ow (d_strings_Compare_good h2) (ow (h3) ow0)) (AW_st (by first | rfl | (simp only [List.map_append, List.map_cons, List.map_nil, List.map_set, List.map_replicate] <;> rfl)) (AW_of_r (d_impl_CompareFacts_L1w hΓ (fun h => ?_) (by have := (Rdb.sl (Rdb.agg (hr _ (List.mem_of_getElem? (i := 0) rfl)) (.sl ((a0_.args).map tx)) (by simp))).1; simpa using this) (a0_.args) 0  rfl h)))
    obtain ⟨y42, h43, h⟩ := den_bind h
    have h := den_some h
    subst h
    exact AW_go (n := 2000) [[none]] [.d (D.int .i64 (y42))] (.ret (D.int .i64 (y42))) hΓ mix (by kernel_rfl) (ow (d_impl_compareInts_good h43) ow0) rfl
def d_impl_compareFactLists_L1 (a0_ : List Fact) (a1_ : List Fact) (k1 : Option Int) : List Fact → Nat → Option Int
  | [], i1 => (k1 )
  | x1_ :: xs1, i1 => (bif decide (((i1 : Int) : Int) < ((((a1_).map Fact.c).length : Int))) then ((atI (a1_) ((i1 : Int))).bind fun x34 => ((d_impl_CompareFacts (x1_) (x34)).bind fun y36 => (bif (y36 : Int) != (0) then (some (y36)) else (d_impl_compareFactLists_L1 a0_ a1_ k1 xs1 (i1 + 1) )))) else (k1 ))
def d_impl_compareFactLists (a0_ : List Fact) (a1_ : List Fact) : Option Int := (d_impl_compareFactLists_L1 a0_ a1_ ((d_impl_compareInts ((((a0_).map Fact.c).length : Int)) ((((a1_).map Fact.c).length : Int))).bind fun y39 => (some (y39))) (a0_) 0 )
theorem d_impl_compareFactLists_L1w {Γ : Ctx} (hΓ : Γ.nt = 36) {N : Nat → St → Prop} {a0_ : List Fact} {a1_ : List Fact} {r : Int} {k1 : Option Int} (hE1 : k1 = some r → AW Tryd.prog Γ (dig (bodyOf Tryd.f26) [1, 1] []).1 (KQ Tryd.prog Γ N (RetQ Tryd.prog Tryd.f26 (D.int .i64 (r))) (dig (bodyOf Tryd.f26) [1, 1] []).2) ⟨[(0, D.sl ((a0_).map Fact.c)), (1, D.sl ((a1_).map Fact.c))], []⟩) (hm1 : (a0_).length ≤ maxLen) : ∀ (rest : List Fact) (i1 : Nat) , (a0_).drop i1 = rest → d_impl_compareFactLists_L1 a0_ a1_ k1 rest i1  = some r → AWr Tryd.prog Γ (dig (bodyOf Tryd.f26) [1, 0, 1, 0, 0] []).1 (KQ Tryd.prog Γ N (RetQ Tryd.prog Tryd.f26 (D.int .i64 (r))) (dig (bodyOf Tryd.f26) [1, 0, 1, 0] []).2) (rest.length + 1) ⟨[(0, D.sl ((a0_).map Fact.c)), (1, D.sl ((a1_).map Fact.c)), (5, D.int .i64 ((i1 : Int)))], []⟩ := by
  intro rest
  induction rest with
  | nil =>
    intro i1  hd1 h
    rw [d_impl_compareFactLists_L1] at h
    refine AWr_succ fun N1 hN1 hS1 => ?_
    have t := AW_N (N := N) (N' := N1) (K0 := (dig (bodyOf Tryd.f26) [1, 0, 1, 0] []).2) (by kernel_rfl) hN1 (hE1  h)
    refine AW_go (n := 2000) [[none]] [.b false, .b false, .b false, .b false, .b false, .b false, .hl 0 [0, 1] []] (.at_ (dig (bodyOf Tryd.f26) [1, 1] []).1 (dig (bodyOf Tryd.f26) [1, 1] []).2 ⟨[(0, D.sl ((a0_).map Fact.c)), (1, D.sl ((a1_).map Fact.c))], []⟩) hΓ mix (by kernel_rfl) (ow ((ltm_false Fact.c (drop_nil hd1))) (ow ((ltm_false Fact.c (drop_nil hd1))) (ow ((ltm_false Fact.c (drop_nil hd1))) (ow ((ltm_false Fact.c (drop_nil hd1))) (ow ((ltm_false Fact.c (drop_nil hd1))) (ow (show (false) = false from rfl) ow0)))))) ?_
    first | exact t | (simp only [List.map_append, List.map_cons, List.map_nil, List.map_set] at t ⊢; exact t)
  | cons x1_ xs1 ih1 =>
    intro i1  hd1 h
    rw [d_impl_compareFactLists_L1] at h
    refine AWr_succ fun N1 hN1 hS1 => ?_
    rcases den_if h with ⟨h33, h⟩ | ⟨h33, h⟩
    · obtain ⟨x34, h35, h⟩ := den_bind h
      obtain ⟨y36, h37, h⟩ := den_bind h
      rcases den_if h with ⟨h38, h⟩ | ⟨h38, h⟩
      · have h := den_some h
        subst h
        exact AW_go (n := 2000) [[none]] [.b true, .b true, .b true, .b true, .b true, .b true, .n 8, .row (Fact.c x1_), .row (Fact.c x34), .d (D.int .i64 (y36)), .b true] (.ret (D.int .i64 (y36))) hΓ mix (by kernel_rfl) (ow ((ltm_true Fact.c (drop_cons hd1).2.1)) (ow ((ltm_true Fact.c (drop_cons hd1).2.1)) (ow ((ltm_true Fact.c (drop_cons hd1).2.1)) (ow ((ltm_true Fact.c (drop_cons hd1).2.1)) (ow ((ltm_true Fact.c (drop_cons hd1).2.1)) (ow (h33) (ow (map_row Fact.c 2 (drop_cons hd1).1 rfl) (ow (at_row Fact.c 2 h35 rfl) (ow (d_impl_CompareFacts_good h37) (ow (h38) ow0)))))))))) rfl
      · have t := ih1 (i1 + 1)  (drop_cons hd1).2.2 h
        refine AW_go (n := 2000) [[none]] [.b true, .b true, .b true, .b true, .b true, .b true, .n 8, .row (Fact.c x1_), .row (Fact.c x34), .d (D.int .i64 (y36)), .b false, .cn [0, 1, 5] []] (.cont 0 ⟨[(0, D.sl ((a0_).map Fact.c)), (1, D.sl ((a1_).map Fact.c)), (5, D.int .i64 (IntKind.i64.wrap (((i1 : Int)) + (1))))], []⟩) hΓ mix (by kernel_rfl) (ow ((ltm_true Fact.c (drop_cons hd1).2.1)) (ow ((ltm_true Fact.c (drop_cons hd1).2.1)) (ow ((ltm_true Fact.c (drop_cons hd1).2.1)) (ow ((ltm_true Fact.c (drop_cons hd1).2.1)) (ow ((ltm_true Fact.c (drop_cons hd1).2.1)) (ow (h33) (ow (map_row Fact.c 2 (drop_cons hd1).1 rfl) (ow (at_row Fact.c 2 h35 rfl) (ow (d_impl_CompareFacts_good h37) (ow (h38) ow0)))))))))) ?_
        refine (congrFun hS1 _).mpr ?_
        rw [i64_succ (drop_cons hd1).2.1 hm1]
        first | exact t | (simp only [List.map_append, List.map_cons, List.map_nil, List.map_set] at t ⊢; exact t)
    · have t := AW_N (N := N) (N' := N1) (K0 := (dig (bodyOf Tryd.f26) [1, 0, 1, 0] []).2) (by kernel_rfl) hN1 (hE1  h)
      refine AW_go (n := 2000) [[none]] [.b true, .b true, .b true, .b true, .b true, .b false, .hl 0 [0, 1] []] (.at_ (dig (bodyOf Tryd.f26) [1, 1] []).1 (dig (bodyOf Tryd.f26) [1, 1] []).2 ⟨[(0, D.sl ((a0_).map Fact.c)), (1, D.sl ((a1_).map Fact.c))], []⟩) hΓ mix (by kernel_rfl) (ow ((ltm_true Fact.c (drop_cons hd1).2.1)) (ow ((ltm_true Fact.c (drop_cons hd1).2.1)) (ow ((ltm_true Fact.c (drop_cons hd1).2.1)) (ow ((ltm_true Fact.c (drop_cons hd1).2.1)) (ow ((ltm_true Fact.c (drop_cons hd1).2.1)) (ow (h33) ow0)))))) ?_
      first | exact t | (simp only [List.map_append, List.map_cons, List.map_nil, List.map_set] at t ⊢; exact t)
theorem d_impl_compareFactLists_good {a0_ : List Fact} {a1_ : List Fact} {r : Int} (h : d_impl_compareFactLists a0_ a1_ = some r) : Good Tryd.prog 26 [D.sl ((a0_).map Fact.c), D.sl ((a1_).map Fact.c)] (D.int .i64 (r)) := by
  refine Good.of (c := bodyOf Tryd.f26) Tryd.func26 rfl (by decide) (by simp [Tryd.f26]) ?_
  intro hr Γ hΓ
  have hΓ : Γ.nt = 36 := hΓ
  rw [d_impl_compareFactLists] at h
  refine (show AW Tryd.prog Γ (bodyOf Tryd.f26) (KQ Tryd.prog Γ (fun _ _ => False) (RetQ Tryd.prog Tryd.f26 (D.int .i64 (r))) []) _ from ?_)
  refine AW_go (n := 2000) [[none]] [.cn [0, 1, 5] []] (.lp (dig (bodyOf Tryd.f26) [1, 0, 1, 0, 0] []).1 (dig (bodyOf Tryd.f26) [1, 0, 1, 0] []).2 ⟨[(0, D.sl ((a0_).map Fact.c)), (1, D.sl ((a1_).map Fact.c)), (5, D.int .i64 (0))], []⟩) hΓ mix (by kernel_rfl) ow0 (AW_st (by first | rfl | (simp only [List.map_append, List.map_cons, List.map_nil, List.map_set, List.map_replicate] <;> rfl)) (AW_of_r (d_impl_compareFactLists_L1w hΓ (fun h => ?_) (by have := (Rdb.sl (hr _ (List.mem_of_getElem? (i := 0) rfl))).1; simpa using this) (a0_) 0  rfl h)))
  obtain ⟨y39, h40, h⟩ := den_bind h
  have h := den_some h
  subst h
  exact AW_go (n := 2000) [[none]] [.d (D.int .i64 (y39))] (.ret (D.int .i64 (y39))) hΓ mix (by kernel_rfl) (ow (d_impl_compareInts_good h40) ow0) rfl
def d_impl_CompareTokens (a0_ : Token) (a1_ : Token) : Option Int := ((d_impl_compareFactLists (a0_.facts) (a1_.facts)).bind fun y1 => (some (y1)))
theorem d_impl_CompareTokens_good {a0_ : Token} {a1_ : Token} {r : Int} (h : d_impl_CompareTokens a0_ a1_ = some r) : Good Tryd.prog 9 [D.agg (Token.c a0_), D.agg (Token.c a1_)] (D.int .i64 (r)) := by
  refine Good.of (c := bodyOf Tryd.f9) Tryd.func9 rfl (by decide) (by simp [Tryd.f9]) ?_
  intro hr Γ hΓ
  have hΓ : Γ.nt = 10 := hΓ
  rw [d_impl_CompareTokens] at h
  refine (show AW Tryd.prog Γ (bodyOf Tryd.f9) (KQ Tryd.prog Γ (fun _ _ => False) (RetQ Tryd.prog Tryd.f9 (D.int .i64 (r))) []) _ from ?_)
  obtain ⟨y1, h2, h⟩ := den_bind h
  have h := den_some h
  subst h
  exact AW_go (n := 2000) [[none]] [.d (D.int .i64 (y1))] (.ret (D.int .i64 (y1))) hΓ mix (by kernel_rfl) (ow (d_impl_compareFactLists_good h2) ow0) rfl
end Go.Cx
