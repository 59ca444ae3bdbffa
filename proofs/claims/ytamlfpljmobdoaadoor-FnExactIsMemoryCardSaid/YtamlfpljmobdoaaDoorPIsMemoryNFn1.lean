/- What functions of the program compute, and the walks that show it. No condition. -/
import Derived.Test.YtamlfpljmobdoaaDoorNLay
namespace Go.Cx
open Go.RowKit Go.Proofs
set_option linter.unusedVariables false
set_option linter.unusedSimpArgs false
set_option maxRecDepth 100000
def d_spec_l1Cmp (a0_ : Bytes) (a1_ : Bytes) : Option Int := (bif Op.bytesLess (a0_) (a1_) then (some (-1)) else (bif !(Op.bytesLess (a0_) (a1_) || (a0_ : Bytes) == (a1_)) then (some (1)) else (some (0))))
theorem d_spec_l1Cmp_good {a0_ : Bytes} {a1_ : Bytes} {r : Int} (h : d_spec_l1Cmp a0_ a1_ = some r) : Good Tryd.prog 53 [D.str (a0_), D.str (a1_)] (D.int .i64 (r)) := by
  refine Good.of (c := bodyOf Tryd.f53) Tryd.func53 rfl (by decide) (by simp [Tryd.f53]) ?_
  intro hr Γ hΓ
  have hΓ : Γ.nt = 13 := hΓ
  rw [d_spec_l1Cmp] at h
  refine (show AW Tryd.prog Γ (bodyOf Tryd.f53) (KQ Tryd.prog Γ (fun _ _ => False) (RetQ Tryd.prog Tryd.f53 (D.int .i64 (r))) []) _ from ?_)
  rcases den_if h with ⟨h1, h⟩ | ⟨h1, h⟩
  · have h := den_some h
    subst h
    exact AW_go (n := 2000) [[none]] [.b true] (.ret (D.int .i64 (-1))) hΓ mix (by kernel_rfl) (ow (h1) ow0) rfl
  · rcases den_if h with ⟨h2, h⟩ | ⟨h2, h⟩
    · have h := den_some h
      subst h
      exact AW_go (n := 2000) [[none]] [.b false, .b true] (.ret (D.int .i64 (1))) hΓ mix (by kernel_rfl) (ow (h1) (ow (h2) ow0)) rfl
    · have h := den_some h
      subst h
      exact AW_go (n := 2000) [[none]] [.b false, .b false] (.ret (D.int .i64 (0))) hΓ mix (by kernel_rfl) (ow (h1) (ow (h2) ow0)) rfl
def d_spec_l1In (a0_ : Int) (a1_ : Int) (a2_ : Int) : Option Bool := (bif decide ((a0_ : Int) ≥ (a1_)) then (some (decide ((a0_ : Int) ≤ (a2_)))) else (some (false)))
theorem d_spec_l1In_good {a0_ : Int} {a1_ : Int} {a2_ : Int} {r : Bool} (h : d_spec_l1In a0_ a1_ a2_ = some r) : Good Tryd.prog 30 [D.int .i64 (a0_), D.int .i64 (a1_), D.int .i64 (a2_)] (D.bool (r)) := by
  refine Good.of (c := bodyOf Tryd.f30) Tryd.func30 rfl (by decide) (by simp [Tryd.f30]) ?_
  intro hr Γ hΓ
  have hΓ : Γ.nt = 15 := hΓ
  rw [d_spec_l1In] at h
  refine (show AW Tryd.prog Γ (bodyOf Tryd.f30) (KQ Tryd.prog Γ (fun _ _ => False) (RetQ Tryd.prog Tryd.f30 (D.bool (r))) []) _ from ?_)
  rcases den_if h with ⟨h1, h⟩ | ⟨h1, h⟩
  · have h := den_some h
    subst h
    exact AW_go (n := 2000) [[none]] [.b true, .b true, .b true, .b true] (.ret (D.bool (decide ((a0_ : Int) ≤ (a2_))))) hΓ mix (by kernel_rfl) (ow (h1) (ow (h1) (ow (h1) (ow (h1) ow0)))) rfl
  · have h := den_some h
    subst h
    exact AW_go (n := 2000) [[none]] [.b false, .b false, .b false, .b false] (.ret (D.bool (false))) hΓ mix (by kernel_rfl) (ow (h1) (ow (h1) (ow (h1) (ow (h1) ow0)))) rfl
def d_spec_FormatInt_R_L1  (k1 : Option Bytes) : Nat → Int → Bytes → Option Bytes
  | 0, _, _ => none
  | n1 + 1, v1_0, v1_3 => (bif decide (0 ≤ (v1_0 : Int)) && decide (0 < (10 : Int)) then (bif decide (([UInt8.ofNat (IntKind.u8.wrap (IntKind.i64.wrap ((48) + ((v1_0 : Int) % (10))))).toNat] : Bytes).length + (v1_3 : Bytes).length ≤ maxLen) then (bif decide (0 ≤ (v1_0 : Int)) && decide (0 < (10 : Int)) then (bif ((v1_0 : Int) / (10) : Int) == (0) then (some (([UInt8.ofNat (IntKind.u8.wrap (IntKind.i64.wrap ((48) + ((v1_0 : Int) % (10))))).toNat]) ++ (v1_3))) else (d_spec_FormatInt_R_L1  k1 n1 ((v1_0 : Int) / (10)) (([UInt8.ofNat (IntKind.u8.wrap (IntKind.i64.wrap ((48) + ((v1_0 : Int) % (10))))).toNat]) ++ (v1_3)))) else none) else none) else none)
def d_spec_FormatInt_R : Nat → Int → Option Bytes
  | 0, _ => none
  | m_ + 1, a0_ => (bif (a0_ : Int) == (-9223372036854775808) then (some ([45, 57, 50, 50, 51, 51, 55, 50, 48, 51, 54, 56, 53, 52, 55, 55, 53, 56, 48, 56])) else (bif decide ((a0_ : Int) < (0)) then ((d_spec_FormatInt_R m_ (IntKind.i64.wrap (0 - (a0_)))).bind fun y3 => (bif decide (([45] : Bytes).length + (y3 : Bytes).length ≤ maxLen) then (some (([45]) ++ (y3))) else none)) else (d_spec_FormatInt_R_L1  none fuel (a0_) ([]))))
theorem d_spec_FormatInt_R_L1w {Γ : Ctx} (hΓ : Γ.nt = 25) {N : Nat → St → Prop}  {r : Bytes} {k1 : Option Bytes} (hE1 : k1 = some r → AW Tryd.prog Γ (dig (bodyOf Tryd.f41) [1, 1, 1, 1, 0, 0] []).1 (KQ Tryd.prog Γ N (RetQ Tryd.prog Tryd.f41 (D.str (r))) (dig (bodyOf Tryd.f41) [1, 1, 1, 1, 0, 0] []).2) ⟨[], []⟩) : ∀ (n1 : Nat) (v1_0 : Int) (v1_3 : Bytes), d_spec_FormatInt_R_L1  k1 n1 v1_0 v1_3 = some r → AWr Tryd.prog Γ (dig (bodyOf Tryd.f41) [1, 1, 1, 1, 0, 0] []).1 (KQ Tryd.prog Γ N (RetQ Tryd.prog Tryd.f41 (D.str (r))) (dig (bodyOf Tryd.f41) [1, 1, 1, 1, 0] []).2) n1 ⟨[(0, D.int .i64 (v1_0)), (3, D.str (v1_3))], []⟩ := by
  intro n
  induction n with
  | zero => intro v1_0 v1_3 h; simp [d_spec_FormatInt_R_L1] at h
  | succ n1 ih1 =>
    intro v1_0 v1_3 h
    rw [d_spec_FormatInt_R_L1] at h
    refine AWr_succ fun N1 hN1 hS1 => ?_
    obtain ⟨h14, h⟩ := den_ok h
    obtain ⟨h15, h⟩ := den_ok h
    obtain ⟨h16, h⟩ := den_ok h
    rcases den_if h with ⟨h17, h⟩ | ⟨h17, h⟩
    · have h := den_some h
      subst h
      exact AW_go (n := 2000) [[none]] [.b true] (.ret (D.str (([UInt8.ofNat (IntKind.u8.wrap (IntKind.i64.wrap ((48) + ((v1_0 : Int) % (10))))).toNat]) ++ (v1_3)))) hΓ mix (by kernel_rfl) (ow (quo_ok .i64 h14) (ow (of_decide_eq_true h15) (ow (quo_ok .i64 h16) (ow (h17) ow0)))) (by first | rfl | (simp only [List.map_append, List.map_cons, List.map_nil, List.map_set] <;> rfl))
    · have t := ih1 ((v1_0 : Int) / (10)) (([UInt8.ofNat (IntKind.u8.wrap (IntKind.i64.wrap ((48) + ((v1_0 : Int) % (10))))).toNat]) ++ (v1_3)) h
      refine AW_go (n := 2000) [[none]] [.b false, .cn [0, 3] []] (.cont 0 ⟨[(0, D.int .i64 ((v1_0 : Int) / (10))), (3, D.str (([UInt8.ofNat (IntKind.u8.wrap (IntKind.i64.wrap ((48) + ((v1_0 : Int) % (10))))).toNat]) ++ (v1_3)))], []⟩) hΓ mix (by kernel_rfl) (ow (quo_ok .i64 h14) (ow (of_decide_eq_true h15) (ow (quo_ok .i64 h16) (ow (h17) ow0)))) ?_
      refine (congrFun hS1 _).mpr ?_
      first | exact t | (simp only [List.map_append, List.map_cons, List.map_nil, List.map_set] at t ⊢; exact t)
theorem d_spec_FormatInt_R_step {m_ : Nat} (ihR : ∀ {a0_ : Int} {r : Bytes}, d_spec_FormatInt_R m_ a0_ = some r → Good Tryd.prog 41 [D.int .i64 (a0_)] (D.str (r))) {a0_ : Int} {r : Bytes} (h : d_spec_FormatInt_R (m_ + 1) a0_ = some r) : Good Tryd.prog 41 [D.int .i64 (a0_)] (D.str (r)) := by
  refine Good.of (c := bodyOf Tryd.f41) Tryd.func41 rfl (by decide) (by simp [Tryd.f41]) ?_
  intro hr Γ hΓ
  have hΓ : Γ.nt = 25 := hΓ
  rw [d_spec_FormatInt_R] at h
  refine (show AW Tryd.prog Γ (bodyOf Tryd.f41) (KQ Tryd.prog Γ (fun _ _ => False) (RetQ Tryd.prog Tryd.f41 (D.str (r))) []) _ from ?_)
  rcases den_if h with ⟨h1, h⟩ | ⟨h1, h⟩
  · have h := den_some h
    subst h
    exact AW_go (n := 2000) [[none]] [.b true] (.ret (D.str ([45, 57, 50, 50, 51, 51, 55, 50, 48, 51, 54, 56, 53, 52, 55, 55, 53, 56, 48, 56]))) hΓ mix (by kernel_rfl) (ow (h1) ow0) rfl
  · rcases den_if h with ⟨h2, h⟩ | ⟨h2, h⟩
    · obtain ⟨y3, h4, h⟩ := den_bind h
      obtain ⟨h5, h⟩ := den_ok h
      have h := den_some h
      subst h
      exact AW_go (n := 2000) [[none]] [.b false, .b true, .d (D.str (y3))] (.ret (D.str (([45]) ++ (y3)))) hΓ mix (by kernel_rfl) (ow (h1) (ow (h2) (ow (ihR h4) (ow (of_decide_eq_true h5) ow0)))) (by first | rfl | (simp only [List.map_append, List.map_cons, List.map_nil, List.map_set] <;> rfl))
    · refine AW_go (n := 2000) [[none]] [.b false, .b false, .cn [0, 3] []] (.lp (dig (bodyOf Tryd.f41) [1, 1, 1, 1, 0, 0] []).1 (dig (bodyOf Tryd.f41) [1, 1, 1, 1, 0] []).2 ⟨[(0, D.int .i64 (a0_)), (3, D.str ([]))], []⟩) hΓ mix (by kernel_rfl) (ow (h1) (ow (h2) ow0)) (AW_st (by first | rfl | (simp only [List.map_append, List.map_cons, List.map_nil, List.map_set, List.map_replicate] <;> rfl)) (AW_of_r (d_spec_FormatInt_R_L1w hΓ (fun h => ?_) fuel (a0_) ([]) h)))
      cases h
theorem d_spec_FormatInt_R_good : ∀ (m_ : Nat) {a0_ : Int} {r : Bytes}, d_spec_FormatInt_R m_ a0_ = some r → Good Tryd.prog 41 [D.int .i64 (a0_)] (D.str (r))
  | 0, _, _, h => by cases h
  | m_ + 1, _, _, h => d_spec_FormatInt_R_step (fun h => d_spec_FormatInt_R_good m_ h) h
def d_spec_FormatInt (a0_ : Int) : Option Bytes := d_spec_FormatInt_R fuel a0_
theorem d_spec_FormatInt_good {a0_ : Int} {r : Bytes} (h : d_spec_FormatInt a0_ = some r) : Good Tryd.prog 41 [D.int .i64 (a0_)] (D.str (r)) := d_spec_FormatInt_R_good fuel h
def d_spec_ParseInt_L1 (a0_ : Bytes) (k1 : Int → Option (Int × Bool)) : Nat → Int → Int → Option (Int × Bool)
  | 0, _, _ => none
  | n1 + 1, v1_4, v1_5 => (bif decide ((v1_5 : Int) < (((a0_).length : Int))) then ((atI (a0_) (v1_5)).bind fun b25 => (bif decide ((b25.toNat : Int) < (48)) then (some ((0, false))) else (bif decide ((b25.toNat : Int) > (57)) then (some ((0, false))) else (d_spec_ParseInt_L1 a0_ k1 n1 (IntKind.i64.wrap ((IntKind.i64.wrap ((10) * (v1_4))) + (IntKind.i64.wrap (IntKind.u8.wrap ((b25.toNat) - (48)))))) (IntKind.i64.wrap ((v1_5) + (1))))))) else (k1 (v1_4)))
def d_spec_ParseInt (a0_ : Bytes) : Option (Int × Bool) := ((d_spec_l1In (((a0_).length : Int)) (1) (4)).bind fun y1 => (bif !(y1) then (some ((0, false))) else (d_spec_ParseInt_L1 a0_ (fun (z1_4 : Int) => ((d_spec_FormatInt (z1_4)).bind fun y29 => (bif !((y29 : Bytes) == (a0_)) then (some ((0, false))) else (some ((z1_4, true)))))) fuel (0) (0))))
theorem d_spec_ParseInt_L1w {Γ : Ctx} (hΓ : Γ.nt = 39) {N : Nat → St → Prop} {a0_ : Bytes} {r : Int × Bool} {k1 : Int → Option (Int × Bool)} (hE1 : ∀ (z1_4 : Int), k1 z1_4 = some r → AW Tryd.prog Γ (dig (bodyOf Tryd.f75) [1, 1, 1, 1] []).1 (KQ Tryd.prog Γ N (RetQ Tryd.prog Tryd.f75 (D.tup [D.int .i64 (r.1), D.bool (r.2)])) (dig (bodyOf Tryd.f75) [1, 1, 1, 1] []).2) ⟨[(0, D.str (a0_)), (4, D.int .i64 (z1_4))], []⟩) : ∀ (n1 : Nat) (v1_4 : Int) (v1_5 : Int), d_spec_ParseInt_L1 a0_ k1 n1 v1_4 v1_5 = some r → AWr Tryd.prog Γ (dig (bodyOf Tryd.f75) [1, 1, 1, 0, 1, 0, 0] []).1 (KQ Tryd.prog Γ N (RetQ Tryd.prog Tryd.f75 (D.tup [D.int .i64 (r.1), D.bool (r.2)])) (dig (bodyOf Tryd.f75) [1, 1, 1, 0, 1, 0] []).2) n1 ⟨[(0, D.str (a0_)), (4, D.int .i64 (v1_4)), (5, D.int .i64 (v1_5))], []⟩ := by
  intro n
  induction n with
  | zero => intro v1_4 v1_5 h; simp [d_spec_ParseInt_L1] at h
  | succ n1 ih1 =>
    intro v1_4 v1_5 h
    rw [d_spec_ParseInt_L1] at h
    refine AWr_succ fun N1 hN1 hS1 => ?_
    rcases den_if h with ⟨h24, h⟩ | ⟨h24, h⟩
    · obtain ⟨b25, h26, h⟩ := den_bind h
      rcases den_if h with ⟨h27, h⟩ | ⟨h27, h⟩
      · have h := den_some h
        subst h
        exact AW_go (n := 2000) [[none], [none]] [.b true, .ch b25, .b true, .b true, .b true, .b true, .b true, .b true] (.ret (D.tup [D.int .i64 (0), D.bool (false)])) hΓ mix (by kernel_rfl) (ow (h24) (ow (at_str h26) (ow (h27) (ow (h27) (ow (h27) (ow (h27) (ow (h27) (ow (show (true) = true from rfl) ow0)))))))) rfl
      · rcases den_if h with ⟨h28, h⟩ | ⟨h28, h⟩
        · have h := den_some h
          subst h
          exact AW_go (n := 2000) [[none], [none]] [.b true, .ch b25, .b false, .b false, .b false, .ch b25, .b false, .b false, .b true] (.ret (D.tup [D.int .i64 (0), D.bool (false)])) hΓ mix (by kernel_rfl) (ow (h24) (ow (at_str h26) (ow (h27) (ow (h27) (ow (h27) (ow (at_str h26) (ow (h27) (ow (h27) (ow (h28) ow0))))))))) rfl
        · have t := ih1 (IntKind.i64.wrap ((IntKind.i64.wrap ((10) * (v1_4))) + (IntKind.i64.wrap (IntKind.u8.wrap ((b25.toNat) - (48)))))) (IntKind.i64.wrap ((v1_5) + (1))) h
          refine AW_go (n := 2000) [[none], [none]] [.b true, .ch b25, .b false, .b false, .b false, .ch b25, .b false, .b false, .b false, .ch b25, .cn [0, 4, 5] []] (.cont 0 ⟨[(0, D.str (a0_)), (4, D.int .i64 (IntKind.i64.wrap ((IntKind.i64.wrap ((10) * (v1_4))) + (IntKind.i64.wrap (IntKind.u8.wrap ((b25.toNat) - (48))))))), (5, D.int .i64 (IntKind.i64.wrap ((v1_5) + (1))))], []⟩) hΓ mix (by kernel_rfl) (ow (h24) (ow (at_str h26) (ow (h27) (ow (h27) (ow (h27) (ow (at_str h26) (ow (h27) (ow (h27) (ow (h28) (ow (at_str h26) ow0)))))))))) ?_
          refine (congrFun hS1 _).mpr ?_
          first | exact t | (simp only [List.map_append, List.map_cons, List.map_nil, List.map_set] at t ⊢; exact t)
    · have t := AW_N (N := N) (N' := N1) (K0 := (dig (bodyOf Tryd.f75) [1, 1, 1, 0, 1, 0] []).2) (by kernel_rfl) hN1 (hE1 (v1_4) h)
      refine AW_go (n := 2000) [[none], [none]] [.b false, .hl 0 [0, 4] []] (.at_ (dig (bodyOf Tryd.f75) [1, 1, 1, 1] []).1 (dig (bodyOf Tryd.f75) [1, 1, 1, 1] []).2 ⟨[(0, D.str (a0_)), (4, D.int .i64 (v1_4))], []⟩) hΓ mix (by kernel_rfl) (ow (h24) ow0) ?_
      first | exact t | (simp only [List.map_append, List.map_cons, List.map_nil, List.map_set] at t ⊢; exact t)
theorem d_spec_ParseInt_good {a0_ : Bytes} {r : Int × Bool} (h : d_spec_ParseInt a0_ = some r) : Good Tryd.prog 75 [D.str (a0_)] (D.tup [D.int .i64 (r.1), D.bool (r.2)]) := by
  refine Good.of (c := bodyOf Tryd.f75) Tryd.func75 rfl (by decide) (by simp [Tryd.f75]) ?_
  intro hr Γ hΓ
  have hΓ : Γ.nt = 39 := hΓ
  rw [d_spec_ParseInt] at h
  refine (show AW Tryd.prog Γ (bodyOf Tryd.f75) (KQ Tryd.prog Γ (fun _ _ => False) (RetQ Tryd.prog Tryd.f75 (D.tup [D.int .i64 (r.1), D.bool (r.2)])) []) _ from ?_)
  obtain ⟨y1, h2, h⟩ := den_bind h
  rcases den_if h with ⟨h3, h⟩ | ⟨h3, h⟩
  · have h := den_some h
    subst h
    exact AW_go (n := 2000) [[none], [none]] [.d (D.bool (y1)), .b true] (.ret (D.tup [D.int .i64 (0), D.bool (false)])) hΓ mix (by kernel_rfl) (ow (d_spec_l1In_good h2) (ow (h3) ow0)) rfl
  · refine AW_go (n := 2000) [[none], [none]] [.d (D.bool (y1)), .b false, .cn [0, 4, 5] []] (.lp (dig (bodyOf Tryd.f75) [1, 1, 1, 0, 1, 0, 0] []).1 (dig (bodyOf Tryd.f75) [1, 1, 1, 0, 1, 0] []).2 ⟨[(0, D.str (a0_)), (4, D.int .i64 (0)), (5, D.int .i64 (0))], []⟩) hΓ mix (by kernel_rfl) (ow (d_spec_l1In_good h2) (ow (h3) ow0)) (AW_st (by first | rfl | (simp only [List.map_append, List.map_cons, List.map_nil, List.map_set, List.map_replicate] <;> rfl)) (AW_of_r (d_spec_ParseInt_L1w hΓ (fun z1_4 h => ?_) fuel (0) (0) h)))
    obtain ⟨y29, h30, h⟩ := den_bind h
    rcases den_if h with ⟨h31, h⟩ | ⟨h31, h⟩
    · have h := den_some h
      subst h
      exact AW_go (n := 2000) [[none], [none]] [.d (D.str (y29)), .b true] (.ret (D.tup [D.int .i64 (0), D.bool (false)])) hΓ mix (by kernel_rfl) (ow (d_spec_FormatInt_good h30) (ow (h31) ow0)) rfl
    · have h := den_some h
      subst h
      exact AW_go (n := 2000) [[none], [none]] [.d (D.str (y29)), .b false] (.ret (D.tup [D.int .i64 (z1_4), D.bool (true)])) hΓ mix (by kernel_rfl) (ow (d_spec_FormatInt_good h30) (ow (h31) ow0)) rfl
def d_spec_CompareAtoms (a0_ : Bytes) (a1_ : Bytes) : Option Int := ((d_spec_ParseInt (a0_)).bind fun y1 => ((d_spec_ParseInt (a1_)).bind fun y3 => (bif y1.2 then (bif y3.2 then (bif decide ((y1.1 : Int) < (y3.1)) then (some (-1)) else (bif !(y3.2) then (some (-1)) else (bif decide ((y1.1 : Int) > (y3.1)) then (some (1)) else (bif !(y1.2) then (some (1)) else (some (0)))))) else (bif !(y3.2) then (some (-1)) else (some (0)))) else (bif y3.2 then (bif !(y1.2) then (some (1)) else ((d_spec_l1Cmp (a0_) (a1_)).bind fun y14 => (some (y14)))) else ((d_spec_l1Cmp (a0_) (a1_)).bind fun y16 => (some (y16)))))))
theorem d_spec_CompareAtoms_good {a0_ : Bytes} {a1_ : Bytes} {r : Int} (h : d_spec_CompareAtoms a0_ a1_ = some r) : Good Tryd.prog 54 [D.str (a0_), D.str (a1_)] (D.int .i64 (r)) := by
  refine Good.of (c := bodyOf Tryd.f54) Tryd.func54 rfl (by decide) (by simp [Tryd.f54]) ?_
  intro hr Γ hΓ
  have hΓ : Γ.nt = 54 := hΓ
  rw [d_spec_CompareAtoms] at h
  refine (show AW Tryd.prog Γ (bodyOf Tryd.f54) (KQ Tryd.prog Γ (fun _ _ => False) (RetQ Tryd.prog Tryd.f54 (D.int .i64 (r))) []) _ from ?_)
  obtain ⟨y1, h2, h⟩ := den_bind h
  obtain ⟨y3, h4, h⟩ := den_bind h
  rcases den_if h with ⟨h5, h⟩ | ⟨h5, h⟩
  · rcases den_if h with ⟨h6, h⟩ | ⟨h6, h⟩
    · rcases den_if h with ⟨h7, h⟩ | ⟨h7, h⟩
      · have h := den_some h
        subst h
        exact AW_go (n := 2000) [[none]] [.d (D.tup [D.int .i64 (y1.1), D.bool (y1.2)]), .d (D.tup [D.int .i64 (y3.1), D.bool (y3.2)]), .b true, .b true, .b true, .b true, .b true, .b true, .b true, .b true] (.ret (D.int .i64 (-1))) hΓ mix (by kernel_rfl) (ow (d_spec_ParseInt_good h2) (ow (d_spec_ParseInt_good h4) (ow (h5) (ow (h5) (ow (h6) (ow (h6) (ow (h6) (ow (h6) (ow (h7) (ow (h7) ow0)))))))))) rfl
      · rcases den_if h with ⟨h8, h⟩ | ⟨h8, h⟩
        · have h := den_some h
          subst h
          exact AW_go (n := 2000) [[none]] [.d (D.tup [D.int .i64 (y1.1), D.bool (y1.2)]), .d (D.tup [D.int .i64 (y3.1), D.bool (y3.2)]), .b true, .b true, .b true, .b true, .b true, .b true, .b false, .b true, .b true, .b true, .b true] (.ret (D.int .i64 (-1))) hΓ mix (by kernel_rfl) (ow (d_spec_ParseInt_good h2) (ow (d_spec_ParseInt_good h4) (ow (h5) (ow (h5) (ow (h6) (ow (h6) (ow (h6) (ow (h6) (ow (h7) (ow (h5) (ow (h5) (ow (h5) (ow (h8) ow0))))))))))))) rfl
        · rcases den_if h with ⟨h9, h⟩ | ⟨h9, h⟩
          · have h := den_some h
            subst h
            exact AW_go (n := 2000) [[none]] [.d (D.tup [D.int .i64 (y1.1), D.bool (y1.2)]), .d (D.tup [D.int .i64 (y3.1), D.bool (y3.2)]), .b true, .b true, .b true, .b true, .b true, .b true, .b false, .b true, .b true, .b true, .b false, .b true, .b true, .b true, .b true, .b true, .b true, .b true, .b true] (.ret (D.int .i64 (1))) hΓ mix (by kernel_rfl) (ow (d_spec_ParseInt_good h2) (ow (d_spec_ParseInt_good h4) (ow (h5) (ow (h5) (ow (h6) (ow (h6) (ow (h6) (ow (h6) (ow (h7) (ow (h5) (ow (h5) (ow (h5) (ow (h8) (ow (h5) (ow (h5) (ow (h6) (ow (h6) (ow (h6) (ow (h6) (ow (h9) (ow (h9) ow0))))))))))))))))))))) rfl
          · rcases den_if h with ⟨h10, h⟩ | ⟨h10, h⟩
            · have h := den_some h
              subst h
              exact AW_go (n := 2000) [[none]] [.d (D.tup [D.int .i64 (y1.1), D.bool (y1.2)]), .d (D.tup [D.int .i64 (y3.1), D.bool (y3.2)]), .b true, .b true, .b true, .b true, .b true, .b true, .b false, .b true, .b true, .b true, .b false, .b true, .b true, .b true, .b true, .b true, .b true, .b false, .b true, .b true, .b true, .b true] (.ret (D.int .i64 (1))) hΓ mix (by kernel_rfl) (ow (d_spec_ParseInt_good h2) (ow (d_spec_ParseInt_good h4) (ow (h5) (ow (h5) (ow (h6) (ow (h6) (ow (h6) (ow (h6) (ow (h7) (ow (h5) (ow (h5) (ow (h5) (ow (h8) (ow (h5) (ow (h5) (ow (h6) (ow (h6) (ow (h6) (ow (h6) (ow (h9) (ow (h6) (ow (h6) (ow (h6) (ow (h10) ow0)))))))))))))))))))))))) rfl
            · have h := den_some h
              subst h
              exact AW_go (n := 2000) [[none]] [.d (D.tup [D.int .i64 (y1.1), D.bool (y1.2)]), .d (D.tup [D.int .i64 (y3.1), D.bool (y3.2)]), .b true, .b true, .b true, .b true, .b true, .b true, .b false, .b true, .b true, .b true, .b false, .b true, .b true, .b true, .b true, .b true, .b true, .b false, .b true, .b true, .b true, .b false, .b true] (.ret (D.int .i64 (0))) hΓ mix (by kernel_rfl) (ow (d_spec_ParseInt_good h2) (ow (d_spec_ParseInt_good h4) (ow (h5) (ow (h5) (ow (h6) (ow (h6) (ow (h6) (ow (h6) (ow (h7) (ow (h5) (ow (h5) (ow (h5) (ow (h8) (ow (h5) (ow (h5) (ow (h6) (ow (h6) (ow (h6) (ow (h6) (ow (h9) (ow (h6) (ow (h6) (ow (h6) (ow (h10) (ow (h5) ow0))))))))))))))))))))))))) rfl
    · rcases den_if h with ⟨h11, h⟩ | ⟨h11, h⟩
      · have h := den_some h
        subst h
        exact AW_go (n := 2000) [[none]] [.d (D.tup [D.int .i64 (y1.1), D.bool (y1.2)]), .d (D.tup [D.int .i64 (y3.1), D.bool (y3.2)]), .b true, .b true, .b false, .b false, .b false, .b false, .b false, .b true, .b true, .b true, .b true] (.ret (D.int .i64 (-1))) hΓ mix (by kernel_rfl) (ow (d_spec_ParseInt_good h2) (ow (d_spec_ParseInt_good h4) (ow (h5) (ow (h5) (ow (h6) (ow (h6) (ow (h6) (ow (h6) (ow (show (false) = false from rfl) (ow (h5) (ow (h5) (ow (h5) (ow (h11) ow0))))))))))))) rfl
      · have h := den_some h
        subst h
        exact AW_go (n := 2000) [[none]] [.d (D.tup [D.int .i64 (y1.1), D.bool (y1.2)]), .d (D.tup [D.int .i64 (y3.1), D.bool (y3.2)]), .b true, .b true, .b false, .b false, .b false, .b false, .b false, .b true, .b true, .b true, .b false, .b true, .b true, .b false, .b false, .b false, .b false, .b false, .b false, .b false, .b false, .b false, .b true] (.ret (D.int .i64 (0))) hΓ mix (by kernel_rfl) (ow (d_spec_ParseInt_good h2) (ow (d_spec_ParseInt_good h4) (ow (h5) (ow (h5) (ow (h6) (ow (h6) (ow (h6) (ow (h6) (ow (show (false) = false from rfl) (ow (h5) (ow (h5) (ow (h5) (ow (h11) (ow (h5) (ow (h5) (ow (h6) (ow (h6) (ow (h6) (ow (h6) (ow (show (false) = false from rfl) (ow (h6) (ow (h6) (ow (h6) (ow (show (false) = false from rfl) (ow (h5) ow0))))))))))))))))))))))))) rfl
  · rcases den_if h with ⟨h12, h⟩ | ⟨h12, h⟩
    · rcases den_if h with ⟨h13, h⟩ | ⟨h13, h⟩
      · have h := den_some h
        subst h
        exact AW_go (n := 2000) [[none]] [.d (D.tup [D.int .i64 (y1.1), D.bool (y1.2)]), .d (D.tup [D.int .i64 (y3.1), D.bool (y3.2)]), .b false, .b false, .b false, .b false, .b false, .b false, .b false, .b false, .b false, .b false, .b false, .b false, .b false, .b false, .b false, .b false, .b false, .b false, .b true, .b true, .b true, .b true] (.ret (D.int .i64 (1))) hΓ mix (by kernel_rfl) (ow (d_spec_ParseInt_good h2) (ow (d_spec_ParseInt_good h4) (ow (h5) (ow (h5) (ow (show (false) = false from rfl) (ow (show (false) = false from rfl) (ow (show (false) = false from rfl) (ow (show (false) = false from rfl) (ow (show (false) = false from rfl) (ow (h5) (ow (h5) (ow (h5) (ow (show (false) = false from rfl) (ow (h5) (ow (h5) (ow (show (false) = false from rfl) (ow (show (false) = false from rfl) (ow (show (false) = false from rfl) (ow (show (false) = false from rfl) (ow (show (false) = false from rfl) (ow (h12) (ow (h12) (ow (h12) (ow (h13) ow0)))))))))))))))))))))))) rfl
      · obtain ⟨y14, h15, h⟩ := den_bind h
        have h := den_some h
        subst h
        exact AW_go (n := 2000) [[none]] [.d (D.tup [D.int .i64 (y1.1), D.bool (y1.2)]), .d (D.tup [D.int .i64 (y3.1), D.bool (y3.2)]), .b false, .b false, .b false, .b false, .b false, .b false, .b false, .b false, .b false, .b false, .b false, .b false, .b false, .b false, .b false, .b false, .b false, .b false, .b true, .b true, .b true, .b false, .b false, .d (D.int .i64 (y14))] (.ret (D.int .i64 (y14))) hΓ mix (by kernel_rfl) (ow (d_spec_ParseInt_good h2) (ow (d_spec_ParseInt_good h4) (ow (h5) (ow (h5) (ow (show (false) = false from rfl) (ow (show (false) = false from rfl) (ow (show (false) = false from rfl) (ow (show (false) = false from rfl) (ow (show (false) = false from rfl) (ow (h5) (ow (h5) (ow (h5) (ow (show (false) = false from rfl) (ow (h5) (ow (h5) (ow (show (false) = false from rfl) (ow (show (false) = false from rfl) (ow (show (false) = false from rfl) (ow (show (false) = false from rfl) (ow (show (false) = false from rfl) (ow (h12) (ow (h12) (ow (h12) (ow (h13) (ow (h5) (ow (d_spec_l1Cmp_good h15) ow0)))))))))))))))))))))))))) rfl
    · obtain ⟨y16, h17, h⟩ := den_bind h
      have h := den_some h
      subst h
      exact AW_go (n := 2000) [[none]] [.d (D.tup [D.int .i64 (y1.1), D.bool (y1.2)]), .d (D.tup [D.int .i64 (y3.1), D.bool (y3.2)]), .b false, .b false, .b false, .b false, .b false, .b false, .b false, .b false, .b false, .b false, .b false, .b false, .b false, .b false, .b false, .b false, .b false, .b false, .b false, .b false, .b false, .b false, .b false, .d (D.int .i64 (y16))] (.ret (D.int .i64 (y16))) hΓ mix (by kernel_rfl) (ow (d_spec_ParseInt_good h2) (ow (d_spec_ParseInt_good h4) (ow (h5) (ow (h5) (ow (show (false) = false from rfl) (ow (show (false) = false from rfl) (ow (show (false) = false from rfl) (ow (show (false) = false from rfl) (ow (show (false) = false from rfl) (ow (h5) (ow (h5) (ow (h5) (ow (show (false) = false from rfl) (ow (h5) (ow (h5) (ow (show (false) = false from rfl) (ow (show (false) = false from rfl) (ow (show (false) = false from rfl) (ow (show (false) = false from rfl) (ow (show (false) = false from rfl) (ow (h12) (ow (h12) (ow (h12) (ow (show (false) = false from rfl) (ow (h5) (ow (d_spec_l1Cmp_good h17) ow0)))))))))))))))))))))))))) rfl
def d_spec_CompareFacts_L1 (a0_ : Fact) (a1_ : Fact) (k1 : Option Int) : List Bytes → Nat → Option Int
  | [], i1 => (k1 )
  | x1_ :: xs1, i1 => (bif decide (((i1 : Int) : Int) < ((((a1_.args).map tx).length : Int))) then ((atI (a1_.args) ((i1 : Int))).bind fun x37 => ((d_spec_CompareAtoms (x1_) (x37)).bind fun y39 => (bif (y39 : Int) != (0) then (some (y39)) else (d_spec_CompareFacts_L1 a0_ a1_ k1 xs1 (i1 + 1) )))) else (k1 ))
def d_spec_CompareFacts (a0_ : Fact) (a1_ : Fact) : Option Int := (bif !((a0_.rel : Bytes) == (a1_.rel)) then ((d_spec_l1Cmp (a0_.rel) (a1_.rel)).bind fun y2 => (some (y2))) else (d_spec_CompareFacts_L1 a0_ a1_ (bif decide (((((a0_.args).map tx).length : Int) : Int) < ((((a1_.args).map tx).length : Int))) then (some (-1)) else (bif decide (((((a0_.args).map tx).length : Int) : Int) > ((((a1_.args).map tx).length : Int))) then (some (1)) else (some (0)))) (a0_.args) 0 ))
theorem d_spec_CompareFacts_L1w {Γ : Ctx} (hΓ : Γ.nt = 61) {N : Nat → St → Prop} {a0_ : Fact} {a1_ : Fact} {r : Int} {k1 : Option Int} (hE1 : k1 = some r → AW Tryd.prog Γ (dig (bodyOf Tryd.f23) [1, 1, 1] []).1 (KQ Tryd.prog Γ N (RetQ Tryd.prog Tryd.f23 (D.int .i64 (r))) (dig (bodyOf Tryd.f23) [1, 1, 1] []).2) ⟨[(2, D.ptr 0 0), (3, D.ptr 1 0)], [Ob.box (Fact.c a0_), Ob.box (Fact.c a1_)]⟩) (hm1 : (a0_.args).length ≤ maxLen) : ∀ (rest : List Bytes) (i1 : Nat) , (a0_.args).drop i1 = rest → d_spec_CompareFacts_L1 a0_ a1_ k1 rest i1  = some r → AWr Tryd.prog Γ (dig (bodyOf Tryd.f23) [1, 1, 0, 1, 0, 0] []).1 (KQ Tryd.prog Γ N (RetQ Tryd.prog Tryd.f23 (D.int .i64 (r))) (dig (bodyOf Tryd.f23) [1, 1, 0, 1, 0] []).2) (rest.length + 1) ⟨[(2, D.ptr 0 0), (3, D.ptr 1 0), (5, D.int .i64 ((i1 : Int)))], [Ob.box (Fact.c a0_), Ob.box (Fact.c a1_)]⟩ := by
  intro rest
  induction rest with
  | nil =>
    intro i1  hd1 h
    rw [d_spec_CompareFacts_L1] at h
    refine AWr_succ fun N1 hN1 hS1 => ?_
    have t := AW_N (N := N) (N' := N1) (K0 := (dig (bodyOf Tryd.f23) [1, 1, 0, 1, 0] []).2) (by kernel_rfl) hN1 (hE1  h)
    refine AW_go (n := 2000) [[none]] [.b false, .b false, .b false, .b false, .b false, .b false, .b false, .hl 0 [2, 3] [0, 1]] (.at_ (dig (bodyOf Tryd.f23) [1, 1, 1] []).1 (dig (bodyOf Tryd.f23) [1, 1, 1] []).2 ⟨[(2, D.ptr 0 0), (3, D.ptr 1 0)], [Ob.box (Fact.c a0_), Ob.box (Fact.c a1_)]⟩) hΓ mix (by kernel_rfl) (ow ((ltm_false tx (drop_nil hd1))) (ow ((ltm_false tx (drop_nil hd1))) (ow ((ltm_false tx (drop_nil hd1))) (ow ((ltm_false tx (drop_nil hd1))) (ow ((ltm_false tx (drop_nil hd1))) (ow ((ltm_false tx (drop_nil hd1))) (ow (show (false) = false from rfl) ow0))))))) ?_
    first | exact t | (simp only [List.map_append, List.map_cons, List.map_nil, List.map_set] at t ⊢; exact t)
  | cons x1_ xs1 ih1 =>
    intro i1  hd1 h
    rw [d_spec_CompareFacts_L1] at h
    refine AWr_succ fun N1 hN1 hS1 => ?_
    rcases den_if h with ⟨h36, h⟩ | ⟨h36, h⟩
    · obtain ⟨x37, h38, h⟩ := den_bind h
      obtain ⟨y39, h40, h⟩ := den_bind h
      rcases den_if h with ⟨h41, h⟩ | ⟨h41, h⟩
      · have h := den_some h
        subst h
        exact AW_go (n := 2000) [[none]] [.b true, .b true, .b true, .b true, .b true, .b true, .b true, .n 10, .row (tx x1_), .row (tx x37), .d (D.int .i64 (y39)), .b true] (.ret (D.int .i64 (y39))) hΓ mix (by kernel_rfl) (ow ((ltm_true tx (drop_cons hd1).2.1)) (ow ((ltm_true tx (drop_cons hd1).2.1)) (ow ((ltm_true tx (drop_cons hd1).2.1)) (ow ((ltm_true tx (drop_cons hd1).2.1)) (ow ((ltm_true tx (drop_cons hd1).2.1)) (ow ((ltm_true tx (drop_cons hd1).2.1)) (ow (h36) (ow (map_row tx 1 (drop_cons hd1).1 rfl) (ow (at_row tx 1 h38 rfl) (ow (d_spec_CompareAtoms_good h40) (ow (h41) ow0))))))))))) rfl
      · have t := ih1 (i1 + 1)  (drop_cons hd1).2.2 h
        refine AW_go (n := 2000) [[none]] [.b true, .b true, .b true, .b true, .b true, .b true, .b true, .n 10, .row (tx x1_), .row (tx x37), .d (D.int .i64 (y39)), .b false, .cn [2, 3, 5] [0, 1]] (.cont 0 ⟨[(2, D.ptr 0 0), (3, D.ptr 1 0), (5, D.int .i64 (IntKind.i64.wrap (((i1 : Int)) + (1))))], [Ob.box (Fact.c a0_), Ob.box (Fact.c a1_)]⟩) hΓ mix (by kernel_rfl) (ow ((ltm_true tx (drop_cons hd1).2.1)) (ow ((ltm_true tx (drop_cons hd1).2.1)) (ow ((ltm_true tx (drop_cons hd1).2.1)) (ow ((ltm_true tx (drop_cons hd1).2.1)) (ow ((ltm_true tx (drop_cons hd1).2.1)) (ow ((ltm_true tx (drop_cons hd1).2.1)) (ow (h36) (ow (map_row tx 1 (drop_cons hd1).1 rfl) (ow (at_row tx 1 h38 rfl) (ow (d_spec_CompareAtoms_good h40) (ow (h41) ow0))))))))))) ?_
        refine (congrFun hS1 _).mpr ?_
        rw [i64_succ (drop_cons hd1).2.1 hm1]
        first | exact t | (simp only [List.map_append, List.map_cons, List.map_nil, List.map_set] at t ⊢; exact t)
    · have t := AW_N (N := N) (N' := N1) (K0 := (dig (bodyOf Tryd.f23) [1, 1, 0, 1, 0] []).2) (by kernel_rfl) hN1 (hE1  h)
      refine AW_go (n := 2000) [[none]] [.b true, .b true, .b true, .b true, .b true, .b true, .b false, .hl 0 [2, 3] [0, 1]] (.at_ (dig (bodyOf Tryd.f23) [1, 1, 1] []).1 (dig (bodyOf Tryd.f23) [1, 1, 1] []).2 ⟨[(2, D.ptr 0 0), (3, D.ptr 1 0)], [Ob.box (Fact.c a0_), Ob.box (Fact.c a1_)]⟩) hΓ mix (by kernel_rfl) (ow ((ltm_true tx (drop_cons hd1).2.1)) (ow ((ltm_true tx (drop_cons hd1).2.1)) (ow ((ltm_true tx (drop_cons hd1).2.1)) (ow ((ltm_true tx (drop_cons hd1).2.1)) (ow ((ltm_true tx (drop_cons hd1).2.1)) (ow ((ltm_true tx (drop_cons hd1).2.1)) (ow (h36) ow0))))))) ?_
      first | exact t | (simp only [List.map_append, List.map_cons, List.map_nil, List.map_set] at t ⊢; exact t)
theorem d_spec_CompareFacts_good {a0_ : Fact} {a1_ : Fact} {r : Int} (h : d_spec_CompareFacts a0_ a1_ = some r) : Good Tryd.prog 23 [D.agg (Fact.c a0_), D.agg (Fact.c a1_)] (D.int .i64 (r)) := by
  refine Good.of (c := bodyOf Tryd.f23) Tryd.func23 rfl (by decide) (by simp [Tryd.f23]) ?_
  intro hr Γ hΓ
  have hΓ : Γ.nt = 61 := hΓ
  rw [d_spec_CompareFacts] at h
  refine (show AW Tryd.prog Γ (bodyOf Tryd.f23) (KQ Tryd.prog Γ (fun _ _ => False) (RetQ Tryd.prog Tryd.f23 (D.int .i64 (r))) []) _ from ?_)
  rcases den_if h with ⟨h1, h⟩ | ⟨h1, h⟩
  · obtain ⟨y2, h3, h⟩ := den_bind h
    have h := den_some h
    subst h
    exact AW_go (n := 2000) [[none]] [.b true, .d (D.int .i64 (y2))] (.ret (D.int .i64 (y2))) hΓ mix (by kernel_rfl) (ow (h1) (ow (d_spec_l1Cmp_good h3) ow0)) rfl
  · refine AW_go (n := 2000) [[none]] [.b false, .cn [2, 3, 5] [0, 1]] (.lp (dig (bodyOf Tryd.f23) [1, 1, 0, 1, 0, 0] []).1 (dig (bodyOf Tryd.f23) [1, 1, 0, 1, 0] []).2 ⟨[(2, D.ptr 0 0), (3, D.ptr 1 0), (5, D.int .i64 (0))], [Ob.box (Fact.c a0_), Ob.box (Fact.c a1_)]⟩) hΓ mix (by kernel_rfl) (ow (h1) ow0) (AW_st (by first | rfl | (simp only [List.map_append, List.map_cons, List.map_nil, List.map_set, List.map_replicate] <;> rfl)) (AW_of_r (d_spec_CompareFacts_L1w hΓ (fun h => ?_) (by have := (Rdb.sl (Rdb.agg (hr _ (List.mem_of_getElem? (i := 0) rfl)) (.sl ((a0_.args).map tx)) (by simp))).1; simpa using this) (a0_.args) 0  rfl h)))
    rcases den_if h with ⟨h42, h⟩ | ⟨h42, h⟩
    · have h := den_some h
      subst h
      exact AW_go (n := 2000) [[none]] [.b true] (.ret (D.int .i64 (-1))) hΓ mix (by kernel_rfl) (ow (h42) ow0) rfl
    · rcases den_if h with ⟨h43, h⟩ | ⟨h43, h⟩
      · have h := den_some h
        subst h
        exact AW_go (n := 2000) [[none]] [.b false, .b true] (.ret (D.int .i64 (1))) hΓ mix (by kernel_rfl) (ow (h42) (ow (h43) ow0)) rfl
      · have h := den_some h
        subst h
        exact AW_go (n := 2000) [[none]] [.b false, .b false] (.ret (D.int .i64 (0))) hΓ mix (by kernel_rfl) (ow (h42) (ow (h43) ow0)) rfl
def d_impl_FormatInt (a0_ : Int) : Option Bytes := ((d_strconv_Itoa (a0_)).bind fun y1 => (some (y1)))
theorem d_impl_FormatInt_good {a0_ : Int} {r : Bytes} (h : d_impl_FormatInt a0_ = some r) : Good Tryd.prog 47 [D.int .i64 (a0_)] (D.str (r)) := by
  refine Good.of (c := bodyOf Tryd.f47) Tryd.func47 rfl (by decide) (by simp [Tryd.f47]) ?_
  intro hr Γ hΓ
  have hΓ : Γ.nt = 5 := hΓ
  rw [d_impl_FormatInt] at h
  refine (show AW Tryd.prog Γ (bodyOf Tryd.f47) (KQ Tryd.prog Γ (fun _ _ => False) (RetQ Tryd.prog Tryd.f47 (D.str (r))) []) _ from ?_)
  obtain ⟨y1, h2, h⟩ := den_bind h
  have h := den_some h
  subst h
  exact AW_go (n := 2000) [[none]] [.d (D.str (y1))] (.ret (D.str (y1))) hΓ mix (by kernel_rfl) (ow (d_strconv_Itoa_good h2) ow0) rfl
def d_impl_ParseInt (a0_ : Bytes) : Option (Int × Bool) := (bif decide ((((a0_).length : Int) : Int) < (1)) then (some ((0, false))) else (bif decide ((((a0_).length : Int) : Int) > (4)) then (some ((0, false))) else ((d_strconv_Atoi (a0_)).bind fun y3 => (bif y3.2 then (some ((0, false))) else (bif decide ((y3.1 : Int) < (0)) then (some ((0, false))) else (bif decide ((y3.1 : Int) > (9999)) then (some ((0, false))) else ((d_impl_FormatInt (y3.1)).bind fun y8 => (bif !((y8 : Bytes) == (a0_)) then (some ((0, false))) else (some ((y3.1, true)))))))))))
theorem d_impl_ParseInt_good {a0_ : Bytes} {r : Int × Bool} (h : d_impl_ParseInt a0_ = some r) : Good Tryd.prog 93 [D.str (a0_)] (D.tup [D.int .i64 (r.1), D.bool (r.2)]) := by
  refine Good.of (c := bodyOf Tryd.f93) Tryd.func93 rfl (by decide) (by simp [Tryd.f93]) ?_
  intro hr Γ hΓ
  have hΓ : Γ.nt = 36 := hΓ
  rw [d_impl_ParseInt] at h
  refine (show AW Tryd.prog Γ (bodyOf Tryd.f93) (KQ Tryd.prog Γ (fun _ _ => False) (RetQ Tryd.prog Tryd.f93 (D.tup [D.int .i64 (r.1), D.bool (r.2)])) []) _ from ?_)
  rcases den_if h with ⟨h1, h⟩ | ⟨h1, h⟩
  · have h := den_some h
    subst h
    exact AW_go (n := 2000) [[none], [none]] [.b true, .b true, .b true, .b true, .b true] (.ret (D.tup [D.int .i64 (0), D.bool (false)])) hΓ mix (by kernel_rfl) (ow (h1) (ow (h1) (ow (h1) (ow (h1) (ow (show (true) = true from rfl) ow0))))) rfl
  · rcases den_if h with ⟨h2, h⟩ | ⟨h2, h⟩
    · have h := den_some h
      subst h
      exact AW_go (n := 2000) [[none], [none]] [.b false, .b false, .b false, .b false, .b true] (.ret (D.tup [D.int .i64 (0), D.bool (false)])) hΓ mix (by kernel_rfl) (ow (h1) (ow (h1) (ow (h1) (ow (h1) (ow (h2) ow0))))) rfl
    · obtain ⟨y3, h4, h⟩ := den_bind h
      rcases den_if h with ⟨h5, h⟩ | ⟨h5, h⟩
      · have h := den_some h
        subst h
        exact AW_go (n := 2000) [[none], [none]] [.b false, .b false, .b false, .b false, .b false, .d (D.tup [D.int .i64 (y3.1), D.ifc (y3.2)]), .b true, .b true, .b true, .b true, .b true, .b true, .b true, .b true, .b true, .b true, .b true, .b true] (.ret (D.tup [D.int .i64 (0), D.bool (false)])) hΓ mix (by kernel_rfl) (ow (h1) (ow (h1) (ow (h1) (ow (h1) (ow (h2) (ow (d_strconv_Atoi_good h4) (ow (h5) (ow (h5) (ow (h5) (ow (show (true) = true from rfl) (ow (show (true) = true from rfl) (ow (show (true) = true from rfl) (ow (show (true) = true from rfl) (ow (show (true) = true from rfl) (ow (show (true) = true from rfl) (ow (show (true) = true from rfl) (ow (show (true) = true from rfl) (ow (show (true) = true from rfl) ow0)))))))))))))))))) rfl
      · rcases den_if h with ⟨h6, h⟩ | ⟨h6, h⟩
        · have h := den_some h
          subst h
          exact AW_go (n := 2000) [[none], [none]] [.b false, .b false, .b false, .b false, .b false, .d (D.tup [D.int .i64 (y3.1), D.ifc (y3.2)]), .b false, .b false, .b false, .b true, .b true, .b true, .b true, .b true, .b true, .b true, .b true, .b true] (.ret (D.tup [D.int .i64 (0), D.bool (false)])) hΓ mix (by kernel_rfl) (ow (h1) (ow (h1) (ow (h1) (ow (h1) (ow (h2) (ow (d_strconv_Atoi_good h4) (ow (h5) (ow (h5) (ow (h5) (ow (h6) (ow (h6) (ow (h6) (ow (show (true) = true from rfl) (ow (show (true) = true from rfl) (ow (show (true) = true from rfl) (ow (show (true) = true from rfl) (ow (show (true) = true from rfl) (ow (show (true) = true from rfl) ow0)))))))))))))))))) rfl
        · rcases den_if h with ⟨h7, h⟩ | ⟨h7, h⟩
          · have h := den_some h
            subst h
            exact AW_go (n := 2000) [[none], [none]] [.b false, .b false, .b false, .b false, .b false, .d (D.tup [D.int .i64 (y3.1), D.ifc (y3.2)]), .b false, .b false, .b false, .b false, .b false, .b false, .b true, .b true, .b true, .b true, .b true, .b true] (.ret (D.tup [D.int .i64 (0), D.bool (false)])) hΓ mix (by kernel_rfl) (ow (h1) (ow (h1) (ow (h1) (ow (h1) (ow (h2) (ow (d_strconv_Atoi_good h4) (ow (h5) (ow (h5) (ow (h5) (ow (h6) (ow (h6) (ow (h6) (ow (h7) (ow (h7) (ow (h7) (ow (h7) (ow (h7) (ow (show (true) = true from rfl) ow0)))))))))))))))))) rfl
          · obtain ⟨y8, h9, h⟩ := den_bind h
            rcases den_if h with ⟨h10, h⟩ | ⟨h10, h⟩
            · have h := den_some h
              subst h
              exact AW_go (n := 2000) [[none], [none]] [.b false, .b false, .b false, .b false, .b false, .d (D.tup [D.int .i64 (y3.1), D.ifc (y3.2)]), .b false, .b false, .b false, .b false, .b false, .b false, .b false, .b false, .d (D.str (y8)), .b false, .b false, .b false, .b true] (.ret (D.tup [D.int .i64 (0), D.bool (false)])) hΓ mix (by kernel_rfl) (ow (h1) (ow (h1) (ow (h1) (ow (h1) (ow (h2) (ow (d_strconv_Atoi_good h4) (ow (h5) (ow (h5) (ow (h5) (ow (h6) (ow (h6) (ow (h6) (ow (h7) (ow (h7) (ow (d_impl_FormatInt_good h9) (ow (h7) (ow (h7) (ow (h7) (ow (h10) ow0))))))))))))))))))) rfl
            · have h := den_some h
              subst h
              exact AW_go (n := 2000) [[none], [none]] [.b false, .b false, .b false, .b false, .b false, .d (D.tup [D.int .i64 (y3.1), D.ifc (y3.2)]), .b false, .b false, .b false, .b false, .b false, .b false, .b false, .b false, .d (D.str (y8)), .b false, .b false, .b false, .b false] (.ret (D.tup [D.int .i64 (y3.1), D.bool (true)])) hΓ mix (by kernel_rfl) (ow (h1) (ow (h1) (ow (h1) (ow (h1) (ow (h2) (ow (d_strconv_Atoi_good h4) (ow (h5) (ow (h5) (ow (h5) (ow (h6) (ow (h6) (ow (h6) (ow (h7) (ow (h7) (ow (d_impl_FormatInt_good h9) (ow (h7) (ow (h7) (ow (h7) (ow (h10) ow0))))))))))))))))))) rfl
def d_impl_compareInts (a0_ : Int) (a1_ : Int) : Option Int := (bif decide ((a0_ : Int) < (a1_)) then (some (-1)) else (bif decide ((a0_ : Int) > (a1_)) then (some (1)) else (some (0))))
theorem d_impl_compareInts_good {a0_ : Int} {a1_ : Int} {r : Int} (h : d_impl_compareInts a0_ a1_ = some r) : Good Tryd.prog 58 [D.int .i64 (a0_), D.int .i64 (a1_)] (D.int .i64 (r)) := by
  refine Good.of (c := bodyOf Tryd.f58) Tryd.func58 rfl (by decide) (by simp [Tryd.f58]) ?_
  intro hr Γ hΓ
  have hΓ : Γ.nt = 13 := hΓ
  rw [d_impl_compareInts] at h
  refine (show AW Tryd.prog Γ (bodyOf Tryd.f58) (KQ Tryd.prog Γ (fun _ _ => False) (RetQ Tryd.prog Tryd.f58 (D.int .i64 (r))) []) _ from ?_)
  rcases den_if h with ⟨h1, h⟩ | ⟨h1, h⟩
  · have h := den_some h
    subst h
    exact AW_go (n := 2000) [[none]] [.b true] (.ret (D.int .i64 (-1))) hΓ mix (by kernel_rfl) (ow (h1) ow0) rfl
  · rcases den_if h with ⟨h2, h⟩ | ⟨h2, h⟩
    · have h := den_some h
      subst h
      exact AW_go (n := 2000) [[none]] [.b false, .b true] (.ret (D.int .i64 (1))) hΓ mix (by kernel_rfl) (ow (h1) (ow (h2) ow0)) rfl
    · have h := den_some h
      subst h
      exact AW_go (n := 2000) [[none]] [.b false, .b false] (.ret (D.int .i64 (0))) hΓ mix (by kernel_rfl) (ow (h1) (ow (h2) ow0)) rfl
def d_impl_CompareAtoms (a0_ : Bytes) (a1_ : Bytes) : Option Int := ((d_impl_ParseInt (a0_)).bind fun y1 => ((d_impl_ParseInt (a1_)).bind fun y3 => (bif y1.2 then (bif y3.2 then ((d_impl_compareInts (y1.1) (y3.1)).bind fun y7 => (some (y7))) else (some (-1))) else (bif y3.2 then (some (1)) else ((d_strings_Compare (a0_) (a1_)).bind fun y10 => (some (y10)))))))
theorem d_impl_CompareAtoms_good {a0_ : Bytes} {a1_ : Bytes} {r : Int} (h : d_impl_CompareAtoms a0_ a1_ = some r) : Good Tryd.prog 78 [D.str (a0_), D.str (a1_)] (D.int .i64 (r)) := by
  refine Good.of (c := bodyOf Tryd.f78) Tryd.func78 rfl (by decide) (by simp [Tryd.f78]) ?_
  intro hr Γ hΓ
  have hΓ : Γ.nt = 34 := hΓ
  rw [d_impl_CompareAtoms] at h
  refine (show AW Tryd.prog Γ (bodyOf Tryd.f78) (KQ Tryd.prog Γ (fun _ _ => False) (RetQ Tryd.prog Tryd.f78 (D.int .i64 (r))) []) _ from ?_)
  obtain ⟨y1, h2, h⟩ := den_bind h
  obtain ⟨y3, h4, h⟩ := den_bind h
  rcases den_if h with ⟨h5, h⟩ | ⟨h5, h⟩
  · rcases den_if h with ⟨h6, h⟩ | ⟨h6, h⟩
    · obtain ⟨y7, h8, h⟩ := den_bind h
      have h := den_some h
      subst h
      exact AW_go (n := 2000) [[none]] [.d (D.tup [D.int .i64 (y1.1), D.bool (y1.2)]), .d (D.tup [D.int .i64 (y3.1), D.bool (y3.2)]), .b true, .b true, .b true, .d (D.int .i64 (y7))] (.ret (D.int .i64 (y7))) hΓ mix (by kernel_rfl) (ow (d_impl_ParseInt_good h2) (ow (d_impl_ParseInt_good h4) (ow (h5) (ow (h5) (ow (h6) (ow (d_impl_compareInts_good h8) ow0)))))) rfl
    · have h := den_some h
      subst h
      exact AW_go (n := 2000) [[none]] [.d (D.tup [D.int .i64 (y1.1), D.bool (y1.2)]), .d (D.tup [D.int .i64 (y3.1), D.bool (y3.2)]), .b true, .b true, .b false, .b true] (.ret (D.int .i64 (-1))) hΓ mix (by kernel_rfl) (ow (d_impl_ParseInt_good h2) (ow (d_impl_ParseInt_good h4) (ow (h5) (ow (h5) (ow (h6) (ow (h5) ow0)))))) rfl
  · rcases den_if h with ⟨h9, h⟩ | ⟨h9, h⟩
    · have h := den_some h
      subst h
      exact AW_go (n := 2000) [[none]] [.d (D.tup [D.int .i64 (y1.1), D.bool (y1.2)]), .d (D.tup [D.int .i64 (y3.1), D.bool (y3.2)]), .b false, .b false, .b false, .b false, .b true] (.ret (D.int .i64 (1))) hΓ mix (by kernel_rfl) (ow (d_impl_ParseInt_good h2) (ow (d_impl_ParseInt_good h4) (ow (h5) (ow (h5) (ow (show (false) = false from rfl) (ow (h5) (ow (h9) ow0))))))) rfl
    · obtain ⟨y10, h11, h⟩ := den_bind h
      have h := den_some h
      subst h
      exact AW_go (n := 2000) [[none]] [.d (D.tup [D.int .i64 (y1.1), D.bool (y1.2)]), .d (D.tup [D.int .i64 (y3.1), D.bool (y3.2)]), .b false, .b false, .b false, .b false, .b false, .d (D.int .i64 (y10))] (.ret (D.int .i64 (y10))) hΓ mix (by kernel_rfl) (ow (d_impl_ParseInt_good h2) (ow (d_impl_ParseInt_good h4) (ow (h5) (ow (h5) (ow (show (false) = false from rfl) (ow (h5) (ow (h9) (ow (d_strings_Compare_good h11) ow0)))))))) rfl
def d_impl_CompareFacts_L1 (a0_ : Fact) (a1_ : Fact) (k1 : Option Int) : List Bytes → Nat → Option Int
  | [], i1 => (k1 )
  | x1_ :: xs1, i1 => (bif decide (((i1 : Int) : Int) < ((((a1_.args).map tx).length : Int))) then ((atI (a1_.args) ((i1 : Int))).bind fun x37 => ((d_impl_CompareAtoms (x1_) (x37)).bind fun y39 => (bif (y39 : Int) != (0) then (some (y39)) else (d_impl_CompareFacts_L1 a0_ a1_ k1 xs1 (i1 + 1) )))) else (k1 ))
def d_impl_CompareFacts (a0_ : Fact) (a1_ : Fact) : Option Int := ((d_strings_Compare (a0_.rel) (a1_.rel)).bind fun y1 => (bif (y1 : Int) != (0) then (some (y1)) else (d_impl_CompareFacts_L1 a0_ a1_ ((d_impl_compareInts ((((a0_.args).map tx).length : Int)) ((((a1_.args).map tx).length : Int))).bind fun y42 => (some (y42))) (a0_.args) 0 )))
theorem d_impl_CompareFacts_L1w {Γ : Ctx} (hΓ : Γ.nt = 51) {N : Nat → St → Prop} {a0_ : Fact} {a1_ : Fact} {r : Int} {k1 : Option Int} (hE1 : k1 = some r → AW Tryd.prog Γ (dig (bodyOf Tryd.f57) [1, 1, 1] []).1 (KQ Tryd.prog Γ N (RetQ Tryd.prog Tryd.f57 (D.int .i64 (r))) (dig (bodyOf Tryd.f57) [1, 1, 1] []).2) ⟨[(2, D.ptr 0 0), (3, D.ptr 1 0)], [Ob.box (Fact.c a0_), Ob.box (Fact.c a1_)]⟩) (hm1 : (a0_.args).length ≤ maxLen) : ∀ (rest : List Bytes) (i1 : Nat) , (a0_.args).drop i1 = rest → d_impl_CompareFacts_L1 a0_ a1_ k1 rest i1  = some r → AWr Tryd.prog Γ (dig (bodyOf Tryd.f57) [1, 1, 0, 1, 0, 0] []).1 (KQ Tryd.prog Γ N (RetQ Tryd.prog Tryd.f57 (D.int .i64 (r))) (dig (bodyOf Tryd.f57) [1, 1, 0, 1, 0] []).2) (rest.length + 1) ⟨[(2, D.ptr 0 0), (3, D.ptr 1 0), (6, D.int .i64 ((i1 : Int)))], [Ob.box (Fact.c a0_), Ob.box (Fact.c a1_)]⟩ := by
  intro rest
  induction rest with
  | nil =>
    intro i1  hd1 h
    rw [d_impl_CompareFacts_L1] at h
    refine AWr_succ fun N1 hN1 hS1 => ?_
    have t := AW_N (N := N) (N' := N1) (K0 := (dig (bodyOf Tryd.f57) [1, 1, 0, 1, 0] []).2) (by kernel_rfl) hN1 (hE1  h)
    refine AW_go (n := 2000) [[none]] [.b false, .b false, .b false, .b false, .b false, .b false, .b false, .hl 0 [2, 3] [0, 1]] (.at_ (dig (bodyOf Tryd.f57) [1, 1, 1] []).1 (dig (bodyOf Tryd.f57) [1, 1, 1] []).2 ⟨[(2, D.ptr 0 0), (3, D.ptr 1 0)], [Ob.box (Fact.c a0_), Ob.box (Fact.c a1_)]⟩) hΓ mix (by kernel_rfl) (ow ((ltm_false tx (drop_nil hd1))) (ow ((ltm_false tx (drop_nil hd1))) (ow ((ltm_false tx (drop_nil hd1))) (ow ((ltm_false tx (drop_nil hd1))) (ow ((ltm_false tx (drop_nil hd1))) (ow ((ltm_false tx (drop_nil hd1))) (ow (show (false) = false from rfl) ow0))))))) ?_
    first | exact t | (simp only [List.map_append, List.map_cons, List.map_nil, List.map_set] at t ⊢; exact t)
  | cons x1_ xs1 ih1 =>
    intro i1  hd1 h
    rw [d_impl_CompareFacts_L1] at h
    refine AWr_succ fun N1 hN1 hS1 => ?_
    rcases den_if h with ⟨h36, h⟩ | ⟨h36, h⟩
    · obtain ⟨x37, h38, h⟩ := den_bind h
      obtain ⟨y39, h40, h⟩ := den_bind h
      rcases den_if h with ⟨h41, h⟩ | ⟨h41, h⟩
      · have h := den_some h
        subst h
        exact AW_go (n := 2000) [[none]] [.b true, .b true, .b true, .b true, .b true, .b true, .b true, .n 10, .row (tx x1_), .row (tx x37), .d (D.int .i64 (y39)), .b true] (.ret (D.int .i64 (y39))) hΓ mix (by kernel_rfl) (ow ((ltm_true tx (drop_cons hd1).2.1)) (ow ((ltm_true tx (drop_cons hd1).2.1)) (ow ((ltm_true tx (drop_cons hd1).2.1)) (ow ((ltm_true tx (drop_cons hd1).2.1)) (ow ((ltm_true tx (drop_cons hd1).2.1)) (ow ((ltm_true tx (drop_cons hd1).2.1)) (ow (h36) (ow (map_row tx 1 (drop_cons hd1).1 rfl) (ow (at_row tx 1 h38 rfl) (ow (d_impl_CompareAtoms_good h40) (ow (h41) ow0))))))))))) rfl
      · have t := ih1 (i1 + 1)  (drop_cons hd1).2.2 h
        refine AW_go (n := 2000) [[none]] [.b true, .b true, .b true, .b true, .b true, .b true, .b true, .n 10, .row (tx x1_), .row (tx x37), .d (D.int .i64 (y39)), .b false, .cn [2, 3, 6] [0, 1]] (.cont 0 ⟨[(2, D.ptr 0 0), (3, D.ptr 1 0), (6, D.int .i64 (IntKind.i64.wrap (((i1 : Int)) + (1))))], [Ob.box (Fact.c a0_), Ob.box (Fact.c a1_)]⟩) hΓ mix (by kernel_rfl) (ow ((ltm_true tx (drop_cons hd1).2.1)) (ow ((ltm_true tx (drop_cons hd1).2.1)) (ow ((ltm_true tx (drop_cons hd1).2.1)) (ow ((ltm_true tx (drop_cons hd1).2.1)) (ow ((ltm_true tx (drop_cons hd1).2.1)) (ow ((ltm_true tx (drop_cons hd1).2.1)) (ow (h36) (ow (map_row tx 1 (drop_cons hd1).1 rfl) (ow (at_row tx 1 h38 rfl) (ow (d_impl_CompareAtoms_good h40) (ow (h41) ow0))))))))))) ?_
        refine (congrFun hS1 _).mpr ?_
        rw [i64_succ (drop_cons hd1).2.1 hm1]
        first | exact t | (simp only [List.map_append, List.map_cons, List.map_nil, List.map_set] at t ⊢; exact t)
    · have t := AW_N (N := N) (N' := N1) (K0 := (dig (bodyOf Tryd.f57) [1, 1, 0, 1, 0] []).2) (by kernel_rfl) hN1 (hE1  h)
      refine AW_go (n := 2000) [[none]] [.b true, .b true, .b true, .b true, .b true, .b true, .b false, .hl 0 [2, 3] [0, 1]] (.at_ (dig (bodyOf Tryd.f57) [1, 1, 1] []).1 (dig (bodyOf Tryd.f57) [1, 1, 1] []).2 ⟨[(2, D.ptr 0 0), (3, D.ptr 1 0)], [Ob.box (Fact.c a0_), Ob.box (Fact.c a1_)]⟩) hΓ mix (by kernel_rfl) (ow ((ltm_true tx (drop_cons hd1).2.1)) (ow ((ltm_true tx (drop_cons hd1).2.1)) (ow ((ltm_true tx (drop_cons hd1).2.1)) (ow ((ltm_true tx (drop_cons hd1).2.1)) (ow ((ltm_true tx (drop_cons hd1).2.1)) (ow ((ltm_true tx (drop_cons hd1).2.1)) (ow (h36) ow0))))))) ?_
      first | exact t | (simp only [List.map_append, List.map_cons, List.map_nil, List.map_set] at t ⊢; exact t)
theorem d_impl_CompareFacts_good {a0_ : Fact} {a1_ : Fact} {r : Int} (h : d_impl_CompareFacts a0_ a1_ = some r) : Good Tryd.prog 57 [D.agg (Fact.c a0_), D.agg (Fact.c a1_)] (D.int .i64 (r)) := by
  refine Good.of (c := bodyOf Tryd.f57) Tryd.func57 rfl (by decide) (by simp [Tryd.f57]) ?_
  intro hr Γ hΓ
  have hΓ : Γ.nt = 51 := hΓ
  rw [d_impl_CompareFacts] at h
  refine (show AW Tryd.prog Γ (bodyOf Tryd.f57) (KQ Tryd.prog Γ (fun _ _ => False) (RetQ Tryd.prog Tryd.f57 (D.int .i64 (r))) []) _ from ?_)
  obtain ⟨y1, h2, h⟩ := den_bind h
  rcases den_if h with ⟨h3, h⟩ | ⟨h3, h⟩
  · have h := den_some h
    subst h
    exact AW_go (n := 2000) [[none]] [.d (D.int .i64 (y1)), .b true] (.ret (D.int .i64 (y1))) hΓ mix (by kernel_rfl) (ow (d_strings_Compare_good h2) (ow (h3) ow0)) rfl
  · refine AW_go (n := 2000) [[none]] [.d (D.int .i64 (y1)), .b false, .cn [2, 3, 6] [0, 1]] (.lp (dig (bodyOf Tryd.f57) [1, 1, 0, 1, 0, 0] []).1 (dig (bodyOf Tryd.f57) [1, 1, 0, 1, 0] []).2 ⟨[(2, D.ptr 0 0), (3, D.ptr 1 0), (6, D.int .i64 (0))], [Ob.box (Fact.c a0_), Ob.box (Fact.c a1_)]⟩) hΓ mix (by kernel_rfl) (ow (d_strings_Compare_good h2) (ow (h3) ow0)) (AW_st (by first | rfl | (simp only [List.map_append, List.map_cons, List.map_nil, List.map_set, List.map_replicate] <;> rfl)) (AW_of_r (d_impl_CompareFacts_L1w hΓ (fun h => ?_) (by have := (Rdb.sl (Rdb.agg (hr _ (List.mem_of_getElem? (i := 0) rfl)) (.sl ((a0_.args).map tx)) (by simp))).1; simpa using this) (a0_.args) 0  rfl h)))
    obtain ⟨y42, h43, h⟩ := den_bind h
    have h := den_some h
    subst h
    exact AW_go (n := 2000) [[none]] [.d (D.int .i64 (y42))] (.ret (D.int .i64 (y42))) hΓ mix (by kernel_rfl) (ow (d_impl_compareInts_good h43) ow0) rfl
def d_spec_l1Texts (a0_ : List Bytes) : Option (List Bytes) := (bif room ((([] : List (List D))).length + ((a0_).map tx).length) 16 then (some ((([] : List Bytes)) ++ (a0_))) else none)
theorem d_spec_l1Texts_good {a0_ : List Bytes} {r : List Bytes} (h : d_spec_l1Texts a0_ = some r) : Good Tryd.prog 81 [D.sl ((a0_).map tx)] (D.fr 9 1 ((r).map tx)) := by
  refine Good.of (c := bodyOf Tryd.f81) Tryd.func81 rfl (by decide) (by simp [Tryd.f81]) ?_
  intro hr Γ hΓ
  have hΓ : Γ.nt = 6 := hΓ
  rw [d_spec_l1Texts] at h
  refine (show AW Tryd.prog Γ (bodyOf Tryd.f81) (KQ Tryd.prog Γ (fun _ _ => False) (RetQ Tryd.prog Tryd.f81 (D.fr 9 1 ((r).map tx))) []) _ from ?_)
  obtain ⟨h1, h⟩ := den_ok h
  have h := den_some h
  subst h
  exact AW_go (n := 2000) [[some (9, 1)]] [.pro 2, .fl true] (.ret (D.fr 9 1 ((([] : List (List D))) ++ ((a0_).map tx)))) hΓ mix (by kernel_rfl) (ow (room_ok h1) (ow (show (∀ r ∈ ((a0_).map tx), r.length = 1) ∧ (true = true → D.flatRows ((a0_).map tx) = true) from ⟨by simp, by simp [D.flatRows, D.flat]⟩) ow0)) (by first | rfl | (simp only [List.map_append, List.map_cons, List.map_nil, List.map_set] <;> rfl))
def d_spec_l2Copy (a0_ : Fact) : Option Fact := ((d_spec_l1Texts (a0_.args)).bind fun y1 => (some ((⟨a0_.rel, y1⟩ : Fact))))
theorem d_spec_l2Copy_good {a0_ : Fact} {r : Fact} (h : d_spec_l2Copy a0_ = some r) : Good Tryd.prog 62 [D.agg (Fact.c a0_)] (D.agg [D.str (r.rel), D.fr 9 1 ((r.args).map tx)]) := by
  refine Good.of (c := bodyOf Tryd.f62) Tryd.func62 rfl (by decide) (by simp [Tryd.f62]) ?_
  intro hr Γ hΓ
  have hΓ : Γ.nt = 9 := hΓ
  rw [d_spec_l2Copy] at h
  refine (show AW Tryd.prog Γ (bodyOf Tryd.f62) (KQ Tryd.prog Γ (fun _ _ => False) (RetQ Tryd.prog Tryd.f62 (D.agg [D.str (r.rel), D.fr 9 1 ((r.args).map tx)])) []) _ from ?_)
  obtain ⟨y1, h2, h⟩ := den_bind h
  have h := den_some h
  subst h
  exact AW_go (n := 2000) [[none, some (9, 1)]] [.n 5, .d (D.fr 9 1 ((y1).map tx))] (.ret (D.agg [D.str (a0_.rel), D.fr 9 1 ((y1).map tx)])) hΓ mix (by kernel_rfl) (ow (d_spec_l1Texts_good h2) ow0) rfl
def d_spec_FactsIn_L1 (a0_ : List Stamp) (k1 : List Fact → Option (List Fact)) : List Stamp → Nat → List Fact → Option (List Fact)
  | [], i1, w1_0 => (k1 (w1_0))
  | x1_ :: xs1, i1, w1_0 => ((d_spec_l2Copy (x1_.fact)).bind fun y27 => (bif room (((w1_0).map Fact.c).length + ([[D.str (y27.rel), D.sl ((y27.args).map tx)]]).length) 40 then (d_spec_FactsIn_L1 a0_ k1 xs1 (i1 + 1) ((w1_0) ++ ([y27]))) else none))
def d_spec_FactsIn (a0_ : List Stamp) : Option (List Fact) := (d_spec_FactsIn_L1 a0_ (fun (q1_0 : List Fact) => (some (q1_0))) (a0_) 0 (([] : List Fact)))
theorem d_spec_FactsIn_L1w {Γ : Ctx} (hΓ : Γ.nt = 22) {N : Nat → St → Prop} {a0_ : List Stamp} {r : List Fact} {k1 : List Fact → Option (List Fact)} (hE1 : ∀ (q1_0 : List Fact), k1 q1_0 = some r → AW Tryd.prog Γ (dig (bodyOf Tryd.f32) [1, 1, 1] []).1 (KQ Tryd.prog Γ N (RetQ Tryd.prog Tryd.f32 (D.fr 61 2 ((r).map Fact.c))) (dig (bodyOf Tryd.f32) [1, 1, 1] []).2) ⟨[(3, D.acc 0)], [Ob.row .uq 61 2 ((q1_0).map Fact.c)]⟩) (hm1 : (a0_).length ≤ maxLen) : ∀ (rest : List Stamp) (i1 : Nat) (w1_0 : List Fact), (a0_).drop i1 = rest → d_spec_FactsIn_L1 a0_ k1 rest i1 w1_0 = some r → AWr Tryd.prog Γ (dig (bodyOf Tryd.f32) [1, 1, 0, 1, 0, 0] []).1 (KQ Tryd.prog Γ N (RetQ Tryd.prog Tryd.f32 (D.fr 61 2 ((r).map Fact.c))) (dig (bodyOf Tryd.f32) [1, 1, 0, 1, 0] []).2) (rest.length + 1) ⟨[(0, D.sl ((a0_).map Stamp.c)), (3, D.acc 0), (4, D.int .i64 ((i1 : Int)))], [Ob.row .uq 61 2 ((w1_0).map Fact.c)]⟩ := by
  intro rest
  induction rest with
  | nil =>
    intro i1 w1_0 hd1 h
    rw [d_spec_FactsIn_L1] at h
    refine AWr_succ fun N1 hN1 hS1 => ?_
    have t := AW_N (N := N) (N' := N1) (K0 := (dig (bodyOf Tryd.f32) [1, 1, 0, 1, 0] []).2) (by kernel_rfl) hN1 (hE1 (w1_0) h)
    refine AW_go (n := 2000) [[some (61, 2)]] [.b false, .hl 0 [3] [0]] (.at_ (dig (bodyOf Tryd.f32) [1, 1, 1] []).1 (dig (bodyOf Tryd.f32) [1, 1, 1] []).2 ⟨[(3, D.acc 0)], [Ob.row .uq 61 2 ((w1_0).map Fact.c)]⟩) hΓ mix (by kernel_rfl) (ow ((ltm_false Stamp.c (drop_nil hd1))) ow0) ?_
    first | exact t | (simp only [List.map_append, List.map_cons, List.map_nil, List.map_set] at t ⊢; exact t)
  | cons x1_ xs1 ih1 =>
    intro i1 w1_0 hd1 h
    rw [d_spec_FactsIn_L1] at h
    refine AWr_succ fun N1 hN1 hS1 => ?_
    obtain ⟨y27, h28, h⟩ := den_bind h
    obtain ⟨h29, h⟩ := den_ok h
    have t := ih1 (i1 + 1) ((w1_0) ++ ([y27])) (drop_cons hd1).2.2 h
    refine AW_go (n := 2000) [[some (61, 2)]] [.b true, .row (Stamp.c x1_), .d (D.agg [D.str (y27.rel), D.fr 9 1 ((y27.args).map tx)]), .cn [0, 3, 4] [3]] (.cont 0 ⟨[(0, D.sl ((a0_).map Stamp.c)), (3, D.acc 0), (4, D.int .i64 (IntKind.i64.wrap (((i1 : Int)) + (1))))], [Ob.row .uq 61 2 (((w1_0).map Fact.c) ++ ([[D.str (y27.rel), D.sl ((y27.args).map tx)]]))]⟩) hΓ mix (by kernel_rfl) (ow ((ltm_true Stamp.c (drop_cons hd1).2.1)) (ow (map_row Stamp.c 3 (drop_cons hd1).1 rfl) (ow (d_spec_l2Copy_good h28) (ow (room_ok h29) ow0)))) ?_
    refine (congrFun hS1 _).mpr ?_
    rw [i64_succ (drop_cons hd1).2.1 hm1]
    first | exact t | (simp only [List.map_append, List.map_cons, List.map_nil, List.map_set] at t ⊢; exact t)
theorem d_spec_FactsIn_good {a0_ : List Stamp} {r : List Fact} (h : d_spec_FactsIn a0_ = some r) : Good Tryd.prog 32 [D.sl ((a0_).map Stamp.c)] (D.fr 61 2 ((r).map Fact.c)) := by
  refine Good.of (c := bodyOf Tryd.f32) Tryd.func32 rfl (by decide) (by simp [Tryd.f32]) ?_
  intro hr Γ hΓ
  have hΓ : Γ.nt = 22 := hΓ
  rw [d_spec_FactsIn] at h
  refine (show AW Tryd.prog Γ (bodyOf Tryd.f32) (KQ Tryd.prog Γ (fun _ _ => False) (RetQ Tryd.prog Tryd.f32 (D.fr 61 2 ((r).map Fact.c))) []) _ from ?_)
  refine AW_go (n := 2000) [[some (61, 2)]] [.cn [0, 3, 4] [0]] (.lp (dig (bodyOf Tryd.f32) [1, 1, 0, 1, 0, 0] []).1 (dig (bodyOf Tryd.f32) [1, 1, 0, 1, 0] []).2 ⟨[(0, D.sl ((a0_).map Stamp.c)), (3, D.acc 0), (4, D.int .i64 (0))], [Ob.row .uq 61 2 (([] : List (List D)))]⟩) hΓ mix (by kernel_rfl) ow0 (AW_st (by first | rfl | (simp only [List.map_append, List.map_cons, List.map_nil, List.map_set, List.map_replicate] <;> rfl)) (AW_of_r (d_spec_FactsIn_L1w hΓ (fun q1_0 h => ?_) (by have := (Rdb.sl (hr _ (List.mem_of_getElem? (i := 0) rfl))).1; simpa using this) (a0_) 0 (([] : List Fact)) rfl h)))
  have h := den_some h
  subst h
  exact AW_go (n := 2000) [[some (61, 2)]] [] (.ret (D.fr 61 2 ((q1_0).map Fact.c))) hΓ mix (by kernel_rfl) ow0 rfl
def d_spec_IsAtom_L1 (a0_ : Bytes) (k1 : Option Bool) : Nat → Int → Option Bool
  | 0, _ => none
  | n1 + 1, v1_3 => (bif decide ((v1_3 : Int) < (((a0_).length : Int))) then ((atI (a0_) (v1_3)).bind fun b29 => ((d_spec_l1In (IntKind.i64.wrap (b29.toNat)) (97) (122)).bind fun y31 => (bif !(y31) then ((d_spec_l1In (IntKind.i64.wrap (b29.toNat)) (48) (57)).bind fun y34 => (bif !(y34) then (some (false)) else (d_spec_IsAtom_L1 a0_ k1 n1 (IntKind.i64.wrap ((v1_3) + (1)))))) else (d_spec_IsAtom_L1 a0_ k1 n1 (IntKind.i64.wrap ((v1_3) + (1))))))) else (k1 ))
def d_spec_IsAtom (a0_ : Bytes) : Option Bool := (d_spec_IsAtom_L1 a0_ ((d_spec_l1In (((a0_).length : Int)) (1) (8)).bind fun y37 => (some (y37))) fuel (0))
theorem d_spec_IsAtom_L1w {Γ : Ctx} (hΓ : Γ.nt = 27) {N : Nat → St → Prop} {a0_ : Bytes} {r : Bool} {k1 : Option Bool} (hE1 : k1 = some r → AW Tryd.prog Γ (dig (bodyOf Tryd.f80) [1, 1] []).1 (KQ Tryd.prog Γ N (RetQ Tryd.prog Tryd.f80 (D.bool (r))) (dig (bodyOf Tryd.f80) [1, 1] []).2) ⟨[(0, D.str (a0_))], []⟩) : ∀ (n1 : Nat) (v1_3 : Int), d_spec_IsAtom_L1 a0_ k1 n1 v1_3 = some r → AWr Tryd.prog Γ (dig (bodyOf Tryd.f80) [1, 0, 1, 0, 0] []).1 (KQ Tryd.prog Γ N (RetQ Tryd.prog Tryd.f80 (D.bool (r))) (dig (bodyOf Tryd.f80) [1, 0, 1, 0] []).2) n1 ⟨[(0, D.str (a0_)), (3, D.int .i64 (v1_3))], []⟩ := by
  intro n
  induction n with
  | zero => intro v1_3 h; simp [d_spec_IsAtom_L1] at h
  | succ n1 ih1 =>
    intro v1_3 h
    rw [d_spec_IsAtom_L1] at h
    refine AWr_succ fun N1 hN1 hS1 => ?_
    rcases den_if h with ⟨h28, h⟩ | ⟨h28, h⟩
    · obtain ⟨b29, h30, h⟩ := den_bind h
      obtain ⟨y31, h32, h⟩ := den_bind h
      rcases den_if h with ⟨h33, h⟩ | ⟨h33, h⟩
      · obtain ⟨y34, h35, h⟩ := den_bind h
        rcases den_if h with ⟨h36, h⟩ | ⟨h36, h⟩
        · have h := den_some h
          subst h
          exact AW_go (n := 2000) [[none]] [.b true, .ch b29, .d (D.bool (y31)), .b true, .b true, .b true, .ch b29, .b true, .b true, .d (D.bool (y34)), .b true, .b true, .b true] (.ret (D.bool (false))) hΓ mix (by kernel_rfl) (ow (h28) (ow (at_str h30) (ow (d_spec_l1In_good h32) (ow (h33) (ow (h33) (ow (h33) (ow (at_str h30) (ow (h33) (ow (h33) (ow (d_spec_l1In_good h35) (ow (h33) (ow (h33) (ow (h36) ow0))))))))))))) rfl
        · have t := ih1 (IntKind.i64.wrap ((v1_3) + (1))) h
          refine AW_go (n := 2000) [[none]] [.b true, .ch b29, .d (D.bool (y31)), .b true, .b true, .b true, .ch b29, .b true, .b true, .d (D.bool (y34)), .b true, .b true, .b false, .cn [0, 3] []] (.cont 0 ⟨[(0, D.str (a0_)), (3, D.int .i64 (IntKind.i64.wrap ((v1_3) + (1))))], []⟩) hΓ mix (by kernel_rfl) (ow (h28) (ow (at_str h30) (ow (d_spec_l1In_good h32) (ow (h33) (ow (h33) (ow (h33) (ow (at_str h30) (ow (h33) (ow (h33) (ow (d_spec_l1In_good h35) (ow (h33) (ow (h33) (ow (h36) ow0))))))))))))) ?_
          refine (congrFun hS1 _).mpr ?_
          first | exact t | (simp only [List.map_append, List.map_cons, List.map_nil, List.map_set] at t ⊢; exact t)
      · have t := ih1 (IntKind.i64.wrap ((v1_3) + (1))) h
        refine AW_go (n := 2000) [[none]] [.b true, .ch b29, .d (D.bool (y31)), .b false, .b false, .b false, .b false, .b false, .b false, .b false, .b false, .cn [0, 3] []] (.cont 0 ⟨[(0, D.str (a0_)), (3, D.int .i64 (IntKind.i64.wrap ((v1_3) + (1))))], []⟩) hΓ mix (by kernel_rfl) (ow (h28) (ow (at_str h30) (ow (d_spec_l1In_good h32) (ow (h33) (ow (h33) (ow (h33) (ow (h33) (ow (h33) (ow (h33) (ow (h33) (ow (show (false) = false from rfl) ow0))))))))))) ?_
        refine (congrFun hS1 _).mpr ?_
        first | exact t | (simp only [List.map_append, List.map_cons, List.map_nil, List.map_set] at t ⊢; exact t)
    · have t := AW_N (N := N) (N' := N1) (K0 := (dig (bodyOf Tryd.f80) [1, 0, 1, 0] []).2) (by kernel_rfl) hN1 (hE1  h)
      refine AW_go (n := 2000) [[none]] [.b false, .hl 0 [0] []] (.at_ (dig (bodyOf Tryd.f80) [1, 1] []).1 (dig (bodyOf Tryd.f80) [1, 1] []).2 ⟨[(0, D.str (a0_))], []⟩) hΓ mix (by kernel_rfl) (ow (h28) ow0) ?_
      first | exact t | (simp only [List.map_append, List.map_cons, List.map_nil, List.map_set] at t ⊢; exact t)
theorem d_spec_IsAtom_good {a0_ : Bytes} {r : Bool} (h : d_spec_IsAtom a0_ = some r) : Good Tryd.prog 80 [D.str (a0_)] (D.bool (r)) := by
  refine Good.of (c := bodyOf Tryd.f80) Tryd.func80 rfl (by decide) (by simp [Tryd.f80]) ?_
  intro hr Γ hΓ
  have hΓ : Γ.nt = 27 := hΓ
  rw [d_spec_IsAtom] at h
  refine (show AW Tryd.prog Γ (bodyOf Tryd.f80) (KQ Tryd.prog Γ (fun _ _ => False) (RetQ Tryd.prog Tryd.f80 (D.bool (r))) []) _ from ?_)
  refine AW_go (n := 2000) [[none]] [.cn [0, 3] []] (.lp (dig (bodyOf Tryd.f80) [1, 0, 1, 0, 0] []).1 (dig (bodyOf Tryd.f80) [1, 0, 1, 0] []).2 ⟨[(0, D.str (a0_)), (3, D.int .i64 (0))], []⟩) hΓ mix (by kernel_rfl) ow0 (AW_st (by first | rfl | (simp only [List.map_append, List.map_cons, List.map_nil, List.map_set, List.map_replicate] <;> rfl)) (AW_of_r (d_spec_IsAtom_L1w hΓ (fun h => ?_) fuel (0) h)))
  obtain ⟨y37, h38, h⟩ := den_bind h
  have h := den_some h
  subst h
  exact AW_go (n := 2000) [[none]] [.d (D.bool (y37))] (.ret (D.bool (y37))) hΓ mix (by kernel_rfl) (ow (d_spec_l1In_good h38) ow0) rfl
def d_spec_IsName (a0_ : Bytes) : Option Bool := ((d_spec_IsAtom (a0_)).bind fun y1 => (bif y1 then ((atI (a0_) (0)).bind fun b4 => ((d_spec_l1In (IntKind.i64.wrap (b4.toNat)) (97) (122)).bind fun y6 => (some (y6)))) else (some (false))))
theorem d_spec_IsName_good {a0_ : Bytes} {r : Bool} (h : d_spec_IsName a0_ = some r) : Good Tryd.prog 66 [D.str (a0_)] (D.bool (r)) := by
  refine Good.of (c := bodyOf Tryd.f66) Tryd.func66 rfl (by decide) (by simp [Tryd.f66]) ?_
  intro hr Γ hΓ
  have hΓ : Γ.nt = 11 := hΓ
  rw [d_spec_IsName] at h
  refine (show AW Tryd.prog Γ (bodyOf Tryd.f66) (KQ Tryd.prog Γ (fun _ _ => False) (RetQ Tryd.prog Tryd.f66 (D.bool (r))) []) _ from ?_)
  obtain ⟨y1, h2, h⟩ := den_bind h
  rcases den_if h with ⟨h3, h⟩ | ⟨h3, h⟩
  · obtain ⟨b4, h5, h⟩ := den_bind h
    obtain ⟨y6, h7, h⟩ := den_bind h
    have h := den_some h
    subst h
    exact AW_go (n := 2000) [[none]] [.d (D.bool (y1)), .b true, .b true, .ch b4, .b true, .b true, .d (D.bool (y6)), .b true] (.ret (D.bool (y6))) hΓ mix (by kernel_rfl) (ow (d_spec_IsAtom_good h2) (ow (h3) (ow (h3) (ow (at_str h5) (ow (h3) (ow (h3) (ow (d_spec_l1In_good h7) (ow (h3) ow0)))))))) rfl
  · have h := den_some h
    subst h
    exact AW_go (n := 2000) [[none]] [.d (D.bool (y1)), .b false, .b false, .b false, .b false, .b false] (.ret (D.bool (false))) hΓ mix (by kernel_rfl) (ow (d_spec_IsAtom_good h2) (ow (h3) (ow (h3) (ow (h3) (ow (h3) (ow (h3) ow0)))))) rfl
def d_spec_IsFact_L1 (a0_ : Fact) (k1 : Option Bool) : List Bytes → Nat → Option Bool
  | [], i1 => (k1 )
  | x1_ :: xs1, i1 => ((d_spec_IsAtom (x1_)).bind fun y21 => (bif !(y21) then (some (false)) else (d_spec_IsFact_L1 a0_ k1 xs1 (i1 + 1) )))
def d_spec_IsFact (a0_ : Fact) : Option Bool := (d_spec_IsFact_L1 a0_ ((d_spec_IsName (a0_.rel)).bind fun y24 => (bif y24 then (some (decide (((((a0_.args).map tx).length : Int) : Int) ≤ (3)))) else (some (false)))) (a0_.args) 0 )
theorem d_spec_IsFact_L1w {Γ : Ctx} (hΓ : Γ.nt = 27) {N : Nat → St → Prop} {a0_ : Fact} {r : Bool} {k1 : Option Bool} (hE1 : k1 = some r → AW Tryd.prog Γ (dig (bodyOf Tryd.f61) [1, 1] []).1 (KQ Tryd.prog Γ N (RetQ Tryd.prog Tryd.f61 (D.bool (r))) (dig (bodyOf Tryd.f61) [1, 1] []).2) ⟨[(1, D.ptr 0 0)], [Ob.box (Fact.c a0_)]⟩) (hm1 : (a0_.args).length ≤ maxLen) : ∀ (rest : List Bytes) (i1 : Nat) , (a0_.args).drop i1 = rest → d_spec_IsFact_L1 a0_ k1 rest i1  = some r → AWr Tryd.prog Γ (dig (bodyOf Tryd.f61) [1, 0, 1, 0, 0] []).1 (KQ Tryd.prog Γ N (RetQ Tryd.prog Tryd.f61 (D.bool (r))) (dig (bodyOf Tryd.f61) [1, 0, 1, 0] []).2) (rest.length + 1) ⟨[(1, D.ptr 0 0), (3, D.int .i64 ((i1 : Int)))], [Ob.box (Fact.c a0_)]⟩ := by
  intro rest
  induction rest with
  | nil =>
    intro i1  hd1 h
    rw [d_spec_IsFact_L1] at h
    refine AWr_succ fun N1 hN1 hS1 => ?_
    have t := AW_N (N := N) (N' := N1) (K0 := (dig (bodyOf Tryd.f61) [1, 0, 1, 0] []).2) (by kernel_rfl) hN1 (hE1  h)
    refine AW_go (n := 2000) [[none]] [.b false, .hl 0 [1] [0]] (.at_ (dig (bodyOf Tryd.f61) [1, 1] []).1 (dig (bodyOf Tryd.f61) [1, 1] []).2 ⟨[(1, D.ptr 0 0)], [Ob.box (Fact.c a0_)]⟩) hΓ mix (by kernel_rfl) (ow ((ltm_false tx (drop_nil hd1))) ow0) ?_
    first | exact t | (simp only [List.map_append, List.map_cons, List.map_nil, List.map_set] at t ⊢; exact t)
  | cons x1_ xs1 ih1 =>
    intro i1  hd1 h
    rw [d_spec_IsFact_L1] at h
    refine AWr_succ fun N1 hN1 hS1 => ?_
    obtain ⟨y21, h22, h⟩ := den_bind h
    rcases den_if h with ⟨h23, h⟩ | ⟨h23, h⟩
    · have h := den_some h
      subst h
      exact AW_go (n := 2000) [[none]] [.b true, .row (tx x1_), .d (D.bool (y21)), .b true] (.ret (D.bool (false))) hΓ mix (by kernel_rfl) (ow ((ltm_true tx (drop_cons hd1).2.1)) (ow (map_row tx 1 (drop_cons hd1).1 rfl) (ow (d_spec_IsAtom_good h22) (ow (h23) ow0)))) rfl
    · have t := ih1 (i1 + 1)  (drop_cons hd1).2.2 h
      refine AW_go (n := 2000) [[none]] [.b true, .row (tx x1_), .d (D.bool (y21)), .b false, .cn [1, 3] [0]] (.cont 0 ⟨[(1, D.ptr 0 0), (3, D.int .i64 (IntKind.i64.wrap (((i1 : Int)) + (1))))], [Ob.box (Fact.c a0_)]⟩) hΓ mix (by kernel_rfl) (ow ((ltm_true tx (drop_cons hd1).2.1)) (ow (map_row tx 1 (drop_cons hd1).1 rfl) (ow (d_spec_IsAtom_good h22) (ow (h23) ow0)))) ?_
      refine (congrFun hS1 _).mpr ?_
      rw [i64_succ (drop_cons hd1).2.1 hm1]
      first | exact t | (simp only [List.map_append, List.map_cons, List.map_nil, List.map_set] at t ⊢; exact t)
theorem d_spec_IsFact_good {a0_ : Fact} {r : Bool} (h : d_spec_IsFact a0_ = some r) : Good Tryd.prog 61 [D.agg (Fact.c a0_)] (D.bool (r)) := by
  refine Good.of (c := bodyOf Tryd.f61) Tryd.func61 rfl (by decide) (by simp [Tryd.f61]) ?_
  intro hr Γ hΓ
  have hΓ : Γ.nt = 27 := hΓ
  rw [d_spec_IsFact] at h
  refine (show AW Tryd.prog Γ (bodyOf Tryd.f61) (KQ Tryd.prog Γ (fun _ _ => False) (RetQ Tryd.prog Tryd.f61 (D.bool (r))) []) _ from ?_)
  refine AW_go (n := 2000) [[none]] [.cn [1, 3] [0]] (.lp (dig (bodyOf Tryd.f61) [1, 0, 1, 0, 0] []).1 (dig (bodyOf Tryd.f61) [1, 0, 1, 0] []).2 ⟨[(1, D.ptr 0 0), (3, D.int .i64 (0))], [Ob.box (Fact.c a0_)]⟩) hΓ mix (by kernel_rfl) ow0 (AW_st (by first | rfl | (simp only [List.map_append, List.map_cons, List.map_nil, List.map_set, List.map_replicate] <;> rfl)) (AW_of_r (d_spec_IsFact_L1w hΓ (fun h => ?_) (by have := (Rdb.sl (Rdb.agg (hr _ (List.mem_of_getElem? (i := 0) rfl)) (.sl ((a0_.args).map tx)) (by simp))).1; simpa using this) (a0_.args) 0  rfl h)))
  obtain ⟨y24, h25, h⟩ := den_bind h
  rcases den_if h with ⟨h26, h⟩ | ⟨h26, h⟩
  · have h := den_some h
    subst h
    exact AW_go (n := 2000) [[none]] [.d (D.bool (y24)), .b true, .b true, .b true, .b true, .b true] (.ret (D.bool (decide (((((a0_.args).map tx).length : Int) : Int) ≤ (3))))) hΓ mix (by kernel_rfl) (ow (d_spec_IsName_good h25) (ow (h26) (ow (h26) (ow (h26) (ow (h26) (ow (h26) ow0)))))) rfl
  · have h := den_some h
    subst h
    exact AW_go (n := 2000) [[none]] [.d (D.bool (y24)), .b false, .b false, .b false, .b false, .b false] (.ret (D.bool (false))) hΓ mix (by kernel_rfl) (ow (d_spec_IsName_good h25) (ow (h26) (ow (h26) (ow (h26) (ow (h26) (ow (h26) ow0)))))) rfl
def d_spec_AreFacts_L1 (a0_ : List Fact) (k1 : Option Bool) : List Fact → Nat → Option Bool
  | [], i1 => (k1 )
  | x1_ :: xs1, i1 => ((d_spec_IsFact (x1_)).bind fun y45 => (bif !(y45) then (some (false)) else (bif decide (((i1 : Int) : Int) > (0)) then ((atI (a0_) (IntKind.i64.wrap (((i1 : Int)) - (1)))).bind fun x49 => ((d_spec_CompareFacts (x49) (x1_)).bind fun y51 => (bif decide ((y51 : Int) ≥ (0)) then (some (false)) else (d_spec_AreFacts_L1 a0_ k1 xs1 (i1 + 1) )))) else (d_spec_AreFacts_L1 a0_ k1 xs1 (i1 + 1) ))))
def d_spec_AreFacts (a0_ : List Fact) : Option Bool := (d_spec_AreFacts_L1 a0_ (some (decide (((((a0_).map Fact.c).length : Int) : Int) ≤ (24)))) (a0_) 0 )
theorem d_spec_AreFacts_L1w {Γ : Ctx} (hΓ : Γ.nt = 36) {N : Nat → St → Prop} {a0_ : List Fact} {r : Bool} {k1 : Option Bool} (hE1 : k1 = some r → AW Tryd.prog Γ (dig (bodyOf Tryd.f31) [1, 1] []).1 (KQ Tryd.prog Γ N (RetQ Tryd.prog Tryd.f31 (D.bool (r))) (dig (bodyOf Tryd.f31) [1, 1] []).2) ⟨[(0, D.sl ((a0_).map Fact.c))], []⟩) (hm1 : (a0_).length ≤ maxLen) : ∀ (rest : List Fact) (i1 : Nat) , (a0_).drop i1 = rest → d_spec_AreFacts_L1 a0_ k1 rest i1  = some r → AWr Tryd.prog Γ (dig (bodyOf Tryd.f31) [1, 0, 1, 0, 0] []).1 (KQ Tryd.prog Γ N (RetQ Tryd.prog Tryd.f31 (D.bool (r))) (dig (bodyOf Tryd.f31) [1, 0, 1, 0] []).2) (rest.length + 1) ⟨[(0, D.sl ((a0_).map Fact.c)), (3, D.int .i64 ((i1 : Int)))], []⟩ := by
  intro rest
  induction rest with
  | nil =>
    intro i1  hd1 h
    rw [d_spec_AreFacts_L1] at h
    refine AWr_succ fun N1 hN1 hS1 => ?_
    have t := AW_N (N := N) (N' := N1) (K0 := (dig (bodyOf Tryd.f31) [1, 0, 1, 0] []).2) (by kernel_rfl) hN1 (hE1  h)
    refine AW_go (n := 2000) [[none]] [.b false, .hl 0 [0] []] (.at_ (dig (bodyOf Tryd.f31) [1, 1] []).1 (dig (bodyOf Tryd.f31) [1, 1] []).2 ⟨[(0, D.sl ((a0_).map Fact.c))], []⟩) hΓ mix (by kernel_rfl) (ow ((ltm_false Fact.c (drop_nil hd1))) ow0) ?_
    first | exact t | (simp only [List.map_append, List.map_cons, List.map_nil, List.map_set] at t ⊢; exact t)
  | cons x1_ xs1 ih1 =>
    intro i1  hd1 h
    rw [d_spec_AreFacts_L1] at h
    refine AWr_succ fun N1 hN1 hS1 => ?_
    obtain ⟨y45, h46, h⟩ := den_bind h
    rcases den_if h with ⟨h47, h⟩ | ⟨h47, h⟩
    · have h := den_some h
      subst h
      exact AW_go (n := 2000) [[none]] [.b true, .n 19, .row (Fact.c x1_), .d (D.bool (y45)), .b true, .b true, .b true, .b false, .b false, .b false, .b false, .b false, .b false, .b false, .b false, .b false, .b false, .b false, .b true, .b true, .b true] (.ret (D.bool (false))) hΓ mix (by kernel_rfl) (ow ((ltm_true Fact.c (drop_cons hd1).2.1)) (ow (map_row Fact.c 2 (drop_cons hd1).1 rfl) (ow (d_spec_IsFact_good h46) (ow (h47) (ow (h47) (ow (h47) (ow (h47) (ow (h47) (ow (show (true) = true from rfl) ow0))))))))) rfl
    · rcases den_if h with ⟨h48, h⟩ | ⟨h48, h⟩
      · obtain ⟨x49, h50, h⟩ := den_bind h
        obtain ⟨y51, h52, h⟩ := den_bind h
        rcases den_if h with ⟨h53, h⟩ | ⟨h53, h⟩
        · have h := den_some h
          subst h
          exact AW_go (n := 2000) [[none]] [.b true, .n 19, .row (Fact.c x1_), .d (D.bool (y45)), .b false, .b false, .b false, .b true, .b true, .b true, .b true, .row (Fact.c x49), .b true, .b true, .b true, .b true, .row (Fact.c x1_), .b true, .b true, .d (D.int .i64 (y51)), .b true, .b false, .b true, .b false, .b true] (.ret (D.bool (false))) hΓ mix (by kernel_rfl) (ow ((ltm_true Fact.c (drop_cons hd1).2.1)) (ow (map_row Fact.c 2 (drop_cons hd1).1 rfl) (ow (d_spec_IsFact_good h46) (ow (h47) (ow (h47) (ow (h47) (ow (h48) (ow (h48) (ow (h48) (ow (h48) (ow (at_row Fact.c 2 h50 rfl) (ow (h48) (ow (h48) (ow (h48) (ow (h48) (ow (map_row Fact.c 2 (drop_cons hd1).1 rfl) (ow (h48) (ow (h48) (ow (d_spec_CompareFacts_good h52) (ow (h48) (ow (h47) (ow (h48) (ow (h47) (ow (h53) ow0)))))))))))))))))))))))) rfl
        · have t := ih1 (i1 + 1)  (drop_cons hd1).2.2 h
          refine AW_go (n := 2000) [[none]] [.b true, .n 19, .row (Fact.c x1_), .d (D.bool (y45)), .b false, .b false, .b false, .b true, .b true, .b true, .b true, .row (Fact.c x49), .b true, .b true, .b true, .b true, .row (Fact.c x1_), .b true, .b true, .d (D.int .i64 (y51)), .b true, .b false, .b true, .b false, .b false, .cn [0, 3] []] (.cont 0 ⟨[(0, D.sl ((a0_).map Fact.c)), (3, D.int .i64 (IntKind.i64.wrap (((i1 : Int)) + (1))))], []⟩) hΓ mix (by kernel_rfl) (ow ((ltm_true Fact.c (drop_cons hd1).2.1)) (ow (map_row Fact.c 2 (drop_cons hd1).1 rfl) (ow (d_spec_IsFact_good h46) (ow (h47) (ow (h47) (ow (h47) (ow (h48) (ow (h48) (ow (h48) (ow (h48) (ow (at_row Fact.c 2 h50 rfl) (ow (h48) (ow (h48) (ow (h48) (ow (h48) (ow (map_row Fact.c 2 (drop_cons hd1).1 rfl) (ow (h48) (ow (h48) (ow (d_spec_CompareFacts_good h52) (ow (h48) (ow (h47) (ow (h48) (ow (h47) (ow (h53) ow0)))))))))))))))))))))))) ?_
          refine (congrFun hS1 _).mpr ?_
          rw [i64_succ (drop_cons hd1).2.1 hm1]
          first | exact t | (simp only [List.map_append, List.map_cons, List.map_nil, List.map_set] at t ⊢; exact t)
      · have t := ih1 (i1 + 1)  (drop_cons hd1).2.2 h
        refine AW_go (n := 2000) [[none]] [.b true, .n 19, .row (Fact.c x1_), .d (D.bool (y45)), .b false, .b false, .b false, .b false, .b false, .b false, .b false, .b false, .b false, .b false, .b false, .b false, .b false, .b false, .b false, .b false, .b false, .b false, .cn [0, 3] []] (.cont 0 ⟨[(0, D.sl ((a0_).map Fact.c)), (3, D.int .i64 (IntKind.i64.wrap (((i1 : Int)) + (1))))], []⟩) hΓ mix (by kernel_rfl) (ow ((ltm_true Fact.c (drop_cons hd1).2.1)) (ow (map_row Fact.c 2 (drop_cons hd1).1 rfl) (ow (d_spec_IsFact_good h46) (ow (h47) (ow (h47) (ow (h47) (ow (h48) (ow (h48) (ow (h48) (ow (h48) (ow (h48) (ow (h48) (ow (h48) (ow (h48) (ow (h48) (ow (h48) (ow (h48) (ow (h47) (ow (h48) (ow (h47) (ow (show (false) = false from rfl) ow0))))))))))))))))))))) ?_
        refine (congrFun hS1 _).mpr ?_
        rw [i64_succ (drop_cons hd1).2.1 hm1]
        first | exact t | (simp only [List.map_append, List.map_cons, List.map_nil, List.map_set] at t ⊢; exact t)
theorem d_spec_AreFacts_good {a0_ : List Fact} {r : Bool} (h : d_spec_AreFacts a0_ = some r) : Good Tryd.prog 31 [D.sl ((a0_).map Fact.c)] (D.bool (r)) := by
  refine Good.of (c := bodyOf Tryd.f31) Tryd.func31 rfl (by decide) (by simp [Tryd.f31]) ?_
  intro hr Γ hΓ
  have hΓ : Γ.nt = 36 := hΓ
  rw [d_spec_AreFacts] at h
  refine (show AW Tryd.prog Γ (bodyOf Tryd.f31) (KQ Tryd.prog Γ (fun _ _ => False) (RetQ Tryd.prog Tryd.f31 (D.bool (r))) []) _ from ?_)
  refine AW_go (n := 2000) [[none]] [.cn [0, 3] []] (.lp (dig (bodyOf Tryd.f31) [1, 0, 1, 0, 0] []).1 (dig (bodyOf Tryd.f31) [1, 0, 1, 0] []).2 ⟨[(0, D.sl ((a0_).map Fact.c)), (3, D.int .i64 (0))], []⟩) hΓ mix (by kernel_rfl) ow0 (AW_st (by first | rfl | (simp only [List.map_append, List.map_cons, List.map_nil, List.map_set, List.map_replicate] <;> rfl)) (AW_of_r (d_spec_AreFacts_L1w hΓ (fun h => ?_) (by have := (Rdb.sl (hr _ (List.mem_of_getElem? (i := 0) rfl))).1; simpa using this) (a0_) 0  rfl h)))
  have h := den_some h
  subst h
  exact AW_go (n := 2000) [[none]] [] (.ret (D.bool (decide (((((a0_).map Fact.c).length : Int) : Int) ≤ (24))))) hΓ mix (by kernel_rfl) ow0 rfl
def d_spec_IsMemory_L2 (a0_ : List Stamp) (i1 : Nat) (x1_ : Stamp) (k2 : Option Bool) : Nat → Int → Option Bool
  | 0, _ => none
  | n2 + 1, v2_4 => (bif decide ((v2_4 : Int) < ((i1 : Int))) then ((atI (a0_) (v2_4)).bind fun x117 => (bif (x117.time : Int) == (x1_.time) then (some (false)) else (d_spec_IsMemory_L2 a0_ i1 x1_ k2 n2 (IntKind.i64.wrap ((v2_4) + (1)))))) else (k2 ))
def d_spec_IsMemory_L1 (a0_ : List Stamp) (k1 : Option Bool) : List Stamp → Nat → Option Bool
  | [], i1 => (k1 )
  | x1_ :: xs1, i1 => ((d_spec_l1In (x1_.time) (1) (200)).bind fun y101 => (bif !(y101) then (some (false)) else (d_spec_IsMemory_L2 a0_ i1 x1_ (d_spec_IsMemory_L1 a0_ k1 xs1 (i1 + 1) ) fuel (0))))
def d_spec_IsMemory (a0_ : List Stamp) : Option Bool := (d_spec_IsMemory_L1 a0_ ((d_spec_FactsIn (a0_)).bind fun y120 => ((d_spec_AreFacts (y120)).bind fun y122 => (some (y122)))) (a0_) 0 )
theorem d_spec_IsMemory_L2w {Γ : Ctx} (hΓ : Γ.nt = 37) {N : Nat → St → Prop} {a0_ : List Stamp} {i1 : Nat} {x1_ : Stamp} {r : Bool} {k2 : Option Bool} (hE2 : k2 = some r → AW Tryd.prog Γ (dig (bodyOf Tryd.f12) [1, 0, 1, 0, 0, 1, 1] []).1 (KQ Tryd.prog Γ N (RetQ Tryd.prog Tryd.f12 (D.bool (r))) (dig (bodyOf Tryd.f12) [1, 0, 1, 0, 0, 1, 1] []).2) ⟨[(0, D.sl ((a0_).map Stamp.c)), (3, D.int .i64 ((i1 : Int)))], []⟩) (hx1 : (a0_)[i1]? = some x1_) : ∀ (n2 : Nat) (v2_4 : Int), d_spec_IsMemory_L2 a0_ i1 x1_ k2 n2 v2_4 = some r → AWr Tryd.prog Γ (dig (bodyOf Tryd.f12) [1, 0, 1, 0, 0, 1, 0, 0, 1, 1, 0, 0] []).1 (KQ Tryd.prog Γ N (RetQ Tryd.prog Tryd.f12 (D.bool (r))) (dig (bodyOf Tryd.f12) [1, 0, 1, 0, 0, 1, 0, 0, 1, 1, 0] []).2) n2 ⟨[(0, D.sl ((a0_).map Stamp.c)), (3, D.int .i64 ((i1 : Int))), (4, D.int .i64 (v2_4))], []⟩ := by
  intro n
  induction n with
  | zero => intro v2_4 h; simp [d_spec_IsMemory_L2] at h
  | succ n2 ih2 =>
    intro v2_4 h
    rw [d_spec_IsMemory_L2] at h
    refine AWr_succ fun N2 hN2 hS2 => ?_
    rcases den_if h with ⟨h116, h⟩ | ⟨h116, h⟩
    · obtain ⟨x117, h118, h⟩ := den_bind h
      rcases den_if h with ⟨h119, h⟩ | ⟨h119, h⟩
      · have h := den_some h
        subst h
        exact AW_go (n := 2000) [[none]] [.b true, .n 10, .row (Stamp.c x117), .row (Stamp.c x1_), .b true] (.ret (D.bool (false))) hΓ mix (by kernel_rfl) (ow (h116) (ow (at_row Stamp.c 3 h118 rfl) (ow (map_row Stamp.c 3 hx1 rfl) (ow (h119) ow0)))) rfl
      · have t := ih2 (IntKind.i64.wrap ((v2_4) + (1))) h
        refine AW_go (n := 2000) [[none]] [.b true, .n 10, .row (Stamp.c x117), .row (Stamp.c x1_), .b false, .cn [0, 3, 4] []] (.cont 1 ⟨[(0, D.sl ((a0_).map Stamp.c)), (3, D.int .i64 ((i1 : Int))), (4, D.int .i64 (IntKind.i64.wrap ((v2_4) + (1))))], []⟩) hΓ mix (by kernel_rfl) (ow (h116) (ow (at_row Stamp.c 3 h118 rfl) (ow (map_row Stamp.c 3 hx1 rfl) (ow (h119) ow0)))) ?_
        refine (congrFun hS2 _).mpr ?_
        first | exact t | (simp only [List.map_append, List.map_cons, List.map_nil, List.map_set] at t ⊢; exact t)
    · have t := AW_N (N := N) (N' := N2) (K0 := (dig (bodyOf Tryd.f12) [1, 0, 1, 0, 0, 1, 0, 0, 1, 1, 0] []).2) (by kernel_rfl) hN2 (hE2  h)
      refine AW_go (n := 2000) [[none]] [.b false, .hl 3 [0, 3] []] (.at_ (dig (bodyOf Tryd.f12) [1, 0, 1, 0, 0, 1, 1] []).1 (dig (bodyOf Tryd.f12) [1, 0, 1, 0, 0, 1, 1] []).2 ⟨[(0, D.sl ((a0_).map Stamp.c)), (3, D.int .i64 ((i1 : Int)))], []⟩) hΓ mix (by kernel_rfl) (ow (h116) ow0) ?_
      first | exact t | (simp only [List.map_append, List.map_cons, List.map_nil, List.map_set] at t ⊢; exact t)
theorem d_spec_IsMemory_L1w {Γ : Ctx} (hΓ : Γ.nt = 37) {N : Nat → St → Prop} {a0_ : List Stamp} {r : Bool} {k1 : Option Bool} (hE1 : k1 = some r → AW Tryd.prog Γ (dig (bodyOf Tryd.f12) [1, 1] []).1 (KQ Tryd.prog Γ N (RetQ Tryd.prog Tryd.f12 (D.bool (r))) (dig (bodyOf Tryd.f12) [1, 1] []).2) ⟨[(0, D.sl ((a0_).map Stamp.c))], []⟩) (hm1 : (a0_).length ≤ maxLen) : ∀ (rest : List Stamp) (i1 : Nat) , (a0_).drop i1 = rest → d_spec_IsMemory_L1 a0_ k1 rest i1  = some r → AWr Tryd.prog Γ (dig (bodyOf Tryd.f12) [1, 0, 1, 0, 0] []).1 (KQ Tryd.prog Γ N (RetQ Tryd.prog Tryd.f12 (D.bool (r))) (dig (bodyOf Tryd.f12) [1, 0, 1, 0] []).2) (rest.length + 1) ⟨[(0, D.sl ((a0_).map Stamp.c)), (3, D.int .i64 ((i1 : Int)))], []⟩ := by
  intro rest
  induction rest with
  | nil =>
    intro i1  hd1 h
    rw [d_spec_IsMemory_L1] at h
    refine AWr_succ fun N1 hN1 hS1 => ?_
    have t := AW_N (N := N) (N' := N1) (K0 := (dig (bodyOf Tryd.f12) [1, 0, 1, 0] []).2) (by kernel_rfl) hN1 (hE1  h)
    refine AW_go (n := 2000) [[none]] [.b false, .hl 0 [0] []] (.at_ (dig (bodyOf Tryd.f12) [1, 1] []).1 (dig (bodyOf Tryd.f12) [1, 1] []).2 ⟨[(0, D.sl ((a0_).map Stamp.c))], []⟩) hΓ mix (by kernel_rfl) (ow ((ltm_false Stamp.c (drop_nil hd1))) ow0) ?_
    first | exact t | (simp only [List.map_append, List.map_cons, List.map_nil, List.map_set] at t ⊢; exact t)
  | cons x1_ xs1 ih1 =>
    intro i1  hd1 h
    rw [d_spec_IsMemory_L1] at h
    refine AWr_succ fun N1 hN1 hS1 => ?_
    obtain ⟨y101, h102, h⟩ := den_bind h
    rcases den_if h with ⟨h103, h⟩ | ⟨h103, h⟩
    · have h := den_some h
      subst h
      exact AW_go (n := 2000) [[none]] [.b true, .row (Stamp.c x1_), .d (D.bool (y101)), .b true] (.ret (D.bool (false))) hΓ mix (by kernel_rfl) (ow ((ltm_true Stamp.c (drop_cons hd1).2.1)) (ow (map_row Stamp.c 3 (drop_cons hd1).1 rfl) (ow (d_spec_l1In_good h102) (ow (h103) ow0)))) rfl
    · refine AW_go (n := 2000) [[none]] [.b true, .row (Stamp.c x1_), .d (D.bool (y101)), .b false, .cn [0, 3, 4] []] (.lp (dig (bodyOf Tryd.f12) [1, 0, 1, 0, 0, 1, 0, 0, 1, 1, 0, 0] []).1 (dig (bodyOf Tryd.f12) [1, 0, 1, 0, 0, 1, 0, 0, 1, 1, 0] []).2 ⟨[(0, D.sl ((a0_).map Stamp.c)), (3, D.int .i64 ((i1 : Int))), (4, D.int .i64 (0))], []⟩) hΓ mix (by kernel_rfl) (ow ((ltm_true Stamp.c (drop_cons hd1).2.1)) (ow (map_row Stamp.c 3 (drop_cons hd1).1 rfl) (ow (d_spec_l1In_good h102) (ow (h103) ow0)))) (AW_st (by first | rfl | (simp only [List.map_append, List.map_cons, List.map_nil, List.map_set, List.map_replicate] <;> rfl)) (AW_of_r (d_spec_IsMemory_L2w hΓ (fun h => ?_) ((drop_cons hd1).1) fuel (0) h)))
      have t := ih1 (i1 + 1)  (drop_cons hd1).2.2 h
      refine AW_go (n := 2000) [[none]] [.cn [0, 3] []] (.cont 0 ⟨[(0, D.sl ((a0_).map Stamp.c)), (3, D.int .i64 (IntKind.i64.wrap (((i1 : Int)) + (1))))], []⟩) hΓ mix (by kernel_rfl) ow0 ?_
      refine (congrFun hS1 _).mpr ?_
      rw [i64_succ (drop_cons hd1).2.1 hm1]
      first | exact t | (simp only [List.map_append, List.map_cons, List.map_nil, List.map_set] at t ⊢; exact t)
theorem d_spec_IsMemory_good {a0_ : List Stamp} {r : Bool} (h : d_spec_IsMemory a0_ = some r) : Good Tryd.prog 12 [D.sl ((a0_).map Stamp.c)] (D.bool (r)) := by
  refine Good.of (c := bodyOf Tryd.f12) Tryd.func12 rfl (by decide) (by simp [Tryd.f12]) ?_
  intro hr Γ hΓ
  have hΓ : Γ.nt = 37 := hΓ
  rw [d_spec_IsMemory] at h
  refine (show AW Tryd.prog Γ (bodyOf Tryd.f12) (KQ Tryd.prog Γ (fun _ _ => False) (RetQ Tryd.prog Tryd.f12 (D.bool (r))) []) _ from ?_)
  refine AW_go (n := 2000) [[none]] [.cn [0, 3] []] (.lp (dig (bodyOf Tryd.f12) [1, 0, 1, 0, 0] []).1 (dig (bodyOf Tryd.f12) [1, 0, 1, 0] []).2 ⟨[(0, D.sl ((a0_).map Stamp.c)), (3, D.int .i64 (0))], []⟩) hΓ mix (by kernel_rfl) ow0 (AW_st (by first | rfl | (simp only [List.map_append, List.map_cons, List.map_nil, List.map_set, List.map_replicate] <;> rfl)) (AW_of_r (d_spec_IsMemory_L1w hΓ (fun h => ?_) (by have := (Rdb.sl (hr _ (List.mem_of_getElem? (i := 0) rfl))).1; simpa using this) (a0_) 0  rfl h)))
  obtain ⟨y120, h121, h⟩ := den_bind h
  obtain ⟨y122, h123, h⟩ := den_bind h
  have h := den_some h
  subst h
  exact AW_go (n := 2000) [[none]] [.d (D.fr 61 2 ((y120).map Fact.c)), .d (D.bool (y122))] (.ret (D.bool (y122))) hΓ mix (by kernel_rfl) (ow (d_spec_FactsIn_good h121) (ow (d_spec_AreFacts_good h123) ow0)) rfl
def d_impl_copyTexts (a0_ : List Bytes) : Option (List Bytes) := (bif room ((([] : List (List D))).length + ((a0_).map tx).length) 16 then (some ((([] : List Bytes)) ++ (a0_))) else none)
theorem d_impl_copyTexts_good {a0_ : List Bytes} {r : List Bytes} (h : d_impl_copyTexts a0_ = some r) : Good Tryd.prog 83 [D.sl ((a0_).map tx)] (D.fr 9 1 ((r).map tx)) := by
  refine Good.of (c := bodyOf Tryd.f83) Tryd.func83 rfl (by decide) (by simp [Tryd.f83]) ?_
  intro hr Γ hΓ
  have hΓ : Γ.nt = 5 := hΓ
  rw [d_impl_copyTexts] at h
  refine (show AW Tryd.prog Γ (bodyOf Tryd.f83) (KQ Tryd.prog Γ (fun _ _ => False) (RetQ Tryd.prog Tryd.f83 (D.fr 9 1 ((r).map tx))) []) _ from ?_)
  obtain ⟨h1, h⟩ := den_ok h
  have h := den_some h
  subst h
  exact AW_go (n := 2000) [[some (9, 1)]] [.pro 2, .fl true] (.ret (D.fr 9 1 ((([] : List (List D))) ++ ((a0_).map tx)))) hΓ mix (by kernel_rfl) (ow (room_ok h1) (ow (show (∀ r ∈ ((a0_).map tx), r.length = 1) ∧ (true = true → D.flatRows ((a0_).map tx) = true) from ⟨by simp, by simp [D.flatRows, D.flat]⟩) ow0)) (by first | rfl | (simp only [List.map_append, List.map_cons, List.map_nil, List.map_set] <;> rfl))
def d_impl_copyFact (a0_ : Fact) : Option Fact := ((d_impl_copyTexts (a0_.args)).bind fun y1 => (some ((⟨a0_.rel, y1⟩ : Fact))))
theorem d_impl_copyFact_good {a0_ : Fact} {r : Fact} (h : d_impl_copyFact a0_ = some r) : Good Tryd.prog 64 [D.agg (Fact.c a0_)] (D.agg [D.str (r.rel), D.fr 9 1 ((r.args).map tx)]) := by
  refine Good.of (c := bodyOf Tryd.f64) Tryd.func64 rfl (by decide) (by simp [Tryd.f64]) ?_
  intro hr Γ hΓ
  have hΓ : Γ.nt = 9 := hΓ
  rw [d_impl_copyFact] at h
  refine (show AW Tryd.prog Γ (bodyOf Tryd.f64) (KQ Tryd.prog Γ (fun _ _ => False) (RetQ Tryd.prog Tryd.f64 (D.agg [D.str (r.rel), D.fr 9 1 ((r.args).map tx)])) []) _ from ?_)
  obtain ⟨y1, h2, h⟩ := den_bind h
  have h := den_some h
  subst h
  exact AW_go (n := 2000) [[none, some (9, 1)]] [.n 5, .d (D.fr 9 1 ((y1).map tx))] (.ret (D.agg [D.str (a0_.rel), D.fr 9 1 ((y1).map tx)])) hΓ mix (by kernel_rfl) (ow (d_impl_copyTexts_good h2) ow0) rfl
def d_impl_FactsIn_L1 (a0_ : List Stamp) (k1 : List Fact → Option (List Fact)) : List Stamp → Nat → List Fact → Option (List Fact)
  | [], i1, w1_0 => (k1 (w1_0))
  | x1_ :: xs1, i1, w1_0 => ((d_impl_copyFact (x1_.fact)).bind fun y27 => (bif room (((w1_0).map Fact.c).length + ([[D.str (y27.rel), D.sl ((y27.args).map tx)]]).length) 40 then (d_impl_FactsIn_L1 a0_ k1 xs1 (i1 + 1) ((w1_0) ++ ([y27]))) else none))
def d_impl_FactsIn (a0_ : List Stamp) : Option (List Fact) := (d_impl_FactsIn_L1 a0_ (fun (q1_0 : List Fact) => (some (q1_0))) (a0_) 0 (([] : List Fact)))
theorem d_impl_FactsIn_L1w {Γ : Ctx} (hΓ : Γ.nt = 20) {N : Nat → St → Prop} {a0_ : List Stamp} {r : List Fact} {k1 : List Fact → Option (List Fact)} (hE1 : ∀ (q1_0 : List Fact), k1 q1_0 = some r → AW Tryd.prog Γ (dig (bodyOf Tryd.f35) [1, 1, 1] []).1 (KQ Tryd.prog Γ N (RetQ Tryd.prog Tryd.f35 (D.fr 61 2 ((r).map Fact.c))) (dig (bodyOf Tryd.f35) [1, 1, 1] []).2) ⟨[(3, D.acc 0)], [Ob.row .uq 61 2 ((q1_0).map Fact.c)]⟩) (hm1 : (a0_).length ≤ maxLen) : ∀ (rest : List Stamp) (i1 : Nat) (w1_0 : List Fact), (a0_).drop i1 = rest → d_impl_FactsIn_L1 a0_ k1 rest i1 w1_0 = some r → AWr Tryd.prog Γ (dig (bodyOf Tryd.f35) [1, 1, 0, 1, 0, 0] []).1 (KQ Tryd.prog Γ N (RetQ Tryd.prog Tryd.f35 (D.fr 61 2 ((r).map Fact.c))) (dig (bodyOf Tryd.f35) [1, 1, 0, 1, 0] []).2) (rest.length + 1) ⟨[(3, D.acc 0), (6, D.sl ((a0_).map Stamp.c)), (7, D.int .i64 ((((a0_).map Stamp.c).length : Int))), (8, D.int .i64 ((i1 : Int)))], [Ob.row .uq 61 2 ((w1_0).map Fact.c)]⟩ := by
  intro rest
  induction rest with
  | nil =>
    intro i1 w1_0 hd1 h
    rw [d_impl_FactsIn_L1] at h
    refine AWr_succ fun N1 hN1 hS1 => ?_
    have t := AW_N (N := N) (N' := N1) (K0 := (dig (bodyOf Tryd.f35) [1, 1, 0, 1, 0] []).2) (by kernel_rfl) hN1 (hE1 (w1_0) h)
    refine AW_go (n := 2000) [[some (61, 2)]] [.b false, .hl 0 [3] [0]] (.at_ (dig (bodyOf Tryd.f35) [1, 1, 1] []).1 (dig (bodyOf Tryd.f35) [1, 1, 1] []).2 ⟨[(3, D.acc 0)], [Ob.row .uq 61 2 ((w1_0).map Fact.c)]⟩) hΓ mix (by kernel_rfl) (ow ((ltm_false Stamp.c (drop_nil hd1))) ow0) ?_
    first | exact t | (simp only [List.map_append, List.map_cons, List.map_nil, List.map_set] at t ⊢; exact t)
  | cons x1_ xs1 ih1 =>
    intro i1 w1_0 hd1 h
    rw [d_impl_FactsIn_L1] at h
    refine AWr_succ fun N1 hN1 hS1 => ?_
    obtain ⟨y27, h28, h⟩ := den_bind h
    obtain ⟨h29, h⟩ := den_ok h
    have t := ih1 (i1 + 1) ((w1_0) ++ ([y27])) (drop_cons hd1).2.2 h
    refine AW_go (n := 2000) [[some (61, 2)]] [.b true, .row (Stamp.c x1_), .d (D.agg [D.str (y27.rel), D.fr 9 1 ((y27.args).map tx)]), .cn [3, 6, 7, 8] [4]] (.cont 0 ⟨[(3, D.acc 0), (6, D.sl ((a0_).map Stamp.c)), (7, D.int .i64 ((((a0_).map Stamp.c).length : Int))), (8, D.int .i64 (IntKind.i64.wrap (((i1 : Int)) + (1))))], [Ob.row .uq 61 2 (((w1_0).map Fact.c) ++ ([[D.str (y27.rel), D.sl ((y27.args).map tx)]]))]⟩) hΓ mix (by kernel_rfl) (ow ((ltm_true Stamp.c (drop_cons hd1).2.1)) (ow (map_row Stamp.c 3 (drop_cons hd1).1 rfl) (ow (d_impl_copyFact_good h28) (ow (room_ok h29) ow0)))) ?_
    refine (congrFun hS1 _).mpr ?_
    rw [i64_succ (drop_cons hd1).2.1 hm1]
    first | exact t | (simp only [List.map_append, List.map_cons, List.map_nil, List.map_set] at t ⊢; exact t)
theorem d_impl_FactsIn_good {a0_ : List Stamp} {r : List Fact} (h : d_impl_FactsIn a0_ = some r) : Good Tryd.prog 35 [D.sl ((a0_).map Stamp.c)] (D.fr 61 2 ((r).map Fact.c)) := by
  refine Good.of (c := bodyOf Tryd.f35) Tryd.func35 rfl (by decide) (by simp [Tryd.f35]) ?_
  intro hr Γ hΓ
  have hΓ : Γ.nt = 20 := hΓ
  rw [d_impl_FactsIn] at h
  refine (show AW Tryd.prog Γ (bodyOf Tryd.f35) (KQ Tryd.prog Γ (fun _ _ => False) (RetQ Tryd.prog Tryd.f35 (D.fr 61 2 ((r).map Fact.c))) []) _ from ?_)
  refine AW_go (n := 2000) [[some (61, 2)]] [.pro 3, .cn [3, 6, 7, 8] [0]] (.lp (dig (bodyOf Tryd.f35) [1, 1, 0, 1, 0, 0] []).1 (dig (bodyOf Tryd.f35) [1, 1, 0, 1, 0] []).2 ⟨[(3, D.acc 0), (6, D.sl ((a0_).map Stamp.c)), (7, D.int .i64 ((((a0_).map Stamp.c).length : Int))), (8, D.int .i64 (0))], [Ob.row .uq 61 2 (([] : List (List D)))]⟩) hΓ mix (by kernel_rfl) ow0 (AW_st (by first | rfl | (simp only [List.map_append, List.map_cons, List.map_nil, List.map_set, List.map_replicate] <;> rfl)) (AW_of_r (d_impl_FactsIn_L1w hΓ (fun q1_0 h => ?_) (by have := (Rdb.sl (hr _ (List.mem_of_getElem? (i := 0) rfl))).1; simpa using this) (a0_) 0 (([] : List Fact)) rfl h)))
  have h := den_some h
  subst h
  exact AW_go (n := 2000) [[some (61, 2)]] [] (.ret (D.fr 61 2 ((q1_0).map Fact.c))) hΓ mix (by kernel_rfl) ow0 rfl
def d_impl_IsAtom_L1 (a0_ : Bytes) (k1 : Option Bool) : Nat → Int → Option Bool
  | 0, _ => none
  | n1 + 1, v1_3 => (bif decide ((v1_3 : Int) < (((a0_).length : Int))) then ((atI (a0_) (v1_3)).bind fun b31 => (bif decide ((b31.toNat : Int) < (97)) then (bif decide ((b31.toNat : Int) < (48)) then (some (false)) else (bif decide ((b31.toNat : Int) > (57)) then (some (false)) else (d_impl_IsAtom_L1 a0_ k1 n1 (IntKind.i64.wrap ((v1_3) + (1)))))) else (bif decide ((b31.toNat : Int) > (122)) then (bif decide ((b31.toNat : Int) < (48)) then (some (false)) else (bif decide ((b31.toNat : Int) > (57)) then (some (false)) else (d_impl_IsAtom_L1 a0_ k1 n1 (IntKind.i64.wrap ((v1_3) + (1)))))) else (d_impl_IsAtom_L1 a0_ k1 n1 (IntKind.i64.wrap ((v1_3) + (1))))))) else (k1 ))
def d_impl_IsAtom (a0_ : Bytes) : Option Bool := (bif decide ((((a0_).length : Int) : Int) < (1)) then (some (false)) else (bif decide ((((a0_).length : Int) : Int) > (8)) then (some (false)) else (d_impl_IsAtom_L1 a0_ (some (true)) fuel (0))))
theorem d_impl_IsAtom_L1w {Γ : Ctx} (hΓ : Γ.nt = 40) {N : Nat → St → Prop} {a0_ : Bytes} {r : Bool} {k1 : Option Bool} (hE1 : k1 = some r → AW Tryd.prog Γ (dig (bodyOf Tryd.f82) [1, 1, 1] []).1 (KQ Tryd.prog Γ N (RetQ Tryd.prog Tryd.f82 (D.bool (r))) (dig (bodyOf Tryd.f82) [1, 1, 1] []).2) ⟨[], []⟩) : ∀ (n1 : Nat) (v1_3 : Int), d_impl_IsAtom_L1 a0_ k1 n1 v1_3 = some r → AWr Tryd.prog Γ (dig (bodyOf Tryd.f82) [1, 1, 0, 1, 0, 0] []).1 (KQ Tryd.prog Γ N (RetQ Tryd.prog Tryd.f82 (D.bool (r))) (dig (bodyOf Tryd.f82) [1, 1, 0, 1, 0] []).2) n1 ⟨[(0, D.str (a0_)), (3, D.int .i64 (v1_3))], []⟩ := by
  intro n
  induction n with
  | zero => intro v1_3 h; simp [d_impl_IsAtom_L1] at h
  | succ n1 ih1 =>
    intro v1_3 h
    rw [d_impl_IsAtom_L1] at h
    refine AWr_succ fun N1 hN1 hS1 => ?_
    rcases den_if h with ⟨h30, h⟩ | ⟨h30, h⟩
    · obtain ⟨b31, h32, h⟩ := den_bind h
      rcases den_if h with ⟨h33, h⟩ | ⟨h33, h⟩
      · rcases den_if h with ⟨h34, h⟩ | ⟨h34, h⟩
        · have h := den_some h
          subst h
          exact AW_go (n := 2000) [[none]] [.b true, .ch b31, .b true, .b true, .b true, .b true, .b true, .b true, .b true, .b true, .ch b31, .b true, .b true, .b true, .b true, .b true, .b true, .b true, .b true, .b true, .b true] (.ret (D.bool (false))) hΓ mix (by kernel_rfl) (ow (h30) (ow (at_str h32) (ow (h33) (ow (h33) (ow (h33) (ow (h33) (ow (h33) (ow (show (true) = true from rfl) (ow (show (true) = true from rfl) (ow (show (true) = true from rfl) (ow (at_str h32) (ow (show (true) = true from rfl) (ow (show (true) = true from rfl) (ow (h34) (ow (h34) (ow (h34) (ow (h34) (ow (show (true) = true from rfl) (ow (h34) (ow (show (true) = true from rfl) (ow (show (true) = true from rfl) ow0))))))))))))))))))))) rfl
        · rcases den_if h with ⟨h35, h⟩ | ⟨h35, h⟩
          · have h := den_some h
            subst h
            exact AW_go (n := 2000) [[none]] [.b true, .ch b31, .b true, .b true, .b true, .b true, .b true, .b true, .b true, .b true, .ch b31, .b true, .b true, .b false, .b false, .b false, .ch b31, .b false, .b true, .b false, .b true, .b true] (.ret (D.bool (false))) hΓ mix (by kernel_rfl) (ow (h30) (ow (at_str h32) (ow (h33) (ow (h33) (ow (h33) (ow (h33) (ow (h33) (ow (show (true) = true from rfl) (ow (show (true) = true from rfl) (ow (show (true) = true from rfl) (ow (at_str h32) (ow (show (true) = true from rfl) (ow (show (true) = true from rfl) (ow (h34) (ow (h34) (ow (h34) (ow (at_str h32) (ow (h34) (ow (show (true) = true from rfl) (ow (h34) (ow (show (true) = true from rfl) (ow (h35) ow0)))))))))))))))))))))) rfl
          · have t := ih1 (IntKind.i64.wrap ((v1_3) + (1))) h
            refine AW_go (n := 2000) [[none]] [.b true, .ch b31, .b true, .b true, .b true, .b true, .b true, .b true, .b true, .b true, .ch b31, .b true, .b true, .b false, .b false, .b false, .ch b31, .b false, .b true, .b false, .b true, .b false, .cn [0, 3] []] (.cont 0 ⟨[(0, D.str (a0_)), (3, D.int .i64 (IntKind.i64.wrap ((v1_3) + (1))))], []⟩) hΓ mix (by kernel_rfl) (ow (h30) (ow (at_str h32) (ow (h33) (ow (h33) (ow (h33) (ow (h33) (ow (h33) (ow (show (true) = true from rfl) (ow (show (true) = true from rfl) (ow (show (true) = true from rfl) (ow (at_str h32) (ow (show (true) = true from rfl) (ow (show (true) = true from rfl) (ow (h34) (ow (h34) (ow (h34) (ow (at_str h32) (ow (h34) (ow (show (true) = true from rfl) (ow (h34) (ow (show (true) = true from rfl) (ow (h35) ow0)))))))))))))))))))))) ?_
            refine (congrFun hS1 _).mpr ?_
            first | exact t | (simp only [List.map_append, List.map_cons, List.map_nil, List.map_set] at t ⊢; exact t)
      · rcases den_if h with ⟨h36, h⟩ | ⟨h36, h⟩
        · rcases den_if h with ⟨h37, h⟩ | ⟨h37, h⟩
          · have h := den_some h
            subst h
            exact AW_go (n := 2000) [[none]] [.b true, .ch b31, .b false, .b false, .b false, .ch b31, .b false, .b false, .b true, .b true, .b true, .ch b31, .b true, .b true, .b true, .b true, .b true, .b true, .b true, .b true, .b true, .b true] (.ret (D.bool (false))) hΓ mix (by kernel_rfl) (ow (h30) (ow (at_str h32) (ow (h33) (ow (h33) (ow (h33) (ow (at_str h32) (ow (h33) (ow (h33) (ow (h36) (ow (h36) (ow (h36) (ow (at_str h32) (ow (h36) (ow (h36) (ow (h37) (ow (h37) (ow (h37) (ow (h37) (ow (h36) (ow (h37) (ow (h36) (ow (show (true) = true from rfl) ow0)))))))))))))))))))))) rfl
          · rcases den_if h with ⟨h38, h⟩ | ⟨h38, h⟩
            · have h := den_some h
              subst h
              exact AW_go (n := 2000) [[none]] [.b true, .ch b31, .b false, .b false, .b false, .ch b31, .b false, .b false, .b true, .b true, .b true, .ch b31, .b true, .b true, .b false, .b false, .b false, .ch b31, .b false, .b true, .b false, .b true, .b true] (.ret (D.bool (false))) hΓ mix (by kernel_rfl) (ow (h30) (ow (at_str h32) (ow (h33) (ow (h33) (ow (h33) (ow (at_str h32) (ow (h33) (ow (h33) (ow (h36) (ow (h36) (ow (h36) (ow (at_str h32) (ow (h36) (ow (h36) (ow (h37) (ow (h37) (ow (h37) (ow (at_str h32) (ow (h37) (ow (h36) (ow (h37) (ow (h36) (ow (h38) ow0))))))))))))))))))))))) rfl
            · have t := ih1 (IntKind.i64.wrap ((v1_3) + (1))) h
              refine AW_go (n := 2000) [[none]] [.b true, .ch b31, .b false, .b false, .b false, .ch b31, .b false, .b false, .b true, .b true, .b true, .ch b31, .b true, .b true, .b false, .b false, .b false, .ch b31, .b false, .b true, .b false, .b true, .b false, .cn [0, 3] []] (.cont 0 ⟨[(0, D.str (a0_)), (3, D.int .i64 (IntKind.i64.wrap ((v1_3) + (1))))], []⟩) hΓ mix (by kernel_rfl) (ow (h30) (ow (at_str h32) (ow (h33) (ow (h33) (ow (h33) (ow (at_str h32) (ow (h33) (ow (h33) (ow (h36) (ow (h36) (ow (h36) (ow (at_str h32) (ow (h36) (ow (h36) (ow (h37) (ow (h37) (ow (h37) (ow (at_str h32) (ow (h37) (ow (h36) (ow (h37) (ow (h36) (ow (h38) ow0))))))))))))))))))))))) ?_
              refine (congrFun hS1 _).mpr ?_
              first | exact t | (simp only [List.map_append, List.map_cons, List.map_nil, List.map_set] at t ⊢; exact t)
        · have t := ih1 (IntKind.i64.wrap ((v1_3) + (1))) h
          refine AW_go (n := 2000) [[none]] [.b true, .ch b31, .b false, .b false, .b false, .ch b31, .b false, .b false, .b false, .b false, .b false, .b false, .b false, .b false, .b false, .b false, .b false, .b false, .b false, .b false, .cn [0, 3] []] (.cont 0 ⟨[(0, D.str (a0_)), (3, D.int .i64 (IntKind.i64.wrap ((v1_3) + (1))))], []⟩) hΓ mix (by kernel_rfl) (ow (h30) (ow (at_str h32) (ow (h33) (ow (h33) (ow (h33) (ow (at_str h32) (ow (h33) (ow (h33) (ow (h36) (ow (h36) (ow (h36) (ow (h36) (ow (h36) (ow (h36) (ow (h36) (ow (show (false) = false from rfl) ow0)))))))))))))))) ?_
          refine (congrFun hS1 _).mpr ?_
          first | exact t | (simp only [List.map_append, List.map_cons, List.map_nil, List.map_set] at t ⊢; exact t)
    · have t := AW_N (N := N) (N' := N1) (K0 := (dig (bodyOf Tryd.f82) [1, 1, 0, 1, 0] []).2) (by kernel_rfl) hN1 (hE1  h)
      refine AW_go (n := 2000) [[none]] [.b false, .hl 0 [] []] (.at_ (dig (bodyOf Tryd.f82) [1, 1, 1] []).1 (dig (bodyOf Tryd.f82) [1, 1, 1] []).2 ⟨[], []⟩) hΓ mix (by kernel_rfl) (ow (h30) ow0) ?_
      first | exact t | (simp only [List.map_append, List.map_cons, List.map_nil, List.map_set] at t ⊢; exact t)
theorem d_impl_IsAtom_good {a0_ : Bytes} {r : Bool} (h : d_impl_IsAtom a0_ = some r) : Good Tryd.prog 82 [D.str (a0_)] (D.bool (r)) := by
  refine Good.of (c := bodyOf Tryd.f82) Tryd.func82 rfl (by decide) (by simp [Tryd.f82]) ?_
  intro hr Γ hΓ
  have hΓ : Γ.nt = 40 := hΓ
  rw [d_impl_IsAtom] at h
  refine (show AW Tryd.prog Γ (bodyOf Tryd.f82) (KQ Tryd.prog Γ (fun _ _ => False) (RetQ Tryd.prog Tryd.f82 (D.bool (r))) []) _ from ?_)
  rcases den_if h with ⟨h1, h⟩ | ⟨h1, h⟩
  · have h := den_some h
    subst h
    exact AW_go (n := 2000) [[none]] [.b true, .b true, .b true, .b true, .b true] (.ret (D.bool (false))) hΓ mix (by kernel_rfl) (ow (h1) (ow (h1) (ow (h1) (ow (h1) (ow (show (true) = true from rfl) ow0))))) rfl
  · rcases den_if h with ⟨h2, h⟩ | ⟨h2, h⟩
    · have h := den_some h
      subst h
      exact AW_go (n := 2000) [[none]] [.b false, .b false, .b false, .b false, .b true] (.ret (D.bool (false))) hΓ mix (by kernel_rfl) (ow (h1) (ow (h1) (ow (h1) (ow (h1) (ow (h2) ow0))))) rfl
    · refine AW_go (n := 2000) [[none]] [.b false, .b false, .b false, .b false, .b false, .cn [0, 3] []] (.lp (dig (bodyOf Tryd.f82) [1, 1, 0, 1, 0, 0] []).1 (dig (bodyOf Tryd.f82) [1, 1, 0, 1, 0] []).2 ⟨[(0, D.str (a0_)), (3, D.int .i64 (0))], []⟩) hΓ mix (by kernel_rfl) (ow (h1) (ow (h1) (ow (h1) (ow (h1) (ow (h2) ow0))))) (AW_st (by first | rfl | (simp only [List.map_append, List.map_cons, List.map_nil, List.map_set, List.map_replicate] <;> rfl)) (AW_of_r (d_impl_IsAtom_L1w hΓ (fun h => ?_) fuel (0) h)))
      have h := den_some h
      subst h
      exact AW_go (n := 2000) [[none]] [] (.ret (D.bool (true))) hΓ mix (by kernel_rfl) ow0 rfl
def d_impl_IsName (a0_ : Bytes) : Option Bool := ((d_impl_IsAtom (a0_)).bind fun y1 => (bif y1 then ((atI (a0_) (0)).bind fun b4 => (some (decide ((b4.toNat : Int) ≥ (97))))) else (some (false))))
theorem d_impl_IsName_good {a0_ : Bytes} {r : Bool} (h : d_impl_IsName a0_ = some r) : Good Tryd.prog 68 [D.str (a0_)] (D.bool (r)) := by
  refine Good.of (c := bodyOf Tryd.f68) Tryd.func68 rfl (by decide) (by simp [Tryd.f68]) ?_
  intro hr Γ hΓ
  have hΓ : Γ.nt = 10 := hΓ
  rw [d_impl_IsName] at h
  refine (show AW Tryd.prog Γ (bodyOf Tryd.f68) (KQ Tryd.prog Γ (fun _ _ => False) (RetQ Tryd.prog Tryd.f68 (D.bool (r))) []) _ from ?_)
  obtain ⟨y1, h2, h⟩ := den_bind h
  rcases den_if h with ⟨h3, h⟩ | ⟨h3, h⟩
  · obtain ⟨b4, h5, h⟩ := den_bind h
    have h := den_some h
    subst h
    exact AW_go (n := 2000) [[none]] [.d (D.bool (y1)), .b true, .b true, .ch b4, .b true, .b true] (.ret (D.bool (decide ((b4.toNat : Int) ≥ (97))))) hΓ mix (by kernel_rfl) (ow (d_impl_IsAtom_good h2) (ow (h3) (ow (h3) (ow (at_str h5) (ow (h3) (ow (h3) ow0)))))) rfl
  · have h := den_some h
    subst h
    exact AW_go (n := 2000) [[none]] [.d (D.bool (y1)), .b false, .b false, .b false, .b false] (.ret (D.bool (false))) hΓ mix (by kernel_rfl) (ow (d_impl_IsAtom_good h2) (ow (h3) (ow (h3) (ow (h3) (ow (h3) ow0))))) rfl
def d_impl_IsFact_L1 (a0_ : Fact) (k1 : Option Bool) : List Bytes → Nat → Option Bool
  | [], i1 => (k1 )
  | x1_ :: xs1, i1 => ((d_impl_IsAtom (x1_)).bind fun y25 => (bif !(y25) then (some (false)) else (d_impl_IsFact_L1 a0_ k1 xs1 (i1 + 1) )))
def d_impl_IsFact (a0_ : Fact) : Option Bool := ((d_impl_IsName (a0_.rel)).bind fun y1 => (bif !(y1) then (some (false)) else (bif decide (((((a0_.args).map tx).length : Int) : Int) > (3)) then (some (false)) else (d_impl_IsFact_L1 a0_ (some (true)) (a0_.args) 0 ))))
theorem d_impl_IsFact_L1w {Γ : Ctx} (hΓ : Γ.nt = 26) {N : Nat → St → Prop} {a0_ : Fact} {r : Bool} {k1 : Option Bool} (hE1 : k1 = some r → AW Tryd.prog Γ (dig (bodyOf Tryd.f63) [1, 1, 1] []).1 (KQ Tryd.prog Γ N (RetQ Tryd.prog Tryd.f63 (D.bool (r))) (dig (bodyOf Tryd.f63) [1, 1, 1] []).2) ⟨[], []⟩) (hm1 : (a0_.args).length ≤ maxLen) : ∀ (rest : List Bytes) (i1 : Nat) , (a0_.args).drop i1 = rest → d_impl_IsFact_L1 a0_ k1 rest i1  = some r → AWr Tryd.prog Γ (dig (bodyOf Tryd.f63) [1, 1, 0, 1, 0, 0] []).1 (KQ Tryd.prog Γ N (RetQ Tryd.prog Tryd.f63 (D.bool (r))) (dig (bodyOf Tryd.f63) [1, 1, 0, 1, 0] []).2) (rest.length + 1) ⟨[(16, D.sl ((a0_.args).map tx)), (17, D.int .i64 ((((a0_.args).map tx).length : Int))), (18, D.int .i64 ((i1 : Int)))], []⟩ := by
  intro rest
  induction rest with
  | nil =>
    intro i1  hd1 h
    rw [d_impl_IsFact_L1] at h
    refine AWr_succ fun N1 hN1 hS1 => ?_
    have t := AW_N (N := N) (N' := N1) (K0 := (dig (bodyOf Tryd.f63) [1, 1, 0, 1, 0] []).2) (by kernel_rfl) hN1 (hE1  h)
    refine AW_go (n := 2000) [[none]] [.b false, .hl 0 [] []] (.at_ (dig (bodyOf Tryd.f63) [1, 1, 1] []).1 (dig (bodyOf Tryd.f63) [1, 1, 1] []).2 ⟨[], []⟩) hΓ mix (by kernel_rfl) (ow ((ltm_false tx (drop_nil hd1))) ow0) ?_
    first | exact t | (simp only [List.map_append, List.map_cons, List.map_nil, List.map_set] at t ⊢; exact t)
  | cons x1_ xs1 ih1 =>
    intro i1  hd1 h
    rw [d_impl_IsFact_L1] at h
    refine AWr_succ fun N1 hN1 hS1 => ?_
    obtain ⟨y25, h26, h⟩ := den_bind h
    rcases den_if h with ⟨h27, h⟩ | ⟨h27, h⟩
    · have h := den_some h
      subst h
      exact AW_go (n := 2000) [[none]] [.b true, .row (tx x1_), .d (D.bool (y25)), .b true] (.ret (D.bool (false))) hΓ mix (by kernel_rfl) (ow ((ltm_true tx (drop_cons hd1).2.1)) (ow (map_row tx 1 (drop_cons hd1).1 rfl) (ow (d_impl_IsAtom_good h26) (ow (h27) ow0)))) rfl
    · have t := ih1 (i1 + 1)  (drop_cons hd1).2.2 h
      refine AW_go (n := 2000) [[none]] [.b true, .row (tx x1_), .d (D.bool (y25)), .b false, .cn [16, 17, 18] []] (.cont 0 ⟨[(16, D.sl ((a0_.args).map tx)), (17, D.int .i64 ((((a0_.args).map tx).length : Int))), (18, D.int .i64 (IntKind.i64.wrap (((i1 : Int)) + (1))))], []⟩) hΓ mix (by kernel_rfl) (ow ((ltm_true tx (drop_cons hd1).2.1)) (ow (map_row tx 1 (drop_cons hd1).1 rfl) (ow (d_impl_IsAtom_good h26) (ow (h27) ow0)))) ?_
      refine (congrFun hS1 _).mpr ?_
      rw [i64_succ (drop_cons hd1).2.1 hm1]
      first | exact t | (simp only [List.map_append, List.map_cons, List.map_nil, List.map_set] at t ⊢; exact t)
theorem d_impl_IsFact_good {a0_ : Fact} {r : Bool} (h : d_impl_IsFact a0_ = some r) : Good Tryd.prog 63 [D.agg (Fact.c a0_)] (D.bool (r)) := by
  refine Good.of (c := bodyOf Tryd.f63) Tryd.func63 rfl (by decide) (by simp [Tryd.f63]) ?_
  intro hr Γ hΓ
  have hΓ : Γ.nt = 26 := hΓ
  rw [d_impl_IsFact] at h
  refine (show AW Tryd.prog Γ (bodyOf Tryd.f63) (KQ Tryd.prog Γ (fun _ _ => False) (RetQ Tryd.prog Tryd.f63 (D.bool (r))) []) _ from ?_)
  obtain ⟨y1, h2, h⟩ := den_bind h
  rcases den_if h with ⟨h3, h⟩ | ⟨h3, h⟩
  · have h := den_some h
    subst h
    exact AW_go (n := 2000) [[none]] [.d (D.bool (y1)), .b true, .b true, .b true, .b true, .b true, .b true] (.ret (D.bool (false))) hΓ mix (by kernel_rfl) (ow (d_impl_IsName_good h2) (ow (h3) (ow (h3) (ow (h3) (ow (h3) (ow (h3) (ow (show (true) = true from rfl) ow0))))))) rfl
  · rcases den_if h with ⟨h4, h⟩ | ⟨h4, h⟩
    · have h := den_some h
      subst h
      exact AW_go (n := 2000) [[none]] [.d (D.bool (y1)), .b false, .b false, .b false, .b false, .b false, .b true] (.ret (D.bool (false))) hΓ mix (by kernel_rfl) (ow (d_impl_IsName_good h2) (ow (h3) (ow (h3) (ow (h3) (ow (h3) (ow (h3) (ow (h4) ow0))))))) rfl
    · refine AW_go (n := 2000) [[none]] [.d (D.bool (y1)), .b false, .b false, .b false, .b false, .b false, .b false, .cn [16, 17, 18] []] (.lp (dig (bodyOf Tryd.f63) [1, 1, 0, 1, 0, 0] []).1 (dig (bodyOf Tryd.f63) [1, 1, 0, 1, 0] []).2 ⟨[(16, D.sl ((a0_.args).map tx)), (17, D.int .i64 ((((a0_.args).map tx).length : Int))), (18, D.int .i64 (0))], []⟩) hΓ mix (by kernel_rfl) (ow (d_impl_IsName_good h2) (ow (h3) (ow (h3) (ow (h3) (ow (h3) (ow (h3) (ow (h4) ow0))))))) (AW_st (by first | rfl | (simp only [List.map_append, List.map_cons, List.map_nil, List.map_set, List.map_replicate] <;> rfl)) (AW_of_r (d_impl_IsFact_L1w hΓ (fun h => ?_) (by have := (Rdb.sl (Rdb.agg (hr _ (List.mem_of_getElem? (i := 0) rfl)) (.sl ((a0_.args).map tx)) (by simp))).1; simpa using this) (a0_.args) 0  rfl h)))
      have h := den_some h
      subst h
      exact AW_go (n := 2000) [[none]] [] (.ret (D.bool (true))) hΓ mix (by kernel_rfl) ow0 rfl
def d_impl_AreFacts_L1 (a0_ : List Fact) (k1 : Option Bool) : List Fact → Nat → Option Bool
  | [], i1 => (k1 )
  | x1_ :: xs1, i1 => ((d_impl_IsFact (x1_)).bind fun y46 => (bif !(y46) then (some (false)) else (bif decide (((i1 : Int) : Int) > (0)) then ((atI (a0_) (IntKind.i64.wrap (((i1 : Int)) - (1)))).bind fun x50 => ((d_impl_CompareFacts (x50) (x1_)).bind fun y52 => (bif decide ((y52 : Int) ≥ (0)) then (some (false)) else (d_impl_AreFacts_L1 a0_ k1 xs1 (i1 + 1) )))) else (d_impl_AreFacts_L1 a0_ k1 xs1 (i1 + 1) ))))
def d_impl_AreFacts (a0_ : List Fact) : Option Bool := (bif decide (((((a0_).map Fact.c).length : Int) : Int) > (24)) then (some (false)) else (d_impl_AreFacts_L1 a0_ (some (true)) (a0_) 0 ))
theorem d_impl_AreFacts_L1w {Γ : Ctx} (hΓ : Γ.nt = 33) {N : Nat → St → Prop} {a0_ : List Fact} {r : Bool} {k1 : Option Bool} (hE1 : k1 = some r → AW Tryd.prog Γ (dig (bodyOf Tryd.f34) [1, 1, 1] []).1 (KQ Tryd.prog Γ N (RetQ Tryd.prog Tryd.f34 (D.bool (r))) (dig (bodyOf Tryd.f34) [1, 1, 1] []).2) ⟨[], []⟩) (hm1 : (a0_).length ≤ maxLen) : ∀ (rest : List Fact) (i1 : Nat) , (a0_).drop i1 = rest → d_impl_AreFacts_L1 a0_ k1 rest i1  = some r → AWr Tryd.prog Γ (dig (bodyOf Tryd.f34) [1, 1, 0, 1, 0, 0] []).1 (KQ Tryd.prog Γ N (RetQ Tryd.prog Tryd.f34 (D.bool (r))) (dig (bodyOf Tryd.f34) [1, 1, 0, 1, 0] []).2) (rest.length + 1) ⟨[(0, D.sl ((a0_).map Fact.c)), (8, D.sl ((a0_).map Fact.c)), (9, D.int .i64 ((((a0_).map Fact.c).length : Int))), (10, D.int .i64 ((i1 : Int)))], []⟩ := by
  intro rest
  induction rest with
  | nil =>
    intro i1  hd1 h
    rw [d_impl_AreFacts_L1] at h
    refine AWr_succ fun N1 hN1 hS1 => ?_
    have t := AW_N (N := N) (N' := N1) (K0 := (dig (bodyOf Tryd.f34) [1, 1, 0, 1, 0] []).2) (by kernel_rfl) hN1 (hE1  h)
    refine AW_go (n := 2000) [[none]] [.b false, .hl 0 [] []] (.at_ (dig (bodyOf Tryd.f34) [1, 1, 1] []).1 (dig (bodyOf Tryd.f34) [1, 1, 1] []).2 ⟨[], []⟩) hΓ mix (by kernel_rfl) (ow ((ltm_false Fact.c (drop_nil hd1))) ow0) ?_
    first | exact t | (simp only [List.map_append, List.map_cons, List.map_nil, List.map_set] at t ⊢; exact t)
  | cons x1_ xs1 ih1 =>
    intro i1  hd1 h
    rw [d_impl_AreFacts_L1] at h
    refine AWr_succ fun N1 hN1 hS1 => ?_
    obtain ⟨y46, h47, h⟩ := den_bind h
    rcases den_if h with ⟨h48, h⟩ | ⟨h48, h⟩
    · have h := den_some h
      subst h
      exact AW_go (n := 2000) [[none]] [.b true, .row (Fact.c x1_), .n 13, .d (D.bool (y46)), .b true, .b true, .b true, .b false, .b false, .b false, .b false, .b false, .b false, .b false, .b false, .b true, .b true, .b true] (.ret (D.bool (false))) hΓ mix (by kernel_rfl) (ow ((ltm_true Fact.c (drop_cons hd1).2.1)) (ow (map_row Fact.c 2 (drop_cons hd1).1 rfl) (ow (d_impl_IsFact_good h47) (ow (h48) (ow (h48) (ow (h48) (ow (h48) (ow (h48) (ow (show (true) = true from rfl) ow0))))))))) rfl
    · rcases den_if h with ⟨h49, h⟩ | ⟨h49, h⟩
      · obtain ⟨x50, h51, h⟩ := den_bind h
        obtain ⟨y52, h53, h⟩ := den_bind h
        rcases den_if h with ⟨h54, h⟩ | ⟨h54, h⟩
        · have h := den_some h
          subst h
          exact AW_go (n := 2000) [[none]] [.b true, .row (Fact.c x1_), .n 13, .d (D.bool (y46)), .b false, .b false, .b false, .b true, .b true, .b true, .b true, .row (Fact.c x50), .b true, .b true, .b true, .d (D.int .i64 (y52)), .b true, .b false, .b true, .b false, .b true] (.ret (D.bool (false))) hΓ mix (by kernel_rfl) (ow ((ltm_true Fact.c (drop_cons hd1).2.1)) (ow (map_row Fact.c 2 (drop_cons hd1).1 rfl) (ow (d_impl_IsFact_good h47) (ow (h48) (ow (h48) (ow (h48) (ow (h49) (ow (h49) (ow (h49) (ow (h49) (ow (at_row Fact.c 2 h51 rfl) (ow (h49) (ow (h49) (ow (h49) (ow (d_impl_CompareFacts_good h53) (ow (h49) (ow (h48) (ow (h49) (ow (h48) (ow (h54) ow0)))))))))))))))))))) rfl
        · have t := ih1 (i1 + 1)  (drop_cons hd1).2.2 h
          refine AW_go (n := 2000) [[none]] [.b true, .row (Fact.c x1_), .n 13, .d (D.bool (y46)), .b false, .b false, .b false, .b true, .b true, .b true, .b true, .row (Fact.c x50), .b true, .b true, .b true, .d (D.int .i64 (y52)), .b true, .b false, .b true, .b false, .b false, .cn [0, 8, 9, 10] []] (.cont 0 ⟨[(0, D.sl ((a0_).map Fact.c)), (8, D.sl ((a0_).map Fact.c)), (9, D.int .i64 ((((a0_).map Fact.c).length : Int))), (10, D.int .i64 (IntKind.i64.wrap (((i1 : Int)) + (1))))], []⟩) hΓ mix (by kernel_rfl) (ow ((ltm_true Fact.c (drop_cons hd1).2.1)) (ow (map_row Fact.c 2 (drop_cons hd1).1 rfl) (ow (d_impl_IsFact_good h47) (ow (h48) (ow (h48) (ow (h48) (ow (h49) (ow (h49) (ow (h49) (ow (h49) (ow (at_row Fact.c 2 h51 rfl) (ow (h49) (ow (h49) (ow (h49) (ow (d_impl_CompareFacts_good h53) (ow (h49) (ow (h48) (ow (h49) (ow (h48) (ow (h54) ow0)))))))))))))))))))) ?_
          refine (congrFun hS1 _).mpr ?_
          rw [i64_succ (drop_cons hd1).2.1 hm1]
          first | exact t | (simp only [List.map_append, List.map_cons, List.map_nil, List.map_set] at t ⊢; exact t)
      · have t := ih1 (i1 + 1)  (drop_cons hd1).2.2 h
        refine AW_go (n := 2000) [[none]] [.b true, .row (Fact.c x1_), .n 13, .d (D.bool (y46)), .b false, .b false, .b false, .b false, .b false, .b false, .b false, .b false, .b false, .b false, .b false, .b false, .b false, .b false, .b false, .cn [0, 8, 9, 10] []] (.cont 0 ⟨[(0, D.sl ((a0_).map Fact.c)), (8, D.sl ((a0_).map Fact.c)), (9, D.int .i64 ((((a0_).map Fact.c).length : Int))), (10, D.int .i64 (IntKind.i64.wrap (((i1 : Int)) + (1))))], []⟩) hΓ mix (by kernel_rfl) (ow ((ltm_true Fact.c (drop_cons hd1).2.1)) (ow (map_row Fact.c 2 (drop_cons hd1).1 rfl) (ow (d_impl_IsFact_good h47) (ow (h48) (ow (h48) (ow (h48) (ow (h49) (ow (h49) (ow (h49) (ow (h49) (ow (h49) (ow (h49) (ow (h49) (ow (h49) (ow (h48) (ow (h49) (ow (h48) (ow (show (false) = false from rfl) ow0)))))))))))))))))) ?_
        refine (congrFun hS1 _).mpr ?_
        rw [i64_succ (drop_cons hd1).2.1 hm1]
        first | exact t | (simp only [List.map_append, List.map_cons, List.map_nil, List.map_set] at t ⊢; exact t)
theorem d_impl_AreFacts_good {a0_ : List Fact} {r : Bool} (h : d_impl_AreFacts a0_ = some r) : Good Tryd.prog 34 [D.sl ((a0_).map Fact.c)] (D.bool (r)) := by
  refine Good.of (c := bodyOf Tryd.f34) Tryd.func34 rfl (by decide) (by simp [Tryd.f34]) ?_
  intro hr Γ hΓ
  have hΓ : Γ.nt = 33 := hΓ
  rw [d_impl_AreFacts] at h
  refine (show AW Tryd.prog Γ (bodyOf Tryd.f34) (KQ Tryd.prog Γ (fun _ _ => False) (RetQ Tryd.prog Tryd.f34 (D.bool (r))) []) _ from ?_)
  rcases den_if h with ⟨h1, h⟩ | ⟨h1, h⟩
  · have h := den_some h
    subst h
    exact AW_go (n := 2000) [[none]] [.b true] (.ret (D.bool (false))) hΓ mix (by kernel_rfl) (ow (h1) ow0) rfl
  · refine AW_go (n := 2000) [[none]] [.b false, .cn [0, 8, 9, 10] []] (.lp (dig (bodyOf Tryd.f34) [1, 1, 0, 1, 0, 0] []).1 (dig (bodyOf Tryd.f34) [1, 1, 0, 1, 0] []).2 ⟨[(0, D.sl ((a0_).map Fact.c)), (8, D.sl ((a0_).map Fact.c)), (9, D.int .i64 ((((a0_).map Fact.c).length : Int))), (10, D.int .i64 (0))], []⟩) hΓ mix (by kernel_rfl) (ow (h1) ow0) (AW_st (by first | rfl | (simp only [List.map_append, List.map_cons, List.map_nil, List.map_set, List.map_replicate] <;> rfl)) (AW_of_r (d_impl_AreFacts_L1w hΓ (fun h => ?_) (by have := (Rdb.sl (hr _ (List.mem_of_getElem? (i := 0) rfl))).1; simpa using this) (a0_) 0  rfl h)))
    have h := den_some h
    subst h
    exact AW_go (n := 2000) [[none]] [] (.ret (D.bool (true))) hΓ mix (by kernel_rfl) ow0 rfl
def d_impl_IsMemory_L1 (a0_ : List Stamp) (k1 : Option Bool) : List Stamp → Nat → List (Int × Bool) → Option Bool
  | [], i1, m1_0 => (k1 )
  | x1_ :: xs1, i1, m1_0 => (bif decide ((x1_.time : Int) < (1)) then (some (false)) else (bif decide ((x1_.time : Int) > (200)) then (some (false)) else (bif mGet false (x1_.time) (m1_0) then (some (false)) else (d_impl_IsMemory_L1 a0_ k1 xs1 (i1 + 1) (mPut (x1_.time) (true) (m1_0))))))
def d_impl_IsMemory (a0_ : List Stamp) : Option Bool := (d_impl_IsMemory_L1 a0_ ((d_impl_FactsIn (a0_)).bind fun y30 => ((d_impl_AreFacts (y30)).bind fun y32 => (some (y32)))) (a0_) 0 (([] : List (Int × Bool))))
theorem d_impl_IsMemory_L1w {Γ : Ctx} (hΓ : Γ.nt = 34) {N : Nat → St → Prop} {a0_ : List Stamp} {r : Bool} {k1 : Option Bool} (hE1 : k1 = some r → AW Tryd.prog Γ (dig (bodyOf Tryd.f14) [1, 1, 1] []).1 (KQ Tryd.prog Γ N (RetQ Tryd.prog Tryd.f14 (D.bool (r))) (dig (bodyOf Tryd.f14) [1, 1, 1] []).2) ⟨[(0, D.sl ((a0_).map Stamp.c))], []⟩) (hm1 : (a0_).length ≤ maxLen) : ∀ (rest : List Stamp) (i1 : Nat) (m1_0 : List (Int × Bool)), (a0_).drop i1 = rest → d_impl_IsMemory_L1 a0_ k1 rest i1 m1_0 = some r → AWr Tryd.prog Γ (dig (bodyOf Tryd.f14) [1, 1, 0, 1, 0, 0] []).1 (KQ Tryd.prog Γ N (RetQ Tryd.prog Tryd.f14 (D.bool (r))) (dig (bodyOf Tryd.f14) [1, 1, 0, 1, 0] []).2) (rest.length + 1) ⟨[(0, D.sl ((a0_).map Stamp.c)), (3, D.acc 0), (7, D.sl ((a0_).map Stamp.c)), (8, D.int .i64 ((((a0_).map Stamp.c).length : Int))), (9, D.int .i64 ((i1 : Int)))], [Ob.mp ((m1_0).map (kI eB))]⟩ := by
  intro rest
  induction rest with
  | nil =>
    intro i1 m1_0 hd1 h
    rw [d_impl_IsMemory_L1] at h
    refine AWr_succ fun N1 hN1 hS1 => ?_
    have t := AW_N (N := N) (N' := N1) (K0 := (dig (bodyOf Tryd.f14) [1, 1, 0, 1, 0] []).2) (by kernel_rfl) hN1 (hE1  h)
    refine AW_go (n := 2000) [[none]] [.b false, .hl 0 [0] []] (.at_ (dig (bodyOf Tryd.f14) [1, 1, 1] []).1 (dig (bodyOf Tryd.f14) [1, 1, 1] []).2 ⟨[(0, D.sl ((a0_).map Stamp.c))], []⟩) hΓ mix (by kernel_rfl) (ow ((ltm_false Stamp.c (drop_nil hd1))) ow0) ?_
    first | exact t | (simp only [List.map_append, List.map_cons, List.map_nil, List.map_set] at t ⊢; exact t)
  | cons x1_ xs1 ih1 =>
    intro i1 m1_0 hd1 h
    rw [d_impl_IsMemory_L1] at h
    refine AWr_succ fun N1 hN1 hS1 => ?_
    rcases den_if h with ⟨h27, h⟩ | ⟨h27, h⟩
    · have h := den_some h
      subst h
      exact AW_go (n := 2000) [[none]] [.b true, .row (Stamp.c x1_), .b true, .b true, .b true, .b true, .b true, .b true, .b true, .b true, .b true, .b true] (.ret (D.bool (false))) hΓ mix (by kernel_rfl) (ow ((ltm_true Stamp.c (drop_cons hd1).2.1)) (ow (map_row Stamp.c 3 (drop_cons hd1).1 rfl) (ow (h27) (ow (h27) (ow (h27) (ow (h27) (ow (show (true) = true from rfl) (ow (show (true) = true from rfl) (ow (show (true) = true from rfl) (ow (show (true) = true from rfl) (ow (show (true) = true from rfl) (ow (show (true) = true from rfl) ow0)))))))))))) rfl
    · rcases den_if h with ⟨h28, h⟩ | ⟨h28, h⟩
      · have h := den_some h
        subst h
        exact AW_go (n := 2000) [[none]] [.b true, .row (Stamp.c x1_), .b false, .b false, .b false, .b false, .b true, .b true, .b true, .b true, .b true, .b true] (.ret (D.bool (false))) hΓ mix (by kernel_rfl) (ow ((ltm_true Stamp.c (drop_cons hd1).2.1)) (ow (map_row Stamp.c 3 (drop_cons hd1).1 rfl) (ow (h27) (ow (h27) (ow (h27) (ow (h27) (ow (h28) (ow (h28) (ow (h28) (ow (h28) (ow (h28) (ow (show (true) = true from rfl) ow0)))))))))))) rfl
      · rcases den_if h with ⟨h29, h⟩ | ⟨h29, h⟩
        · have h := den_some h
          subst h
          exact AW_go (n := 2000) [[none]] [.b true, .row (Stamp.c x1_), .b false, .b false, .b false, .b false, .b false, .b false, .b false, .b false, .d (D.bool (mGet false (x1_.time) (m1_0))), .b false, .b true] (.ret (D.bool (false))) hΓ mix (by kernel_rfl) (ow ((ltm_true Stamp.c (drop_cons hd1).2.1)) (ow (map_row Stamp.c 3 (drop_cons hd1).1 rfl) (ow (h27) (ow (h27) (ow (h27) (ow (h27) (ow (h28) (ow (h28) (ow (h28) (ow (h28) (ow (show plk Tryd.prog 77 ((m1_0).map (kI eB)) (D.int .i64 (x1_.time)) false = some (D.bool (mGet false (x1_.time) (m1_0))) from lk_kI (e := eB) (z := false) (by kernel_rfl)) (ow (h28) (ow (h29) ow0))))))))))))) rfl
        · have t := ih1 (i1 + 1) (mPut (x1_.time) (true) (m1_0)) (drop_cons hd1).2.2 h
          refine AW_go (n := 2000) [[none]] [.b true, .row (Stamp.c x1_), .b false, .b false, .b false, .b false, .b false, .b false, .b false, .b false, .d (D.bool (mGet false (x1_.time) (m1_0))), .b false, .b false, .kv ((mPut (x1_.time) (true) (m1_0)).map (kI eB)), .cn [0, 3, 7, 8, 9] [0]] (.cont 0 ⟨[(0, D.sl ((a0_).map Stamp.c)), (3, D.acc 0), (7, D.sl ((a0_).map Stamp.c)), (8, D.int .i64 ((((a0_).map Stamp.c).length : Int))), (9, D.int .i64 (IntKind.i64.wrap (((i1 : Int)) + (1))))], [Ob.mp ((mPut (x1_.time) (true) (m1_0)).map (kI eB))]⟩) hΓ mix (by kernel_rfl) (ow ((ltm_true Stamp.c (drop_cons hd1).2.1)) (ow (map_row Stamp.c 3 (drop_cons hd1).1 rfl) (ow (h27) (ow (h27) (ow (h27) (ow (h27) (ow (h28) (ow (h28) (ow (h28) (ow (h28) (ow (show plk Tryd.prog 77 ((m1_0).map (kI eB)) (D.int .i64 (x1_.time)) false = some (D.bool (mGet false (x1_.time) (m1_0))) from lk_kI (e := eB) (z := false) (by kernel_rfl)) (ow (h28) (ow (h29) (ow (show kvPut (D.int .i64 (x1_.time)) (D.bool (true)) ((m1_0).map (kI eB)) = some ((mPut (x1_.time) (true) (m1_0)).map (kI eB)) from put_kI (e := eB) (m := m1_0)) ow0)))))))))))))) ?_
          refine (congrFun hS1 _).mpr ?_
          rw [i64_succ (drop_cons hd1).2.1 hm1]
          first | exact t | (simp only [List.map_append, List.map_cons, List.map_nil, List.map_set] at t ⊢; exact t)
theorem d_impl_IsMemory_good {a0_ : List Stamp} {r : Bool} (h : d_impl_IsMemory a0_ = some r) : Good Tryd.prog 14 [D.sl ((a0_).map Stamp.c)] (D.bool (r)) := by
  refine Good.of (c := bodyOf Tryd.f14) Tryd.func14 rfl (by decide) (by simp [Tryd.f14]) ?_
  intro hr Γ hΓ
  have hΓ : Γ.nt = 34 := hΓ
  rw [d_impl_IsMemory] at h
  refine (show AW Tryd.prog Γ (bodyOf Tryd.f14) (KQ Tryd.prog Γ (fun _ _ => False) (RetQ Tryd.prog Tryd.f14 (D.bool (r))) []) _ from ?_)
  refine AW_go (n := 2000) [[none]] [.cn [0, 3, 7, 8, 9] [0]] (.lp (dig (bodyOf Tryd.f14) [1, 1, 0, 1, 0, 0] []).1 (dig (bodyOf Tryd.f14) [1, 1, 0, 1, 0] []).2 ⟨[(0, D.sl ((a0_).map Stamp.c)), (3, D.acc 0), (7, D.sl ((a0_).map Stamp.c)), (8, D.int .i64 ((((a0_).map Stamp.c).length : Int))), (9, D.int .i64 (0))], [Ob.mp ([])]⟩) hΓ mix (by kernel_rfl) ow0 (AW_st (by first | rfl | (simp only [List.map_append, List.map_cons, List.map_nil, List.map_set, List.map_replicate] <;> rfl)) (AW_of_r (d_impl_IsMemory_L1w hΓ (fun h => ?_) (by have := (Rdb.sl (hr _ (List.mem_of_getElem? (i := 0) rfl))).1; simpa using this) (a0_) 0 (([] : List (Int × Bool))) rfl h)))
  obtain ⟨y30, h31, h⟩ := den_bind h
  obtain ⟨y32, h33, h⟩ := den_bind h
  have h := den_some h
  subst h
  exact AW_go (n := 2000) [[none]] [.d (D.fr 61 2 ((y30).map Fact.c)), .d (D.bool (y32))] (.ret (D.bool (y32))) hΓ mix (by kernel_rfl) (ow (d_impl_FactsIn_good h31) (ow (d_impl_AreFacts_good h33) ow0)) rfl
end Go.Cx
