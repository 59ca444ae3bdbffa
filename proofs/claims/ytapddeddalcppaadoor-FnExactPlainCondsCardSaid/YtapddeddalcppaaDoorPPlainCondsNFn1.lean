/- What functions of the program compute, and the walks that show it. No condition. -/
import Derived.Test.YtapddeddalcppaaDoorNLay
namespace Go.Cx
open Go.RowKit Go.Proofs
set_option linter.unusedVariables false
set_option linter.unusedSimpArgs false
set_option maxRecDepth 100000
def d_spec_l1In (a0_ : Int) (a1_ : Int) (a2_ : Int) : Option Bool := (bif decide ((a0_ : Int) ≥ (a1_)) then (some (decide ((a0_ : Int) ≤ (a2_)))) else (some (false)))
theorem d_spec_l1In_good {a0_ : Int} {a1_ : Int} {a2_ : Int} {r : Bool} (h : d_spec_l1In a0_ a1_ a2_ = some r) : Good Tryd.prog 72 [D.int .i64 (a0_), D.int .i64 (a1_), D.int .i64 (a2_)] (D.bool (r)) := by
  refine Good.of (c := bodyOf Tryd.f72) Tryd.func72 rfl (by decide) (by simp [Tryd.f72]) ?_
  intro hr Γ hΓ
  have hΓ : Γ.nt = 15 := hΓ
  rw [d_spec_l1In] at h
  refine (show AW Tryd.prog Γ (bodyOf Tryd.f72) (KQ Tryd.prog Γ (fun _ _ => False) (RetQ Tryd.prog Tryd.f72 (D.bool (r))) []) _ from ?_)
  rcases den_if h with ⟨h1, h⟩ | ⟨h1, h⟩
  · have h := den_some h
    subst h
    exact AW_go (n := 2000) [[none]] [.b true, .b true, .b true, .b true] (.ret (D.bool (decide ((a0_ : Int) ≤ (a2_))))) hΓ mix (by kernel_rfl) (ow (h1) (ow (h1) (ow (h1) (ow (h1) ow0)))) rfl
  · have h := den_some h
    subst h
    exact AW_go (n := 2000) [[none]] [.b false, .b false, .b false, .b false] (.ret (D.bool (false))) hΓ mix (by kernel_rfl) (ow (h1) (ow (h1) (ow (h1) (ow (h1) ow0)))) rfl
def d_spec_IsAtom_L1 (a0_ : Bytes) (k1 : Option Bool) : Nat → Int → Option Bool
  | 0, _ => none
  | n1 + 1, v1_3 => (bif decide ((v1_3 : Int) < (((a0_).length : Int))) then ((atI (a0_) (v1_3)).bind fun b29 => ((d_spec_l1In (IntKind.i64.wrap (b29.toNat)) (97) (122)).bind fun y31 => (bif !(y31) then ((d_spec_l1In (IntKind.i64.wrap (b29.toNat)) (48) (57)).bind fun y34 => (bif !(y34) then (some (false)) else (d_spec_IsAtom_L1 a0_ k1 n1 (IntKind.i64.wrap ((v1_3) + (1)))))) else (d_spec_IsAtom_L1 a0_ k1 n1 (IntKind.i64.wrap ((v1_3) + (1))))))) else (k1 ))
def d_spec_IsAtom (a0_ : Bytes) : Option Bool := (d_spec_IsAtom_L1 a0_ ((d_spec_l1In (((a0_).length : Int)) (1) (8)).bind fun y37 => (some (y37))) fuel (0))
theorem d_spec_IsAtom_L1w {Γ : Ctx} (hΓ : Γ.nt = 27) {N : Nat → St → Prop} {a0_ : Bytes} {r : Bool} {k1 : Option Bool} (hE1 : k1 = some r → AW Tryd.prog Γ (dig (bodyOf Tryd.f125) [1, 1] []).1 (KQ Tryd.prog Γ N (RetQ Tryd.prog Tryd.f125 (D.bool (r))) (dig (bodyOf Tryd.f125) [1, 1] []).2) ⟨[(0, D.str (a0_))], []⟩) : ∀ (n1 : Nat) (v1_3 : Int), d_spec_IsAtom_L1 a0_ k1 n1 v1_3 = some r → AWr Tryd.prog Γ (dig (bodyOf Tryd.f125) [1, 0, 1, 0, 0] []).1 (KQ Tryd.prog Γ N (RetQ Tryd.prog Tryd.f125 (D.bool (r))) (dig (bodyOf Tryd.f125) [1, 0, 1, 0] []).2) n1 ⟨[(0, D.str (a0_)), (3, D.int .i64 (v1_3))], []⟩ := by
  intro n
  induction n with
  | zero => intro v1_3 h; simp [d_spec_IsAtom_L1] at h
  | succ n1 ih1 =>
    intro v1_3 h
    rw [d_spec_IsAtom_L1] at h
    refine AWr_succ fun N1 hN1 hS1 => ?_
    rcases den_if h with ⟨h28, h⟩ | ⟨h28, h⟩
    · obtain ⟨b29, h30, h⟩ := den_bind h
      obtain ⟨y31, h32, h⟩ := den_bind h
      rcases den_if h with ⟨h33, h⟩ | ⟨h33, h⟩
      · obtain ⟨y34, h35, h⟩ := den_bind h
        rcases den_if h with ⟨h36, h⟩ | ⟨h36, h⟩
        · have h := den_some h
          subst h
          exact AW_go (n := 2000) [[none]] [.b true, .ch b29, .d (D.bool (y31)), .b true, .b true, .b true, .ch b29, .b true, .b true, .d (D.bool (y34)), .b true, .b true, .b true] (.ret (D.bool (false))) hΓ mix (by kernel_rfl) (ow (h28) (ow (at_str h30) (ow (d_spec_l1In_good h32) (ow (h33) (ow (h33) (ow (h33) (ow (at_str h30) (ow (h33) (ow (h33) (ow (d_spec_l1In_good h35) (ow (h33) (ow (h33) (ow (h36) ow0))))))))))))) rfl
        · have t := ih1 (IntKind.i64.wrap ((v1_3) + (1))) h
          refine AW_go (n := 2000) [[none]] [.b true, .ch b29, .d (D.bool (y31)), .b true, .b true, .b true, .ch b29, .b true, .b true, .d (D.bool (y34)), .b true, .b true, .b false, .cn [0, 3] []] (.cont 0 ⟨[(0, D.str (a0_)), (3, D.int .i64 (IntKind.i64.wrap ((v1_3) + (1))))], []⟩) hΓ mix (by kernel_rfl) (ow (h28) (ow (at_str h30) (ow (d_spec_l1In_good h32) (ow (h33) (ow (h33) (ow (h33) (ow (at_str h30) (ow (h33) (ow (h33) (ow (d_spec_l1In_good h35) (ow (h33) (ow (h33) (ow (h36) ow0))))))))))))) ?_
          refine (congrFun hS1 _).mpr ?_
          first | exact t | (simp only [List.map_append, List.map_cons, List.map_nil, List.map_set] at t ⊢; exact t)
      · have t := ih1 (IntKind.i64.wrap ((v1_3) + (1))) h
        refine AW_go (n := 2000) [[none]] [.b true, .ch b29, .d (D.bool (y31)), .b false, .b false, .b false, .b false, .b false, .b false, .b false, .b false, .cn [0, 3] []] (.cont 0 ⟨[(0, D.str (a0_)), (3, D.int .i64 (IntKind.i64.wrap ((v1_3) + (1))))], []⟩) hΓ mix (by kernel_rfl) (ow (h28) (ow (at_str h30) (ow (d_spec_l1In_good h32) (ow (h33) (ow (h33) (ow (h33) (ow (h33) (ow (h33) (ow (h33) (ow (h33) (ow (show (false) = false from rfl) ow0))))))))))) ?_
        refine (congrFun hS1 _).mpr ?_
        first | exact t | (simp only [List.map_append, List.map_cons, List.map_nil, List.map_set] at t ⊢; exact t)
    · have t := AW_N (N := N) (N' := N1) (K0 := (dig (bodyOf Tryd.f125) [1, 0, 1, 0] []).2) (by kernel_rfl) hN1 (hE1  h)
      refine AW_go (n := 2000) [[none]] [.b false, .hl 0 [0] []] (.at_ (dig (bodyOf Tryd.f125) [1, 1] []).1 (dig (bodyOf Tryd.f125) [1, 1] []).2 ⟨[(0, D.str (a0_))], []⟩) hΓ mix (by kernel_rfl) (ow (h28) ow0) ?_
      first | exact t | (simp only [List.map_append, List.map_cons, List.map_nil, List.map_set] at t ⊢; exact t)
theorem d_spec_IsAtom_good {a0_ : Bytes} {r : Bool} (h : d_spec_IsAtom a0_ = some r) : Good Tryd.prog 125 [D.str (a0_)] (D.bool (r)) := by
  refine Good.of (c := bodyOf Tryd.f125) Tryd.func125 rfl (by decide) (by simp [Tryd.f125]) ?_
  intro hr Γ hΓ
  have hΓ : Γ.nt = 27 := hΓ
  rw [d_spec_IsAtom] at h
  refine (show AW Tryd.prog Γ (bodyOf Tryd.f125) (KQ Tryd.prog Γ (fun _ _ => False) (RetQ Tryd.prog Tryd.f125 (D.bool (r))) []) _ from ?_)
  refine AW_go (n := 2000) [[none]] [.cn [0, 3] []] (.lp (dig (bodyOf Tryd.f125) [1, 0, 1, 0, 0] []).1 (dig (bodyOf Tryd.f125) [1, 0, 1, 0] []).2 ⟨[(0, D.str (a0_)), (3, D.int .i64 (0))], []⟩) hΓ mix (by kernel_rfl) ow0 (AW_st (by first | rfl | (simp only [List.map_append, List.map_cons, List.map_nil, List.map_set, List.map_replicate] <;> rfl)) (AW_of_r (d_spec_IsAtom_L1w hΓ (fun h => ?_) fuel (0) h)))
  obtain ⟨y37, h38, h⟩ := den_bind h
  have h := den_some h
  subst h
  exact AW_go (n := 2000) [[none]] [.d (D.bool (y37))] (.ret (D.bool (y37))) hΓ mix (by kernel_rfl) (ow (d_spec_l1In_good h38) ow0) rfl
def d_spec_IsVar (a0_ : Bytes) : Option Bool := (bif decide ((((a0_).length : Int) : Int) > (1)) then ((atI (a0_) (0)).bind fun b2 => (bif (b2.toNat : Int) == (63) then ((pcut (a0_).length (some (D.int .i64 (1))) (none)).bind fun p => (fun l5 u6 => ((d_spec_IsAtom (((a0_).take u6).drop l5)).bind fun y8 => (some (y8)))) p.1 p.2) else (some (false)))) else (some (false)))
theorem d_spec_IsVar_good {a0_ : Bytes} {r : Bool} (h : d_spec_IsVar a0_ = some r) : Good Tryd.prog 93 [D.str (a0_)] (D.bool (r)) := by
  refine Good.of (c := bodyOf Tryd.f93) Tryd.func93 rfl (by decide) (by simp [Tryd.f93]) ?_
  intro hr Γ hΓ
  have hΓ : Γ.nt = 16 := hΓ
  rw [d_spec_IsVar] at h
  refine (show AW Tryd.prog Γ (bodyOf Tryd.f93) (KQ Tryd.prog Γ (fun _ _ => False) (RetQ Tryd.prog Tryd.f93 (D.bool (r))) []) _ from ?_)
  rcases den_if h with ⟨h1, h⟩ | ⟨h1, h⟩
  · obtain ⟨b2, h3, h⟩ := den_bind h
    rcases den_if h with ⟨h4, h⟩ | ⟨h4, h⟩
    · obtain ⟨⟨l5, u6⟩, h7, h⟩ := den_bind h
      obtain ⟨y8, h9, h⟩ := den_bind h
      have h := den_some h
      subst h
      exact AW_go (n := 2000) [[none]] [.b true, .b true, .ch b2, .b true, .b true, .b true, .b true, .cut l5 u6, .b true, .d (D.bool (y8)), .b true] (.ret (D.bool (y8))) hΓ mix (by kernel_rfl) (ow (h1) (ow (h1) (ow (at_str h3) (ow (h1) (ow (h1) (ow (h4) (ow (h4) (ow (h7) (ow (h4) (ow (d_spec_IsAtom_good h9) (ow (h4) ow0))))))))))) rfl
    · have h := den_some h
      subst h
      exact AW_go (n := 2000) [[none]] [.b true, .b true, .ch b2, .b true, .b true, .b false, .b false, .b false, .b false] (.ret (D.bool (false))) hΓ mix (by kernel_rfl) (ow (h1) (ow (h1) (ow (at_str h3) (ow (h1) (ow (h1) (ow (h4) (ow (h4) (ow (h4) (ow (h4) ow0))))))))) rfl
  · have h := den_some h
    subst h
    exact AW_go (n := 2000) [[none]] [.b false, .b false, .b false, .b false, .b false, .b false, .b false, .b false] (.ret (D.bool (false))) hΓ mix (by kernel_rfl) (ow (h1) (ow (h1) (ow (h1) (ow (h1) (ow (show (false) = false from rfl) (ow (show (false) = false from rfl) (ow (show (false) = false from rfl) (ow (show (false) = false from rfl) ow0)))))))) rfl
def d_spec_FormatInt_R_L1  (k1 : Option Bytes) : Nat → Int → Bytes → Option Bytes
  | 0, _, _ => none
  | n1 + 1, v1_0, v1_3 => (bif decide (0 ≤ (v1_0 : Int)) && decide (0 < (10 : Int)) then (bif decide (([UInt8.ofNat (IntKind.u8.wrap (IntKind.i64.wrap ((48) + ((v1_0 : Int) % (10))))).toNat] : Bytes).length + (v1_3 : Bytes).length ≤ maxLen) then (bif decide (0 ≤ (v1_0 : Int)) && decide (0 < (10 : Int)) then (bif ((v1_0 : Int) / (10) : Int) == (0) then (some (([UInt8.ofNat (IntKind.u8.wrap (IntKind.i64.wrap ((48) + ((v1_0 : Int) % (10))))).toNat]) ++ (v1_3))) else (d_spec_FormatInt_R_L1  k1 n1 ((v1_0 : Int) / (10)) (([UInt8.ofNat (IntKind.u8.wrap (IntKind.i64.wrap ((48) + ((v1_0 : Int) % (10))))).toNat]) ++ (v1_3)))) else none) else none) else none)
def d_spec_FormatInt_R : Nat → Int → Option Bytes
  | 0, _ => none
  | m_ + 1, a0_ => (bif (a0_ : Int) == (-9223372036854775808) then (some ([45, 57, 50, 50, 51, 51, 55, 50, 48, 51, 54, 56, 53, 52, 55, 55, 53, 56, 48, 56])) else (bif decide ((a0_ : Int) < (0)) then ((d_spec_FormatInt_R m_ (IntKind.i64.wrap (0 - (a0_)))).bind fun y3 => (bif decide (([45] : Bytes).length + (y3 : Bytes).length ≤ maxLen) then (some (([45]) ++ (y3))) else none)) else (d_spec_FormatInt_R_L1  none fuel (a0_) ([]))))
theorem d_spec_FormatInt_R_L1w {Γ : Ctx} (hΓ : Γ.nt = 25) {N : Nat → St → Prop}  {r : Bytes} {k1 : Option Bytes} (hE1 : k1 = some r → AW Tryd.prog Γ (dig (bodyOf Tryd.f83) [1, 1, 1, 1, 0, 0] []).1 (KQ Tryd.prog Γ N (RetQ Tryd.prog Tryd.f83 (D.str (r))) (dig (bodyOf Tryd.f83) [1, 1, 1, 1, 0, 0] []).2) ⟨[], []⟩) : ∀ (n1 : Nat) (v1_0 : Int) (v1_3 : Bytes), d_spec_FormatInt_R_L1  k1 n1 v1_0 v1_3 = some r → AWr Tryd.prog Γ (dig (bodyOf Tryd.f83) [1, 1, 1, 1, 0, 0] []).1 (KQ Tryd.prog Γ N (RetQ Tryd.prog Tryd.f83 (D.str (r))) (dig (bodyOf Tryd.f83) [1, 1, 1, 1, 0] []).2) n1 ⟨[(0, D.int .i64 (v1_0)), (3, D.str (v1_3))], []⟩ := by
  intro n
  induction n with
  | zero => intro v1_0 v1_3 h; simp [d_spec_FormatInt_R_L1] at h
  | succ n1 ih1 =>
    intro v1_0 v1_3 h
    rw [d_spec_FormatInt_R_L1] at h
    refine AWr_succ fun N1 hN1 hS1 => ?_
    obtain ⟨h14, h⟩ := den_ok h
    obtain ⟨h15, h⟩ := den_ok h
    obtain ⟨h16, h⟩ := den_ok h
    rcases den_if h with ⟨h17, h⟩ | ⟨h17, h⟩
    · have h := den_some h
      subst h
      exact AW_go (n := 2000) [[none]] [.b true] (.ret (D.str (([UInt8.ofNat (IntKind.u8.wrap (IntKind.i64.wrap ((48) + ((v1_0 : Int) % (10))))).toNat]) ++ (v1_3)))) hΓ mix (by kernel_rfl) (ow (quo_ok .i64 h14) (ow (of_decide_eq_true h15) (ow (quo_ok .i64 h16) (ow (h17) ow0)))) (by first | rfl | (simp only [List.map_append, List.map_cons, List.map_nil, List.map_set] <;> rfl))
    · have t := ih1 ((v1_0 : Int) / (10)) (([UInt8.ofNat (IntKind.u8.wrap (IntKind.i64.wrap ((48) + ((v1_0 : Int) % (10))))).toNat]) ++ (v1_3)) h
      refine AW_go (n := 2000) [[none]] [.b false, .cn [0, 3] []] (.cont 0 ⟨[(0, D.int .i64 ((v1_0 : Int) / (10))), (3, D.str (([UInt8.ofNat (IntKind.u8.wrap (IntKind.i64.wrap ((48) + ((v1_0 : Int) % (10))))).toNat]) ++ (v1_3)))], []⟩) hΓ mix (by kernel_rfl) (ow (quo_ok .i64 h14) (ow (of_decide_eq_true h15) (ow (quo_ok .i64 h16) (ow (h17) ow0)))) ?_
      refine (congrFun hS1 _).mpr ?_
      first | exact t | (simp only [List.map_append, List.map_cons, List.map_nil, List.map_set] at t ⊢; exact t)
theorem d_spec_FormatInt_R_step {m_ : Nat} (ihR : ∀ {a0_ : Int} {r : Bytes}, d_spec_FormatInt_R m_ a0_ = some r → Good Tryd.prog 83 [D.int .i64 (a0_)] (D.str (r))) {a0_ : Int} {r : Bytes} (h : d_spec_FormatInt_R (m_ + 1) a0_ = some r) : Good Tryd.prog 83 [D.int .i64 (a0_)] (D.str (r)) := by
  refine Good.of (c := bodyOf Tryd.f83) Tryd.func83 rfl (by decide) (by simp [Tryd.f83]) ?_
  intro hr Γ hΓ
  have hΓ : Γ.nt = 25 := hΓ
  rw [d_spec_FormatInt_R] at h
  refine (show AW Tryd.prog Γ (bodyOf Tryd.f83) (KQ Tryd.prog Γ (fun _ _ => False) (RetQ Tryd.prog Tryd.f83 (D.str (r))) []) _ from ?_)
  rcases den_if h with ⟨h1, h⟩ | ⟨h1, h⟩
  · have h := den_some h
    subst h
    exact AW_go (n := 2000) [[none]] [.b true] (.ret (D.str ([45, 57, 50, 50, 51, 51, 55, 50, 48, 51, 54, 56, 53, 52, 55, 55, 53, 56, 48, 56]))) hΓ mix (by kernel_rfl) (ow (h1) ow0) rfl
  · rcases den_if h with ⟨h2, h⟩ | ⟨h2, h⟩
    · obtain ⟨y3, h4, h⟩ := den_bind h
      obtain ⟨h5, h⟩ := den_ok h
      have h := den_some h
      subst h
      exact AW_go (n := 2000) [[none]] [.b false, .b true, .d (D.str (y3))] (.ret (D.str (([45]) ++ (y3)))) hΓ mix (by kernel_rfl) (ow (h1) (ow (h2) (ow (ihR h4) (ow (of_decide_eq_true h5) ow0)))) (by first | rfl | (simp only [List.map_append, List.map_cons, List.map_nil, List.map_set] <;> rfl))
    · refine AW_go (n := 2000) [[none]] [.b false, .b false, .cn [0, 3] []] (.lp (dig (bodyOf Tryd.f83) [1, 1, 1, 1, 0, 0] []).1 (dig (bodyOf Tryd.f83) [1, 1, 1, 1, 0] []).2 ⟨[(0, D.int .i64 (a0_)), (3, D.str ([]))], []⟩) hΓ mix (by kernel_rfl) (ow (h1) (ow (h2) ow0)) (AW_st (by first | rfl | (simp only [List.map_append, List.map_cons, List.map_nil, List.map_set, List.map_replicate] <;> rfl)) (AW_of_r (d_spec_FormatInt_R_L1w hΓ (fun h => ?_) fuel (a0_) ([]) h)))
      cases h
theorem d_spec_FormatInt_R_good : ∀ (m_ : Nat) {a0_ : Int} {r : Bytes}, d_spec_FormatInt_R m_ a0_ = some r → Good Tryd.prog 83 [D.int .i64 (a0_)] (D.str (r))
  | 0, _, _, h => by cases h
  | m_ + 1, _, _, h => d_spec_FormatInt_R_step (fun h => d_spec_FormatInt_R_good m_ h) h
def d_spec_FormatInt (a0_ : Int) : Option Bytes := d_spec_FormatInt_R fuel a0_
theorem d_spec_FormatInt_good {a0_ : Int} {r : Bytes} (h : d_spec_FormatInt a0_ = some r) : Good Tryd.prog 83 [D.int .i64 (a0_)] (D.str (r)) := d_spec_FormatInt_R_good fuel h
def d_spec_l7Name_L1 (a0_ : List Pair) (a1_ : Bytes) (k1 : Option (List Pair)) : List Pair → Nat → Option (List Pair)
  | [], i1 => (k1 )
  | x1_ :: xs1, i1 => (bif (x1_.var : Bytes) == (a1_) then (some (a0_)) else (d_spec_l7Name_L1 a0_ a1_ k1 xs1 (i1 + 1) ))
def d_spec_l7Name (a0_ : List Pair) (a1_ : Bytes) : Option (List Pair) := ((d_spec_IsVar (a1_)).bind fun y1 => (bif !(y1) then (some (a0_)) else (d_spec_l7Name_L1 a0_ a1_ ((d_spec_FormatInt (IntKind.i64.wrap (((((a0_).map Pair.c).length : Int)) + (1)))).bind fun y18 => (bif decide (([63] : Bytes).length + (y18 : Bytes).length ≤ maxLen) then (bif room (((a0_).map Pair.c).length + ([[D.str (a1_), D.str (([63]) ++ (y18))]]).length) 32 then (some ((a0_) ++ ([(⟨a1_, ([63]) ++ (y18)⟩ : Pair)]))) else none) else none)) (a0_) 0 )))
theorem d_spec_l7Name_L1w {Γ : Ctx} (hΓ : Γ.nt = 34) {N : Nat → St → Prop} {a0_ : List Pair} {a1_ : Bytes} {r : List Pair} {k1 : Option (List Pair)} (hE1 : k1 = some r → AW Tryd.prog Γ (dig (bodyOf Tryd.f46) [1, 1, 1] []).1 (KQ Tryd.prog Γ N (RetQ Tryd.prog Tryd.f46 (D.fr 100 2 ((r).map Pair.c))) (dig (bodyOf Tryd.f46) [1, 1, 1] []).2) ⟨[(0, D.acc 0), (1, D.str (a1_))], [Ob.row .uq 100 2 ((a0_).map Pair.c)]⟩) (hm1 : (a0_).length ≤ maxLen) : ∀ (rest : List Pair) (i1 : Nat) , (a0_).drop i1 = rest → d_spec_l7Name_L1 a0_ a1_ k1 rest i1  = some r → AWr Tryd.prog Γ (dig (bodyOf Tryd.f46) [1, 1, 0, 1, 0, 0] []).1 (KQ Tryd.prog Γ N (RetQ Tryd.prog Tryd.f46 (D.fr 100 2 ((r).map Pair.c))) (dig (bodyOf Tryd.f46) [1, 1, 0, 1, 0] []).2) (rest.length + 1) ⟨[(0, D.acc 0), (1, D.str (a1_)), (5, D.int .i64 ((i1 : Int)))], [Ob.row .uq 100 2 ((a0_).map Pair.c)]⟩ := by
  intro rest
  induction rest with
  | nil =>
    intro i1  hd1 h
    rw [d_spec_l7Name_L1] at h
    refine AWr_succ fun N1 hN1 hS1 => ?_
    have t := AW_N (N := N) (N' := N1) (K0 := (dig (bodyOf Tryd.f46) [1, 1, 0, 1, 0] []).2) (by kernel_rfl) hN1 (hE1  h)
    refine AW_go (n := 2000) [[some (100, 2)]] [.b false, .hl 0 [0, 1] [0]] (.at_ (dig (bodyOf Tryd.f46) [1, 1, 1] []).1 (dig (bodyOf Tryd.f46) [1, 1, 1] []).2 ⟨[(0, D.acc 0), (1, D.str (a1_))], [Ob.row .uq 100 2 ((a0_).map Pair.c)]⟩) hΓ mix (by kernel_rfl) (ow ((ltm_false Pair.c (drop_nil hd1))) ow0) ?_
    first | exact t | (simp only [List.map_append, List.map_cons, List.map_nil, List.map_set] at t ⊢; exact t)
  | cons x1_ xs1 ih1 =>
    intro i1  hd1 h
    rw [d_spec_l7Name_L1] at h
    refine AWr_succ fun N1 hN1 hS1 => ?_
    rcases den_if h with ⟨h17, h⟩ | ⟨h17, h⟩
    · have h := den_some h
      subst h
      exact AW_go (n := 2000) [[some (100, 2)]] [.b true, .ix i1, .row [D.str (x1_.var), D.str (x1_.value)], .b true] (.ret (D.fr 100 2 ((a0_).map Pair.c))) hΓ mix (by kernel_rfl) (ow ((ltm_true Pair.c (drop_cons hd1).2.1)) (ow (own_ixl Pair.c 2 (drop_cons hd1).1) (ow (show 2 = 2 ∧ RK.opn .uq = true ∧ ((a0_).map Pair.c)[i1]? = some [D.str (x1_.var), D.str (x1_.value)] ∧ 1 ≤ 2 from ⟨rfl, rfl, map_get Pair.c (drop_cons hd1).1, by omega⟩) (ow (h17) ow0)))) rfl
    · have t := ih1 (i1 + 1)  (drop_cons hd1).2.2 h
      refine AW_go (n := 2000) [[some (100, 2)]] [.b true, .ix i1, .row [D.str (x1_.var), D.str (x1_.value)], .b false, .cn [0, 1, 5] [0]] (.cont 0 ⟨[(0, D.acc 0), (1, D.str (a1_)), (5, D.int .i64 (IntKind.i64.wrap (((i1 : Int)) + (1))))], [Ob.row .uq 100 2 ((a0_).map Pair.c)]⟩) hΓ mix (by kernel_rfl) (ow ((ltm_true Pair.c (drop_cons hd1).2.1)) (ow (own_ixl Pair.c 2 (drop_cons hd1).1) (ow (show 2 = 2 ∧ RK.opn .uq = true ∧ ((a0_).map Pair.c)[i1]? = some [D.str (x1_.var), D.str (x1_.value)] ∧ 1 ≤ 2 from ⟨rfl, rfl, map_get Pair.c (drop_cons hd1).1, by omega⟩) (ow (h17) ow0)))) ?_
      refine (congrFun hS1 _).mpr ?_
      rw [i64_succ (drop_cons hd1).2.1 hm1]
      first | exact t | (simp only [List.map_append, List.map_cons, List.map_nil, List.map_set] at t ⊢; exact t)
theorem d_spec_l7Name_good {a0_ : List Pair} {a1_ : Bytes} {r : List Pair} (h : d_spec_l7Name a0_ a1_ = some r) : GoodO Tryd.prog 46 [D.acc 0, D.str (a1_)] 100 2 ((a0_).map Pair.c) ((r).map Pair.c) := by
  refine GoodO.of (c := bodyOf Tryd.f46) Tryd.func46 rfl (by decide) (by simp [Tryd.f46]) (flat_rows (c := Pair.c) (fun _ => rfl) r) ?_
  intro hmax Γ hΓ
  have hΓ : Γ.nt = 34 := hΓ
  rw [d_spec_l7Name] at h
  refine (show AW Tryd.prog Γ (bodyOf Tryd.f46) (KQ Tryd.prog Γ (fun _ _ => False) (RetQ Tryd.prog Tryd.f46 (D.fr 100 2 ((r).map Pair.c))) []) _ from ?_)
  obtain ⟨y1, h2, h⟩ := den_bind h
  rcases den_if h with ⟨h3, h⟩ | ⟨h3, h⟩
  · have h := den_some h
    subst h
    exact AW_go (n := 2000) [[some (100, 2)]] [.d (D.bool (y1)), .b true] (.ret (D.fr 100 2 ((a0_).map Pair.c))) hΓ mix (by kernel_rfl) (ow (d_spec_IsVar_good h2) (ow (h3) ow0)) rfl
  · refine AW_go (n := 2000) [[some (100, 2)]] [.d (D.bool (y1)), .b false, .cn [0, 1, 5] [0]] (.lp (dig (bodyOf Tryd.f46) [1, 1, 0, 1, 0, 0] []).1 (dig (bodyOf Tryd.f46) [1, 1, 0, 1, 0] []).2 ⟨[(0, D.acc 0), (1, D.str (a1_)), (5, D.int .i64 (0))], [Ob.row .uq 100 2 ((a0_).map Pair.c)]⟩) hΓ mix (by kernel_rfl) (ow (d_spec_IsVar_good h2) (ow (h3) ow0)) (AW_st (by first | rfl | (simp only [List.map_append, List.map_cons, List.map_nil, List.map_set, List.map_replicate] <;> rfl)) (AW_of_r (d_spec_l7Name_L1w hΓ (fun h => ?_) (by simpa using hmax) (a0_) 0  rfl h)))
    obtain ⟨y18, h19, h⟩ := den_bind h
    obtain ⟨h20, h⟩ := den_ok h
    obtain ⟨h21, h⟩ := den_ok h
    have h := den_some h
    subst h
    exact AW_go (n := 2000) [[some (100, 2)]] [.d (D.str (y18))] (.ret (D.fr 100 2 (((a0_).map Pair.c) ++ ([[D.str (a1_), D.str (([63]) ++ (y18))]])))) hΓ mix (by kernel_rfl) (ow (d_spec_FormatInt_good h19) (ow (of_decide_eq_true h20) (ow (room_ok h21) ow0))) (by first | rfl | (simp only [List.map_append, List.map_cons, List.map_nil, List.map_set] <;> rfl))
def d_spec_l4Renamed_L1 (a0_ : Bytes) (a1_ : List Pair) (k1 : Option Bytes) : List Pair → Nat → Option Bytes
  | [], i1 => (k1 )
  | x1_ :: xs1, i1 => (bif (x1_.var : Bytes) == (a0_) then (some (x1_.value)) else (d_spec_l4Renamed_L1 a0_ a1_ k1 xs1 (i1 + 1) ))
def d_spec_l4Renamed (a0_ : Bytes) (a1_ : List Pair) : Option Bytes := (d_spec_l4Renamed_L1 a0_ a1_ (some (a0_)) (a1_) 0 )
theorem d_spec_l4Renamed_L1w {Γ : Ctx} (hΓ : Γ.nt = 25) {N : Nat → St → Prop} {a0_ : Bytes} {a1_ : List Pair} {r : Bytes} {k1 : Option Bytes} (hE1 : k1 = some r → AW Tryd.prog Γ (dig (bodyOf Tryd.f94) [1, 1] []).1 (KQ Tryd.prog Γ N (RetQ Tryd.prog Tryd.f94 (D.str (r))) (dig (bodyOf Tryd.f94) [1, 1] []).2) ⟨[(0, D.str (a0_))], []⟩) (hm1 : (a1_).length ≤ maxLen) : ∀ (rest : List Pair) (i1 : Nat) , (a1_).drop i1 = rest → d_spec_l4Renamed_L1 a0_ a1_ k1 rest i1  = some r → AWr Tryd.prog Γ (dig (bodyOf Tryd.f94) [1, 0, 1, 0, 0] []).1 (KQ Tryd.prog Γ N (RetQ Tryd.prog Tryd.f94 (D.str (r))) (dig (bodyOf Tryd.f94) [1, 0, 1, 0] []).2) (rest.length + 1) ⟨[(0, D.str (a0_)), (1, D.sl ((a1_).map Pair.c)), (5, D.int .i64 ((i1 : Int)))], []⟩ := by
  intro rest
  induction rest with
  | nil =>
    intro i1  hd1 h
    rw [d_spec_l4Renamed_L1] at h
    refine AWr_succ fun N1 hN1 hS1 => ?_
    have t := AW_N (N := N) (N' := N1) (K0 := (dig (bodyOf Tryd.f94) [1, 0, 1, 0] []).2) (by kernel_rfl) hN1 (hE1  h)
    refine AW_go (n := 2000) [[none]] [.b false, .hl 0 [0] []] (.at_ (dig (bodyOf Tryd.f94) [1, 1] []).1 (dig (bodyOf Tryd.f94) [1, 1] []).2 ⟨[(0, D.str (a0_))], []⟩) hΓ mix (by kernel_rfl) (ow ((ltm_false Pair.c (drop_nil hd1))) ow0) ?_
    first | exact t | (simp only [List.map_append, List.map_cons, List.map_nil, List.map_set] at t ⊢; exact t)
  | cons x1_ xs1 ih1 =>
    intro i1  hd1 h
    rw [d_spec_l4Renamed_L1] at h
    refine AWr_succ fun N1 hN1 hS1 => ?_
    rcases den_if h with ⟨h13, h⟩ | ⟨h13, h⟩
    · have h := den_some h
      subst h
      exact AW_go (n := 2000) [[none]] [.b true, .row (Pair.c x1_), .b true, .row (Pair.c x1_)] (.ret (D.str (x1_.value))) hΓ mix (by kernel_rfl) (ow ((ltm_true Pair.c (drop_cons hd1).2.1)) (ow (map_row Pair.c 2 (drop_cons hd1).1 rfl) (ow (h13) (ow (map_row Pair.c 2 (drop_cons hd1).1 rfl) ow0)))) rfl
    · have t := ih1 (i1 + 1)  (drop_cons hd1).2.2 h
      refine AW_go (n := 2000) [[none]] [.b true, .row (Pair.c x1_), .b false, .cn [0, 1, 5] []] (.cont 0 ⟨[(0, D.str (a0_)), (1, D.sl ((a1_).map Pair.c)), (5, D.int .i64 (IntKind.i64.wrap (((i1 : Int)) + (1))))], []⟩) hΓ mix (by kernel_rfl) (ow ((ltm_true Pair.c (drop_cons hd1).2.1)) (ow (map_row Pair.c 2 (drop_cons hd1).1 rfl) (ow (h13) ow0))) ?_
      refine (congrFun hS1 _).mpr ?_
      rw [i64_succ (drop_cons hd1).2.1 hm1]
      first | exact t | (simp only [List.map_append, List.map_cons, List.map_nil, List.map_set] at t ⊢; exact t)
theorem d_spec_l4Renamed_good {a0_ : Bytes} {a1_ : List Pair} {r : Bytes} (h : d_spec_l4Renamed a0_ a1_ = some r) : Good Tryd.prog 94 [D.str (a0_), D.sl ((a1_).map Pair.c)] (D.str (r)) := by
  refine Good.of (c := bodyOf Tryd.f94) Tryd.func94 rfl (by decide) (by simp [Tryd.f94]) ?_
  intro hr Γ hΓ
  have hΓ : Γ.nt = 25 := hΓ
  rw [d_spec_l4Renamed] at h
  refine (show AW Tryd.prog Γ (bodyOf Tryd.f94) (KQ Tryd.prog Γ (fun _ _ => False) (RetQ Tryd.prog Tryd.f94 (D.str (r))) []) _ from ?_)
  refine AW_go (n := 2000) [[none]] [.cn [0, 1, 5] []] (.lp (dig (bodyOf Tryd.f94) [1, 0, 1, 0, 0] []).1 (dig (bodyOf Tryd.f94) [1, 0, 1, 0] []).2 ⟨[(0, D.str (a0_)), (1, D.sl ((a1_).map Pair.c)), (5, D.int .i64 (0))], []⟩) hΓ mix (by kernel_rfl) ow0 (AW_st (by first | rfl | (simp only [List.map_append, List.map_cons, List.map_nil, List.map_set, List.map_replicate] <;> rfl)) (AW_of_r (d_spec_l4Renamed_L1w hΓ (fun h => ?_) (by have := (Rdb.sl (hr _ (List.mem_of_getElem? (i := 1) rfl))).1; simpa using this) (a1_) 0  rfl h)))
  have h := den_some h
  subst h
  exact AW_go (n := 2000) [[none]] [] (.ret (D.str (a0_))) hΓ mix (by kernel_rfl) ow0 rfl
def d_spec_RenameCond_L1 (a0_ : Cond) (a1_ : List Pair) (y1 : Bytes) (y3 : Bytes) (k1 : List Bytes → Option Cond) : List Bytes → Nat → List Bytes → Option Cond
  | [], i1, w1_3 => (k1 (w1_3))
  | x1_ :: xs1, i1, w1_3 => ((d_spec_l4Renamed (x1_) (a1_)).bind fun y31 => (bif room (((w1_3).map tx).length + ([[D.str (y31)]]).length) 16 then (d_spec_RenameCond_L1 a0_ a1_ y1 y3 k1 xs1 (i1 + 1) ((w1_3) ++ ([y31]))) else none))
def d_spec_RenameCond (a0_ : Cond) (a1_ : List Pair) : Option Cond := ((d_spec_l4Renamed (a0_.left) (a1_)).bind fun y1 => ((d_spec_l4Renamed (a0_.right) (a1_)).bind fun y3 => (d_spec_RenameCond_L1 a0_ a1_ y1 y3 (fun (q1_2 : List Bytes) => (some ((⟨a0_.kind, (⟨a0_.pat.rel, q1_2⟩ : Fact), y1, y3⟩ : Cond)))) (a0_.pat.args) 0 (([] : List Bytes)))))
theorem d_spec_RenameCond_L1w {Γ : Ctx} (hΓ : Γ.nt = 46) {N : Nat → St → Prop} {a0_ : Cond} {a1_ : List Pair} {y1 : Bytes} {y3 : Bytes} {r : Cond} {k1 : List Bytes → Option Cond} (hE1 : ∀ (q1_2 : List Bytes), k1 q1_2 = some r → AW Tryd.prog Γ (dig (bodyOf Tryd.f47) [1, 1, 1] []).1 (KQ Tryd.prog Γ N (RetQ Tryd.prog Tryd.f47 (D.agg [D.int .i64 (r.kind), D.str (r.pat.rel), D.fr 9 1 ((r.pat.args).map tx), D.str (r.left), D.str (r.right)])) (dig (bodyOf Tryd.f47) [1, 1, 1] []).2) ⟨[(4, D.ptr 0 0), (5, D.ptr 1 0)], [Ob.box [D.int .i64 (0), D.str ([]), D.nil, D.str ([]), D.str ([])], Ob.box [D.int .i64 (a0_.kind), D.str (a0_.pat.rel), D.acc 2, D.str (y1), D.str (y3)], Ob.row .uq 9 1 ((q1_2).map tx)]⟩) (hm1 : (a0_.pat.args).length ≤ maxLen) : ∀ (rest : List Bytes) (i1 : Nat) (w1_3 : List Bytes), (a0_.pat.args).drop i1 = rest → d_spec_RenameCond_L1 a0_ a1_ y1 y3 k1 rest i1 w1_3 = some r → AWr Tryd.prog Γ (dig (bodyOf Tryd.f47) [1, 1, 0, 1, 0, 0] []).1 (KQ Tryd.prog Γ N (RetQ Tryd.prog Tryd.f47 (D.agg [D.int .i64 (r.kind), D.str (r.pat.rel), D.fr 9 1 ((r.pat.args).map tx), D.str (r.left), D.str (r.right)])) (dig (bodyOf Tryd.f47) [1, 1, 0, 1, 0] []).2) (rest.length + 1) ⟨[(1, D.sl ((a1_).map Pair.c)), (2, D.ptr 0 0), (4, D.ptr 1 0), (5, D.ptr 2 0), (6, D.int .i64 ((i1 : Int)))], [Ob.box (Cond.c a0_), Ob.box [D.int .i64 (0), D.str ([]), D.nil, D.str ([]), D.str ([])], Ob.box [D.int .i64 (a0_.kind), D.str (a0_.pat.rel), D.acc 3, D.str (y1), D.str (y3)], Ob.row .uq 9 1 ((w1_3).map tx)]⟩ := by
  intro rest
  induction rest with
  | nil =>
    intro i1 w1_3 hd1 h
    rw [d_spec_RenameCond_L1] at h
    refine AWr_succ fun N1 hN1 hS1 => ?_
    have t := AW_N (N := N) (N' := N1) (K0 := (dig (bodyOf Tryd.f47) [1, 1, 0, 1, 0] []).2) (by kernel_rfl) hN1 (hE1 (w1_3) h)
    refine AW_go (n := 2000) [[none, none, some (9, 1), none, none]] [.b false, .hl 0 [4, 5] [1, 2, 3]] (.at_ (dig (bodyOf Tryd.f47) [1, 1, 1] []).1 (dig (bodyOf Tryd.f47) [1, 1, 1] []).2 ⟨[(4, D.ptr 0 0), (5, D.ptr 1 0)], [Ob.box [D.int .i64 (0), D.str ([]), D.nil, D.str ([]), D.str ([])], Ob.box [D.int .i64 (a0_.kind), D.str (a0_.pat.rel), D.acc 2, D.str (y1), D.str (y3)], Ob.row .uq 9 1 ((w1_3).map tx)]⟩) hΓ mix (by kernel_rfl) (ow ((ltm_false tx (drop_nil hd1))) ow0) ?_
    first | exact t | (simp only [List.map_append, List.map_cons, List.map_nil, List.map_set] at t ⊢; exact t)
  | cons x1_ xs1 ih1 =>
    intro i1 w1_3 hd1 h
    rw [d_spec_RenameCond_L1] at h
    refine AWr_succ fun N1 hN1 hS1 => ?_
    obtain ⟨y31, h32, h⟩ := den_bind h
    obtain ⟨h33, h⟩ := den_ok h
    have t := ih1 (i1 + 1) ((w1_3) ++ ([y31])) (drop_cons hd1).2.2 h
    refine AW_go (n := 2000) [[none, none, some (9, 1), none, none]] [.b true, .n 12, .row (tx x1_), .d (D.str (y31)), .cn [1, 2, 4, 5, 6] [0, 1, 2, 5]] (.cont 0 ⟨[(1, D.sl ((a1_).map Pair.c)), (2, D.ptr 0 0), (4, D.ptr 1 0), (5, D.ptr 2 0), (6, D.int .i64 (IntKind.i64.wrap (((i1 : Int)) + (1))))], [Ob.box (Cond.c a0_), Ob.box [D.int .i64 (0), D.str ([]), D.nil, D.str ([]), D.str ([])], Ob.box [D.int .i64 (a0_.kind), D.str (a0_.pat.rel), D.acc 3, D.str (y1), D.str (y3)], Ob.row .uq 9 1 (((w1_3).map tx) ++ ([[D.str (y31)]]))]⟩) hΓ mix (by kernel_rfl) (ow ((ltm_true tx (drop_cons hd1).2.1)) (ow (map_row tx 1 (drop_cons hd1).1 rfl) (ow (d_spec_l4Renamed_good h32) (ow (room_ok h33) ow0)))) ?_
    refine (congrFun hS1 _).mpr ?_
    rw [i64_succ (drop_cons hd1).2.1 hm1]
    first | exact t | (simp only [List.map_append, List.map_cons, List.map_nil, List.map_set] at t ⊢; exact t)
theorem d_spec_RenameCond_good {a0_ : Cond} {a1_ : List Pair} {r : Cond} (h : d_spec_RenameCond a0_ a1_ = some r) : Good Tryd.prog 47 [D.agg (Cond.c a0_), D.sl ((a1_).map Pair.c)] (D.agg [D.int .i64 (r.kind), D.str (r.pat.rel), D.fr 9 1 ((r.pat.args).map tx), D.str (r.left), D.str (r.right)]) := by
  refine Good.of (c := bodyOf Tryd.f47) Tryd.func47 rfl (by decide) (by simp [Tryd.f47]) ?_
  intro hr Γ hΓ
  have hΓ : Γ.nt = 46 := hΓ
  rw [d_spec_RenameCond] at h
  refine (show AW Tryd.prog Γ (bodyOf Tryd.f47) (KQ Tryd.prog Γ (fun _ _ => False) (RetQ Tryd.prog Tryd.f47 (D.agg [D.int .i64 (r.kind), D.str (r.pat.rel), D.fr 9 1 ((r.pat.args).map tx), D.str (r.left), D.str (r.right)])) []) _ from ?_)
  obtain ⟨y1, h2, h⟩ := den_bind h
  obtain ⟨y3, h4, h⟩ := den_bind h
  refine AW_go (n := 2000) [[none, none, some (9, 1), none, none]] [.n 16, .d (D.str (y1)), .d (D.str (y3)), .pb 2 2 9 1, .cn [1, 2, 4, 5, 6] [0, 1, 2, 3]] (.lp (dig (bodyOf Tryd.f47) [1, 1, 0, 1, 0, 0] []).1 (dig (bodyOf Tryd.f47) [1, 1, 0, 1, 0] []).2 ⟨[(1, D.sl ((a1_).map Pair.c)), (2, D.ptr 0 0), (4, D.ptr 1 0), (5, D.ptr 2 0), (6, D.int .i64 (0))], [Ob.box (Cond.c a0_), Ob.box [D.int .i64 (0), D.str ([]), D.nil, D.str ([]), D.str ([])], Ob.box [D.int .i64 (a0_.kind), D.str (a0_.pat.rel), D.acc 3, D.str (y1), D.str (y3)], Ob.row .uq 9 1 (([] : List (List D)))]⟩) hΓ mix (by kernel_rfl) (ow (d_spec_l4Renamed_good h2) (ow (d_spec_l4Renamed_good h4) ow0)) (AW_st (by first | rfl | (simp only [List.map_append, List.map_cons, List.map_nil, List.map_set, List.map_replicate] <;> rfl)) (AW_of_r (d_spec_RenameCond_L1w hΓ (fun q1_2 h => ?_) (by have := (Rdb.sl (Rdb.agg (hr _ (List.mem_of_getElem? (i := 0) rfl)) (.sl ((a0_.pat.args).map tx)) (by simp))).1; simpa using this) (a0_.pat.args) 0 (([] : List Bytes)) rfl h)))
  have h := den_some h
  subst h
  exact AW_go (n := 2000) [[none, none, some (9, 1), none, none]] [] (.ret (D.agg [D.int .i64 (a0_.kind), D.str (a0_.pat.rel), D.fr 9 1 ((q1_2).map tx), D.str (y1), D.str (y3)])) hΓ mix (by kernel_rfl) ow0 rfl
def d_impl_IsAtom_L1 (a0_ : Bytes) (k1 : Option Bool) : Nat → Int → Option Bool
  | 0, _ => none
  | n1 + 1, v1_3 => (bif decide ((v1_3 : Int) < (((a0_).length : Int))) then ((atI (a0_) (v1_3)).bind fun b31 => (bif decide ((b31.toNat : Int) < (97)) then (bif decide ((b31.toNat : Int) < (48)) then (some (false)) else (bif decide ((b31.toNat : Int) > (57)) then (some (false)) else (d_impl_IsAtom_L1 a0_ k1 n1 (IntKind.i64.wrap ((v1_3) + (1)))))) else (bif decide ((b31.toNat : Int) > (122)) then (bif decide ((b31.toNat : Int) < (48)) then (some (false)) else (bif decide ((b31.toNat : Int) > (57)) then (some (false)) else (d_impl_IsAtom_L1 a0_ k1 n1 (IntKind.i64.wrap ((v1_3) + (1)))))) else (d_impl_IsAtom_L1 a0_ k1 n1 (IntKind.i64.wrap ((v1_3) + (1))))))) else (k1 ))
def d_impl_IsAtom (a0_ : Bytes) : Option Bool := (bif decide ((((a0_).length : Int) : Int) < (1)) then (some (false)) else (bif decide ((((a0_).length : Int) : Int) > (8)) then (some (false)) else (d_impl_IsAtom_L1 a0_ (some (true)) fuel (0))))
theorem d_impl_IsAtom_L1w {Γ : Ctx} (hΓ : Γ.nt = 40) {N : Nat → St → Prop} {a0_ : Bytes} {r : Bool} {k1 : Option Bool} (hE1 : k1 = some r → AW Tryd.prog Γ (dig (bodyOf Tryd.f126) [1, 1, 1] []).1 (KQ Tryd.prog Γ N (RetQ Tryd.prog Tryd.f126 (D.bool (r))) (dig (bodyOf Tryd.f126) [1, 1, 1] []).2) ⟨[], []⟩) : ∀ (n1 : Nat) (v1_3 : Int), d_impl_IsAtom_L1 a0_ k1 n1 v1_3 = some r → AWr Tryd.prog Γ (dig (bodyOf Tryd.f126) [1, 1, 0, 1, 0, 0] []).1 (KQ Tryd.prog Γ N (RetQ Tryd.prog Tryd.f126 (D.bool (r))) (dig (bodyOf Tryd.f126) [1, 1, 0, 1, 0] []).2) n1 ⟨[(0, D.str (a0_)), (3, D.int .i64 (v1_3))], []⟩ := by
  intro n
  induction n with
  | zero => intro v1_3 h; simp [d_impl_IsAtom_L1] at h
  | succ n1 ih1 =>
    intro v1_3 h
    rw [d_impl_IsAtom_L1] at h
    refine AWr_succ fun N1 hN1 hS1 => ?_
    rcases den_if h with ⟨h30, h⟩ | ⟨h30, h⟩
    · obtain ⟨b31, h32, h⟩ := den_bind h
      rcases den_if h with ⟨h33, h⟩ | ⟨h33, h⟩
      · rcases den_if h with ⟨h34, h⟩ | ⟨h34, h⟩
        · have h := den_some h
          subst h
          exact AW_go (n := 2000) [[none]] [.b true, .ch b31, .b true, .b true, .b true, .b true, .b true, .b true, .b true, .b true, .ch b31, .b true, .b true, .b true, .b true, .b true, .b true, .b true, .b true, .b true, .b true] (.ret (D.bool (false))) hΓ mix (by kernel_rfl) (ow (h30) (ow (at_str h32) (ow (h33) (ow (h33) (ow (h33) (ow (h33) (ow (h33) (ow (show (true) = true from rfl) (ow (show (true) = true from rfl) (ow (show (true) = true from rfl) (ow (at_str h32) (ow (show (true) = true from rfl) (ow (show (true) = true from rfl) (ow (h34) (ow (h34) (ow (h34) (ow (h34) (ow (show (true) = true from rfl) (ow (h34) (ow (show (true) = true from rfl) (ow (show (true) = true from rfl) ow0))))))))))))))))))))) rfl
        · rcases den_if h with ⟨h35, h⟩ | ⟨h35, h⟩
          · have h := den_some h
            subst h
            exact AW_go (n := 2000) [[none]] [.b true, .ch b31, .b true, .b true, .b true, .b true, .b true, .b true, .b true, .b true, .ch b31, .b true, .b true, .b false, .b false, .b false, .ch b31, .b false, .b true, .b false, .b true, .b true] (.ret (D.bool (false))) hΓ mix (by kernel_rfl) (ow (h30) (ow (at_str h32) (ow (h33) (ow (h33) (ow (h33) (ow (h33) (ow (h33) (ow (show (true) = true from rfl) (ow (show (true) = true from rfl) (ow (show (true) = true from rfl) (ow (at_str h32) (ow (show (true) = true from rfl) (ow (show (true) = true from rfl) (ow (h34) (ow (h34) (ow (h34) (ow (at_str h32) (ow (h34) (ow (show (true) = true from rfl) (ow (h34) (ow (show (true) = true from rfl) (ow (h35) ow0)))))))))))))))))))))) rfl
          · have t := ih1 (IntKind.i64.wrap ((v1_3) + (1))) h
            refine AW_go (n := 2000) [[none]] [.b true, .ch b31, .b true, .b true, .b true, .b true, .b true, .b true, .b true, .b true, .ch b31, .b true, .b true, .b false, .b false, .b false, .ch b31, .b false, .b true, .b false, .b true, .b false, .cn [0, 3] []] (.cont 0 ⟨[(0, D.str (a0_)), (3, D.int .i64 (IntKind.i64.wrap ((v1_3) + (1))))], []⟩) hΓ mix (by kernel_rfl) (ow (h30) (ow (at_str h32) (ow (h33) (ow (h33) (ow (h33) (ow (h33) (ow (h33) (ow (show (true) = true from rfl) (ow (show (true) = true from rfl) (ow (show (true) = true from rfl) (ow (at_str h32) (ow (show (true) = true from rfl) (ow (show (true) = true from rfl) (ow (h34) (ow (h34) (ow (h34) (ow (at_str h32) (ow (h34) (ow (show (true) = true from rfl) (ow (h34) (ow (show (true) = true from rfl) (ow (h35) ow0)))))))))))))))))))))) ?_
            refine (congrFun hS1 _).mpr ?_
            first | exact t | (simp only [List.map_append, List.map_cons, List.map_nil, List.map_set] at t ⊢; exact t)
      · rcases den_if h with ⟨h36, h⟩ | ⟨h36, h⟩
        · rcases den_if h with ⟨h37, h⟩ | ⟨h37, h⟩
          · have h := den_some h
            subst h
            exact AW_go (n := 2000) [[none]] [.b true, .ch b31, .b false, .b false, .b false, .ch b31, .b false, .b false, .b true, .b true, .b true, .ch b31, .b true, .b true, .b true, .b true, .b true, .b true, .b true, .b true, .b true, .b true] (.ret (D.bool (false))) hΓ mix (by kernel_rfl) (ow (h30) (ow (at_str h32) (ow (h33) (ow (h33) (ow (h33) (ow (at_str h32) (ow (h33) (ow (h33) (ow (h36) (ow (h36) (ow (h36) (ow (at_str h32) (ow (h36) (ow (h36) (ow (h37) (ow (h37) (ow (h37) (ow (h37) (ow (h36) (ow (h37) (ow (h36) (ow (show (true) = true from rfl) ow0)))))))))))))))))))))) rfl
          · rcases den_if h with ⟨h38, h⟩ | ⟨h38, h⟩
            · have h := den_some h
              subst h
              exact AW_go (n := 2000) [[none]] [.b true, .ch b31, .b false, .b false, .b false, .ch b31, .b false, .b false, .b true, .b true, .b true, .ch b31, .b true, .b true, .b false, .b false, .b false, .ch b31, .b false, .b true, .b false, .b true, .b true] (.ret (D.bool (false))) hΓ mix (by kernel_rfl) (ow (h30) (ow (at_str h32) (ow (h33) (ow (h33) (ow (h33) (ow (at_str h32) (ow (h33) (ow (h33) (ow (h36) (ow (h36) (ow (h36) (ow (at_str h32) (ow (h36) (ow (h36) (ow (h37) (ow (h37) (ow (h37) (ow (at_str h32) (ow (h37) (ow (h36) (ow (h37) (ow (h36) (ow (h38) ow0))))))))))))))))))))))) rfl
            · have t := ih1 (IntKind.i64.wrap ((v1_3) + (1))) h
              refine AW_go (n := 2000) [[none]] [.b true, .ch b31, .b false, .b false, .b false, .ch b31, .b false, .b false, .b true, .b true, .b true, .ch b31, .b true, .b true, .b false, .b false, .b false, .ch b31, .b false, .b true, .b false, .b true, .b false, .cn [0, 3] []] (.cont 0 ⟨[(0, D.str (a0_)), (3, D.int .i64 (IntKind.i64.wrap ((v1_3) + (1))))], []⟩) hΓ mix (by kernel_rfl) (ow (h30) (ow (at_str h32) (ow (h33) (ow (h33) (ow (h33) (ow (at_str h32) (ow (h33) (ow (h33) (ow (h36) (ow (h36) (ow (h36) (ow (at_str h32) (ow (h36) (ow (h36) (ow (h37) (ow (h37) (ow (h37) (ow (at_str h32) (ow (h37) (ow (h36) (ow (h37) (ow (h36) (ow (h38) ow0))))))))))))))))))))))) ?_
              refine (congrFun hS1 _).mpr ?_
              first | exact t | (simp only [List.map_append, List.map_cons, List.map_nil, List.map_set] at t ⊢; exact t)
        · have t := ih1 (IntKind.i64.wrap ((v1_3) + (1))) h
          refine AW_go (n := 2000) [[none]] [.b true, .ch b31, .b false, .b false, .b false, .ch b31, .b false, .b false, .b false, .b false, .b false, .b false, .b false, .b false, .b false, .b false, .b false, .b false, .b false, .b false, .cn [0, 3] []] (.cont 0 ⟨[(0, D.str (a0_)), (3, D.int .i64 (IntKind.i64.wrap ((v1_3) + (1))))], []⟩) hΓ mix (by kernel_rfl) (ow (h30) (ow (at_str h32) (ow (h33) (ow (h33) (ow (h33) (ow (at_str h32) (ow (h33) (ow (h33) (ow (h36) (ow (h36) (ow (h36) (ow (h36) (ow (h36) (ow (h36) (ow (h36) (ow (show (false) = false from rfl) ow0)))))))))))))))) ?_
          refine (congrFun hS1 _).mpr ?_
          first | exact t | (simp only [List.map_append, List.map_cons, List.map_nil, List.map_set] at t ⊢; exact t)
    · have t := AW_N (N := N) (N' := N1) (K0 := (dig (bodyOf Tryd.f126) [1, 1, 0, 1, 0] []).2) (by kernel_rfl) hN1 (hE1  h)
      refine AW_go (n := 2000) [[none]] [.b false, .hl 0 [] []] (.at_ (dig (bodyOf Tryd.f126) [1, 1, 1] []).1 (dig (bodyOf Tryd.f126) [1, 1, 1] []).2 ⟨[], []⟩) hΓ mix (by kernel_rfl) (ow (h30) ow0) ?_
      first | exact t | (simp only [List.map_append, List.map_cons, List.map_nil, List.map_set] at t ⊢; exact t)
theorem d_impl_IsAtom_good {a0_ : Bytes} {r : Bool} (h : d_impl_IsAtom a0_ = some r) : Good Tryd.prog 126 [D.str (a0_)] (D.bool (r)) := by
  refine Good.of (c := bodyOf Tryd.f126) Tryd.func126 rfl (by decide) (by simp [Tryd.f126]) ?_
  intro hr Γ hΓ
  have hΓ : Γ.nt = 40 := hΓ
  rw [d_impl_IsAtom] at h
  refine (show AW Tryd.prog Γ (bodyOf Tryd.f126) (KQ Tryd.prog Γ (fun _ _ => False) (RetQ Tryd.prog Tryd.f126 (D.bool (r))) []) _ from ?_)
  rcases den_if h with ⟨h1, h⟩ | ⟨h1, h⟩
  · have h := den_some h
    subst h
    exact AW_go (n := 2000) [[none]] [.b true, .b true, .b true, .b true, .b true] (.ret (D.bool (false))) hΓ mix (by kernel_rfl) (ow (h1) (ow (h1) (ow (h1) (ow (h1) (ow (show (true) = true from rfl) ow0))))) rfl
  · rcases den_if h with ⟨h2, h⟩ | ⟨h2, h⟩
    · have h := den_some h
      subst h
      exact AW_go (n := 2000) [[none]] [.b false, .b false, .b false, .b false, .b true] (.ret (D.bool (false))) hΓ mix (by kernel_rfl) (ow (h1) (ow (h1) (ow (h1) (ow (h1) (ow (h2) ow0))))) rfl
    · refine AW_go (n := 2000) [[none]] [.b false, .b false, .b false, .b false, .b false, .cn [0, 3] []] (.lp (dig (bodyOf Tryd.f126) [1, 1, 0, 1, 0, 0] []).1 (dig (bodyOf Tryd.f126) [1, 1, 0, 1, 0] []).2 ⟨[(0, D.str (a0_)), (3, D.int .i64 (0))], []⟩) hΓ mix (by kernel_rfl) (ow (h1) (ow (h1) (ow (h1) (ow (h1) (ow (h2) ow0))))) (AW_st (by first | rfl | (simp only [List.map_append, List.map_cons, List.map_nil, List.map_set, List.map_replicate] <;> rfl)) (AW_of_r (d_impl_IsAtom_L1w hΓ (fun h => ?_) fuel (0) h)))
      have h := den_some h
      subst h
      exact AW_go (n := 2000) [[none]] [] (.ret (D.bool (true))) hΓ mix (by kernel_rfl) ow0 rfl
def d_impl_IsVar (a0_ : Bytes) : Option Bool := (bif decide ((((a0_).length : Int) : Int) > (1)) then ((atI (a0_) (0)).bind fun b2 => (bif (b2.toNat : Int) == (63) then ((pcut (a0_).length (some (D.int .i64 (1))) (none)).bind fun p => (fun l5 u6 => ((d_impl_IsAtom (((a0_).take u6).drop l5)).bind fun y8 => (some (y8)))) p.1 p.2) else (some (false)))) else (some (false)))
theorem d_impl_IsVar_good {a0_ : Bytes} {r : Bool} (h : d_impl_IsVar a0_ = some r) : Good Tryd.prog 96 [D.str (a0_)] (D.bool (r)) := by
  refine Good.of (c := bodyOf Tryd.f96) Tryd.func96 rfl (by decide) (by simp [Tryd.f96]) ?_
  intro hr Γ hΓ
  have hΓ : Γ.nt = 16 := hΓ
  rw [d_impl_IsVar] at h
  refine (show AW Tryd.prog Γ (bodyOf Tryd.f96) (KQ Tryd.prog Γ (fun _ _ => False) (RetQ Tryd.prog Tryd.f96 (D.bool (r))) []) _ from ?_)
  rcases den_if h with ⟨h1, h⟩ | ⟨h1, h⟩
  · obtain ⟨b2, h3, h⟩ := den_bind h
    rcases den_if h with ⟨h4, h⟩ | ⟨h4, h⟩
    · obtain ⟨⟨l5, u6⟩, h7, h⟩ := den_bind h
      obtain ⟨y8, h9, h⟩ := den_bind h
      have h := den_some h
      subst h
      exact AW_go (n := 2000) [[none]] [.b true, .b true, .ch b2, .b true, .b true, .b true, .b true, .cut l5 u6, .b true, .d (D.bool (y8)), .b true] (.ret (D.bool (y8))) hΓ mix (by kernel_rfl) (ow (h1) (ow (h1) (ow (at_str h3) (ow (h1) (ow (h1) (ow (h4) (ow (h4) (ow (h7) (ow (h4) (ow (d_impl_IsAtom_good h9) (ow (h4) ow0))))))))))) rfl
    · have h := den_some h
      subst h
      exact AW_go (n := 2000) [[none]] [.b true, .b true, .ch b2, .b true, .b true, .b false, .b false, .b false, .b false] (.ret (D.bool (false))) hΓ mix (by kernel_rfl) (ow (h1) (ow (h1) (ow (at_str h3) (ow (h1) (ow (h1) (ow (h4) (ow (h4) (ow (h4) (ow (h4) ow0))))))))) rfl
  · have h := den_some h
    subst h
    exact AW_go (n := 2000) [[none]] [.b false, .b false, .b false, .b false, .b false, .b false, .b false, .b false] (.ret (D.bool (false))) hΓ mix (by kernel_rfl) (ow (h1) (ow (h1) (ow (h1) (ow (h1) (ow (show (false) = false from rfl) (ow (show (false) = false from rfl) (ow (show (false) = false from rfl) (ow (show (false) = false from rfl) ow0)))))))) rfl
def d_impl_FormatInt (a0_ : Int) : Option Bytes := ((d_strconv_Itoa (a0_)).bind fun y1 => (some (y1)))
theorem d_impl_FormatInt_good {a0_ : Int} {r : Bytes} (h : d_impl_FormatInt a0_ = some r) : Good Tryd.prog 89 [D.int .i64 (a0_)] (D.str (r)) := by
  refine Good.of (c := bodyOf Tryd.f89) Tryd.func89 rfl (by decide) (by simp [Tryd.f89]) ?_
  intro hr Γ hΓ
  have hΓ : Γ.nt = 5 := hΓ
  rw [d_impl_FormatInt] at h
  refine (show AW Tryd.prog Γ (bodyOf Tryd.f89) (KQ Tryd.prog Γ (fun _ _ => False) (RetQ Tryd.prog Tryd.f89 (D.str (r))) []) _ from ?_)
  obtain ⟨y1, h2, h⟩ := den_bind h
  have h := den_some h
  subst h
  exact AW_go (n := 2000) [[none]] [.d (D.str (y1))] (.ret (D.str (y1))) hΓ mix (by kernel_rfl) (ow (d_strconv_Itoa_good h2) ow0) rfl
def d_impl_plainPairs_L1 (a0_ : List Bytes) (k1 : List Pair → Option (List Pair)) : List Bytes → Nat → List Pair → List (Bytes × Bool) → Option (List Pair)
  | [], i1, w1_0, m1_1 => (k1 (w1_0))
  | x1_ :: xs1, i1, w1_0, m1_1 => ((d_impl_IsVar (x1_)).bind fun y52 => (bif y52 then (bif !(mGet false (x1_) (m1_1)) then ((d_impl_FormatInt (IntKind.i64.wrap (((((w1_0).map Pair.c).length : Int)) + (1)))).bind fun y56 => (bif decide (([63] : Bytes).length + (y56 : Bytes).length ≤ maxLen) then (bif room (((w1_0).map Pair.c).length + ([[D.str (x1_), D.str (([63]) ++ (y56))]]).length) 32 then (d_impl_plainPairs_L1 a0_ k1 xs1 (i1 + 1) ((w1_0) ++ ([(⟨x1_, ([63]) ++ (y56)⟩ : Pair)])) (mPut (x1_) (true) (m1_1))) else none) else none)) else (d_impl_plainPairs_L1 a0_ k1 xs1 (i1 + 1) (w1_0) (m1_1))) else (d_impl_plainPairs_L1 a0_ k1 xs1 (i1 + 1) (w1_0) (m1_1))))
def d_impl_plainPairs (a0_ : List Bytes) : Option (List Pair) := (d_impl_plainPairs_L1 a0_ (fun (q1_0 : List Pair) => (some (q1_0))) (a0_) 0 (([] : List Pair)) (([] : List (Bytes × Bool))))
theorem d_impl_plainPairs_L1w {Γ : Ctx} (hΓ : Γ.nt = 36) {N : Nat → St → Prop} {a0_ : List Bytes} {r : List Pair} {k1 : List Pair → Option (List Pair)} (hE1 : ∀ (q1_0 : List Pair), k1 q1_0 = some r → AW Tryd.prog Γ (dig (bodyOf Tryd.f50) [1, 1, 1, 1] []).1 (KQ Tryd.prog Γ N (RetQ Tryd.prog Tryd.f50 (D.fr 100 2 ((r).map Pair.c))) (dig (bodyOf Tryd.f50) [1, 1, 1, 1] []).2) ⟨[(3, D.acc 0)], [Ob.row .uq 100 2 ((q1_0).map Pair.c)]⟩) (hm1 : (a0_).length ≤ maxLen) : ∀ (rest : List Bytes) (i1 : Nat) (w1_0 : List Pair) (m1_1 : List (Bytes × Bool)), (a0_).drop i1 = rest → d_impl_plainPairs_L1 a0_ k1 rest i1 w1_0 m1_1 = some r → AWr Tryd.prog Γ (dig (bodyOf Tryd.f50) [1, 1, 1, 0, 1, 0, 0] []).1 (KQ Tryd.prog Γ N (RetQ Tryd.prog Tryd.f50 (D.fr 100 2 ((r).map Pair.c))) (dig (bodyOf Tryd.f50) [1, 1, 1, 0, 1, 0] []).2) (rest.length + 1) ⟨[(3, D.acc 0), (4, D.acc 1), (8, D.sl ((a0_).map tx)), (9, D.int .i64 ((((a0_).map tx).length : Int))), (10, D.int .i64 ((i1 : Int)))], [Ob.row .uq 100 2 ((w1_0).map Pair.c), Ob.mp ((m1_1).map (kS eB))]⟩ := by
  intro rest
  induction rest with
  | nil =>
    intro i1 w1_0 m1_1 hd1 h
    rw [d_impl_plainPairs_L1] at h
    refine AWr_succ fun N1 hN1 hS1 => ?_
    have t := AW_N (N := N) (N' := N1) (K0 := (dig (bodyOf Tryd.f50) [1, 1, 1, 0, 1, 0] []).2) (by kernel_rfl) hN1 (hE1 (w1_0) h)
    refine AW_go (n := 2000) [[some (100, 2)]] [.b false, .hl 0 [3] [0]] (.at_ (dig (bodyOf Tryd.f50) [1, 1, 1, 1] []).1 (dig (bodyOf Tryd.f50) [1, 1, 1, 1] []).2 ⟨[(3, D.acc 0)], [Ob.row .uq 100 2 ((w1_0).map Pair.c)]⟩) hΓ mix (by kernel_rfl) (ow ((ltm_false tx (drop_nil hd1))) ow0) ?_
    first | exact t | (simp only [List.map_append, List.map_cons, List.map_nil, List.map_set] at t ⊢; exact t)
  | cons x1_ xs1 ih1 =>
    intro i1 w1_0 m1_1 hd1 h
    rw [d_impl_plainPairs_L1] at h
    refine AWr_succ fun N1 hN1 hS1 => ?_
    obtain ⟨y52, h53, h⟩ := den_bind h
    rcases den_if h with ⟨h54, h⟩ | ⟨h54, h⟩
    · rcases den_if h with ⟨h55, h⟩ | ⟨h55, h⟩
      · obtain ⟨y56, h57, h⟩ := den_bind h
        obtain ⟨h58, h⟩ := den_ok h
        obtain ⟨h59, h⟩ := den_ok h
        have t := ih1 (i1 + 1) ((w1_0) ++ ([(⟨x1_, ([63]) ++ (y56)⟩ : Pair)])) (mPut (x1_) (true) (m1_1)) (drop_cons hd1).2.2 h
        refine AW_go (n := 2000) [[some (100, 2)]] [.b true, .row (tx x1_), .d (D.bool (y52)), .b true, .b true, .b true, .d (D.bool (mGet false (x1_) (m1_1))), .b true, .b true, .b true, .kv ((mPut (x1_) (true) (m1_1)).map (kS eB)), .d (D.str (y56)), .cn [3, 4, 8, 9, 10] [3, 1]] (.cont 0 ⟨[(3, D.acc 0), (4, D.acc 1), (8, D.sl ((a0_).map tx)), (9, D.int .i64 ((((a0_).map tx).length : Int))), (10, D.int .i64 (IntKind.i64.wrap (((i1 : Int)) + (1))))], [Ob.row .uq 100 2 (((w1_0).map Pair.c) ++ ([[D.str (x1_), D.str (([63]) ++ (y56))]])), Ob.mp ((mPut (x1_) (true) (m1_1)).map (kS eB))]⟩) hΓ mix (by kernel_rfl) (ow ((ltm_true tx (drop_cons hd1).2.1)) (ow (map_row tx 1 (drop_cons hd1).1 rfl) (ow (d_impl_IsVar_good h53) (ow (h54) (ow (h54) (ow (h54) (ow (show plk Tryd.prog 135 ((m1_1).map (kS eB)) (D.str (x1_)) false = some (D.bool (mGet false (x1_) (m1_1))) from lk_kS (e := eB) (z := false) (by kernel_rfl)) (ow (h54) (ow (h54) (ow (h55) (ow (show kvPut (D.str (x1_)) (D.bool (true)) ((m1_1).map (kS eB)) = some ((mPut (x1_) (true) (m1_1)).map (kS eB)) from put_kS (e := eB) (m := m1_1)) (ow (d_impl_FormatInt_good h57) (ow (of_decide_eq_true h58) (ow (room_ok h59) ow0)))))))))))))) ?_
        refine (congrFun hS1 _).mpr ?_
        rw [i64_succ (drop_cons hd1).2.1 hm1]
        first | exact t | (simp only [List.map_append, List.map_cons, List.map_nil, List.map_set] at t ⊢; exact t)
      · have t := ih1 (i1 + 1) (w1_0) (m1_1) (drop_cons hd1).2.2 h
        refine AW_go (n := 2000) [[some (100, 2)]] [.b true, .row (tx x1_), .d (D.bool (y52)), .b true, .b true, .b true, .d (D.bool (mGet false (x1_) (m1_1))), .b true, .b true, .b false, .cn [3, 4, 8, 9, 10] [0, 1]] (.cont 0 ⟨[(3, D.acc 0), (4, D.acc 1), (8, D.sl ((a0_).map tx)), (9, D.int .i64 ((((a0_).map tx).length : Int))), (10, D.int .i64 (IntKind.i64.wrap (((i1 : Int)) + (1))))], [Ob.row .uq 100 2 ((w1_0).map Pair.c), Ob.mp ((m1_1).map (kS eB))]⟩) hΓ mix (by kernel_rfl) (ow ((ltm_true tx (drop_cons hd1).2.1)) (ow (map_row tx 1 (drop_cons hd1).1 rfl) (ow (d_impl_IsVar_good h53) (ow (h54) (ow (h54) (ow (h54) (ow (show plk Tryd.prog 135 ((m1_1).map (kS eB)) (D.str (x1_)) false = some (D.bool (mGet false (x1_) (m1_1))) from lk_kS (e := eB) (z := false) (by kernel_rfl)) (ow (h54) (ow (h54) (ow (h55) ow0)))))))))) ?_
        refine (congrFun hS1 _).mpr ?_
        rw [i64_succ (drop_cons hd1).2.1 hm1]
        first | exact t | (simp only [List.map_append, List.map_cons, List.map_nil, List.map_set] at t ⊢; exact t)
    · have t := ih1 (i1 + 1) (w1_0) (m1_1) (drop_cons hd1).2.2 h
      refine AW_go (n := 2000) [[some (100, 2)]] [.b true, .row (tx x1_), .d (D.bool (y52)), .b false, .b false, .b false, .b false, .b false, .b false, .cn [3, 4, 8, 9, 10] [0, 1]] (.cont 0 ⟨[(3, D.acc 0), (4, D.acc 1), (8, D.sl ((a0_).map tx)), (9, D.int .i64 ((((a0_).map tx).length : Int))), (10, D.int .i64 (IntKind.i64.wrap (((i1 : Int)) + (1))))], [Ob.row .uq 100 2 ((w1_0).map Pair.c), Ob.mp ((m1_1).map (kS eB))]⟩) hΓ mix (by kernel_rfl) (ow ((ltm_true tx (drop_cons hd1).2.1)) (ow (map_row tx 1 (drop_cons hd1).1 rfl) (ow (d_impl_IsVar_good h53) (ow (h54) (ow (h54) (ow (h54) (ow (h54) (ow (h54) (ow (show (false) = false from rfl) ow0))))))))) ?_
      refine (congrFun hS1 _).mpr ?_
      rw [i64_succ (drop_cons hd1).2.1 hm1]
      first | exact t | (simp only [List.map_append, List.map_cons, List.map_nil, List.map_set] at t ⊢; exact t)
theorem d_impl_plainPairs_good {a0_ : List Bytes} {r : List Pair} (h : d_impl_plainPairs a0_ = some r) : Good Tryd.prog 50 [D.sl ((a0_).map tx)] (D.fr 100 2 ((r).map Pair.c)) := by
  refine Good.of (c := bodyOf Tryd.f50) Tryd.func50 rfl (by decide) (by simp [Tryd.f50]) ?_
  intro hr Γ hΓ
  have hΓ : Γ.nt = 36 := hΓ
  rw [d_impl_plainPairs] at h
  refine (show AW Tryd.prog Γ (bodyOf Tryd.f50) (KQ Tryd.prog Γ (fun _ _ => False) (RetQ Tryd.prog Tryd.f50 (D.fr 100 2 ((r).map Pair.c))) []) _ from ?_)
  refine AW_go (n := 2000) [[some (100, 2)]] [.pro 3, .cn [3, 4, 8, 9, 10] [0, 1]] (.lp (dig (bodyOf Tryd.f50) [1, 1, 1, 0, 1, 0, 0] []).1 (dig (bodyOf Tryd.f50) [1, 1, 1, 0, 1, 0] []).2 ⟨[(3, D.acc 0), (4, D.acc 1), (8, D.sl ((a0_).map tx)), (9, D.int .i64 ((((a0_).map tx).length : Int))), (10, D.int .i64 (0))], [Ob.row .uq 100 2 (([] : List (List D))), Ob.mp ([])]⟩) hΓ mix (by kernel_rfl) ow0 (AW_st (by first | rfl | (simp only [List.map_append, List.map_cons, List.map_nil, List.map_set, List.map_replicate] <;> rfl)) (AW_of_r (d_impl_plainPairs_L1w hΓ (fun q1_0 h => ?_) (by have := (Rdb.sl (hr _ (List.mem_of_getElem? (i := 0) rfl))).1; simpa using this) (a0_) 0 (([] : List Pair)) (([] : List (Bytes × Bool))) rfl h)))
  have h := den_some h
  subst h
  exact AW_go (n := 2000) [[some (100, 2)]] [] (.ret (D.fr 100 2 ((q1_0).map Pair.c))) hΓ mix (by kernel_rfl) ow0 rfl
def d_impl_renamedText_L1 (a0_ : Bytes) (a1_ : List Pair) (k1 : Option Bytes) : List Pair → Nat → Option Bytes
  | [], i1 => (k1 )
  | x1_ :: xs1, i1 => (bif (x1_.var : Bytes) == (a0_) then (some (x1_.value)) else (d_impl_renamedText_L1 a0_ a1_ k1 xs1 (i1 + 1) ))
def d_impl_renamedText (a0_ : Bytes) (a1_ : List Pair) : Option Bytes := (d_impl_renamedText_L1 a0_ a1_ (some (a0_)) (a1_) 0 )
theorem d_impl_renamedText_L1w {Γ : Ctx} (hΓ : Γ.nt = 21) {N : Nat → St → Prop} {a0_ : Bytes} {a1_ : List Pair} {r : Bytes} {k1 : Option Bytes} (hE1 : k1 = some r → AW Tryd.prog Γ (dig (bodyOf Tryd.f95) [1, 1] []).1 (KQ Tryd.prog Γ N (RetQ Tryd.prog Tryd.f95 (D.str (r))) (dig (bodyOf Tryd.f95) [1, 1] []).2) ⟨[(0, D.str (a0_))], []⟩) (hm1 : (a1_).length ≤ maxLen) : ∀ (rest : List Pair) (i1 : Nat) , (a1_).drop i1 = rest → d_impl_renamedText_L1 a0_ a1_ k1 rest i1  = some r → AWr Tryd.prog Γ (dig (bodyOf Tryd.f95) [1, 0, 1, 0, 0] []).1 (KQ Tryd.prog Γ N (RetQ Tryd.prog Tryd.f95 (D.str (r))) (dig (bodyOf Tryd.f95) [1, 0, 1, 0] []).2) (rest.length + 1) ⟨[(0, D.str (a0_)), (7, D.sl ((a1_).map Pair.c)), (8, D.int .i64 ((((a1_).map Pair.c).length : Int))), (9, D.int .i64 ((i1 : Int)))], []⟩ := by
  intro rest
  induction rest with
  | nil =>
    intro i1  hd1 h
    rw [d_impl_renamedText_L1] at h
    refine AWr_succ fun N1 hN1 hS1 => ?_
    have t := AW_N (N := N) (N' := N1) (K0 := (dig (bodyOf Tryd.f95) [1, 0, 1, 0] []).2) (by kernel_rfl) hN1 (hE1  h)
    refine AW_go (n := 2000) [[none]] [.b false, .hl 0 [0] []] (.at_ (dig (bodyOf Tryd.f95) [1, 1] []).1 (dig (bodyOf Tryd.f95) [1, 1] []).2 ⟨[(0, D.str (a0_))], []⟩) hΓ mix (by kernel_rfl) (ow ((ltm_false Pair.c (drop_nil hd1))) ow0) ?_
    first | exact t | (simp only [List.map_append, List.map_cons, List.map_nil, List.map_set] at t ⊢; exact t)
  | cons x1_ xs1 ih1 =>
    intro i1  hd1 h
    rw [d_impl_renamedText_L1] at h
    refine AWr_succ fun N1 hN1 hS1 => ?_
    rcases den_if h with ⟨h13, h⟩ | ⟨h13, h⟩
    · have h := den_some h
      subst h
      exact AW_go (n := 2000) [[none]] [.b true, .row (Pair.c x1_), .b true] (.ret (D.str (x1_.value))) hΓ mix (by kernel_rfl) (ow ((ltm_true Pair.c (drop_cons hd1).2.1)) (ow (map_row Pair.c 2 (drop_cons hd1).1 rfl) (ow (h13) ow0))) rfl
    · have t := ih1 (i1 + 1)  (drop_cons hd1).2.2 h
      refine AW_go (n := 2000) [[none]] [.b true, .row (Pair.c x1_), .b false, .cn [0, 7, 8, 9] []] (.cont 0 ⟨[(0, D.str (a0_)), (7, D.sl ((a1_).map Pair.c)), (8, D.int .i64 ((((a1_).map Pair.c).length : Int))), (9, D.int .i64 (IntKind.i64.wrap (((i1 : Int)) + (1))))], []⟩) hΓ mix (by kernel_rfl) (ow ((ltm_true Pair.c (drop_cons hd1).2.1)) (ow (map_row Pair.c 2 (drop_cons hd1).1 rfl) (ow (h13) ow0))) ?_
      refine (congrFun hS1 _).mpr ?_
      rw [i64_succ (drop_cons hd1).2.1 hm1]
      first | exact t | (simp only [List.map_append, List.map_cons, List.map_nil, List.map_set] at t ⊢; exact t)
theorem d_impl_renamedText_good {a0_ : Bytes} {a1_ : List Pair} {r : Bytes} (h : d_impl_renamedText a0_ a1_ = some r) : Good Tryd.prog 95 [D.str (a0_), D.sl ((a1_).map Pair.c)] (D.str (r)) := by
  refine Good.of (c := bodyOf Tryd.f95) Tryd.func95 rfl (by decide) (by simp [Tryd.f95]) ?_
  intro hr Γ hΓ
  have hΓ : Γ.nt = 21 := hΓ
  rw [d_impl_renamedText] at h
  refine (show AW Tryd.prog Γ (bodyOf Tryd.f95) (KQ Tryd.prog Γ (fun _ _ => False) (RetQ Tryd.prog Tryd.f95 (D.str (r))) []) _ from ?_)
  refine AW_go (n := 2000) [[none]] [.cn [0, 7, 8, 9] []] (.lp (dig (bodyOf Tryd.f95) [1, 0, 1, 0, 0] []).1 (dig (bodyOf Tryd.f95) [1, 0, 1, 0] []).2 ⟨[(0, D.str (a0_)), (7, D.sl ((a1_).map Pair.c)), (8, D.int .i64 ((((a1_).map Pair.c).length : Int))), (9, D.int .i64 (0))], []⟩) hΓ mix (by kernel_rfl) ow0 (AW_st (by first | rfl | (simp only [List.map_append, List.map_cons, List.map_nil, List.map_set, List.map_replicate] <;> rfl)) (AW_of_r (d_impl_renamedText_L1w hΓ (fun h => ?_) (by have := (Rdb.sl (hr _ (List.mem_of_getElem? (i := 1) rfl))).1; simpa using this) (a1_) 0  rfl h)))
  have h := den_some h
  subst h
  exact AW_go (n := 2000) [[none]] [] (.ret (D.str (a0_))) hΓ mix (by kernel_rfl) ow0 rfl
def d_impl_RenameCond_L1 (a0_ : Cond) (a1_ : List Pair) (y1 : Bytes) (y3 : Bytes) (k1 : List Bytes → Option Cond) : List Bytes → Nat → List Bytes → Option Cond
  | [], i1, w1_2 => (k1 (w1_2))
  | x1_ :: xs1, i1, w1_2 => ((d_impl_renamedText (x1_) (a1_)).bind fun y31 => (bif room (((w1_2).map tx).length + ([[D.str (y31)]]).length) 16 then (d_impl_RenameCond_L1 a0_ a1_ y1 y3 k1 xs1 (i1 + 1) ((w1_2) ++ ([y31]))) else none))
def d_impl_RenameCond (a0_ : Cond) (a1_ : List Pair) : Option Cond := ((d_impl_renamedText (a0_.left) (a1_)).bind fun y1 => ((d_impl_renamedText (a0_.right) (a1_)).bind fun y3 => (d_impl_RenameCond_L1 a0_ a1_ y1 y3 (fun (q1_2 : List Bytes) => (some ((⟨a0_.kind, (⟨a0_.pat.rel, q1_2⟩ : Fact), y1, y3⟩ : Cond)))) (a0_.pat.args) 0 (([] : List Bytes)))))
theorem d_impl_RenameCond_L1w {Γ : Ctx} (hΓ : Γ.nt = 44) {N : Nat → St → Prop} {a0_ : Cond} {a1_ : List Pair} {y1 : Bytes} {y3 : Bytes} {r : Cond} {k1 : List Bytes → Option Cond} (hE1 : ∀ (q1_2 : List Bytes), k1 q1_2 = some r → AW Tryd.prog Γ (dig (bodyOf Tryd.f49) [1, 1, 1, 1] []).1 (KQ Tryd.prog Γ N (RetQ Tryd.prog Tryd.f49 (D.agg [D.int .i64 (r.kind), D.str (r.pat.rel), D.fr 9 1 ((r.pat.args).map tx), D.str (r.left), D.str (r.right)])) (dig (bodyOf Tryd.f49) [1, 1, 1, 1] []).2) ⟨[(4, D.ptr 0 0), (5, D.ptr 1 0)], [Ob.box [D.int .i64 (0), D.str ([]), D.nil, D.str ([]), D.str ([])], Ob.box [D.int .i64 (a0_.kind), D.str (a0_.pat.rel), D.acc 2, D.str (y1), D.str (y3)], Ob.row .uq 9 1 ((q1_2).map tx)]⟩) (hm1 : (a0_.pat.args).length ≤ maxLen) : ∀ (rest : List Bytes) (i1 : Nat) (w1_2 : List Bytes), (a0_.pat.args).drop i1 = rest → d_impl_RenameCond_L1 a0_ a1_ y1 y3 k1 rest i1 w1_2 = some r → AWr Tryd.prog Γ (dig (bodyOf Tryd.f49) [1, 1, 1, 0, 1, 0, 0] []).1 (KQ Tryd.prog Γ N (RetQ Tryd.prog Tryd.f49 (D.agg [D.int .i64 (r.kind), D.str (r.pat.rel), D.fr 9 1 ((r.pat.args).map tx), D.str (r.left), D.str (r.right)])) (dig (bodyOf Tryd.f49) [1, 1, 1, 0, 1, 0] []).2) (rest.length + 1) ⟨[(1, D.sl ((a1_).map Pair.c)), (4, D.ptr 0 0), (5, D.ptr 1 0), (26, D.sl ((a0_.pat.args).map tx)), (27, D.int .i64 ((((a0_.pat.args).map tx).length : Int))), (28, D.int .i64 ((i1 : Int)))], [Ob.box [D.int .i64 (0), D.str ([]), D.nil, D.str ([]), D.str ([])], Ob.box [D.int .i64 (a0_.kind), D.str (a0_.pat.rel), D.acc 2, D.str (y1), D.str (y3)], Ob.row .uq 9 1 ((w1_2).map tx)]⟩ := by
  intro rest
  induction rest with
  | nil =>
    intro i1 w1_2 hd1 h
    rw [d_impl_RenameCond_L1] at h
    refine AWr_succ fun N1 hN1 hS1 => ?_
    have t := AW_N (N := N) (N' := N1) (K0 := (dig (bodyOf Tryd.f49) [1, 1, 1, 0, 1, 0] []).2) (by kernel_rfl) hN1 (hE1 (w1_2) h)
    refine AW_go (n := 2000) [[none, none, some (9, 1), none, none]] [.b false, .hl 0 [4, 5] [0, 1, 2]] (.at_ (dig (bodyOf Tryd.f49) [1, 1, 1, 1] []).1 (dig (bodyOf Tryd.f49) [1, 1, 1, 1] []).2 ⟨[(4, D.ptr 0 0), (5, D.ptr 1 0)], [Ob.box [D.int .i64 (0), D.str ([]), D.nil, D.str ([]), D.str ([])], Ob.box [D.int .i64 (a0_.kind), D.str (a0_.pat.rel), D.acc 2, D.str (y1), D.str (y3)], Ob.row .uq 9 1 ((w1_2).map tx)]⟩) hΓ mix (by kernel_rfl) (ow ((ltm_false tx (drop_nil hd1))) ow0) ?_
    first | exact t | (simp only [List.map_append, List.map_cons, List.map_nil, List.map_set] at t ⊢; exact t)
  | cons x1_ xs1 ih1 =>
    intro i1 w1_2 hd1 h
    rw [d_impl_RenameCond_L1] at h
    refine AWr_succ fun N1 hN1 hS1 => ?_
    obtain ⟨y31, h32, h⟩ := den_bind h
    obtain ⟨h33, h⟩ := den_ok h
    have t := ih1 (i1 + 1) ((w1_2) ++ ([y31])) (drop_cons hd1).2.2 h
    refine AW_go (n := 2000) [[none, none, some (9, 1), none, none]] [.b true, .row (tx x1_), .n 7, .d (D.str (y31)), .cn [1, 4, 5, 26, 27, 28] [0, 1, 4]] (.cont 0 ⟨[(1, D.sl ((a1_).map Pair.c)), (4, D.ptr 0 0), (5, D.ptr 1 0), (26, D.sl ((a0_.pat.args).map tx)), (27, D.int .i64 ((((a0_.pat.args).map tx).length : Int))), (28, D.int .i64 (IntKind.i64.wrap (((i1 : Int)) + (1))))], [Ob.box [D.int .i64 (0), D.str ([]), D.nil, D.str ([]), D.str ([])], Ob.box [D.int .i64 (a0_.kind), D.str (a0_.pat.rel), D.acc 2, D.str (y1), D.str (y3)], Ob.row .uq 9 1 (((w1_2).map tx) ++ ([[D.str (y31)]]))]⟩) hΓ mix (by kernel_rfl) (ow ((ltm_true tx (drop_cons hd1).2.1)) (ow (map_row tx 1 (drop_cons hd1).1 rfl) (ow (d_impl_renamedText_good h32) (ow (room_ok h33) ow0)))) ?_
    refine (congrFun hS1 _).mpr ?_
    rw [i64_succ (drop_cons hd1).2.1 hm1]
    first | exact t | (simp only [List.map_append, List.map_cons, List.map_nil, List.map_set] at t ⊢; exact t)
theorem d_impl_RenameCond_good {a0_ : Cond} {a1_ : List Pair} {r : Cond} (h : d_impl_RenameCond a0_ a1_ = some r) : Good Tryd.prog 49 [D.agg (Cond.c a0_), D.sl ((a1_).map Pair.c)] (D.agg [D.int .i64 (r.kind), D.str (r.pat.rel), D.fr 9 1 ((r.pat.args).map tx), D.str (r.left), D.str (r.right)]) := by
  refine Good.of (c := bodyOf Tryd.f49) Tryd.func49 rfl (by decide) (by simp [Tryd.f49]) ?_
  intro hr Γ hΓ
  have hΓ : Γ.nt = 44 := hΓ
  rw [d_impl_RenameCond] at h
  refine (show AW Tryd.prog Γ (bodyOf Tryd.f49) (KQ Tryd.prog Γ (fun _ _ => False) (RetQ Tryd.prog Tryd.f49 (D.agg [D.int .i64 (r.kind), D.str (r.pat.rel), D.fr 9 1 ((r.pat.args).map tx), D.str (r.left), D.str (r.right)])) []) _ from ?_)
  obtain ⟨y1, h2, h⟩ := den_bind h
  obtain ⟨y3, h4, h⟩ := den_bind h
  refine AW_go (n := 2000) [[none, none, some (9, 1), none, none]] [.n 12, .d (D.str (y1)), .d (D.str (y3)), .pb 2 2 9 1, .cn [1, 4, 5, 26, 27, 28] [1, 2, 3]] (.lp (dig (bodyOf Tryd.f49) [1, 1, 1, 0, 1, 0, 0] []).1 (dig (bodyOf Tryd.f49) [1, 1, 1, 0, 1, 0] []).2 ⟨[(1, D.sl ((a1_).map Pair.c)), (4, D.ptr 0 0), (5, D.ptr 1 0), (26, D.sl ((a0_.pat.args).map tx)), (27, D.int .i64 ((((a0_.pat.args).map tx).length : Int))), (28, D.int .i64 (0))], [Ob.box [D.int .i64 (0), D.str ([]), D.nil, D.str ([]), D.str ([])], Ob.box [D.int .i64 (a0_.kind), D.str (a0_.pat.rel), D.acc 2, D.str (y1), D.str (y3)], Ob.row .uq 9 1 (([] : List (List D)))]⟩) hΓ mix (by kernel_rfl) (ow (d_impl_renamedText_good h2) (ow (d_impl_renamedText_good h4) ow0)) (AW_st (by first | rfl | (simp only [List.map_append, List.map_cons, List.map_nil, List.map_set, List.map_replicate] <;> rfl)) (AW_of_r (d_impl_RenameCond_L1w hΓ (fun q1_2 h => ?_) (by have := (Rdb.sl (Rdb.agg (hr _ (List.mem_of_getElem? (i := 0) rfl)) (.sl ((a0_.pat.args).map tx)) (by simp))).1; simpa using this) (a0_.pat.args) 0 (([] : List Bytes)) rfl h)))
  have h := den_some h
  subst h
  exact AW_go (n := 2000) [[none, none, some (9, 1), none, none]] [] (.ret (D.agg [D.int .i64 (a0_.kind), D.str (a0_.pat.rel), D.fr 9 1 ((q1_2).map tx), D.str (y1), D.str (y3)])) hΓ mix (by kernel_rfl) ow0 rfl
def d_spec_PlainNames_L2 (a0_ : Rule) (i1 : Nat) (x1_ : Cond) (k2 : List Pair → Option (List Pair)) : List Bytes → Nat → List Pair → Option (List Pair)
  | [], i2, w2_1 => (k2 (w2_1))
  | x2_ :: xs2, i2, w2_1 => ((d_spec_l7Name (w2_1) (x2_)).bind fun y206 => (d_spec_PlainNames_L2 a0_ i1 x1_ k2 xs2 (i2 + 1) (y206)))
def d_spec_PlainNames_L1 (a0_ : Rule) (k1 : List Pair → Option (List Pair)) : List Cond → Nat → List Pair → Option (List Pair)
  | [], i1, w1_1 => (k1 (w1_1))
  | x1_ :: xs1, i1, w1_1 => (bif decide ((x1_.pat.args).length ≤ maxLen) then (d_spec_PlainNames_L2 a0_ i1 x1_ (fun (q2_1 : List Pair) => ((d_spec_l7Name (q2_1) (x1_.left)).bind fun y208 => ((d_spec_l7Name (y208) (x1_.right)).bind fun y210 => (d_spec_PlainNames_L1 a0_ k1 xs1 (i1 + 1) (y210))))) (x1_.pat.args) 0 (w1_1)) else none)
def d_spec_PlainNames (a0_ : Rule) : Option (List Pair) := (d_spec_PlainNames_L1 a0_ (fun (q1_0 : List Pair) => (some (q1_0))) (a0_.conds) 0 (([] : List Pair)))
theorem d_spec_PlainNames_L2w {Γ : Ctx} (hΓ : Γ.nt = 55) {N : Nat → St → Prop} {a0_ : Rule} {i1 : Nat} {x1_ : Cond} {r : List Pair} {k2 : List Pair → Option (List Pair)} (hE2 : ∀ (q2_1 : List Pair), k2 q2_1 = some r → AW Tryd.prog Γ (dig (bodyOf Tryd.f17) [1, 1, 0, 1, 0, 0, 1, 0, 0, 1] []).1 (KQ Tryd.prog Γ N (RetQ Tryd.prog Tryd.f17 (D.fr 100 2 ((r).map Pair.c))) (dig (bodyOf Tryd.f17) [1, 1, 0, 1, 0, 0, 1, 0, 0, 1] []).2) ⟨[(1, D.ptr 0 0), (3, D.acc 1), (4, D.int .i64 ((i1 : Int)))], [Ob.box (Rule.c a0_), Ob.row .uq 100 2 ((q2_1).map Pair.c)]⟩) (hx1 : (a0_.conds)[i1]? = some x1_) (hm2 : (x1_.pat.args).length ≤ maxLen) : ∀ (rest : List Bytes) (i2 : Nat) (w2_1 : List Pair), (x1_.pat.args).drop i2 = rest → d_spec_PlainNames_L2 a0_ i1 x1_ k2 rest i2 w2_1 = some r → AWr Tryd.prog Γ (dig (bodyOf Tryd.f17) [1, 1, 0, 1, 0, 0, 1, 0, 0, 0, 1, 0, 0] []).1 (KQ Tryd.prog Γ N (RetQ Tryd.prog Tryd.f17 (D.fr 100 2 ((r).map Pair.c))) (dig (bodyOf Tryd.f17) [1, 1, 0, 1, 0, 0, 1, 0, 0, 0, 1, 0] []).2) (rest.length + 1) ⟨[(1, D.ptr 0 0), (3, D.acc 1), (4, D.int .i64 ((i1 : Int))), (5, D.int .i64 ((i2 : Int)))], [Ob.box (Rule.c a0_), Ob.row .uq 100 2 ((w2_1).map Pair.c)]⟩ := by
  intro rest
  induction rest with
  | nil =>
    intro i2 w2_1 hd2 h
    rw [d_spec_PlainNames_L2] at h
    refine AWr_succ fun N2 hN2 hS2 => ?_
    have t := AW_N (N := N) (N' := N2) (K0 := (dig (bodyOf Tryd.f17) [1, 1, 0, 1, 0, 0, 1, 0, 0, 0, 1, 0] []).2) (by kernel_rfl) hN2 (hE2 (w2_1) h)
    refine AW_go (n := 2000) [[some (100, 2)]] [.row (Cond.c x1_), .b false, .hl 5 [1, 3, 4] [0, 1]] (.at_ (dig (bodyOf Tryd.f17) [1, 1, 0, 1, 0, 0, 1, 0, 0, 1] []).1 (dig (bodyOf Tryd.f17) [1, 1, 0, 1, 0, 0, 1, 0, 0, 1] []).2 ⟨[(1, D.ptr 0 0), (3, D.acc 1), (4, D.int .i64 ((i1 : Int)))], [Ob.box (Rule.c a0_), Ob.row .uq 100 2 ((w2_1).map Pair.c)]⟩) hΓ mix (by kernel_rfl) (ow (map_row Cond.c 5 hx1 rfl) (ow ((ltm_false tx (drop_nil hd2))) ow0)) ?_
    first | exact t | (simp only [List.map_append, List.map_cons, List.map_nil, List.map_set] at t ⊢; exact t)
  | cons x2_ xs2 ih2 =>
    intro i2 w2_1 hd2 h
    rw [d_spec_PlainNames_L2] at h
    refine AWr_succ fun N2 hN2 hS2 => ?_
    obtain ⟨y206, h207, h⟩ := den_bind h
    have t := ih2 (i2 + 1) (y206) (drop_cons hd2).2.2 h
    refine AW_go (n := 2000) [[some (100, 2)]] [.row (Cond.c x1_), .b true, .row (Cond.c x1_), .row (tx x2_), .ov 1 ((y206).map Pair.c), .cn [1, 3, 4, 5] [0, 2]] (.cont 1 ⟨[(1, D.ptr 0 0), (3, D.acc 1), (4, D.int .i64 ((i1 : Int))), (5, D.int .i64 (IntKind.i64.wrap (((i2 : Int)) + (1))))], [Ob.box (Rule.c a0_), Ob.row .uq 100 2 ((y206).map Pair.c)]⟩) hΓ mix (by kernel_rfl) (ow (map_row Cond.c 5 hx1 rfl) (ow ((ltm_true tx (drop_cons hd2).2.1)) (ow (map_row Cond.c 5 hx1 rfl) (ow (map_row tx 1 (drop_cons hd2).1 rfl) (ow (show ((w2_1).map Pair.c).flatten.all D.flat = true from by simpa only [List.map_append, List.map_cons, List.map_nil] using flat_rows (c := Pair.c) (fun _ => rfl) (w2_1)) (ow (show GoodO Tryd.prog 46 [D.acc 0, D.str (x2_)] 100 2 ((w2_1).map Pair.c) ((y206).map Pair.c) from by simpa only [List.map_append, List.map_cons, List.map_nil] using d_spec_l7Name_good h207) ow0)))))) ?_
    refine (congrFun hS2 _).mpr ?_
    rw [i64_succ (drop_cons hd2).2.1 hm2]
    first | exact t | (simp only [List.map_append, List.map_cons, List.map_nil, List.map_set] at t ⊢; exact t)
theorem d_spec_PlainNames_L1w {Γ : Ctx} (hΓ : Γ.nt = 55) {N : Nat → St → Prop} {a0_ : Rule} {r : List Pair} {k1 : List Pair → Option (List Pair)} (hE1 : ∀ (q1_0 : List Pair), k1 q1_0 = some r → AW Tryd.prog Γ (dig (bodyOf Tryd.f17) [1, 1, 1] []).1 (KQ Tryd.prog Γ N (RetQ Tryd.prog Tryd.f17 (D.fr 100 2 ((r).map Pair.c))) (dig (bodyOf Tryd.f17) [1, 1, 1] []).2) ⟨[(3, D.acc 0)], [Ob.row .uq 100 2 ((q1_0).map Pair.c)]⟩) (hm1 : (a0_.conds).length ≤ maxLen) : ∀ (rest : List Cond) (i1 : Nat) (w1_1 : List Pair), (a0_.conds).drop i1 = rest → d_spec_PlainNames_L1 a0_ k1 rest i1 w1_1 = some r → AWr Tryd.prog Γ (dig (bodyOf Tryd.f17) [1, 1, 0, 1, 0, 0] []).1 (KQ Tryd.prog Γ N (RetQ Tryd.prog Tryd.f17 (D.fr 100 2 ((r).map Pair.c))) (dig (bodyOf Tryd.f17) [1, 1, 0, 1, 0] []).2) (rest.length + 1) ⟨[(1, D.ptr 0 0), (3, D.acc 1), (4, D.int .i64 ((i1 : Int)))], [Ob.box (Rule.c a0_), Ob.row .uq 100 2 ((w1_1).map Pair.c)]⟩ := by
  intro rest
  induction rest with
  | nil =>
    intro i1 w1_1 hd1 h
    rw [d_spec_PlainNames_L1] at h
    refine AWr_succ fun N1 hN1 hS1 => ?_
    have t := AW_N (N := N) (N' := N1) (K0 := (dig (bodyOf Tryd.f17) [1, 1, 0, 1, 0] []).2) (by kernel_rfl) hN1 (hE1 (w1_1) h)
    refine AW_go (n := 2000) [[some (100, 2)]] [.b false, .hl 0 [3] [1]] (.at_ (dig (bodyOf Tryd.f17) [1, 1, 1] []).1 (dig (bodyOf Tryd.f17) [1, 1, 1] []).2 ⟨[(3, D.acc 0)], [Ob.row .uq 100 2 ((w1_1).map Pair.c)]⟩) hΓ mix (by kernel_rfl) (ow ((ltm_false Cond.c (drop_nil hd1))) ow0) ?_
    first | exact t | (simp only [List.map_append, List.map_cons, List.map_nil, List.map_set] at t ⊢; exact t)
  | cons x1_ xs1 ih1 =>
    intro i1 w1_1 hd1 h
    rw [d_spec_PlainNames_L1] at h
    refine AWr_succ fun N1 hN1 hS1 => ?_
    obtain ⟨h212, h⟩ := den_ok h
    refine AW_go (n := 2000) [[some (100, 2)]] [.b true, .cn [1, 3, 4, 5] [0, 1]] (.lp (dig (bodyOf Tryd.f17) [1, 1, 0, 1, 0, 0, 1, 0, 0, 0, 1, 0, 0] []).1 (dig (bodyOf Tryd.f17) [1, 1, 0, 1, 0, 0, 1, 0, 0, 0, 1, 0] []).2 ⟨[(1, D.ptr 0 0), (3, D.acc 1), (4, D.int .i64 ((i1 : Int))), (5, D.int .i64 (0))], [Ob.box (Rule.c a0_), Ob.row .uq 100 2 ((w1_1).map Pair.c)]⟩) hΓ mix (by kernel_rfl) (ow ((ltm_true Cond.c (drop_cons hd1).2.1)) ow0) (AW_st (by first | rfl | (simp only [List.map_append, List.map_cons, List.map_nil, List.map_set, List.map_replicate] <;> rfl)) (AW_of_r (d_spec_PlainNames_L2w hΓ (fun q2_1 h => ?_) ((drop_cons hd1).1) (of_decide_eq_true h212) (x1_.pat.args) 0 (w1_1) rfl h)))
    obtain ⟨y208, h209, h⟩ := den_bind h
    obtain ⟨y210, h211, h⟩ := den_bind h
    have t := ih1 (i1 + 1) (y210) (drop_cons hd1).2.2 h
    refine AW_go (n := 2000) [[some (100, 2)]] [.row (Cond.c x1_), .ov 1 ((y208).map Pair.c), .row (Cond.c x1_), .ov 2 ((y210).map Pair.c), .cn [1, 3, 4] [0, 3]] (.cont 0 ⟨[(1, D.ptr 0 0), (3, D.acc 1), (4, D.int .i64 (IntKind.i64.wrap (((i1 : Int)) + (1))))], [Ob.box (Rule.c a0_), Ob.row .uq 100 2 ((y210).map Pair.c)]⟩) hΓ mix (by kernel_rfl) (ow (map_row Cond.c 5 (drop_cons hd1).1 rfl) (ow (show ((q2_1).map Pair.c).flatten.all D.flat = true from by simpa only [List.map_append, List.map_cons, List.map_nil] using flat_rows (c := Pair.c) (fun _ => rfl) (q2_1)) (ow (show GoodO Tryd.prog 46 [D.acc 0, D.str (x1_.left)] 100 2 ((q2_1).map Pair.c) ((y208).map Pair.c) from by simpa only [List.map_append, List.map_cons, List.map_nil] using d_spec_l7Name_good h209) (ow (map_row Cond.c 5 (drop_cons hd1).1 rfl) (ow (show ((y208).map Pair.c).flatten.all D.flat = true from by simpa only [List.map_append, List.map_cons, List.map_nil] using flat_rows (c := Pair.c) (fun _ => rfl) (y208)) (ow (show GoodO Tryd.prog 46 [D.acc 0, D.str (x1_.right)] 100 2 ((y208).map Pair.c) ((y210).map Pair.c) from by simpa only [List.map_append, List.map_cons, List.map_nil] using d_spec_l7Name_good h211) ow0)))))) ?_
    refine (congrFun hS1 _).mpr ?_
    rw [i64_succ (drop_cons hd1).2.1 hm1]
    first | exact t | (simp only [List.map_append, List.map_cons, List.map_nil, List.map_set] at t ⊢; exact t)
theorem d_spec_PlainNames_good {a0_ : Rule} {r : List Pair} (h : d_spec_PlainNames a0_ = some r) : Good Tryd.prog 17 [D.agg (Rule.c a0_)] (D.fr 100 2 ((r).map Pair.c)) := by
  refine Good.of (c := bodyOf Tryd.f17) Tryd.func17 rfl (by decide) (by simp [Tryd.f17]) ?_
  intro hr Γ hΓ
  have hΓ : Γ.nt = 55 := hΓ
  rw [d_spec_PlainNames] at h
  refine (show AW Tryd.prog Γ (bodyOf Tryd.f17) (KQ Tryd.prog Γ (fun _ _ => False) (RetQ Tryd.prog Tryd.f17 (D.fr 100 2 ((r).map Pair.c))) []) _ from ?_)
  refine AW_go (n := 2000) [[some (100, 2)]] [.cn [1, 3, 4] [0, 1]] (.lp (dig (bodyOf Tryd.f17) [1, 1, 0, 1, 0, 0] []).1 (dig (bodyOf Tryd.f17) [1, 1, 0, 1, 0] []).2 ⟨[(1, D.ptr 0 0), (3, D.acc 1), (4, D.int .i64 (0))], [Ob.box (Rule.c a0_), Ob.row .uq 100 2 (([] : List (List D)))]⟩) hΓ mix (by kernel_rfl) ow0 (AW_st (by first | rfl | (simp only [List.map_append, List.map_cons, List.map_nil, List.map_set, List.map_replicate] <;> rfl)) (AW_of_r (d_spec_PlainNames_L1w hΓ (fun q1_0 h => ?_) (by have := (Rdb.sl (Rdb.agg (hr _ (List.mem_of_getElem? (i := 0) rfl)) (.sl ((a0_.conds).map Cond.c)) (by simp))).1; simpa using this) (a0_.conds) 0 (([] : List Pair)) rfl h)))
  have h := den_some h
  subst h
  exact AW_go (n := 2000) [[some (100, 2)]] [] (.ret (D.fr 100 2 ((q1_0).map Pair.c))) hΓ mix (by kernel_rfl) ow0 rfl
def d_impl_copyTexts (a0_ : List Bytes) : Option (List Bytes) := (bif room ((([] : List (List D))).length + ((a0_).map tx).length) 16 then (some ((([] : List Bytes)) ++ (a0_))) else none)
theorem d_impl_copyTexts_good {a0_ : List Bytes} {r : List Bytes} (h : d_impl_copyTexts a0_ = some r) : Good Tryd.prog 101 [D.sl ((a0_).map tx)] (D.fr 9 1 ((r).map tx)) := by
  refine Good.of (c := bodyOf Tryd.f101) Tryd.func101 rfl (by decide) (by simp [Tryd.f101]) ?_
  intro hr Γ hΓ
  have hΓ : Γ.nt = 5 := hΓ
  rw [d_impl_copyTexts] at h
  refine (show AW Tryd.prog Γ (bodyOf Tryd.f101) (KQ Tryd.prog Γ (fun _ _ => False) (RetQ Tryd.prog Tryd.f101 (D.fr 9 1 ((r).map tx))) []) _ from ?_)
  obtain ⟨h1, h⟩ := den_ok h
  have h := den_some h
  subst h
  exact AW_go (n := 2000) [[some (9, 1)]] [.pro 2, .fl true] (.ret (D.fr 9 1 ((([] : List (List D))) ++ ((a0_).map tx)))) hΓ mix (by kernel_rfl) (ow (room_ok h1) (ow (show (∀ r ∈ ((a0_).map tx), r.length = 1) ∧ (true = true → D.flatRows ((a0_).map tx) = true) from ⟨by simp, by simp [D.flatRows, D.flat]⟩) ow0)) (by first | rfl | (simp only [List.map_append, List.map_cons, List.map_nil, List.map_set] <;> rfl))
def d_impl_termsOf (a0_ : Cond) : Option (List Bytes) := ((d_impl_copyTexts (a0_.pat.args)).bind fun y1 => (bif room (((y1).map tx).length + ([[D.str (a0_.left)], [D.str (a0_.right)]]).length) 16 then (some ((y1) ++ ([a0_.left, a0_.right]))) else none))
theorem d_impl_termsOf_good {a0_ : Cond} {r : List Bytes} (h : d_impl_termsOf a0_ = some r) : Good Tryd.prog 58 [D.agg (Cond.c a0_)] (D.fr 9 1 ((r).map tx)) := by
  refine Good.of (c := bodyOf Tryd.f58) Tryd.func58 rfl (by decide) (by simp [Tryd.f58]) ?_
  intro hr Γ hΓ
  have hΓ : Γ.nt = 13 := hΓ
  rw [d_impl_termsOf] at h
  refine (show AW Tryd.prog Γ (bodyOf Tryd.f58) (KQ Tryd.prog Γ (fun _ _ => False) (RetQ Tryd.prog Tryd.f58 (D.fr 9 1 ((r).map tx))) []) _ from ?_)
  obtain ⟨y1, h2, h⟩ := den_bind h
  obtain ⟨h3, h⟩ := den_ok h
  have h := den_some h
  subst h
  exact AW_go (n := 2000) [[some (9, 1)]] [.pro 2, .n 9, .d (D.fr 9 1 ((y1).map tx))] (.ret (D.fr 9 1 (((y1).map tx) ++ ([[D.str (a0_.left)], [D.str (a0_.right)]])))) hΓ mix (by kernel_rfl) (ow (d_impl_copyTexts_good h2) (ow (room_ok h3) ow0)) (by first | rfl | (simp only [List.map_append, List.map_cons, List.map_nil, List.map_set] <;> rfl))
def d_impl_PlainNames_L1 (a0_ : Rule) (k1 : List Bytes → Option (List Pair)) : List Cond → Nat → List Bytes → Option (List Pair)
  | [], i1, w1_0 => (k1 (w1_0))
  | x1_ :: xs1, i1, w1_0 => ((d_impl_termsOf (x1_)).bind fun y27 => (bif room (((w1_0).map tx).length + ((y27).map tx).length) 16 then (d_impl_PlainNames_L1 a0_ k1 xs1 (i1 + 1) ((w1_0) ++ (y27))) else none))
def d_impl_PlainNames (a0_ : Rule) : Option (List Pair) := (d_impl_PlainNames_L1 a0_ (fun (q1_0 : List Bytes) => ((d_impl_plainPairs (q1_0)).bind fun y30 => (some (y30)))) (a0_.conds) 0 (([] : List Bytes)))
theorem d_impl_PlainNames_L1w {Γ : Ctx} (hΓ : Γ.nt = 20) {N : Nat → St → Prop} {a0_ : Rule} {r : List Pair} {k1 : List Bytes → Option (List Pair)} (hE1 : ∀ (q1_0 : List Bytes), k1 q1_0 = some r → AW Tryd.prog Γ (dig (bodyOf Tryd.f19) [1, 1, 1] []).1 (KQ Tryd.prog Γ N (RetQ Tryd.prog Tryd.f19 (D.fr 100 2 ((r).map Pair.c))) (dig (bodyOf Tryd.f19) [1, 1, 1] []).2) ⟨[(3, D.acc 0)], [Ob.row .uq 9 1 ((q1_0).map tx)]⟩) (hm1 : (a0_.conds).length ≤ maxLen) : ∀ (rest : List Cond) (i1 : Nat) (w1_0 : List Bytes), (a0_.conds).drop i1 = rest → d_impl_PlainNames_L1 a0_ k1 rest i1 w1_0 = some r → AWr Tryd.prog Γ (dig (bodyOf Tryd.f19) [1, 1, 0, 1, 0, 0] []).1 (KQ Tryd.prog Γ N (RetQ Tryd.prog Tryd.f19 (D.fr 100 2 ((r).map Pair.c))) (dig (bodyOf Tryd.f19) [1, 1, 0, 1, 0] []).2) (rest.length + 1) ⟨[(3, D.acc 0), (7, D.sl ((a0_.conds).map Cond.c)), (8, D.int .i64 ((((a0_.conds).map Cond.c).length : Int))), (9, D.int .i64 ((i1 : Int)))], [Ob.row .uq 9 1 ((w1_0).map tx)]⟩ := by
  intro rest
  induction rest with
  | nil =>
    intro i1 w1_0 hd1 h
    rw [d_impl_PlainNames_L1] at h
    refine AWr_succ fun N1 hN1 hS1 => ?_
    have t := AW_N (N := N) (N' := N1) (K0 := (dig (bodyOf Tryd.f19) [1, 1, 0, 1, 0] []).2) (by kernel_rfl) hN1 (hE1 (w1_0) h)
    refine AW_go (n := 2000) [[some (100, 2)]] [.b false, .hl 0 [3] [0]] (.at_ (dig (bodyOf Tryd.f19) [1, 1, 1] []).1 (dig (bodyOf Tryd.f19) [1, 1, 1] []).2 ⟨[(3, D.acc 0)], [Ob.row .uq 9 1 ((w1_0).map tx)]⟩) hΓ mix (by kernel_rfl) (ow ((ltm_false Cond.c (drop_nil hd1))) ow0) ?_
    first | exact t | (simp only [List.map_append, List.map_cons, List.map_nil, List.map_set] at t ⊢; exact t)
  | cons x1_ xs1 ih1 =>
    intro i1 w1_0 hd1 h
    rw [d_impl_PlainNames_L1] at h
    refine AWr_succ fun N1 hN1 hS1 => ?_
    obtain ⟨y27, h28, h⟩ := den_bind h
    obtain ⟨h29, h⟩ := den_ok h
    have t := ih1 (i1 + 1) ((w1_0) ++ (y27)) (drop_cons hd1).2.2 h
    refine AW_go (n := 2000) [[some (100, 2)]] [.b true, .row (Cond.c x1_), .d (D.fr 9 1 ((y27).map tx)), .cn [3, 7, 8, 9] [3]] (.cont 0 ⟨[(3, D.acc 0), (7, D.sl ((a0_.conds).map Cond.c)), (8, D.int .i64 ((((a0_.conds).map Cond.c).length : Int))), (9, D.int .i64 (IntKind.i64.wrap (((i1 : Int)) + (1))))], [Ob.row .uq 9 1 (((w1_0).map tx) ++ ((y27).map tx))]⟩) hΓ mix (by kernel_rfl) (ow ((ltm_true Cond.c (drop_cons hd1).2.1)) (ow (map_row Cond.c 5 (drop_cons hd1).1 rfl) (ow (d_impl_termsOf_good h28) (ow (room_ok h29) ow0)))) ?_
    refine (congrFun hS1 _).mpr ?_
    rw [i64_succ (drop_cons hd1).2.1 hm1]
    first | exact t | (simp only [List.map_append, List.map_cons, List.map_nil, List.map_set] at t ⊢; exact t)
theorem d_impl_PlainNames_good {a0_ : Rule} {r : List Pair} (h : d_impl_PlainNames a0_ = some r) : Good Tryd.prog 19 [D.agg (Rule.c a0_)] (D.fr 100 2 ((r).map Pair.c)) := by
  refine Good.of (c := bodyOf Tryd.f19) Tryd.func19 rfl (by decide) (by simp [Tryd.f19]) ?_
  intro hr Γ hΓ
  have hΓ : Γ.nt = 20 := hΓ
  rw [d_impl_PlainNames] at h
  refine (show AW Tryd.prog Γ (bodyOf Tryd.f19) (KQ Tryd.prog Γ (fun _ _ => False) (RetQ Tryd.prog Tryd.f19 (D.fr 100 2 ((r).map Pair.c))) []) _ from ?_)
  refine AW_go (n := 2000) [[some (100, 2)]] [.pro 3, .cn [3, 7, 8, 9] [1]] (.lp (dig (bodyOf Tryd.f19) [1, 1, 0, 1, 0, 0] []).1 (dig (bodyOf Tryd.f19) [1, 1, 0, 1, 0] []).2 ⟨[(3, D.acc 0), (7, D.sl ((a0_.conds).map Cond.c)), (8, D.int .i64 ((((a0_.conds).map Cond.c).length : Int))), (9, D.int .i64 (0))], [Ob.row .uq 9 1 (([] : List (List D)))]⟩) hΓ mix (by kernel_rfl) ow0 (AW_st (by first | rfl | (simp only [List.map_append, List.map_cons, List.map_nil, List.map_set, List.map_replicate] <;> rfl)) (AW_of_r (d_impl_PlainNames_L1w hΓ (fun q1_0 h => ?_) (by have := (Rdb.sl (Rdb.agg (hr _ (List.mem_of_getElem? (i := 0) rfl)) (.sl ((a0_.conds).map Cond.c)) (by simp))).1; simpa using this) (a0_.conds) 0 (([] : List Bytes)) rfl h)))
  obtain ⟨y30, h31, h⟩ := den_bind h
  have h := den_some h
  subst h
  exact AW_go (n := 2000) [[some (100, 2)]] [.d (D.fr 100 2 ((y30).map Pair.c))] (.ret (D.fr 100 2 ((y30).map Pair.c))) hΓ mix (by kernel_rfl) (ow (d_impl_plainPairs_good h31) ow0) rfl
def d_spec_PlainConds_L1 (a0_ : Rule) (y1 : List Pair) (k1 : List Cond → Option (List Cond)) : List Cond → Nat → List Cond → Option (List Cond)
  | [], i1, w1_1 => (k1 (w1_1))
  | x1_ :: xs1, i1, w1_1 => ((d_spec_RenameCond (x1_) (y1)).bind fun y29 => (bif room (((w1_1).map Cond.c).length + ([[D.int .i64 (y29.kind), D.str (y29.pat.rel), D.sl ((y29.pat.args).map tx), D.str (y29.left), D.str (y29.right)]]).length) 80 then (d_spec_PlainConds_L1 a0_ y1 k1 xs1 (i1 + 1) ((w1_1) ++ ([y29]))) else none))
def d_spec_PlainConds (a0_ : Rule) : Option (List Cond) := ((d_spec_PlainNames (a0_)).bind fun y1 => (d_spec_PlainConds_L1 a0_ y1 (fun (q1_0 : List Cond) => (some (q1_0))) (a0_.conds) 0 (([] : List Cond))))
theorem d_spec_PlainConds_L1w {Γ : Ctx} (hΓ : Γ.nt = 27) {N : Nat → St → Prop} {a0_ : Rule} {y1 : List Pair} {r : List Cond} {k1 : List Cond → Option (List Cond)} (hE1 : ∀ (q1_0 : List Cond), k1 q1_0 = some r → AW Tryd.prog Γ (dig (bodyOf Tryd.f25) [1, 1, 1, 1] []).1 (KQ Tryd.prog Γ N (RetQ Tryd.prog Tryd.f25 (D.fr 88 5 ((r).map Cond.c))) (dig (bodyOf Tryd.f25) [1, 1, 1, 1] []).2) ⟨[(3, D.acc 0)], [Ob.row .uq 88 5 ((q1_0).map Cond.c)]⟩) (hm1 : (a0_.conds).length ≤ maxLen) : ∀ (rest : List Cond) (i1 : Nat) (w1_1 : List Cond), (a0_.conds).drop i1 = rest → d_spec_PlainConds_L1 a0_ y1 k1 rest i1 w1_1 = some r → AWr Tryd.prog Γ (dig (bodyOf Tryd.f25) [1, 1, 1, 0, 1, 0, 0] []).1 (KQ Tryd.prog Γ N (RetQ Tryd.prog Tryd.f25 (D.fr 88 5 ((r).map Cond.c))) (dig (bodyOf Tryd.f25) [1, 1, 1, 0, 1, 0] []).2) (rest.length + 1) ⟨[(1, D.ptr 0 0), (3, D.acc 1), (4, D.acc 2), (5, D.int .i64 ((i1 : Int)))], [Ob.box (Rule.c a0_), Ob.row .uq 88 5 ((w1_1).map Cond.c), Ob.row .uq 100 2 ((y1).map Pair.c)]⟩ := by
  intro rest
  induction rest with
  | nil =>
    intro i1 w1_1 hd1 h
    rw [d_spec_PlainConds_L1] at h
    refine AWr_succ fun N1 hN1 hS1 => ?_
    have t := AW_N (N := N) (N' := N1) (K0 := (dig (bodyOf Tryd.f25) [1, 1, 1, 0, 1, 0] []).2) (by kernel_rfl) hN1 (hE1 (w1_1) h)
    refine AW_go (n := 2000) [[some (88, 5)]] [.b false, .hl 0 [3] [1]] (.at_ (dig (bodyOf Tryd.f25) [1, 1, 1, 1] []).1 (dig (bodyOf Tryd.f25) [1, 1, 1, 1] []).2 ⟨[(3, D.acc 0)], [Ob.row .uq 88 5 ((w1_1).map Cond.c)]⟩) hΓ mix (by kernel_rfl) (ow ((ltm_false Cond.c (drop_nil hd1))) ow0) ?_
    first | exact t | (simp only [List.map_append, List.map_cons, List.map_nil, List.map_set] at t ⊢; exact t)
  | cons x1_ xs1 ih1 =>
    intro i1 w1_1 hd1 h
    rw [d_spec_PlainConds_L1] at h
    refine AWr_succ fun N1 hN1 hS1 => ?_
    obtain ⟨y29, h30, h⟩ := den_bind h
    obtain ⟨h31, h⟩ := den_ok h
    have t := ih1 (i1 + 1) ((w1_1) ++ ([y29])) (drop_cons hd1).2.2 h
    refine AW_go (n := 2000) [[some (88, 5)]] [.b true, .row (Cond.c x1_), .d (D.agg [D.int .i64 (y29.kind), D.str (y29.pat.rel), D.fr 9 1 ((y29.pat.args).map tx), D.str (y29.left), D.str (y29.right)]), .cn [1, 3, 4, 5] [0, 5, 2]] (.cont 0 ⟨[(1, D.ptr 0 0), (3, D.acc 1), (4, D.acc 2), (5, D.int .i64 (IntKind.i64.wrap (((i1 : Int)) + (1))))], [Ob.box (Rule.c a0_), Ob.row .uq 88 5 (((w1_1).map Cond.c) ++ ([[D.int .i64 (y29.kind), D.str (y29.pat.rel), D.sl ((y29.pat.args).map tx), D.str (y29.left), D.str (y29.right)]])), Ob.row .uq 100 2 ((y1).map Pair.c)]⟩) hΓ mix (by kernel_rfl) (ow ((ltm_true Cond.c (drop_cons hd1).2.1)) (ow (map_row Cond.c 5 (drop_cons hd1).1 rfl) (ow (d_spec_RenameCond_good h30) (ow (room_ok h31) ow0)))) ?_
    refine (congrFun hS1 _).mpr ?_
    rw [i64_succ (drop_cons hd1).2.1 hm1]
    first | exact t | (simp only [List.map_append, List.map_cons, List.map_nil, List.map_set] at t ⊢; exact t)
theorem d_spec_PlainConds_good {a0_ : Rule} {r : List Cond} (h : d_spec_PlainConds a0_ = some r) : Good Tryd.prog 25 [D.agg (Rule.c a0_)] (D.fr 88 5 ((r).map Cond.c)) := by
  refine Good.of (c := bodyOf Tryd.f25) Tryd.func25 rfl (by decide) (by simp [Tryd.f25]) ?_
  intro hr Γ hΓ
  have hΓ : Γ.nt = 27 := hΓ
  rw [d_spec_PlainConds] at h
  refine (show AW Tryd.prog Γ (bodyOf Tryd.f25) (KQ Tryd.prog Γ (fun _ _ => False) (RetQ Tryd.prog Tryd.f25 (D.fr 88 5 ((r).map Cond.c))) []) _ from ?_)
  obtain ⟨y1, h2, h⟩ := den_bind h
  refine AW_go (n := 2000) [[some (88, 5)]] [.d (D.fr 100 2 ((y1).map Pair.c)), .cn [1, 3, 4, 5] [0, 1, 2]] (.lp (dig (bodyOf Tryd.f25) [1, 1, 1, 0, 1, 0, 0] []).1 (dig (bodyOf Tryd.f25) [1, 1, 1, 0, 1, 0] []).2 ⟨[(1, D.ptr 0 0), (3, D.acc 1), (4, D.acc 2), (5, D.int .i64 (0))], [Ob.box (Rule.c a0_), Ob.row .uq 88 5 (([] : List (List D))), Ob.row .uq 100 2 ((y1).map Pair.c)]⟩) hΓ mix (by kernel_rfl) (ow (d_spec_PlainNames_good h2) ow0) (AW_st (by first | rfl | (simp only [List.map_append, List.map_cons, List.map_nil, List.map_set, List.map_replicate] <;> rfl)) (AW_of_r (d_spec_PlainConds_L1w hΓ (fun q1_0 h => ?_) (by have := (Rdb.sl (Rdb.agg (hr _ (List.mem_of_getElem? (i := 0) rfl)) (.sl ((a0_.conds).map Cond.c)) (by simp))).1; simpa using this) (a0_.conds) 0 (([] : List Cond)) rfl h)))
  have h := den_some h
  subst h
  exact AW_go (n := 2000) [[some (88, 5)]] [] (.ret (D.fr 88 5 ((q1_0).map Cond.c))) hΓ mix (by kernel_rfl) ow0 rfl
def d_impl_PlainConds_L1 (a0_ : Rule) (y1 : List Pair) (k1 : List Cond → Option (List Cond)) : List Cond → Nat → List Cond → Option (List Cond)
  | [], i1, w1_1 => (k1 (w1_1))
  | x1_ :: xs1, i1, w1_1 => ((d_impl_RenameCond (x1_) (y1)).bind fun y29 => (bif room (((w1_1).map Cond.c).length + ([[D.int .i64 (y29.kind), D.str (y29.pat.rel), D.sl ((y29.pat.args).map tx), D.str (y29.left), D.str (y29.right)]]).length) 80 then (d_impl_PlainConds_L1 a0_ y1 k1 xs1 (i1 + 1) ((w1_1) ++ ([y29]))) else none))
def d_impl_PlainConds (a0_ : Rule) : Option (List Cond) := ((d_impl_PlainNames (a0_)).bind fun y1 => (d_impl_PlainConds_L1 a0_ y1 (fun (q1_0 : List Cond) => (some (q1_0))) (a0_.conds) 0 (([] : List Cond))))
theorem d_impl_PlainConds_L1w {Γ : Ctx} (hΓ : Γ.nt = 24) {N : Nat → St → Prop} {a0_ : Rule} {y1 : List Pair} {r : List Cond} {k1 : List Cond → Option (List Cond)} (hE1 : ∀ (q1_0 : List Cond), k1 q1_0 = some r → AW Tryd.prog Γ (dig (bodyOf Tryd.f26) [1, 1, 1, 1] []).1 (KQ Tryd.prog Γ N (RetQ Tryd.prog Tryd.f26 (D.fr 88 5 ((r).map Cond.c))) (dig (bodyOf Tryd.f26) [1, 1, 1, 1] []).2) ⟨[(4, D.acc 0)], [Ob.row .uq 88 5 ((q1_0).map Cond.c)]⟩) (hm1 : (a0_.conds).length ≤ maxLen) : ∀ (rest : List Cond) (i1 : Nat) (w1_1 : List Cond), (a0_.conds).drop i1 = rest → d_impl_PlainConds_L1 a0_ y1 k1 rest i1 w1_1 = some r → AWr Tryd.prog Γ (dig (bodyOf Tryd.f26) [1, 1, 1, 0, 1, 0, 0] []).1 (KQ Tryd.prog Γ N (RetQ Tryd.prog Tryd.f26 (D.fr 88 5 ((r).map Cond.c))) (dig (bodyOf Tryd.f26) [1, 1, 1, 0, 1, 0] []).2) (rest.length + 1) ⟨[(3, D.acc 0), (4, D.acc 1), (10, D.sl ((a0_.conds).map Cond.c)), (11, D.int .i64 ((((a0_.conds).map Cond.c).length : Int))), (12, D.int .i64 ((i1 : Int)))], [Ob.row .uq 100 2 ((y1).map Pair.c), Ob.row .uq 88 5 ((w1_1).map Cond.c)]⟩ := by
  intro rest
  induction rest with
  | nil =>
    intro i1 w1_1 hd1 h
    rw [d_impl_PlainConds_L1] at h
    refine AWr_succ fun N1 hN1 hS1 => ?_
    have t := AW_N (N := N) (N' := N1) (K0 := (dig (bodyOf Tryd.f26) [1, 1, 1, 0, 1, 0] []).2) (by kernel_rfl) hN1 (hE1 (w1_1) h)
    refine AW_go (n := 2000) [[some (88, 5)]] [.b false, .hl 0 [4] [1]] (.at_ (dig (bodyOf Tryd.f26) [1, 1, 1, 1] []).1 (dig (bodyOf Tryd.f26) [1, 1, 1, 1] []).2 ⟨[(4, D.acc 0)], [Ob.row .uq 88 5 ((w1_1).map Cond.c)]⟩) hΓ mix (by kernel_rfl) (ow ((ltm_false Cond.c (drop_nil hd1))) ow0) ?_
    first | exact t | (simp only [List.map_append, List.map_cons, List.map_nil, List.map_set] at t ⊢; exact t)
  | cons x1_ xs1 ih1 =>
    intro i1 w1_1 hd1 h
    rw [d_impl_PlainConds_L1] at h
    refine AWr_succ fun N1 hN1 hS1 => ?_
    obtain ⟨y29, h30, h⟩ := den_bind h
    obtain ⟨h31, h⟩ := den_ok h
    have t := ih1 (i1 + 1) ((w1_1) ++ ([y29])) (drop_cons hd1).2.2 h
    refine AW_go (n := 2000) [[some (88, 5)]] [.b true, .row (Cond.c x1_), .d (D.agg [D.int .i64 (y29.kind), D.str (y29.pat.rel), D.fr 9 1 ((y29.pat.args).map tx), D.str (y29.left), D.str (y29.right)]), .cn [3, 4, 10, 11, 12] [0, 5]] (.cont 0 ⟨[(3, D.acc 0), (4, D.acc 1), (10, D.sl ((a0_.conds).map Cond.c)), (11, D.int .i64 ((((a0_.conds).map Cond.c).length : Int))), (12, D.int .i64 (IntKind.i64.wrap (((i1 : Int)) + (1))))], [Ob.row .uq 100 2 ((y1).map Pair.c), Ob.row .uq 88 5 (((w1_1).map Cond.c) ++ ([[D.int .i64 (y29.kind), D.str (y29.pat.rel), D.sl ((y29.pat.args).map tx), D.str (y29.left), D.str (y29.right)]]))]⟩) hΓ mix (by kernel_rfl) (ow ((ltm_true Cond.c (drop_cons hd1).2.1)) (ow (map_row Cond.c 5 (drop_cons hd1).1 rfl) (ow (d_impl_RenameCond_good h30) (ow (room_ok h31) ow0)))) ?_
    refine (congrFun hS1 _).mpr ?_
    rw [i64_succ (drop_cons hd1).2.1 hm1]
    first | exact t | (simp only [List.map_append, List.map_cons, List.map_nil, List.map_set] at t ⊢; exact t)
theorem d_impl_PlainConds_good {a0_ : Rule} {r : List Cond} (h : d_impl_PlainConds a0_ = some r) : Good Tryd.prog 26 [D.agg (Rule.c a0_)] (D.fr 88 5 ((r).map Cond.c)) := by
  refine Good.of (c := bodyOf Tryd.f26) Tryd.func26 rfl (by decide) (by simp [Tryd.f26]) ?_
  intro hr Γ hΓ
  have hΓ : Γ.nt = 24 := hΓ
  rw [d_impl_PlainConds] at h
  refine (show AW Tryd.prog Γ (bodyOf Tryd.f26) (KQ Tryd.prog Γ (fun _ _ => False) (RetQ Tryd.prog Tryd.f26 (D.fr 88 5 ((r).map Cond.c))) []) _ from ?_)
  obtain ⟨y1, h2, h⟩ := den_bind h
  refine AW_go (n := 2000) [[some (88, 5)]] [.d (D.fr 100 2 ((y1).map Pair.c)), .pro 4, .cn [3, 4, 10, 11, 12] [1, 2]] (.lp (dig (bodyOf Tryd.f26) [1, 1, 1, 0, 1, 0, 0] []).1 (dig (bodyOf Tryd.f26) [1, 1, 1, 0, 1, 0] []).2 ⟨[(3, D.acc 0), (4, D.acc 1), (10, D.sl ((a0_.conds).map Cond.c)), (11, D.int .i64 ((((a0_.conds).map Cond.c).length : Int))), (12, D.int .i64 (0))], [Ob.row .uq 100 2 ((y1).map Pair.c), Ob.row .uq 88 5 (([] : List (List D)))]⟩) hΓ mix (by kernel_rfl) (ow (d_impl_PlainNames_good h2) ow0) (AW_st (by first | rfl | (simp only [List.map_append, List.map_cons, List.map_nil, List.map_set, List.map_replicate] <;> rfl)) (AW_of_r (d_impl_PlainConds_L1w hΓ (fun q1_0 h => ?_) (by have := (Rdb.sl (Rdb.agg (hr _ (List.mem_of_getElem? (i := 0) rfl)) (.sl ((a0_.conds).map Cond.c)) (by simp))).1; simpa using this) (a0_.conds) 0 (([] : List Cond)) rfl h)))
  have h := den_some h
  subst h
  exact AW_go (n := 2000) [[some (88, 5)]] [] (.ret (D.fr 88 5 ((q1_0).map Cond.c))) hΓ mix (by kernel_rfl) ow0 rfl
end Go.Cx
