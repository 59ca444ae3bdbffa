/- choosePivot and breakPatterns over such an interface value: some place of the range, some permutation of it. -/
import Derived.Test.YtoeenpcilfhjbaaPFallingSrG
import Derived.Shelf.SlSortFunc.Xorshift
import Derived.Shelf.GgSortMore.Bridge
namespace Go.Sr
set_option linter.unusedVariables false
set_option linter.unusedSimpArgs false
open Go.Shelf Go.RowKit Go.Lib Go.Sort Go.Proofs
variable {P : Program} {ρ : Ren} {α : Type} [Inhabited α] {T : TypeId} {rv rl rs : Value} {gl gs : Nat} {enc : α → Value} {lt : α → α → Bool} {w0 : World} {blk off n : Nat}
set_option maxHeartbeats 2000000 in
set_option maxRecDepth 100000 in
theorem choosePivot_w (L : LaysGt.n36 P ρ) (E : Ev P T rv rl rs gl gs enc lt w0 blk off n) (a b : Nat) (d : Array α) (w : World)
    (hS : SW enc w0 blk off d w) (hd : d.size = n) (hab : a < b) (hb : b ≤ n) :
    Calls P (ρ.f 36) #[.iface T rv, .int .i64 a, .int .i64 b] w fun e w' => ∃ (p : Nat) (h : Int), e = .returned (.tuple #[.int .i64 p, .int .i64 h]) ∧ (a ≤ p ∧ p < b) ∧ SW enc w0 blk off d w' := by
  have mixed := L.mixed; have t0 := L.t0; have a0 := L.a0; have z0 := L.z0; have v0 := L.v0; have t3 := L.t3; have a3 := L.a3; have z3 := L.z3; have v3 := L.v3; have t4 := L.t4; have a4 := L.a4; have z4 := L.z4; have v4 := L.v4; have t26 := L.t26; have a26 := L.a26; have z26 := L.z26; have v26 := L.v26; have t38 := L.t38; have a38 := L.a38; have z38 := L.z38; have v38 := L.v38; have t43 := L.t43; have a43 := L.a43; have z43 := L.z43; have v43 := L.v43; have t45 := L.t45; have a45 := L.a45; have z45 := L.z45; have v45 := L.v45; have t60 := L.t60; have a60 := L.a60; have z60 := L.z60; have v60 := L.v60; have t71 := L.t71; have a71 := L.a71; have z71 := L.z71; have v71 := L.v71; have t74 := L.t74; have a74 := L.a74; have z74 := L.z74; have v74 := L.v74
  have hn := E.hn
  have e46 : ∀ args w, (callFunc (ρ.f 46) args).run P w = .ok (.enter (ρ.f 46) args) w := enters_of L.f46 (by kernel_rfl) rfl
  have e47 : ∀ args w, (callFunc (ρ.f 47) args).run P w = .ok (.enter (ρ.f 47) args) w := enters_of L.f47 (by kernel_rfl) rfl
  have hA : Aside (∀ (W : World) (x : Nat), SW enc w0 blk off d W → Cnt w0 w.heap.size W → (a + 1 ≤ x ∧ x + 1 < b) → Calls P (ρ.f 46) #[.iface T rv, .int .i64 x, .pointer (some ⟨w.heap.size, 0, none⟩)] W _) := fun W x h1 h2 h3 => medianAdjacent_w (ρ := ρ) { L with } E a b x w.heap.size d W h1 h2 hd hb h3
  have hM : Aside (∀ (W : World) (x y z : Nat), SW enc w0 blk off d W → Cnt w0 w.heap.size W → (a ≤ x ∧ x < b) → (a ≤ y ∧ y < b) → (a ≤ z ∧ z < b) → Calls P (ρ.f 47) #[.iface T rv, .int .i64 x, .int .i64 y, .int .i64 z, .pointer (some ⟨w.heap.size, 0, none⟩)] W _) := fun W x y z h1 h2 h3 h4 h5 => median_w (ρ := ρ) { L with } E a b x y z w.heap.size d W h1 h2 hd hb h3 h4 h5
  obtain ⟨h, hh⟩ : ∃ h, h = b - a := ⟨_, rfl⟩
  obtain ⟨I, hI⟩ : ∃ I, I = a + h / 4 := ⟨_, rfl⟩
  obtain ⟨J, hJ⟩ : ∃ J, J = a + h / 4 * 2 := ⟨_, rfl⟩
  obtain ⟨K, hK⟩ : ∃ K, K = a + h / 4 * 3 := ⟨_, rfl⟩
  have eh : (b : Int) - (a : Int) = (h : Int) := by omega
  have eI : (a : Int) + (h : Int) / 4 = (I : Int) := by omega
  have eJ : (a : Int) + (h : Int) / 4 * 2 = (J : Int) := by omega
  have eK : (a : Int) + (h : Int) / 4 * 3 = (K : Int) := by omega
  have B8 : Aside (8 ≤ h → (a + 1 ≤ I ∧ I + 1 < b) ∧ (a + 1 ≤ J ∧ J + 1 < b) ∧ (a + 1 ≤ K ∧ K + 1 < b)) := fun _ => ⟨by omega, by omega, by omega⟩
  have BJ : Aside (a ≤ J ∧ J < b) := ⟨by omega, by omega⟩
  have S0 : Aside (SW enc w0 blk off d (w.alloc (.cells #[.int .i64 0] (ρ.t 3)))) := hS.alloc _
  have C0 : Aside (Cnt w0 w.heap.size (w.alloc (.cells #[.int .i64 0] (ρ.t 3)))) := ⟨hS.le, World.frozen?_alloc_at _ _ _ _ rfl, 0, by rw [World.cell?_alloc_at _ _ _ _ rfl]; rfl⟩
  clear hS hh hI hJ hK
  go_enter L.f36, BodyGt.n36_ntmps ρ
  go_upto_if 32 with fail
  go_cut [11] (fun s11 wx => ∃ p : Nat, s11 = .int .i64 p ∧ Aside ((a ≤ p ∧ p < b) ∧ SW enc w0 blk off d wx ∧ Cnt w0 w.heap.size wx))
  case first =>
    by_cases h8 : 8 ≤ h
    · have h8z : (8 : Int) ≤ (h : Int) := by omega
      have B := B8.out h8
      have BB : Aside _ := B
      clear B8 B h8
      by_cases h50 : 50 ≤ h
      · have h50z : (50 : Int) ≤ (h : Int) := by omega
        clear h50
        go_wp2_with (first
          | (go_at_fn (ρ.f 47); refine (hM.out _ _ _ _ A3.out.1 A3.out.2.1 A3.out.2.2.1 A3.out.2.2.2.1 A3.out.2.2.2.2).mono ?_; rintro e w4 ⟨x4, rfl, h4⟩)
          | (go_at_fn (ρ.f 46); refine (hA.out _ _ A2.out.1 A2.out.2.1 BB.out.2.2).mono ?_; rintro e w3 ⟨x3, rfl, h31, h32, h33⟩; have A3 : Aside (SW enc w0 blk off d w3 ∧ Cnt w0 w.heap.size w3 ∧ (a ≤ x1 ∧ x1 < b) ∧ (a ≤ x2 ∧ x2 < b) ∧ (a ≤ x3 ∧ x3 < b)) := ⟨h32, h33, A2.out.2.2.1, A2.out.2.2.2, h31⟩; clear h31 h32 h33)
          | (go_at_fn (ρ.f 46); refine (hA.out _ _ A1.out.1 A1.out.2.1 BB.out.2.1).mono ?_; rintro e w2 ⟨x2, rfl, h21, h22, h23⟩; have A2 : Aside (SW enc w0 blk off d w2 ∧ Cnt w0 w.heap.size w2 ∧ (a ≤ x1 ∧ x1 < b) ∧ (a ≤ x2 ∧ x2 < b)) := ⟨h22, h23, A1.out.2.2, h21⟩; clear h21 h22 h23)
          | (go_at_fn (ρ.f 46); refine (hA.out _ _ S0.out C0.out BB.out.1).mono ?_; rintro e w1 ⟨x1, rfl, h11, h12, h13⟩; have A1 : Aside (SW enc w0 blk off d w1 ∧ Cnt w0 w.heap.size w1 ∧ (a ≤ x1 ∧ x1 < b)) := ⟨h12, h13, h11⟩; clear h11 h12 h13))
        go_meet
        case rel => exact ⟨x4, rfl, h4⟩
      · have h50z : ¬ (50 : Int) ≤ (h : Int) := by omega
        clear h50
        have B3 : Aside ((a ≤ I ∧ I < b) ∧ (a ≤ J ∧ J < b) ∧ (a ≤ K ∧ K < b)) := by
          obtain ⟨⟨_, _⟩, ⟨_, _⟩, ⟨_, _⟩⟩ := BB.out
          exact ⟨⟨by omega, by omega⟩, ⟨by omega, by omega⟩, ⟨by omega, by omega⟩⟩
        go_wp2_with (go_at_fn (ρ.f 47); refine (hM.out _ _ _ _ S0.out C0.out B3.out.1 B3.out.2.1 B3.out.2.2).mono ?_; rintro e w4 ⟨x4, rfl, h4⟩)
        go_meet
        case rel => exact ⟨x4, rfl, h4⟩
    · have h8z : ¬ (8 : Int) ≤ (h : Int) := by omega
      go_wp2_with fail
      go_meet
      case rel => exact ⟨J, rfl, BJ.out, S0.out, C0.out⟩
  case rest =>
    obtain ⟨p, rfl, R⟩ := hcut
    obtain ⟨_, fz, s, cs⟩ := R.out.2.2
    go_wp2_with fail
    all_goals
      go_ret2
      exact ⟨p, _, rfl, R.out.1, R.out.2.1⟩
#print axioms choosePivot_w
end Go.Sr
