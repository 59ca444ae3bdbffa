/- heapSort over such an interface value. -/
import Derived.Test.YtoeenpcilfhjbaaPFallingSrB
namespace Go.Sr
set_option linter.unusedVariables false
set_option linter.unusedSimpArgs false
open Go.Shelf Go.RowKit Go.Lib Go.Sort Go.Proofs
variable {P : Program} {ρ : Ren} {α : Type} [Inhabited α] {T : TypeId} {rv rl rs : Value} {gl gs : Nat} {enc : α → Value} {lt : α → α → Bool} {w0 : World} {blk off n : Nat}
set_option maxHeartbeats 4000000 in
set_option maxRecDepth 1000000 in
theorem heapSort_w (L : LaysGt.n34 P ρ) (E : Ev P T rv rl rs gl gs enc lt w0 blk off n) (a b : Nat) (d : Array α) (w : World)
    (hS : SW enc w0 blk off d w) (hd : d.size = n) (hab : a ≤ b) (hb : b ≤ n) :
    Calls P (ρ.f 34) #[.iface T rv, .int .i64 a, .int .i64 b] w fun e w' => e = .returned (.tuple #[]) ∧ SW enc w0 blk off (heapSort lt d a b) w' := by
  have mixed := L.mixed; have t0 := L.t0; have a0 := L.a0; have z0 := L.z0; have v0 := L.v0; have t3 := L.t3; have a3 := L.a3; have z3 := L.z3; have v3 := L.v3; have t4 := L.t4; have a4 := L.a4; have z4 := L.z4; have v4 := L.v4; have t26 := L.t26; have a26 := L.a26; have z26 := L.z26; have v26 := L.v26; have t38 := L.t38; have a38 := L.a38; have z38 := L.z38; have v38 := L.v38; have t43 := L.t43; have a43 := L.a43; have z43 := L.z43; have v43 := L.v43; have t45 := L.t45; have a45 := L.a45; have z45 := L.z45; have v45 := L.v45
  have el := E.el; have es := E.es; have hn := E.hn
  have e43 : ∀ args w, (callFunc (ρ.f 43) args).run P w = .ok (.enter (ρ.f 43) args) w := enters_of L.f43 (by kernel_rfl) rfl
  obtain ⟨h, hh⟩ : ∃ h, h = b - a := ⟨b - a, rfl⟩
  have eh : (b : Int) - (a : Int) = (h : Int) := by omega
  have es2 : ((h : Int) - 1).tdiv 2 = (((h - 1) / 2 + 1 : Nat) : Int) - 1 := by
    have := half_start (a := 0) (b := h) (Nat.zero_le h)
    simpa using this
  have hU : heapSort lt d a b = heapPop lt a h (heapBuild lt h a ((h - 1) / 2 + 1) d) := by
    rw [heapSort, hh]
  have HU : Hid _ := hU
  have hbh : a + h ≤ n := by omega
  clear hU hh
  have S0 : Aside (SW enc w0 blk off d w) := hS
  clear hS
  go_enter L.f34, BodyGt.n34_ntmps ρ
  go_wp2
  go_loopg [9] ((h - 1) / 2 + 1) (fun k s9 wr => s9 = .int .i64 ((k : Int) - 1) ∧ k ≤ (h - 1) / 2 + 1 ∧ ∃ (dk : Array α), dk.size = n ∧ Aside (SW enc w0 blk off dk wr) ∧
    Hid (heapBuild lt h a k dk = heapBuild lt h a ((h - 1) / 2 + 1) d))
  case atStart => exact ⟨by first | rfl | (congr 1; omega), Nat.le_refl _, d, hd, S0, rfl⟩
  case round =>
    clear S0
    obtain ⟨rfl, hk, dk, hds, S, HE⟩ := hrel
    cases gk with
    | zero =>
      have hB : dk = heapBuild lt h a ((h - 1) / 2 + 1) d := HE.out
      have HB : Hid _ := hB
      clear HE hk hB
      go_wp2
      go_loopg [10] h (fun k s10 wr2 => s10 = .int .i64 ((k : Int) - 1) ∧ k ≤ h ∧ ∃ (dj : Array α), dj.size = n ∧ Aside (SW enc w0 blk off dj wr2) ∧ Hid (heapPop lt a k dj = heapPop lt a h dk))
      case atStart => exact ⟨by first | rfl | (congr 1; omega), Nat.le_refl _, dk, hds, S, rfl⟩
      case round =>
        clear S
        obtain ⟨rfl, hk, dj, hdj, S, HE⟩ := hrel
        cases gk with
        | zero =>
          go_wp2
          go_end0
          refine ⟨rfl, ?_⟩
          rw [HU.out, ← HB.out, ← HE.out]
          exact S.out
        | succ k =>
          have ms := E.ms dj wr S.out
          have hs : Aside _ := E.swap0 S.out hdj (i := a) (j := a + k) (by omega) (by omega)
          have hc : Aside (∀ w1, SW enc w0 blk off (swp dj a (a + k)) w1 → ∀ x : Int, x = (k : Int) → Calls P (ρ.f 43) #[.iface T rv, .int .i64 0, .int .i64 x, .int .i64 a] w1 _) := fun w1 h1 x hx => by
            subst hx
            exact siftDown_w (ρ := ρ) { L with } E 0 k a (swp dj a (a + k)) w1 h1 (by rw [size_swp]; exact hdj) (Nat.zero_le _) (by omega)
          go_wp2_with (first
            | (go_at_fn gs; refine (hs.out _ _ (by omega) (by omega)).mono ?_; rintro e w1 ⟨rfl, hw1⟩)
            | (go_at_fn (ρ.f 43); refine (hc.out _ hw1.1 _ (by omega)).mono ?_; rintro e w2 ⟨rfl, hw2⟩))
          go_roundg k
          case measure => omega
          case rel =>
            exact ⟨by simp, by omega, _, by rw [size_siftDown lt _ _ _ _ _ (Nat.le_refl _), size_swp]; exact hdj, hw2, (show Hid _ from by rw [← HE.out]; exact rfl)⟩
    | succ k =>
      have hc : Aside (∀ x y : Int, x = (k : Int) → y = (h : Int) → Calls P (ρ.f 43) #[.iface T rv, .int .i64 x, .int .i64 y, .int .i64 a] wr _) := fun x y hx hy => by
        subst hx hy
        exact siftDown_w (ρ := ρ) { L with } E k h a dk wr S.out hds (by omega) (by omega)
      go_wp2_with (go_at_fn (ρ.f 43); refine (hc.out _ _ (by omega) (by omega)).mono ?_; rintro e w2 ⟨rfl, hw2⟩)
      go_roundg k
      case measure => omega
      case rel =>
        exact ⟨by simp, by omega, _, by rw [size_siftDown lt _ _ _ _ _ (Nat.le_refl _)]; exact hds, hw2, (show Hid _ from by rw [← HE.out]; exact rfl)⟩
#print axioms heapSort_w
end Go.Sr
