/- choosePivot over such an interface value: some place of the range; reverseRange: some permutation. -/
import Derived.Test.YtoeenpcilfhjbaaPFallingSrB
import Derived.Deep.CutBlock
import Derived.Deep.DeepCutAuto
namespace Go.Sr
set_option linter.unusedVariables false
set_option linter.unusedSimpArgs false
open Go.Shelf Go.RowKit Go.Lib Go.Sort Go.Proofs
variable {P : Program} {ρ : Ren} {α : Type} [Inhabited α] {T : TypeId} {rv rl rs : Value} {gl gs : Nat} {enc : α → Value} {lt : α → α → Bool} {w0 : World} {blk off n : Nat}
/-- a counter in a block that is new -/
def Cnt (w0 : World) (c : Nat) (W : World) : Prop := w0.heap.size ≤ c ∧ W.frozen? ⟨c, 0, none⟩ = false ∧ ∃ s : Int, W.cell? ⟨c, 0, none⟩ = some (.int .i64 s)
theorem Cnt.drewN {c : Nat} {W : World} (h : Cnt w0 c W) (q : Nat) : Cnt w0 c (W.drewN q) := h
theorem Cnt.old {c : Nat} {W : World} (h : Cnt w0 c W) : c < W.heap.size := by
  obtain ⟨_, _, s, h3⟩ := h
  cases hc : W.heap[c]? with
  | none => simp [World.cell?, hc] at h3
  | some o => exact (Array.getElem?_eq_some_iff.1 hc).1
theorem Cnt.kp {c : Nat} {W W' : World} (h : Cnt w0 c W) (k : Kp W W') : Cnt w0 c W' := by
  have hc := h.old
  obtain ⟨h1, h2, s, h3⟩ := h
  exact ⟨h1, (k.frozen ⟨c, 0, none⟩ hc).trans h2, s, (k.cell ⟨c, 0, none⟩ hc).trans h3⟩
theorem Cnt.set {c : Nat} {W : World} (h : Cnt w0 c W) (s : Int) : Cnt w0 c (W.setCell ⟨c, 0, none⟩ (.int .i64 s)) := by
  obtain ⟨h1, h2, s0, h3⟩ := h
  exact ⟨h1, by simpa using h2, s, World.cell?_setCell_same _ _ _ h3⟩
set_option maxHeartbeats 2000000 in
set_option maxRecDepth 100000 in
theorem order2_w (L : LaysGt.n50 P ρ) (E : Ev P T rv rl rs gl gs enc lt w0 blk off n) (lo hi a b c : Nat) (d : Array α) (w : World)
    (hS : SW enc w0 blk off d w) (hC : Cnt w0 c w) (hd : d.size = n) (hi' : hi ≤ n) (ha : lo ≤ a ∧ a < hi) (hb : lo ≤ b ∧ b < hi) :
    Calls P (ρ.f 50) #[.iface T rv, .int .i64 a, .int .i64 b, .pointer (some ⟨c, 0, none⟩)] w fun e w' => ∃ x y : Nat, e = .returned (.tuple #[.int .i64 x, .int .i64 y]) ∧ (lo ≤ x ∧ x < hi) ∧ (lo ≤ y ∧ y < hi) ∧ SW enc w0 blk off d w' ∧ Cnt w0 c w' := by
  have mixed := L.mixed; have t0 := L.t0; have a0 := L.a0; have z0 := L.z0; have v0 := L.v0; have t3 := L.t3; have a3 := L.a3; have z3 := L.z3; have v3 := L.v3; have t4 := L.t4; have a4 := L.a4; have z4 := L.z4; have v4 := L.v4; have t26 := L.t26; have a26 := L.a26; have z26 := L.z26; have v26 := L.v26; have t38 := L.t38; have a38 := L.a38; have z38 := L.z38; have v38 := L.v38; have t43 := L.t43; have a43 := L.a43; have z43 := L.z43; have v43 := L.v43; have t45 := L.t45; have a45 := L.a45; have z45 := L.z45; have v45 := L.v45; have t71 := L.t71; have a71 := L.a71; have z71 := L.z71; have v71 := L.v71
  have el := E.el; have es := E.es; have hn := E.hn
  have ml := E.ml d w hS
  have S : Aside (SW enc w0 blk off d w) := hS
  have C : Aside (Cnt w0 c w) := hC
  have hcw := hC.old
  obtain ⟨h1, h2, s, h3⟩ := hC
  have hA : Aside ((lo ≤ a ∧ a < hi) ∧ (lo ≤ b ∧ b < hi)) := ⟨ha, hb⟩
  cases hv : lt d[b]! d[a]!
  all_goals
    have hl : Aside _ := E.less0 hS hd (i := b) (j := a) (by omega) (by omega) hv
    clear hS ha hb hv
    go_enter L.f50, BodyGt.n50_ntmps ρ
    go_wp2_with (go_at_fn gl; refine (hl.out _ _ rfl rfl).mono ?_; rintro e w' ⟨rfl, hq, kq⟩; have S' : Aside (SW enc w0 blk off d w') := hq; have C' : Aside (Cnt w0 c w') := C.out.kp kq; have h3' := (kq.cell ⟨c, 0, none⟩ hcw).trans h3; have h2' := (kq.frozen ⟨c, 0, none⟩ hcw).trans h2; clear hq kq)
    go_ret2
  · exact ⟨a, b, rfl, hA.out.1, hA.out.2, S'.out, C'.out⟩
  · exact ⟨b, a, rfl, hA.out.2, hA.out.1, S'.out.setCell_new _ _ _ h1, C'.out.set _⟩
set_option maxHeartbeats 2000000 in
set_option maxRecDepth 100000 in
theorem median_w (L : LaysGt.n47 P ρ) (E : Ev P T rv rl rs gl gs enc lt w0 blk off n) (lo hi a b m c : Nat) (d : Array α) (w : World)
    (hS : SW enc w0 blk off d w) (hC : Cnt w0 c w) (hd : d.size = n) (hi' : hi ≤ n) (ha : lo ≤ a ∧ a < hi) (hb : lo ≤ b ∧ b < hi) (hm : lo ≤ m ∧ m < hi) :
    Calls P (ρ.f 47) #[.iface T rv, .int .i64 a, .int .i64 b, .int .i64 m, .pointer (some ⟨c, 0, none⟩)] w fun e w' => ∃ x : Nat, e = .returned (.int .i64 x) ∧ (lo ≤ x ∧ x < hi) ∧ SW enc w0 blk off d w' ∧ Cnt w0 c w' := by
  have mixed := L.mixed; have t0 := L.t0; have a0 := L.a0; have z0 := L.z0; have v0 := L.v0; have t3 := L.t3; have a3 := L.a3; have z3 := L.z3; have v3 := L.v3; have t4 := L.t4; have a4 := L.a4; have z4 := L.z4; have v4 := L.v4; have t26 := L.t26; have a26 := L.a26; have z26 := L.z26; have v26 := L.v26; have t38 := L.t38; have a38 := L.a38; have z38 := L.z38; have v38 := L.v38; have t43 := L.t43; have a43 := L.a43; have z43 := L.z43; have v43 := L.v43; have t45 := L.t45; have a45 := L.a45; have z45 := L.z45; have v45 := L.v45; have t71 := L.t71; have a71 := L.a71; have z71 := L.z71; have v71 := L.v71; have t74 := L.t74; have a74 := L.a74; have z74 := L.z74; have v74 := L.v74
  have e50 : ∀ args w, (callFunc (ρ.f 50) args).run P w = .ok (.enter (ρ.f 50) args) w := enters_of L.f50 (by kernel_rfl) rfl
  have hc : Aside (∀ (W : World) (x y : Nat), SW enc w0 blk off d W → Cnt w0 c W → (lo ≤ x ∧ x < hi) → (lo ≤ y ∧ y < hi) → Calls P (ρ.f 50) #[.iface T rv, .int .i64 x, .int .i64 y, .pointer (some ⟨c, 0, none⟩)] W _) := fun W x y h1 h2 h3 h4 => order2_w (ρ := ρ) { L with } E lo hi x y c d W h1 h2 hd hi' h3 h4
  have A0 : Aside (SW enc w0 blk off d w ∧ Cnt w0 c w ∧ (lo ≤ a ∧ a < hi) ∧ (lo ≤ b ∧ b < hi) ∧ (lo ≤ m ∧ m < hi)) := ⟨hS, hC, ha, hb, hm⟩
  clear hS hC ha hb hm
  go_enter L.f47, BodyGt.n47_ntmps ρ
  go_wp2_with (first
    | (go_at_fn (ρ.f 50); refine (hc.out _ _ _ A2.out.1 A2.out.2.1 A2.out.2.2.1 A2.out.2.2.2).mono ?_; rintro e w3 ⟨x3, y3, rfl, h31, h32, h33, h34⟩)
    | (go_at_fn (ρ.f 50); refine (hc.out _ _ _ A1.out.1 A1.out.2.1 A1.out.2.2.2.1 A1.out.2.2.2.2).mono ?_; rintro e w2 ⟨x2, y2, rfl, h21, h22, h23, h24⟩; have A2 : Aside (SW enc w0 blk off d w2 ∧ Cnt w0 c w2 ∧ (lo ≤ x1 ∧ x1 < hi) ∧ (lo ≤ x2 ∧ x2 < hi)) := ⟨h23, h24, A1.out.2.2.1, h21⟩; clear h21 h22 h23 h24)
    | (go_at_fn (ρ.f 50); refine (hc.out _ _ _ A0.out.1 A0.out.2.1 A0.out.2.2.1 A0.out.2.2.2.1).mono ?_; rintro e w1 ⟨x1, y1, rfl, h11, h12, h13, h14⟩; have A1 : Aside (SW enc w0 blk off d w1 ∧ Cnt w0 c w1 ∧ (lo ≤ x1 ∧ x1 < hi) ∧ (lo ≤ y1 ∧ y1 < hi) ∧ (lo ≤ m ∧ m < hi)) := ⟨h13, h14, h11, h12, A0.out.2.2.2.2⟩; clear h11 h12 h13 h14))
  go_ret
  exact ⟨y3, rfl, h32, h33, h34⟩
set_option maxHeartbeats 2000000 in
set_option maxRecDepth 100000 in
theorem medianAdjacent_w (L : LaysGt.n46 P ρ) (E : Ev P T rv rl rs gl gs enc lt w0 blk off n) (lo hi a c : Nat) (d : Array α) (w : World)
    (hS : SW enc w0 blk off d w) (hC : Cnt w0 c w) (hd : d.size = n) (hi' : hi ≤ n) (ha : lo + 1 ≤ a ∧ a + 1 < hi) :
    Calls P (ρ.f 46) #[.iface T rv, .int .i64 a, .pointer (some ⟨c, 0, none⟩)] w fun e w' => ∃ x : Nat, e = .returned (.int .i64 x) ∧ (lo ≤ x ∧ x < hi) ∧ SW enc w0 blk off d w' ∧ Cnt w0 c w' := by
  have mixed := L.mixed; have t0 := L.t0; have a0 := L.a0; have z0 := L.z0; have v0 := L.v0; have t3 := L.t3; have a3 := L.a3; have z3 := L.z3; have v3 := L.v3; have t4 := L.t4; have a4 := L.a4; have z4 := L.z4; have v4 := L.v4; have t26 := L.t26; have a26 := L.a26; have z26 := L.z26; have v26 := L.v26; have t38 := L.t38; have a38 := L.a38; have z38 := L.z38; have v38 := L.v38; have t43 := L.t43; have a43 := L.a43; have z43 := L.z43; have v43 := L.v43; have t45 := L.t45; have a45 := L.a45; have z45 := L.z45; have v45 := L.v45; have t71 := L.t71; have a71 := L.a71; have z71 := L.z71; have v71 := L.v71; have t74 := L.t74; have a74 := L.a74; have z74 := L.z74; have v74 := L.v74
  have hn := E.hn
  have e47 : ∀ args w, (callFunc (ρ.f 47) args).run P w = .ok (.enter (ρ.f 47) args) w := enters_of L.f47 (by kernel_rfl) rfl
  have hc := median_w (ρ := ρ) { L with } E lo hi (a - 1) a (a + 1) c d w hS hC hd hi' (by omega) (by omega) (by omega)
  rw [show ((a - 1 : Nat) : Int) = (a : Int) - 1 by omega, show ((a + 1 : Nat) : Int) = (a : Int) + 1 by omega] at hc
  clear hS hC
  go_enter L.f46, BodyGt.n46_ntmps ρ
  go_wp2_with (go_at_fn (ρ.f 47); refine hc.mono ?_; rintro e w1 ⟨x, rfl, h1, h2, h3⟩)
  go_ret
  exact ⟨x, rfl, h1, h2, h3⟩
set_option maxHeartbeats 2000000 in
set_option maxRecDepth 100000 in
theorem reverseRange_w (L : LaysGt.n37 P ρ) (E : Ev P T rv rl rs gl gs enc lt w0 blk off n) (a b : Nat) (d : Array α) (w : World)
    (hS : SW enc w0 blk off d w) (hd : d.size = n) (hab : a < b) (hb : b ≤ n) :
    Calls P (ρ.f 37) #[.iface T rv, .int .i64 a, .int .i64 b] w fun e w' => e = .returned (.tuple #[]) ∧ ∃ d', PermIn a b d d' ∧ SW enc w0 blk off d' w' := by
  have mixed := L.mixed; have t0 := L.t0; have a0 := L.a0; have z0 := L.z0; have v0 := L.v0; have t3 := L.t3; have a3 := L.a3; have z3 := L.z3; have v3 := L.v3; have t4 := L.t4; have a4 := L.a4; have z4 := L.z4; have v4 := L.v4; have t26 := L.t26; have a26 := L.a26; have z26 := L.z26; have v26 := L.v26; have t38 := L.t38; have a38 := L.a38; have z38 := L.z38; have v38 := L.v38; have t43 := L.t43; have a43 := L.a43; have z43 := L.z43; have v43 := L.v43; have t45 := L.t45; have a45 := L.a45; have z45 := L.z45; have v45 := L.v45
  have el := E.el; have es := E.es; have hn := E.hn
  have S0 : Aside (SW enc w0 blk off d w) := hS
  clear hS
  go_enter L.f37, BodyGt.n37_ntmps ρ
  go_wp2
  go_loopg [6, 7] b (fun k s6 s7 wr => ∃ (i j : Nat) (dk : Array α), s6 = .int .i64 i ∧ s7 = .int .i64 j ∧ a ≤ i ∧ i ≤ j + 1 ∧ j < b ∧ j + 1 - i ≤ k ∧ Aside (PermIn a b d dk) ∧ Aside (SW enc w0 blk off dk wr))
  case atStart => exact ⟨a, b - 1, d, rfl, by go_num, Nat.le_refl _, by omega, by omega, by omega, permIn_refl _ _ _, S0⟩
  case round =>
    clear S0
    obtain ⟨i, j, dk, rfl, rfl, hai, hij, hjb, hk, HP, S⟩ := hrel
    by_cases hlt : i < j
    · have hds : dk.size = n := HP.out.1.trans hd
      have ms := E.ms dk wr S.out
      have hs : Aside _ := E.swap0 S.out hds (i := i) (j := j) (by omega) (by omega)
      clear hds
      go_wp2_with (go_at_fn gs; refine (hs.out _ _ rfl rfl).mono ?_; rintro e w1 ⟨rfl, hw1⟩)
      go_roundg (j - i - 1)
      case measure => omega
      case rel => exact ⟨i + 1, j - 1, _, by go_num, by go_num, by omega, by omega, by omega, by omega, permIn_trans _ _ _ _ _ HP.out (swp_permIn _ _ _ _ _ (by omega) (by omega) (by omega) (by omega) (by have := HP.out.1; omega)), hw1.1⟩
    · go_wp2
      go_end0
      exact ⟨rfl, dk, HP.out, S.out⟩
#print axioms reverseRange_w
end Go.Sr
