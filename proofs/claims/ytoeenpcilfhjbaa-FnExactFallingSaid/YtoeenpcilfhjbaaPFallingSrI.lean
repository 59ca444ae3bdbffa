/- breakPatterns over such an interface value: some permutation of the range. -/
import Derived.Test.YtoeenpcilfhjbaaPFallingSrG
import Derived.Shelf.SlSortFunc.Xorshift
import Derived.Shelf.GgSortMore.Bridge
import Derived.Sort.LotD1
namespace Go.Sr
set_option linter.unusedVariables false
set_option linter.unusedSimpArgs false
open Go.Shelf Go.RowKit Go.Lib Go.Sort Go.Proofs
variable {P : Program} {ρ : Ren} {α : Type} [Inhabited α] {T : TypeId} {rv rl rs : Value} {gl gs : Nat} {enc : α → Value} {lt : α → α → Bool} {w0 : World} {blk off n : Nat}
/-- the state of the generator, in a block that is new -/
def Rnd (w0 : World) (c R : Nat) (W : World) : Prop := w0.heap.size ≤ c ∧ W.frozen? ⟨c, 0, none⟩ = false ∧ R < 18446744073709551616 ∧ W.cell? ⟨c, 0, none⟩ = some (.int .u64 (R : Int))
set_option maxHeartbeats 4000000 in
set_option maxRecDepth 100000 in
theorem breakPatterns_w (L : LaysGt.n35 P ρ) (E : Ev P T rv rl rs gl gs enc lt w0 blk off n) (a b : Nat) (d : Array α) (w : World)
    (hS : SW enc w0 blk off d w) (hd : d.size = n) (hab : a < b) (hb : b ≤ n) :
    Calls P (ρ.f 35) #[.iface T rv, .int .i64 a, .int .i64 b] w fun e w' => e = .returned (.tuple #[]) ∧ ∃ d', PermIn a b d d' ∧ SW enc w0 blk off d' w' := by
  have mixed := L.mixed; have t0 := L.t0; have a0 := L.a0; have z0 := L.z0; have v0 := L.v0; have t3 := L.t3; have a3 := L.a3; have z3 := L.z3; have v3 := L.v3; have t4 := L.t4; have a4 := L.a4; have z4 := L.z4; have v4 := L.v4; have t26 := L.t26; have a26 := L.a26; have z26 := L.z26; have v26 := L.v26; have t38 := L.t38; have a38 := L.a38; have z38 := L.z38; have v38 := L.v38; have t43 := L.t43; have a43 := L.a43; have z43 := L.z43; have v43 := L.v43; have t45 := L.t45; have a45 := L.a45; have z45 := L.z45; have v45 := L.v45; have t5 := L.t5; have a5 := L.a5; have z5 := L.z5; have v5 := L.v5; have t9 := L.t9; have a9 := L.a9; have z9 := L.z9; have v9 := L.v9; have t47 := L.t47; have a47 := L.a47; have z47 := L.z47; have v47 := L.v47; have t56 := L.t56; have a56 := L.a56; have z56 := L.z56; have v56 := L.v56; have t58 := L.t58; have a58 := L.a58; have z58 := L.z58; have v58 := L.v58; have t67 := L.t67; have a67 := L.a67; have z67 := L.z67; have v67 := L.v67; have t73 := L.t73; have a73 := L.a73; have z73 := L.z73; have v73 := L.v73
  have es := E.es; have hn := E.hn
  have e44 : ∀ args w, (callFunc (ρ.f 44) args).run P w = .ok (.enter (ρ.f 44) args) w := enters_of L.f44 (by kernel_rfl) rfl
  have e45 : ∀ args w, (callFunc (ρ.f 45) args).run P w = .ok (.enter (ρ.f 45) args) w := enters_of L.f45 (by kernel_rfl) rfl
  obtain ⟨h, hh⟩ : ∃ h, h = b - a := ⟨_, rfl⟩
  have eh : (b : Int) - (a : Int) = (h : Int) := by omega
  by_cases h8 : 8 ≤ h
  · have h8z : (8 : Int) ≤ (h : Int) := by omega
    obtain ⟨M, hM⟩ : ∃ M : Nat, M = 1 <<< bitsLen h := ⟨_, rfl⟩
    have hM1 : 1 ≤ M := by rw [hM, Nat.one_shiftLeft]; exact Nat.two_pow_pos _
    have hM2 : M ≤ 2 * h := by rw [hM, Nat.one_shiftLeft]; exact two_pow_bitsLen_le (by omega)
    have hNP : Aside (∀ W, Calls P (ρ.f 44) #[.int .i64 (h : Int)] W fun e w' => e = .returned (.int .u64 (M : Int)) ∧ w' = W) := by rw [hM]; exact fun W => Any.nextPowerOfTwo (LaysGt.n44.elder (P := P) (ρ := ρ) { L with }) h (by omega) W
    obtain ⟨J, hJ⟩ : ∃ J, J = a + h / 4 * 2 := ⟨_, rfl⟩
    have eJ : (a : Int) + (h : Int) / 4 * 2 = (J : Int) := by omega
    have bJ1 : a + 4 ≤ J := by omega
    have bJ2 : J + 1 < b := by omega
    have hab2 : b = a + h := by omega
    have HB : Hid (b = a + h) := hab2
    have hne : blk < w0.heap.size := E.hb
    have hle := hS.le
    have S0 : Aside (SW enc w0 blk off d w) := hS
    clear hS hh hJ hM h8 hab2
    go_enter L.f35, BodyGt.n35_ntmps ρ
    go_wp2_with (go_at_fn (ρ.f 44); refine (hNP.out _).mono ?_; rintro e w' ⟨rfl, rfl⟩)
    go_loopg [9] 3 (fun k s9 wr => ∃ (x R : Nat) (dk : Array α), s9 = .int .i64 x ∧ a ≤ x ∧ x ≤ J + 2 ∧ J + 2 - x ≤ k ∧ Aside (PermIn a b d dk) ∧ Aside (SW enc w0 blk off dk wr) ∧ Aside (Rnd w0 w.heap.size R wr))
    case atStart =>
      refine ⟨J - 1, h, d, by go_num, by omega, by omega, by omega, permIn_refl _ _ _, S0.out.alloc _, hle, ?_, by omega, ?_⟩
      · simp
      · simp
    case round =>
      clear S0
      obtain ⟨x, R, dk, rfl, hx1, hx2, hk, HP, S, HR⟩ := hrel
      by_cases hxJ : x ≤ J + 1
      · have hds : dk.size = n := HP.out.1.trans hd
        obtain ⟨_, fz, hR, cz⟩ := HR.out
        have hz : (x : Int) ≤ (J : Int) + 1 := by omega
        obtain ⟨R', hR'⟩ : ∃ R' : Nat, R' = xorNextN R := ⟨_, rfl⟩
        have lR' : R' < 18446744073709551616 := by rw [hR']; exact xorNextN_lt R hR
        have hNext : Calls P (ρ.f 45) #[.pointer (some ⟨w.heap.size, 0, none⟩)] wr fun e w' => e = .returned (.int .u64 (R' : Int)) ∧ SW enc w0 blk off dk w' ∧ Rnd w0 w.heap.size R' w' := by
          have h := Any.xorshift_Next (LaysGt.n45.elder (P := P) (ρ := ρ) { L with }) w.heap.size 0 R hR wr cz fz
          rw [← hR'] at h
          refine Calls.mono h ?_
          rintro e w' ⟨rfl, rfl⟩
          exact ⟨rfl, (S.out.setCell_new _ _ _ hle).drewN 3, hle, by rw [World.frozen?_drewN]; simpa using fz, lR', by rw [World.cell?_drewN]; exact World.cell?_setCell_same _ _ _ cz⟩
        have HN : Aside _ := hNext
        obtain ⟨O, hO⟩ : ∃ O : Nat, O = R' &&& (M - 1) := ⟨_, rfl⟩
        have lO : O ≤ M - 1 := by rw [hO]; exact Nat.and_le_right
        have eAnd : bits .and .u64 (R' : Int) ((M : Int) - 1) = (O : Int) := by
          rw [show ((M : Int) - 1) = ((M - 1 : Nat) : Int) by omega, bits_and_u64_nat _ _ lR' (by omega), hO]
        obtain ⟨y, hy⟩ : ∃ y : Nat, y = if h ≤ O then O - h else O := ⟨_, rfl⟩
        have ly : y < h := by rw [hy]; split <;> omega
        have hs : Aside (∀ W, SW enc w0 blk off dk W → Rnd w0 w.heap.size R' W → ∀ z : Int, z = (a : Int) + (y : Int) → Calls P gs #[rs, .int .i64 (x : Int), .int .i64 z] W fun e w' => e = .returned (.tuple #[]) ∧ SW enc w0 blk off (swp dk x (a + y)) w' ∧ Rnd w0 w.heap.size R' w') := fun W h1 h2 z hz => by
          have hb' := HB.out
          refine (E.swap0 h1 hds (i := x) (j := a + y) (by omega) (by omega) (x : Int) z rfl (by omega)).mono ?_
          rintro e w' ⟨rfl, h3, h4⟩
          have ne : (⟨w.heap.size, 0, none⟩ : Addr).block ≠ blk := by show w.heap.size ≠ blk; omega
          exact ⟨rfl, h3, h2.1, (h4.frozen _ ne).trans h2.2.1, h2.2.2.1, (h4.cell _ ne).trans h2.2.2.2⟩
        have hP2 : Aside (PermIn a b d (swp dk x (a + y))) := by
          have hb' := HB.out
          exact permIn_trans _ _ _ _ _ HP.out (swp_permIn _ _ _ _ _ (by omega) (by omega) (by omega) (by omega) (by omega))
        clear hNext hO hR' hR fz cz
        by_cases hLO : h ≤ O
        · have hLOz : (h : Int) ≤ (O : Int) := by omega
          have hy2 : (O : Int) - (h : Int) = (y : Int) := by rw [hy, if_pos hLO]; omega
          clear hy hLO
          go_wp2_with (first
            | (go_at_fn (ρ.f 45); refine Calls.mono HN.out ?_; rintro e w1 ⟨rfl, h1, h2⟩; have A1 : Aside (SW enc w0 blk off dk w1 ∧ Rnd w0 w.heap.size R' w1) := ⟨h1, h2⟩; have ms := E.ms dk w1 h1; clear h1 h2)
            | (go_at_fn gs; refine (hs.out _ A1.out.1 A1.out.2 _ (by omega)).mono ?_; rintro e w2 ⟨rfl, h3, h4⟩))
          go_roundg (J + 1 - x)
          case measure => omega
          case rel => exact ⟨x + 1, R', _, by go_num, by omega, by omega, by omega, hP2, h3, h4⟩
        · have hLOz : ¬ (h : Int) ≤ (O : Int) := by omega
          have hy2 : (O : Int) = (y : Int) := by rw [hy, if_neg hLO]
          have HY : Hid ((O : Int) = (y : Int)) := hy2
          clear hy hLO hy2
          go_wp2_with (first
            | (go_at_fn (ρ.f 45); refine Calls.mono HN.out ?_; rintro e w1 ⟨rfl, h1, h2⟩; have A1 : Aside (SW enc w0 blk off dk w1 ∧ Rnd w0 w.heap.size R' w1) := ⟨h1, h2⟩; have ms := E.ms dk w1 h1; clear h1 h2)
            | (go_at_fn gs; refine (hs.out _ A1.out.1 A1.out.2 _ (by have := HY.out; omega)).mono ?_; rintro e w2 ⟨rfl, h3, h4⟩))
          go_roundg (J + 1 - x)
          case measure => omega
          case rel => exact ⟨x + 1, R', _, by go_num, by omega, by omega, by omega, hP2, h3, h4⟩
      · have hz : ¬ (x : Int) ≤ (J : Int) + 1 := by omega
        go_wp2
        go_end0
        exact ⟨rfl, dk, HP.out, S.out⟩
  · have h8z : ¬ (8 : Int) ≤ (h : Int) := by omega
    have S0 : Aside (SW enc w0 blk off d w) := hS
    clear hS hh
    go_enter L.f35, BodyGt.n35_ntmps ρ
    go_wp2
    go_end0
    exact ⟨rfl, d, permIn_refl _ _ _, S0.out⟩
#print axioms breakPatterns_w
end Go.Sr
