/- siftDown and heapSort over such an interface value. -/
import Derived.Test.YtoeenpcilfhjbaaPFallingSrA
import Derived.Sort.WalkB3
namespace Go.Sr
set_option linter.unusedVariables false
set_option linter.unusedSimpArgs false
open Go.Shelf Go.RowKit Go.Lib Go.Sort Go.Proofs
variable {P : Program} {ρ : Ren} {α : Type} [Inhabited α] {T : TypeId} {rv rl rs : Value} {gl gs : Nat} {enc : α → Value} {lt : α → α → Bool} {w0 : World} {blk off n : Nat}
/-- the child that siftDown looks at -/
def kid (lt : α → α → Bool) (hi F r : Nat) (d : Array α) : Nat := if 2 * r + 2 < hi ∧ lt d[F + (2 * r + 1)]! d[F + (2 * r + 2)]! = true then 2 * r + 2 else 2 * r + 1
theorem kid_lt {hi F r : Nat} {d : Array α} (h : ¬ hi ≤ 2 * r + 1) : kid lt hi F r d < hi ∧ r < kid lt hi F r d := by
  unfold kid; split <;> omega
theorem sd_stop {hi F r : Nat} {d : Array α} (h : hi ≤ 2 * r + 1) : siftDown lt hi F r d = d := by rw [siftDown, dif_pos h]
theorem sd_step {hi F r : Nat} {d : Array α} (h : ¬ hi ≤ 2 * r + 1) : siftDown lt hi F r d = if lt d[F + r]! d[F + kid lt hi F r d]! then siftDown lt hi F (kid lt hi F r d) (swp d (F + r) (F + kid lt hi F r d)) else d := by
  rw [siftDown, dif_neg h]
  unfold kid
  by_cases h1 : 2 * r + 2 < hi
  · have e : F + (2 * r + 1) + 1 = F + (2 * r + 2) := by omega
    by_cases h2 : lt d[F + (2 * r + 1)]! d[F + (2 * r + 2)]! = true
    · simp [e, h1, h2, show 2 * r + 1 + 1 < hi by omega]
      split <;> simp_all
    · simp [e, h1, h2]
      split <;> simp_all
  · simp [h1, show ¬ 2 * r + 1 + 1 < hi by omega]
    split <;> simp_all
set_option maxHeartbeats 4000000 in
set_option maxRecDepth 1000000 in
theorem siftDown_w (L : LaysGt.n43 P ρ) (E : Ev P T rv rl rs gl gs enc lt w0 blk off n) (lo hi F : Nat) (d : Array α) (w : World)
    (hS : SW enc w0 blk off d w) (hd : d.size = n) (hlo : lo ≤ hi) (hb : F + hi ≤ n) :
    Calls P (ρ.f 43) #[.iface T rv, .int .i64 lo, .int .i64 hi, .int .i64 F] w fun e w' => e = .returned (.tuple #[]) ∧ SW enc w0 blk off (siftDown lt hi F lo d) w' := by
  have mixed := L.mixed; have t0 := L.t0; have a0 := L.a0; have z0 := L.z0; have v0 := L.v0; have t3 := L.t3; have a3 := L.a3; have z3 := L.z3; have v3 := L.v3; have t4 := L.t4; have a4 := L.a4; have z4 := L.z4; have v4 := L.v4; have t26 := L.t26; have a26 := L.a26; have z26 := L.z26; have v26 := L.v26; have t38 := L.t38; have a38 := L.a38; have z38 := L.z38; have v38 := L.v38; have t43 := L.t43; have a43 := L.a43; have z43 := L.z43; have v43 := L.v43; have t45 := L.t45; have a45 := L.a45; have z45 := L.z45; have v45 := L.v45
  have el := E.el; have es := E.es; have hn := E.hn
  have S0 : Aside (SW enc w0 blk off d w) := hS
  clear hS
  go_enter L.f43, BodyGt.n43_ntmps ρ
  go_wp2
  go_loopg [8] (hi - lo) (fun k s8 wr => ∃ (r : Nat) (dk : Array α), s8 = .int .i64 r ∧ r ≤ hi ∧ hi - r ≤ k ∧ dk.size = n ∧ Aside (SW enc w0 blk off dk wr) ∧ Hid (siftDown lt hi F r dk = siftDown lt hi F lo d))
  case atStart => exact ⟨lo, d, rfl, hlo, Nat.le_refl _, hd, S0, rfl⟩
  case round =>
    clear S0
    obtain ⟨r, dk, rfl, hr, hkx, hds, S, HE⟩ := hrel
    by_cases h0 : hi ≤ 2 * r + 1
    · have h0z : (hi : Int) ≤ 2 * (r : Int) + 1 := by omega
      go_wp2
      go_end0
      exact ⟨rfl, by rw [← HE.out, sd_stop h0]; exact S.out⟩
    · have h0z : ¬ ((hi : Int) ≤ 2 * (r : Int) + 1) := by omega
      have ml := E.ml dk wr S.out
      have st := sd_step (lt := lt) (F := F) (d := dk) h0
      have hk := kid_lt (lt := lt) (F := F) (d := dk) h0
      obtain ⟨c, hc⟩ : ∃ c, c = kid lt hi F r dk := ⟨_, rfl⟩
      rw [← hc] at st hk
      cases hG : lt dk[F + r]! dk[F + c]!
      all_goals
        rw [hG] at st
        have ST : Hid _ := st
        clear st
        have HG : Hid _ := hG
        by_cases h1 : 2 * r + 2 < hi
        · have h1z : 2 * (r : Int) + 1 + 1 < (hi : Int) := by omega
          have hc2 : c = bif lt dk[F + (2 * r + 1)]! dk[F + (2 * r + 2)]! then 2 * r + 2 else 2 * r + 1 := by
            rw [hc, kid]
            cases lt dk[F + (2 * r + 1)]! dk[F + (2 * r + 2)]! <;> simp [h1]
          cases hL : lt dk[F + (2 * r + 1)]! dk[F + (2 * r + 2)]!
          all_goals
            have hl1 : Aside _ := E.less0 S.out hds (i := F + (2 * r + 1)) (j := F + (2 * r + 2)) (by omega) (by omega) hL
            rw [hL] at hc2
            simp only [cond_true, cond_false] at hc2
            clear hc hL hG h1
            go_wp2_with (first
              | (go_at_fn gs; refine (hs.out _ _ (by omega) (by omega)).mono ?_; rintro e w' ⟨rfl, hw⟩)
              | (go_at_fn gl; refine (hl2.out _ _ (by omega) (by omega)).mono ?_; rintro e w2 ⟨rfl, h2, _⟩; have S2 : Aside _ := h2; have ms := E.ms dk w2 h2; have hs : Aside _ := E.swap0 h2 hds (i := F + r) (j := F + c) (by omega) (by omega); clear h2)
              | (go_at_fn gl; refine (hl1.out _ _ (by omega) (by omega)).mono ?_; rintro e w1 ⟨rfl, h1, _⟩; have ml1 := E.ml dk w1 h1; have hl2 : Aside _ := E.less0 h1 hds (i := F + r) (j := F + c) (by omega) (by omega) HG.out; clear h1))
            first
            | (go_roundg (hi - c)
               case measure => omega
               case rel => exact ⟨c, swp dk (F + r) (F + c), by congr 1; omega, by omega, Nat.le_refl _, by rw [size_swp]; exact hds, hw.1, (show Hid _ from by rw [← HE.out, ST.out]; exact rfl)⟩)
            | ((try simp only [Exit.inBlock, Exit.then]); refine bodyPost_ret (results_none rfl _ _ _) rfl ?_
               exact ⟨rfl, by rw [← HE.out, ST.out]; exact S2.out⟩)
        · have h1z : ¬ 2 * (r : Int) + 1 + 1 < (hi : Int) := by omega
          have hc2 : c = 2 * r + 1 := by rw [hc, kid, if_neg (fun h => h1 h.1)]
          have hl2 : Aside _ := E.less0 S.out hds (i := F + r) (j := F + c) (by omega) (by omega) hG
          clear hc hG h1
          go_wp2_with (first
              | (go_at_fn gs; refine (hs.out _ _ (by omega) (by omega)).mono ?_; rintro e w' ⟨rfl, hw⟩)
              | (go_at_fn gl; refine (hl2.out _ _ (by omega) (by omega)).mono ?_; rintro e w2 ⟨rfl, h2, _⟩; have S2 : Aside _ := h2; have ms := E.ms dk w2 h2; have hs : Aside _ := E.swap0 h2 hds (i := F + r) (j := F + c) (by omega) (by omega); clear h2))
          first
            | (go_roundg (hi - c)
               case measure => omega
               case rel => exact ⟨c, swp dk (F + r) (F + c), by congr 1; omega, by omega, Nat.le_refl _, by rw [size_swp]; exact hds, hw.1, (show Hid _ from by rw [← HE.out, ST.out]; exact rfl)⟩)
            | ((try simp only [Exit.inBlock, Exit.then]); refine bodyPost_ret (results_none rfl _ _ _) rfl ?_
               exact ⟨rfl, by rw [← HE.out, ST.out]; exact S2.out⟩)
#print axioms siftDown_w
end Go.Sr
