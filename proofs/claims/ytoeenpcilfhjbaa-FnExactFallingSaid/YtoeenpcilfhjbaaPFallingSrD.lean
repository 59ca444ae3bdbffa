/- partitionEqual over such an interface value. -/
import Derived.Test.YtoeenpcilfhjbaaPFallingSrB
import Derived.Sort.WalkC4
import Derived.Deep.CutBlock
import Derived.Deep.DeepCutAuto
namespace Go.Sr
set_option linter.unusedVariables false
set_option linter.unusedSimpArgs false
open Go.Shelf Go.RowKit Go.Lib Go.Sort Go.Proofs
variable {P : Program} {ρ : Ren} {α : Type} [Inhabited α] {T : TypeId} {rv rl rs : Value} {gl gs : Nat} {enc : α → Value} {lt : α → α → Bool} {w0 : World} {blk off n : Nat}
set_option maxHeartbeats 4000000 in
set_option maxRecDepth 100000 in
theorem partitionEqual_w (L : LaysGt.n39 P ρ) (E : Ev P T rv rl rs gl gs enc lt w0 blk off n) (a b pv : Nat) (d : Array α) (w : World)
    (hS : SW enc w0 blk off d w) (hd : d.size = n) (hap : a ≤ pv) (hpb : pv < b) (hb : b ≤ n) :
    Calls P (ρ.f 39) #[.iface T rv, .int .i64 a, .int .i64 b, .int .i64 pv] w fun e w' => e = .returned (.int .i64 (partitionEqual lt d a b pv).1) ∧ SW enc w0 blk off (partitionEqual lt d a b pv).2 w' := by
  have mixed := L.mixed; have t0 := L.t0; have a0 := L.a0; have z0 := L.z0; have v0 := L.v0; have t3 := L.t3; have a3 := L.a3; have z3 := L.z3; have v3 := L.v3; have t4 := L.t4; have a4 := L.a4; have z4 := L.z4; have v4 := L.v4; have t26 := L.t26; have a26 := L.a26; have z26 := L.z26; have v26 := L.v26; have t38 := L.t38; have a38 := L.a38; have z38 := L.z38; have v38 := L.v38; have t43 := L.t43; have a43 := L.a43; have z43 := L.z43; have v43 := L.v43; have t45 := L.t45; have a45 := L.a45; have z45 := L.z45; have v45 := L.v45
  have el := E.el; have es := E.es; have hn := E.hn
  have ms0 := E.ms d w hS
  have hs : Aside _ := E.swap0 hS hd (i := a) (j := pv) (by omega) (by omega)
  clear hS
  go_enter L.f39, BodyGt.n39_ntmps ρ
  go_wp2_with (go_at_fn gs; refine (hs.out _ _ rfl rfl).mono ?_; rintro e w1 ⟨rfl, hw1⟩)
  go_loopg [9, 10] b (fun k s9 s10 wr => ∃ (i j : Nat) (dk : Array α), s9 = .int .i64 i ∧ s10 = .int .i64 j ∧ a < i ∧ i ≤ j + 1 ∧ j < b ∧ j + 1 - i ≤ k ∧ dk.size = n ∧ Aside (SW enc w0 blk off dk wr) ∧
    Hid (partEqLoop lt a i j dk = partitionEqual lt d a b pv))
  case atStart => exact ⟨a + 1, b - 1, swp d a pv, by go_num, by go_num, by omega, by omega, by omega, by omega, by rw [size_swp]; exact hd, hw1.1, rfl⟩
  case round =>
    clear hs hw1 ms0
    obtain ⟨i, j, dk, rfl, rfl, hai, hij, hjb, hk, hds, S, HE⟩ := hrel
    go_upto_block 2 with fail
    go_cut [9] (fun s9 wx => ∃ i2 : Nat, s9 = .int .i64 i2 ∧ i ≤ i2 ∧ i2 ≤ j + 1 ∧ Hid (i2 = scanUp (fun x => !lt dk[a]! x) dk j i) ∧ Aside (SW enc w0 blk off dk wx))
    case first =>
      go_wp2_with fail
      go_loopg [9] (j + 1 - i) (fun k s9 wr => ∃ i2 : Nat, s9 = .int .i64 i2 ∧ i ≤ i2 ∧ i2 ≤ j + 1 ∧ j + 1 - i2 ≤ k ∧ Aside (SW enc w0 blk off dk wr) ∧ Hid (scanUp (fun x => !lt dk[a]! x) dk j i2 = scanUp (fun x => !lt dk[a]! x) dk j i))
      case atStart => exact ⟨i, rfl, Nat.le_refl _, hij, Nat.le_refl _, S, rfl⟩
      case round =>
        clear S HE
        obtain ⟨i2, rfl, hi, hi2, hk2, S, HU⟩ := hrel
        by_cases hle : i2 ≤ j
        · have ml := E.ml dk wr S.out
          cases hv : lt dk[a]! dk[i2]!
          · have hl : Aside _ := E.less0 S.out hds (i := a) (j := i2) (by omega) (by omega) hv
            have hg := scanUp_go (fun x => !lt dk[a]! x) dk j i2 hle (by simp [hv])
            have HG : Hid _ := hg
            clear hg hv
            go_wp2_with (go_at_fn gl; refine (hl.out _ _ rfl rfl).mono ?_; rintro e w' ⟨rfl, hq, _⟩)
            go_roundg (j - i2)
            case measure => omega
            case rel => exact ⟨i2 + 1, by go_num, by omega, by omega, by omega, hq, HG.out.symm.trans HU.out⟩
          · have hl : Aside _ := E.less0 S.out hds (i := a) (j := i2) (by omega) (by omega) hv
            have hg := scanUp_end (fun x => !lt dk[a]! x) dk j i2 (.inr (by simp [hv]))
            have HG : Hid _ := hg
            clear hg hv
            go_wp2_with (go_at_fn gl; refine (hl.out _ _ rfl rfl).mono ?_; rintro e w' ⟨rfl, hq, _⟩)
            go_meet
            case rel => exact ⟨i2, rfl, hi, hi2, HG.out.symm.trans HU.out, hq⟩
        · have hg := scanUp_end (fun x => !lt dk[a]! x) dk j i2 (.inl hle)
          have HG : Hid _ := hg
          clear hg
          go_wp2_with fail
          go_meet
          case rel => exact ⟨i2, rfl, hi, hi2, HG.out.symm.trans HU.out, S⟩
    case rest =>
      clear S
      obtain ⟨i2, rfl, hi, hi2, HU, S⟩ := hcut
      go_upto_block 4 with fail
      go_cut [10] (fun s10 wx => ∃ j2 : Nat, s10 = .int .i64 j2 ∧ j2 ≤ j ∧ i2 ≤ j2 + 1 ∧ Hid (j2 = scanDown (fun x => lt dk[a]! x) dk i2 j) ∧ Aside (SW enc w0 blk off dk wx))
      case first =>
        go_wp2_with fail
        go_loopg [10] (j + 1 - i2) (fun k s10 wr => ∃ j2 : Nat, s10 = .int .i64 j2 ∧ j2 ≤ j ∧ i2 ≤ j2 + 1 ∧ j2 + 1 - i2 ≤ k ∧ Aside (SW enc w0 blk off dk wr) ∧ Hid (scanDown (fun x => lt dk[a]! x) dk i2 j2 = scanDown (fun x => lt dk[a]! x) dk i2 j))
        case atStart => exact ⟨j, rfl, Nat.le_refl _, hi2, Nat.le_refl _, S, rfl⟩
        case round =>
          clear S HE HU
          obtain ⟨j2, rfl, hj, hj2, hk2, S, HU⟩ := hrel
          by_cases hle : i2 ≤ j2
          · have ml := E.ml dk wr S.out
            cases hv : lt dk[a]! dk[j2]!
            · have hl : Aside _ := E.less0 S.out hds (i := a) (j := j2) (by omega) (by omega) hv
              have hg := scanDown_end (fun x => lt dk[a]! x) dk i2 j2 (.inr hv)
              have HG : Hid _ := hg
              clear hg hv
              go_wp2_with (go_at_fn gl; refine (hl.out _ _ rfl rfl).mono ?_; rintro e w' ⟨rfl, hq, _⟩)
              go_meet
              case rel => exact ⟨j2, rfl, hj, hj2, HG.out.symm.trans HU.out, hq⟩
            · have hl : Aside _ := E.less0 S.out hds (i := a) (j := j2) (by omega) (by omega) hv
              have hg := scanDown_go (fun x => lt dk[a]! x) dk i2 j2 hle (by omega) hv
              have HG : Hid _ := hg
              clear hg hv
              go_wp2_with (go_at_fn gl; refine (hl.out _ _ rfl rfl).mono ?_; rintro e w' ⟨rfl, hq, _⟩)
              go_roundg (j2 - i2)
              case measure => omega
              case rel => exact ⟨j2 - 1, by go_num, by omega, by omega, by omega, hq, HG.out.symm.trans HU.out⟩
          · have hg := scanDown_end (fun x => lt dk[a]! x) dk i2 j2 (.inl hle)
            have HG : Hid _ := hg
            clear hg
            go_wp2_with fail
            go_meet
            case rel => exact ⟨j2, rfl, hj, hj2, HG.out.symm.trans HU.out, S⟩
      case rest =>
        clear S
        obtain ⟨j2, rfl, hj, hj2, HD, S⟩ := hcut
        by_cases hgt : i2 > j2
        · have e := partEq_break lt a i j dk HU.out HD.out hgt
          have HX : Hid (partitionEqual lt d a b pv = (i2, dk)) := HE.out.symm.trans e
          clear e
          go_wp2_with fail
          go_ret
          exact ⟨by rw [HX.out]; rfl, by rw [HX.out]; exact S.out⟩
        · have e := partEq_go lt a i j dk HU.out HD.out hgt
          have HX : Hid (_ = partitionEqual lt d a b pv) := e.symm.trans HE.out
          have hlt := scans_lt lt a i j dk (by omega) HU.out HD.out (by omega)
          clear e
          have ms := E.ms dk wc S.out
          have hs : Aside _ := E.swap0 S.out hds (i := i2) (j := j2) (by omega) (by omega)
          go_wp2_with (go_at_fn gs; refine (hs.out _ _ rfl rfl).mono ?_; rintro e w1 ⟨rfl, hw1⟩)
          go_roundg (j2 - 1 - i2)
          case measure => omega
          case rel => exact ⟨i2 + 1, j2 - 1, swp dk i2 j2, by go_num, by go_num, by omega, by omega, by omega, by omega, by rw [size_swp]; exact hds, hw1.1, HX⟩
#print axioms partitionEqual_w
end Go.Sr
