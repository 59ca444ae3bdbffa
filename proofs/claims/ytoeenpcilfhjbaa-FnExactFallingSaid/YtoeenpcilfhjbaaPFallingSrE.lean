/- partition over such an interface value (laid by srgen.py). -/
import Derived.Test.YtoeenpcilfhjbaaPFallingSrD
namespace Go.Sr
set_option linter.unusedVariables false
set_option linter.unusedSimpArgs false
open Go.Shelf Go.RowKit Go.Lib Go.Sort Go.Proofs
variable {P : Program} {ρ : Ren} {α : Type} [Inhabited α] {T : TypeId} {rv rl rs : Value} {gl gs : Nat} {enc : α → Value} {lt : α → α → Bool} {w0 : World} {blk off n : Nat}
set_option maxHeartbeats 4000000 in
set_option maxRecDepth 100000 in
theorem partition_w (L : LaysGt.n40 P ρ) (E : Ev P T rv rl rs gl gs enc lt w0 blk off n) (a b pv : Nat) (d : Array α) (w : World)
    (hS : SW enc w0 blk off d w) (hd : d.size = n) (hap : a ≤ pv) (hpb : pv < b) (hb : b ≤ n) :
    Calls P (ρ.f 40) #[.iface T rv, .int .i64 a, .int .i64 b, .int .i64 pv] w fun e w' => e = .returned (.tuple #[.int .i64 (partition lt d a b pv).1, .bool (partition lt d a b pv).2.1]) ∧ SW enc w0 blk off (partition lt d a b pv).2.2 w' := by
  have mixed := L.mixed; have t0 := L.t0; have a0 := L.a0; have z0 := L.z0; have v0 := L.v0; have t3 := L.t3; have a3 := L.a3; have z3 := L.z3; have v3 := L.v3; have t4 := L.t4; have a4 := L.a4; have z4 := L.z4; have v4 := L.v4; have t26 := L.t26; have a26 := L.a26; have z26 := L.z26; have v26 := L.v26; have t38 := L.t38; have a38 := L.a38; have z38 := L.z38; have v38 := L.v38; have t43 := L.t43; have a43 := L.a43; have z43 := L.z43; have v43 := L.v43; have t45 := L.t45; have a45 := L.a45; have z45 := L.z45; have v45 := L.v45;
  have el := E.el; have es := E.es; have hn := E.hn
  have ms0 := E.ms d w hS
  have hs : Aside _ := E.swap0 hS hd (i := a) (j := pv) (by omega) (by omega)
  clear hS
  obtain ⟨i, h1⟩ : ∃ i, i = a + 1 := ⟨_, rfl⟩
  obtain ⟨j, h2⟩ : ∃ j, j = b - 1 := ⟨_, rfl⟩
  obtain ⟨dk, h3⟩ : ∃ dk, dk = swp d a pv := ⟨_, rfl⟩
  have hds : dk.size = n := by rw [h3, size_swp]; exact hd
  have hai : a < i := by omega
  have hij : i ≤ j + 1 := by omega
  have hjb : j < b := by omega
  have H1 : Hid _ := h1
  have H2 : Hid _ := h2
  have H3 : Hid _ := h3
  have e1 : Hid ((a : Int) + 1 = (i : Int)) := (show (a : Int) + 1 = (i : Int) by omega)
  have e2 : Hid ((b : Int) - 1 = (j : Int)) := (show (b : Int) - 1 = (j : Int) by omega)
  have HE : Hid True := trivial
  rw [← h3] at hs
  clear h1 h2 h3
  go_enter L.f40, BodyGt.n40_ntmps ρ
  go_upto_block 0 with (go_at_fn gs; refine (hs.out _ _ rfl rfl).mono ?_; rintro e w1 ⟨rfl, hw1⟩)
  have S : Aside (SW enc w0 blk off dk w1) := hw1.1
  clear hs hw1 ms0
  rw [e1.out, e2.out]
  go_upto_block 0 with fail
  go_cut [10] (fun s9 wx => ∃ i2 : Nat, s9 = .int .i64 i2 ∧ i ≤ i2 ∧ i2 ≤ j + 1 ∧ Hid (i2 = scanUp (fun x => lt x dk[a]!) dk j i) ∧ Aside (SW enc w0 blk off dk wx))
  case first =>
    go_wp2_with fail
    go_loopg [10] (j + 1 - i) (fun k s9 wr => ∃ i2 : Nat, s9 = .int .i64 i2 ∧ i ≤ i2 ∧ i2 ≤ j + 1 ∧ j + 1 - i2 ≤ k ∧ Aside (SW enc w0 blk off dk wr) ∧ Hid (scanUp (fun x => lt x dk[a]!) dk j i2 = scanUp (fun x => lt x dk[a]!) dk j i))
    case atStart => exact ⟨i, rfl, Nat.le_refl _, hij, Nat.le_refl _, S, rfl⟩
    case round =>
      clear S HE
      obtain ⟨i2, rfl, hi, hi2, hk2, S, HU⟩ := hrel
      by_cases hle : i2 ≤ j
      · have ml := E.ml dk wr S.out
        cases hv : lt dk[i2]! dk[a]!
        all_goals
          have hl : Aside _ := E.less0 S.out hds (i := i2) (j := a) (by omega) (by omega) hv
        · have HG : Hid _ := scanUp_end (fun x => lt x dk[a]!) dk j i2 (.inr hv)
          clear hv
          go_wp2_with (go_at_fn gl; refine (hl.out _ _ rfl rfl).mono ?_; rintro e w' ⟨rfl, hq, _⟩)
          go_meet
          case rel => exact ⟨i2, rfl, hi, hi2, HG.out.symm.trans HU.out, hq⟩
        · have HG : Hid _ := scanUp_go (fun x => lt x dk[a]!) dk j i2 hle hv
          clear hv
          go_wp2_with (go_at_fn gl; refine (hl.out _ _ rfl rfl).mono ?_; rintro e w' ⟨rfl, hq, _⟩)
          go_roundg (j - i2)
          case measure => omega
          case rel => exact ⟨i2 + 1, by go_num, by omega, by omega, by omega, hq, HG.out.symm.trans HU.out⟩
      · have HG : Hid _ := scanUp_end (fun x => lt x dk[a]!) dk j i2 (.inl hle)
        go_wp2_with fail
        go_meet
        case rel => exact ⟨i2, rfl, hi, hi2, HG.out.symm.trans HU.out, S⟩
  case rest =>
    clear S
    obtain ⟨i2, rfl, hi, hi2, HU, S⟩ := hcut
    go_upto_block 2 with fail
    go_cut [11] (fun s10 wx => ∃ j2 : Nat, s10 = .int .i64 j2 ∧ j2 ≤ j ∧ i2 ≤ j2 + 1 ∧ Hid (j2 = scanDown (fun x => !lt x dk[a]!) dk i2 j) ∧ Aside (SW enc w0 blk off dk wx))
    case first =>
      go_wp2_with fail
      go_loopg [11] (j + 1 - i2) (fun k s10 wr => ∃ j2 : Nat, s10 = .int .i64 j2 ∧ j2 ≤ j ∧ i2 ≤ j2 + 1 ∧ j2 + 1 - i2 ≤ k ∧ Aside (SW enc w0 blk off dk wr) ∧ Hid (scanDown (fun x => !lt x dk[a]!) dk i2 j2 = scanDown (fun x => !lt x dk[a]!) dk i2 j))
      case atStart => exact ⟨j, rfl, Nat.le_refl _, hi2, Nat.le_refl _, S, rfl⟩
      case round =>
        clear S HE HU
        obtain ⟨j2, rfl, hj, hj2, hk2, S, HU⟩ := hrel
        by_cases hle : i2 ≤ j2
        · have ml := E.ml dk wr S.out
          cases hv : lt dk[j2]! dk[a]!
          all_goals
            have hl : Aside _ := E.less0 S.out hds (i := j2) (j := a) (by omega) (by omega) hv
          · have HG : Hid _ := scanDown_go (fun x => !lt x dk[a]!) dk i2 j2 hle (by omega) (by simp [hv])
            clear hv
            go_wp2_with (go_at_fn gl; refine (hl.out _ _ rfl rfl).mono ?_; rintro e w' ⟨rfl, hq, _⟩)
            go_roundg (j2 - i2)
            case measure => omega
            case rel => exact ⟨j2 - 1, by go_num, by omega, by omega, by omega, hq, HG.out.symm.trans HU.out⟩
          · have HG : Hid _ := scanDown_end (fun x => !lt x dk[a]!) dk i2 j2 (.inr (by simp [hv]))
            clear hv
            go_wp2_with (go_at_fn gl; refine (hl.out _ _ rfl rfl).mono ?_; rintro e w' ⟨rfl, hq, _⟩)
            go_meet
            case rel => exact ⟨j2, rfl, hj, hj2, HG.out.symm.trans HU.out, hq⟩
        · have HG : Hid _ := scanDown_end (fun x => !lt x dk[a]!) dk i2 j2 (.inl hle)
          go_wp2_with fail
          go_meet
          case rel => exact ⟨j2, rfl, hj, hj2, HG.out.symm.trans HU.out, S⟩
    case rest =>
      clear S
      obtain ⟨j2, rfl, hj, hj2, HD, S⟩ := hcut
      by_cases hgt : i2 > j2
      · have HX : Hid _ := part_first_break lt d a b pv H1.out H2.out H3.out HU.out HD.out hgt
        have ms := E.ms dk wc S.out
        have hs : Aside _ := E.swap0 S.out hds (i := j2) (j := a) (by omega) (by omega)
        go_wp2_with (go_at_fn gs; refine (hs.out _ _ rfl rfl).mono ?_; rintro e w1 ⟨rfl, hw1⟩)
        go_ret2
        exact ⟨by rw [HX.out]; rfl, by rw [HX.out]; exact hw1.1⟩
      · have HF0 : Hid _ := part_first_go lt d a b pv H1.out H2.out H3.out HU.out HD.out hgt
        have hlt := part_scans_lt lt a i j dk (by omega) HU.out HD.out (by omega)
        have ms := E.ms dk wc S.out
        have hs : Aside _ := E.swap0 S.out hds (i := i2) (j := j2) (by omega) (by omega)
        go_wp2_with (go_at_fn gs; refine (hs.out _ _ rfl rfl).mono ?_; rintro e w1 ⟨rfl, hw1⟩)
        obtain ⟨r, hr⟩ : ∃ r, r = partLoop lt a (i2 + 1) (j2 - 1) (swp dk i2 j2) := ⟨_, rfl⟩
        have HF : Hid (partition lt d a b pv = (r.1, false, swp r.2 r.1 a)) := by rw [hr]; exact HF0.out
        go_loopg [10, 11] b (fun k s9 s10 wr => ∃ (i j : Nat) (dk : Array α), s9 = .int .i64 i ∧ s10 = .int .i64 j ∧ a < i ∧ i ≤ j + 1 ∧ j < b ∧ j + 1 - i ≤ k ∧ dk.size = n ∧ Aside (SW enc w0 blk off dk wr) ∧ Hid (partLoop lt a i j dk = r))
        case atStart => exact ⟨i2 + 1, j2 - 1, swp dk i2 j2, by go_num, by go_num, by omega, by omega, by omega, by omega, by rw [size_swp]; exact hds, hw1.1, hr.symm⟩
        case round =>
          clear hs hw1 ms HF0 HU HD H1 H2 H3 S hds hr hlt hgt hij hai hjb hi hi2 hj hj2
          obtain ⟨i, j, dk, rfl, rfl, hai, hij, hjb, hk, hds, S, HE⟩ := hrel
          go_upto_block 6 with fail
          go_cut [10] (fun s9 wx => ∃ i2 : Nat, s9 = .int .i64 i2 ∧ i ≤ i2 ∧ i2 ≤ j + 1 ∧ Hid (i2 = scanUp (fun x => lt x dk[a]!) dk j i) ∧ Aside (SW enc w0 blk off dk wx))
          case first =>
            go_wp2_with fail
            go_loopg [10] (j + 1 - i) (fun k s9 wr => ∃ i2 : Nat, s9 = .int .i64 i2 ∧ i ≤ i2 ∧ i2 ≤ j + 1 ∧ j + 1 - i2 ≤ k ∧ Aside (SW enc w0 blk off dk wr) ∧ Hid (scanUp (fun x => lt x dk[a]!) dk j i2 = scanUp (fun x => lt x dk[a]!) dk j i))
            case atStart => exact ⟨i, rfl, Nat.le_refl _, hij, Nat.le_refl _, S, rfl⟩
            case round =>
              clear S HE
              obtain ⟨i2, rfl, hi, hi2, hk2, S, HU⟩ := hrel
              by_cases hle : i2 ≤ j
              · have ml := E.ml dk wr S.out
                cases hv : lt dk[i2]! dk[a]!
                all_goals
                  have hl : Aside _ := E.less0 S.out hds (i := i2) (j := a) (by omega) (by omega) hv
                · have HG : Hid _ := scanUp_end (fun x => lt x dk[a]!) dk j i2 (.inr hv)
                  clear hv
                  go_wp2_with (go_at_fn gl; refine (hl.out _ _ rfl rfl).mono ?_; rintro e w' ⟨rfl, hq, _⟩)
                  go_meet
                  case rel => exact ⟨i2, rfl, hi, hi2, HG.out.symm.trans HU.out, hq⟩
                · have HG : Hid _ := scanUp_go (fun x => lt x dk[a]!) dk j i2 hle hv
                  clear hv
                  go_wp2_with (go_at_fn gl; refine (hl.out _ _ rfl rfl).mono ?_; rintro e w' ⟨rfl, hq, _⟩)
                  go_roundg (j - i2)
                  case measure => omega
                  case rel => exact ⟨i2 + 1, by go_num, by omega, by omega, by omega, hq, HG.out.symm.trans HU.out⟩
              · have HG : Hid _ := scanUp_end (fun x => lt x dk[a]!) dk j i2 (.inl hle)
                go_wp2_with fail
                go_meet
                case rel => exact ⟨i2, rfl, hi, hi2, HG.out.symm.trans HU.out, S⟩
          case rest =>
            clear S
            obtain ⟨i2, rfl, hi, hi2, HU, S⟩ := hcut
            go_upto_block 8 with fail
            go_cut [11] (fun s10 wx => ∃ j2 : Nat, s10 = .int .i64 j2 ∧ j2 ≤ j ∧ i2 ≤ j2 + 1 ∧ Hid (j2 = scanDown (fun x => !lt x dk[a]!) dk i2 j) ∧ Aside (SW enc w0 blk off dk wx))
            case first =>
              go_wp2_with fail
              go_loopg [11] (j + 1 - i2) (fun k s10 wr => ∃ j2 : Nat, s10 = .int .i64 j2 ∧ j2 ≤ j ∧ i2 ≤ j2 + 1 ∧ j2 + 1 - i2 ≤ k ∧ Aside (SW enc w0 blk off dk wr) ∧ Hid (scanDown (fun x => !lt x dk[a]!) dk i2 j2 = scanDown (fun x => !lt x dk[a]!) dk i2 j))
              case atStart => exact ⟨j, rfl, Nat.le_refl _, hi2, Nat.le_refl _, S, rfl⟩
              case round =>
                clear S HE HU
                obtain ⟨j2, rfl, hj, hj2, hk2, S, HU⟩ := hrel
                by_cases hle : i2 ≤ j2
                · have ml := E.ml dk wr S.out
                  cases hv : lt dk[j2]! dk[a]!
                  all_goals
                    have hl : Aside _ := E.less0 S.out hds (i := j2) (j := a) (by omega) (by omega) hv
                  · have HG : Hid _ := scanDown_go (fun x => !lt x dk[a]!) dk i2 j2 hle (by omega) (by simp [hv])
                    clear hv
                    go_wp2_with (go_at_fn gl; refine (hl.out _ _ rfl rfl).mono ?_; rintro e w' ⟨rfl, hq, _⟩)
                    go_roundg (j2 - i2)
                    case measure => omega
                    case rel => exact ⟨j2 - 1, by go_num, by omega, by omega, by omega, hq, HG.out.symm.trans HU.out⟩
                  · have HG : Hid _ := scanDown_end (fun x => !lt x dk[a]!) dk i2 j2 (.inr (by simp [hv]))
                    clear hv
                    go_wp2_with (go_at_fn gl; refine (hl.out _ _ rfl rfl).mono ?_; rintro e w' ⟨rfl, hq, _⟩)
                    go_meet
                    case rel => exact ⟨j2, rfl, hj, hj2, HG.out.symm.trans HU.out, hq⟩
                · have HG : Hid _ := scanDown_end (fun x => !lt x dk[a]!) dk i2 j2 (.inl hle)
                  go_wp2_with fail
                  go_meet
                  case rel => exact ⟨j2, rfl, hj, hj2, HG.out.symm.trans HU.out, S⟩
            case rest =>
              clear S
              obtain ⟨j2, rfl, hj, hj2, HD, S⟩ := hcut
              by_cases hgt : i2 > j2
              · have HX : Hid (_ = (j2, dk)) := HE.out.symm.trans (part_break lt a i j dk HU.out HD.out hgt)
                have ms := E.ms dk wc S.out
                have hs : Aside _ := E.swap0 S.out hds (i := j2) (j := a) (by omega) (by omega)
                go_wp2_with (go_at_fn gs; refine (hs.out _ _ rfl rfl).mono ?_; rintro e w1 ⟨rfl, hw1⟩)
                go_ret2
                have e2 := HF.out
                rw [HX.out] at e2
                exact ⟨by rw [e2]; rfl, by rw [e2]; exact hw1.1⟩
              · have HX : Hid _ := (part_go lt a i j dk HU.out HD.out hgt).symm.trans HE.out
                have hlt := part_scans_lt lt a i j dk (by omega) HU.out HD.out (by omega)
                have ms := E.ms dk wc S.out
                have hs : Aside _ := E.swap0 S.out hds (i := i2) (j := j2) (by omega) (by omega)
                go_wp2_with (go_at_fn gs; refine (hs.out _ _ rfl rfl).mono ?_; rintro e w1 ⟨rfl, hw1⟩)
                go_roundg (j2 - 1 - i2)
                case measure => omega
                case rel => exact ⟨i2 + 1, j2 - 1, swp dk i2 j2, by go_num, by go_num, by omega, by omega, by omega, by omega, by rw [size_swp]; exact hds, hw1.1, HX⟩
#print axioms partition_w
end Go.Sr
