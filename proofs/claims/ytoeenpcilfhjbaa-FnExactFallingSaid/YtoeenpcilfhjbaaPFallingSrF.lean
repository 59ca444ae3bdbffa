/- partialInsertionSort over such an interface value. -/
import Derived.Test.YtoeenpcilfhjbaaPFallingSrB
import Derived.Deep.CutBlock
import Derived.Deep.DeepCutAuto
namespace Go.Sr
set_option linter.unusedVariables false
set_option linter.unusedSimpArgs false
open Go.Shelf Go.RowKit Go.Lib Go.Sort Go.Proofs
variable {P : Program} {ρ : Ren} {α : Type} [Inhabited α] {T : TypeId} {rv rl rs : Value} {gl gs : Nat} {enc : α → Value} {lt : α → α → Bool} {w0 : World} {blk off n : Nat}
theorem ss_go {d : Array α} {b i : Nat} (h : i < b) (hv : lt d[i]! d[i - 1]! = false) : scanSorted lt d b i = scanSorted lt d b (i + 1) := by
  rw [scanSorted, if_pos (by simp [h, hv])]
theorem ss_end {d : Array α} {b i : Nat} (h : ¬ i < b ∨ lt d[i]! d[i - 1]! = true) : scanSorted lt d b i = i := by
  rw [scanSorted, if_neg (by rcases h with h | h <;> simp [h])]
theorem dn_go {d : Array α} {j : Nat} (hv : lt d[j + 1]! d[j]! = true) : shiftDown lt (j + 1) d = shiftDown lt j (swp d (j + 1) j) := by
  rw [shiftDown, if_neg (by simp [hv])]
theorem dn_end {d : Array α} {j : Nat} (hv : lt d[j + 1]! d[j]! = false) : shiftDown lt (j + 1) d = d := by
  rw [shiftDown, if_pos (by simp [hv])]
theorem up_go {d : Array α} {b j : Nat} (h : j < b) (hv : lt d[j]! d[j - 1]! = true) : shiftUp lt b j d = shiftUp lt b (j + 1) (swp d j (j - 1)) := by
  rw [shiftUp, if_pos h, if_neg (by simp [hv])]
theorem up_end {d : Array α} {b j : Nat} (h : ¬ j < b ∨ lt d[j]! d[j - 1]! = false) : shiftUp lt b j d = d := by
  rw [shiftUp]
  rcases h with h | h
  · rw [if_neg h]
  · simp [h]
set_option maxHeartbeats 4000000 in
set_option maxRecDepth 100000 in
theorem partialIns_w (L : LaysGt.n38 P ρ) (E : Ev P T rv rl rs gl gs enc lt w0 blk off n) (a b : Nat) (d : Array α) (w : World)
    (hS : SW enc w0 blk off d w) (hd : d.size = n) (hab : a < b) (hb : b ≤ n) :
    Calls P (ρ.f 38) #[.iface T rv, .int .i64 a, .int .i64 b] w fun e w' => e = .returned (.bool (partialInsertionSort lt d a b).2) ∧ SW enc w0 blk off (partialInsertionSort lt d a b).1 w' := by
  have mixed := L.mixed; have t0 := L.t0; have a0 := L.a0; have z0 := L.z0; have v0 := L.v0; have t3 := L.t3; have a3 := L.a3; have z3 := L.z3; have v3 := L.v3; have t4 := L.t4; have a4 := L.a4; have z4 := L.z4; have v4 := L.v4; have t26 := L.t26; have a26 := L.a26; have z26 := L.z26; have v26 := L.v26; have t38 := L.t38; have a38 := L.a38; have z38 := L.z38; have v38 := L.v38; have t43 := L.t43; have a43 := L.a43; have z43 := L.z43; have v43 := L.v43; have t45 := L.t45; have a45 := L.a45; have z45 := L.z45; have v45 := L.v45
  have el := E.el; have es := E.es; have hn := E.hn
  have S0 : Aside (SW enc w0 blk off d w) := hS
  clear hS
  go_enter L.f38, BodyGt.n38_ntmps ρ
  go_wp2
  go_loopg [7, 8] 5 (fun k s7 s8 wr => ∃ (i : Nat) (c : Int) (dk : Array α), s7 = .int .i64 i ∧ s8 = .int .i64 c ∧ 0 ≤ c ∧ c + (k : Int) ≤ 5 ∧ 5 ≤ c + (k : Int) ∧ a < i ∧ i ≤ b ∧ dk.size = n ∧ Aside (SW enc w0 blk off dk wr) ∧ Hid (partialIns lt a b k i dk = partialInsertionSort lt d a b))
  case atStart => exact ⟨a + 1, 0, d, by go_num, rfl, by omega, by omega, by omega, by omega, by omega, hd, S0, rfl⟩
  case round =>
    clear S0
    obtain ⟨i, c, dk, rfl, rfl, hc0, hc1, hc2, hai, hib, hds, S, HE⟩ := hrel
    cases gk with
    | zero =>
      have HX : Hid ((dk, false) = partialInsertionSort lt d a b) := HE.out
      have hc5 : ¬ c < 5 := by omega
      clear hc1 hc2
      go_wp2
      go_ret
      exact ⟨by rw [← HX.out]; rfl, by rw [← HX.out]; exact S.out⟩
    | succ k =>
      have hc5 : c < 5 := by omega
      have HC : Hid (c + 1 + (k : Int) ≤ 5 ∧ 5 ≤ c + 1 + (k : Int)) := ⟨by omega, by omega⟩
      clear hc1 hc2
      go_upto_block 1 with fail
      go_cut [7] (fun s7 wx => ∃ (i2 : Nat) (d3 : Array α), s7 = .int .i64 i2 ∧ a < i2 ∧ i2 ≤ b ∧ d3.size = n ∧ Aside (SW enc w0 blk off d3 wx) ∧ Hid (partialIns lt a b k i2 d3 = partialInsertionSort lt d a b))
      case first =>
        go_upto_block 2 with fail
        go_cut [7] from 17 to 84 (fun s7 wx => ∃ i2 : Nat, s7 = .int .i64 i2 ∧ i ≤ i2 ∧ i2 ≤ b ∧ Hid (i2 = scanSorted lt dk b i) ∧ Aside (SW enc w0 blk off dk wx))
        case first =>
          go_wp2_with fail
          go_loopg [7] (b - i) (fun k s7 wr => ∃ i2 : Nat, s7 = .int .i64 i2 ∧ i ≤ i2 ∧ i2 ≤ b ∧ b - i2 ≤ k ∧ Aside (SW enc w0 blk off dk wr) ∧ Hid (scanSorted lt dk b i2 = scanSorted lt dk b i))
          case atStart => exact ⟨i, rfl, Nat.le_refl _, hib, Nat.le_refl _, S, rfl⟩
          case round =>
            clear S HE
            obtain ⟨i2, rfl, hi, hi2, hk2, S, HU⟩ := hrel
            by_cases hlt : i2 < b
            · have ml := E.ml dk wr S.out
              cases hv : lt dk[i2]! dk[i2 - 1]!
              all_goals
                have hl : Aside _ := E.less0 S.out hds (i := i2) (j := i2 - 1) (by omega) (by omega) hv
              · have HG : Hid _ := ss_go hlt hv
                clear hv
                go_wp2_with (go_at_fn gl; refine (hl.out _ _ rfl (by omega)).mono ?_; rintro e w' ⟨rfl, hq, _⟩)
                go_roundg (b - i2 - 1)
                case measure => omega
                case rel => exact ⟨i2 + 1, by go_num, by omega, by omega, by omega, hq, HG.out.symm.trans HU.out⟩
              · have HG : Hid _ := ss_end (b := b) (.inr hv)
                clear hv
                go_wp2_with (go_at_fn gl; refine (hl.out _ _ rfl (by omega)).mono ?_; rintro e w' ⟨rfl, hq, _⟩)
                go_meet
                case rel => exact ⟨i2, rfl, hi, hi2, HG.out.symm.trans HU.out, hq⟩
            · have HG : Hid _ := ss_end (lt := lt) (d := dk) (.inl hlt)
              go_wp2_with fail
              go_meet
              case rel => exact ⟨i2, rfl, hi, hi2, HG.out.symm.trans HU.out, S⟩
        case rest =>
          clear S
          obtain ⟨i2, rfl, hi, hi2, HU, S⟩ := hcut
          obtain ⟨d1, h1⟩ : ∃ d1, d1 = swp dk i2 (i2 - 1) := ⟨_, rfl⟩
          obtain ⟨d2, h2⟩ : ∃ d2, d2 = if i2 - a ≥ 2 then shiftDown lt (i2 - 1) d1 else d1 := ⟨_, rfl⟩
          obtain ⟨d3, h3⟩ : ∃ d3, d3 = if b - i2 ≥ 2 then shiftUp lt b (i2 + 1) d2 else d2 := ⟨_, rfl⟩
          have HP : Hid (partialInsertionSort lt d a b = if i2 = b then (dk, true) else if b - a < 50 then (dk, false) else partialIns lt a b k i2 d3) := by
            have h := HE.out
            rw [partialIns, ← HU.out] at h
            rw [h3, h2, h1]
            exact h.symm
          have H1 : Hid _ := h1
          have H2 : Hid _ := h2
          have H3 : Hid _ := h3
          clear HE HU h1 h2 h3
          by_cases hib2 : i2 = b
          · have HX : Hid (partialInsertionSort lt d a b = (dk, true)) := HP.out.trans (if_pos hib2)
            clear HP
            go_wp2_with fail
            go_ret
            exact ⟨by rw [HX.out]; rfl, by rw [HX.out]; exact S.out⟩
          by_cases h50 : b - a < 50
          · have HX : Hid (partialInsertionSort lt d a b = (dk, false)) := HP.out.trans ((if_neg hib2).trans (if_pos h50))
            have h50z : (b : Int) - (a : Int) < 50 := by omega
            clear HP
            go_wp2_with fail
            go_ret
            exact ⟨by rw [HX.out]; rfl, by rw [HX.out]; exact S.out⟩
          have h50z : ¬ (b : Int) - (a : Int) < 50 := by omega
          have HY : Hid (partialIns lt a b k i2 d3 = partialInsertionSort lt d a b) := (HP.out.trans ((if_neg hib2).trans (if_neg h50))).symm
          clear HP h50
          have hd1 : d1.size = n := by rw [H1.out, size_swp]; exact hds
          have ms := E.ms dk wc S.out
          have hs : Aside _ := E.swap0 S.out hds (i := i2) (j := i2 - 1) (by omega) (by omega)
          rw [← H1.out] at hs
          clear H1
          have hlt : i2 < b := by omega
          go_upto_if 45 with (go_at_fn gs; refine (hs.out _ _ rfl (by omega)).mono ?_; rintro e w1 ⟨rfl, hw1⟩)
          have S1 : Aside (SW enc w0 blk off d1 w1) := hw1.1
          clear hs hw1 S ms
          go_cut [] from 17 to 84 (fun wx => d2.size = n ∧ Aside (SW enc w0 blk off d2 wx))
          case first =>
            by_cases hia : i2 - a ≥ 2
            · have hz : 2 ≤ (i2 : Int) - (a : Int) := by omega
              have HS : Hid (d2 = shiftDown lt (i2 - 1) d1) := H2.out.trans (if_pos hia)
              rw [show decide (2 ≤ (i2 : Int) - (a : Int)) = true from decide_eq_true hz]
              go_wp2_with fail
              clear hz
              go_loopg [9] (i2 - 1) (fun k s9 wr => ∃ dj : Array α, s9 = .int .i64 k ∧ k < n ∧ dj.size = n ∧ Aside (SW enc w0 blk off dj wr) ∧ Hid (d2 = shiftDown lt k dj))
              case atStart => exact ⟨d1, by first | rfl | (congr 1; omega), by omega, hd1, S1, HS⟩
              case round =>
                clear S1 HS H2 H3 HY
                obtain ⟨dj, rfl, hkn, hdj, S, HS⟩ := hrel
                cases gk with
                | zero =>
                  go_wp2_with fail
                  go_meet
                  case rel => exact ⟨by rw [HS.out]; exact hdj, by rw [HS.out]; exact S⟩
                | succ j =>
                  have ml := E.ml dj wr S.out
                  cases hv : lt dj[j + 1]! dj[j]!
                  all_goals
                    have hl : Aside _ := E.less0 S.out hdj (i := j + 1) (j := j) (by omega) (by omega) hv
                  · have HT : Hid _ := HS.out.trans (dn_end hv)
                    clear hv
                    go_wp2_with (go_at_fn gl; refine (hl.out _ _ (by omega) (by omega)).mono ?_; rintro e w' ⟨rfl, hq, _⟩)
                    go_meet
                    case rel => exact ⟨by rw [HT.out]; exact hdj, by rw [HT.out]; exact hq⟩
                  · have HT : Hid _ := HS.out.trans (dn_go hv)
                    clear hv
                    go_wp2_with (first
                      | (go_at_fn gs; refine (hs.out _ _ (by omega) (by omega)).mono ?_; rintro e w' ⟨rfl, hw⟩)
                      | (go_at_fn gl; refine (hl.out _ _ (by omega) (by omega)).mono ?_; rintro e w1 ⟨rfl, h1, _⟩; have ms := E.ms dj w1 h1; have hs : Aside _ := E.swap0 h1 hdj (i := j + 1) (j := j) (by omega) (by omega); clear h1))
                    go_roundg j
                    case measure => omega
                    case rel => exact ⟨_, by first | rfl | (congr 1; omega), by omega, by rw [size_swp]; exact hdj, hw.1, HT⟩
            · have hz : ¬ 2 ≤ (i2 : Int) - (a : Int) := by omega
              have HS : Hid (d2 = d1) := H2.out.trans (if_neg hia)
              go_wp2_with fail
              go_meet
              case rel => exact ⟨by rw [HS.out]; exact hd1, by rw [HS.out]; exact S1⟩
          case rest =>
            clear S1
            obtain ⟨hd2, S2⟩ := hcut
            by_cases hbi : b - i2 ≥ 2
            · have hz : 2 ≤ (b : Int) - (i2 : Int) := by omega
              have HS : Hid (d3 = shiftUp lt b (i2 + 1) d2) := H3.out.trans (if_pos hbi)
              go_wp2_with fail
              clear hz
              go_loopg [10] (b - i2) (fun k s9 wr => ∃ (j : Nat) (dj : Array α), s9 = .int .i64 j ∧ i2 < j ∧ j ≤ b ∧ b - j ≤ k ∧ dj.size = n ∧ Aside (SW enc w0 blk off dj wr) ∧ Hid (d3 = shiftUp lt b j dj))
              case atStart => exact ⟨i2 + 1, d2, by go_num, by omega, by omega, by omega, hd2, S2, HS⟩
              case round =>
                clear S2 HS H2 H3
                obtain ⟨j, dj, rfl, hj, hjb, hkn, hdj, S, HS⟩ := hrel
                by_cases hlt2 : j < b
                · have ml := E.ml dj wr S.out
                  cases hv : lt dj[j]! dj[j - 1]!
                  all_goals
                    have hl : Aside _ := E.less0 S.out hdj (i := j) (j := j - 1) (by omega) (by omega) hv
                  · have HT : Hid _ := HS.out.trans (up_end (.inr hv))
                    clear hv
                    go_wp2_with (go_at_fn gl; refine (hl.out _ _ (by omega) (by omega)).mono ?_; rintro e w' ⟨rfl, hq, _⟩)
                    go_meet
                    case rel => exact ⟨i2, d3, rfl, by omega, by omega, by rw [HT.out]; exact hdj, by rw [HT.out]; exact hq, HY⟩
                  · have HT : Hid _ := HS.out.trans (up_go hlt2 hv)
                    clear hv
                    go_wp2_with (first
                      | (go_at_fn gs; refine (hs.out _ _ (by omega) (by omega)).mono ?_; rintro e w' ⟨rfl, hw⟩)
                      | (go_at_fn gl; refine (hl.out _ _ (by omega) (by omega)).mono ?_; rintro e w1 ⟨rfl, h1, _⟩; have ms := E.ms dj w1 h1; have hs : Aside _ := E.swap0 h1 hdj (i := j) (j := j - 1) (by omega) (by omega); clear h1))
                    go_roundg (b - j - 1)
                    case measure => omega
                    case rel => exact ⟨j + 1, _, by go_num, by omega, by omega, by omega, by rw [size_swp]; exact hdj, hw.1, HT⟩
                · have HT : Hid _ := HS.out.trans (up_end (.inl hlt2))
                  go_wp2_with fail
                  go_meet
                  case rel => exact ⟨i2, d3, rfl, by omega, by omega, by rw [HT.out]; exact hdj, by rw [HT.out]; exact S, HY⟩
            · have hz : ¬ 2 ≤ (b : Int) - (i2 : Int) := by omega
              have HS : Hid (d3 = d2) := H3.out.trans (if_neg hbi)
              go_wp2_with fail
              go_meet
              case rel => exact ⟨i2, d3, rfl, by omega, by omega, by rw [HS.out]; exact hd2, by rw [HS.out]; exact S2, HY⟩
      case rest =>
        clear S
        obtain ⟨i2, d3, rfl, hi, hi2, hd3, S3, HY⟩ := hcut
        go_wp2_with fail
        go_roundg k
        case measure => omega
        case rel => exact ⟨i2, c + 1, d3, rfl, rfl, by omega, HC.out.1, HC.out.2, hi, hi2, hd3, S3, HY⟩
#print axioms partialIns_w
end Go.Sr
