import Derived.Test.YtoeenpcilfhjbaaDoorPChoiceLineSrE
import Derived.Deep.CutBlock
import Derived.Deep.DeepCutAuto
import Derived.Shelf.SlSortFunc.Xorshift
import Derived.Shelf.GgSortMore.Bridge
import Derived.Sort.LotD1
/- partialInsertionSort over such an interface value. -/
namespace Go.Sr
set_option linter.unusedVariables false
set_option linter.unusedSimpArgs false
open Go.Shelf Go.RowKit Go.Lib Go.Sort Go.Proofs
variable {P : Program} {ρ : Ren} {α : Type} [Inhabited α] {T : TypeId} {rv rl rs : Value} {gl gs : Nat} {enc : α → Value} {lt : α → α → Bool} {w0 : World} {blk off n : Nat}
theorem ss_go {d : Array α} {b i : Nat} (h : i < b) (hv : lt d[i]! d[i - 1]! = false) : scanSorted lt d b i = scanSorted lt d b (i + 1) := by
  rw [scanSorted, if_pos (by simp [h, hv])]
theorem ss_end {d : Array α} {b i : Nat} (h : ¬ i < b ∨ lt d[i]! d[i - 1]! = true) : scanSorted lt d b i = i := by
  rw [scanSorted, if_neg (by rcases h with h | h <;> simp [h])]
theorem dn_go {d : Array α} {j : Nat} (hv : lt d[j + 1]! d[j]! = true) : shiftDown lt (j + 1) d = shiftDown lt j (swp d (j + 1) j) := by
  rw [shiftDown, if_neg (by simp [hv])]
theorem dn_end {d : Array α} {j : Nat} (hv : lt d[j + 1]! d[j]! = false) : shiftDown lt (j + 1) d = d := by
  rw [shiftDown, if_pos (by simp [hv])]
theorem up_go {d : Array α} {b j : Nat} (h : j < b) (hv : lt d[j]! d[j - 1]! = true) : shiftUp lt b j d = shiftUp lt b (j + 1) (swp d j (j - 1)) := by
  rw [shiftUp, if_pos h, if_neg (by simp [hv])]
theorem up_end {d : Array α} {b j : Nat} (h : ¬ j < b ∨ lt d[j]! d[j - 1]! = false) : shiftUp lt b j d = d := by
  rw [shiftUp]
  rcases h with h | h
  · rw [if_neg h]
  · simp [h]
set_option maxHeartbeats 4000000 in
set_option maxRecDepth 100000 in
theorem partialIns_w (L : LaysGt.n38 P ρ) (E : Ev P T rv rl rs gl gs enc lt w0 blk off n) (a b : Nat) (d : Array α) (w : World)
    (hS : SW enc w0 blk off d w) (hd : d.size = n) (hab : a < b) (hb : b ≤ n) :
    Calls P (ρ.f 38) #[.iface T rv, .int .i64 a, .int .i64 b] w fun e w' => e = .returned (.bool (partialInsertionSort lt d a b).2) ∧ SW enc w0 blk off (partialInsertionSort lt d a b).1 w' := by
  have mixed := L.mixed; have t0 := L.t0; have a0 := L.a0; have z0 := L.z0; have v0 := L.v0; have t3 := L.t3; have a3 := L.a3; have z3 := L.z3; have v3 := L.v3; have t4 := L.t4; have a4 := L.a4; have z4 := L.z4; have v4 := L.v4; have t26 := L.t26; have a26 := L.a26; have z26 := L.z26; have v26 := L.v26; have t38 := L.t38; have a38 := L.a38; have z38 := L.z38; have v38 := L.v38; have t43 := L.t43; have a43 := L.a43; have z43 := L.z43; have v43 := L.v43; have t45 := L.t45; have a45 := L.a45; have z45 := L.z45; have v45 := L.v45
  have el := E.el; have es := E.es; have hn := E.hn
  have S0 : Aside (SW enc w0 blk off d w) := hS
  clear hS
  go_enter L.f38, BodyGt.n38_ntmps ρ
  go_wp2
  go_loopg [7, 8] 5 (fun k s7 s8 wr => ∃ (i : Nat) (c : Int) (dk : Array α), s7 = .int .i64 i ∧ s8 = .int .i64 c ∧ 0 ≤ c ∧ c + (k : Int) ≤ 5 ∧ 5 ≤ c + (k : Int) ∧ a < i ∧ i ≤ b ∧ dk.size = n ∧ Aside (SW enc w0 blk off dk wr) ∧ Hid (partialIns lt a b k i dk = partialInsertionSort lt d a b))
  case atStart => exact ⟨a + 1, 0, d, by go_num, rfl, by omega, by omega, by omega, by omega, by omega, hd, S0, rfl⟩
  case round =>
    clear S0
    obtain ⟨i, c, dk, rfl, rfl, hc0, hc1, hc2, hai, hib, hds, S, HE⟩ := hrel
    cases gk with
    | zero =>
      have HX : Hid ((dk, false) = partialInsertionSort lt d a b) := HE.out
      have hc5 : ¬ c < 5 := by omega
      clear hc1 hc2
      go_wp2
      go_ret
      exact ⟨by rw [← HX.out]; rfl, by rw [← HX.out]; exact S.out⟩
    | succ k =>
      have hc5 : c < 5 := by omega
      have HC : Hid (c + 1 + (k : Int) ≤ 5 ∧ 5 ≤ c + 1 + (k : Int)) := ⟨by omega, by omega⟩
      clear hc1 hc2
      go_upto_block 1 with fail
      go_cut [7] (fun s7 wx => ∃ (i2 : Nat) (d3 : Array α), s7 = .int .i64 i2 ∧ a < i2 ∧ i2 ≤ b ∧ d3.size = n ∧ Aside (SW enc w0 blk off d3 wx) ∧ Hid (partialIns lt a b k i2 d3 = partialInsertionSort lt d a b))
      case first =>
        go_upto_block 2 with fail
        go_cut [7] from 17 to 84 (fun s7 wx => ∃ i2 : Nat, s7 = .int .i64 i2 ∧ i ≤ i2 ∧ i2 ≤ b ∧ Hid (i2 = scanSorted lt dk b i) ∧ Aside (SW enc w0 blk off dk wx))
        case first =>
          go_wp2_with fail
          go_loopg [7] (b - i) (fun k s7 wr => ∃ i2 : Nat, s7 = .int .i64 i2 ∧ i ≤ i2 ∧ i2 ≤ b ∧ b - i2 ≤ k ∧ Aside (SW enc w0 blk off dk wr) ∧ Hid (scanSorted lt dk b i2 = scanSorted lt dk b i))
          case atStart => exact ⟨i, rfl, Nat.le_refl _, hib, Nat.le_refl _, S, rfl⟩
          case round =>
            clear S HE
            obtain ⟨i2, rfl, hi, hi2, hk2, S, HU⟩ := hrel
            by_cases hlt : i2 < b
            · have ml := E.ml dk wr S.out
              cases hv : lt dk[i2]! dk[i2 - 1]!
              all_goals
                have hl : Aside _ := E.less0 S.out hds (i := i2) (j := i2 - 1) (by omega) (by omega) hv
              · have HG : Hid _ := ss_go hlt hv
                clear hv
                go_wp2_with (go_at_fn gl; refine (hl.out _ _ rfl (by omega)).mono ?_; rintro e w' ⟨rfl, hq, _⟩)
                go_roundg (b - i2 - 1)
                case measure => omega
                case rel => exact ⟨i2 + 1, by go_num, by omega, by omega, by omega, hq, HG.out.symm.trans HU.out⟩
              · have HG : Hid _ := ss_end (b := b) (.inr hv)
                clear hv
                go_wp2_with (go_at_fn gl; refine (hl.out _ _ rfl (by omega)).mono ?_; rintro e w' ⟨rfl, hq, _⟩)
                go_meet
                case rel => exact ⟨i2, rfl, hi, hi2, HG.out.symm.trans HU.out, hq⟩
            · have HG : Hid _ := ss_end (lt := lt) (d := dk) (.inl hlt)
              go_wp2_with fail
              go_meet
              case rel => exact ⟨i2, rfl, hi, hi2, HG.out.symm.trans HU.out, S⟩
        case rest =>
          clear S
          obtain ⟨i2, rfl, hi, hi2, HU, S⟩ := hcut
          obtain ⟨d1, h1⟩ : ∃ d1, d1 = swp dk i2 (i2 - 1) := ⟨_, rfl⟩
          obtain ⟨d2, h2⟩ : ∃ d2, d2 = if i2 - a ≥ 2 then shiftDown lt (i2 - 1) d1 else d1 := ⟨_, rfl⟩
          obtain ⟨d3, h3⟩ : ∃ d3, d3 = if b - i2 ≥ 2 then shiftUp lt b (i2 + 1) d2 else d2 := ⟨_, rfl⟩
          have HP : Hid (partialInsertionSort lt d a b = if i2 = b then (dk, true) else if b - a < 50 then (dk, false) else partialIns lt a b k i2 d3) := by
            have h := HE.out
            rw [partialIns, ← HU.out] at h
            rw [h3, h2, h1]
            exact h.symm
          have H1 : Hid _ := h1
          have H2 : Hid _ := h2
          have H3 : Hid _ := h3
          clear HE HU h1 h2 h3
          by_cases hib2 : i2 = b
          · have HX : Hid (partialInsertionSort lt d a b = (dk, true)) := HP.out.trans (if_pos hib2)
            clear HP
            go_wp2_with fail
            go_ret
            exact ⟨by rw [HX.out]; rfl, by rw [HX.out]; exact S.out⟩
          by_cases h50 : b - a < 50
          · have HX : Hid (partialInsertionSort lt d a b = (dk, false)) := HP.out.trans ((if_neg hib2).trans (if_pos h50))
            have h50z : (b : Int) - (a : Int) < 50 := by omega
            clear HP
            go_wp2_with fail
            go_ret
            exact ⟨by rw [HX.out]; rfl, by rw [HX.out]; exact S.out⟩
          have h50z : ¬ (b : Int) - (a : Int) < 50 := by omega
          have HY : Hid (partialIns lt a b k i2 d3 = partialInsertionSort lt d a b) := (HP.out.trans ((if_neg hib2).trans (if_neg h50))).symm
          clear HP h50
          have hd1 : d1.size = n := by rw [H1.out, size_swp]; exact hds
          have ms := E.ms dk wc S.out
          have hs : Aside _ := E.swap0 S.out hds (i := i2) (j := i2 - 1) (by omega) (by omega)
          rw [← H1.out] at hs
          clear H1
          have hlt : i2 < b := by omega
          go_upto_if 45 with (go_at_fn gs; refine (hs.out _ _ rfl (by omega)).mono ?_; rintro e w1 ⟨rfl, hw1⟩)
          have S1 : Aside (SW enc w0 blk off d1 w1) := hw1.1
          clear hs hw1 S ms
          go_cut [] from 17 to 84 (fun wx => d2.size = n ∧ Aside (SW enc w0 blk off d2 wx))
          case first =>
            by_cases hia : i2 - a ≥ 2
            · have hz : 2 ≤ (i2 : Int) - (a : Int) := by omega
              have HS : Hid (d2 = shiftDown lt (i2 - 1) d1) := H2.out.trans (if_pos hia)
              rw [show decide (2 ≤ (i2 : Int) - (a : Int)) = true from decide_eq_true hz]
              go_wp2_with fail
              clear hz
              go_loopg [9] (i2 - 1) (fun k s9 wr => ∃ dj : Array α, s9 = .int .i64 k ∧ k < n ∧ dj.size = n ∧ Aside (SW enc w0 blk off dj wr) ∧ Hid (d2 = shiftDown lt k dj))
              case atStart => exact ⟨d1, by first | rfl | (congr 1; omega), by omega, hd1, S1, HS⟩
              case round =>
                clear S1 HS H2 H3 HY
                obtain ⟨dj, rfl, hkn, hdj, S, HS⟩ := hrel
                cases gk with
                | zero =>
                  go_wp2_with fail
                  go_meet
                  case rel => exact ⟨by rw [HS.out]; exact hdj, by rw [HS.out]; exact S⟩
                | succ j =>
                  have ml := E.ml dj wr S.out
                  cases hv : lt dj[j + 1]! dj[j]!
                  all_goals
                    have hl : Aside _ := E.less0 S.out hdj (i := j + 1) (j := j) (by omega) (by omega) hv
                  · have HT : Hid _ := HS.out.trans (dn_end hv)
                    clear hv
                    go_wp2_with (go_at_fn gl; refine (hl.out _ _ (by omega) (by omega)).mono ?_; rintro e w' ⟨rfl, hq, _⟩)
                    go_meet
                    case rel => exact ⟨by rw [HT.out]; exact hdj, by rw [HT.out]; exact hq⟩
                  · have HT : Hid _ := HS.out.trans (dn_go hv)
                    clear hv
                    go_wp2_with (first
                      | (go_at_fn gs; refine (hs.out _ _ (by omega) (by omega)).mono ?_; rintro e w' ⟨rfl, hw⟩)
                      | (go_at_fn gl; refine (hl.out _ _ (by omega) (by omega)).mono ?_; rintro e w1 ⟨rfl, h1, _⟩; have ms := E.ms dj w1 h1; have hs : Aside _ := E.swap0 h1 hdj (i := j + 1) (j := j) (by omega) (by omega); clear h1))
                    go_roundg j
                    case measure => omega
                    case rel => exact ⟨_, by first | rfl | (congr 1; omega), by omega, by rw [size_swp]; exact hdj, hw.1, HT⟩
            · have hz : ¬ 2 ≤ (i2 : Int) - (a : Int) := by omega
              have HS : Hid (d2 = d1) := H2.out.trans (if_neg hia)
              go_wp2_with fail
              go_meet
              case rel => exact ⟨by rw [HS.out]; exact hd1, by rw [HS.out]; exact S1⟩
          case rest =>
            clear S1
            obtain ⟨hd2, S2⟩ := hcut
            by_cases hbi : b - i2 ≥ 2
            · have hz : 2 ≤ (b : Int) - (i2 : Int) := by omega
              have HS : Hid (d3 = shiftUp lt b (i2 + 1) d2) := H3.out.trans (if_pos hbi)
              go_wp2_with fail
              clear hz
              go_loopg [10] (b - i2) (fun k s9 wr => ∃ (j : Nat) (dj : Array α), s9 = .int .i64 j ∧ i2 < j ∧ j ≤ b ∧ b - j ≤ k ∧ dj.size = n ∧ Aside (SW enc w0 blk off dj wr) ∧ Hid (d3 = shiftUp lt b j dj))
              case atStart => exact ⟨i2 + 1, d2, by go_num, by omega, by omega, by omega, hd2, S2, HS⟩
              case round =>
                clear S2 HS H2 H3
                obtain ⟨j, dj, rfl, hj, hjb, hkn, hdj, S, HS⟩ := hrel
                by_cases hlt2 : j < b
                · have ml := E.ml dj wr S.out
                  cases hv : lt dj[j]! dj[j - 1]!
                  all_goals
                    have hl : Aside _ := E.less0 S.out hdj (i := j) (j := j - 1) (by omega) (by omega) hv
                  · have HT : Hid _ := HS.out.trans (up_end (.inr hv))
                    clear hv
                    go_wp2_with (go_at_fn gl; refine (hl.out _ _ (by omega) (by omega)).mono ?_; rintro e w' ⟨rfl, hq, _⟩)
                    go_meet
                    case rel => exact ⟨i2, d3, rfl, by omega, by omega, by rw [HT.out]; exact hdj, by rw [HT.out]; exact hq, HY⟩
                  · have HT : Hid _ := HS.out.trans (up_go hlt2 hv)
                    clear hv
                    go_wp2_with (first
                      | (go_at_fn gs; refine (hs.out _ _ (by omega) (by omega)).mono ?_; rintro e w' ⟨rfl, hw⟩)
                      | (go_at_fn gl; refine (hl.out _ _ (by omega) (by omega)).mono ?_; rintro e w1 ⟨rfl, h1, _⟩; have ms := E.ms dj w1 h1; have hs : Aside _ := E.swap0 h1 hdj (i := j) (j := j - 1) (by omega) (by omega); clear h1))
                    go_roundg (b - j - 1)
                    case measure => omega
                    case rel => exact ⟨j + 1, _, by go_num, by omega, by omega, by omega, by rw [size_swp]; exact hdj, hw.1, HT⟩
                · have HT : Hid _ := HS.out.trans (up_end (.inl hlt2))
                  go_wp2_with fail
                  go_meet
                  case rel => exact ⟨i2, d3, rfl, by omega, by omega, by rw [HT.out]; exact hdj, by rw [HT.out]; exact S, HY⟩
            · have hz : ¬ 2 ≤ (b : Int) - (i2 : Int) := by omega
              have HS : Hid (d3 = d2) := H3.out.trans (if_neg hbi)
              go_wp2_with fail
              go_meet
              case rel => exact ⟨i2, d3, rfl, by omega, by omega, by rw [HS.out]; exact hd2, by rw [HS.out]; exact S2, HY⟩
      case rest =>
        clear S
        obtain ⟨i2, d3, rfl, hi, hi2, hd3, S3, HY⟩ := hcut
        go_wp2_with fail
        go_roundg k
        case measure => omega
        case rel => exact ⟨i2, c + 1, d3, rfl, rfl, by omega, HC.out.1, HC.out.2, hi, hi2, hd3, S3, HY⟩
#print axioms partialIns_w
end Go.Sr

/- choosePivot over such an interface value: some place of the range; reverseRange: some permutation. -/
namespace Go.Sr
set_option linter.unusedVariables false
set_option linter.unusedSimpArgs false
open Go.Shelf Go.RowKit Go.Lib Go.Sort Go.Proofs
variable {P : Program} {ρ : Ren} {α : Type} [Inhabited α] {T : TypeId} {rv rl rs : Value} {gl gs : Nat} {enc : α → Value} {lt : α → α → Bool} {w0 : World} {blk off n : Nat}
/-- a counter in a block that is new -/
def Cnt (w0 : World) (c : Nat) (W : World) : Prop := w0.heap.size ≤ c ∧ W.frozen? ⟨c, 0, none⟩ = false ∧ ∃ s : Int, W.cell? ⟨c, 0, none⟩ = some (.int .i64 s)
theorem Cnt.drewN {c : Nat} {W : World} (h : Cnt w0 c W) (q : Nat) : Cnt w0 c (W.drewN q) := h
theorem Cnt.old {c : Nat} {W : World} (h : Cnt w0 c W) : c < W.heap.size := by
  obtain ⟨_, _, s, h3⟩ := h
  cases hc : W.heap[c]? with
  | none => simp [World.cell?, hc] at h3
  | some o => exact (Array.getElem?_eq_some_iff.1 hc).1
theorem Cnt.kp {c : Nat} {W W' : World} (h : Cnt w0 c W) (k : Kp W W') : Cnt w0 c W' := by
  have hc := h.old
  obtain ⟨h1, h2, s, h3⟩ := h
  exact ⟨h1, (k.frozen ⟨c, 0, none⟩ hc).trans h2, s, (k.cell ⟨c, 0, none⟩ hc).trans h3⟩
theorem Cnt.set {c : Nat} {W : World} (h : Cnt w0 c W) (s : Int) : Cnt w0 c (W.setCell ⟨c, 0, none⟩ (.int .i64 s)) := by
  obtain ⟨h1, h2, s0, h3⟩ := h
  exact ⟨h1, by simpa using h2, s, World.cell?_setCell_same _ _ _ h3⟩
set_option maxHeartbeats 2000000 in
set_option maxRecDepth 100000 in
theorem order2_w (L : LaysGt.n50 P ρ) (E : Ev P T rv rl rs gl gs enc lt w0 blk off n) (lo hi a b c : Nat) (d : Array α) (w : World)
    (hS : SW enc w0 blk off d w) (hC : Cnt w0 c w) (hd : d.size = n) (hi' : hi ≤ n) (ha : lo ≤ a ∧ a < hi) (hb : lo ≤ b ∧ b < hi) :
    Calls P (ρ.f 50) #[.iface T rv, .int .i64 a, .int .i64 b, .pointer (some ⟨c, 0, none⟩)] w fun e w' => ∃ x y : Nat, e = .returned (.tuple #[.int .i64 x, .int .i64 y]) ∧ (lo ≤ x ∧ x < hi) ∧ (lo ≤ y ∧ y < hi) ∧ SW enc w0 blk off d w' ∧ Cnt w0 c w' := by
  have mixed := L.mixed; have t0 := L.t0; have a0 := L.a0; have z0 := L.z0; have v0 := L.v0; have t3 := L.t3; have a3 := L.a3; have z3 := L.z3; have v3 := L.v3; have t4 := L.t4; have a4 := L.a4; have z4 := L.z4; have v4 := L.v4; have t26 := L.t26; have a26 := L.a26; have z26 := L.z26; have v26 := L.v26; have t38 := L.t38; have a38 := L.a38; have z38 := L.z38; have v38 := L.v38; have t43 := L.t43; have a43 := L.a43; have z43 := L.z43; have v43 := L.v43; have t45 := L.t45; have a45 := L.a45; have z45 := L.z45; have v45 := L.v45; have t71 := L.t71; have a71 := L.a71; have z71 := L.z71; have v71 := L.v71
  have el := E.el; have es := E.es; have hn := E.hn
  have ml := E.ml d w hS
  have S : Aside (SW enc w0 blk off d w) := hS
  have C : Aside (Cnt w0 c w) := hC
  have hcw := hC.old
  obtain ⟨h1, h2, s, h3⟩ := hC
  have hA : Aside ((lo ≤ a ∧ a < hi) ∧ (lo ≤ b ∧ b < hi)) := ⟨ha, hb⟩
  cases hv : lt d[b]! d[a]!
  all_goals
    have hl : Aside _ := E.less0 hS hd (i := b) (j := a) (by omega) (by omega) hv
    clear hS ha hb hv
    go_enter L.f50, BodyGt.n50_ntmps ρ
    go_wp2_with (go_at_fn gl; refine (hl.out _ _ rfl rfl).mono ?_; rintro e w' ⟨rfl, hq, kq⟩; have S' : Aside (SW enc w0 blk off d w') := hq; have C' : Aside (Cnt w0 c w') := C.out.kp kq; have h3' := (kq.cell ⟨c, 0, none⟩ hcw).trans h3; have h2' := (kq.frozen ⟨c, 0, none⟩ hcw).trans h2; clear hq kq)
    go_ret2
  · exact ⟨a, b, rfl, hA.out.1, hA.out.2, S'.out, C'.out⟩
  · exact ⟨b, a, rfl, hA.out.2, hA.out.1, S'.out.setCell_new _ _ _ h1, C'.out.set _⟩
set_option maxHeartbeats 2000000 in
set_option maxRecDepth 100000 in
theorem median_w (L : LaysGt.n47 P ρ) (E : Ev P T rv rl rs gl gs enc lt w0 blk off n) (lo hi a b m c : Nat) (d : Array α) (w : World)
    (hS : SW enc w0 blk off d w) (hC : Cnt w0 c w) (hd : d.size = n) (hi' : hi ≤ n) (ha : lo ≤ a ∧ a < hi) (hb : lo ≤ b ∧ b < hi) (hm : lo ≤ m ∧ m < hi) :
    Calls P (ρ.f 47) #[.iface T rv, .int .i64 a, .int .i64 b, .int .i64 m, .pointer (some ⟨c, 0, none⟩)] w fun e w' => ∃ x : Nat, e = .returned (.int .i64 x) ∧ (lo ≤ x ∧ x < hi) ∧ SW enc w0 blk off d w' ∧ Cnt w0 c w' := by
  have mixed := L.mixed; have t0 := L.t0; have a0 := L.a0; have z0 := L.z0; have v0 := L.v0; have t3 := L.t3; have a3 := L.a3; have z3 := L.z3; have v3 := L.v3; have t4 := L.t4; have a4 := L.a4; have z4 := L.z4; have v4 := L.v4; have t26 := L.t26; have a26 := L.a26; have z26 := L.z26; have v26 := L.v26; have t38 := L.t38; have a38 := L.a38; have z38 := L.z38; have v38 := L.v38; have t43 := L.t43; have a43 := L.a43; have z43 := L.z43; have v43 := L.v43; have t45 := L.t45; have a45 := L.a45; have z45 := L.z45; have v45 := L.v45; have t71 := L.t71; have a71 := L.a71; have z71 := L.z71; have v71 := L.v71; have t74 := L.t74; have a74 := L.a74; have z74 := L.z74; have v74 := L.v74
  have e50 : ∀ args w, (callFunc (ρ.f 50) args).run P w = .ok (.enter (ρ.f 50) args) w := enters_of L.f50 (by kernel_rfl) rfl
  have hc : Aside (∀ (W : World) (x y : Nat), SW enc w0 blk off d W → Cnt w0 c W → (lo ≤ x ∧ x < hi) → (lo ≤ y ∧ y < hi) → Calls P (ρ.f 50) #[.iface T rv, .int .i64 x, .int .i64 y, .pointer (some ⟨c, 0, none⟩)] W _) := fun W x y h1 h2 h3 h4 => order2_w (ρ := ρ) { L with } E lo hi x y c d W h1 h2 hd hi' h3 h4
  have A0 : Aside (SW enc w0 blk off d w ∧ Cnt w0 c w ∧ (lo ≤ a ∧ a < hi) ∧ (lo ≤ b ∧ b < hi) ∧ (lo ≤ m ∧ m < hi)) := ⟨hS, hC, ha, hb, hm⟩
  clear hS hC ha hb hm
  go_enter L.f47, BodyGt.n47_ntmps ρ
  go_wp2_with (first
    | (go_at_fn (ρ.f 50); refine (hc.out _ _ _ A2.out.1 A2.out.2.1 A2.out.2.2.1 A2.out.2.2.2).mono ?_; rintro e w3 ⟨x3, y3, rfl, h31, h32, h33, h34⟩)
    | (go_at_fn (ρ.f 50); refine (hc.out _ _ _ A1.out.1 A1.out.2.1 A1.out.2.2.2.1 A1.out.2.2.2.2).mono ?_; rintro e w2 ⟨x2, y2, rfl, h21, h22, h23, h24⟩; have A2 : Aside (SW enc w0 blk off d w2 ∧ Cnt w0 c w2 ∧ (lo ≤ x1 ∧ x1 < hi) ∧ (lo ≤ x2 ∧ x2 < hi)) := ⟨h23, h24, A1.out.2.2.1, h21⟩; clear h21 h22 h23 h24)
    | (go_at_fn (ρ.f 50); refine (hc.out _ _ _ A0.out.1 A0.out.2.1 A0.out.2.2.1 A0.out.2.2.2.1).mono ?_; rintro e w1 ⟨x1, y1, rfl, h11, h12, h13, h14⟩; have A1 : Aside (SW enc w0 blk off d w1 ∧ Cnt w0 c w1 ∧ (lo ≤ x1 ∧ x1 < hi) ∧ (lo ≤ y1 ∧ y1 < hi) ∧ (lo ≤ m ∧ m < hi)) := ⟨h13, h14, h11, h12, A0.out.2.2.2.2⟩; clear h11 h12 h13 h14))
  go_ret
  exact ⟨y3, rfl, h32, h33, h34⟩
set_option maxHeartbeats 2000000 in
set_option maxRecDepth 100000 in
theorem medianAdjacent_w (L : LaysGt.n46 P ρ) (E : Ev P T rv rl rs gl gs enc lt w0 blk off n) (lo hi a c : Nat) (d : Array α) (w : World)
    (hS : SW enc w0 blk off d w) (hC : Cnt w0 c w) (hd : d.size = n) (hi' : hi ≤ n) (ha : lo + 1 ≤ a ∧ a + 1 < hi) :
    Calls P (ρ.f 46) #[.iface T rv, .int .i64 a, .pointer (some ⟨c, 0, none⟩)] w fun e w' => ∃ x : Nat, e = .returned (.int .i64 x) ∧ (lo ≤ x ∧ x < hi) ∧ SW enc w0 blk off d w' ∧ Cnt w0 c w' := by
  have mixed := L.mixed; have t0 := L.t0; have a0 := L.a0; have z0 := L.z0; have v0 := L.v0; have t3 := L.t3; have a3 := L.a3; have z3 := L.z3; have v3 := L.v3; have t4 := L.t4; have a4 := L.a4; have z4 := L.z4; have v4 := L.v4; have t26 := L.t26; have a26 := L.a26; have z26 := L.z26; have v26 := L.v26; have t38 := L.t38; have a38 := L.a38; have z38 := L.z38; have v38 := L.v38; have t43 := L.t43; have a43 := L.a43; have z43 := L.z43; have v43 := L.v43; have t45 := L.t45; have a45 := L.a45; have z45 := L.z45; have v45 := L.v45; have t71 := L.t71; have a71 := L.a71; have z71 := L.z71; have v71 := L.v71; have t74 := L.t74; have a74 := L.a74; have z74 := L.z74; have v74 := L.v74
  have hn := E.hn
  have e47 : ∀ args w, (callFunc (ρ.f 47) args).run P w = .ok (.enter (ρ.f 47) args) w := enters_of L.f47 (by kernel_rfl) rfl
  have hc := median_w (ρ := ρ) { L with } E lo hi (a - 1) a (a + 1) c d w hS hC hd hi' (by omega) (by omega) (by omega)
  rw [show ((a - 1 : Nat) : Int) = (a : Int) - 1 by omega, show ((a + 1 : Nat) : Int) = (a : Int) + 1 by omega] at hc
  clear hS hC
  go_enter L.f46, BodyGt.n46_ntmps ρ
  go_wp2_with (go_at_fn (ρ.f 47); refine hc.mono ?_; rintro e w1 ⟨x, rfl, h1, h2, h3⟩)
  go_ret
  exact ⟨x, rfl, h1, h2, h3⟩
set_option maxHeartbeats 2000000 in
set_option maxRecDepth 100000 in
theorem reverseRange_w (L : LaysGt.n37 P ρ) (E : Ev P T rv rl rs gl gs enc lt w0 blk off n) (a b : Nat) (d : Array α) (w : World)
    (hS : SW enc w0 blk off d w) (hd : d.size = n) (hab : a < b) (hb : b ≤ n) :
    Calls P (ρ.f 37) #[.iface T rv, .int .i64 a, .int .i64 b] w fun e w' => e = .returned (.tuple #[]) ∧ ∃ d', PermIn a b d d' ∧ SW enc w0 blk off d' w' := by
  have mixed := L.mixed; have t0 := L.t0; have a0 := L.a0; have z0 := L.z0; have v0 := L.v0; have t3 := L.t3; have a3 := L.a3; have z3 := L.z3; have v3 := L.v3; have t4 := L.t4; have a4 := L.a4; have z4 := L.z4; have v4 := L.v4; have t26 := L.t26; have a26 := L.a26; have z26 := L.z26; have v26 := L.v26; have t38 := L.t38; have a38 := L.a38; have z38 := L.z38; have v38 := L.v38; have t43 := L.t43; have a43 := L.a43; have z43 := L.z43; have v43 := L.v43; have t45 := L.t45; have a45 := L.a45; have z45 := L.z45; have v45 := L.v45
  have el := E.el; have es := E.es; have hn := E.hn
  have S0 : Aside (SW enc w0 blk off d w) := hS
  clear hS
  go_enter L.f37, BodyGt.n37_ntmps ρ
  go_wp2
  go_loopg [6, 7] b (fun k s6 s7 wr => ∃ (i j : Nat) (dk : Array α), s6 = .int .i64 i ∧ s7 = .int .i64 j ∧ a ≤ i ∧ i ≤ j + 1 ∧ j < b ∧ j + 1 - i ≤ k ∧ Aside (PermIn a b d dk) ∧ Aside (SW enc w0 blk off dk wr))
  case atStart => exact ⟨a, b - 1, d, rfl, by go_num, Nat.le_refl _, by omega, by omega, by omega, permIn_refl _ _ _, S0⟩
  case round =>
    clear S0
    obtain ⟨i, j, dk, rfl, rfl, hai, hij, hjb, hk, HP, S⟩ := hrel
    by_cases hlt : i < j
    · have hds : dk.size = n := HP.out.1.trans hd
      have ms := E.ms dk wr S.out
      have hs : Aside _ := E.swap0 S.out hds (i := i) (j := j) (by omega) (by omega)
      clear hds
      go_wp2_with (go_at_fn gs; refine (hs.out _ _ rfl rfl).mono ?_; rintro e w1 ⟨rfl, hw1⟩)
      go_roundg (j - i - 1)
      case measure => omega
      case rel => exact ⟨i + 1, j - 1, _, by go_num, by go_num, by omega, by omega, by omega, by omega, permIn_trans _ _ _ _ _ HP.out (swp_permIn _ _ _ _ _ (by omega) (by omega) (by omega) (by omega) (by have := HP.out.1; omega)), hw1.1⟩
    · go_wp2
      go_end0
      exact ⟨rfl, dk, HP.out, S.out⟩
#print axioms reverseRange_w
end Go.Sr

/- choosePivot and breakPatterns over such an interface value: some place of the range, some permutation of it. -/
namespace Go.Sr
set_option linter.unusedVariables false
set_option linter.unusedSimpArgs false
open Go.Shelf Go.RowKit Go.Lib Go.Sort Go.Proofs
variable {P : Program} {ρ : Ren} {α : Type} [Inhabited α] {T : TypeId} {rv rl rs : Value} {gl gs : Nat} {enc : α → Value} {lt : α → α → Bool} {w0 : World} {blk off n : Nat}
set_option maxHeartbeats 2000000 in
set_option maxRecDepth 100000 in
theorem choosePivot_w (L : LaysGt.n36 P ρ) (E : Ev P T rv rl rs gl gs enc lt w0 blk off n) (a b : Nat) (d : Array α) (w : World)
    (hS : SW enc w0 blk off d w) (hd : d.size = n) (hab : a < b) (hb : b ≤ n) :
    Calls P (ρ.f 36) #[.iface T rv, .int .i64 a, .int .i64 b] w fun e w' => ∃ (p : Nat) (h : Int), e = .returned (.tuple #[.int .i64 p, .int .i64 h]) ∧ (a ≤ p ∧ p < b) ∧ SW enc w0 blk off d w' := by
  have mixed := L.mixed; have t0 := L.t0; have a0 := L.a0; have z0 := L.z0; have v0 := L.v0; have t3 := L.t3; have a3 := L.a3; have z3 := L.z3; have v3 := L.v3; have t4 := L.t4; have a4 := L.a4; have z4 := L.z4; have v4 := L.v4; have t26 := L.t26; have a26 := L.a26; have z26 := L.z26; have v26 := L.v26; have t38 := L.t38; have a38 := L.a38; have z38 := L.z38; have v38 := L.v38; have t43 := L.t43; have a43 := L.a43; have z43 := L.z43; have v43 := L.v43; have t45 := L.t45; have a45 := L.a45; have z45 := L.z45; have v45 := L.v45; have t60 := L.t60; have a60 := L.a60; have z60 := L.z60; have v60 := L.v60; have t71 := L.t71; have a71 := L.a71; have z71 := L.z71; have v71 := L.v71; have t74 := L.t74; have a74 := L.a74; have z74 := L.z74; have v74 := L.v74
  have hn := E.hn
  have e46 : ∀ args w, (callFunc (ρ.f 46) args).run P w = .ok (.enter (ρ.f 46) args) w := enters_of L.f46 (by kernel_rfl) rfl
  have e47 : ∀ args w, (callFunc (ρ.f 47) args).run P w = .ok (.enter (ρ.f 47) args) w := enters_of L.f47 (by kernel_rfl) rfl
  have hA : Aside (∀ (W : World) (x : Nat), SW enc w0 blk off d W → Cnt w0 w.heap.size W → (a + 1 ≤ x ∧ x + 1 < b) → Calls P (ρ.f 46) #[.iface T rv, .int .i64 x, .pointer (some ⟨w.heap.size, 0, none⟩)] W _) := fun W x h1 h2 h3 => medianAdjacent_w (ρ := ρ) { L with } E a b x w.heap.size d W h1 h2 hd hb h3
  have hM : Aside (∀ (W : World) (x y z : Nat), SW enc w0 blk off d W → Cnt w0 w.heap.size W → (a ≤ x ∧ x < b) → (a ≤ y ∧ y < b) → (a ≤ z ∧ z < b) → Calls P (ρ.f 47) #[.iface T rv, .int .i64 x, .int .i64 y, .int .i64 z, .pointer (some ⟨w.heap.size, 0, none⟩)] W _) := fun W x y z h1 h2 h3 h4 h5 => median_w (ρ := ρ) { L with } E a b x y z w.heap.size d W h1 h2 hd hb h3 h4 h5
  obtain ⟨h, hh⟩ : ∃ h, h = b - a := ⟨_, rfl⟩
  obtain ⟨I, hI⟩ : ∃ I, I = a + h / 4 := ⟨_, rfl⟩
  obtain ⟨J, hJ⟩ : ∃ J, J = a + h / 4 * 2 := ⟨_, rfl⟩
  obtain ⟨K, hK⟩ : ∃ K, K = a + h / 4 * 3 := ⟨_, rfl⟩
  have eh : (b : Int) - (a : Int) = (h : Int) := by omega
  have eI : (a : Int) + (h : Int) / 4 = (I : Int) := by omega
  have eJ : (a : Int) + (h : Int) / 4 * 2 = (J : Int) := by omega
  have eK : (a : Int) + (h : Int) / 4 * 3 = (K : Int) := by omega
  have B8 : Aside (8 ≤ h → (a + 1 ≤ I ∧ I + 1 < b) ∧ (a + 1 ≤ J ∧ J + 1 < b) ∧ (a + 1 ≤ K ∧ K + 1 < b)) := fun _ => ⟨by omega, by omega, by omega⟩
  have BJ : Aside (a ≤ J ∧ J < b) := ⟨by omega, by omega⟩
  have S0 : Aside (SW enc w0 blk off d (w.alloc (.cells #[.int .i64 0] (ρ.t 3)))) := hS.alloc _
  have C0 : Aside (Cnt w0 w.heap.size (w.alloc (.cells #[.int .i64 0] (ρ.t 3)))) := ⟨hS.le, World.frozen?_alloc_at _ _ _ _ rfl, 0, by rw [World.cell?_alloc_at _ _ _ _ rfl]; rfl⟩
  clear hS hh hI hJ hK
  go_enter L.f36, BodyGt.n36_ntmps ρ
  go_upto_if 32 with fail
  go_cut [11] (fun s11 wx => ∃ p : Nat, s11 = .int .i64 p ∧ Aside ((a ≤ p ∧ p < b) ∧ SW enc w0 blk off d wx ∧ Cnt w0 w.heap.size wx))
  case first =>
    by_cases h8 : 8 ≤ h
    · have h8z : (8 : Int) ≤ (h : Int) := by omega
      have B := B8.out h8
      have BB : Aside _ := B
      clear B8 B h8
      by_cases h50 : 50 ≤ h
      · have h50z : (50 : Int) ≤ (h : Int) := by omega
        clear h50
        go_wp2_with (first
          | (go_at_fn (ρ.f 47); refine (hM.out _ _ _ _ A3.out.1 A3.out.2.1 A3.out.2.2.1 A3.out.2.2.2.1 A3.out.2.2.2.2).mono ?_; rintro e w4 ⟨x4, rfl, h4⟩)
          | (go_at_fn (ρ.f 46); refine (hA.out _ _ A2.out.1 A2.out.2.1 BB.out.2.2).mono ?_; rintro e w3 ⟨x3, rfl, h31, h32, h33⟩; have A3 : Aside (SW enc w0 blk off d w3 ∧ Cnt w0 w.heap.size w3 ∧ (a ≤ x1 ∧ x1 < b) ∧ (a ≤ x2 ∧ x2 < b) ∧ (a ≤ x3 ∧ x3 < b)) := ⟨h32, h33, A2.out.2.2.1, A2.out.2.2.2, h31⟩; clear h31 h32 h33)
          | (go_at_fn (ρ.f 46); refine (hA.out _ _ A1.out.1 A1.out.2.1 BB.out.2.1).mono ?_; rintro e w2 ⟨x2, rfl, h21, h22, h23⟩; have A2 : Aside (SW enc w0 blk off d w2 ∧ Cnt w0 w.heap.size w2 ∧ (a ≤ x1 ∧ x1 < b) ∧ (a ≤ x2 ∧ x2 < b)) := ⟨h22, h23, A1.out.2.2, h21⟩; clear h21 h22 h23)
          | (go_at_fn (ρ.f 46); refine (hA.out _ _ S0.out C0.out BB.out.1).mono ?_; rintro e w1 ⟨x1, rfl, h11, h12, h13⟩; have A1 : Aside (SW enc w0 blk off d w1 ∧ Cnt w0 w.heap.size w1 ∧ (a ≤ x1 ∧ x1 < b)) := ⟨h12, h13, h11⟩; clear h11 h12 h13))
        go_meet
        case rel => exact ⟨x4, rfl, h4⟩
      · have h50z : ¬ (50 : Int) ≤ (h : Int) := by omega
        clear h50
        have B3 : Aside ((a ≤ I ∧ I < b) ∧ (a ≤ J ∧ J < b) ∧ (a ≤ K ∧ K < b)) := by
          obtain ⟨⟨_, _⟩, ⟨_, _⟩, ⟨_, _⟩⟩ := BB.out
          exact ⟨⟨by omega, by omega⟩, ⟨by omega, by omega⟩, ⟨by omega, by omega⟩⟩
        go_wp2_with (go_at_fn (ρ.f 47); refine (hM.out _ _ _ _ S0.out C0.out B3.out.1 B3.out.2.1 B3.out.2.2).mono ?_; rintro e w4 ⟨x4, rfl, h4⟩)
        go_meet
        case rel => exact ⟨x4, rfl, h4⟩
    · have h8z : ¬ (8 : Int) ≤ (h : Int) := by omega
      go_wp2_with fail
      go_meet
      case rel => exact ⟨J, rfl, BJ.out, S0.out, C0.out⟩
  case rest =>
    obtain ⟨p, rfl, R⟩ := hcut
    obtain ⟨_, fz, s, cs⟩ := R.out.2.2
    go_wp2_with fail
    all_goals
      go_ret2
      exact ⟨p, _, rfl, R.out.1, R.out.2.1⟩
#print axioms choosePivot_w
end Go.Sr

/- breakPatterns over such an interface value: some permutation of the range. -/
namespace Go.Sr
set_option linter.unusedVariables false
set_option linter.unusedSimpArgs false
open Go.Shelf Go.RowKit Go.Lib Go.Sort Go.Proofs
variable {P : Program} {ρ : Ren} {α : Type} [Inhabited α] {T : TypeId} {rv rl rs : Value} {gl gs : Nat} {enc : α → Value} {lt : α → α → Bool} {w0 : World} {blk off n : Nat}
/-- the state of the generator, in a block that is new -/
def Rnd (w0 : World) (c R : Nat) (W : World) : Prop := w0.heap.size ≤ c ∧ W.frozen? ⟨c, 0, none⟩ = false ∧ R < 18446744073709551616 ∧ W.cell? ⟨c, 0, none⟩ = some (.int .u64 (R : Int))
set_option maxHeartbeats 4000000 in
set_option maxRecDepth 100000 in
theorem breakPatterns_w (L : LaysGt.n35 P ρ) (E : Ev P T rv rl rs gl gs enc lt w0 blk off n) (a b : Nat) (d : Array α) (w : World)
    (hS : SW enc w0 blk off d w) (hd : d.size = n) (hab : a < b) (hb : b ≤ n) :
    Calls P (ρ.f 35) #[.iface T rv, .int .i64 a, .int .i64 b] w fun e w' => e = .returned (.tuple #[]) ∧ ∃ d', PermIn a b d d' ∧ SW enc w0 blk off d' w' := by
  have mixed := L.mixed; have t0 := L.t0; have a0 := L.a0; have z0 := L.z0; have v0 := L.v0; have t3 := L.t3; have a3 := L.a3; have z3 := L.z3; have v3 := L.v3; have t4 := L.t4; have a4 := L.a4; have z4 := L.z4; have v4 := L.v4; have t26 := L.t26; have a26 := L.a26; have z26 := L.z26; have v26 := L.v26; have t38 := L.t38; have a38 := L.a38; have z38 := L.z38; have v38 := L.v38; have t43 := L.t43; have a43 := L.a43; have z43 := L.z43; have v43 := L.v43; have t45 := L.t45; have a45 := L.a45; have z45 := L.z45; have v45 := L.v45; have t5 := L.t5; have a5 := L.a5; have z5 := L.z5; have v5 := L.v5; have t9 := L.t9; have a9 := L.a9; have z9 := L.z9; have v9 := L.v9; have t47 := L.t47; have a47 := L.a47; have z47 := L.z47; have v47 := L.v47; have t56 := L.t56; have a56 := L.a56; have z56 := L.z56; have v56 := L.v56; have t58 := L.t58; have a58 := L.a58; have z58 := L.z58; have v58 := L.v58; have t67 := L.t67; have a67 := L.a67; have z67 := L.z67; have v67 := L.v67; have t73 := L.t73; have a73 := L.a73; have z73 := L.z73; have v73 := L.v73
  have es := E.es; have hn := E.hn
  have e44 : ∀ args w, (callFunc (ρ.f 44) args).run P w = .ok (.enter (ρ.f 44) args) w := enters_of L.f44 (by kernel_rfl) rfl
  have e45 : ∀ args w, (callFunc (ρ.f 45) args).run P w = .ok (.enter (ρ.f 45) args) w := enters_of L.f45 (by kernel_rfl) rfl
  obtain ⟨h, hh⟩ : ∃ h, h = b - a := ⟨_, rfl⟩
  have eh : (b : Int) - (a : Int) = (h : Int) := by omega
  by_cases h8 : 8 ≤ h
  · have h8z : (8 : Int) ≤ (h : Int) := by omega
    obtain ⟨M, hM⟩ : ∃ M : Nat, M = 1 <<< bitsLen h := ⟨_, rfl⟩
    have hM1 : 1 ≤ M := by rw [hM, Nat.one_shiftLeft]; exact Nat.two_pow_pos _
    have hM2 : M ≤ 2 * h := by rw [hM, Nat.one_shiftLeft]; exact two_pow_bitsLen_le (by omega)
    have hNP : Aside (∀ W, Calls P (ρ.f 44) #[.int .i64 (h : Int)] W fun e w' => e = .returned (.int .u64 (M : Int)) ∧ w' = W) := by rw [hM]; exact fun W => Any.nextPowerOfTwo (LaysGt.n44.elder (P := P) (ρ := ρ) { L with }) h (by omega) W
    obtain ⟨J, hJ⟩ : ∃ J, J = a + h / 4 * 2 := ⟨_, rfl⟩
    have eJ : (a : Int) + (h : Int) / 4 * 2 = (J : Int) := by omega
    have bJ1 : a + 4 ≤ J := by omega
    have bJ2 : J + 1 < b := by omega
    have hab2 : b = a + h := by omega
    have HB : Hid (b = a + h) := hab2
    have hne : blk < w0.heap.size := E.hb
    have hle := hS.le
    have S0 : Aside (SW enc w0 blk off d w) := hS
    clear hS hh hJ hM h8 hab2
    go_enter L.f35, BodyGt.n35_ntmps ρ
    go_wp2_with (go_at_fn (ρ.f 44); refine (hNP.out _).mono ?_; rintro e w' ⟨rfl, rfl⟩)
    go_loopg [9] 3 (fun k s9 wr => ∃ (x R : Nat) (dk : Array α), s9 = .int .i64 x ∧ a ≤ x ∧ x ≤ J + 2 ∧ J + 2 - x ≤ k ∧ Aside (PermIn a b d dk) ∧ Aside (SW enc w0 blk off dk wr) ∧ Aside (Rnd w0 w.heap.size R wr))
    case atStart =>
      refine ⟨J - 1, h, d, by go_num, by omega, by omega, by omega, permIn_refl _ _ _, S0.out.alloc _, hle, ?_, by omega, ?_⟩
      · simp
      · simp
    case round =>
      clear S0
      obtain ⟨x, R, dk, rfl, hx1, hx2, hk, HP, S, HR⟩ := hrel
      by_cases hxJ : x ≤ J + 1
      · have hds : dk.size = n := HP.out.1.trans hd
        obtain ⟨_, fz, hR, cz⟩ := HR.out
        have hz : (x : Int) ≤ (J : Int) + 1 := by omega
        obtain ⟨R', hR'⟩ : ∃ R' : Nat, R' = xorNextN R := ⟨_, rfl⟩
        have lR' : R' < 18446744073709551616 := by rw [hR']; exact xorNextN_lt R hR
        have hNext : Calls P (ρ.f 45) #[.pointer (some ⟨w.heap.size, 0, none⟩)] wr fun e w' => e = .returned (.int .u64 (R' : Int)) ∧ SW enc w0 blk off dk w' ∧ Rnd w0 w.heap.size R' w' := by
          have h := Any.xorshift_Next (LaysGt.n45.elder (P := P) (ρ := ρ) { L with }) w.heap.size 0 R hR wr cz fz
          rw [← hR'] at h
          refine Calls.mono h ?_
          rintro e w' ⟨rfl, rfl⟩
          exact ⟨rfl, (S.out.setCell_new _ _ _ hle).drewN 3, hle, by rw [World.frozen?_drewN]; simpa using fz, lR', by rw [World.cell?_drewN]; exact World.cell?_setCell_same _ _ _ cz⟩
        have HN : Aside _ := hNext
        obtain ⟨O, hO⟩ : ∃ O : Nat, O = R' &&& (M - 1) := ⟨_, rfl⟩
        have lO : O ≤ M - 1 := by rw [hO]; exact Nat.and_le_right
        have eAnd : bits .and .u64 (R' : Int) ((M : Int) - 1) = (O : Int) := by
          rw [show ((M : Int) - 1) = ((M - 1 : Nat) : Int) by omega, bits_and_u64_nat _ _ lR' (by omega), hO]
        obtain ⟨y, hy⟩ : ∃ y : Nat, y = if h ≤ O then O - h else O := ⟨_, rfl⟩
        have ly : y < h := by rw [hy]; split <;> omega
        have hs : Aside (∀ W, SW enc w0 blk off dk W → Rnd w0 w.heap.size R' W → ∀ z : Int, z = (a : Int) + (y : Int) → Calls P gs #[rs, .int .i64 (x : Int), .int .i64 z] W fun e w' => e = .returned (.tuple #[]) ∧ SW enc w0 blk off (swp dk x (a + y)) w' ∧ Rnd w0 w.heap.size R' w') := fun W h1 h2 z hz => by
          have hb' := HB.out
          refine (E.swap0 h1 hds (i := x) (j := a + y) (by omega) (by omega) (x : Int) z rfl (by omega)).mono ?_
          rintro e w' ⟨rfl, h3, h4⟩
          have ne : (⟨w.heap.size, 0, none⟩ : Addr).block ≠ blk := by show w.heap.size ≠ blk; omega
          exact ⟨rfl, h3, h2.1, (h4.frozen _ ne).trans h2.2.1, h2.2.2.1, (h4.cell _ ne).trans h2.2.2.2⟩
        have hP2 : Aside (PermIn a b d (swp dk x (a + y))) := by
          have hb' := HB.out
          exact permIn_trans _ _ _ _ _ HP.out (swp_permIn _ _ _ _ _ (by omega) (by omega) (by omega) (by omega) (by omega))
        clear hNext hO hR' hR fz cz
        by_cases hLO : h ≤ O
        · have hLOz : (h : Int) ≤ (O : Int) := by omega
          have hy2 : (O : Int) - (h : Int) = (y : Int) := by rw [hy, if_pos hLO]; omega
          clear hy hLO
          go_wp2_with (first
            | (go_at_fn (ρ.f 45); refine Calls.mono HN.out ?_; rintro e w1 ⟨rfl, h1, h2⟩; have A1 : Aside (SW enc w0 blk off dk w1 ∧ Rnd w0 w.heap.size R' w1) := ⟨h1, h2⟩; have ms := E.ms dk w1 h1; clear h1 h2)
            | (go_at_fn gs; refine (hs.out _ A1.out.1 A1.out.2 _ (by omega)).mono ?_; rintro e w2 ⟨rfl, h3, h4⟩))
          go_roundg (J + 1 - x)
          case measure => omega
          case rel => exact ⟨x + 1, R', _, by go_num, by omega, by omega, by omega, hP2, h3, h4⟩
        · have hLOz : ¬ (h : Int) ≤ (O : Int) := by omega
          have hy2 : (O : Int) = (y : Int) := by rw [hy, if_neg hLO]
          have HY : Hid ((O : Int) = (y : Int)) := hy2
          clear hy hLO hy2
          go_wp2_with (first
            | (go_at_fn (ρ.f 45); refine Calls.mono HN.out ?_; rintro e w1 ⟨rfl, h1, h2⟩; have A1 : Aside (SW enc w0 blk off dk w1 ∧ Rnd w0 w.heap.size R' w1) := ⟨h1, h2⟩; have ms := E.ms dk w1 h1; clear h1 h2)
            | (go_at_fn gs; refine (hs.out _ A1.out.1 A1.out.2 _ (by have := HY.out; omega)).mono ?_; rintro e w2 ⟨rfl, h3, h4⟩))
          go_roundg (J + 1 - x)
          case measure => omega
          case rel => exact ⟨x + 1, R', _, by go_num, by omega, by omega, by omega, hP2, h3, h4⟩
      · have hz : ¬ (x : Int) ≤ (J : Int) + 1 := by omega
        go_wp2
        go_end0
        exact ⟨rfl, dk, HP.out, S.out⟩
  · have h8z : ¬ (8 : Int) ≤ (h : Int) := by omega
    have S0 : Aside (SW enc w0 blk off d w) := hS
    clear hS hh
    go_enter L.f35, BodyGt.n35_ntmps ρ
    go_wp2
    go_end0
    exact ⟨rfl, d, permIn_refl _ _ _, S0.out⟩
#print axioms breakPatterns_w
end Go.Sr
