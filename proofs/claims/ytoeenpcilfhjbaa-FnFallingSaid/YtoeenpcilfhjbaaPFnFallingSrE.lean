import Derived.Shelf.GgSortMore.Lays
import Derived.Shelf.GgSortFunc.SW
import Derived.Deep.LoopGhost
import Derived.Sort.WalkB12
import Derived.Sort.WalkB3
import Derived.Sort.WalkC4
import Derived.Deep.CutBlock
import Derived.Deep.DeepCutAuto
/- The library's sort over an interface value whose methods are found in the worlds of one family (the sort of a reversed list: the look-up reads the heap). Plain lemmas on the family; insertionSort. -/
namespace Go.Sr
set_option linter.unusedVariables false
set_option linter.unusedSimpArgs false
open Go.Shelf Go.RowKit Go.Lib Go.Sort Go.Proofs
variable {P : Program} {ρ : Ren} {α : Type} [Inhabited α] {T : TypeId} {rv rl rs : Value} {gl gs : Nat} {enc : α → Value} {lt : α → α → Bool} {w0 : World} {blk off n : Nat}
/-- nothing but block b has changed (and draws) -/
structure Same (b : Nat) (w w' : World) : Prop where
  size : w'.heap.size = w.heap.size
  cell : ∀ p : Addr, p.block ≠ b → w'.cell? p = w.cell? p
  frozen : ∀ p : Addr, p.block ≠ b → w'.frozen? p = w.frozen? p
/-- what was there is as it was -/
structure Kp (w w' : World) : Prop where
  size : w.heap.size ≤ w'.heap.size
  cell : ∀ p : Addr, p.block < w.heap.size → w'.cell? p = w.cell? p
  frozen : ∀ p : Addr, p.block < w.heap.size → w'.frozen? p = w.frozen? p
/-- what is known of the interface value: in each world of the family its methods are found, compare and swap -/
structure Ev (P : Program) (T : TypeId) (rv rl rs : Value) (gl gs : Nat) (enc : α → Value) (lt : α → α → Bool) (w0 : World) (blk off n : Nat) : Prop where
  hn : n < 4611686018427387904
  hb : blk < w0.heap.size
  ml : ∀ dk W, SW enc w0 blk off dk W → Sem.run P (method (P.types.size + 100) T rv "Less") W = .ok (gl, rl) W
  ms : ∀ dk W, SW enc w0 blk off dk W → Sem.run P (method (P.types.size + 100) T rv "Swap") W = .ok (gs, rs) W
  el : ∀ args w, (callFunc gl args).run P w = .ok (.enter gl args) w
  es : ∀ args w, (callFunc gs args).run P w = .ok (.enter gs args) w
  less : ∀ dk W, SW enc w0 blk off dk W → dk.size = n → ∀ i j : Nat, i < n → j < n → Calls P gl #[rl, .int .i64 i, .int .i64 j] W fun e w' => e = .returned (.bool (lt dk[i]! dk[j]!)) ∧ SW enc w0 blk off dk w' ∧ Kp W w'
  swap : ∀ dk W, SW enc w0 blk off dk W → dk.size = n → ∀ i j : Nat, i < n → j < n → Calls P gs #[rs, .int .i64 i, .int .i64 j] W fun e w' => e = .returned (.tuple #[]) ∧ SW enc w0 blk off (swp dk i j) w' ∧ Same blk W w'
theorem Ev.less0 (E : Ev P T rv rl rs gl gs enc lt w0 blk off n) {dk : Array α} {w : World} (S : SW enc w0 blk off dk w) (hd : dk.size = n) {i j : Nat} {v : Bool} (hi : i < n) (hj : j < n) (hv : lt dk[i]! dk[j]! = v) (x y : Int) (hx : (i : Int) = x) (hy : (j : Int) = y) :
    Calls P gl #[rl, .int .i64 x, .int .i64 y] w fun e w' => e = .returned (.bool v) ∧ SW enc w0 blk off dk w' ∧ Kp w w' := by
  subst hx hy hv; exact E.less dk w S hd i j hi hj
theorem Ev.swap0 (E : Ev P T rv rl rs gl gs enc lt w0 blk off n) {dk : Array α} {w : World} (S : SW enc w0 blk off dk w) (hd : dk.size = n) {i j : Nat} (hi : i < n) (hj : j < n) (x y : Int) (hx : (i : Int) = x) (hy : (j : Int) = y) :
    Calls P gs #[rs, .int .i64 x, .int .i64 y] w fun e w' => e = .returned (.tuple #[]) ∧ SW enc w0 blk off (swp dk i j) w' ∧ Same blk w w' := by
  subst hx hy; exact E.swap dk w S hd i j hi hj
set_option maxHeartbeats 2000000 in
set_option maxRecDepth 100000 in
theorem insertionSort_w (L : LaysGt.n33 P ρ) (E : Ev P T rv rl rs gl gs enc lt w0 blk off n) (a b : Nat) (d : Array α) (w : World)
    (hS : SW enc w0 blk off d w) (hd : d.size = n) (hab : a ≤ b) (hb : b ≤ n) :
    Calls P (ρ.f 33) #[.iface T rv, .int .i64 a, .int .i64 b] w fun e w' => e = .returned (.tuple #[]) ∧ SW enc w0 blk off (insertionSort lt d a b) w' := by
  have mixed := L.mixed; have t0 := L.t0; have a0 := L.a0; have z0 := L.z0; have v0 := L.v0; have t3 := L.t3; have a3 := L.a3; have z3 := L.z3; have v3 := L.v3; have t4 := L.t4; have a4 := L.a4; have z4 := L.z4; have v4 := L.v4; have t26 := L.t26; have a26 := L.a26; have z26 := L.z26; have v26 := L.v26; have t38 := L.t38; have a38 := L.a38; have z38 := L.z38; have v38 := L.v38; have t43 := L.t43; have a43 := L.a43; have z43 := L.z43; have v43 := L.v43; have t45 := L.t45; have a45 := L.a45; have z45 := L.z45; have v45 := L.v45
  have el := E.el; have es := E.es; have hn := E.hn
  have S0 : Aside (SW enc w0 blk off d w) := hS
  clear hS
  go_enter L.f33, BodyGt.n33_ntmps ρ
  go_wp2
  go_loopw [6] (fun vi wr => ∃ (i : Nat) (dk : Array α), vi = .int .i64 i ∧ a < i ∧ i ≤ b + 1 ∧ dk.size = n ∧ Aside (SW enc w0 blk off dk wr) ∧ Hid (insOuter lt a b i dk = insertionSort lt d a b)) (fun vi _ => b + 1 - (Proofs.intOf vi).toNat)
  case atStart => exact ⟨a + 1, d, by go_num, by omega, by omega, hd, S0, rfl⟩
  case round =>
    obtain ⟨i, dk, rfl, hai, hib, hsk, S, HO⟩ := hrel
    go_wp2
    · have hlt : i < b := by assumption
      go_loopw [7] (fun vj wr2 => ∃ (j : Nat) (dj : Array α), vj = .int .i64 j ∧ a ≤ j ∧ j ≤ i ∧ dj.size = n ∧ Aside (SW enc w0 blk off dj wr2) ∧ Hid (insInner lt a j dj = insInner lt a i dk)) (fun vj _ => (Proofs.intOf vj).toNat)
      case atStart => exact ⟨i, dk, rfl, by omega, Nat.le_refl _, hsk, S, rfl⟩
      case round =>
        clear S S0
        obtain ⟨j, dj, rfl, haj, hji, hsj, S, HI⟩ := hrel
        have done : (j ≤ a ∨ lt dj[j]! dj[j - 1]! = false) → ∀ w', SW enc w0 blk off dj w' → ∃ (i' : Nat) (dk' : Array α), Value.int .i64 ((i : Int) + 1) = .int .i64 i' ∧ a < i' ∧ i' ≤ b + 1 ∧ dk'.size = n ∧ Aside (SW enc w0 blk off dk' w') ∧ Hid (insOuter lt a b i' dk' = insertionSort lt d a b) := fun h w' hw =>
          ⟨i + 1, dj, by go_num, by omega, by omega, hsj, hw, (show insOuter lt a b (i + 1) dj = insertionSort lt d a b by rw [← HO.out, insOuter_go _ _ _ _ _ hlt, ← HI.out, insInner_stop _ _ _ _ h])⟩
        have D : Hid _ := done
        clear done
        by_cases hja : a < j
        · have e1 : ((j - 1 : Nat) : Int) = (j : Int) - 1 := by omega
          have ml := E.ml dj wr S.out
          cases hlv : lt dj[j]! dj[j - 1]! with
          | true =>
            have hl : Aside _ := E.less0 S.out hsj (i := j) (j := j - 1) (by omega) (by omega) hlv
            have HV : Hid _ := hlv
            clear hlv
            go_wp2_with (first
              | (go_at_fn gs; refine (hw.out _ _ rfl e1).mono ?_; rintro e w' ⟨rfl, hw2⟩)
              | (go_at_fn gl; refine (hl.out _ _ rfl e1).mono ?_; rintro e w1 ⟨rfl, h1, _⟩; have ms := E.ms dj w1 h1; have hw : Aside _ := E.swap0 h1 hsj (i := j) (j := j - 1) (by omega) (by omega); clear h1))
            go_roundw
            case rel =>
              (repeat apply Exists.intro)
              refine ⟨⟨j - 1, swp dj j (j - 1), by congr 1 <;> omega, by omega, by omega, by rw [size_swp]; exact hsj, hw2.1, ?_⟩, by rw [decide_eq_true hlt, e1]⟩
              exact (show insInner lt a (j - 1) (swp dj j (j - 1)) = insInner lt a i dk by rw [← HI.out, insInner_go lt a j dj hja HV.out])
            case measure => simp [Proofs.intOf]; omega
          | false =>
            have hl : Aside _ := E.less0 S.out hsj (i := j) (j := j - 1) (by omega) (by omega) hlv
            have HV : Hid _ := hlv
            clear hlv
            go_wp2_with (go_at_fn gl; refine (hl.out _ _ rfl e1).mono ?_; rintro e w1 ⟨rfl, h1, _⟩)
            go_roundw
            case rel => exact D.out (Or.inr HV.out) w1 h1
            case measure => simp [Proofs.intOf]; omega
        · go_wp2
          go_roundw
          case rel => exact D.out (Or.inl (by omega)) wr S.out
          case measure => simp [Proofs.intOf]; omega
    · have hge : ¬ i < b := by assumption
      go_end0
      exact ⟨rfl, by rw [← HO.out, insOuter_stop _ _ _ _ _ hge]; exact S.out⟩
#print axioms insertionSort_w
end Go.Sr

/- siftDown and heapSort over such an interface value. -/
namespace Go.Sr
set_option linter.unusedVariables false
set_option linter.unusedSimpArgs false
open Go.Shelf Go.RowKit Go.Lib Go.Sort Go.Proofs
variable {P : Program} {ρ : Ren} {α : Type} [Inhabited α] {T : TypeId} {rv rl rs : Value} {gl gs : Nat} {enc : α → Value} {lt : α → α → Bool} {w0 : World} {blk off n : Nat}
/-- the child that siftDown looks at -/
def kid (lt : α → α → Bool) (hi F r : Nat) (d : Array α) : Nat := if 2 * r + 2 < hi ∧ lt d[F + (2 * r + 1)]! d[F + (2 * r + 2)]! = true then 2 * r + 2 else 2 * r + 1
theorem kid_lt {hi F r : Nat} {d : Array α} (h : ¬ hi ≤ 2 * r + 1) : kid lt hi F r d < hi ∧ r < kid lt hi F r d := by
  unfold kid; split <;> omega
theorem sd_stop {hi F r : Nat} {d : Array α} (h : hi ≤ 2 * r + 1) : siftDown lt hi F r d = d := by rw [siftDown, dif_pos h]
theorem sd_step {hi F r : Nat} {d : Array α} (h : ¬ hi ≤ 2 * r + 1) : siftDown lt hi F r d = if lt d[F + r]! d[F + kid lt hi F r d]! then siftDown lt hi F (kid lt hi F r d) (swp d (F + r) (F + kid lt hi F r d)) else d := by
  rw [siftDown, dif_neg h]
  unfold kid
  by_cases h1 : 2 * r + 2 < hi
  · have e : F + (2 * r + 1) + 1 = F + (2 * r + 2) := by omega
    by_cases h2 : lt d[F + (2 * r + 1)]! d[F + (2 * r + 2)]! = true
    · simp [e, h1, h2, show 2 * r + 1 + 1 < hi by omega]
      split <;> simp_all
    · simp [e, h1, h2]
      split <;> simp_all
  · simp [h1, show ¬ 2 * r + 1 + 1 < hi by omega]
    split <;> simp_all
set_option maxHeartbeats 4000000 in
set_option maxRecDepth 1000000 in
theorem siftDown_w (L : LaysGt.n43 P ρ) (E : Ev P T rv rl rs gl gs enc lt w0 blk off n) (lo hi F : Nat) (d : Array α) (w : World)
    (hS : SW enc w0 blk off d w) (hd : d.size = n) (hlo : lo ≤ hi) (hb : F + hi ≤ n) :
    Calls P (ρ.f 43) #[.iface T rv, .int .i64 lo, .int .i64 hi, .int .i64 F] w fun e w' => e = .returned (.tuple #[]) ∧ SW enc w0 blk off (siftDown lt hi F lo d) w' := by
  have mixed := L.mixed; have t0 := L.t0; have a0 := L.a0; have z0 := L.z0; have v0 := L.v0; have t3 := L.t3; have a3 := L.a3; have z3 := L.z3; have v3 := L.v3; have t4 := L.t4; have a4 := L.a4; have z4 := L.z4; have v4 := L.v4; have t26 := L.t26; have a26 := L.a26; have z26 := L.z26; have v26 := L.v26; have t38 := L.t38; have a38 := L.a38; have z38 := L.z38; have v38 := L.v38; have t43 := L.t43; have a43 := L.a43; have z43 := L.z43; have v43 := L.v43; have t45 := L.t45; have a45 := L.a45; have z45 := L.z45; have v45 := L.v45
  have el := E.el; have es := E.es; have hn := E.hn
  have S0 : Aside (SW enc w0 blk off d w) := hS
  clear hS
  go_enter L.f43, BodyGt.n43_ntmps ρ
  go_wp2
  go_loopg [8] (hi - lo) (fun k s8 wr => ∃ (r : Nat) (dk : Array α), s8 = .int .i64 r ∧ r ≤ hi ∧ hi - r ≤ k ∧ dk.size = n ∧ Aside (SW enc w0 blk off dk wr) ∧ Hid (siftDown lt hi F r dk = siftDown lt hi F lo d))
  case atStart => exact ⟨lo, d, rfl, hlo, Nat.le_refl _, hd, S0, rfl⟩
  case round =>
    clear S0
    obtain ⟨r, dk, rfl, hr, hkx, hds, S, HE⟩ := hrel
    by_cases h0 : hi ≤ 2 * r + 1
    · have h0z : (hi : Int) ≤ 2 * (r : Int) + 1 := by omega
      go_wp2
      go_end0
      exact ⟨rfl, by rw [← HE.out, sd_stop h0]; exact S.out⟩
    · have h0z : ¬ ((hi : Int) ≤ 2 * (r : Int) + 1) := by omega
      have ml := E.ml dk wr S.out
      have st := sd_step (lt := lt) (F := F) (d := dk) h0
      have hk := kid_lt (lt := lt) (F := F) (d := dk) h0
      obtain ⟨c, hc⟩ : ∃ c, c = kid lt hi F r dk := ⟨_, rfl⟩
      rw [← hc] at st hk
      cases hG : lt dk[F + r]! dk[F + c]!
      all_goals
        rw [hG] at st
        have ST : Hid _ := st
        clear st
        have HG : Hid _ := hG
        by_cases h1 : 2 * r + 2 < hi
        · have h1z : 2 * (r : Int) + 1 + 1 < (hi : Int) := by omega
          have hc2 : c = bif lt dk[F + (2 * r + 1)]! dk[F + (2 * r + 2)]! then 2 * r + 2 else 2 * r + 1 := by
            rw [hc, kid]
            cases lt dk[F + (2 * r + 1)]! dk[F + (2 * r + 2)]! <;> simp [h1]
          cases hL : lt dk[F + (2 * r + 1)]! dk[F + (2 * r + 2)]!
          all_goals
            have hl1 : Aside _ := E.less0 S.out hds (i := F + (2 * r + 1)) (j := F + (2 * r + 2)) (by omega) (by omega) hL
            rw [hL] at hc2
            simp only [cond_true, cond_false] at hc2
            clear hc hL hG h1
            go_wp2_with (first
              | (go_at_fn gs; refine (hs.out _ _ (by omega) (by omega)).mono ?_; rintro e w' ⟨rfl, hw⟩)
              | (go_at_fn gl; refine (hl2.out _ _ (by omega) (by omega)).mono ?_; rintro e w2 ⟨rfl, h2, _⟩; have S2 : Aside _ := h2; have ms := E.ms dk w2 h2; have hs : Aside _ := E.swap0 h2 hds (i := F + r) (j := F + c) (by omega) (by omega); clear h2)
              | (go_at_fn gl; refine (hl1.out _ _ (by omega) (by omega)).mono ?_; rintro e w1 ⟨rfl, h1, _⟩; have ml1 := E.ml dk w1 h1; have hl2 : Aside _ := E.less0 h1 hds (i := F + r) (j := F + c) (by omega) (by omega) HG.out; clear h1))
            first
            | (go_roundg (hi - c)
               case measure => omega
               case rel => exact ⟨c, swp dk (F + r) (F + c), by congr 1; omega, by omega, Nat.le_refl _, by rw [size_swp]; exact hds, hw.1, (show Hid _ from by rw [← HE.out, ST.out]; exact rfl)⟩)
            | ((try simp only [Exit.inBlock, Exit.then]); refine bodyPost_ret (results_none rfl _ _ _) rfl ?_
               exact ⟨rfl, by rw [← HE.out, ST.out]; exact S2.out⟩)
        · have h1z : ¬ 2 * (r : Int) + 1 + 1 < (hi : Int) := by omega
          have hc2 : c = 2 * r + 1 := by rw [hc, kid, if_neg (fun h => h1 h.1)]
          have hl2 : Aside _ := E.less0 S.out hds (i := F + r) (j := F + c) (by omega) (by omega) hG
          clear hc hG h1
          go_wp2_with (first
              | (go_at_fn gs; refine (hs.out _ _ (by omega) (by omega)).mono ?_; rintro e w' ⟨rfl, hw⟩)
              | (go_at_fn gl; refine (hl2.out _ _ (by omega) (by omega)).mono ?_; rintro e w2 ⟨rfl, h2, _⟩; have S2 : Aside _ := h2; have ms := E.ms dk w2 h2; have hs : Aside _ := E.swap0 h2 hds (i := F + r) (j := F + c) (by omega) (by omega); clear h2))
          first
            | (go_roundg (hi - c)
               case measure => omega
               case rel => exact ⟨c, swp dk (F + r) (F + c), by congr 1; omega, by omega, Nat.le_refl _, by rw [size_swp]; exact hds, hw.1, (show Hid _ from by rw [← HE.out, ST.out]; exact rfl)⟩)
            | ((try simp only [Exit.inBlock, Exit.then]); refine bodyPost_ret (results_none rfl _ _ _) rfl ?_
               exact ⟨rfl, by rw [← HE.out, ST.out]; exact S2.out⟩)
#print axioms siftDown_w
end Go.Sr

/- heapSort over such an interface value. -/
namespace Go.Sr
set_option linter.unusedVariables false
set_option linter.unusedSimpArgs false
open Go.Shelf Go.RowKit Go.Lib Go.Sort Go.Proofs
variable {P : Program} {ρ : Ren} {α : Type} [Inhabited α] {T : TypeId} {rv rl rs : Value} {gl gs : Nat} {enc : α → Value} {lt : α → α → Bool} {w0 : World} {blk off n : Nat}
set_option maxHeartbeats 4000000 in
set_option maxRecDepth 1000000 in
theorem heapSort_w (L : LaysGt.n34 P ρ) (E : Ev P T rv rl rs gl gs enc lt w0 blk off n) (a b : Nat) (d : Array α) (w : World)
    (hS : SW enc w0 blk off d w) (hd : d.size = n) (hab : a ≤ b) (hb : b ≤ n) :
    Calls P (ρ.f 34) #[.iface T rv, .int .i64 a, .int .i64 b] w fun e w' => e = .returned (.tuple #[]) ∧ SW enc w0 blk off (heapSort lt d a b) w' := by
  have mixed := L.mixed; have t0 := L.t0; have a0 := L.a0; have z0 := L.z0; have v0 := L.v0; have t3 := L.t3; have a3 := L.a3; have z3 := L.z3; have v3 := L.v3; have t4 := L.t4; have a4 := L.a4; have z4 := L.z4; have v4 := L.v4; have t26 := L.t26; have a26 := L.a26; have z26 := L.z26; have v26 := L.v26; have t38 := L.t38; have a38 := L.a38; have z38 := L.z38; have v38 := L.v38; have t43 := L.t43; have a43 := L.a43; have z43 := L.z43; have v43 := L.v43; have t45 := L.t45; have a45 := L.a45; have z45 := L.z45; have v45 := L.v45
  have el := E.el; have es := E.es; have hn := E.hn
  have e43 : ∀ args w, (callFunc (ρ.f 43) args).run P w = .ok (.enter (ρ.f 43) args) w := enters_of L.f43 (by kernel_rfl) rfl
  obtain ⟨h, hh⟩ : ∃ h, h = b - a := ⟨b - a, rfl⟩
  have eh : (b : Int) - (a : Int) = (h : Int) := by omega
  have es2 : ((h : Int) - 1).tdiv 2 = (((h - 1) / 2 + 1 : Nat) : Int) - 1 := by
    have := half_start (a := 0) (b := h) (Nat.zero_le h)
    simpa using this
  have hU : heapSort lt d a b = heapPop lt a h (heapBuild lt h a ((h - 1) / 2 + 1) d) := by
    rw [heapSort, hh]
  have HU : Hid _ := hU
  have hbh : a + h ≤ n := by omega
  clear hU hh
  have S0 : Aside (SW enc w0 blk off d w) := hS
  clear hS
  go_enter L.f34, BodyGt.n34_ntmps ρ
  go_wp2
  go_loopg [9] ((h - 1) / 2 + 1) (fun k s9 wr => s9 = .int .i64 ((k : Int) - 1) ∧ k ≤ (h - 1) / 2 + 1 ∧ ∃ (dk : Array α), dk.size = n ∧ Aside (SW enc w0 blk off dk wr) ∧
    Hid (heapBuild lt h a k dk = heapBuild lt h a ((h - 1) / 2 + 1) d))
  case atStart => exact ⟨by first | rfl | (congr 1; omega), Nat.le_refl _, d, hd, S0, rfl⟩
  case round =>
    clear S0
    obtain ⟨rfl, hk, dk, hds, S, HE⟩ := hrel
    cases gk with
    | zero =>
      have hB : dk = heapBuild lt h a ((h - 1) / 2 + 1) d := HE.out
      have HB : Hid _ := hB
      clear HE hk hB
      go_wp2
      go_loopg [10] h (fun k s10 wr2 => s10 = .int .i64 ((k : Int) - 1) ∧ k ≤ h ∧ ∃ (dj : Array α), dj.size = n ∧ Aside (SW enc w0 blk off dj wr2) ∧ Hid (heapPop lt a k dj = heapPop lt a h dk))
      case atStart => exact ⟨by first | rfl | (congr 1; omega), Nat.le_refl _, dk, hds, S, rfl⟩
      case round =>
        clear S
        obtain ⟨rfl, hk, dj, hdj, S, HE⟩ := hrel
        cases gk with
        | zero =>
          go_wp2
          go_end0
          refine ⟨rfl, ?_⟩
          rw [HU.out, ← HB.out, ← HE.out]
          exact S.out
        | succ k =>
          have ms := E.ms dj wr S.out
          have hs : Aside _ := E.swap0 S.out hdj (i := a) (j := a + k) (by omega) (by omega)
          have hc : Aside (∀ w1, SW enc w0 blk off (swp dj a (a + k)) w1 → ∀ x : Int, x = (k : Int) → Calls P (ρ.f 43) #[.iface T rv, .int .i64 0, .int .i64 x, .int .i64 a] w1 _) := fun w1 h1 x hx => by
            subst hx
            exact siftDown_w (ρ := ρ) { L with } E 0 k a (swp dj a (a + k)) w1 h1 (by rw [size_swp]; exact hdj) (Nat.zero_le _) (by omega)
          go_wp2_with (first
            | (go_at_fn gs; refine (hs.out _ _ (by omega) (by omega)).mono ?_; rintro e w1 ⟨rfl, hw1⟩)
            | (go_at_fn (ρ.f 43); refine (hc.out _ hw1.1 _ (by omega)).mono ?_; rintro e w2 ⟨rfl, hw2⟩))
          go_roundg k
          case measure => omega
          case rel =>
            exact ⟨by simp, by omega, _, by rw [size_siftDown lt _ _ _ _ _ (Nat.le_refl _), size_swp]; exact hdj, hw2, (show Hid _ from by rw [← HE.out]; exact rfl)⟩
    | succ k =>
      have hc : Aside (∀ x y : Int, x = (k : Int) → y = (h : Int) → Calls P (ρ.f 43) #[.iface T rv, .int .i64 x, .int .i64 y, .int .i64 a] wr _) := fun x y hx hy => by
        subst hx hy
        exact siftDown_w (ρ := ρ) { L with } E k h a dk wr S.out hds (by omega) (by omega)
      go_wp2_with (go_at_fn (ρ.f 43); refine (hc.out _ _ (by omega) (by omega)).mono ?_; rintro e w2 ⟨rfl, hw2⟩)
      go_roundg k
      case measure => omega
      case rel =>
        exact ⟨by simp, by omega, _, by rw [size_siftDown lt _ _ _ _ _ (Nat.le_refl _)]; exact hds, hw2, (show Hid _ from by rw [← HE.out]; exact rfl)⟩
#print axioms heapSort_w
end Go.Sr

/- partitionEqual over such an interface value. -/
namespace Go.Sr
set_option linter.unusedVariables false
set_option linter.unusedSimpArgs false
open Go.Shelf Go.RowKit Go.Lib Go.Sort Go.Proofs
variable {P : Program} {ρ : Ren} {α : Type} [Inhabited α] {T : TypeId} {rv rl rs : Value} {gl gs : Nat} {enc : α → Value} {lt : α → α → Bool} {w0 : World} {blk off n : Nat}
set_option maxHeartbeats 4000000 in
set_option maxRecDepth 100000 in
theorem partitionEqual_w (L : LaysGt.n39 P ρ) (E : Ev P T rv rl rs gl gs enc lt w0 blk off n) (a b pv : Nat) (d : Array α) (w : World)
    (hS : SW enc w0 blk off d w) (hd : d.size = n) (hap : a ≤ pv) (hpb : pv < b) (hb : b ≤ n) :
    Calls P (ρ.f 39) #[.iface T rv, .int .i64 a, .int .i64 b, .int .i64 pv] w fun e w' => e = .returned (.int .i64 (partitionEqual lt d a b pv).1) ∧ SW enc w0 blk off (partitionEqual lt d a b pv).2 w' := by
  have mixed := L.mixed; have t0 := L.t0; have a0 := L.a0; have z0 := L.z0; have v0 := L.v0; have t3 := L.t3; have a3 := L.a3; have z3 := L.z3; have v3 := L.v3; have t4 := L.t4; have a4 := L.a4; have z4 := L.z4; have v4 := L.v4; have t26 := L.t26; have a26 := L.a26; have z26 := L.z26; have v26 := L.v26; have t38 := L.t38; have a38 := L.a38; have z38 := L.z38; have v38 := L.v38; have t43 := L.t43; have a43 := L.a43; have z43 := L.z43; have v43 := L.v43; have t45 := L.t45; have a45 := L.a45; have z45 := L.z45; have v45 := L.v45
  have el := E.el; have es := E.es; have hn := E.hn
  have ms0 := E.ms d w hS
  have hs : Aside _ := E.swap0 hS hd (i := a) (j := pv) (by omega) (by omega)
  clear hS
  go_enter L.f39, BodyGt.n39_ntmps ρ
  go_wp2_with (go_at_fn gs; refine (hs.out _ _ rfl rfl).mono ?_; rintro e w1 ⟨rfl, hw1⟩)
  go_loopg [9, 10] b (fun k s9 s10 wr => ∃ (i j : Nat) (dk : Array α), s9 = .int .i64 i ∧ s10 = .int .i64 j ∧ a < i ∧ i ≤ j + 1 ∧ j < b ∧ j + 1 - i ≤ k ∧ dk.size = n ∧ Aside (SW enc w0 blk off dk wr) ∧
    Hid (partEqLoop lt a i j dk = partitionEqual lt d a b pv))
  case atStart => exact ⟨a + 1, b - 1, swp d a pv, by go_num, by go_num, by omega, by omega, by omega, by omega, by rw [size_swp]; exact hd, hw1.1, rfl⟩
  case round =>
    clear hs hw1 ms0
    obtain ⟨i, j, dk, rfl, rfl, hai, hij, hjb, hk, hds, S, HE⟩ := hrel
    go_upto_block 2 with fail
    go_cut [9] (fun s9 wx => ∃ i2 : Nat, s9 = .int .i64 i2 ∧ i ≤ i2 ∧ i2 ≤ j + 1 ∧ Hid (i2 = scanUp (fun x => !lt dk[a]! x) dk j i) ∧ Aside (SW enc w0 blk off dk wx))
    case first =>
      go_wp2_with fail
      go_loopg [9] (j + 1 - i) (fun k s9 wr => ∃ i2 : Nat, s9 = .int .i64 i2 ∧ i ≤ i2 ∧ i2 ≤ j + 1 ∧ j + 1 - i2 ≤ k ∧ Aside (SW enc w0 blk off dk wr) ∧ Hid (scanUp (fun x => !lt dk[a]! x) dk j i2 = scanUp (fun x => !lt dk[a]! x) dk j i))
      case atStart => exact ⟨i, rfl, Nat.le_refl _, hij, Nat.le_refl _, S, rfl⟩
      case round =>
        clear S HE
        obtain ⟨i2, rfl, hi, hi2, hk2, S, HU⟩ := hrel
        by_cases hle : i2 ≤ j
        · have ml := E.ml dk wr S.out
          cases hv : lt dk[a]! dk[i2]!
          · have hl : Aside _ := E.less0 S.out hds (i := a) (j := i2) (by omega) (by omega) hv
            have hg := scanUp_go (fun x => !lt dk[a]! x) dk j i2 hle (by simp [hv])
            have HG : Hid _ := hg
            clear hg hv
            go_wp2_with (go_at_fn gl; refine (hl.out _ _ rfl rfl).mono ?_; rintro e w' ⟨rfl, hq, _⟩)
            go_roundg (j - i2)
            case measure => omega
            case rel => exact ⟨i2 + 1, by go_num, by omega, by omega, by omega, hq, HG.out.symm.trans HU.out⟩
          · have hl : Aside _ := E.less0 S.out hds (i := a) (j := i2) (by omega) (by omega) hv
            have hg := scanUp_end (fun x => !lt dk[a]! x) dk j i2 (.inr (by simp [hv]))
            have HG : Hid _ := hg
            clear hg hv
            go_wp2_with (go_at_fn gl; refine (hl.out _ _ rfl rfl).mono ?_; rintro e w' ⟨rfl, hq, _⟩)
            go_meet
            case rel => exact ⟨i2, rfl, hi, hi2, HG.out.symm.trans HU.out, hq⟩
        · have hg := scanUp_end (fun x => !lt dk[a]! x) dk j i2 (.inl hle)
          have HG : Hid _ := hg
          clear hg
          go_wp2_with fail
          go_meet
          case rel => exact ⟨i2, rfl, hi, hi2, HG.out.symm.trans HU.out, S⟩
    case rest =>
      clear S
      obtain ⟨i2, rfl, hi, hi2, HU, S⟩ := hcut
      go_upto_block 4 with fail
      go_cut [10] (fun s10 wx => ∃ j2 : Nat, s10 = .int .i64 j2 ∧ j2 ≤ j ∧ i2 ≤ j2 + 1 ∧ Hid (j2 = scanDown (fun x => lt dk[a]! x) dk i2 j) ∧ Aside (SW enc w0 blk off dk wx))
      case first =>
        go_wp2_with fail
        go_loopg [10] (j + 1 - i2) (fun k s10 wr => ∃ j2 : Nat, s10 = .int .i64 j2 ∧ j2 ≤ j ∧ i2 ≤ j2 + 1 ∧ j2 + 1 - i2 ≤ k ∧ Aside (SW enc w0 blk off dk wr) ∧ Hid (scanDown (fun x => lt dk[a]! x) dk i2 j2 = scanDown (fun x => lt dk[a]! x) dk i2 j))
        case atStart => exact ⟨j, rfl, Nat.le_refl _, hi2, Nat.le_refl _, S, rfl⟩
        case round =>
          clear S HE HU
          obtain ⟨j2, rfl, hj, hj2, hk2, S, HU⟩ := hrel
          by_cases hle : i2 ≤ j2
          · have ml := E.ml dk wr S.out
            cases hv : lt dk[a]! dk[j2]!
            · have hl : Aside _ := E.less0 S.out hds (i := a) (j := j2) (by omega) (by omega) hv
              have hg := scanDown_end (fun x => lt dk[a]! x) dk i2 j2 (.inr hv)
              have HG : Hid _ := hg
              clear hg hv
              go_wp2_with (go_at_fn gl; refine (hl.out _ _ rfl rfl).mono ?_; rintro e w' ⟨rfl, hq, _⟩)
              go_meet
              case rel => exact ⟨j2, rfl, hj, hj2, HG.out.symm.trans HU.out, hq⟩
            · have hl : Aside _ := E.less0 S.out hds (i := a) (j := j2) (by omega) (by omega) hv
              have hg := scanDown_go (fun x => lt dk[a]! x) dk i2 j2 hle (by omega) hv
              have HG : Hid _ := hg
              clear hg hv
              go_wp2_with (go_at_fn gl; refine (hl.out _ _ rfl rfl).mono ?_; rintro e w' ⟨rfl, hq, _⟩)
              go_roundg (j2 - i2)
              case measure => omega
              case rel => exact ⟨j2 - 1, by go_num, by omega, by omega, by omega, hq, HG.out.symm.trans HU.out⟩
          · have hg := scanDown_end (fun x => lt dk[a]! x) dk i2 j2 (.inl hle)
            have HG : Hid _ := hg
            clear hg
            go_wp2_with fail
            go_meet
            case rel => exact ⟨j2, rfl, hj, hj2, HG.out.symm.trans HU.out, S⟩
      case rest =>
        clear S
        obtain ⟨j2, rfl, hj, hj2, HD, S⟩ := hcut
        by_cases hgt : i2 > j2
        · have e := partEq_break lt a i j dk HU.out HD.out hgt
          have HX : Hid (partitionEqual lt d a b pv = (i2, dk)) := HE.out.symm.trans e
          clear e
          go_wp2_with fail
          go_ret
          exact ⟨by rw [HX.out]; rfl, by rw [HX.out]; exact S.out⟩
        · have e := partEq_go lt a i j dk HU.out HD.out hgt
          have HX : Hid (_ = partitionEqual lt d a b pv) := e.symm.trans HE.out
          have hlt := scans_lt lt a i j dk (by omega) HU.out HD.out (by omega)
          clear e
          have ms := E.ms dk wc S.out
          have hs : Aside _ := E.swap0 S.out hds (i := i2) (j := j2) (by omega) (by omega)
          go_wp2_with (go_at_fn gs; refine (hs.out _ _ rfl rfl).mono ?_; rintro e w1 ⟨rfl, hw1⟩)
          go_roundg (j2 - 1 - i2)
          case measure => omega
          case rel => exact ⟨i2 + 1, j2 - 1, swp dk i2 j2, by go_num, by go_num, by omega, by omega, by omega, by omega, by rw [size_swp]; exact hds, hw1.1, HX⟩
#print axioms partitionEqual_w
end Go.Sr

/- partition over such an interface value (laid by srgen.py). -/
namespace Go.Sr
set_option linter.unusedVariables false
set_option linter.unusedSimpArgs false
open Go.Shelf Go.RowKit Go.Lib Go.Sort Go.Proofs
variable {P : Program} {ρ : Ren} {α : Type} [Inhabited α] {T : TypeId} {rv rl rs : Value} {gl gs : Nat} {enc : α → Value} {lt : α → α → Bool} {w0 : World} {blk off n : Nat}
set_option maxHeartbeats 4000000 in
set_option maxRecDepth 100000 in
theorem partition_w (L : LaysGt.n40 P ρ) (E : Ev P T rv rl rs gl gs enc lt w0 blk off n) (a b pv : Nat) (d : Array α) (w : World)
    (hS : SW enc w0 blk off d w) (hd : d.size = n) (hap : a ≤ pv) (hpb : pv < b) (hb : b ≤ n) :
    Calls P (ρ.f 40) #[.iface T rv, .int .i64 a, .int .i64 b, .int .i64 pv] w fun e w' => e = .returned (.tuple #[.int .i64 (partition lt d a b pv).1, .bool (partition lt d a b pv).2.1]) ∧ SW enc w0 blk off (partition lt d a b pv).2.2 w' := by
  have mixed := L.mixed; have t0 := L.t0; have a0 := L.a0; have z0 := L.z0; have v0 := L.v0; have t3 := L.t3; have a3 := L.a3; have z3 := L.z3; have v3 := L.v3; have t4 := L.t4; have a4 := L.a4; have z4 := L.z4; have v4 := L.v4; have t26 := L.t26; have a26 := L.a26; have z26 := L.z26; have v26 := L.v26; have t38 := L.t38; have a38 := L.a38; have z38 := L.z38; have v38 := L.v38; have t43 := L.t43; have a43 := L.a43; have z43 := L.z43; have v43 := L.v43; have t45 := L.t45; have a45 := L.a45; have z45 := L.z45; have v45 := L.v45;
  have el := E.el; have es := E.es; have hn := E.hn
  have ms0 := E.ms d w hS
  have hs : Aside _ := E.swap0 hS hd (i := a) (j := pv) (by omega) (by omega)
  clear hS
  obtain ⟨i, h1⟩ : ∃ i, i = a + 1 := ⟨_, rfl⟩
  obtain ⟨j, h2⟩ : ∃ j, j = b - 1 := ⟨_, rfl⟩
  obtain ⟨dk, h3⟩ : ∃ dk, dk = swp d a pv := ⟨_, rfl⟩
  have hds : dk.size = n := by rw [h3, size_swp]; exact hd
  have hai : a < i := by omega
  have hij : i ≤ j + 1 := by omega
  have hjb : j < b := by omega
  have H1 : Hid _ := h1
  have H2 : Hid _ := h2
  have H3 : Hid _ := h3
  have e1 : Hid ((a : Int) + 1 = (i : Int)) := (show (a : Int) + 1 = (i : Int) by omega)
  have e2 : Hid ((b : Int) - 1 = (j : Int)) := (show (b : Int) - 1 = (j : Int) by omega)
  have HE : Hid True := trivial
  rw [← h3] at hs
  clear h1 h2 h3
  go_enter L.f40, BodyGt.n40_ntmps ρ
  go_upto_block 0 with (go_at_fn gs; refine (hs.out _ _ rfl rfl).mono ?_; rintro e w1 ⟨rfl, hw1⟩)
  have S : Aside (SW enc w0 blk off dk w1) := hw1.1
  clear hs hw1 ms0
  rw [e1.out, e2.out]
  go_upto_block 0 with fail
  go_cut [10] (fun s9 wx => ∃ i2 : Nat, s9 = .int .i64 i2 ∧ i ≤ i2 ∧ i2 ≤ j + 1 ∧ Hid (i2 = scanUp (fun x => lt x dk[a]!) dk j i) ∧ Aside (SW enc w0 blk off dk wx))
  case first =>
    go_wp2_with fail
    go_loopg [10] (j + 1 - i) (fun k s9 wr => ∃ i2 : Nat, s9 = .int .i64 i2 ∧ i ≤ i2 ∧ i2 ≤ j + 1 ∧ j + 1 - i2 ≤ k ∧ Aside (SW enc w0 blk off dk wr) ∧ Hid (scanUp (fun x => lt x dk[a]!) dk j i2 = scanUp (fun x => lt x dk[a]!) dk j i))
    case atStart => exact ⟨i, rfl, Nat.le_refl _, hij, Nat.le_refl _, S, rfl⟩
    case round =>
      clear S HE
      obtain ⟨i2, rfl, hi, hi2, hk2, S, HU⟩ := hrel
      by_cases hle : i2 ≤ j
      · have ml := E.ml dk wr S.out
        cases hv : lt dk[i2]! dk[a]!
        all_goals
          have hl : Aside _ := E.less0 S.out hds (i := i2) (j := a) (by omega) (by omega) hv
        · have HG : Hid _ := scanUp_end (fun x => lt x dk[a]!) dk j i2 (.inr hv)
          clear hv
          go_wp2_with (go_at_fn gl; refine (hl.out _ _ rfl rfl).mono ?_; rintro e w' ⟨rfl, hq, _⟩)
          go_meet
          case rel => exact ⟨i2, rfl, hi, hi2, HG.out.symm.trans HU.out, hq⟩
        · have HG : Hid _ := scanUp_go (fun x => lt x dk[a]!) dk j i2 hle hv
          clear hv
          go_wp2_with (go_at_fn gl; refine (hl.out _ _ rfl rfl).mono ?_; rintro e w' ⟨rfl, hq, _⟩)
          go_roundg (j - i2)
          case measure => omega
          case rel => exact ⟨i2 + 1, by go_num, by omega, by omega, by omega, hq, HG.out.symm.trans HU.out⟩
      · have HG : Hid _ := scanUp_end (fun x => lt x dk[a]!) dk j i2 (.inl hle)
        go_wp2_with fail
        go_meet
        case rel => exact ⟨i2, rfl, hi, hi2, HG.out.symm.trans HU.out, S⟩
  case rest =>
    clear S
    obtain ⟨i2, rfl, hi, hi2, HU, S⟩ := hcut
    go_upto_block 2 with fail
    go_cut [11] (fun s10 wx => ∃ j2 : Nat, s10 = .int .i64 j2 ∧ j2 ≤ j ∧ i2 ≤ j2 + 1 ∧ Hid (j2 = scanDown (fun x => !lt x dk[a]!) dk i2 j) ∧ Aside (SW enc w0 blk off dk wx))
    case first =>
      go_wp2_with fail
      go_loopg [11] (j + 1 - i2) (fun k s10 wr => ∃ j2 : Nat, s10 = .int .i64 j2 ∧ j2 ≤ j ∧ i2 ≤ j2 + 1 ∧ j2 + 1 - i2 ≤ k ∧ Aside (SW enc w0 blk off dk wr) ∧ Hid (scanDown (fun x => !lt x dk[a]!) dk i2 j2 = scanDown (fun x => !lt x dk[a]!) dk i2 j))
      case atStart => exact ⟨j, rfl, Nat.le_refl _, hi2, Nat.le_refl _, S, rfl⟩
      case round =>
        clear S HE HU
        obtain ⟨j2, rfl, hj, hj2, hk2, S, HU⟩ := hrel
        by_cases hle : i2 ≤ j2
        · have ml := E.ml dk wr S.out
          cases hv : lt dk[j2]! dk[a]!
          all_goals
            have hl : Aside _ := E.less0 S.out hds (i := j2) (j := a) (by omega) (by omega) hv
          · have HG : Hid _ := scanDown_go (fun x => !lt x dk[a]!) dk i2 j2 hle (by omega) (by simp [hv])
            clear hv
            go_wp2_with (go_at_fn gl; refine (hl.out _ _ rfl rfl).mono ?_; rintro e w' ⟨rfl, hq, _⟩)
            go_roundg (j2 - i2)
            case measure => omega
            case rel => exact ⟨j2 - 1, by go_num, by omega, by omega, by omega, hq, HG.out.symm.trans HU.out⟩
          · have HG : Hid _ := scanDown_end (fun x => !lt x dk[a]!) dk i2 j2 (.inr (by simp [hv]))
            clear hv
            go_wp2_with (go_at_fn gl; refine (hl.out _ _ rfl rfl).mono ?_; rintro e w' ⟨rfl, hq, _⟩)
            go_meet
            case rel => exact ⟨j2, rfl, hj, hj2, HG.out.symm.trans HU.out, hq⟩
        · have HG : Hid _ := scanDown_end (fun x => !lt x dk[a]!) dk i2 j2 (.inl hle)
          go_wp2_with fail
          go_meet
          case rel => exact ⟨j2, rfl, hj, hj2, HG.out.symm.trans HU.out, S⟩
    case rest =>
      clear S
      obtain ⟨j2, rfl, hj, hj2, HD, S⟩ := hcut
      by_cases hgt : i2 > j2
      · have HX : Hid _ := part_first_break lt d a b pv H1.out H2.out H3.out HU.out HD.out hgt
        have ms := E.ms dk wc S.out
        have hs : Aside _ := E.swap0 S.out hds (i := j2) (j := a) (by omega) (by omega)
        go_wp2_with (go_at_fn gs; refine (hs.out _ _ rfl rfl).mono ?_; rintro e w1 ⟨rfl, hw1⟩)
        go_ret2
        exact ⟨by rw [HX.out]; rfl, by rw [HX.out]; exact hw1.1⟩
      · have HF0 : Hid _ := part_first_go lt d a b pv H1.out H2.out H3.out HU.out HD.out hgt
        have hlt := part_scans_lt lt a i j dk (by omega) HU.out HD.out (by omega)
        have ms := E.ms dk wc S.out
        have hs : Aside _ := E.swap0 S.out hds (i := i2) (j := j2) (by omega) (by omega)
        go_wp2_with (go_at_fn gs; refine (hs.out _ _ rfl rfl).mono ?_; rintro e w1 ⟨rfl, hw1⟩)
        obtain ⟨r, hr⟩ : ∃ r, r = partLoop lt a (i2 + 1) (j2 - 1) (swp dk i2 j2) := ⟨_, rfl⟩
        have HF : Hid (partition lt d a b pv = (r.1, false, swp r.2 r.1 a)) := by rw [hr]; exact HF0.out
        go_loopg [10, 11] b (fun k s9 s10 wr => ∃ (i j : Nat) (dk : Array α), s9 = .int .i64 i ∧ s10 = .int .i64 j ∧ a < i ∧ i ≤ j + 1 ∧ j < b ∧ j + 1 - i ≤ k ∧ dk.size = n ∧ Aside (SW enc w0 blk off dk wr) ∧ Hid (partLoop lt a i j dk = r))
        case atStart => exact ⟨i2 + 1, j2 - 1, swp dk i2 j2, by go_num, by go_num, by omega, by omega, by omega, by omega, by rw [size_swp]; exact hds, hw1.1, hr.symm⟩
        case round =>
          clear hs hw1 ms HF0 HU HD H1 H2 H3 S hds hr hlt hgt hij hai hjb hi hi2 hj hj2
          obtain ⟨i, j, dk, rfl, rfl, hai, hij, hjb, hk, hds, S, HE⟩ := hrel
          go_upto_block 6 with fail
          go_cut [10] (fun s9 wx => ∃ i2 : Nat, s9 = .int .i64 i2 ∧ i ≤ i2 ∧ i2 ≤ j + 1 ∧ Hid (i2 = scanUp (fun x => lt x dk[a]!) dk j i) ∧ Aside (SW enc w0 blk off dk wx))
          case first =>
            go_wp2_with fail
            go_loopg [10] (j + 1 - i) (fun k s9 wr => ∃ i2 : Nat, s9 = .int .i64 i2 ∧ i ≤ i2 ∧ i2 ≤ j + 1 ∧ j + 1 - i2 ≤ k ∧ Aside (SW enc w0 blk off dk wr) ∧ Hid (scanUp (fun x => lt x dk[a]!) dk j i2 = scanUp (fun x => lt x dk[a]!) dk j i))
            case atStart => exact ⟨i, rfl, Nat.le_refl _, hij, Nat.le_refl _, S, rfl⟩
            case round =>
              clear S HE
              obtain ⟨i2, rfl, hi, hi2, hk2, S, HU⟩ := hrel
              by_cases hle : i2 ≤ j
              · have ml := E.ml dk wr S.out
                cases hv : lt dk[i2]! dk[a]!
                all_goals
                  have hl : Aside _ := E.less0 S.out hds (i := i2) (j := a) (by omega) (by omega) hv
                · have HG : Hid _ := scanUp_end (fun x => lt x dk[a]!) dk j i2 (.inr hv)
                  clear hv
                  go_wp2_with (go_at_fn gl; refine (hl.out _ _ rfl rfl).mono ?_; rintro e w' ⟨rfl, hq, _⟩)
                  go_meet
                  case rel => exact ⟨i2, rfl, hi, hi2, HG.out.symm.trans HU.out, hq⟩
                · have HG : Hid _ := scanUp_go (fun x => lt x dk[a]!) dk j i2 hle hv
                  clear hv
                  go_wp2_with (go_at_fn gl; refine (hl.out _ _ rfl rfl).mono ?_; rintro e w' ⟨rfl, hq, _⟩)
                  go_roundg (j - i2)
                  case measure => omega
                  case rel => exact ⟨i2 + 1, by go_num, by omega, by omega, by omega, hq, HG.out.symm.trans HU.out⟩
              · have HG : Hid _ := scanUp_end (fun x => lt x dk[a]!) dk j i2 (.inl hle)
                go_wp2_with fail
                go_meet
                case rel => exact ⟨i2, rfl, hi, hi2, HG.out.symm.trans HU.out, S⟩
          case rest =>
            clear S
            obtain ⟨i2, rfl, hi, hi2, HU, S⟩ := hcut
            go_upto_block 8 with fail
            go_cut [11] (fun s10 wx => ∃ j2 : Nat, s10 = .int .i64 j2 ∧ j2 ≤ j ∧ i2 ≤ j2 + 1 ∧ Hid (j2 = scanDown (fun x => !lt x dk[a]!) dk i2 j) ∧ Aside (SW enc w0 blk off dk wx))
            case first =>
              go_wp2_with fail
              go_loopg [11] (j + 1 - i2) (fun k s10 wr => ∃ j2 : Nat, s10 = .int .i64 j2 ∧ j2 ≤ j ∧ i2 ≤ j2 + 1 ∧ j2 + 1 - i2 ≤ k ∧ Aside (SW enc w0 blk off dk wr) ∧ Hid (scanDown (fun x => !lt x dk[a]!) dk i2 j2 = scanDown (fun x => !lt x dk[a]!) dk i2 j))
              case atStart => exact ⟨j, rfl, Nat.le_refl _, hi2, Nat.le_refl _, S, rfl⟩
              case round =>
                clear S HE HU
                obtain ⟨j2, rfl, hj, hj2, hk2, S, HU⟩ := hrel
                by_cases hle : i2 ≤ j2
                · have ml := E.ml dk wr S.out
                  cases hv : lt dk[j2]! dk[a]!
                  all_goals
                    have hl : Aside _ := E.less0 S.out hds (i := j2) (j := a) (by omega) (by omega) hv
                  · have HG : Hid _ := scanDown_go (fun x => !lt x dk[a]!) dk i2 j2 hle (by omega) (by simp [hv])
                    clear hv
                    go_wp2_with (go_at_fn gl; refine (hl.out _ _ rfl rfl).mono ?_; rintro e w' ⟨rfl, hq, _⟩)
                    go_roundg (j2 - i2)
                    case measure => omega
                    case rel => exact ⟨j2 - 1, by go_num, by omega, by omega, by omega, hq, HG.out.symm.trans HU.out⟩
                  · have HG : Hid _ := scanDown_end (fun x => !lt x dk[a]!) dk i2 j2 (.inr (by simp [hv]))
                    clear hv
                    go_wp2_with (go_at_fn gl; refine (hl.out _ _ rfl rfl).mono ?_; rintro e w' ⟨rfl, hq, _⟩)
                    go_meet
                    case rel => exact ⟨j2, rfl, hj, hj2, HG.out.symm.trans HU.out, hq⟩
                · have HG : Hid _ := scanDown_end (fun x => !lt x dk[a]!) dk i2 j2 (.inl hle)
                  go_wp2_with fail
                  go_meet
                  case rel => exact ⟨j2, rfl, hj, hj2, HG.out.symm.trans HU.out, S⟩
            case rest =>
              clear S
              obtain ⟨j2, rfl, hj, hj2, HD, S⟩ := hcut
              by_cases hgt : i2 > j2
              · have HX : Hid (_ = (j2, dk)) := HE.out.symm.trans (part_break lt a i j dk HU.out HD.out hgt)
                have ms := E.ms dk wc S.out
                have hs : Aside _ := E.swap0 S.out hds (i := j2) (j := a) (by omega) (by omega)
                go_wp2_with (go_at_fn gs; refine (hs.out _ _ rfl rfl).mono ?_; rintro e w1 ⟨rfl, hw1⟩)
                go_ret2
                have e2 := HF.out
                rw [HX.out] at e2
                exact ⟨by rw [e2]; rfl, by rw [e2]; exact hw1.1⟩
              · have HX : Hid _ := (part_go lt a i j dk HU.out HD.out hgt).symm.trans HE.out
                have hlt := part_scans_lt lt a i j dk (by omega) HU.out HD.out (by omega)
                have ms := E.ms dk wc S.out
                have hs : Aside _ := E.swap0 S.out hds (i := i2) (j := j2) (by omega) (by omega)
                go_wp2_with (go_at_fn gs; refine (hs.out _ _ rfl rfl).mono ?_; rintro e w1 ⟨rfl, hw1⟩)
                go_roundg (j2 - 1 - i2)
                case measure => omega
                case rel => exact ⟨i2 + 1, j2 - 1, swp dk i2 j2, by go_num, by go_num, by omega, by omega, by omega, by omega, by rw [size_swp]; exact hds, hw1.1, HX⟩
#print axioms partition_w
end Go.Sr
