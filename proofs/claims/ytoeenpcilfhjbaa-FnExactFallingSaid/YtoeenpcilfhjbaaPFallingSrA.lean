/- The library's sort over an interface value whose methods are found in the worlds of one family (the sort of a reversed list: the look-up reads the heap). Plain lemmas on the family; insertionSort. -/
import Derived.Shelf.GgSortMore.Lays
import Derived.Shelf.GgSortFunc.SW
import Derived.Deep.LoopGhost
import Derived.Sort.WalkB12
namespace Go.Sr
set_option linter.unusedVariables false
set_option linter.unusedSimpArgs false
open Go.Shelf Go.RowKit Go.Lib Go.Sort Go.Proofs
variable {P : Program} {ρ : Ren} {α : Type} [Inhabited α] {T : TypeId} {rv rl rs : Value} {gl gs : Nat} {enc : α → Value} {lt : α → α → Bool} {w0 : World} {blk off n : Nat}
/-- nothing but block b has changed (and draws) -/
structure Same (b : Nat) (w w' : World) : Prop where
  size : w'.heap.size = w.heap.size
  cell : ∀ p : Addr, p.block ≠ b → w'.cell? p = w.cell? p
  frozen : ∀ p : Addr, p.block ≠ b → w'.frozen? p = w.frozen? p
/-- what was there is as it was -/
structure Kp (w w' : World) : Prop where
  size : w.heap.size ≤ w'.heap.size
  cell : ∀ p : Addr, p.block < w.heap.size → w'.cell? p = w.cell? p
  frozen : ∀ p : Addr, p.block < w.heap.size → w'.frozen? p = w.frozen? p
/-- what is known of the interface value: in each world of the family its methods are found, compare and swap -/
structure Ev (P : Program) (T : TypeId) (rv rl rs : Value) (gl gs : Nat) (enc : α → Value) (lt : α → α → Bool) (w0 : World) (blk off n : Nat) : Prop where
  hn : n < 4611686018427387904
  hb : blk < w0.heap.size
  ml : ∀ dk W, SW enc w0 blk off dk W → Sem.run P (method (P.types.size + 100) T rv "Less") W = .ok (gl, rl) W
  ms : ∀ dk W, SW enc w0 blk off dk W → Sem.run P (method (P.types.size + 100) T rv "Swap") W = .ok (gs, rs) W
  el : ∀ args w, (callFunc gl args).run P w = .ok (.enter gl args) w
  es : ∀ args w, (callFunc gs args).run P w = .ok (.enter gs args) w
  less : ∀ dk W, SW enc w0 blk off dk W → dk.size = n → ∀ i j : Nat, i < n → j < n → Calls P gl #[rl, .int .i64 i, .int .i64 j] W fun e w' => e = .returned (.bool (lt dk[i]! dk[j]!)) ∧ SW enc w0 blk off dk w' ∧ Kp W w'
  swap : ∀ dk W, SW enc w0 blk off dk W → dk.size = n → ∀ i j : Nat, i < n → j < n → Calls P gs #[rs, .int .i64 i, .int .i64 j] W fun e w' => e = .returned (.tuple #[]) ∧ SW enc w0 blk off (swp dk i j) w' ∧ Same blk W w'
theorem Ev.less0 (E : Ev P T rv rl rs gl gs enc lt w0 blk off n) {dk : Array α} {w : World} (S : SW enc w0 blk off dk w) (hd : dk.size = n) {i j : Nat} {v : Bool} (hi : i < n) (hj : j < n) (hv : lt dk[i]! dk[j]! = v) (x y : Int) (hx : (i : Int) = x) (hy : (j : Int) = y) :
    Calls P gl #[rl, .int .i64 x, .int .i64 y] w fun e w' => e = .returned (.bool v) ∧ SW enc w0 blk off dk w' ∧ Kp w w' := by
  subst hx hy hv; exact E.less dk w S hd i j hi hj
theorem Ev.swap0 (E : Ev P T rv rl rs gl gs enc lt w0 blk off n) {dk : Array α} {w : World} (S : SW enc w0 blk off dk w) (hd : dk.size = n) {i j : Nat} (hi : i < n) (hj : j < n) (x y : Int) (hx : (i : Int) = x) (hy : (j : Int) = y) :
    Calls P gs #[rs, .int .i64 x, .int .i64 y] w fun e w' => e = .returned (.tuple #[]) ∧ SW enc w0 blk off (swp dk i j) w' ∧ Same blk w w' := by
  subst hx hy; exact E.swap dk w S hd i j hi hj
set_option maxHeartbeats 2000000 in
set_option maxRecDepth 100000 in
theorem insertionSort_w (L : LaysGt.n33 P ρ) (E : Ev P T rv rl rs gl gs enc lt w0 blk off n) (a b : Nat) (d : Array α) (w : World)
    (hS : SW enc w0 blk off d w) (hd : d.size = n) (hab : a ≤ b) (hb : b ≤ n) :
    Calls P (ρ.f 33) #[.iface T rv, .int .i64 a, .int .i64 b] w fun e w' => e = .returned (.tuple #[]) ∧ SW enc w0 blk off (insertionSort lt d a b) w' := by
  have mixed := L.mixed; have t0 := L.t0; have a0 := L.a0; have z0 := L.z0; have v0 := L.v0; have t3 := L.t3; have a3 := L.a3; have z3 := L.z3; have v3 := L.v3; have t4 := L.t4; have a4 := L.a4; have z4 := L.z4; have v4 := L.v4; have t26 := L.t26; have a26 := L.a26; have z26 := L.z26; have v26 := L.v26; have t38 := L.t38; have a38 := L.a38; have z38 := L.z38; have v38 := L.v38; have t43 := L.t43; have a43 := L.a43; have z43 := L.z43; have v43 := L.v43; have t45 := L.t45; have a45 := L.a45; have z45 := L.z45; have v45 := L.v45
  have el := E.el; have es := E.es; have hn := E.hn
  have S0 : Aside (SW enc w0 blk off d w) := hS
  clear hS
  go_enter L.f33, BodyGt.n33_ntmps ρ
  go_wp2
  go_loopw [6] (fun vi wr => ∃ (i : Nat) (dk : Array α), vi = .int .i64 i ∧ a < i ∧ i ≤ b + 1 ∧ dk.size = n ∧ Aside (SW enc w0 blk off dk wr) ∧ Hid (insOuter lt a b i dk = insertionSort lt d a b)) (fun vi _ => b + 1 - (Proofs.intOf vi).toNat)
  case atStart => exact ⟨a + 1, d, by go_num, by omega, by omega, hd, S0, rfl⟩
  case round =>
    obtain ⟨i, dk, rfl, hai, hib, hsk, S, HO⟩ := hrel
    go_wp2
    · have hlt : i < b := by assumption
      go_loopw [7] (fun vj wr2 => ∃ (j : Nat) (dj : Array α), vj = .int .i64 j ∧ a ≤ j ∧ j ≤ i ∧ dj.size = n ∧ Aside (SW enc w0 blk off dj wr2) ∧ Hid (insInner lt a j dj = insInner lt a i dk)) (fun vj _ => (Proofs.intOf vj).toNat)
      case atStart => exact ⟨i, dk, rfl, by omega, Nat.le_refl _, hsk, S, rfl⟩
      case round =>
        clear S S0
        obtain ⟨j, dj, rfl, haj, hji, hsj, S, HI⟩ := hrel
        have done : (j ≤ a ∨ lt dj[j]! dj[j - 1]! = false) → ∀ w', SW enc w0 blk off dj w' → ∃ (i' : Nat) (dk' : Array α), Value.int .i64 ((i : Int) + 1) = .int .i64 i' ∧ a < i' ∧ i' ≤ b + 1 ∧ dk'.size = n ∧ Aside (SW enc w0 blk off dk' w') ∧ Hid (insOuter lt a b i' dk' = insertionSort lt d a b) := fun h w' hw =>
          ⟨i + 1, dj, by go_num, by omega, by omega, hsj, hw, (show insOuter lt a b (i + 1) dj = insertionSort lt d a b by rw [← HO.out, insOuter_go _ _ _ _ _ hlt, ← HI.out, insInner_stop _ _ _ _ h])⟩
        have D : Hid _ := done
        clear done
        by_cases hja : a < j
        · have e1 : ((j - 1 : Nat) : Int) = (j : Int) - 1 := by omega
          have ml := E.ml dj wr S.out
          cases hlv : lt dj[j]! dj[j - 1]! with
          | true =>
            have hl : Aside _ := E.less0 S.out hsj (i := j) (j := j - 1) (by omega) (by omega) hlv
            have HV : Hid _ := hlv
            clear hlv
            go_wp2_with (first
              | (go_at_fn gs; refine (hw.out _ _ rfl e1).mono ?_; rintro e w' ⟨rfl, hw2⟩)
              | (go_at_fn gl; refine (hl.out _ _ rfl e1).mono ?_; rintro e w1 ⟨rfl, h1, _⟩; have ms := E.ms dj w1 h1; have hw : Aside _ := E.swap0 h1 hsj (i := j) (j := j - 1) (by omega) (by omega); clear h1))
            go_roundw
            case rel =>
              (repeat apply Exists.intro)
              refine ⟨⟨j - 1, swp dj j (j - 1), by congr 1 <;> omega, by omega, by omega, by rw [size_swp]; exact hsj, hw2.1, ?_⟩, by rw [decide_eq_true hlt, e1]⟩
              exact (show insInner lt a (j - 1) (swp dj j (j - 1)) = insInner lt a i dk by rw [← HI.out, insInner_go lt a j dj hja HV.out])
            case measure => simp [Proofs.intOf]; omega
          | false =>
            have hl : Aside _ := E.less0 S.out hsj (i := j) (j := j - 1) (by omega) (by omega) hlv
            have HV : Hid _ := hlv
            clear hlv
            go_wp2_with (go_at_fn gl; refine (hl.out _ _ rfl e1).mono ?_; rintro e w1 ⟨rfl, h1, _⟩)
            go_roundw
            case rel => exact D.out (Or.inr HV.out) w1 h1
            case measure => simp [Proofs.intOf]; omega
        · go_wp2
          go_roundw
          case rel => exact D.out (Or.inl (by omega)) wr S.out
          case measure => simp [Proofs.intOf]; omega
    · have hge : ¬ i < b := by assumption
      go_end0
      exact ⟨rfl, by rw [← HO.out, insOuter_stop _ _ _ _ _ hge]; exact S.out⟩
#print axioms insertionSort_w
end Go.Sr
