/- Numbers as texts, and plain names of variables, in plain words: of the program and of the reference. No condition but bounds on sizes. -/
import Derived.Test.YtpglgncmlcpgdaaGreatDoorPFnMonotoneMatchesNLwB
import Derived.Lib.ItoaNum
import Derived.Lib.ItoaLen
namespace Go.Cx
open Go.RowKit Go.Proofs
set_option linter.unusedVariables false
set_option linter.unusedSimpArgs false
theorem nDig_le : ∀ (k v : Nat), v < 10 ^ k → 1 ≤ k → Lib.nDigits v ≤ k := by
  intro k
  induction k with
  | zero => intro v _ h; omega
  | succ k ih =>
    intro v hv _
    by_cases h10 : v < 10
    · rw [Lib.nDigits_small h10]; omega
    · rw [Lib.nDigits_big h10]
      have h3 : v / 10 < 10 ^ k := by rw [Nat.pow_succ] at hv; omega
      have hk1 : 1 ≤ k := by
        cases k with
        | zero => simp at hv; omega
        | succ k => omega
      have := ih (v / 10) h3 hk1
      omega
theorem nDig19 {u : Nat} (h : u ≤ 9223372036854775808) : Lib.nDigits u ≤ 19 := nDig_le 19 u (by omega) (by omega)
theorem dig1 (u : Nat) : UInt8.ofNat (IntKind.u8.wrap (IntKind.i64.wrap ((48) + ((u : Int) % (10))))).toNat = UInt8.ofNat (48 + u % 10) := by
  rw [wrap_in (k := .i64) (InR.i64.2 (by omega)), wrap_in (InR.u8.2 (by omega))]
  congr 1
theorem sFmtL (k : Option Bytes) : ∀ (n u : Nat) (acc : Bytes), Lib.nDigits u ≤ n → acc.length + Lib.nDigits u ≤ 1000 → d_spec_FormatInt_R_L1 k n (u : Int) acc = some (Lib.decDigits u ++ acc) := by
  intro n
  induction n with
  | zero => intro u acc h _; have := Lib.nDigits_pos u; omega
  | succ n ih =>
    intro u acc hn hl
    have hp := Lib.nDigits_pos u
    have e0 : (decide (0 ≤ (u : Int)) && decide (0 < (10 : Int))) = true := by simp
    have e1 : decide (([UInt8.ofNat (48 + u % 10)] : Bytes).length + (acc : Bytes).length ≤ maxLen) = true := by unfold maxLen; simp; omega
    rw [d_spec_FormatInt_R_L1]
    simp only [dig1, e0, e1, cond_true]
    by_cases h10 : u < 10
    · have e2 : (((u : Int) / (10) : Int) == (0)) = true := by rw [beq_iff_eq]; omega
      rw [e2, cond_true, Lib.decDigits, dif_pos h10, Nat.mod_eq_of_lt h10]
    · have e2 : (((u : Int) / (10) : Int) == (0)) = false := by rw [beq_eq_false_iff_ne]; omega
      have e3 : ((u : Int) / 10) = ((u / 10 : Nat) : Int) := by omega
      have hd := Lib.nDigits_big h10
      rw [e2, cond_false, e3, ih (u / 10) _ (by omega) (by simp; omega)]
      conv => rhs; rw [Lib.decDigits, dif_neg h10]
      simp
theorem sFmtR (m u : Nat) (h : u ≤ 9223372036854775807) : d_spec_FormatInt_R (m + 1) (u : Int) = some (Lib.decDigits u) := by
  rw [d_spec_FormatInt_R]
  have e1 : (((u : Int)) == (-9223372036854775808)) = false := by rw [beq_eq_false_iff_ne]; omega
  have e2 : decide ((u : Int) < 0) = false := by simp
  have := nDig19 (u := u) (by omega)
  rw [e1, cond_false, e2, cond_false, sFmtL _ _ _ _ (by unfold fuel; omega) (by simp; omega)]
  simp
theorem itoa_min : Lib.itoa (-9223372036854775808) = [45, 57, 50, 50, 51, 51, 55, 50, 48, 51, 54, 56, 53, 52, 55, 55, 53, 56, 48, 56] := by
  unfold Lib.itoa
  simp [Lib.decDigits]
theorem sFmt (n : Int) (h : InR .i64 n) : d_spec_FormatInt n = some (Lib.itoa n) := by
  have h := InR.i64.1 h
  unfold d_spec_FormatInt
  rw [show fuel = 4194303 + 1 from rfl, d_spec_FormatInt_R]
  by_cases hm : n = -9223372036854775808
  · subst hm
    rw [itoa_min]
    rfl
  have e1 : ((n : Int) == (-9223372036854775808)) = false := by rw [beq_eq_false_iff_ne]; exact hm
  rw [e1, cond_false]
  by_cases hn : n < 0
  · have e2 : decide (n < 0) = true := by simpa using hn
    have e3 : IntKind.i64.wrap (0 - n) = ((n.natAbs : Nat) : Int) := by rw [wrap_in (InR.i64.2 (by omega))]; omega
    have hd := nDig19 (u := n.natAbs) (by omega)
    rw [e2, cond_true, e3, show (4194303 : Nat) = 4194302 + 1 from rfl, sFmtR _ _ (by omega), Option.bind_some]
    have e4 : decide (([45] : Bytes).length + (Lib.decDigits n.natAbs : Bytes).length ≤ maxLen) = true := by unfold maxLen; rw [Lib.decDigits_length]; simp; omega
    rw [e4, cond_true]
    unfold Lib.itoa
    rw [if_pos hn]
    rfl
  · have e2 : decide (n < 0) = false := by simpa using hn
    have e3 : n = ((n.toNat : Nat) : Int) := by omega
    have := nDig19 (u := n.toNat) (by omega)
    rw [e2, cond_false]
    conv => lhs; rw [e3]
    rw [sFmtL _ _ _ _ (by unfold fuel; omega) (by simp; omega)]
    unfold Lib.itoa
    rw [if_neg hn]
    simp
theorem iFmt (n : Int) : d_impl_FormatInt n = some (Lib.itoa n) := by
  unfold d_impl_FormatInt d_strconv_Itoa
  rfl
/-! renaming -/
/-! plain names -/
end Go.Cx
