/- Reading numbers, and the orders of atoms, facts and tokens, in plain words: of the program and of the reference. No condition but bounds on sizes. -/
import Derived.Test.YtdckcgjimblpkaaDoorPCoversNLwD
import Derived.Test.YtdckcgjimblpkaaDoorPCoversNLwE
import Derived.Lib.Atoi
namespace Go.Cx
open Go.RowKit Go.Proofs
set_option linter.unusedVariables false
set_option linter.unusedSimpArgs false
/-! numbers -/
def numB (s : Bytes) : Option Nat := if 1 ≤ s.length ∧ s.length ≤ 4 then (match Lib.decFrom 0 s with | some n => if Lib.decDigits n = s then some n else none | none => none) else none
def pI (s : Bytes) : Int × Bool := match numB s with | some n => ((n : Int), true) | none => (0, false)
theorem sParseL (a : Bytes) (k : Int → Option (Int × Bool)) (ha : a.length ≤ 4) : ∀ (rest pre : Bytes) (acc : Nat), a = pre ++ rest → acc < 10 ^ pre.length → ∀ n, rest.length < n →
    d_spec_ParseInt_L1 a k n (acc : Int) (pre.length : Int) = (match Lib.decFrom acc rest with | some m => k (m : Int) | none => some (0, false)) := by
  intro rest
  induction rest with
  | nil =>
    intro pre acc h _ n hn
    obtain ⟨m, rfl⟩ : ∃ m, n = m + 1 := ⟨n - 1, by simp at hn; omega⟩
    have e1 : decide ((pre.length : Int) < (a.length : Int)) = false := by simp [h]
    rw [d_spec_ParseInt_L1, e1]; rfl
  | cons x xs ih =>
    intro pre acc h hacc n hn
    obtain ⟨m, rfl⟩ : ∃ m, n = m + 1 := ⟨n - 1, by simp at hn; omega⟩
    have hl : a.length = pre.length + (xs.length + 1) := by rw [h]; simp
    have e1 : decide ((pre.length : Int) < (a.length : Int)) = true := by rw [hl]; simp; omega
    have e4 : IntKind.i64.wrap ((pre.length : Int) + 1) = ((pre ++ [x]).length : Int) := by rw [wrap1 (by omega)]; simp
    have h10 : acc < 10000 := Nat.lt_of_lt_of_le hacc (Nat.pow_le_pow_right (by omega) (show pre.length ≤ 4 by omega))
    have hx := x.toNat_lt
    rw [d_spec_ParseInt_L1, e1, cond_true, atI_mid h, Option.bind_some, e4]
    by_cases c1 : (x.toNat : Int) < 48
    · have : Lib.digitVal x = none := by unfold Lib.digitVal; rw [if_neg (by omega)]
      simp only [Lib.decFrom, this]
      rw [decide_eq_true c1, cond_true]
    · by_cases c2 : (x.toNat : Int) > 57
      · have : Lib.digitVal x = none := by unfold Lib.digitVal; rw [if_neg (by omega)]
        simp only [Lib.decFrom, this]
        rw [decide_eq_false c1, cond_false, decide_eq_true c2, cond_true]
      · have hd : Lib.digitVal x = some (x.toNat - 48) := by unfold Lib.digitVal; rw [if_pos (by omega)]
        have e5 : IntKind.i64.wrap ((IntKind.i64.wrap ((10) * (acc : Int))) + (IntKind.i64.wrap (IntKind.u8.wrap ((x.toNat : Int) - (48))))) = ((acc * 10 + (x.toNat - 48) : Nat) : Int) := by
          rw [wrap_in (k := .u8) (InR.u8.2 (by omega)), wrap_in (n := (10 : Int) * (acc : Int)) (InR.i64.2 (by omega)), wrap_in (n := (x.toNat : Int) - 48) (InR.i64.2 (by omega)), wrap_in (InR.i64.2 (by omega))]
          omega
        simp only [Lib.decFrom, hd]
        rw [decide_eq_false c1, cond_false, decide_eq_false c2, cond_false, e5]
        refine ih (pre ++ [x]) _ (by simp [h]) ?_ m (by simp at hn; omega)
        rw [List.length_append, List.length_singleton, Nat.pow_succ]
        omega
theorem sParse (s : Bytes) : d_spec_ParseInt s = some (pI s) := by
  unfold d_spec_ParseInt
  rw [in_eq, Option.bind_some]
  by_cases hl : 1 ≤ s.length ∧ s.length ≤ 4
  · have e1 : (decide ((s.length : Int) ≥ 1) && decide ((s.length : Int) ≤ 4)) = true := by simp; omega
    have t := sParseL s (fun z => ((d_spec_FormatInt (z)).bind fun y29 => (bif !((y29 : Bytes) == (s)) then (some ((0, false))) else (some ((z, true)))))) hl.2 s [] 0 rfl (by simp) fuel (by unfold fuel; omega)
    rw [e1, Bool.not_true, cond_false]
    refine t.trans ?_
    unfold pI numB
    rw [if_pos hl]
    cases hd : Lib.decFrom 0 s with
    | none => rfl
    | some m =>
      have hm := Lib.decFrom_lt s 0 m hd
      have h10 : m < 10000 := by
        have := Nat.pow_le_pow_right (n := 10) (by omega) hl.2
        omega
      simp only
      rw [sFmt _ (InR.i64.2 (by omega)), Option.bind_some]
      have e2 : Lib.itoa (m : Int) = Lib.decDigits m := by unfold Lib.itoa; rw [if_neg (by omega)]; simp
      rw [e2]
      by_cases he : Lib.decDigits m = s
      · rw [if_pos he, he]; simp
      · rw [if_neg he]
        have : (Lib.decDigits m == s) = false := by simpa using he
        rw [this]; rfl
  · have e1 : (decide ((s.length : Int) ≥ 1) && decide ((s.length : Int) ≤ 4)) = false := by
      rw [Bool.and_eq_false_iff, decide_eq_false_iff_not, decide_eq_false_iff_not]; omega
    rw [e1]
    unfold pI numB
    rw [if_neg hl]
    rfl
/-! orders -/
def cmpT (a b : Bytes) : Int := if Op.bytesLess a b = true then -1 else if a = b then 0 else 1
def cmpN (x y : Int) : Int := if x < y then -1 else if x > y then 1 else 0
def cmpA (a b : Bytes) : Int := match numB a, numB b with
  | some x, some y => cmpN x y
  | some _, none => -1
  | none, some _ => 1
  | none, none => cmpT a b
def diffL {α : Type} (g : α → α → Int) : List α → List α → Option Int
  | x :: xs, y :: ys => if g x y ≠ 0 then some (g x y) else diffL g xs ys
  | _, _ => none
def cmpL {α : Type} (g : α → α → Int) (a b : List α) : Int := match diffL g a b with | some z => z | none => cmpN a.length b.length
def cmpF (a b : Fact) : Int := if a.rel ≠ b.rel then cmpT a.rel b.rel else cmpL cmpA a.args b.args
theorem cmpT_ne {a b : Bytes} (h : a ≠ b) : cmpT a b ≠ 0 := by
  unfold cmpT
  split
  · omega
  · first | omega | (rw [if_neg h]; omega)
theorem cmpLoop {α : Type} {f : α → α → Option Int} {g : α → α → Int} {c : α → List D} {L : List α → Nat → Option Int} {k : Option Int} {b : List α} (hnil : ∀ i, L [] i = k)
    (hcons : ∀ x xs i, L (x :: xs) i = bif decide (((i : Int) : Int) < (((b.map c).length : Int))) then ((atI b ((i : Int))).bind fun y => ((f x y).bind fun z => (bif (z : Int) != (0) then (some z) else (L xs (i + 1))))) else k) :
    ∀ (l pre rest : List α), b = pre ++ rest → (∀ x ∈ l, ∀ y ∈ rest, f x y = some (g x y)) → L l pre.length = (match diffL g l rest with | some z => some z | none => k) := by
  intro l
  induction l with
  | nil => intro pre rest h _; rw [hnil]; cases rest <;> rfl
  | cons x xs ih =>
    intro pre rest h hf
    rw [hcons]
    cases rest with
    | nil =>
      have e1 : decide ((pre.length : Int) < ((b.map c).length : Int)) = false := by simp [h]
      rw [e1]; rfl
    | cons y ys =>
      have e1 : decide ((pre.length : Int) < ((b.map c).length : Int)) = true := by simp [h]; omega
      rw [e1, cond_true, atI_mid h, Option.bind_some, hf x (by simp) y (by simp), Option.bind_some]
      simp only [diffL]
      have t := ih (pre ++ [y]) ys (by simp [h]) (fun x' hx y' hy => hf x' (by simp [hx]) y' (by simp [hy]))
      rw [List.length_append, List.length_singleton] at t
      by_cases hz : g x y = 0
      · have e2 : (g x y != 0) = false := by simp [hz]
        rw [e2, cond_false, t, if_neg (by simp [hz])]
      · have e2 : (g x y != 0) = true := by simp [hz]
        rw [e2, cond_true, if_pos hz]
theorem cmpN_eq (x y : Int) : (bif decide (x < y) then some (-1 : Int) else bif decide (x > y) then some 1 else some 0) = some (cmpN x y) := by
  unfold cmpN
  by_cases h1 : x < y
  · simp [h1]
  · by_cases h2 : x > y
    · simp [h1, h2]
    · simp [h1, h2]
theorem sCmpT (a b : Bytes) : d_spec_l1Cmp a b = some (cmpT a b) := by
  unfold d_spec_l1Cmp cmpT
  cases h : Op.bytesLess a b with
  | true => rfl
  | false =>
    by_cases e : a = b
    · simp [e]
    · have e' : (a == b) = false := by simpa using e
      simp [e, e']
theorem sCmpA (a b : Bytes) : d_spec_CompareAtoms a b = some (cmpA a b) := by
  unfold d_spec_CompareAtoms cmpA
  rw [sParse, sParse, Option.bind_some, Option.bind_some, sCmpT]
  unfold pI
  cases numB a with
  | none => cases numB b <;> rfl
  | some x =>
    cases numB b with
    | none => rfl
    | some y =>
      simp only [cond_true, Bool.not_true, cond_false]
      exact cmpN_eq _ _
theorem sCmpF (a b : Fact) : d_spec_CompareFacts a b = some (cmpF a b) := by
  unfold d_spec_CompareFacts cmpF
  by_cases h : a.rel = b.rel
  · have e : (a.rel == b.rel) = true := by simpa using h
    rw [e, Bool.not_true, cond_false, if_neg (by simpa using h)]
    have t := fun k => cmpLoop (f := d_spec_CompareAtoms) (g := cmpA) (c := tx) (L := d_spec_CompareFacts_L1 a b k) (b := b.args) (k := k) (fun _ => rfl) (fun _ _ _ => rfl) a.args [] b.args rfl (fun x _ y _ => sCmpA x y)
    refine (t _).trans ?_
    unfold cmpL
    cases diffL cmpA a.args b.args with
    | some z => rfl
    | none => simp only [List.length_map]; exact cmpN_eq _ _
  · have e : (a.rel == b.rel) = false := by simpa using h
    rw [e, Bool.not_false, cond_true, if_pos h, sCmpT]; rfl
/-! fact sets -/
end Go.Cx
