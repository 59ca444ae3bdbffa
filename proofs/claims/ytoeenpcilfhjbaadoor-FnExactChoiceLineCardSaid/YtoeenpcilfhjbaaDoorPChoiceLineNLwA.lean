/- Chapter 1 in plain words: what the functions on texts and lists of texts compute, of the program and of the reference. No condition but bounds on lengths. -/
import Derived.Test.YtoeenpcilfhjbaaDoorPChoiceLineNPl
import Derived.Test.YtoeenpcilfhjbaaDoorPChoiceLineNFn1
import Derived.Sort.Walk0
namespace Go.Cx
open Go.RowKit Go.Proofs
set_option linter.unusedVariables false
set_option linter.unusedSimpArgs false
theorem atI_mid {α : Type} {a pre xs : List α} {x : α} (h : a = pre ++ x :: xs) : atI a (pre.length : Int) = some x := by
  unfold atI
  have : a[pre.length]? = some x := by rw [h]; simp
  simp [this]
theorem lenOk {α : Type} {l : List α} (h : l.length ≤ 1099511627776) : decide (l.length ≤ maxLen) = true := by unfold maxLen; simp; omega
/-- loops that stop with false at the first element that does not fit -/
theorem allL {α : Type} {f : α → Option Bool} {p : α → Bool} {L : List α → Nat → Option Bool} {k : Option Bool} (hnil : ∀ i, L [] i = k)
    (hcons : ∀ x xs i, L (x :: xs) i = (f x).bind fun y => bif !y then some false else L xs (i + 1)) : ∀ (l : List α) (i : Nat), (∀ x ∈ l, f x = some (p x)) → L l i = bif l.all p then k else some false := by
  intro l
  induction l with
  | nil => intro i _; simp [hnil]
  | cons x xs ih =>
    intro i hf
    rw [hcons, hf x (by simp), Option.bind_some, ih _ (fun y hy => hf y (by simp [hy])), List.all_cons]
    cases p x <;> simp
/-! the order of texts -/
/-! ascending lists without repetition -/
/-! atoms, names, variables -/
def in1 (x : UInt8) : Bool := decide ((x.toNat : Int) ≥ 97) && decide ((x.toNat : Int) ≤ 122)
def in2 (x : UInt8) : Bool := decide ((x.toNat : Int) ≥ 48) && decide ((x.toNat : Int) ≤ 57)
def ab (x : UInt8) : Bool := in1 x || in2 x
def lenB (s : Bytes) : Bool := decide ((s.length : Int) ≥ 1) && decide ((s.length : Int) ≤ 8)
def atomB (s : Bytes) : Bool := s.all ab && lenB s
def headB : Bytes → Bool
  | [] => false
  | x :: _ => decide ((x.toNat : Int) ≥ 97)
def nameB (s : Bytes) : Bool := atomB s && headB s
theorem atomB_len {s : Bytes} (h : atomB s = true) : 1 ≤ s.length ∧ s.length ≤ 8 := by
  simp only [atomB, lenB, Bool.and_eq_true, decide_eq_true_eq] at h; omega
theorem nameB_len {s : Bytes} (h : nameB s = true) : 1 ≤ s.length ∧ s.length ≤ 8 := by
  simp only [nameB, Bool.and_eq_true] at h; exact atomB_len h.1
theorem wrapB (x : UInt8) : IntKind.i64.wrap ((x.toNat : Nat) : Int) = (x.toNat : Int) := wrap_in (InR.i64.2 (by have := x.toNat_lt; omega))
theorem wrap1 {n : Nat} (h : n ≤ 1099511627776) : IntKind.i64.wrap ((n : Int) + 1) = ((n + 1 : Nat) : Int) := by rw [wrap_in (InR.i64.2 (by omega))]; omega
theorem in_eq (a b c : Int) : d_spec_l1In a b c = some (decide (a ≥ b) && decide (a ≤ c)) := by
  unfold d_spec_l1In
  cases decide (a ≥ b) <;> rfl
theorem sAtomL (a : Bytes) (k : Option Bool) (ha : a.length ≤ 1048576) : ∀ (rest pre : Bytes), a = pre ++ rest → ∀ n, rest.length < n → d_spec_IsAtom_L1 a k n (pre.length : Int) = bif rest.all ab then k else some false := by
  intro rest
  induction rest with
  | nil =>
    intro pre h n hn
    obtain ⟨m, rfl⟩ : ∃ m, n = m + 1 := ⟨n - 1, by simp at hn; omega⟩
    have e1 : decide ((pre.length : Int) < (a.length : Int)) = false := by simp [h]
    rw [d_spec_IsAtom_L1, e1]; rfl
  | cons x xs ih =>
    intro pre h n hn
    obtain ⟨m, rfl⟩ : ∃ m, n = m + 1 := ⟨n - 1, by simp at hn; omega⟩
    have hl : a.length = pre.length + (xs.length + 1) := by rw [h]; simp
    have e1 : decide ((pre.length : Int) < (a.length : Int)) = true := by rw [hl]; simp; omega
    have e4 : IntKind.i64.wrap ((pre.length : Int) + 1) = ((pre ++ [x]).length : Int) := by rw [wrap1 (by omega)]; simp
    have t := ih (pre ++ [x]) (by simp [h]) m (by simp at hn; omega)
    rw [d_spec_IsAtom_L1, e1, cond_true, atI_mid h, Option.bind_some, wrapB, in_eq, in_eq, Option.bind_some, Option.bind_some, e4, t, List.all_cons]
    show (bif !in1 x then (bif !in2 x then _ else _) else _) = bif (in1 x || in2 x) && xs.all ab then k else some false
    cases in1 x <;> cases in2 x <;> simp
theorem sAtom (a : Bytes) (ha : a.length ≤ 1048576) : d_spec_IsAtom a = some (atomB a) := by
  unfold d_spec_IsAtom
  refine (sAtomL a _ ha a [] rfl fuel (by unfold fuel; omega)).trans ?_
  rw [in_eq, Option.bind_some]
  show _ = some (a.all ab && lenB a)
  cases a.all ab <;> rfl
theorem iAtomL (a : Bytes) (k : Option Bool) (ha : a.length ≤ 1048576) : ∀ (rest pre : Bytes), a = pre ++ rest → ∀ n, rest.length < n → d_impl_IsAtom_L1 a k n (pre.length : Int) = bif rest.all ab then k else some false := by
  intro rest
  induction rest with
  | nil =>
    intro pre h n hn
    obtain ⟨m, rfl⟩ : ∃ m, n = m + 1 := ⟨n - 1, by simp at hn; omega⟩
    have e1 : decide ((pre.length : Int) < (a.length : Int)) = false := by simp [h]
    rw [d_impl_IsAtom_L1, e1]; rfl
  | cons x xs ih =>
    intro pre h n hn
    obtain ⟨m, rfl⟩ : ∃ m, n = m + 1 := ⟨n - 1, by simp at hn; omega⟩
    have hl : a.length = pre.length + (xs.length + 1) := by rw [h]; simp
    have e1 : decide ((pre.length : Int) < (a.length : Int)) = true := by rw [hl]; simp; omega
    have e4 : IntKind.i64.wrap ((pre.length : Int) + 1) = ((pre ++ [x]).length : Int) := by rw [wrap1 (by omega)]; simp
    have t := ih (pre ++ [x]) (by simp [h]) m (by simp at hn; omega)
    rw [d_impl_IsAtom_L1, e1, cond_true, atI_mid h, Option.bind_some, e4, t, List.all_cons]
    have c1 : decide ((x.toNat : Int) ≥ 97) = !decide ((x.toNat : Int) < 97) := by rw [Bool.eq_iff_iff]; simp
    have c2 : decide ((x.toNat : Int) ≤ 122) = !decide ((x.toNat : Int) > 122) := by rw [Bool.eq_iff_iff]; simp
    have c3 : decide ((x.toNat : Int) ≥ 48) = !decide ((x.toNat : Int) < 48) := by rw [Bool.eq_iff_iff]; simp
    have c4 : decide ((x.toNat : Int) ≤ 57) = !decide ((x.toNat : Int) > 57) := by rw [Bool.eq_iff_iff]; simp
    rw [ab, in1, in2, c1, c2, c3, c4]
    cases decide ((x.toNat : Int) < 97) <;> cases decide ((x.toNat : Int) > 122) <;> cases decide ((x.toNat : Int) < 48) <;> cases decide ((x.toNat : Int) > 57) <;> simp
theorem iAtom (a : Bytes) (ha : a.length ≤ 1048576) : d_impl_IsAtom a = some (atomB a) := by
  unfold d_impl_IsAtom
  rw [show d_impl_IsAtom_L1 a (some true) fuel 0 = _ from iAtomL a _ ha a [] rfl fuel (by unfold fuel; omega)]
  have c1 : decide ((a.length : Int) ≥ 1) = !decide ((a.length : Int) < 1) := by rw [Bool.eq_iff_iff]; simp
  have c2 : decide ((a.length : Int) ≤ 8) = !decide ((a.length : Int) > 8) := by rw [Bool.eq_iff_iff]; simp
  rw [atomB, lenB, c1, c2]
  cases decide ((a.length : Int) < 1) <;> cases decide ((a.length : Int) > 8) <;> cases a.all ab <;> rfl
theorem sName (a : Bytes) (ha : a.length ≤ 1048576) : d_spec_IsName a = some (nameB a) := by
  unfold d_spec_IsName
  rw [sAtom a ha, Option.bind_some, nameB]
  cases h : atomB a with
  | false => rfl
  | true =>
    cases a with
    | nil => simp [atomB, lenB] at h
    | cons x xs =>
      rw [show atI (x :: xs) 0 = some x from rfl]
      simp only [cond_true, Option.bind_some, wrapB, in_eq, Bool.true_and, Option.some.injEq, headB]
      simp only [atomB, List.all_cons, ab, in1, in2, Bool.and_eq_true, Bool.or_eq_true, decide_eq_true_eq] at h
      rw [Bool.eq_iff_iff]
      simp only [Bool.and_eq_true, decide_eq_true_eq]
      omega
theorem iName (a : Bytes) (ha : a.length ≤ 1048576) : d_impl_IsName a = some (nameB a) := by
  unfold d_impl_IsName
  rw [iAtom a ha, Option.bind_some, nameB]
  cases h : atomB a with
  | false => rfl
  | true =>
    cases a with
    | nil => simp [atomB, lenB] at h
    | cons x xs => rfl
end Go.Cx
