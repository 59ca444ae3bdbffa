/- Chapter 1 in plain words: what the functions on texts and lists of texts compute, of the program and of the reference. No condition but bounds on lengths. -/
import Derived.Test.YtlhcfcgghbmhiaaPPathOfNPl
import Derived.Test.YtlhcfcgghbmhiaaPPathOfNFn1
import Derived.Sort.Walk0
namespace Go.Cx
open Go.RowKit Go.Proofs
set_option linter.unusedVariables false
set_option linter.unusedSimpArgs false
theorem roomK {n b : Nat} (hn : n ≤ 1099511627776) (hb : b ≤ 128) : room n b = true := by
  unfold room maxLen
  have : n * b ≤ 1099511627776 * 128 := Nat.mul_le_mul hn hb
  simp
  omega
theorem room1 {α : Type} {w : List α} {c : α → List D} {y : List D} {b : Nat} (h : w.length < 1099511627776) (hb : b ≤ 128) : room ((w.map c).length + ([y]).length) b = true := roomK (by simp; omega) hb
theorem room0 {β : Type} {v : List β} {d : β → List D} {b : Nat} (h : v.length ≤ 1099511627776) (hb : b ≤ 128) : room ((([] : List (List D))).length + (v.map d).length) b = true := roomK (by simp; omega) hb
/-- loops that hand on f x, one element a round -/
theorem mapL {α β γ : Type} {c : β → List D} {b : Nat} {f : α → Option β} {g : α → β} {L : List α → Nat → List β → Option γ} {k : List β → Option γ} (hb : b ≤ 128) (hnil : ∀ i w, L [] i w = k w)
    (hcons : ∀ x xs i w, L (x :: xs) i w = (f x).bind fun y => bif room ((w.map c).length + ([c y]).length) b then L xs (i + 1) (w ++ [y]) else none) :
    ∀ (l : List α) (i : Nat) (w : List β), (∀ x ∈ l, f x = some (g x)) → w.length + l.length ≤ 1099511627776 → L l i w = k (w ++ l.map g) := by
  intro l
  induction l with
  | nil => intro i w _ _; simp [hnil]
  | cons x xs ih =>
    intro i w hf hl
    simp only [List.length_cons] at hl
    rw [hcons, hf x (by simp), Option.bind_some, room1 (by omega) hb, cond_true, ih _ _ (fun y hy => hf y (by simp [hy])) (by simp; omega)]
    simp
/-! the order of texts -/
/-! ascending lists without repetition -/
/-! atoms, names, variables -/
theorem in_eq (a b c : Int) : d_spec_l1In a b c = some (decide (a ≥ b) && decide (a ≤ c)) := by
  unfold d_spec_l1In
  cases decide (a ≥ b) <;> rfl
theorem iTexts (l : List Bytes) (h : l.length ≤ 1099511627776) : d_impl_copyTexts l = some l := by
  unfold d_impl_copyTexts; rw [room0 h (by decide)]; rfl
end Go.Cx
