/- Contracts of the library's functions, from the shelf's theorems, in the words of this walk. No condition; plain lemmas. -/
import Derived.Test.YtmifcpepeplijaaGreatDoorPFnAllFoundNData
import Derived.Shelf.Strings.OnBuilder
namespace Go.Cx
set_option linter.unusedVariables false
set_option linter.unusedSimpArgs false
open Go.RowKit Go.Proofs Go.Shelf
theorem Rd.str_inv {w : World} {v : Value} {s : Bytes} {bs : List Nat} (h : Rd w v (.str s) bs) : ∃ y : ByteArray, v = .string y ∧ y.data.toList = s ∧ y.size ≤ maxLen ∧ bs = [] := by
  cases h with
  | str y hy => exact ⟨y, rfl, rfl, hy, rfl⟩
theorem Rds.strs {w : World} {xs : List Bytes} : ∀ {cs : List Value} {bs : List Nat}, Rds w cs (xs.map D.str) bs → ∃ ys : List ByteArray, cs = ys.map Value.string ∧ ys.map (·.data.toList) = xs := by
  induction xs with
  | nil => intro cs bs h; cases h; exact ⟨[], rfl, rfl⟩
  | cons x xs ih =>
    intro cs bs h
    cases h with
    | cons v vs d ds b1 b2 h1 h2 h3 =>
      obtain ⟨y, e1, e2, _, _⟩ := h2.str_inv
      obtain ⟨ys, e3, e4⟩ := ih h3
      exact ⟨y :: ys, by simp [e1, e3], by simp [e2, e4]⟩
theorem flat_tx (xs : List Bytes) : (xs.map tx).flatten = xs.map D.str := by
  induction xs with
  | nil => rfl
  | cons x xs ih => simp [tx, ih]
/-- a call that comes back with a text and leaves all as it was below the heap's end -/
theorem Calls.txt {P : Program} {f : FuncId} {args : Array Value} {w : World} {r : ByteArray} {Θ : Nat → Nat} (hr : r.size ≤ maxLen)
    (h : Calls P f args w fun e w' => e = .returned (.string r) ∧ Below w.heap.size w w') :
    Calls P f args w (fun e w' => ∃ v bs' ts us, e = .returned v ∧ Below w.heap.size w w' ∧ ResS w' v (.str r.data.toList) bs' ts us ∧ (∀ b ∈ bs', b < w.heap.size → Θ b = 0) ∧ (∀ b ∈ bs', b ∉ ts) ∧ us.Nodup ∧
      (∀ b ∈ us, w.heap.size ≤ b ∧ Wr w' b) ∧ ∀ b ∈ ts, b ∈ us) :=
  h.mono fun e w' ⟨h1, h2⟩ => ⟨_, [], [], [], h1, h2, .v (.cell (.pure (.str r hr))), by simp, by simp, by simp, by simp, by simp⟩
end Go.Cx
