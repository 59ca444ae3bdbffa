/- Contracts of the library's functions, from the shelf's theorems, in the words of this walk. No condition; plain lemmas. -/
import Derived.Test.YtoeenpcilfhjbaaDoorNData
import Derived.Shelf.Strings.OnBuilder
namespace Go.Cx
set_option linter.unusedVariables false
set_option linter.unusedSimpArgs false
open Go.RowKit Go.Proofs Go.Shelf

theorem Rd.str_inv {w : World} {v : Value} {s : Bytes} {bs : List Nat} (h : Rd w v (.str s) bs) : ∃ y : ByteArray, v = .string y ∧ y.data.toList = s ∧ y.size ≤ maxLen ∧ bs = [] := by
  cases h with
  | str y hy => exact ⟨y, rfl, rfl, hy, rfl⟩

theorem Rds.strs {w : World} {xs : List Bytes} : ∀ {cs : List Value} {bs : List Nat}, Rds w cs (xs.map D.str) bs → ∃ ys : List ByteArray, cs = ys.map Value.string ∧ ys.map (·.data.toList) = xs := by
  induction xs with
  | nil => intro cs bs h; cases h; exact ⟨[], rfl, rfl⟩
  | cons x xs ih =>
    intro cs bs h
    cases h with
    | cons v vs d ds b1 b2 h1 h2 h3 =>
      obtain ⟨y, e1, e2, _, _⟩ := h2.str_inv
      obtain ⟨ys, e3, e4⟩ := ih h3
      exact ⟨y :: ys, by simp [e1, e3], by simp [e2, e4]⟩

theorem flat_tx (xs : List Bytes) : (xs.map tx).flatten = xs.map D.str := by
  induction xs with
  | nil => rfl
  | cons x xs ih => simp [tx, ih]

/-- a call that comes back with a text and leaves all as it was below the heap's end -/
theorem Calls.txt {P : Program} {f : FuncId} {args : Array Value} {w : World} {r : ByteArray} {Θ : Nat → Nat} (hr : r.size ≤ maxLen)
    (h : Calls P f args w fun e w' => e = .returned (.string r) ∧ Below w.heap.size w w') :
    Calls P f args w (fun e w' => ∃ v bs' ts us, e = .returned v ∧ Below w.heap.size w w' ∧ ResS w' v (.str r.data.toList) bs' ts us ∧ (∀ b ∈ bs', b < w.heap.size → Θ b = 0) ∧ (∀ b ∈ bs', b ∉ ts) ∧ us.Nodup ∧
      (∀ b ∈ us, w.heap.size ≤ b ∧ Wr w' b) ∧ ∀ b ∈ ts, b ∈ us) :=
  h.mono fun e w' ⟨h1, h2⟩ => ⟨_, [], [], [], h1, h2, .v (.cell (.pure (.str r hr))), by simp, by simp, by simp, by simp, by simp⟩

def l_Join (xs : List Bytes) (sep : Bytes) : Option Bytes := if (Lib.join xs sep).length ≤ 140737488355328 ∧ xs.length ≤ 140737488355328 then some (Lib.join xs sep) else none

theorem l_Join_good {P : Program} {ρ : Ren} (L : Lays.n156 P ρ) (X : Builder.Extra P ρ) {xs : List Bytes} {sep r : Bytes} (h : l_Join xs sep = some r) :
    Good P (ρ.f 156) [.sl (xs.map tx), .str sep] (.str r) := by
  unfold l_Join at h
  split at h
  · rename_i hl
    cases h
    obtain ⟨hl, hn⟩ := hl
    refine ⟨⟨_, L.f156, rfl, rfl⟩, ?_⟩
    intro w Θ args bs _ ha _ _ _
    obtain _ | ⟨v1, _, _, _, b1, _, h1, ha⟩ := ha
    obtain _ | ⟨v2, _, _, _, b2, _, h2, ha⟩ := ha
    cases ha
    obtain ⟨y, rfl, rfl, _, _⟩ := h2.str_inv
    have none_case : ∀ (a : Option Addr) (c : Nat), xs = [] → Calls P (ρ.f 156) [Value.slice a 0 c, .string y].toArray w (fun e w' => ∃ v bs' ts us, e = .returned v ∧ Below w.heap.size w w' ∧ ResS w' v (.str (Lib.join xs y.data.toList)) bs' ts us ∧ (∀ b ∈ bs', b < w.heap.size → Θ b = 0) ∧ (∀ b ∈ bs', b ∉ ts) ∧ us.Nodup ∧
      (∀ b ∈ us, w.heap.size ≤ b ∧ Wr w' b) ∧ ∀ b ∈ ts, b ∈ us) := by
      intro a c hx
      subst hx
      exact Calls.txt (r := ⟨#[]⟩) (by decide) ((Any.strings_Join_none L X a c y w).mono fun e w' ⟨k1, k2⟩ => ⟨k1, k2 ▸ Below.refl _ _⟩)
    generalize hrs : xs.map tx = rows at h1
    cases h1 with
    | slNil => exact none_case none 0 (by simpa using hrs)
    | slEmpty a cap _ => exact none_case (some a) cap (by simpa using hrs)
    | sl b off cap sz rows cs bs k1 k2 k3 k4 k5 k6 =>
      subst hrs
      rw [flat_tx] at k6
      obtain ⟨ys, rfl, rfl⟩ := k6.strs
      have := Any.strings_Join L X b off cap ys y w (fun j x hx => k5 j _ (by simp [hx])) k1 (by simpa using hn) (by simpa using k2) hl
      rw [List.length_map, List.length_map]
      refine Calls.txt (r := ⟨(Lib.join (ys.map (·.data.toList)) y.data.toList).toArray⟩) ?_ this
      show (Lib.join (ys.map (·.data.toList)) y.data.toList).toArray.size ≤ maxLen
      simp only [List.size_toArray, maxLen]
      omega
  · cases h
end Go.Cx
