/- The shapes of the statements' arguments, as the plain Lean structures. No condition; plain lemmas. -/
import Derived.Test.YtmifcpepeplijaaGreatDoorPFnAllFoundNOpen
import Derived.Test.YtmifcpepeplijaaGreatDoorPFnAllFoundNData
namespace Go.Cx
set_option linter.unusedVariables false
set_option linter.unusedSimpArgs false
open Go.RowKit
theorem conf_list {α : Type} {c : α → List D} {row : List Sh} (hc : ∀ r, Confs row r → ∃ x, r = c x) : ∀ {rows : List (List D)}, (∀ r ∈ rows, Confs row r) → ∃ l : List α, rows = l.map c := by
  intro rows
  induction rows with
  | nil => intro _; exact ⟨[], rfl⟩
  | cons r rows ih =>
    intro h
    obtain ⟨x, rfl⟩ := hc r (h r (by simp))
    obtain ⟨l, rfl⟩ := ih (fun s hs => h s (by simp [hs]))
    exact ⟨x :: l, rfl⟩
theorem conf_sl {α : Type} {c : α → List D} {row : List Sh} (hc : ∀ r, Confs row r → ∃ x, r = c x) {d : D} (h : Conf (.sl row) d) : ∃ l : List α, d = .sl (l.map c) := by
  cases h with
  | sl _ rows hr =>
    obtain ⟨l, rfl⟩ := conf_list hc hr
    exact ⟨l, rfl⟩
theorem conf_int {k : IntKind} {d : D} (h : Conf (.int k) d) : ∃ n, d = .int k n := by cases h; exact ⟨_, rfl⟩
theorem confs_cons {s : Sh} {ss : List Sh} {ds : List D} (h : Confs (s :: ss) ds) : ∃ d r, ds = d :: r ∧ Conf s d ∧ Confs ss r := by
  cases h with | cons _ _ d r h1 h2 => exact ⟨d, r, rfl, h1, h2⟩
theorem confs_nil {ds : List D} (h : Confs [] ds) : ds = [] := by cases h; rfl
theorem conf_yx (r : List D) (h : Confs [.int .u8] r) : ∃ s, r = yx s := by
  obtain ⟨_, _, rfl, h1, h⟩ := confs_cons h
  cases confs_nil h
  obtain ⟨s, rfl⟩ := conf_int h1
  exact ⟨s, rfl⟩
section
variable {P : Program} {n : Nat} {t : TypeId} {d : D}
theorem ArgC.struct {α : Type} {c : α → List D} {shs : List Sh} (hc : ∀ r, Confs shs r → ∃ x, r = c x) (ha : tagg P t = some true) (hf : flatT P n t = some shs) (h : ArgC P n t d) : ∃ x, d = .agg (c x) := by
  rcases h with ⟨_, shs', cells, h1, rfl, h2⟩ | ⟨h1, _⟩
  · rw [hf] at h1; cases h1
    obtain ⟨x, rfl⟩ := hc _ h2
    exact ⟨x, rfl⟩
  · rw [ha] at h1; cases h1
theorem ArgC.cell {sh : Sh} (ha : tagg P t = some false) (hf : flatT P n t = some [sh]) (h : ArgC P n t d) : Conf sh d := by
  rcases h with ⟨h1, _⟩ | ⟨_, sh', h1, h2⟩
  · rw [ha] at h1; cases h1
  · rw [hf] at h1; cases h1
    exact h2
end
end Go.Cx
