/- Draws of rules with facts, of facts to add; finding facts; putting facts; in plain words. No condition but bounds. -/
import Derived.Test.YtpglgncmlcpgdaaGreatDoorPFnPlainNLwN
import Derived.Test.YtpglgncmlcpgdaaGreatDoorPFnPlainNLwH
namespace Go.Cx
open Go.RowKit Go.Proofs
set_option linter.unusedVariables false
set_option linter.unusedSimpArgs false
theorem SmallL.wt {n : Nat} {l : List Fact} (h : SmallL n l) (hn : n ≤ 1000) : wtL Fact.wt l ≤ 1048576 := by
  have c1 := wtL_max (w := Fact.wt) (B := 200) l (fun x hx => by
    have := SmallF.wt4 (h.2 x hx)
    unfold Fact.wt
    unfold tw at *
    omega)
  have d1 : (200 + 1) * l.length ≤ 201 * 1000 := Nat.mul_le_mul_left _ (by have := h.1; omega)
  omega
theorem SmallL.le {n m : Nat} {l : List Fact} (h : SmallL n l) (hm : n ≤ m) : SmallL m l := ⟨by have := h.1; omega, h.2⟩
theorem sDraw6 (c : Cur) (h : CurOk c) : ∃ c' r l, d_spec_l6Draw c = some (c', (r, l)) ∧ CurOk c' ∧ SmallR 5 r ∧ SmallL 65 l := by
  unfold d_spec_l6Draw
  obtain ⟨c1, r, e1, hc1, hr, _⟩ := sDraw5 c h
  obtain ⟨c2, b, e2, hc2⟩ := sOnce c1 8 hc1 (by decide) (by decide)
  rw [e1, Option.bind_some, e2, Option.bind_some]
  have fin : ∀ (r : Rule) (c2 : Cur), CurOk c2 → SmallR 5 r → ∃ c' r' l, ((d_spec_l1Once c2 8).bind fun y15 => (bif y15.2 then ((d_spec_l2List (y15.1)).bind fun y18 => (some ((y18.1, (r, y18.2))))) else ((d_spec_l2Set (y15.1) (9)).bind fun y20 => (some ((y20.1, (r, y20.2))))))) = some (c', (r', l)) ∧ CurOk c' ∧ SmallR 5 r' ∧ SmallL 65 l := by
    intro r c2 hc2 hr
    obtain ⟨c3, b2, e3, hc3⟩ := sOnce c2 8 hc2 (by decide) (by decide)
    rw [e3, Option.bind_some]
    cases b2 with
    | true =>
      obtain ⟨c4, l, e4, hc4, hl⟩ := sListD c3 hc3
      rw [cond_true, e4, Option.bind_some]
      exact ⟨_, _, _, rfl, hc4, hr, hl⟩
    | false =>
      obtain ⟨c4, l, e4, hc4, hl, _⟩ := sSetD c3 9 hc3 (by decide) (by decide)
      rw [cond_false, e4, Option.bind_some]
      exact ⟨_, _, _, rfl, hc4, hr, hl.le (by decide)⟩
  cases b with
  | true =>
    obtain ⟨c3, r2, e3, hc3, hr2⟩ := sAny5 c2 hc2
    rw [cond_true, e3, Option.bind_some]
    exact fin r2 c3 hc3 hr2
  | false =>
    rw [cond_false]
    exact fin r c2 hc2 (hr.le (by decide))
theorem sDrawMts (code : List Int) (h : code.length ≤ 4096) : ∃ r l, d_spec_DrawMatchesOf code = some (r, l) ∧ SmallR 5 r ∧ SmallL 65 l := by
  unfold d_spec_DrawMatchesOf
  obtain ⟨c, e, hc⟩ := sNewD code h
  obtain ⟨c2, r, l, e2, _, hr, hl⟩ := sDraw6 c hc
  rw [e, Option.bind_some, e2, Option.bind_some]
  exact ⟨_, _, rfl, hr, hl⟩
/-! finding a fact -/
/-! the order of facts -/
end Go.Cx
