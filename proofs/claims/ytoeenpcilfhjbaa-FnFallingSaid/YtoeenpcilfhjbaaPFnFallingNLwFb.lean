/- The draw of a list of numbers: it comes back, with few numbers. No condition but a bound on the code's length. -/
import Derived.Test.YtoeenpcilfhjbaaPFnFallingNLwFa
namespace Go.Cx
open Go.RowKit Go.Proofs
set_option linter.unusedVariables false
set_option linter.unusedSimpArgs false
theorem lenOk {α : Type} {l : List α} (h : l.length ≤ 1099511627776) : decide (l.length ≤ maxLen) = true := by unfold maxLen; simp; omega
def CurOk (c : Cur) : Prop := 0 ≤ c.i ∧ c.b.length ≤ 4096
theorem band255 (x : Int) : 0 ≤ bandI .i64 x 255 ∧ bandI .i64 x 255 ≤ 255 := by
  unfold bandI
  have h : (BitVec.ofInt IntKind.i64.bits x &&& BitVec.ofInt IntKind.i64.bits 255).toNat ≤ 255 := by
    rw [BitVec.toNat_and]
    exact Nat.le_trans Nat.and_le_right (by decide)
  rw [wrap_in (InR.i64.2 (by omega))]
  omega
theorem sByte (c : Cur) (h : CurOk c) : ∃ c' x, d_spec_l1Byte c = some (c', x) ∧ CurOk c' ∧ 0 ≤ x ∧ x ≤ 255 := by
  obtain ⟨h1, h2⟩ := h
  unfold d_spec_l1Byte
  rw [List.length_map]
  by_cases hi : c.i < (c.b.length : Int)
  · have hlt : c.i.toNat < c.b.length := by omega
    have e : atI c.b c.i = some c.b[c.i.toNat] := by unfold atI; rw [decide_eq_true h1, cond_true]; exact List.getElem?_eq_getElem hlt
    rw [decide_eq_true hi, cond_true, e, Option.bind_some]
    refine ⟨_, _, rfl, ⟨?_, h2⟩, band255 _⟩
    show 0 ≤ IntKind.i64.wrap (c.i + 1)
    rw [wrap_in (InR.i64.2 (by omega))]; omega
  · rw [decide_eq_false hi, cond_false]
    exact ⟨_, _, rfl, ⟨h1, h2⟩, band255 _⟩
theorem sBelow (c : Cur) (n : Int) (h : CurOk c) (h0 : 0 < n) (h1 : n ≤ 256) : ∃ c' r, d_spec_l1Below c n = some (c', r) ∧ CurOk c' ∧ 0 ≤ r ∧ r < n := by
  obtain ⟨c', x, e, hc, hx, hx2⟩ := sByte c h
  unfold d_spec_l1Below
  have e1 : decide (n ≤ 0) = false := by simp; omega
  have e2 : decide (n ≤ 256) = true := by simp; omega
  have e3 : (decide (0 ≤ x) && decide (0 < n)) = true := by simp; omega
  rw [e1, cond_false, e2, cond_true, e, Option.bind_some, e3, cond_true]
  exact ⟨_, _, rfl, hc, Int.emod_nonneg _ (by omega), Int.emod_lt_of_pos _ h0⟩
theorem sOnce (c : Cur) (n : Int) (h : CurOk c) (h0 : 0 < n) (h1 : n ≤ 256) : ∃ c' b, d_spec_l1Once c n = some (c', b) ∧ CurOk c' := by
  obtain ⟨c', x, e, hc, _⟩ := sBelow c n h h0 h1
  unfold d_spec_l1Once
  rw [e, Option.bind_some]
  exact ⟨_, _, rfl, hc⟩
theorem sNewD (code : List Int) (h : code.length ≤ 4096) : ∃ c, d_spec_l1New code = some c ∧ CurOk c := by
  unfold d_spec_l1New
  have key : ∀ (k : Int → Option Cur) (r : List Int) (i : Nat) (v : Int), ∃ z, d_spec_l1New_L1 code k r i v = k z := by
    intro k r
    induction r with
    | nil => intro i v; exact ⟨v, rfl⟩
    | cons x r ih =>
      intro i v
      rw [d_spec_l1New_L1]
      cases decide ((i : Int) < 4000) with
      | true => exact ih _ _
      | false => exact ⟨v, rfl⟩
  obtain ⟨z, e⟩ := key (fun z => some (⟨code, 0, z⟩ : Cur)) code 0 (IntKind.i64.wrap ((851207) + (IntKind.i64.wrap ((3) * ((((code).map yx).length : Int))))))
  rw [lenOk (by omega), cond_true, e]
  exact ⟨_, rfl, by show (0 : Int) ≤ 0; omega, h⟩
theorem sIntD (c : Cur) (l : List Int) (h : CurOk c) (h0 : 0 < l.length) (h1 : l.length ≤ 256) : ∃ c' s, d_spec_l1Int c l = some (c', s) ∧ CurOk c' ∧ s ∈ l := by
  obtain ⟨c', x, e, hc, hx, hx2⟩ := sBelow c (l.length : Int) h (by omega) (by omega)
  unfold d_spec_l1Int
  rw [List.length_map, e, Option.bind_some]
  have hlt : x.toNat < l.length := by omega
  have e2 : atI l x = some l[x.toNat] := by unfold atI; rw [decide_eq_true hx, cond_true]; exact List.getElem?_eq_getElem hlt
  rw [e2, Option.bind_some]
  exact ⟨_, _, rfl, hc, List.getElem_mem hlt⟩
theorem sOddD (c : Cur) (h : CurOk c) : ∃ c' z, d_spec_l1Odd c = some (c', z) ∧ CurOk c' := by
  unfold d_spec_l1Odd
  obtain ⟨c', z, e, hc, _⟩ := sIntD c ([-1, 0, 1, 2, 9, 10, 24, 25, 200, 201, 9999, 10000, 9223372036854775807, -9223372036854775808] : List Int) h (by decide) (by decide)
  rw [e, Option.bind_some]
  exact ⟨_, _, rfl, hc⟩
theorem sDrawFL (K : List Int → Option (List Int)) : ∀ (m : Nat) (fu : Nat) (v : Int) (c : Cur) (w : List Int), v = (m : Int) → m < fu → m ≤ 1000 → w.length + m ≤ 1000 → CurOk c →
    ∃ w', d_spec_DrawFalling_L1 K fu v c.b c.i c.h w = K w' ∧ w'.length ≤ 1000 := by
  intro m
  induction m with
  | zero =>
    intro fu v c w hv hf hm hw hc
    cases fu with
    | zero => omega
    | succ fu =>
      rw [d_spec_DrawFalling_L1, decide_eq_false (by omega), cond_false]
      exact ⟨w, rfl, by omega⟩
  | succ m ih =>
    intro fu v c w hv hf hm hw hc
    cases fu with
    | zero => omega
    | succ fu =>
      obtain ⟨c1, x, e1, h1, _⟩ := sBelow c 5 hc (by decide) (by decide)
      obtain ⟨c2, b, e2, h2⟩ := sOnce c1 8 h1 (by decide) (by decide)
      have ew : IntKind.i64.wrap (v - 1) = (m : Int) := by rw [wrap_in (InR.i64.2 (by omega))]; omega
      have er : ∀ z : Int, room ((w.map ixx).length + [[D.int .i64 z]].length) 8 = true := fun z => fall_room (by simp; omega)
      rw [d_spec_DrawFalling_L1, decide_eq_true (by omega), cond_true]
      have e1 : d_spec_l1Below (⟨c.b, c.i, c.h⟩ : Cur) 5 = some (c1, x) := e1
      rw [e1, Option.bind_some, e2, Option.bind_some]
      cases b with
      | true =>
        obtain ⟨c3, z, e3, h3⟩ := sOddD c2 h2
        rw [cond_true, e3, Option.bind_some, er, cond_true, ew]
        exact ih fu m c3 (w ++ [z]) rfl (by omega) (by omega) (by simp; omega) h3
      | false =>
        rw [cond_false, er, cond_true, ew]
        exact ih fu m c2 (w ++ [x]) rfl (by omega) (by omega) (by simp; omega) h2
theorem sDrawFalling (code : List Int) (h : code.length ≤ 4096) : ∃ l, d_spec_DrawFalling code = some l ∧ l.length ≤ 1000 := by
  unfold d_spec_DrawFalling
  obtain ⟨c, e, hc⟩ := sNewD code h
  obtain ⟨c1, x, e1, h1, hx, hx2⟩ := sBelow c 6 hc (by decide) (by decide)
  rw [e, Option.bind_some, e1, Option.bind_some]
  obtain ⟨w', e2, h2⟩ := sDrawFL (fun q => some q) x.toNat fuel x c1 [] (by omega) (by unfold fuel; omega) (by omega) (by simp; omega) h1
  exact ⟨w', e2, h2⟩
end Go.Cx
