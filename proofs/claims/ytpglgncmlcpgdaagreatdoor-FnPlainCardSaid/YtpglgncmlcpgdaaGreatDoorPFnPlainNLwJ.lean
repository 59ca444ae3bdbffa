/- What the draws of the reference come to in plain words: they come back, with data of bounded size. No condition but a bound on the code's length. -/
import Derived.Test.YtpglgncmlcpgdaaGreatDoorPFnPlainNLwD
namespace Go.Cx
open Go.RowKit Go.Proofs
set_option linter.unusedVariables false
set_option linter.unusedSimpArgs false
def CurOk (c : Cur) : Prop := 0 ≤ c.i ∧ c.b.length ≤ 4096
theorem band255 (x : Int) : 0 ≤ bandI .i64 x 255 ∧ bandI .i64 x 255 ≤ 255 := by
  unfold bandI
  have h : (BitVec.ofInt IntKind.i64.bits x &&& BitVec.ofInt IntKind.i64.bits 255).toNat ≤ 255 := by
    rw [BitVec.toNat_and]
    exact Nat.le_trans Nat.and_le_right (by decide)
  rw [wrap_in (InR.i64.2 (by omega))]
  omega
theorem sByte (c : Cur) (h : CurOk c) : ∃ c' x, d_spec_l1Byte c = some (c', x) ∧ CurOk c' ∧ 0 ≤ x ∧ x ≤ 255 := by
  obtain ⟨h1, h2⟩ := h
  unfold d_spec_l1Byte
  rw [List.length_map]
  by_cases hi : c.i < (c.b.length : Int)
  · have hlt : c.i.toNat < c.b.length := by omega
    have e : atI c.b c.i = some c.b[c.i.toNat] := by unfold atI; rw [decide_eq_true h1, cond_true]; exact List.getElem?_eq_getElem hlt
    rw [decide_eq_true hi, cond_true, e, Option.bind_some]
    refine ⟨_, _, rfl, ⟨?_, h2⟩, band255 _⟩
    show 0 ≤ IntKind.i64.wrap (c.i + 1)
    rw [wrap_in (InR.i64.2 (by omega))]; omega
  · rw [decide_eq_false hi, cond_false]
    exact ⟨_, _, rfl, ⟨h1, h2⟩, band255 _⟩
theorem sBelow (c : Cur) (n : Int) (h : CurOk c) (h0 : 0 < n) (h1 : n ≤ 256) : ∃ c' r, d_spec_l1Below c n = some (c', r) ∧ CurOk c' ∧ 0 ≤ r ∧ r < n := by
  obtain ⟨c', x, e, hc, hx, hx2⟩ := sByte c h
  unfold d_spec_l1Below
  have e1 : decide (n ≤ 0) = false := by simp; omega
  have e2 : decide (n ≤ 256) = true := by simp; omega
  have e3 : (decide (0 ≤ x) && decide (0 < n)) = true := by simp; omega
  rw [e1, cond_false, e2, cond_true, e, Option.bind_some, e3, cond_true]
  exact ⟨_, _, rfl, hc, Int.emod_nonneg _ (by omega), Int.emod_lt_of_pos _ h0⟩
theorem sOnce (c : Cur) (n : Int) (h : CurOk c) (h0 : 0 < n) (h1 : n ≤ 256) : ∃ c' b, d_spec_l1Once c n = some (c', b) ∧ CurOk c' := by
  obtain ⟨c', x, e, hc, _⟩ := sBelow c n h h0 h1
  unfold d_spec_l1Once
  rw [e, Option.bind_some]
  exact ⟨_, _, rfl, hc⟩
theorem sStr (c : Cur) (l : List Bytes) (h : CurOk c) (h0 : 0 < l.length) (h1 : l.length ≤ 256) : ∃ c' s, d_spec_l1Str c l = some (c', s) ∧ CurOk c' ∧ s ∈ l := by
  obtain ⟨c', x, e, hc, hx, hx2⟩ := sBelow c (l.length : Int) h (by omega) (by omega)
  unfold d_spec_l1Str
  rw [List.length_map, e, Option.bind_some]
  have hlt : x.toNat < l.length := by omega
  have e2 : atI l x = some l[x.toNat] := by unfold atI; rw [decide_eq_true hx, cond_true]; exact List.getElem?_eq_getElem hlt
  rw [e2, Option.bind_some]
  exact ⟨_, _, rfl, hc, List.getElem_mem hlt⟩
theorem sAtomD (c : Cur) (h : CurOk c) : ∃ c' s, d_spec_l1Atom c = some (c', s) ∧ CurOk c' ∧ s.length ≤ 16 := by
  unfold d_spec_l1Atom
  obtain ⟨c', s, e, hc, hs⟩ := sStr c ([[97], [98], [99], [49], [50]] : List Bytes) h (by decide) (by decide)
  rw [e, Option.bind_some]
  have : ∀ s ∈ ([[97], [98], [99], [49], [50]] : List Bytes), s.length ≤ 16 := by decide
  exact ⟨_, _, rfl, hc, this s hs⟩
theorem sWordD (c : Cur) (h : CurOk c) : ∃ c' s, d_spec_l1Word c = some (c', s) ∧ CurOk c' ∧ s.length ≤ 16 := by
  unfold d_spec_l1Word
  generalize hl : ([[97], [98], [111, 110], [55], [49, 48], [57, 57, 57, 57], [49, 48, 48, 48, 48], [48, 48, 55], [48], [], [65], [63, 120], [63, 63], [63], [97, 98, 99, 100, 101, 102, 103, 104], [97, 98, 99, 100, 101, 102, 103, 104, 105], [63, 97, 98, 99, 100, 101, 102, 103, 104], [97, 45, 98], [120, 49], [49, 120], [45, 51]] : List Bytes) = l
  have h0 : 0 < l.length ∧ l.length ≤ 256 ∧ ∀ s ∈ l, s.length ≤ 16 := by subst hl; decide
  obtain ⟨c', s, e, hc, hs⟩ := sStr c l h h0.1 h0.2.1
  rw [e, Option.bind_some]
  exact ⟨_, _, rfl, hc, h0.2.2 s hs⟩
theorem sTermD (c : Cur) (h : CurOk c) : ∃ c' s, d_spec_l3Term c = some (c', s) ∧ CurOk c' ∧ s.length ≤ 16 := by
  unfold d_spec_l3Term
  obtain ⟨c1, b, e, hc⟩ := sOnce c 4 h (by decide) (by decide)
  rw [e, Option.bind_some]
  cases b with
  | true =>
    obtain ⟨c2, s, e2, hc2, hs⟩ := sAtomD c1 hc
    rw [cond_true, e2, Option.bind_some]
    exact ⟨_, _, rfl, hc2, hs⟩
  | false =>
    obtain ⟨c2, s, e2, hc2, hs⟩ := sStr c1 ([[63, 120], [63, 121], [63, 122]] : List Bytes) hc (by decide) (by decide)
    rw [cond_false, e2, Option.bind_some]
    have : ∀ s ∈ ([[63, 120], [63, 121], [63, 122]] : List Bytes), s.length ≤ 16 := by decide
    exact ⟨_, _, rfl, hc2, this s hs⟩
theorem sRelD (c : Cur) (h : CurOk c) : ∃ c' r n, d_spec_l2Rel c = some (c', (r, n)) ∧ CurOk c' ∧ r.length ≤ 16 ∧ 0 ≤ n ∧ n ≤ 2 := by
  unfold d_spec_l2Rel
  obtain ⟨c1, x, e, hc, hx, hx2⟩ := sBelow c 6 h (by decide) (by decide)
  rw [e, Option.bind_some]
  have key : x = 0 ∨ x = 1 ∨ x = 2 ∨ x = 3 ∨ x = 4 ∨ x = 5 := by omega
  rcases key with rfl | rfl | rfl | rfl | rfl | rfl <;> exact ⟨c1, _, _, rfl, hc, by decide, by decide, by decide⟩
/-- a fact or pattern of bounded size -/
def SmallF (k : Nat) (p : Fact) : Prop := p.rel.length ≤ 16 ∧ p.args.length ≤ k ∧ ∀ x ∈ p.args, x.length ≤ 16
theorem wtL_small : ∀ (l : List Bytes), (∀ x ∈ l, x.length ≤ 16) → wtL tw l ≤ 17 * l.length
  | [], _ => by simp [wtL]
  | x :: l, h => by
    have h1 := wtL_small l fun y hy => h y (by simp [hy])
    have h2 := h x (by simp)
    rw [wtL_cons, List.length_cons]; unfold tw at *; omega
theorem SmallF.wt {k : Nat} {p : Fact} (h : SmallF k p) (hk : k ≤ 1000) : p.wt ≤ 1048576 := by
  have := wtL_small p.args h.2.2
  have h1 := h.1
  have h2 := h.2.1
  unfold Fact.wt tw
  unfold tw at this
  have : 17 * p.args.length ≤ 17 * 1000 := Nat.mul_le_mul_left _ (by omega)
  omega
theorem sDrawPL (y : Cur × (Bytes × Int)) (k : List Int → Int → Int → List Bytes → Option (Cur × Fact)) : ∀ (m : Nat) (fu : Nat) (v : Int) (c : Cur) (w : List Bytes), y.2.2 - v = (m : Int) → m < fu → 0 ≤ v → y.2.2 ≤ 100 → w.length + m ≤ 1000 → CurOk c → (∀ x ∈ w, x.length ≤ 16) →
    ∃ c' w', d_spec_l3Draw_L1 y k fu v c.b c.i c.h w = k c'.b c'.i c'.h w' ∧ CurOk c' ∧ w'.length ≤ w.length + m ∧ ∀ x ∈ w', x.length ≤ 16 := by
  intro m
  induction m with
  | zero =>
    intro fu v c w hv hf h0 hy hw hc hx
    cases fu with
    | zero => omega
    | succ fu =>
      have e : decide (v < y.2.2) = false := by simp; omega
      rw [d_spec_l3Draw_L1, e, cond_false]
      exact ⟨c, w, rfl, hc, by omega, hx⟩
  | succ m ih =>
    intro fu v c w hv hf h0 hy hw hc hx
    cases fu with
    | zero => omega
    | succ fu =>
      have e : decide (v < y.2.2) = true := by simp; omega
      obtain ⟨c1, s, e2, hc1, hs⟩ := sTermD c hc
      have e2' : d_spec_l3Term (⟨c.b, c.i, c.h⟩ : Cur) = some (c1, s) := e2
      have e3 : IntKind.i64.wrap (v + 1) = v + 1 := wrap_in (InR.i64.2 (by omega))
      rw [d_spec_l3Draw_L1, e, cond_true, e2', Option.bind_some, room1 (by omega) (by decide), cond_true, e3]
      obtain ⟨c', w', q1, q2, q3, q4⟩ := ih fu (v + 1) c1 (w ++ [s]) (by omega) (by omega) (by omega) hy (by simp; omega) hc1 (fun x hxm => by
        rcases List.mem_append.1 hxm with h | h
        · exact hx x h
        · simp at h; subst h; exact hs)
      exact ⟨c', w', q1, q2, by simp at q3; omega, q4⟩
theorem sDrawP (c : Cur) (h : CurOk c) : ∃ c' p, d_spec_l3Draw c = some (c', p) ∧ CurOk c' ∧ SmallF 2 p := by
  unfold d_spec_l3Draw
  obtain ⟨c1, r, n, e, hc, hr, hn, hn2⟩ := sRelD c h
  rw [e, Option.bind_some]
  obtain ⟨c', w', q1, q2, q3, q4⟩ := sDrawPL (c1, (r, n)) (fun a b d q => some ((⟨a, b, d⟩ : Cur), (⟨r, q⟩ : Fact))) n.toNat fuel 0 c1 [] (by simp; omega) (by unfold fuel; omega) (by omega) (by simp; omega) (by simp; omega) hc (by simp)
  exact ⟨_, _, q1, q2, hr, by show w'.length ≤ 2; simp at q3; omega, q4⟩
theorem sAnyP (c : Cur) (h : CurOk c) : ∃ c' p, d_spec_l3Any c = some (c', p) ∧ CurOk c' ∧ SmallF 4 p := by
  unfold d_spec_l3Any
  obtain ⟨c1, p, e, hc, hp1, hp2, hp3⟩ := sDrawP c h
  obtain ⟨c2, x, e2, hc2, hx, hx2⟩ := sBelow c1 10 hc (by decide) (by decide)
  rw [e, Option.bind_some, e2, Option.bind_some]
  cases (x == (0 : Int)) with
  | true =>
    obtain ⟨c3, s, e3, hc3, hs⟩ := sWordD c2 hc2
    rw [cond_true, e3, Option.bind_some]
    exact ⟨_, _, rfl, hc3, hs, by show p.args.length ≤ 4; omega, hp3⟩
  | false =>
    rw [cond_false]
    cases (x == (1 : Int)) with
    | true =>
      obtain ⟨c3, s, e3, hc3, hs⟩ := sWordD c2 hc2
      rw [cond_true, e3, Option.bind_some, room1 (w := p.args) (by omega) (by decide), cond_true]
      refine ⟨_, _, rfl, hc3, hp1, by simp; omega, fun y hy => ?_⟩
      rcases List.mem_append.1 hy with h | h
      · exact hp3 y h
      · simp at h; subst h; exact hs
    | false =>
      rw [cond_false]
      cases (x == (2 : Int)) with
      | true =>
        obtain ⟨c3, z, e3, hc3, hz, hz2⟩ := sBelow c2 5 hc2 (by decide) (by decide)
        have e4 : (decide (0 ≤ z) && decide (z.toNat ≤ ((([[63, 120], [63, 120], [63, 121], [63, 120]] : List Bytes)).map tx).length)) = true := by simp; omega
        rw [cond_true, e3, Option.bind_some, e4, cond_true]
        refine ⟨_, _, rfl, hc3, hp1, by simp [List.length_take]; omega, fun y hy => ?_⟩
        have : ∀ s ∈ ([[63, 120], [63, 120], [63, 121], [63, 120]] : List Bytes), s.length ≤ 16 := by decide
        exact this y (List.mem_of_mem_take hy)
      | false => exact ⟨_, _, rfl, hc2, hp1, by show p.args.length ≤ 4; omega, hp3⟩
theorem sNewD (code : List Int) (h : code.length ≤ 4096) : ∃ c, d_spec_l1New code = some c ∧ CurOk c := by
  unfold d_spec_l1New
  have key : ∀ (k : Int → Option Cur) (r : List Int) (i : Nat) (v : Int), ∃ z, d_spec_l1New_L1 code k r i v = k z := by
    intro k r
    induction r with
    | nil => intro i v; exact ⟨v, rfl⟩
    | cons x r ih =>
      intro i v
      rw [d_spec_l1New_L1]
      cases decide ((i : Int) < 4000) with
      | true => exact ih _ _
      | false => exact ⟨v, rfl⟩
  obtain ⟨z, e⟩ := key (fun z => some (⟨code, 0, z⟩ : Cur)) code 0 (IntKind.i64.wrap ((851207) + (IntKind.i64.wrap ((3) * ((((code).map yx).length : Int))))))
  rw [lenOk (by omega), cond_true, e]
  exact ⟨_, rfl, by show (0 : Int) ≤ 0; omega, h⟩
end Go.Cx
