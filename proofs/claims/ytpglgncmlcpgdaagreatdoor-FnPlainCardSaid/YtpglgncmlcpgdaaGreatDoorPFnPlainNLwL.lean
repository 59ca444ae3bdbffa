/- More draws of the reference in plain words: facts, lists of facts, bindings, two patterns; instances. No condition but bounds. -/
import Derived.Test.YtpglgncmlcpgdaaGreatDoorPFnPlainNLwJ
import Derived.Test.YtpglgncmlcpgdaaGreatDoorPFnPlainNLwK
import Derived.Test.YtpglgncmlcpgdaaGreatDoorPFnPlainNLwG
import Derived.Test.YtpglgncmlcpgdaaGreatDoorPFnPlainNFn2
namespace Go.Cx
open Go.RowKit Go.Proofs
set_option linter.unusedVariables false
set_option linter.unusedSimpArgs false
theorem sIntD (c : Cur) (l : List Int) (h : CurOk c) (h0 : 0 < l.length) (h1 : l.length ≤ 256) : ∃ c' s, d_spec_l1Int c l = some (c', s) ∧ CurOk c' ∧ s ∈ l := by
  obtain ⟨c', x, e, hc, hx, hx2⟩ := sBelow c (l.length : Int) h (by omega) (by omega)
  unfold d_spec_l1Int
  rw [List.length_map, e, Option.bind_some]
  have hlt : x.toNat < l.length := by omega
  have e2 : atI l x = some l[x.toNat] := by unfold atI; rw [decide_eq_true hx, cond_true]; exact List.getElem?_eq_getElem hlt
  rw [e2, Option.bind_some]
  exact ⟨_, _, rfl, hc, List.getElem_mem hlt⟩
theorem sDrawFL (y : Cur × (Bytes × Int)) (k : List Int → Int → Int → List Bytes → Option (Cur × Fact)) : ∀ (m : Nat) (fu : Nat) (v : Int) (c : Cur) (w : List Bytes), y.2.2 - v = (m : Int) → m < fu → 0 ≤ v → y.2.2 ≤ 100 → w.length + m ≤ 1000 → CurOk c → (∀ x ∈ w, x.length ≤ 16) →
    ∃ c' w', d_spec_l2Draw_L1 y k fu v c.b c.i c.h w = k c'.b c'.i c'.h w' ∧ CurOk c' ∧ w'.length ≤ w.length + m ∧ ∀ x ∈ w', x.length ≤ 16 := by
  intro m
  induction m with
  | zero =>
    intro fu v c w hv hf h0 hy hw hc hx
    cases fu with
    | zero => omega
    | succ fu =>
      have e : decide (v < y.2.2) = false := by simp; omega
      rw [d_spec_l2Draw_L1, e, cond_false]
      exact ⟨c, w, rfl, hc, by omega, hx⟩
  | succ m ih =>
    intro fu v c w hv hf h0 hy hw hc hx
    cases fu with
    | zero => omega
    | succ fu =>
      have e : decide (v < y.2.2) = true := by simp; omega
      obtain ⟨c1, s, e2, hc1, hs⟩ := sAtomD c hc
      have e2' : d_spec_l1Atom (⟨c.b, c.i, c.h⟩ : Cur) = some (c1, s) := e2
      have e3 : IntKind.i64.wrap (v + 1) = v + 1 := wrap_in (InR.i64.2 (by omega))
      rw [d_spec_l2Draw_L1, e, cond_true, e2', Option.bind_some, room1 (by omega) (by decide), cond_true, e3]
      obtain ⟨c', w', q1, q2, q3, q4⟩ := ih fu (v + 1) c1 (w ++ [s]) (by omega) (by omega) (by omega) hy (by simp; omega) hc1 (fun x hxm => by
        rcases List.mem_append.1 hxm with h | h
        · exact hx x h
        · simp at h; subst h; exact hs)
      exact ⟨c', w', q1, q2, by simp at q3; omega, q4⟩
theorem sRelN (c : Cur) (h : CurOk c) : ∃ c' r n, d_spec_l2Rel c = some (c', (r, n)) ∧ CurOk c' ∧ r.length ≤ 16 ∧ 0 ≤ n ∧ n ≤ 2 ∧ r ≠ [110] := by
  unfold d_spec_l2Rel
  obtain ⟨c1, x, e, hc, hx, hx2⟩ := sBelow c 6 h (by decide) (by decide)
  rw [e, Option.bind_some]
  have key : x = 0 ∨ x = 1 ∨ x = 2 ∨ x = 3 ∨ x = 4 ∨ x = 5 := by omega
  rcases key with rfl | rfl | rfl | rfl | rfl | rfl <;> exact ⟨c1, _, _, rfl, hc, by decide, by decide, by decide, by decide⟩
theorem sDrawF (c : Cur) (h : CurOk c) : ∃ c' p, d_spec_l2Draw c = some (c', p) ∧ CurOk c' ∧ SmallF 2 p ∧ p.rel ≠ [110] := by
  unfold d_spec_l2Draw
  obtain ⟨c1, r, n, e, hc, hr, hn, hn2, hrn⟩ := sRelN c h
  rw [e, Option.bind_some]
  obtain ⟨c', w', q1, q2, q3, q4⟩ := sDrawFL (c1, (r, n)) (fun a b d q => some ((⟨a, b, d⟩ : Cur), (⟨r, q⟩ : Fact))) n.toNat fuel 0 c1 [] (by simp; omega) (by unfold fuel; omega) (by omega) (by simp; omega) (by simp; omega) hc (by simp)
  exact ⟨_, _, q1, q2, ⟨hr, by show w'.length ≤ 2; simp at q3; omega, q4⟩, hrn⟩
theorem sAnyF (c : Cur) (h : CurOk c) : ∃ c' p, d_spec_l2Any c = some (c', p) ∧ CurOk c' ∧ SmallF 4 p := by
  unfold d_spec_l2Any
  obtain ⟨c1, p, e, hc, ⟨hp1, hp2, hp3⟩, _⟩ := sDrawF c h
  obtain ⟨c2, x, e2, hc2, hx, hx2⟩ := sBelow c1 10 hc (by decide) (by decide)
  rw [e, Option.bind_some, e2, Option.bind_some]
  cases (x == (0 : Int)) with
  | true =>
    obtain ⟨c3, s, e3, hc3, hs⟩ := sWordD c2 hc2
    rw [cond_true, e3, Option.bind_some]
    exact ⟨_, _, rfl, hc3, hs, by show p.args.length ≤ 4; omega, hp3⟩
  | false =>
    rw [cond_false]
    cases (x == (1 : Int)) with
    | true =>
      obtain ⟨c3, s, e3, hc3, hs⟩ := sWordD c2 hc2
      rw [cond_true, e3, Option.bind_some, room1 (w := p.args) (by omega) (by decide), cond_true]
      refine ⟨_, _, rfl, hc3, hp1, by simp; omega, fun y hy => ?_⟩
      rcases List.mem_append.1 hy with h | h
      · exact hp3 y h
      · simp at h; subst h; exact hs
    | false =>
      rw [cond_false]
      cases (x == (2 : Int)) with
      | true =>
        obtain ⟨c3, z, e3, hc3, hz, hz2⟩ := sBelow c2 5 hc2 (by decide) (by decide)
        have e4 : (decide (0 ≤ z) && decide (z.toNat ≤ ((([[97], [98], [99], [97]] : List Bytes)).map tx).length)) = true := by simp; omega
        rw [cond_true, e3, Option.bind_some, e4, cond_true]
        refine ⟨_, _, rfl, hc3, hp1, by simp [List.length_take]; omega, fun y hy => ?_⟩
        have : ∀ s ∈ ([[97], [98], [99], [97]] : List Bytes), s.length ≤ 16 := by decide
        exact this y (List.mem_of_mem_take hy)
      | false => exact ⟨_, _, rfl, hc2, hp1, by show p.args.length ≤ 4; omega, hp3⟩
/-- a list of facts of bounded size -/
def SmallL (n : Nat) (l : List Fact) : Prop := l.length ≤ n ∧ ∀ f ∈ l, SmallF 4 f
theorem SmallF.le {k m : Nat} {p : Fact} (h : SmallF k p) (hm : k ≤ m) : SmallF m p := ⟨h.1, by have := h.2.1; omega, h.2.2⟩
theorem SmallF.copy {k : Nat} {p : Fact} (h : SmallF k p) (hk : k ≤ 1000) : p.args.length ≤ 1099511627776 := by have := h.2.1; omega
theorem sPutFL (a : List Fact) (f : Fact) (K : Bool → List Fact → Option (List Fact)) (hf : SmallF 4 f) : ∀ (rest : List Fact) (i : Nat) (v : Bool) (w : List Fact), (∀ x ∈ rest, SmallF 4 x) → w.length + 2 * rest.length ≤ 1000 →
    ∃ v' w', d_spec_l2Put_L1 a f K rest i v w = K v' w' ∧ (∀ x ∈ w', x ∈ w ∨ x ∈ rest ∨ x = f) ∧ w.length + rest.length ≤ w'.length ∧
      (bif v then v' = true ∧ w'.length = w.length + rest.length else bif v' then w'.length ≤ w.length + rest.length + 1 ∧ ((∀ x ∈ rest, cmpF x f ≠ 0) → w'.length = w.length + rest.length + 1) else w'.length = w.length + rest.length) := by
  intro rest
  induction rest with
  | nil =>
    intro i v w _ _
    refine ⟨v, w, rfl, fun x hx => .inl hx, by simp, ?_⟩
    cases v <;> simp
  | cons x xs ih =>
    intro i v w hs hl
    simp only [List.length_cons] at hl
    have hx := hs x (by simp)
    have hs' : ∀ y ∈ xs, SmallF 4 y := fun y hy => hs y (by simp [hy])
    have cx := sCopyF x (hx.copy (by decide))
    have cf := sCopyF f (hf.copy (by decide))
    have nx := fun w' : List Fact => fun h : w'.length < 1099511627776 => room1 (w := w') (c := Fact.c) (y := [D.str x.rel, D.sl (x.args.map tx)]) (b := 40) h (by decide)
    have nf := fun w' : List Fact => fun h : w'.length < 1099511627776 => room1 (w := w') (c := Fact.c) (y := [D.str f.rel, D.sl (f.args.map tx)]) (b := 40) h (by decide)
    cases v with
    | true =>
      obtain ⟨v', w', q1, q2, q3, q4⟩ := ih (i + 1) true (w ++ [x]) hs' (by simp; omega)
      simp only [List.length_append, List.length_cons, List.length_nil, cond_true] at q3 q4
      refine ⟨v', w', ?_, fun z hz => ?_, by simp only [List.length_cons]; omega, ?_⟩
      · rw [d_spec_l2Put_L1, Bool.not_true, cond_false, cx, Option.bind_some, nx w (by omega), cond_true]; exact q1
      · rcases q2 z hz with h | h | h
        · rcases List.mem_append.1 h with h | h
          · exact .inl h
          · simp at h; subst h; exact .inr (.inl (by simp))
        · exact .inr (.inl (by simp [h]))
        · exact .inr (.inr h)
      · simp only [cond_true, List.length_cons]; exact ⟨q4.1, by omega⟩
    | false =>
      rw [d_spec_l2Put_L1, Bool.not_false, cond_true, sCmpF, Option.bind_some]
      by_cases hge : cmpF x f ≥ 0
      · rw [decide_eq_true hge, cond_true, Option.bind_some]
        by_cases hgt : cmpF x f > 0
        · obtain ⟨v', w', q1, q2, q3, q4⟩ := ih (i + 1) true (w ++ [f] ++ [x]) hs' (by simp; omega)
          simp only [List.length_append, List.length_cons, List.length_nil, cond_true] at q3 q4
          have e2 : room (((w.map Fact.c) ++ [[D.str f.rel, D.sl (f.args.map tx)]]).length + [[D.str x.rel, D.sl (x.args.map tx)]].length) 40 = true := by
            have := nx (w ++ [f]) (by simp; omega)
            rw [List.map_append] at this; exact this
          refine ⟨v', w', ?_, fun z hz => ?_, by simp only [List.length_cons]; omega, ?_⟩
          · rw [decide_eq_true hgt, cond_true, cf, Option.bind_some, nf w (by omega), cond_true, cx, Option.bind_some, e2, cond_true]; exact q1
          · rcases q2 z hz with h | h | h
            · rcases List.mem_append.1 h with h | h
              · rcases List.mem_append.1 h with h | h
                · exact .inl h
                · simp at h; exact .inr (.inr h)
              · simp at h; subst h; exact .inr (.inl (by simp))
            · exact .inr (.inl (by simp [h]))
            · exact .inr (.inr h)
          · rw [q4.1]; simp only [cond_false, cond_true, List.length_cons]; exact ⟨by omega, fun _ => by omega⟩
        · have hz : cmpF x f = 0 := by omega
          obtain ⟨v', w', q1, q2, q3, q4⟩ := ih (i + 1) true (w ++ [x]) hs' (by simp; omega)
          simp only [List.length_append, List.length_cons, List.length_nil, cond_true] at q3 q4
          refine ⟨v', w', ?_, fun z hz => ?_, by simp only [List.length_cons]; omega, ?_⟩
          · rw [decide_eq_false hgt, cond_false, cx, Option.bind_some, nx w (by omega), cond_true]; exact q1
          · rcases q2 z hz with h | h | h
            · rcases List.mem_append.1 h with h | h
              · exact .inl h
              · simp at h; subst h; exact .inr (.inl (by simp))
            · exact .inr (.inl (by simp [h]))
            · exact .inr (.inr h)
          · rw [q4.1]; simp only [cond_false, cond_true, List.length_cons]; exact ⟨by omega, fun h => absurd hz (h x (by simp))⟩
      · obtain ⟨v', w', q1, q2, q3, q4⟩ := ih (i + 1) false (w ++ [x]) hs' (by simp; omega)
        simp only [List.length_append, List.length_cons, List.length_nil, cond_false] at q3 q4
        refine ⟨v', w', ?_, fun z hz => ?_, by simp only [List.length_cons]; omega, ?_⟩
        · rw [decide_eq_false hge, cond_false, cx, Option.bind_some, nx w (by omega), cond_true]; exact q1
        · rcases q2 z hz with h | h | h
          · rcases List.mem_append.1 h with h | h
            · exact .inl h
            · simp at h; subst h; exact .inr (.inl (by simp))
          · exact .inr (.inl (by simp [h]))
          · exact .inr (.inr h)
        · cases v' with
          | true =>
            simp only [cond_true, cond_false, List.length_cons] at q4 ⊢
            exact ⟨by omega, fun h => by have := q4.2 (fun y hy => h y (by simp [hy])); omega⟩
          | false => simp only [cond_false, List.length_cons] at q4 ⊢; omega
theorem sPutF (l : List Fact) (f : Fact) {n : Nat} (hl : SmallL n l) (hn : n ≤ 100) (hf : SmallF 4 f) : ∃ l', d_spec_l2Put l f = some l' ∧ SmallL (n + 1) l' ∧ (∀ x ∈ l', x ∈ l ∨ x = f) ∧ ((∀ x ∈ l, cmpF x f ≠ 0) → l'.length = l.length + 1) := by
  unfold d_spec_l2Put
  obtain ⟨v', w', q1, q2, q3, q4⟩ := sPutFL l f (fun (z1_6 : Bool) (q1_1 : List Fact) => (bif !(z1_6) then ((d_spec_l2Copy f).bind fun y151 => (bif room (((q1_1).map Fact.c).length + ([[D.str (y151.rel), D.sl ((y151.args).map tx)]]).length) 40 then (some ((q1_1) ++ ([y151]))) else none)) else (some (q1_1)))) hf l 0 false [] hl.2 (by have := hl.1; simp; omega)
  have hln := hl.1
  simp only [List.length_nil, Nat.zero_add, cond_false] at q3 q4
  have q2' : ∀ x ∈ w', x ∈ l ∨ x = f := fun x hx => by
    rcases q2 x hx with h | h | h
    · cases h
    · exact .inl h
    · exact .inr h
  have sm : ∀ x ∈ w', SmallF 4 x := fun x hx => by
    rcases q2' x hx with h | h
    · exact hl.2 x h
    · rw [h]; exact hf
  cases v' with
  | true =>
    simp only [cond_true] at q4
    exact ⟨w', q1, ⟨by omega, sm⟩, q2', q4.2⟩
  | false =>
    simp only [cond_false] at q4
    refine ⟨w' ++ [f], ?_, ⟨by simp; omega, fun x hx => ?_⟩, fun x hx => ?_, fun _ => by simp; omega⟩
    · rw [q1]
      show (bif !false then _ else _) = _
      rw [Bool.not_false, cond_true, sCopyF f (hf.copy (by decide)), Option.bind_some, room1 (w := w') (c := Fact.c) (y := [D.str f.rel, D.sl (f.args.map tx)]) (by omega) (by decide), cond_true]
    · rcases List.mem_append.1 hx with h | h
      · exact sm x h
      · simp at h; subst h; exact hf
    · rcases List.mem_append.1 hx with h | h
      · exact q2' x h
      · simp at h; exact .inr h
theorem sSetL (k : List Int → Int → Int → List Fact → Option (Cur × List Fact)) : ∀ (m : Nat) (fu : Nat) (v : Int) (c : Cur) (w : List Fact) (n : Nat), v = (m : Int) → m < fu → m ≤ 50 → n + m ≤ 60 → CurOk c → SmallL n w → (∀ x ∈ w, x.rel ≠ [110]) →
    ∃ c' w', d_spec_l2Set_L1 k fu v c.b c.i c.h w = k c'.b c'.i c'.h w' ∧ CurOk c' ∧ SmallL (n + m) w' ∧ ∀ x ∈ w', x.rel ≠ [110] := by
  intro m
  induction m with
  | zero =>
    intro fu v c w n hv hf hm hn hc hw hr
    cases fu with
    | zero => omega
    | succ fu =>
      have e : decide (v > 0) = false := by simp; omega
      rw [d_spec_l2Set_L1, e, cond_false]
      exact ⟨c, w, rfl, hc, hw, hr⟩
  | succ m ih =>
    intro fu v c w n hv hf hm hn hc hw hr
    cases fu with
    | zero => omega
    | succ fu =>
      have e : decide (v > 0) = true := by simp; omega
      obtain ⟨c1, f, e2, hc1, hf1, hf2⟩ := sDrawF c hc
      have e2' : d_spec_l2Draw (⟨c.b, c.i, c.h⟩ : Cur) = some (c1, f) := e2
      obtain ⟨w1, e4, hw1, hm1, _⟩ := sPutF w f hw (by omega) (hf1.le (by decide))
      have e3 : IntKind.i64.wrap (v - 1) = v - 1 := wrap_in (InR.i64.2 (by omega))
      rw [d_spec_l2Set_L1, e, cond_true, e2', Option.bind_some, e4, Option.bind_some, e3]
      obtain ⟨c', w', q1, q2, q3, q4⟩ := ih fu (v - 1) c1 w1 (n + 1) (by omega) (by omega) (by omega) (by omega) hc1 hw1 (fun x hx => by
        rcases hm1 x hx with h | h
        · exact hr x h
        · rw [h]; exact hf2)
      exact ⟨c', w', q1, q2, ⟨by have := q3.1; omega, q3.2⟩, q4⟩
theorem sSetD (c : Cur) (n : Int) (h : CurOk c) (h0 : 0 ≤ n) (hn : n ≤ 40) : ∃ c' l, d_spec_l2Set c n = some (c', l) ∧ CurOk c' ∧ SmallL 40 l ∧ ∀ x ∈ l, x.rel ≠ [110] := by
  unfold d_spec_l2Set
  have e3 : IntKind.i64.wrap (n + 1) = n + 1 := wrap_in (InR.i64.2 (by omega))
  obtain ⟨c1, x, e, hc, hx, hx2⟩ := sBelow c (n + 1) h (by omega) (by omega)
  rw [e3, e, Option.bind_some]
  obtain ⟨c', w', q1, q2, q3, q4⟩ := sSetL (fun a b d q => some ((⟨a, b, d⟩ : Cur), q)) x.toNat fuel x c1 [] 0 (by omega) (by unfold fuel; omega) (by omega) (by omega) hc ⟨by simp, by simp⟩ (by simp)
  exact ⟨_, _, q1, q2, ⟨by have := q3.1; omega, q3.2⟩, q4⟩
def digL (j : Nat) : Bytes := if j < 10 then [UInt8.ofNat (48 + j)] else [UInt8.ofNat (48 + j / 10), UInt8.ofNat (48 + j % 10)]
theorem dig_lit {j : Nat} (h : j < 100) : Lib.decDigits j = digL j := by
  unfold digL
  by_cases h1 : j < 10
  · rw [if_pos h1, Lib.decDigits, dif_pos h1]
  · rw [if_neg h1, Lib.decDigits, dif_neg h1, Lib.decDigits, dif_pos (by omega)]; rfl
theorem dig_from : ∀ j, j < 25 → Lib.decFrom 0 (digL j) = some j ∧ 1 ≤ (digL j).length ∧ (digL j).length ≤ 4 := by decide
theorem numB_dig {j : Nat} (h : j < 25) : numB (Lib.decDigits j) = some j := by
  rw [dig_lit (by omega)]
  obtain ⟨h1, h2, h3⟩ := dig_from j h
  unfold numB
  rw [if_pos ⟨h2, h3⟩, h1]
  simp only
  rw [if_pos (dig_lit (by omega))]
def nfact (j : Nat) : Fact := ⟨[110], [Lib.decDigits j]⟩
theorem nfact_ne {i j : Nat} (hi : i < 25) (hj : j < 25) (h : i ≠ j) : cmpF (nfact i) (nfact j) ≠ 0 := by
  have : cmpA (Lib.decDigits i) (Lib.decDigits j) ≠ 0 := by
    unfold cmpA
    rw [numB_dig hi, numB_dig hj]
    unfold cmpN
    simp only
    split
    · omega
    · split <;> omega
  unfold cmpF nfact cmpL diffL
  simp only [ne_eq, not_true_eq_false, if_false, this, not_false_eq_true, if_true]
theorem nfact_small {j : Nat} (h : j < 25) : SmallF 4 (nfact j) := by
  refine ⟨by simp [nfact], by simp [nfact], fun x hx => ?_⟩
  simp only [nfact, List.mem_singleton] at hx
  subst hx
  rw [dig_lit (by omega)]
  have := (dig_from j h).2.2; omega
theorem sListL (y : Cur × Int) (k : List Fact → Option (Cur × List Fact)) (n0 : Nat) : ∀ (m : Nat) (fu : Nat) (j : Nat) (w : List Fact), j + m = 25 → m < fu → n0 ≤ 40 → SmallL (n0 + j) w → j ≤ w.length → (∀ x ∈ w, x.rel ≠ [110] ∨ ∃ i, i < j ∧ x = nfact i) →
    ∃ w', d_spec_l2List_L1 y k fu (j : Int) w = k w' ∧ SmallL (n0 + 25) w' ∧ 25 ≤ w'.length := by
  intro m
  induction m with
  | zero =>
    intro fu j w hj hf hn hw hl hx
    cases fu with
    | zero => omega
    | succ fu =>
      have e : decide ((j : Int) < 25) = false := by simp; omega
      rw [d_spec_l2List_L1, e, cond_false]
      exact ⟨w, rfl, by rw [show n0 + 25 = n0 + j from by omega]; exact hw, by omega⟩
  | succ m ih =>
    intro fu j w hj hf hn hw hl hx
    cases fu with
    | zero => omega
    | succ fu =>
      have e : decide ((j : Int) < 25) = true := by simp; omega
      have e1 : d_spec_FormatInt (j : Int) = some (Lib.decDigits j) := by
        rw [sFmt _ (InR.i64.2 (by omega))]
        unfold Lib.itoa; rw [if_neg (by omega)]; rfl
      obtain ⟨w1, e4, hw1, hm1, hlen⟩ := sPutF w (nfact j) hw (by omega) (nfact_small (by omega))
      have e4' : d_spec_l2Put w (⟨[110], [Lib.decDigits j]⟩ : Fact) = some w1 := e4
      have e3 : IntKind.i64.wrap ((j : Int) + 1) = ((j + 1 : Nat) : Int) := by rw [wrap_in (InR.i64.2 (by omega))]; rfl
      have hlen := hlen (fun x hxm => by
        rcases hx x hxm with h | ⟨i, hi, rfl⟩
        · unfold cmpF
          rw [if_pos (by exact h)]
          exact cmpT_ne h
        · exact nfact_ne (by omega) (by omega) (by omega))
      rw [d_spec_l2List_L1, e, cond_true, e1, Option.bind_some, e4', Option.bind_some, e3]
      exact ih fu (j + 1) w1 (by omega) (by omega) hn hw1 (by omega) (fun x hxm => by
        rcases hm1 x hxm with h | h
        · rcases hx x h with h | ⟨i, hi, rfl⟩
          · exact .inl h
          · exact .inr ⟨i, by omega, rfl⟩
        · exact .inr ⟨j, by omega, h⟩)
theorem sListD (c : Cur) (h : CurOk c) : ∃ c' l, d_spec_l2List c = some (c', l) ∧ CurOk c' ∧ SmallL 65 l := by
  unfold d_spec_l2List
  obtain ⟨c1, l, e, hc, hl, hr⟩ := sSetD c 6 h (by decide) (by decide)
  obtain ⟨c2, x, e2, hc2, hx, hx2⟩ := sBelow c1 8 hc (by decide) (by decide)
  rw [e, Option.bind_some, e2, Option.bind_some]
  have hl1 := hl.1
  cases (x == (0 : Int)) with
  | true =>
    obtain ⟨c3, f, e3, hc3, hf⟩ := sAnyF c2 hc2
    rw [cond_true, e3, Option.bind_some, room1 (w := l) (c := Fact.c) (y := [D.str f.rel, D.sl (f.args.map tx)]) (by omega) (by decide), cond_true]
    refine ⟨_, _, rfl, hc3, by simp; omega, fun y hy => ?_⟩
    rcases List.mem_append.1 hy with h | h
    · exact hl.2 y h
    · simp at h; subst h; exact hf
  | false =>
    rw [cond_false]
    cases (x == (1 : Int)) with
    | true =>
      rw [cond_true]
      obtain ⟨w', q1, q2, q3⟩ := sListL (c2, x) (fun (q1_1 : List Fact) => ((d_spec_l1Int c2 (([23, 24, 25] : List Int))).bind fun y35 => (bif decide (0 ≤ (y35.2 : Int)) && decide ((y35.2).toNat ≤ ((q1_1).map Fact.c).length) then (some ((y35.1, (q1_1).take (y35.2).toNat))) else none))) 40 25 fuel 0 l (by omega) (by unfold fuel; omega) (by omega) hl (by omega) (fun y hy => .inl (hr y hy))
      obtain ⟨c3, z, e3, hc3, hz⟩ := sIntD c2 [23, 24, 25] hc2 (by decide) (by decide)
      have hz2 : 0 ≤ z ∧ z ≤ 25 := by
        have : ∀ s ∈ ([23, 24, 25] : List Int), 0 ≤ s ∧ s ≤ 25 := by decide
        exact this z hz
      have e4 : (decide (0 ≤ z) && decide (z.toNat ≤ (w'.map Fact.c).length)) = true := by simp; omega
      refine ⟨c3, w'.take z.toNat, ?_, hc3, by have := q2.1; simp; omega, fun y hy => q2.2 y (List.mem_of_mem_take hy)⟩
      refine Eq.trans q1 ?_
      show ((d_spec_l1Int c2 [23, 24, 25]).bind _) = _
      rw [e3, Option.bind_some, e4, cond_true]
    | false => exact ⟨_, _, rfl, hc2, by show l.length ≤ 65; omega, hl.2⟩
end Go.Cx
