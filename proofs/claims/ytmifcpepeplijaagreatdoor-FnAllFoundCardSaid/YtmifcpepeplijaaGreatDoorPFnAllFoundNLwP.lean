import Derived.Test.YtmifcpepeplijaaGreatDoorPFnAllFoundNLwJ
import Derived.Test.YtmifcpepeplijaaGreatDoorPFnAllFoundNFn2
/- More draws of the reference in plain words: facts, lists of facts, bindings, two patterns; instances. No condition but bounds. -/
namespace Go.Cx
open Go.RowKit Go.Proofs
set_option linter.unusedVariables false
set_option linter.unusedSimpArgs false
theorem sIntD (c : Cur) (l : List Int) (h : CurOk c) (h0 : 0 < l.length) (h1 : l.length ≤ 256) : ∃ c' s, d_spec_l1Int c l = some (c', s) ∧ CurOk c' ∧ s ∈ l := by
  obtain ⟨c', x, e, hc, hx, hx2⟩ := sBelow c (l.length : Int) h (by omega) (by omega)
  unfold d_spec_l1Int
  rw [List.length_map, e, Option.bind_some]
  have hlt : x.toNat < l.length := by omega
  have e2 : atI l x = some l[x.toNat] := by unfold atI; rw [decide_eq_true hx, cond_true]; exact List.getElem?_eq_getElem hlt
  rw [e2, Option.bind_some]
  exact ⟨_, _, rfl, hc, List.getElem_mem hlt⟩
theorem sDrawFL (y : Cur × (Bytes × Int)) (k : List Int → Int → Int → List Bytes → Option (Cur × Fact)) : ∀ (m : Nat) (fu : Nat) (v : Int) (c : Cur) (w : List Bytes), y.2.2 - v = (m : Int) → m < fu → 0 ≤ v → y.2.2 ≤ 100 → w.length + m ≤ 1000 → CurOk c → (∀ x ∈ w, x.length ≤ 16) →
    ∃ c' w', d_spec_l2Draw_L1 y k fu v c.b c.i c.h w = k c'.b c'.i c'.h w' ∧ CurOk c' ∧ w'.length ≤ w.length + m ∧ ∀ x ∈ w', x.length ≤ 16 := by
  intro m
  induction m with
  | zero =>
    intro fu v c w hv hf h0 hy hw hc hx
    cases fu with
    | zero => omega
    | succ fu =>
      have e : decide (v < y.2.2) = false := by simp; omega
      rw [d_spec_l2Draw_L1, e, cond_false]
      exact ⟨c, w, rfl, hc, by omega, hx⟩
  | succ m ih =>
    intro fu v c w hv hf h0 hy hw hc hx
    cases fu with
    | zero => omega
    | succ fu =>
      have e : decide (v < y.2.2) = true := by simp; omega
      obtain ⟨c1, s, e2, hc1, hs⟩ := sAtomD c hc
      have e2' : d_spec_l1Atom (⟨c.b, c.i, c.h⟩ : Cur) = some (c1, s) := e2
      have e3 : IntKind.i64.wrap (v + 1) = v + 1 := wrap_in (InR.i64.2 (by omega))
      rw [d_spec_l2Draw_L1, e, cond_true, e2', Option.bind_some, room1 (by omega) (by decide), cond_true, e3]
      obtain ⟨c', w', q1, q2, q3, q4⟩ := ih fu (v + 1) c1 (w ++ [s]) (by omega) (by omega) (by omega) hy (by simp; omega) hc1 (fun x hxm => by
        rcases List.mem_append.1 hxm with h | h
        · exact hx x h
        · simp at h; subst h; exact hs)
      exact ⟨c', w', q1, q2, by simp at q3; omega, q4⟩
theorem sRelN (c : Cur) (h : CurOk c) : ∃ c' r n, d_spec_l2Rel c = some (c', (r, n)) ∧ CurOk c' ∧ r.length ≤ 16 ∧ 0 ≤ n ∧ n ≤ 2 ∧ r ≠ [110] := by
  unfold d_spec_l2Rel
  obtain ⟨c1, x, e, hc, hx, hx2⟩ := sBelow c 6 h (by decide) (by decide)
  rw [e, Option.bind_some]
  have key : x = 0 ∨ x = 1 ∨ x = 2 ∨ x = 3 ∨ x = 4 ∨ x = 5 := by omega
  rcases key with rfl | rfl | rfl | rfl | rfl | rfl <;> exact ⟨c1, _, _, rfl, hc, by decide, by decide, by decide, by decide⟩
theorem sDrawF (c : Cur) (h : CurOk c) : ∃ c' p, d_spec_l2Draw c = some (c', p) ∧ CurOk c' ∧ SmallF 2 p ∧ p.rel ≠ [110] := by
  unfold d_spec_l2Draw
  obtain ⟨c1, r, n, e, hc, hr, hn, hn2, hrn⟩ := sRelN c h
  rw [e, Option.bind_some]
  obtain ⟨c', w', q1, q2, q3, q4⟩ := sDrawFL (c1, (r, n)) (fun a b d q => some ((⟨a, b, d⟩ : Cur), (⟨r, q⟩ : Fact))) n.toNat fuel 0 c1 [] (by simp; omega) (by unfold fuel; omega) (by omega) (by simp; omega) (by simp; omega) hc (by simp)
  exact ⟨_, _, q1, q2, ⟨hr, by show w'.length ≤ 2; simp at q3; omega, q4⟩, hrn⟩
theorem sAnyF (c : Cur) (h : CurOk c) : ∃ c' p, d_spec_l2Any c = some (c', p) ∧ CurOk c' ∧ SmallF 4 p := by
  unfold d_spec_l2Any
  obtain ⟨c1, p, e, hc, ⟨hp1, hp2, hp3⟩, _⟩ := sDrawF c h
  obtain ⟨c2, x, e2, hc2, hx, hx2⟩ := sBelow c1 10 hc (by decide) (by decide)
  rw [e, Option.bind_some, e2, Option.bind_some]
  cases (x == (0 : Int)) with
  | true =>
    obtain ⟨c3, s, e3, hc3, hs⟩ := sWordD c2 hc2
    rw [cond_true, e3, Option.bind_some]
    exact ⟨_, _, rfl, hc3, hs, by show p.args.length ≤ 4; omega, hp3⟩
  | false =>
    rw [cond_false]
    cases (x == (1 : Int)) with
    | true =>
      obtain ⟨c3, s, e3, hc3, hs⟩ := sWordD c2 hc2
      rw [cond_true, e3, Option.bind_some, room1 (w := p.args) (by omega) (by decide), cond_true]
      refine ⟨_, _, rfl, hc3, hp1, by simp; omega, fun y hy => ?_⟩
      rcases List.mem_append.1 hy with h | h
      · exact hp3 y h
      · simp at h; subst h; exact hs
    | false =>
      rw [cond_false]
      cases (x == (2 : Int)) with
      | true =>
        obtain ⟨c3, z, e3, hc3, hz, hz2⟩ := sBelow c2 5 hc2 (by decide) (by decide)
        have e4 : (decide (0 ≤ z) && decide (z.toNat ≤ ((([[97], [98], [99], [97]] : List Bytes)).map tx).length)) = true := by simp; omega
        rw [cond_true, e3, Option.bind_some, e4, cond_true]
        refine ⟨_, _, rfl, hc3, hp1, by simp [List.length_take]; omega, fun y hy => ?_⟩
        have : ∀ s ∈ ([[97], [98], [99], [97]] : List Bytes), s.length ≤ 16 := by decide
        exact this y (List.mem_of_mem_take hy)
      | false => exact ⟨_, _, rfl, hc2, hp1, by show p.args.length ≤ 4; omega, hp3⟩
/-- a list of facts of bounded size -/
def SmallL (n : Nat) (l : List Fact) : Prop := l.length ≤ n ∧ ∀ f ∈ l, SmallF 4 f
theorem SmallF.le {k m : Nat} {p : Fact} (h : SmallF k p) (hm : k ≤ m) : SmallF m p := ⟨h.1, by have := h.2.1; omega, h.2.2⟩
theorem SmallF.copy {k : Nat} {p : Fact} (h : SmallF k p) (hk : k ≤ 1000) : p.args.length ≤ 1099511627776 := by have := h.2.1; omega
theorem sPutFL (a : List Fact) (f : Fact) (K : Bool → List Fact → Option (List Fact)) (hf : SmallF 4 f) : ∀ (rest : List Fact) (i : Nat) (v : Bool) (w : List Fact), (∀ x ∈ rest, SmallF 4 x) → w.length + 2 * rest.length ≤ 1000 →
    ∃ v' w', d_spec_l2Put_L1 a f K rest i v w = K v' w' ∧ (∀ x ∈ w', x ∈ w ∨ x ∈ rest ∨ x = f) ∧ w.length + rest.length ≤ w'.length ∧
      (bif v then v' = true ∧ w'.length = w.length + rest.length else bif v' then w'.length ≤ w.length + rest.length + 1 ∧ ((∀ x ∈ rest, cmpF x f ≠ 0) → w'.length = w.length + rest.length + 1) else w'.length = w.length + rest.length) := by
  intro rest
  induction rest with
  | nil =>
    intro i v w _ _
    refine ⟨v, w, rfl, fun x hx => .inl hx, by simp, ?_⟩
    cases v <;> simp
  | cons x xs ih =>
    intro i v w hs hl
    simp only [List.length_cons] at hl
    have hx := hs x (by simp)
    have hs' : ∀ y ∈ xs, SmallF 4 y := fun y hy => hs y (by simp [hy])
    have cx := sCopyF x (hx.copy (by decide))
    have cf := sCopyF f (hf.copy (by decide))
    have nx := fun w' : List Fact => fun h : w'.length < 1099511627776 => room1 (w := w') (c := Fact.c) (y := [D.str x.rel, D.sl (x.args.map tx)]) (b := 40) h (by decide)
    have nf := fun w' : List Fact => fun h : w'.length < 1099511627776 => room1 (w := w') (c := Fact.c) (y := [D.str f.rel, D.sl (f.args.map tx)]) (b := 40) h (by decide)
    cases v with
    | true =>
      obtain ⟨v', w', q1, q2, q3, q4⟩ := ih (i + 1) true (w ++ [x]) hs' (by simp; omega)
      simp only [List.length_append, List.length_cons, List.length_nil, cond_true] at q3 q4
      refine ⟨v', w', ?_, fun z hz => ?_, by simp only [List.length_cons]; omega, ?_⟩
      · rw [d_spec_l2Put_L1, Bool.not_true, cond_false, cx, Option.bind_some, nx w (by omega), cond_true]; exact q1
      · rcases q2 z hz with h | h | h
        · rcases List.mem_append.1 h with h | h
          · exact .inl h
          · simp at h; subst h; exact .inr (.inl (by simp))
        · exact .inr (.inl (by simp [h]))
        · exact .inr (.inr h)
      · simp only [cond_true, List.length_cons]; exact ⟨q4.1, by omega⟩
    | false =>
      rw [d_spec_l2Put_L1, Bool.not_false, cond_true, sCmpF, Option.bind_some]
      by_cases hge : cmpF x f ≥ 0
      · rw [decide_eq_true hge, cond_true, Option.bind_some]
        by_cases hgt : cmpF x f > 0
        · obtain ⟨v', w', q1, q2, q3, q4⟩ := ih (i + 1) true (w ++ [f] ++ [x]) hs' (by simp; omega)
          simp only [List.length_append, List.length_cons, List.length_nil, cond_true] at q3 q4
          have e2 : room (((w.map Fact.c) ++ [[D.str f.rel, D.sl (f.args.map tx)]]).length + [[D.str x.rel, D.sl (x.args.map tx)]].length) 40 = true := by
            have := nx (w ++ [f]) (by simp; omega)
            rw [List.map_append] at this; exact this
          refine ⟨v', w', ?_, fun z hz => ?_, by simp only [List.length_cons]; omega, ?_⟩
          · rw [decide_eq_true hgt, cond_true, cf, Option.bind_some, nf w (by omega), cond_true, cx, Option.bind_some, e2, cond_true]; exact q1
          · rcases q2 z hz with h | h | h
            · rcases List.mem_append.1 h with h | h
              · rcases List.mem_append.1 h with h | h
                · exact .inl h
                · simp at h; exact .inr (.inr h)
              · simp at h; subst h; exact .inr (.inl (by simp))
            · exact .inr (.inl (by simp [h]))
            · exact .inr (.inr h)
          · rw [q4.1]; simp only [cond_false, cond_true, List.length_cons]; exact ⟨by omega, fun _ => by omega⟩
        · have hz : cmpF x f = 0 := by omega
          obtain ⟨v', w', q1, q2, q3, q4⟩ := ih (i + 1) true (w ++ [x]) hs' (by simp; omega)
          simp only [List.length_append, List.length_cons, List.length_nil, cond_true] at q3 q4
          refine ⟨v', w', ?_, fun z hz => ?_, by simp only [List.length_cons]; omega, ?_⟩
          · rw [decide_eq_false hgt, cond_false, cx, Option.bind_some, nx w (by omega), cond_true]; exact q1
          · rcases q2 z hz with h | h | h
            · rcases List.mem_append.1 h with h | h
              · exact .inl h
              · simp at h; subst h; exact .inr (.inl (by simp))
            · exact .inr (.inl (by simp [h]))
            · exact .inr (.inr h)
          · rw [q4.1]; simp only [cond_false, cond_true, List.length_cons]; exact ⟨by omega, fun h => absurd hz (h x (by simp))⟩
      · obtain ⟨v', w', q1, q2, q3, q4⟩ := ih (i + 1) false (w ++ [x]) hs' (by simp; omega)
        simp only [List.length_append, List.length_cons, List.length_nil, cond_false] at q3 q4
        refine ⟨v', w', ?_, fun z hz => ?_, by simp only [List.length_cons]; omega, ?_⟩
        · rw [decide_eq_false hge, cond_false, cx, Option.bind_some, nx w (by omega), cond_true]; exact q1
        · rcases q2 z hz with h | h | h
          · rcases List.mem_append.1 h with h | h
            · exact .inl h
            · simp at h; subst h; exact .inr (.inl (by simp))
          · exact .inr (.inl (by simp [h]))
          · exact .inr (.inr h)
        · cases v' with
          | true =>
            simp only [cond_true, cond_false, List.length_cons] at q4 ⊢
            exact ⟨by omega, fun h => by have := q4.2 (fun y hy => h y (by simp [hy])); omega⟩
          | false => simp only [cond_false, List.length_cons] at q4 ⊢; omega
theorem sPutF (l : List Fact) (f : Fact) {n : Nat} (hl : SmallL n l) (hn : n ≤ 100) (hf : SmallF 4 f) : ∃ l', d_spec_l2Put l f = some l' ∧ SmallL (n + 1) l' ∧ (∀ x ∈ l', x ∈ l ∨ x = f) ∧ ((∀ x ∈ l, cmpF x f ≠ 0) → l'.length = l.length + 1) := by
  unfold d_spec_l2Put
  obtain ⟨v', w', q1, q2, q3, q4⟩ := sPutFL l f (fun (z1_6 : Bool) (q1_1 : List Fact) => (bif !(z1_6) then ((d_spec_l2Copy f).bind fun y151 => (bif room (((q1_1).map Fact.c).length + ([[D.str (y151.rel), D.sl ((y151.args).map tx)]]).length) 40 then (some ((q1_1) ++ ([y151]))) else none)) else (some (q1_1)))) hf l 0 false [] hl.2 (by have := hl.1; simp; omega)
  have hln := hl.1
  simp only [List.length_nil, Nat.zero_add, cond_false] at q3 q4
  have q2' : ∀ x ∈ w', x ∈ l ∨ x = f := fun x hx => by
    rcases q2 x hx with h | h | h
    · cases h
    · exact .inl h
    · exact .inr h
  have sm : ∀ x ∈ w', SmallF 4 x := fun x hx => by
    rcases q2' x hx with h | h
    · exact hl.2 x h
    · rw [h]; exact hf
  cases v' with
  | true =>
    simp only [cond_true] at q4
    exact ⟨w', q1, ⟨by omega, sm⟩, q2', q4.2⟩
  | false =>
    simp only [cond_false] at q4
    refine ⟨w' ++ [f], ?_, ⟨by simp; omega, fun x hx => ?_⟩, fun x hx => ?_, fun _ => by simp; omega⟩
    · rw [q1]
      show (bif !false then _ else _) = _
      rw [Bool.not_false, cond_true, sCopyF f (hf.copy (by decide)), Option.bind_some, room1 (w := w') (c := Fact.c) (y := [D.str f.rel, D.sl (f.args.map tx)]) (by omega) (by decide), cond_true]
    · rcases List.mem_append.1 hx with h | h
      · exact sm x h
      · simp at h; subst h; exact hf
    · rcases List.mem_append.1 hx with h | h
      · exact q2' x h
      · simp at h; exact .inr h
theorem sSetL (k : List Int → Int → Int → List Fact → Option (Cur × List Fact)) : ∀ (m : Nat) (fu : Nat) (v : Int) (c : Cur) (w : List Fact) (n : Nat), v = (m : Int) → m < fu → m ≤ 50 → n + m ≤ 60 → CurOk c → SmallL n w → (∀ x ∈ w, x.rel ≠ [110]) →
    ∃ c' w', d_spec_l2Set_L1 k fu v c.b c.i c.h w = k c'.b c'.i c'.h w' ∧ CurOk c' ∧ SmallL (n + m) w' ∧ ∀ x ∈ w', x.rel ≠ [110] := by
  intro m
  induction m with
  | zero =>
    intro fu v c w n hv hf hm hn hc hw hr
    cases fu with
    | zero => omega
    | succ fu =>
      have e : decide (v > 0) = false := by simp; omega
      rw [d_spec_l2Set_L1, e, cond_false]
      exact ⟨c, w, rfl, hc, hw, hr⟩
  | succ m ih =>
    intro fu v c w n hv hf hm hn hc hw hr
    cases fu with
    | zero => omega
    | succ fu =>
      have e : decide (v > 0) = true := by simp; omega
      obtain ⟨c1, f, e2, hc1, hf1, hf2⟩ := sDrawF c hc
      have e2' : d_spec_l2Draw (⟨c.b, c.i, c.h⟩ : Cur) = some (c1, f) := e2
      obtain ⟨w1, e4, hw1, hm1, _⟩ := sPutF w f hw (by omega) (hf1.le (by decide))
      have e3 : IntKind.i64.wrap (v - 1) = v - 1 := wrap_in (InR.i64.2 (by omega))
      rw [d_spec_l2Set_L1, e, cond_true, e2', Option.bind_some, e4, Option.bind_some, e3]
      obtain ⟨c', w', q1, q2, q3, q4⟩ := ih fu (v - 1) c1 w1 (n + 1) (by omega) (by omega) (by omega) (by omega) hc1 hw1 (fun x hx => by
        rcases hm1 x hx with h | h
        · exact hr x h
        · rw [h]; exact hf2)
      exact ⟨c', w', q1, q2, ⟨by have := q3.1; omega, q3.2⟩, q4⟩
theorem sSetD (c : Cur) (n : Int) (h : CurOk c) (h0 : 0 ≤ n) (hn : n ≤ 40) : ∃ c' l, d_spec_l2Set c n = some (c', l) ∧ CurOk c' ∧ SmallL 40 l ∧ ∀ x ∈ l, x.rel ≠ [110] := by
  unfold d_spec_l2Set
  have e3 : IntKind.i64.wrap (n + 1) = n + 1 := wrap_in (InR.i64.2 (by omega))
  obtain ⟨c1, x, e, hc, hx, hx2⟩ := sBelow c (n + 1) h (by omega) (by omega)
  rw [e3, e, Option.bind_some]
  obtain ⟨c', w', q1, q2, q3, q4⟩ := sSetL (fun a b d q => some ((⟨a, b, d⟩ : Cur), q)) x.toNat fuel x c1 [] 0 (by omega) (by unfold fuel; omega) (by omega) (by omega) hc ⟨by simp, by simp⟩ (by simp)
  exact ⟨_, _, q1, q2, ⟨by have := q3.1; omega, q3.2⟩, q4⟩
def digL (j : Nat) : Bytes := if j < 10 then [UInt8.ofNat (48 + j)] else [UInt8.ofNat (48 + j / 10), UInt8.ofNat (48 + j % 10)]
theorem dig_lit {j : Nat} (h : j < 100) : Lib.decDigits j = digL j := by
  unfold digL
  by_cases h1 : j < 10
  · rw [if_pos h1, Lib.decDigits, dif_pos h1]
  · rw [if_neg h1, Lib.decDigits, dif_neg h1, Lib.decDigits, dif_pos (by omega)]; rfl
theorem dig_from : ∀ j, j < 25 → Lib.decFrom 0 (digL j) = some j ∧ 1 ≤ (digL j).length ∧ (digL j).length ≤ 4 := by decide
theorem numB_dig {j : Nat} (h : j < 25) : numB (Lib.decDigits j) = some j := by
  rw [dig_lit (by omega)]
  obtain ⟨h1, h2, h3⟩ := dig_from j h
  unfold numB
  rw [if_pos ⟨h2, h3⟩, h1]
  simp only
  rw [if_pos (dig_lit (by omega))]
def nfact (j : Nat) : Fact := ⟨[110], [Lib.decDigits j]⟩
theorem nfact_ne {i j : Nat} (hi : i < 25) (hj : j < 25) (h : i ≠ j) : cmpF (nfact i) (nfact j) ≠ 0 := by
  have : cmpA (Lib.decDigits i) (Lib.decDigits j) ≠ 0 := by
    unfold cmpA
    rw [numB_dig hi, numB_dig hj]
    unfold cmpN
    simp only
    split
    · omega
    · split <;> omega
  unfold cmpF nfact cmpL diffL
  simp only [ne_eq, not_true_eq_false, if_false, this, not_false_eq_true, if_true]
theorem nfact_small {j : Nat} (h : j < 25) : SmallF 4 (nfact j) := by
  refine ⟨by simp [nfact], by simp [nfact], fun x hx => ?_⟩
  simp only [nfact, List.mem_singleton] at hx
  subst hx
  rw [dig_lit (by omega)]
  have := (dig_from j h).2.2; omega
theorem sListL (y : Cur × Int) (k : List Fact → Option (Cur × List Fact)) (n0 : Nat) : ∀ (m : Nat) (fu : Nat) (j : Nat) (w : List Fact), j + m = 25 → m < fu → n0 ≤ 40 → SmallL (n0 + j) w → j ≤ w.length → (∀ x ∈ w, x.rel ≠ [110] ∨ ∃ i, i < j ∧ x = nfact i) →
    ∃ w', d_spec_l2List_L1 y k fu (j : Int) w = k w' ∧ SmallL (n0 + 25) w' ∧ 25 ≤ w'.length := by
  intro m
  induction m with
  | zero =>
    intro fu j w hj hf hn hw hl hx
    cases fu with
    | zero => omega
    | succ fu =>
      have e : decide ((j : Int) < 25) = false := by simp; omega
      rw [d_spec_l2List_L1, e, cond_false]
      exact ⟨w, rfl, by rw [show n0 + 25 = n0 + j from by omega]; exact hw, by omega⟩
  | succ m ih =>
    intro fu j w hj hf hn hw hl hx
    cases fu with
    | zero => omega
    | succ fu =>
      have e : decide ((j : Int) < 25) = true := by simp; omega
      have e1 : d_spec_FormatInt (j : Int) = some (Lib.decDigits j) := by
        rw [sFmt _ (InR.i64.2 (by omega))]
        unfold Lib.itoa; rw [if_neg (by omega)]; rfl
      obtain ⟨w1, e4, hw1, hm1, hlen⟩ := sPutF w (nfact j) hw (by omega) (nfact_small (by omega))
      have e4' : d_spec_l2Put w (⟨[110], [Lib.decDigits j]⟩ : Fact) = some w1 := e4
      have e3 : IntKind.i64.wrap ((j : Int) + 1) = ((j + 1 : Nat) : Int) := by rw [wrap_in (InR.i64.2 (by omega))]; rfl
      have hlen := hlen (fun x hxm => by
        rcases hx x hxm with h | ⟨i, hi, rfl⟩
        · unfold cmpF
          rw [if_pos (by exact h)]
          exact cmpT_ne h
        · exact nfact_ne (by omega) (by omega) (by omega))
      rw [d_spec_l2List_L1, e, cond_true, e1, Option.bind_some, e4', Option.bind_some, e3]
      exact ih fu (j + 1) w1 (by omega) (by omega) hn hw1 (by omega) (fun x hxm => by
        rcases hm1 x hxm with h | h
        · rcases hx x h with h | ⟨i, hi, rfl⟩
          · exact .inl h
          · exact .inr ⟨i, by omega, rfl⟩
        · exact .inr ⟨j, by omega, h⟩)
theorem sListD (c : Cur) (h : CurOk c) : ∃ c' l, d_spec_l2List c = some (c', l) ∧ CurOk c' ∧ SmallL 65 l := by
  unfold d_spec_l2List
  obtain ⟨c1, l, e, hc, hl, hr⟩ := sSetD c 6 h (by decide) (by decide)
  obtain ⟨c2, x, e2, hc2, hx, hx2⟩ := sBelow c1 8 hc (by decide) (by decide)
  rw [e, Option.bind_some, e2, Option.bind_some]
  have hl1 := hl.1
  cases (x == (0 : Int)) with
  | true =>
    obtain ⟨c3, f, e3, hc3, hf⟩ := sAnyF c2 hc2
    rw [cond_true, e3, Option.bind_some, room1 (w := l) (c := Fact.c) (y := [D.str f.rel, D.sl (f.args.map tx)]) (by omega) (by decide), cond_true]
    refine ⟨_, _, rfl, hc3, by simp; omega, fun y hy => ?_⟩
    rcases List.mem_append.1 hy with h | h
    · exact hl.2 y h
    · simp at h; subst h; exact hf
  | false =>
    rw [cond_false]
    cases (x == (1 : Int)) with
    | true =>
      rw [cond_true]
      obtain ⟨w', q1, q2, q3⟩ := sListL (c2, x) (fun (q1_1 : List Fact) => ((d_spec_l1Int c2 (([23, 24, 25] : List Int))).bind fun y35 => (bif decide (0 ≤ (y35.2 : Int)) && decide ((y35.2).toNat ≤ ((q1_1).map Fact.c).length) then (some ((y35.1, (q1_1).take (y35.2).toNat))) else none))) 40 25 fuel 0 l (by omega) (by unfold fuel; omega) (by omega) hl (by omega) (fun y hy => .inl (hr y hy))
      obtain ⟨c3, z, e3, hc3, hz⟩ := sIntD c2 [23, 24, 25] hc2 (by decide) (by decide)
      have hz2 : 0 ≤ z ∧ z ≤ 25 := by
        have : ∀ s ∈ ([23, 24, 25] : List Int), 0 ≤ s ∧ s ≤ 25 := by decide
        exact this z hz
      have e4 : (decide (0 ≤ z) && decide (z.toNat ≤ (w'.map Fact.c).length)) = true := by simp; omega
      refine ⟨c3, w'.take z.toNat, ?_, hc3, by have := q2.1; simp; omega, fun y hy => q2.2 y (List.mem_of_mem_take hy)⟩
      refine Eq.trans q1 ?_
      show ((d_spec_l1Int c2 [23, 24, 25]).bind _) = _
      rw [e3, Option.bind_some, e4, cond_true]
    | false => exact ⟨_, _, rfl, hc2, by show l.length ≤ 65; omega, hl.2⟩
end Go.Cx

/- Draws of conditions and rules in plain words: they come back, with data of bounded size. No condition but bounds. -/
namespace Go.Cx
open Go.RowKit Go.Proofs
set_option linter.unusedVariables false
set_option linter.unusedSimpArgs false
/-- conditions, actions and rules of bounded size -/
def SmallC (c : Cond) : Prop := SmallF 4 c.pat ∧ c.left.length ≤ 16 ∧ c.right.length ≤ 16
def SmallA (a : Action) : Prop := SmallF 4 a.pat
def SmallR (n : Nat) (r : Rule) : Prop := r.name.length ≤ 16 ∧ (r.conds.length ≤ n ∧ ∀ c ∈ r.conds, SmallC c) ∧ (r.acts.length ≤ n ∧ ∀ a ∈ r.acts, SmallA a)
theorem wtL_max {α : Type} {w : α → Nat} {B : Nat} : ∀ (l : List α), (∀ x ∈ l, w x ≤ B) → wtL w l ≤ (B + 1) * l.length
  | [], _ => by simp [wtL]
  | x :: l, h => by
    have h1 := wtL_max l fun y hy => h y (by simp [hy])
    have h2 := h x (by simp)
    rw [wtL_cons, List.length_cons, Nat.mul_add]; omega
theorem SmallF.wt4 {p : Fact} (h : SmallF 4 p) : tw p.rel + wtL tw p.args ≤ 100 := by
  have := wtL_small p.args h.2.2
  have h1 := h.1
  have h2 := h.2.1
  unfold tw at *
  omega
theorem SmallC.wt {c : Cond} (h : SmallC c) : c.wt ≤ 200 := by
  have h1 := h.1.wt4
  have h2 := h.2.1
  have h3 := h.2.2
  unfold Cond.wt
  unfold tw at *
  omega
theorem SmallA.wt {a : Action} (h : SmallA a) : a.wt ≤ 200 := by
  have h1 := SmallF.wt4 h
  unfold Action.wt
  unfold tw at *
  omega
theorem SmallR.wt {n : Nat} {r : Rule} (h : SmallR n r) (hn : n ≤ 1000) : r.wt ≤ 1048576 := by
  obtain ⟨h1, ⟨h2, h3⟩, h4, h5⟩ := h
  have c1 := wtL_max (w := Cond.wt) (B := 200) r.conds (fun x hx => (h3 x hx).wt)
  have c2 := wtL_max (w := Action.wt) (B := 200) r.acts (fun x hx => (h5 x hx).wt)
  have d1 : (200 + 1) * r.conds.length ≤ 201 * 1000 := Nat.mul_le_mul_left _ (by omega)
  have d2 : (200 + 1) * r.acts.length ≤ 201 * 1000 := Nat.mul_le_mul_left _ (by omega)
  unfold Rule.wt
  unfold tw at *
  omega
def smallFb (p : Fact) : Bool := decide (p.rel.length ≤ 16) && (decide (p.args.length ≤ 4) && p.args.all fun x => decide (x.length ≤ 16))
theorem smallF_of {p : Fact} (h : smallFb p = true) : SmallF 4 p := by
  unfold smallFb at h
  simp only [Bool.and_eq_true, decide_eq_true_eq, List.all_eq_true] at h
  exact h
def smallRb (r : Rule) : Bool := (decide (r.name.length ≤ 16) && ((decide (r.conds.length ≤ 4) && r.conds.all fun c => smallFb c.pat && (decide (c.left.length ≤ 16) && decide (c.right.length ≤ 16))) && (decide (r.acts.length ≤ 4) && r.acts.all fun a => smallFb a.pat))) && (decide (1 ≤ r.conds.length) && decide (1 ≤ r.acts.length))
theorem smallR_of {r : Rule} (h : smallRb r = true) : SmallR 4 r ∧ 1 ≤ r.conds.length ∧ 1 ≤ r.acts.length := by
  unfold smallRb at h
  simp only [Bool.and_eq_true, decide_eq_true_eq, List.all_eq_true] at h
  obtain ⟨⟨h1, ⟨h2, h3⟩, h4, h5⟩, h6, h7⟩ := h
  exact ⟨⟨h1, ⟨h2, fun c hc => ⟨smallF_of (h3 c hc).1, (h3 c hc).2⟩⟩, h4, fun a ha => smallF_of (h5 a ha)⟩, h6, h7⟩
theorem sTest4 (c : Cur) (l r : Bytes) (h : CurOk c) (hl : l.length ≤ 16) (hr : r.length ≤ 16) : ∃ c' x, d_spec_l4Test c l r = some (c', x) ∧ CurOk c' ∧ SmallC x := by
  unfold d_spec_l4Test
  obtain ⟨c1, k, e, hc, _⟩ := sIntD c [3, 4, 4, 5] h (by decide) (by decide)
  rw [e, Option.bind_some]
  exact ⟨_, _, rfl, hc, ⟨by simp, by simp, by simp⟩, hl, hr⟩
theorem sDraw4 (c : Cur) (h : CurOk c) : ∃ c' x, d_spec_l4Draw c = some (c', x) ∧ CurOk c' ∧ SmallC x := by
  unfold d_spec_l4Draw
  obtain ⟨c1, k, e, hc, _, _⟩ := sBelow c 5 h (by decide) (by decide)
  rw [e, Option.bind_some]
  have one : ∀ k : Int, ∃ c' x, ((d_spec_l3Draw c1).bind fun y4 => (some ((y4.1, (⟨k, y4.2, [], []⟩ : Cond))))) = some (c', x) ∧ CurOk c' ∧ SmallC x := fun k => by
    obtain ⟨c2, p, e2, hc2, hp⟩ := sDrawP c1 hc
    rw [e2, Option.bind_some]
    exact ⟨_, _, rfl, hc2, ⟨hp.1, by have := hp.2.1; show p.args.length ≤ 4; omega, hp.2.2⟩, by simp, by simp⟩
  cases (k == (0 : Int)) with
  | true => rw [cond_true]; exact one 1
  | false =>
    rw [cond_false]
    cases (k == (1 : Int)) with
    | true => rw [cond_true]; exact one 1
    | false =>
      rw [cond_false]
      cases (k == (2 : Int)) with
      | true => rw [cond_true]; exact one 2
      | false =>
        obtain ⟨c2, l, e2, hc2, hl⟩ := sTermD c1 hc
        obtain ⟨c3, r, e3, hc3, hr⟩ := sTermD c2 hc2
        obtain ⟨c4, x, e4, hc4, hx⟩ := sTest4 c3 l r hc3 hl hr
        rw [cond_false, e2, Option.bind_some, e3, Option.bind_some, e4, Option.bind_some]
        exact ⟨_, _, rfl, hc4, hx⟩
theorem sAny4 (c : Cur) (h : CurOk c) : ∃ c' x, d_spec_l4Any c = some (c', x) ∧ CurOk c' ∧ SmallC x := by
  unfold d_spec_l4Any
  obtain ⟨c1, x, e, hc, hx⟩ := sDraw4 c h
  obtain ⟨c2, k, e2, hc2, _, _⟩ := sBelow c1 12 hc (by decide) (by decide)
  rw [e, Option.bind_some, e2, Option.bind_some]
  cases (k == (0 : Int)) with
  | true =>
    obtain ⟨c3, n, e3, hc3, _⟩ := sIntD c2 [0, 1, 3, 5, 6, -1] hc2 (by decide) (by decide)
    rw [cond_true, e3, Option.bind_some]
    exact ⟨_, _, rfl, hc3, hx⟩
  | false =>
    rw [cond_false]
    cases (k == (1 : Int)) with
    | true =>
      obtain ⟨c3, s, e3, hc3, hs⟩ := sWordD c2 hc2
      rw [cond_true, e3, Option.bind_some]
      exact ⟨_, _, rfl, hc3, hx.1, hs, hx.2.2⟩
    | false =>
      rw [cond_false]
      cases (k == (2 : Int)) with
      | true =>
        obtain ⟨c3, p, e3, hc3, hp⟩ := sAnyP c2 hc2
        rw [cond_true, e3, Option.bind_some]
        exact ⟨_, _, rfl, hc3, hp, hx.2⟩
      | false => exact ⟨_, _, rfl, hc2, hx⟩
/-- a text that is read as a valid rule of bounded size -/
def knownOk (s : Bytes) : Bool := match d_spec_ParseRule s with
  | some (r, _) => smallRb r && ruleB r
  | none => false
/-- a drawn rule: valid, of bounded size -/
def GoodR (r : Rule) : Prop := SmallR 4 r ∧ ruleB r = true ∧ 1 ≤ r.conds.length ∧ 1 ≤ r.acts.length
theorem sKnownG (K : List Bytes) (c : Cur) (m : Int) (h : CurOk c) (hm : 0 < m) (h0 : 0 < K.length) (h1 : K.length ≤ 256) (hK : K.all knownOk = true) :
    ∃ c' r, ((d_spec_l1Below c (iMin m (((K.map tx).length : Int)))).bind fun y1 => ((atI K y1.2).bind fun x3 => ((d_spec_ParseRule x3).bind fun y5 => (some (y1.1, y5.1))))) = some (c', r) ∧ CurOk c' ∧ GoodR r := by
  have hlen : ((K.map tx).length : Int) = (K.length : Int) := by simp
  have hmin : 0 < iMin m (((K.map tx).length : Int)) ∧ iMin m (((K.map tx).length : Int)) ≤ (K.length : Int) := by
    unfold iMin; rw [hlen]; split <;> omega
  obtain ⟨c1, x, e, hc, hx, hx2⟩ := sBelow c _ h hmin.1 (by omega)
  have hlt : x.toNat < K.length := by omega
  have e2 : atI K x = some K[x.toNat] := by unfold atI; rw [decide_eq_true hx, cond_true]; exact List.getElem?_eq_getElem hlt
  have hk := List.all_eq_true.1 hK _ (List.getElem_mem hlt)
  unfold knownOk at hk
  rw [e, Option.bind_some, e2, Option.bind_some]
  cases hp : d_spec_ParseRule K[x.toNat] with
  | none => rw [hp] at hk; cases hk
  | some p =>
    rw [hp] at hk
    simp only [Bool.and_eq_true] at hk
    obtain ⟨q1, q2, q3⟩ := smallR_of hk.1
    exact ⟨_, _, rfl, hc, q1, hk.2, q2, q3⟩
theorem sKnown (c : Cur) (m : Int) (h : CurOk c) (hm : 0 < m) : ∃ c' r, d_spec_l5Known c m = some (c', r) ∧ CurOk c' ∧ GoodR r := by
  unfold d_spec_l5Known
  refine sKnownG _ c m h hm ?_ ?_ ?_
  · decide
  · decide
  · kernel_rfl
theorem sRandL1 (y1 : Cur × Int) : ∀ (m : Nat) (fu : Nat) (v : Int) (c : Cur) (w : List Cond), v = (m : Int) → m < fu → m ≤ 50 → w.length + m ≤ 100 → CurOk c → (∀ x ∈ w, SmallC x) →
    ∃ c' w', (∀ k, d_spec_l5Random_L1 y1 k fu v c.b c.i c.h w = k c'.b c'.i c'.h w') ∧ CurOk c' ∧ w'.length = w.length + m ∧ ∀ x ∈ w', SmallC x := by
  intro m
  induction m with
  | zero =>
    intro fu v c w hv hf hm hn hc hw
    cases fu with
    | zero => omega
    | succ fu =>
      have e : decide (v > 0) = false := by simp; omega
      exact ⟨c, w, fun k => by rw [d_spec_l5Random_L1, e, cond_false], hc, rfl, hw⟩
  | succ m ih =>
    intro fu v c w hv hf hm hn hc hw
    cases fu with
    | zero => omega
    | succ fu =>
      have e : decide (v > 0) = true := by simp; omega
      obtain ⟨c1, x, e2, hc1, hx⟩ := sDraw4 c hc
      have e2' : d_spec_l4Draw (⟨c.b, c.i, c.h⟩ : Cur) = some (c1, x) := e2
      have e3 : IntKind.i64.wrap (v - 1) = v - 1 := wrap_in (InR.i64.2 (by omega))
      obtain ⟨c', w', q1, q2, q3, q4⟩ := ih fu (v - 1) c1 (w ++ [x]) (by omega) (by omega) (by omega) (by simp; omega) hc1 (fun y hy => by
        rcases List.mem_append.1 hy with h | h
        · exact hw y h
        · simp at h; subst h; exact hx)
      exact ⟨c', w', fun k => by rw [d_spec_l5Random_L1, e, cond_true, e2', Option.bind_some, room1 (by omega) (by decide), cond_true, e3]; exact q1 k, q2, by simp at q3; omega, q4⟩
theorem sRandL2 (y1 : Cur × Int) (q : List Cond) (y : List Bytes) (y25 : Cur × Fact) : ∀ (m : Nat) (fu : Nat) (v : Nat) (c : Cur) (w : List Bytes), w.length = v + m → m < fu → w.length ≤ 100 → CurOk c → (∀ x ∈ w, x.length ≤ 16) →
    ∃ c' w', (∀ k, d_spec_l5Random_L2 y1 q y y25 k fu (v : Int) c.b c.i c.h w = k c'.b c'.i c'.h w') ∧ CurOk c' ∧ w'.length = w.length ∧ ∀ x ∈ w', x.length ≤ 16 := by
  intro m
  induction m with
  | zero =>
    intro fu v c w hv hf hm hc hw
    cases fu with
    | zero => omega
    | succ fu =>
      have e : decide ((v : Int) < (((w.map tx).length : Int))) = false := by simp; omega
      exact ⟨c, w, fun k => by rw [d_spec_l5Random_L2, e, cond_false], hc, rfl, hw⟩
  | succ m ih =>
    intro fu v c w hv hf hm hc hw
    cases fu with
    | zero => omega
    | succ fu =>
      have e : decide ((v : Int) < (((w.map tx).length : Int))) = true := by simp; omega
      have hlt : v < w.length := by omega
      have e1 : atI w (v : Int) = some w[v] := by unfold atI; rw [decide_eq_true (by omega), cond_true]; exact List.getElem?_eq_getElem hlt
      have hx := hw w[v] (List.getElem_mem hlt)
      have e4 : IntKind.i64.wrap ((v : Int) + 1) = ((v + 1 : Nat) : Int) := by rw [wrap_in (InR.i64.2 (by omega))]; rfl
      have st : ∀ k, d_spec_l5Random_L2 y1 q y y25 k (fu + 1) (v : Int) c.b c.i c.h w = (bif varB w[v] then (bif !(y.contains w[v]) then ((d_spec_l1Atom (⟨c.b, c.i, c.h⟩ : Cur)).bind fun y83 => d_spec_l5Random_L2 y1 q y y25 k fu ((v + 1 : Nat) : Int) y83.1.b y83.1.i y83.1.h (w.set (v : Int).toNat y83.2)) else d_spec_l5Random_L2 y1 q y y25 k fu ((v + 1 : Nat) : Int) c.b c.i c.h w) else d_spec_l5Random_L2 y1 q y y25 k fu ((v + 1 : Nat) : Int) c.b c.i c.h w) := by
        intro k
        rw [d_spec_l5Random_L2, e, cond_true, e1, Option.bind_some, sVar w[v] (by omega), Option.bind_some, e4, sHas, Option.bind_some]
      obtain ⟨c0, w0, p1, p2, p3, p4⟩ := ih fu (v + 1) c w (by omega) (by omega) hm hc hw
      cases hv1 : varB w[v] with
      | false => exact ⟨c0, w0, fun k => by rw [st k, hv1, cond_false]; exact p1 k, p2, p3, p4⟩
      | true =>
        cases hv2 : y.contains w[v] with
        | true => exact ⟨c0, w0, fun k => by rw [st k, hv1, hv2, cond_true, Bool.not_true, cond_false]; exact p1 k, p2, p3, p4⟩
        | false =>
          obtain ⟨c1, s, e2, hc1, hs⟩ := sAtomD c hc
          have e2' : d_spec_l1Atom (⟨c.b, c.i, c.h⟩ : Cur) = some (c1, s) := e2
          obtain ⟨c', w', q1, q2, q3, q4⟩ := ih fu (v + 1) c1 (w.set (v : Int).toNat s) (by simp; omega) (by omega) (by simpa using hm) hc1 (fun x hxm => by
            rcases List.mem_or_eq_of_mem_set hxm with h | h
            · exact hw x h
            · subst h; exact hs)
          exact ⟨c', w', fun k => by rw [st k, hv1, hv2, cond_true, Bool.not_false, cond_true, e2', Option.bind_some]; exact q1 k, q2, by simpa using q3, q4⟩
theorem sRand (c : Cur) (h : CurOk c) : ∃ c' r, d_spec_l5Random c = some (c', r) ∧ CurOk c' ∧ GoodR r := by
  unfold d_spec_l5Random
  obtain ⟨c1, n, e1, hc1, _, _⟩ := sBelow c 4 h (by decide) (by decide)
  obtain ⟨c2, p, e2, hc2, hp⟩ := sDrawP c1 hc1
  obtain ⟨c3, m, e3, hc3, hm, hm2⟩ := sBelow c2 3 hc2 (by decide) (by decide)
  rw [e1, Option.bind_some, e2, Option.bind_some, e3, Option.bind_some]
  have hp4 : SmallF 4 p := ⟨hp.1, by have := hp.2.1; omega, hp.2.2⟩
  obtain ⟨c4, cs, q1, hc4, hcs0, hsm⟩ := sRandL1 (c1, n) m.toNat fuel m c3 [(⟨1, p, [], []⟩ : Cond)] (by omega) (by unfold fuel; omega) (by omega) (by simp; omega) hc3 (fun x hx => by
      simp at hx; subst hx; exact ⟨hp4, by simp, by simp⟩)
  have hcs : 1 ≤ cs.length ∧ cs.length ≤ 3 := by simp at hcs0; omega
  rw [q1]
  dsimp only
  have hw0 : (⟨[114], n, cs, []⟩ : Rule).wt ≤ 1048576 := SmallR.wt (n := 4) ⟨by simp, ⟨by show cs.length ≤ 4; omega, hsm⟩, by simp, by simp⟩ (by decide)
  obtain ⟨c5, q, e5, hc5, hq⟩ := sDrawP c4 hc4
  have e5' : d_spec_l3Draw (⟨c4.b, c4.i, c4.h⟩ : Cur) = some (c5, q) := e5
  rw [sBound (⟨[114], n, cs, []⟩ : Rule) _ hw0, Option.bind_some, e5', Option.bind_some]
  dsimp only
  obtain ⟨c6, qa, r1, hc6, r3, r4⟩ := sRandL2 (c1, n) cs (uniqS (bndV (⟨[114], n, cs, []⟩ : Rule) (((cs.map Cond.c).length : Int)))) (c5, q) q.args.length fuel 0 c5 q.args (by simp) (by have := hq.2.1; unfold fuel; omega) (by have := hq.2.1; omega) hc5 hq.2.2
  have r1' := r1
  rw [show (((0 : Nat) : Int)) = 0 from rfl] at r1'
  rw [r1']
  obtain ⟨c7, k, e7, hc7, _⟩ := sIntD c6 [1, 1, 2] hc6 (by decide) (by decide)
  have e7' : d_spec_l1Int (⟨c6.b, c6.i, c6.h⟩ : Cur) [1, 1, 2] = some (c7, k) := e7
  obtain ⟨c8, b, e8, hc8⟩ := sOnce c7 6 hc7 (by decide) (by decide)
  have room1' : ∀ n, n ≤ 4 → room n 48 = true := fun n hn => roomK (by omega) (by decide)
  rw [e7', Option.bind_some]
  dsimp only
  rw [room1' _ (by simp), cond_true, e8, Option.bind_some]
  have hq4 : SmallF 4 (⟨q.rel, qa⟩ : Fact) := ⟨hq.1, by show qa.length ≤ 4; have := hq.2.1; omega, r4⟩
  have fin : ∀ (al : List Action), 1 ≤ al.length → al.length ≤ 2 → (∀ a ∈ al, SmallA a) → ∃ c' r, ((d_spec_IsRule (⟨[114], n, cs, al⟩ : Rule)).bind fun y92 => (bif !(y92) then ((d_spec_l5Known c8 99).bind fun y95 => (some ((y95.1, y95.2)))) else (some ((c8, (⟨[114], n, cs, al⟩ : Rule)))))) = some (c', r) ∧ CurOk c' ∧ GoodR r := by
    intro al ha1 ha2 ha
    have hsr : SmallR 4 (⟨[114], n, cs, al⟩ : Rule) := ⟨by simp, ⟨by show cs.length ≤ 4; omega, hsm⟩, by show al.length ≤ 4; omega, ha⟩
    rw [sRule _ (hsr.wt (by decide)), Option.bind_some]
    cases hr : ruleB (⟨[114], n, cs, al⟩ : Rule) with
    | true => exact ⟨_, _, rfl, hc8, hsr, hr, hcs.1, ha1⟩
    | false =>
      obtain ⟨c9, r, e9, hc9, hr9⟩ := sKnown c8 99 hc8 (by decide)
      rw [Bool.not_false, cond_true, e9, Option.bind_some]
      exact ⟨_, _, rfl, hc9, hr9⟩
  cases b with
  | true =>
    dsimp only
    rw [cond_true, room1' _ (by simp), cond_true]
    exact fin _ (by simp) (by simp) (fun a ha => by
      simp at ha
      rcases ha with rfl | rfl
      · exact hq4
      · exact ⟨by simp, by simp, by simp⟩)
  | false =>
    dsimp only
    rw [cond_false]
    exact fin _ (by simp) (by simp) (fun a ha => by
      simp at ha
      subst ha; exact hq4)
theorem sDraw5 (c : Cur) (h : CurOk c) : ∃ c' r, d_spec_l5Draw c = some (c', r) ∧ CurOk c' ∧ GoodR r := by
  unfold d_spec_l5Draw
  obtain ⟨c1, b, e, hc⟩ := sOnce c 3 h (by decide) (by decide)
  rw [e, Option.bind_some]
  cases b with
  | true =>
    obtain ⟨c2, r, e2, hc2, hr⟩ := sRand c1 hc
    rw [cond_true, e2, Option.bind_some]
    exact ⟨_, _, rfl, hc2, hr⟩
  | false =>
    obtain ⟨c2, r, e2, hc2, hr⟩ := sKnown c1 99 hc (by decide)
    rw [cond_false, e2, Option.bind_some]
    exact ⟨_, _, rfl, hc2, hr⟩
theorem SmallR.le {n m : Nat} {r : Rule} (h : SmallR n r) (hm : n ≤ m) : SmallR m r := ⟨h.1, ⟨by have := h.2.1.1; omega, h.2.1.2⟩, by have := h.2.2.1; omega, h.2.2.2⟩
theorem sAny5 (c : Cur) (h : CurOk c) : ∃ c' r, d_spec_l5Any c = some (c', r) ∧ CurOk c' ∧ SmallR 5 r := by
  unfold d_spec_l5Any
  obtain ⟨c1, r, e, hc, hg, _, g1, g2⟩ := sDraw5 c h
  obtain ⟨c2, x, e2, hc2, _, _⟩ := sBelow c1 14 hc (by decide) (by decide)
  have hr := hg.le (m := 5) (by decide)
  have hl1 := hg.2.1.1
  have hl2 := hg.2.2.1
  rw [e, Option.bind_some, e2, Option.bind_some]
  cases (x == (0 : Int)) with
  | true =>
    obtain ⟨c3, s, e3, hc3, hs⟩ := sWordD c2 hc2
    rw [cond_true, e3, Option.bind_some]
    exact ⟨_, _, rfl, hc3, hs, hr.2⟩
  | false =>
    rw [cond_false]
    cases (x == (1 : Int)) with
    | true =>
      obtain ⟨c3, s, e3, hc3, _⟩ := sIntD c2 [-1, 0, 9, 10] hc2 (by decide) (by decide)
      rw [cond_true, e3, Option.bind_some]
      exact ⟨_, _, rfl, hc3, hr⟩
    | false =>
      rw [cond_false]
      cases (x == (2 : Int)) with
      | true =>
        obtain ⟨c3, k, e3, hc3, hk⟩ := sAny4 c2 hc2
        rw [cond_true, e3, Option.bind_some, room1 (by show r.conds.length < _; omega) (by decide), cond_true]
        refine ⟨_, _, rfl, hc3, hr.1, ⟨by simp; omega, fun y hy => ?_⟩, hr.2.2⟩
        rcases List.mem_append.1 hy with h | h
        · exact hr.2.1.2 y h
        · simp at h; subst h; exact hk
      | false =>
        rw [cond_false]
        cases (x == (3 : Int)) with
        | true =>
          obtain ⟨c3, k, e3, hc3, _⟩ := sIntD c2 [0, 1, 2, 3, 4] hc2 (by decide) (by decide)
          obtain ⟨c4, p, e4, hc4, hp⟩ := sAnyP c3 hc3
          rw [cond_true, e3, Option.bind_some, e4, Option.bind_some, room1 (by show r.acts.length < _; omega) (by decide), cond_true]
          refine ⟨_, _, rfl, hc4, hr.1, hr.2.1, by simp; omega, fun y hy => ?_⟩
          rcases List.mem_append.1 hy with h | h
          · exact hr.2.2.2 y h
          · simp at h; subst h; exact hp
        | false =>
          rw [cond_false]
          cases (x == (4 : Int)) with
          | true =>
            rw [cond_true, pcut1 (by simpa using g1), Option.bind_some]
            exact ⟨_, _, rfl, hc2, hr.1, ⟨by rw [List.length_drop, List.length_take]; show min _ r.conds.length - 1 ≤ 5; omega, fun y hy => hr.2.1.2 y (List.mem_of_mem_take (List.mem_of_mem_drop hy))⟩, hr.2.2⟩
          | false =>
            rw [cond_false]
            cases (x == (5 : Int)) with
            | true =>
              rw [cond_true, pcut1 (by simpa using g2), Option.bind_some]
              exact ⟨_, _, rfl, hc2, hr.1, hr.2.1, by rw [List.length_drop, List.length_take]; show min _ r.acts.length - 1 ≤ 5; omega, fun y hy => hr.2.2.2 y (List.mem_of_mem_take (List.mem_of_mem_drop hy))⟩
            | false =>
              rw [cond_false]
              cases (x == (6 : Int)) with
              | true =>
                obtain ⟨c3, s, e3, hc3, hs⟩ := sStr c2 [[63, 102], [63, 97], [63, 103]] hc2 (by decide) (by decide)
                obtain ⟨c4, k, e4, hc4, _⟩ := sIntD c3 [1, 2] hc3 (by decide) (by decide)
                obtain ⟨c5, t, e5, hc5, ht⟩ := sStr c4 [[63, 102], [63, 120]] hc4 (by decide) (by decide)
                have hs2 : s.length ≤ 16 := by
                  have : ∀ s ∈ ([[63, 102], [63, 97], [63, 103]] : List Bytes), s.length ≤ 16 := by decide
                  exact this s hs
                have ht2 : t.length ≤ 16 := by
                  have : ∀ s ∈ ([[63, 102], [63, 120]] : List Bytes), s.length ≤ 16 := by decide
                  exact this t ht
                rw [cond_true, e3, Option.bind_some, e4, Option.bind_some, e5, Option.bind_some]
                refine ⟨_, _, rfl, hc5, hr.1, ⟨by simp, fun y hy => ?_⟩, by simp, fun y hy => ?_⟩
                · simp at hy
                  rcases hy with rfl | rfl | rfl
                  · exact ⟨⟨by simp, by simp, by simp⟩, by simp, by simp⟩
                  · exact ⟨⟨by simp, by simp, by simpa using hs2⟩, by simp, by simp⟩
                  · exact ⟨⟨by simp, by simp, by simpa using ht2⟩, by simp, by simp⟩
                · simp at hy; subst hy; exact ⟨by simp, by simp, by simp⟩
              | false => exact ⟨_, _, rfl, hc2, hr⟩
end Go.Cx

/- Draws of rules with facts, of facts to add; finding facts; putting facts; in plain words. No condition but bounds. -/
namespace Go.Cx
open Go.RowKit Go.Proofs
set_option linter.unusedVariables false
set_option linter.unusedSimpArgs false
theorem SmallL.wt {n : Nat} {l : List Fact} (h : SmallL n l) (hn : n ≤ 1000) : wtL Fact.wt l ≤ 1048576 := by
  have c1 := wtL_max (w := Fact.wt) (B := 200) l (fun x hx => by
    have := SmallF.wt4 (h.2 x hx)
    unfold Fact.wt
    unfold tw at *
    omega)
  have d1 : (200 + 1) * l.length ≤ 201 * 1000 := Nat.mul_le_mul_left _ (by have := h.1; omega)
  omega
theorem SmallL.le {n m : Nat} {l : List Fact} (h : SmallL n l) (hm : n ≤ m) : SmallL m l := ⟨by have := h.1; omega, h.2⟩
theorem sDraw6 (c : Cur) (h : CurOk c) : ∃ c' r l, d_spec_l6Draw c = some (c', (r, l)) ∧ CurOk c' ∧ SmallR 5 r ∧ SmallL 65 l := by
  unfold d_spec_l6Draw
  obtain ⟨c1, r, e1, hc1, hr, _⟩ := sDraw5 c h
  obtain ⟨c2, b, e2, hc2⟩ := sOnce c1 8 hc1 (by decide) (by decide)
  rw [e1, Option.bind_some, e2, Option.bind_some]
  have fin : ∀ (r : Rule) (c2 : Cur), CurOk c2 → SmallR 5 r → ∃ c' r' l, ((d_spec_l1Once c2 8).bind fun y15 => (bif y15.2 then ((d_spec_l2List (y15.1)).bind fun y18 => (some ((y18.1, (r, y18.2))))) else ((d_spec_l2Set (y15.1) (9)).bind fun y20 => (some ((y20.1, (r, y20.2))))))) = some (c', (r', l)) ∧ CurOk c' ∧ SmallR 5 r' ∧ SmallL 65 l := by
    intro r c2 hc2 hr
    obtain ⟨c3, b2, e3, hc3⟩ := sOnce c2 8 hc2 (by decide) (by decide)
    rw [e3, Option.bind_some]
    cases b2 with
    | true =>
      obtain ⟨c4, l, e4, hc4, hl⟩ := sListD c3 hc3
      rw [cond_true, e4, Option.bind_some]
      exact ⟨_, _, _, rfl, hc4, hr, hl⟩
    | false =>
      obtain ⟨c4, l, e4, hc4, hl, _⟩ := sSetD c3 9 hc3 (by decide) (by decide)
      rw [cond_false, e4, Option.bind_some]
      exact ⟨_, _, _, rfl, hc4, hr, hl.le (by decide)⟩
  cases b with
  | true =>
    obtain ⟨c3, r2, e3, hc3, hr2⟩ := sAny5 c2 hc2
    rw [cond_true, e3, Option.bind_some]
    exact fin r2 c3 hc3 hr2
  | false =>
    rw [cond_false]
    exact fin r c2 hc2 (hr.le (by decide))
theorem sDrawMts (code : List Int) (h : code.length ≤ 4096) : ∃ r l, d_spec_DrawMatchesOf code = some (r, l) ∧ SmallR 5 r ∧ SmallL 65 l := by
  unfold d_spec_DrawMatchesOf
  obtain ⟨c, e, hc⟩ := sNewD code h
  obtain ⟨c2, r, l, e2, _, hr, hl⟩ := sDraw6 c hc
  rw [e, Option.bind_some, e2, Option.bind_some]
  exact ⟨_, _, rfl, hr, hl⟩
/-! finding a fact -/
/-! the order of facts -/
end Go.Cx

/- How many slices lie in tokens and matches; the matches of all rules; in plain words. No condition but bounds. -/
namespace Go.Cx
open Go.RowKit Go.Proofs
set_option linter.unusedVariables false
set_option linter.unusedSimpArgs false
end Go.Cx
