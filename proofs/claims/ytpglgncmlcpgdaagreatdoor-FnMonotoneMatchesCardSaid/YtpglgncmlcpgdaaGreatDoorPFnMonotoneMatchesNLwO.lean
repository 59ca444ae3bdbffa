/- Draws of rules with facts, of facts to add; finding facts; putting facts; in plain words. No condition but bounds. -/
import Derived.Test.YtpglgncmlcpgdaaGreatDoorPFnMonotoneMatchesNLwN
import Derived.Test.YtpglgncmlcpgdaaGreatDoorPFnMonotoneMatchesNLwH
namespace Go.Cx
open Go.RowKit Go.Proofs
set_option linter.unusedVariables false
set_option linter.unusedSimpArgs false
theorem SmallL.wt {n : Nat} {l : List Fact} (h : SmallL n l) (hn : n ≤ 1000) : wtL Fact.wt l ≤ 1048576 := by
  have c1 := wtL_max (w := Fact.wt) (B := 200) l (fun x hx => by
    have := SmallF.wt4 (h.2 x hx)
    unfold Fact.wt
    unfold tw at *
    omega)
  have d1 : (200 + 1) * l.length ≤ 201 * 1000 := Nat.mul_le_mul_left _ (by have := h.1; omega)
  omega
theorem SmallL.le {n m : Nat} {l : List Fact} (h : SmallL n l) (hm : n ≤ m) : SmallL m l := ⟨by have := h.1; omega, h.2⟩
theorem sDraw6 (c : Cur) (h : CurOk c) : ∃ c' r l, d_spec_l6Draw c = some (c', (r, l)) ∧ CurOk c' ∧ SmallR 5 r ∧ SmallL 65 l := by
  unfold d_spec_l6Draw
  obtain ⟨c1, r, e1, hc1, hr, _⟩ := sDraw5 c h
  obtain ⟨c2, b, e2, hc2⟩ := sOnce c1 8 hc1 (by decide) (by decide)
  rw [e1, Option.bind_some, e2, Option.bind_some]
  have fin : ∀ (r : Rule) (c2 : Cur), CurOk c2 → SmallR 5 r → ∃ c' r' l, ((d_spec_l1Once c2 8).bind fun y15 => (bif y15.2 then ((d_spec_l2List (y15.1)).bind fun y18 => (some ((y18.1, (r, y18.2))))) else ((d_spec_l2Set (y15.1) (9)).bind fun y20 => (some ((y20.1, (r, y20.2))))))) = some (c', (r', l)) ∧ CurOk c' ∧ SmallR 5 r' ∧ SmallL 65 l := by
    intro r c2 hc2 hr
    obtain ⟨c3, b2, e3, hc3⟩ := sOnce c2 8 hc2 (by decide) (by decide)
    rw [e3, Option.bind_some]
    cases b2 with
    | true =>
      obtain ⟨c4, l, e4, hc4, hl⟩ := sListD c3 hc3
      rw [cond_true, e4, Option.bind_some]
      exact ⟨_, _, _, rfl, hc4, hr, hl⟩
    | false =>
      obtain ⟨c4, l, e4, hc4, hl, _⟩ := sSetD c3 9 hc3 (by decide) (by decide)
      rw [cond_false, e4, Option.bind_some]
      exact ⟨_, _, _, rfl, hc4, hr, hl.le (by decide)⟩
  cases b with
  | true =>
    obtain ⟨c3, r2, e3, hc3, hr2⟩ := sAny5 c2 hc2
    rw [cond_true, e3, Option.bind_some]
    exact fin r2 c3 hc3 hr2
  | false =>
    rw [cond_false]
    exact fin r c2 hc2 (hr.le (by decide))
theorem sDrawMts (code : List Int) (h : code.length ≤ 4096) : ∃ r l, d_spec_DrawMatchesOf code = some (r, l) ∧ SmallR 5 r ∧ SmallL 65 l := by
  unfold d_spec_DrawMatchesOf
  obtain ⟨c, e, hc⟩ := sNewD code h
  obtain ⟨c2, r, l, e2, _, hr, hl⟩ := sDraw6 c hc
  rw [e, Option.bind_some, e2, Option.bind_some]
  exact ⟨_, _, rfl, hr, hl⟩
theorem sPairF (c : Cur) (h : CurOk c) : ∃ c' l f, d_spec_l2Pair c = some (c', (l, f)) ∧ CurOk c' ∧ SmallL 65 l ∧ SmallF 4 f := by
  unfold d_spec_l2Pair
  obtain ⟨c1, l, e1, hc1, hl⟩ := sListD c h
  rw [e1, Option.bind_some]
  have hl1 := hl.1
  have any : ∀ c1 : Cur, CurOk c1 → ∃ c' l' f, ((d_spec_l2Any c1).bind fun y15 => (some ((y15.1, (l, y15.2))))) = some (c', (l', f)) ∧ CurOk c' ∧ SmallL 65 l' ∧ SmallF 4 f := fun c1 hc1 => by
    obtain ⟨c2, f, e2, hc2, hf⟩ := sAnyF c1 hc1
    rw [e2, Option.bind_some]
    exact ⟨_, _, _, rfl, hc2, hl, hf⟩
  dsimp only
  rw [List.length_map]
  by_cases h0 : ((l.length : Nat) : Int) > 0
  · rw [decide_eq_true h0, cond_true]
    obtain ⟨c2, b, e2, hc2⟩ := sOnce c1 2 hc1 (by decide) (by decide)
    rw [e2, Option.bind_some]
    cases b with
    | true =>
      obtain ⟨c3, x, e3, hc3, hx, hx2⟩ := sBelow c2 (l.length : Int) hc2 h0 (by omega)
      have hlt : x.toNat < l.length := by omega
      have e4 : atI l x = some l[x.toNat] := by unfold atI; rw [decide_eq_true hx, cond_true]; exact List.getElem?_eq_getElem hlt
      have hf := hl.2 _ (List.getElem_mem hlt)
      rw [cond_true, e3, Option.bind_some, e4, Option.bind_some, sCopyF _ (hf.copy (by decide)), Option.bind_some]
      exact ⟨_, _, _, rfl, hc3, hl, hf⟩
    | false => rw [cond_false]; exact any c2 hc2
  · rw [decide_eq_false h0, cond_false]; exact any c1 hc1
theorem sDrawAdd (code : List Int) (h : code.length ≤ 4096) : ∃ l f, d_spec_DrawAddFact code = some (l, f) ∧ SmallL 65 l ∧ SmallF 4 f := by
  unfold d_spec_DrawAddFact
  obtain ⟨c, e, hc⟩ := sNewD code h
  obtain ⟨c2, l, f, e2, _, hl, hf⟩ := sPairF c hc
  rw [e, Option.bind_some, e2, Option.bind_some]
  exact ⟨_, _, rfl, hl, hf⟩
/-! finding a fact -/
def findF (f : Fact) : List Fact → Nat → Int
  | [], _ => -1
  | x :: xs, i => if x = f then (i : Int) else findF f xs (i + 1)
theorem findF_mem (f : Fact) : ∀ (l : List Fact) (i : Nat), decide (findF f l i ≥ 0) = decide (f ∈ l)
  | [], i => by simp [findF]
  | x :: xs, i => by
    rw [findF]
    by_cases h : x = f
    · rw [if_pos h]; subst h; simp
    · rw [if_neg h, findF_mem f xs (i + 1)]
      have : f ≠ x := fun e => h e.symm
      simp [this]
theorem sFindF (l : List Fact) (f : Fact) : d_spec_FindFact l f = some (findF f l 0) := by
  unfold d_spec_FindFact
  have : ∀ (r : List Fact) (i : Nat), d_spec_FindFact_L1 l f (some (-1)) r i = some (findF f r i) := by
    intro r
    induction r with
    | nil => intro i; rfl
    | cons x xs ih =>
      intro i
      rw [d_spec_FindFact_L1, sSameF, Option.bind_some, ih, findF]
      by_cases h : x = f
      · rw [decide_eq_true h, if_pos h, cond_true]
      · rw [decide_eq_false h, if_neg h, cond_false]
  exact this l 0
theorem iFindF (l : List Fact) (f : Fact) : d_impl_FindFact l f = some (findF f l 0) := by
  unfold d_impl_FindFact
  have : ∀ (r : List Fact) (i : Nat), d_impl_FindFact_L1 l f (some (-1)) r i = some (findF f r i) := by
    intro r
    induction r with
    | nil => intro i; rfl
    | cons x xs ih =>
      intro i
      rw [d_impl_FindFact_L1, iSameF, Option.bind_some, ih, findF]
      by_cases h : x = f
      · rw [decide_eq_true h, if_pos h, cond_true]
      · rw [decide_eq_false h, if_neg h, cond_false]
  exact this l 0
theorem iUses (m : Match) (f : Fact) : d_impl_UsesFact m f = some (decide (f ∈ m.facts)) := by
  unfold d_impl_UsesFact
  rw [iFindF, Option.bind_some, findF_mem]
/-! the order of facts -/
theorem cmpT_anti {a b : Bytes} (h : cmpT a b > 0) : cmpT b a < 0 := by
  unfold cmpT at h ⊢
  by_cases h1 : Op.bytesLess a b = true
  · rw [if_pos h1] at h; omega
  · rw [if_neg h1] at h
    by_cases h2 : a = b
    · rw [if_pos h2] at h; omega
    · have h3 : Op.bytesLess b a = true := by
        cases hb : Op.bytesLess b a with
        | true => rfl
        | false => exact absurd (bl_tri (by simpa using h1) hb) h2
      rw [if_pos h3]; omega
theorem cmpT_zero {a b : Bytes} (h : cmpT a b = 0) : a = b := Classical.byContradiction fun hne => cmpT_ne hne h
theorem cmpT_anti2 {a b : Bytes} (h : cmpT a b < 0) : cmpT b a > 0 := by
  unfold cmpT at h ⊢
  by_cases h1 : Op.bytesLess a b = true
  · have h3 := bl_asymm h1
    have h4 : ¬ (Op.bytesLess b a = true) := by rw [h3]; simp
    have h5 : ¬ b = a := fun e => by subst e; rw [bl_irrefl] at h1; cases h1
    rw [if_neg h4, if_neg h5]; omega
  · rw [if_neg h1] at h
    by_cases h2 : a = b
    · rw [if_pos h2] at h; omega
    · rw [if_neg h2] at h; omega
theorem cmpA_swap (a b : Bytes) : (cmpA a b > 0 → cmpA b a < 0) ∧ (cmpA a b = 0 → a = b) ∧ (cmpA a b < 0 → cmpA b a > 0) := by
  have num : ∀ {s : Bytes} {n : Nat}, numB s = some n → Lib.decDigits n = s := by
    intro s n h
    unfold numB at h
    split at h
    · split at h
      · split at h
        · rename_i h2; cases h; exact h2
        · cases h
      · cases h
    · cases h
  unfold cmpA
  cases ha : numB a with
  | none =>
    cases hb : numB b with
    | none => exact ⟨cmpT_anti, cmpT_zero, cmpT_anti2⟩
    | some y => simp
  | some x =>
    cases hb : numB b with
    | none => simp
    | some y =>
      simp only [cmpN]
      refine ⟨fun h => ?_, fun h => ?_, fun h => ?_⟩
      · split at h
        · omega
        · split at h
          · rw [if_pos (by omega)]; omega
          · omega
      · split at h
        · omega
        · split at h
          · omega
          · have : x = y := by omega
            rw [← num ha, ← num hb, this]
      · split at h
        · rw [if_neg (by omega), if_pos (by omega)]; omega
        · split at h <;> omega
theorem diffL_swap {α : Type} {g : α → α → Int} (hg : ∀ a b, (g a b > 0 → g b a < 0) ∧ (g a b = 0 → a = b) ∧ (g a b < 0 → g b a > 0)) : ∀ (a b : List α),
    (∀ z, diffL g a b = some z → z ≠ 0 ∧ ∃ y, diffL g b a = some y ∧ (z > 0 → y < 0) ∧ (z < 0 → y > 0)) ∧ (diffL g a b = none → diffL g b a = none ∧ (a.length = b.length → a = b))
  | [], [] => ⟨fun z h => (by simp [diffL] at h), fun _ => ⟨rfl, fun _ => rfl⟩⟩
  | [], y :: ys => ⟨fun z h => (by simp [diffL] at h), fun _ => ⟨by simp [diffL], fun h => by simp at h⟩⟩
  | x :: xs, [] => ⟨fun z h => (by simp [diffL] at h), fun _ => ⟨by simp [diffL], fun h => by simp at h⟩⟩
  | x :: xs, y :: ys => by
    obtain ⟨i1, i2⟩ := diffL_swap hg xs ys
    obtain ⟨g1, g2, g3⟩ := hg x y
    by_cases h0 : g x y = 0
    · have e := g2 h0
      subst e
      simp only [diffL, h0, ne_eq, not_true_eq_false, if_false]
      exact ⟨i1, fun h => ⟨(i2 h).1, fun hl => by rw [(i2 h).2 (by simpa using hl)]⟩⟩
    · have h1 : g y x ≠ 0 := by
        intro e
        by_cases hp : g x y > 0
        · have := g1 hp; omega
        · have := g3 (by omega); omega
      simp only [diffL, ne_eq, h0, h1, not_false_eq_true, if_true]
      refine ⟨fun z h => ?_, fun h => by cases h⟩
      cases h
      exact ⟨h0, _, rfl, g1, g3⟩
theorem cmpL_swap {α : Type} {g : α → α → Int} (hg : ∀ a b, (g a b > 0 → g b a < 0) ∧ (g a b = 0 → a = b) ∧ (g a b < 0 → g b a > 0)) (a b : List α) : (cmpL g a b > 0 → cmpL g b a < 0) ∧ (cmpL g a b = 0 → a = b) ∧ (cmpL g a b < 0 → cmpL g b a > 0) := by
  obtain ⟨h1, h2⟩ := diffL_swap hg a b
  unfold cmpL
  cases hd : diffL g a b with
  | some z =>
    obtain ⟨hz, y, hy, p, q⟩ := h1 z hd
    rw [hy]
    exact ⟨p, fun e => absurd e hz, q⟩
  | none =>
    obtain ⟨h3, h4⟩ := h2 hd
    rw [h3]
    simp only [cmpN]
    refine ⟨fun h => ?_, fun h => ?_, fun h => ?_⟩
    · split at h
      · omega
      · split at h
        · rw [if_pos (by omega)]; omega
        · omega
    · split at h
      · omega
      · split at h
        · omega
        · exact h4 (by omega)
    · split at h
      · rw [if_neg (by omega), if_pos (by omega)]; omega
      · split at h <;> omega
theorem cmpF_swap (a b : Fact) : (cmpF a b > 0 → cmpF b a < 0) ∧ (cmpF a b = 0 → a = b) ∧ (cmpF a b < 0 → cmpF b a > 0) := by
  obtain ⟨h1, h2, h3⟩ := cmpL_swap cmpA_swap a.args b.args
  unfold cmpF
  by_cases hr : a.rel = b.rel
  · rw [if_neg (by simpa using hr), if_neg (by simpa using hr.symm)]
    refine ⟨h1, fun h => ?_, h3⟩
    cases a; cases b
    simp only at hr h2 h
    rw [hr, h2 h]
  · have hr2 : b.rel ≠ a.rel := fun e => hr e.symm
    rw [if_pos hr, if_pos hr2]
    exact ⟨cmpT_anti, fun h => absurd (cmpT_zero h) hr, cmpT_anti2⟩
/-- a fact put among ascending ones, where it is not yet -/
def insF (f : Fact) : List Fact → List Fact
  | [] => [f]
  | x :: xs => if cmpF x f > 0 then f :: x :: xs else x :: insF f xs
theorem insF_mem (f : Fact) : ∀ (l : List Fact) (x : Fact), x ∈ insF f l ↔ x = f ∨ x ∈ l
  | [], x => by simp [insF]
  | y :: ys, x => by
    rw [insF]
    split
    · simp
    · simp only [List.mem_cons, insF_mem f ys x]
      constructor
      · rintro (h | h | h) <;> simp [h]
      · rintro (h | h | h) <;> simp [h]
theorem insF_len (f : Fact) : ∀ (l : List Fact), (insF f l).length = l.length + 1
  | [] => rfl
  | y :: ys => by rw [insF]; split <;> simp [insF_len f ys]
theorem chain_ins {f : Fact} (hf : factB f = true) : ∀ (l : List Fact) (p : Option Fact), chainB p l = true → f ∉ l → (∀ q, p = some q → cmpF q f < 0) → chainB p (insF f l) = true
  | [], p, _, _, hp => by
    cases p with
    | none => simp [insF, chainB, hf]
    | some q => simp [insF, chainB, hf, hp q rfl]
  | x :: xs, p, h, hn, hp => by
    simp only [List.mem_cons, not_or] at hn
    have hx : chainB (some x) xs = true ∧ factB x = true ∧ (∀ q, p = some q → cmpF q x < 0) := by
      cases p with
      | none => simp [chainB] at h; exact ⟨h.2, h.1, by simp⟩
      | some q =>
        simp only [chainB, Bool.and_eq_true, decide_eq_true_eq] at h
        exact ⟨by first | exact h.2.2 | exact h.2, by first | exact h.1.1 | exact h.1, fun q' e => by cases e; first | exact h.1.2 | exact h.2.1⟩
    rw [insF]
    split
    · rename_i hgt
      have h1 := (cmpF_swap x f).1 hgt
      cases p with
      | none => simp [chainB, hf, hx.2.1, h1, hx.1]
      | some q => simp [chainB, hf, hx.2.1, h1, hx.1, hp q rfl]
    · rename_i hle
      have hlt : cmpF x f < 0 := by
        have : cmpF x f ≠ 0 := fun e => hn.1 ((cmpF_swap x f).2.1 e).symm
        omega
      have ih := chain_ins hf xs (some x) hx.1 hn.2 (fun q e => by cases e; exact hlt)
      cases p with
      | none => simp [chainB, hx.2.1, ih]
      | some q => simp [chainB, hx.2.1, ih, hx.2.2 q rfl]
theorem are_ins {f : Fact} {l : List Fact} (hf : factB f = true) (hl : areFB l = true) (hn : f ∉ l) (h24 : l.length ≠ 24) : areFB (insF f l) = true := by
  unfold areFB at hl ⊢
  simp only [Bool.and_eq_true, decide_eq_true_eq] at hl ⊢
  exact ⟨chain_ins hf l none hl.1 hn (by simp), by rw [insF_len]; omega⟩
theorem sInsL (a : List Fact) (f : Fact) (K : Bool → List Fact → Option (List Fact)) (hf : f.args.length ≤ 1099511627776) : ∀ (rest : List Fact) (i : Nat) (v : Bool) (w : List Fact), (∀ x ∈ rest, x.args.length ≤ 1099511627776) → w.length + 2 * rest.length ≤ 1048576 → f ∉ rest →
    (v = true → d_spec_l2Put_L1 a f K rest i v w = K true (w ++ rest)) ∧
    (v = false → (d_spec_l2Put_L1 a f K rest i v w = K true (w ++ insF f rest)) ∨ (d_spec_l2Put_L1 a f K rest i v w = K false (w ++ rest) ∧ insF f rest = rest ++ [f])) := by
  intro rest
  induction rest with
  | nil => intro i v w _ _ _; exact ⟨fun h => by subst h; simp [d_spec_l2Put_L1], fun h => by subst h; exact .inr ⟨by simp [d_spec_l2Put_L1], rfl⟩⟩
  | cons x xs ih =>
    intro i v w hs hl hn
    simp only [List.length_cons] at hl
    simp only [List.mem_cons, not_or] at hn
    have hx := hs x (by simp)
    have hs' : ∀ y ∈ xs, y.args.length ≤ 1099511627776 := fun y hy => hs y (by simp [hy])
    have cx := sCopyF x hx
    have cf := sCopyF f hf
    have nx := fun w' : List Fact => fun h : w'.length < 1099511627776 => room1 (w := w') (c := Fact.c) (y := [D.str x.rel, D.sl (x.args.map tx)]) (b := 40) h (by decide)
    have nf := fun w' : List Fact => fun h : w'.length < 1099511627776 => room1 (w := w') (c := Fact.c) (y := [D.str f.rel, D.sl (f.args.map tx)]) (b := 40) h (by decide)
    constructor
    · intro h
      subst h
      rw [d_spec_l2Put_L1, Bool.not_true, cond_false, cx, Option.bind_some, nx w (by omega), cond_true, (ih (i + 1) true (w ++ [x]) hs' (by simp; omega) hn.2).1 rfl]
      simp
    · intro h
      subst h
      rw [d_spec_l2Put_L1, Bool.not_false, cond_true, sCmpF, Option.bind_some]
      by_cases hgt : cmpF x f > 0
      · left
        have e2 : room (((w.map Fact.c) ++ [[D.str f.rel, D.sl (f.args.map tx)]]).length + [[D.str x.rel, D.sl (x.args.map tx)]].length) 40 = true := by
          have := nx (w ++ [f]) (by simp; omega)
          rw [List.map_append] at this; exact this
        rw [decide_eq_true (by omega : cmpF x f ≥ 0), cond_true, Option.bind_some, decide_eq_true hgt, cond_true, cf, Option.bind_some, nf w (by omega), cond_true, cx, Option.bind_some, e2, cond_true]
        rw [(ih (i + 1) true (w ++ [f] ++ [x]) hs' (by simp; omega) hn.2).1 rfl, insF, if_pos hgt]
        simp
      · have hlt : ¬ cmpF x f ≥ 0 := by
          have : cmpF x f ≠ 0 := fun e => hn.1 ((cmpF_swap x f).2.1 e).symm
          omega
        rw [decide_eq_false hlt, cond_false, cx, Option.bind_some, nx w (by omega), cond_true]
        rw [insF, if_neg hgt]
        rcases (ih (i + 1) false (w ++ [x]) hs' (by simp; omega) hn.2).2 rfl with q | ⟨q1, q2⟩
        · left; rw [q]; simp
        · right; rw [q1, q2]; simp
theorem sInsF (l : List Fact) (f : Fact) (hf : f.args.length ≤ 1099511627776) (hl : ∀ x ∈ l, x.args.length ≤ 1099511627776) (hn : l.length ≤ 1000) (hm : f ∉ l) : d_spec_l2Put l f = some (insF f l) := by
  unfold d_spec_l2Put
  rcases (sInsL l f _ hf l 0 false [] hl (by simp; omega) hm).2 rfl with q | ⟨q1, q2⟩
  · rw [q]; rfl
  · rw [q1, q2]
    show (bif !false then _ else _) = _
    rw [Bool.not_false, cond_true, sCopyF f hf, Option.bind_some, List.nil_append, room1 (w := l) (c := Fact.c) (y := [D.str f.rel, D.sl (f.args.map tx)]) (by omega) (by decide), cond_true]
def addB (l : List Fact) (f : Fact) : List Fact × Bool := if areFB l = true ∧ factB f = true ∧ f ∉ l ∧ l.length ≠ 24 then (insF f l, true) else (l, false)
theorem sAddF (l : List Fact) (f : Fact) (hl : wtL Fact.wt l ≤ 1048576) (hf : f.wt ≤ 1048576) (hn : l.length ≤ 1000) : d_spec_AddFact l f = some (addB l f) := by
  have hm : ∀ x ∈ l, x.args.length ≤ 1048576 := fun x hx => by have := Fact.args_le (n := 1048576) (p := x) (by have := wtL_mem (w := Fact.wt) hx; omega); omega
  have cp := sCopiesF l (by omega) hm
  unfold d_spec_AddFact addB
  rw [sAreF l hl, Option.bind_some]
  cases h1 : areFB l with
  | false => rw [Bool.not_false, cond_true, cp, Option.bind_some, if_neg (by simp)]
  | true =>
    rw [Bool.not_true, cond_false, sFact f hf, Option.bind_some]
    cases h2 : factB f with
    | false => rw [Bool.not_false, cond_true, cp, Option.bind_some, if_neg (by simp)]
    | true =>
      rw [Bool.not_true, cond_false, sFindF, Option.bind_some, findF_mem]
      by_cases h3 : f ∈ l
      · rw [decide_eq_true h3, cond_true, cp, Option.bind_some, if_neg (by simp [h3])]
      · rw [decide_eq_false h3, cond_false, List.length_map]
        by_cases h4 : l.length = 24
        · have e : ((((l.length : Nat) : Int)) == (24 : Int)) = true := by simp [h4]
          rw [e, cond_true, cp, Option.bind_some, if_neg (by simp [h4])]
        · have e : ((((l.length : Nat) : Int)) == (24 : Int)) = false := by simp; omega
          rw [e, cond_false, sInsF l f (by have := Fact.args_le hf; omega) (fun x hx => by have := hm x hx; omega) hn h3, Option.bind_some, if_pos ⟨rfl, rfl, h3, h4⟩]
end Go.Cx
