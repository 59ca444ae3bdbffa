/- FormatMatch: the program and the reference agree; the law returns true. No condition. -/
import Derived.Test.YthmnbfhkocgpiaaNPl
import Derived.Test.YthmnbfhkocgpiaaNLawFormatMatch
namespace Go.Cx
open Go.RowKit Go.Proofs
namespace LawFormatMatch

theorem atI_mid {α : Type} {a pre xs : List α} {x : α} (h : a = pre ++ x :: xs) : atI a (pre.length : Int) = some x := by
  unfold atI
  have : a[pre.length]? = some x := by rw [h]; simp
  simp [this]

def in1 (x : UInt8) : Bool := decide ((x.toNat : Int) ≥ 97) && decide ((x.toNat : Int) ≤ 122)
def in2 (x : UInt8) : Bool := decide ((x.toNat : Int) ≥ 48) && decide ((x.toNat : Int) ≤ 57)
def ab (x : UInt8) : Bool := in1 x || in2 x
def lenB (s : Bytes) : Bool := decide ((s.length : Int) ≥ 1) && decide ((s.length : Int) ≤ 8)
def atomB (s : Bytes) : Bool := s.all ab && lenB s
theorem wrapB (x : UInt8) : IntKind.i64.wrap ((x.toNat : Nat) : Int) = (x.toNat : Int) := wrap_in (InR.i64.2 (by have := x.toNat_lt; omega))
theorem wrap1 {n : Nat} (h : n ≤ 1048576) : IntKind.i64.wrap ((n : Int) + 1) = ((n + 1 : Nat) : Int) := by rw [wrap_in (InR.i64.2 (by omega))]; omega
theorem in_eq (a b c : Int) : d_spec_l1In a b c = some (decide (a ≥ b) && decide (a ≤ c)) := by
  unfold d_spec_l1In
  cases decide (a ≥ b) <;> rfl

theorem sAtomL (a : Bytes) (k : Option Bool) (ha : Sb a) : ∀ (rest pre : Bytes), a = pre ++ rest → ∀ n, rest.length < n → d_spec_IsAtom_L1 a k n (pre.length : Int) = bif rest.all ab then k else some false := by
  unfold Sb at ha
  intro rest
  induction rest with
  | nil =>
    intro pre h n hn
    obtain ⟨m, rfl⟩ : ∃ m, n = m + 1 := ⟨n - 1, by simp at hn; omega⟩
    have e1 : decide ((pre.length : Int) < (a.length : Int)) = false := by simp [h]
    rw [d_spec_IsAtom_L1, e1]; rfl
  | cons x xs ih =>
    intro pre h n hn
    obtain ⟨m, rfl⟩ : ∃ m, n = m + 1 := ⟨n - 1, by simp at hn; omega⟩
    have hl : a.length = pre.length + (xs.length + 1) := by rw [h]; simp
    have e1 : decide ((pre.length : Int) < (a.length : Int)) = true := by rw [hl]; simp; omega
    have e4 : IntKind.i64.wrap ((pre.length : Int) + 1) = ((pre ++ [x]).length : Int) := by rw [wrap1 (by omega)]; simp
    have t := ih (pre ++ [x]) (by simp [h]) m (by simp at hn; omega)
    rw [d_spec_IsAtom_L1, e1, cond_true, atI_mid h, Option.bind_some, wrapB, in_eq, in_eq, Option.bind_some, Option.bind_some, e4, t, List.all_cons]
    show (bif !in1 x then (bif !in2 x then _ else _) else _) = bif (in1 x || in2 x) && xs.all ab then k else some false
    cases in1 x <;> cases in2 x <;> simp

theorem iAtomL (a : Bytes) (k : Option Bool) (ha : Sb a) : ∀ (rest pre : Bytes), a = pre ++ rest → ∀ n, rest.length < n → d_impl_IsAtom_L1 a k n (pre.length : Int) = bif rest.all ab then k else some false := by
  unfold Sb at ha
  intro rest
  induction rest with
  | nil =>
    intro pre h n hn
    obtain ⟨m, rfl⟩ : ∃ m, n = m + 1 := ⟨n - 1, by simp at hn; omega⟩
    have e1 : decide ((pre.length : Int) < (a.length : Int)) = false := by simp [h]
    rw [d_impl_IsAtom_L1, e1]; rfl
  | cons x xs ih =>
    intro pre h n hn
    obtain ⟨m, rfl⟩ : ∃ m, n = m + 1 := ⟨n - 1, by simp at hn; omega⟩
    have hl : a.length = pre.length + (xs.length + 1) := by rw [h]; simp
    have e1 : decide ((pre.length : Int) < (a.length : Int)) = true := by rw [hl]; simp; omega
    have e4 : IntKind.i64.wrap ((pre.length : Int) + 1) = ((pre ++ [x]).length : Int) := by rw [wrap1 (by omega)]; simp
    have t := ih (pre ++ [x]) (by simp [h]) m (by simp at hn; omega)
    rw [d_impl_IsAtom_L1, e1, cond_true, atI_mid h, Option.bind_some, e4, t, List.all_cons]
    have c1 : decide ((x.toNat : Int) ≥ 97) = !decide ((x.toNat : Int) < 97) := by rw [Bool.eq_iff_iff]; simp
    have c2 : decide ((x.toNat : Int) ≤ 122) = !decide ((x.toNat : Int) > 122) := by rw [Bool.eq_iff_iff]; simp
    have c3 : decide ((x.toNat : Int) ≥ 48) = !decide ((x.toNat : Int) < 48) := by rw [Bool.eq_iff_iff]; simp
    have c4 : decide ((x.toNat : Int) ≤ 57) = !decide ((x.toNat : Int) > 57) := by rw [Bool.eq_iff_iff]; simp
    rw [ab, in1, in2, c1, c2, c3, c4]
    cases decide ((x.toNat : Int) < 97) <;> cases decide ((x.toNat : Int) > 122) <;> cases decide ((x.toNat : Int) < 48) <;> cases decide ((x.toNat : Int) > 57) <;> simp

theorem sAtom (a : Bytes) (ha : Sb a) : d_spec_IsAtom a = some (atomB a) := by
  unfold d_spec_IsAtom
  refine (sAtomL a _ ha a [] rfl fuel (by unfold Sb at ha; unfold fuel; omega)).trans ?_
  rw [in_eq, Option.bind_some]
  show _ = some (a.all ab && lenB a)
  cases a.all ab <;> rfl
theorem iAtom (a : Bytes) (ha : Sb a) : d_impl_IsAtom a = some (atomB a) := by
  unfold d_impl_IsAtom
  rw [show d_impl_IsAtom_L1 a (some true) fuel 0 = _ from iAtomL a _ ha a [] rfl fuel (by unfold Sb at ha; unfold fuel; omega)]
  have c1 : decide ((a.length : Int) ≥ 1) = !decide ((a.length : Int) < 1) := by rw [Bool.eq_iff_iff]; simp
  have c2 : decide ((a.length : Int) ≤ 8) = !decide ((a.length : Int) > 8) := by rw [Bool.eq_iff_iff]; simp
  rw [atomB, lenB, c1, c2]
  cases decide ((a.length : Int) < 1) <;> cases decide ((a.length : Int) > 8) <;> cases a.all ab <;> rfl

def headB : Bytes → Bool
  | [] => false
  | x :: _ => decide ((x.toNat : Int) ≥ 97)
def nameB (s : Bytes) : Bool := atomB s && headB s
theorem sName (a : Bytes) (ha : Sb a) : d_spec_IsName a = some (nameB a) := by
  unfold d_spec_IsName
  rw [sAtom a ha, Option.bind_some, nameB]
  cases h : atomB a with
  | false => rfl
  | true =>
    cases a with
    | nil => simp [atomB, lenB] at h
    | cons x xs =>
      rw [show atI (x :: xs) 0 = some x from rfl]
      simp only [cond_true, Option.bind_some, wrapB, in_eq, Bool.true_and, Option.some.injEq, headB]
      simp only [atomB, List.all_cons, ab, in1, in2, Bool.and_eq_true, Bool.or_eq_true, decide_eq_true_eq] at h
      rw [Bool.eq_iff_iff]
      simp only [Bool.and_eq_true, decide_eq_true_eq]
      omega
theorem iName (a : Bytes) (ha : Sb a) : d_impl_IsName a = some (nameB a) := by
  unfold d_impl_IsName
  rw [iAtom a ha, Option.bind_some, nameB]
  cases h : atomB a with
  | false => rfl
  | true =>
    cases a with
    | nil => simp [atomB, lenB] at h
    | cons x xs => rfl

def factB (f : Fact) : Bool := f.args.all atomB && (nameB f.rel && decide ((f.args.length : Int) ≤ 3))
theorem sFactL (f : Fact) (k : Option Bool) : ∀ (l : List Bytes) (i : Nat), (∀ x ∈ l, Sb x) → d_spec_IsFact_L1 f k l i = bif l.all atomB then k else some false := by
  intro l
  induction l with
  | nil => intro i _; rfl
  | cons x xs ih =>
    intro i h
    rw [d_spec_IsFact_L1, sAtom x (h x (by simp)), Option.bind_some, ih _ (fun y hy => h y (by simp [hy])), List.all_cons]
    cases atomB x <;> simp
theorem iFactL (f : Fact) (k : Option Bool) : ∀ (l : List Bytes) (i : Nat), (∀ x ∈ l, Sb x) → d_impl_IsFact_L1 f k l i = bif l.all atomB then k else some false := by
  intro l
  induction l with
  | nil => intro i _; rfl
  | cons x xs ih =>
    intro i h
    rw [d_impl_IsFact_L1, iAtom x (h x (by simp)), Option.bind_some, ih _ (fun y hy => h y (by simp [hy])), List.all_cons]
    cases atomB x <;> simp
theorem sFact (f : Fact) (h : Bd.Fact f) : d_spec_IsFact f = some (factB f) := by
  unfold d_spec_IsFact
  rw [sFactL _ _ _ _ h.2.2, sName _ h.1, Option.bind_some, List.length_map, factB]
  cases f.args.all atomB <;> cases nameB f.rel <;> rfl
theorem iFact (f : Fact) (h : Bd.Fact f) : d_impl_IsFact f = some (factB f) := by
  unfold d_impl_IsFact
  rw [iFactL _ _ _ _ h.2.2, iName _ h.1, Option.bind_some, List.length_map, factB]
  have c : decide ((f.args.length : Int) ≤ 3) = !decide ((f.args.length : Int) > 3) := by rw [Bool.eq_iff_iff]; simp
  rw [c]
  cases f.args.all atomB <;> cases nameB f.rel <;> cases decide ((f.args.length : Int) > 3) <;> rfl

theorem joinLen (sep : Bytes) (B : Nat) : ∀ (xs : List Bytes), (∀ x ∈ xs, x.length ≤ B) → (Lib.joinTail sep xs).length ≤ xs.length * (sep.length + B) := by
  intro xs
  induction xs with
  | nil => intro _; simp [Lib.joinTail]
  | cons x xs ih =>
    intro h
    have h1 := ih fun y hy => h y (by simp [hy])
    have h2 := h x (by simp)
    have : (Lib.joinTail sep (x :: xs)).length = sep.length + x.length + (Lib.joinTail sep xs).length   := by simp [Lib.joinTail, Nat.add_assoc]
    rw [this, List.length_cons, Nat.add_mul]
    omega
theorem joinLen' (sep : Bytes) (B : Nat) (xs : List Bytes) (h : ∀ x ∈ xs, x.length ≤ B) : (Lib.join xs sep).length ≤ xs.length * (sep.length + B) := by
  cases xs with
  | nil => simp [Lib.join_nil]
  | cons x r =>
    have h1 := joinLen sep B r fun y hy => h y (by simp [hy])
    have h2 := h x (by simp)
    rw [Lib.join_cons, List.length_append, List.length_cons, Nat.add_mul]
    omega
theorem sJoinL (a : List Bytes) (sep : Bytes) (k : Bytes → Option Bytes) : ∀ (l : List Bytes) (i : Nat) (v : Bytes), 0 < i → (v ++ Lib.joinTail sep l).length ≤ maxLen → d_spec_Join_L1 a sep k l i v = k (v ++ Lib.joinTail sep l) := by
  intro l
  induction l with
  | nil => intro i v _ _; simp [d_spec_Join_L1, Lib.joinTail]
  | cons x xs ih =>
    intro i v hi hb
    have e : v ++ Lib.joinTail sep (x :: xs) = ((v ++ sep) ++ x) ++ Lib.joinTail sep xs := by simp [Lib.joinTail]
    rw [e] at hb ⊢
    have hb' := hb
    simp only [List.length_append] at hb'
    have e1 : decide (((i : Nat) : Int) > 0) = true := by simp; omega
    have e2 : decide ((v : Bytes).length + sep.length ≤ maxLen) = true := by simp; omega
    have e3 : decide ((v ++ sep : Bytes).length + x.length ≤ maxLen) = true := by simp; omega
    rw [d_spec_Join_L1, e1, cond_true, e2, cond_true, e3, cond_true]
    exact ih (i + 1) _ (by omega) hb
theorem sJoin (xs : List Bytes) (sep : Bytes) (h : (Lib.join xs sep).length ≤ maxLen) : d_spec_Join xs sep = some (Lib.join xs sep) := by
  unfold d_spec_Join
  cases xs with
  | nil => rfl
  | cons x r =>
    rw [Lib.join_cons] at h ⊢
    have e1 : decide (((0 : Nat) : Int) > 0) = false := by decide
    have e2 : decide (([] : Bytes).length + x.length ≤ maxLen) = true := by simp at h ⊢; omega
    rw [d_spec_Join_L1, e1, cond_false, e2, cond_true]
    exact sJoinL _ _ _ r 1 x (by omega) h
theorem iJoin (xs : List Bytes) (sep : Bytes) (h : (Lib.join xs sep).length ≤ 140737488355328) (hn : xs.length ≤ 140737488355328) : d_impl_Join xs sep = some (Lib.join xs sep) := by
  simp [d_impl_Join, d_strings_Join, l_Join, h, hn]

theorem atomB_len {s : Bytes} (h : atomB s = true) : s.length ≤ 8 := by
  simp only [atomB, lenB, Bool.and_eq_true, decide_eq_true_eq] at h; omega
theorem nameB_len {s : Bytes} (h : nameB s = true) : s.length ≤ 8 := by
  simp only [nameB, Bool.and_eq_true] at h; exact atomB_len h.1
def textF (f : Fact) : Bytes := f.rel ++ [40] ++ Lib.join f.args [44] ++ [41]
theorem factB_len {f : Fact} (h : factB f = true) : f.rel.length ≤ 8 ∧ (Lib.join f.args [44]).length ≤ 27 ∧ f.args.length ≤ 3 := by
  simp only [factB, Bool.and_eq_true, decide_eq_true_eq, List.all_eq_true] at h
  have h1 := nameB_len h.2.1
  have h2 := joinLen' [44] 8 f.args fun x hx => atomB_len (h.1 x hx)
  simp only [List.length_cons, List.length_nil] at h2
  omega
theorem textF_len {f : Fact} (h : factB f = true) : (textF f).length ≤ 37 := by
  have := factB_len h
  simp [textF]; omega
theorem sText (f : Fact) (h : Bd.Fact f) (hf : factB f = true) : d_spec_FormatFact f = some (textF f) := by
  have := factB_len hf
  unfold d_spec_FormatFact
  rw [sFact f h, hf, Option.bind_some, sJoin _ _ (by unfold maxLen; omega)]
  have e1 : decide ((f.rel : Bytes).length + ([40] : Bytes).length ≤ maxLen) = true := by unfold maxLen; simp; omega
  have e2 : decide ((f.rel ++ [40] : Bytes).length + (Lib.join f.args [44]).length ≤ maxLen) = true := by unfold maxLen; simp; omega
  have e3 : decide (((f.rel ++ [40]) ++ Lib.join f.args [44] : Bytes).length + ([41] : Bytes).length ≤ maxLen) = true := by unfold maxLen; simp; omega
  rw [Bool.not_true, cond_false, e1, cond_true, Option.bind_some, e2, cond_true, e3]
  rfl
theorem iText (f : Fact) (h : Bd.Fact f) (hf : factB f = true) : d_impl_FormatFact f = some (textF f) := by
  have := factB_len hf
  unfold d_impl_FormatFact
  rw [iFact f h, hf, Option.bind_some, iJoin _ _ (by omega) (by omega)]
  have e1 : decide ((f.rel : Bytes).length + ([40] : Bytes).length ≤ maxLen) = true := by unfold maxLen; simp; omega
  have e2 : decide ((f.rel ++ [40] : Bytes).length + (Lib.join f.args [44]).length ≤ maxLen) = true := by unfold maxLen; simp; omega
  have e3 : decide (((f.rel ++ [40]) ++ Lib.join f.args [44] : Bytes).length + ([41] : Bytes).length ≤ maxLen) = true := by unfold maxLen; simp; omega
  rw [Bool.not_true, cond_false, e1, cond_true, Option.bind_some, e2, cond_true, e3]
  rfl
theorem roomW {w : List Bytes} {y : Bytes} (h : w.length ≤ 1048576) : room ((w.map tx).length + ([[D.str y]]).length) 16 = true := by
  unfold room maxLen
  simp
  omega
theorem sFactsL (a : List Fact) (k : List Bytes → Option Bytes) : ∀ (l : List Fact) (i : Nat) (w : List Bytes), (∀ x ∈ l, Bd.Fact x) → w.length + l.length ≤ 1048576 →
    d_spec_FormatFacts_L1 a k l i w = bif l.all factB then k (w ++ l.map textF) else some [] := by
  intro l
  induction l with
  | nil => intro i w _ _; simp [d_spec_FormatFacts_L1]
  | cons x xs ih =>
    intro i w h hl
    simp only [List.length_cons] at hl
    rw [d_spec_FormatFacts_L1, sFact x (h x (by simp)), Option.bind_some, List.all_cons]
    cases hx : factB x with
    | false => rfl
    | true =>
      rw [sText x (h x (by simp)) hx, Bool.not_true, cond_false, Option.bind_some, roomW (by omega), cond_true, ih (i + 1) _ (fun y hy => h y (by simp [hy])) (by simp; omega)]
      simp
theorem iFactsL (a : List Fact) (k : List Bytes → Option Bytes) : ∀ (l : List Fact) (i : Nat) (w : List Bytes), (∀ x ∈ l, Bd.Fact x) → w.length + l.length ≤ 1048576 →
    d_impl_FormatFacts_L1 a k l i w = bif l.all factB then k (w ++ l.map textF) else some [] := by
  intro l
  induction l with
  | nil => intro i w _ _; simp [d_impl_FormatFacts_L1]
  | cons x xs ih =>
    intro i w h hl
    simp only [List.length_cons] at hl
    rw [d_impl_FormatFacts_L1, iFact x (h x (by simp)), Option.bind_some, List.all_cons]
    cases hx : factB x with
    | false => rfl
    | true =>
      rw [iText x (h x (by simp)) hx, Bool.not_true, cond_false, Option.bind_some, roomW (by omega), cond_true, ih (i + 1) _ (fun y hy => h y (by simp [hy])) (by simp; omega)]
      simp

def textS (l : List Fact) : Bytes := bif l.all factB then (if l = [] then [45] else Lib.join (l.map textF) [32]) else []
theorem textS_len (l : List Fact) (h : l.length ≤ 1048576) (hf : l.all factB = true) : (Lib.join (l.map textF) [32]).length ≤ 39845888 := by
  simp only [List.all_eq_true] at hf
  have := joinLen' [32] 37 (l.map textF) fun x hx => by obtain ⟨f, h1, rfl⟩ := List.mem_map.1 hx; exact textF_len (hf f h1)
  simp only [List.length_map, List.length_cons, List.length_nil] at this
  omega
theorem sFacts (l : List Fact) (h : Lb Bd.Fact l) : d_spec_FormatFacts l = some (textS l) := by
  unfold d_spec_FormatFacts
  rw [sFactsL _ _ _ _ _ h.2 (by have := h.1; simpa using this), List.nil_append, textS]
  cases hf : l.all factB with
  | false => rfl
  | true =>
    cases l with
    | nil => rfl
    | cons x xs =>
      have e : ((((((x :: xs).map textF).map tx).length : Int) : Int) == 0) = false := by simp; omega
      have hb := textS_len _ h.1 hf
      simp only [cond_true]
      rw [e, cond_false, sJoin _ _ (by unfold maxLen; omega)]
      rfl
theorem iFacts (l : List Fact) (h : Lb Bd.Fact l) : d_impl_FormatFacts l = some (textS l) := by
  unfold d_impl_FormatFacts
  rw [iFactsL _ _ _ _ _ h.2 (by have := h.1; simpa using this), List.nil_append, textS]
  cases l with
  | nil => rfl
  | cons x xs =>
    have e : (((((x :: xs).map Fact.c).length : Int) : Int) == 0) = false := by simp; omega
    rw [e, cond_false]
    cases hf : (x :: xs).all factB with
    | false => rfl
    | true =>
      have hb := textS_len _ h.1 hf
      have := h.1
      simp only [cond_true]
      rw [iJoin _ _ (by omega) (by rw [List.length_map]; omega)]
      rfl
theorem textS_small (l : List Fact) (h : l.length ≤ 1048576) : (textS l).length ≤ 39845888 := by
  unfold textS
  cases hf : l.all factB with
  | false => simp
  | true =>
    simp only [cond_true]
    split
    · simp
    · exact textS_len l h hf

theorem both (x : Match) (h : Bd.Match x) : ∃ r, d_spec_FormatMatch x = some r ∧ d_impl_FormatMatch x = some r := by
  unfold d_spec_FormatMatch d_impl_FormatMatch
  simp only [sFacts _ h.2.1, iFacts _ h.2.1, sName _ h.1, iName _ h.1, Option.bind_some]
  cases hn : nameB x.rule with
  | false => exact ⟨[], rfl, rfl⟩
  | true =>
    simp only [Bool.not_true, cond_false]
    cases ((textS x.facts : Bytes) == []) with
    | true => exact ⟨[], rfl, rfl⟩
    | false =>
      have h1 := nameB_len hn
      have h2 := textS_small x.facts h.2.1.1
      have e1 : decide ((x.rule : Bytes).length + ([58, 32] : Bytes).length ≤ maxLen) = true := by unfold maxLen; simp; omega
      have e2 : decide ((x.rule ++ [58, 32] : Bytes).length + (textS x.facts).length ≤ maxLen) = true := by unfold maxLen; simp; omega
      simp only [cond_false, e1, e2, cond_true]
      exact ⟨_, rfl, rfl⟩

theorem law_ok (x : Match) (h : RdbL x.c) : d_laws_FnExactFormatMatch x = some true := by
  unfold d_laws_FnExactFormatMatch
  obtain ⟨r, e, _, hb⟩ := szMatch_ok x h 1048576 (by omega) (by omega)
  rw [e, Option.bind_some]
  by_cases c : r < 0
  · simp [c]
  · obtain ⟨s, e1, e2⟩ := both x (hb (by omega))
    simp [c, toMatch_ok x (hb (by omega)), e1, e2, eqMatch_ok]

theorem law_good (x : Match) : Good Try.prog 3 [.agg x.c] (.bool true) :=
  Good.of_rdb ⟨_, Try.func3, rfl, by decide⟩ fun h => d_laws_FnExactFormatMatch_good (law_ok x (Rdb.agg (h _ (by simp))))
end LawFormatMatch
end Go.Cx
