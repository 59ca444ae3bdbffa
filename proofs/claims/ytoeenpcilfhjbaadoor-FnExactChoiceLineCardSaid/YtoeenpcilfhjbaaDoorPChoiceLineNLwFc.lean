/- The line of a choice in plain words: of the program and of the reference. No condition but bounds on sizes. -/
import Derived.Test.YtoeenpcilfhjbaaDoorPChoiceLineNLwA
import Derived.Test.YtoeenpcilfhjbaaDoorPChoiceLineNLwFa
import Derived.Lib.ItoaNum
import Derived.Lib.ItoaLen
namespace Go.Cx
open Go.RowKit Go.Proofs
set_option linter.unusedVariables false
set_option linter.unusedSimpArgs false
theorem Fact.rel_le {p : Fact} {n : Nat} (h : p.wt ≤ n) : p.rel.length ≤ n := by unfold Fact.wt tw at h; omega
theorem Fact.arg_le {p : Fact} {n : Nat} (h : p.wt ≤ n) {x : Bytes} (hx : x ∈ p.args) : x.length ≤ n := by unfold Fact.wt at h; have := wtL_mem (w := tw) hx; have e : tw x = x.length := rfl; omega
def factB (f : Fact) : Bool := f.args.all atomB && (nameB f.rel && decide ((f.args.length : Int) ≤ 3))
theorem sFact (f : Fact) (h : f.wt ≤ 1048576) : d_spec_IsFact f = some (factB f) := by
  unfold d_spec_IsFact
  rw [allL (f := d_spec_IsAtom) (L := d_spec_IsFact_L1 f _) (fun _ => rfl) (fun _ _ _ => rfl) f.args 0 (fun x hx => sAtom x (Fact.arg_le h hx)), sName _ (Fact.rel_le h), Option.bind_some, List.length_map, factB]
  cases f.args.all atomB <;> cases nameB f.rel <;> rfl
theorem iFact (f : Fact) (h : f.wt ≤ 1048576) : d_impl_IsFact f = some (factB f) := by
  unfold d_impl_IsFact
  rw [allL (f := d_impl_IsAtom) (L := d_impl_IsFact_L1 f _) (fun _ => rfl) (fun _ _ _ => rfl) f.args 0 (fun x hx => iAtom x (Fact.arg_le h hx)), iName _ (Fact.rel_le h), Option.bind_some, List.length_map, factB]
  have c : decide ((f.args.length : Int) ≤ 3) = !decide ((f.args.length : Int) > 3) := by rw [Bool.eq_iff_iff]; simp
  rw [c]
  cases f.args.all atomB <;> cases nameB f.rel <;> cases decide ((f.args.length : Int) > 3) <;> rfl
theorem okLen {a b : Bytes} (h : a.length + b.length ≤ 1099511627776) : decide ((a : Bytes).length + (b : Bytes).length ≤ maxLen) = true := by unfold maxLen; simp; omega
theorem joinLen (sep : Bytes) (B : Nat) : ∀ (xs : List Bytes), (∀ x ∈ xs, x.length ≤ B) → (Lib.joinTail sep xs).length ≤ xs.length * (sep.length + B) := by
  intro xs
  induction xs with
  | nil => intro _; simp [Lib.joinTail]
  | cons x xs ih =>
    intro h
    have h1 := ih fun y hy => h y (by simp [hy])
    have h2 := h x (by simp)
    have : (Lib.joinTail sep (x :: xs)).length = sep.length + x.length + (Lib.joinTail sep xs).length := by simp [Lib.joinTail, Nat.add_assoc]
    rw [this, List.length_cons, Nat.add_mul]
    omega
theorem joinLen' (sep : Bytes) (B : Nat) (xs : List Bytes) (h : ∀ x ∈ xs, x.length ≤ B) : (Lib.join xs sep).length ≤ xs.length * (sep.length + B) := by
  cases xs with
  | nil => simp [Lib.join_nil]
  | cons x r =>
    have h1 := joinLen sep B r fun y hy => h y (by simp [hy])
    have h2 := h x (by simp)
    rw [Lib.join_cons, List.length_append, List.length_cons, Nat.add_mul]
    omega
theorem sJoinL (a : List Bytes) (sep : Bytes) (k : Bytes → Option Bytes) : ∀ (l : List Bytes) (i : Nat) (v : Bytes), 0 < i → (v ++ Lib.joinTail sep l).length ≤ maxLen → d_spec_Join_L1 a sep k l i v = k (v ++ Lib.joinTail sep l) := by
  intro l
  induction l with
  | nil => intro i v _ _; simp [d_spec_Join_L1, Lib.joinTail]
  | cons x xs ih =>
    intro i v hi hb
    have e : v ++ Lib.joinTail sep (x :: xs) = ((v ++ sep) ++ x) ++ Lib.joinTail sep xs := by simp [Lib.joinTail]
    rw [e] at hb ⊢
    have hb' := hb
    simp only [List.length_append] at hb'
    have e1 : decide (((i : Nat) : Int) > 0) = true := by simp; omega
    have e2 : decide ((v : Bytes).length + sep.length ≤ maxLen) = true := by simp; omega
    have e3 : decide ((v ++ sep : Bytes).length + x.length ≤ maxLen) = true := by simp; omega
    rw [d_spec_Join_L1, e1, cond_true, e2, cond_true, e3, cond_true]
    exact ih (i + 1) _ (by omega) hb
theorem sJoin (xs : List Bytes) (sep : Bytes) (h : (Lib.join xs sep).length ≤ 1099511627776) : d_spec_Join xs sep = some (Lib.join xs sep) := by
  unfold d_spec_Join
  cases xs with
  | nil => rfl
  | cons x r =>
    rw [Lib.join_cons] at h ⊢
    have e1 : decide (((0 : Nat) : Int) > 0) = false := by decide
    have e2 : decide (([] : Bytes).length + x.length ≤ maxLen) = true := okLen (by simp at h ⊢; omega)
    rw [d_spec_Join_L1, e1, cond_false, e2, cond_true]
    exact sJoinL _ _ _ r 1 x (by omega) (by unfold maxLen; omega)
theorem iJoin (xs : List Bytes) (sep : Bytes) (h : (Lib.join xs sep).length ≤ 1099511627776) (hn : xs.length ≤ 1099511627776) : d_impl_Join xs sep = some (Lib.join xs sep) := by
  have h1 : (Lib.join xs sep).length ≤ 140737488355328 := by omega
  have h2 : xs.length ≤ 140737488355328 := by omega
  simp [d_impl_Join, d_strings_Join, l_Join, h1, h2]
theorem nDig_le : ∀ (k v : Nat), v < 10 ^ k → 1 ≤ k → Lib.nDigits v ≤ k := by
  intro k
  induction k with
  | zero => intro v _ h; omega
  | succ k ih =>
    intro v hv _
    by_cases h10 : v < 10
    · rw [Lib.nDigits_small h10]; omega
    · rw [Lib.nDigits_big h10]
      have h3 : v / 10 < 10 ^ k := by rw [Nat.pow_succ] at hv; omega
      have hk1 : 1 ≤ k := by
        cases k with
        | zero => simp at hv; omega
        | succ k => omega
      have := ih (v / 10) h3 hk1
      omega
theorem nDig19 {u : Nat} (h : u ≤ 9223372036854775808) : Lib.nDigits u ≤ 19 := nDig_le 19 u (by omega) (by omega)
theorem dig1 (u : Nat) : UInt8.ofNat (IntKind.u8.wrap (IntKind.i64.wrap ((48) + ((u : Int) % (10))))).toNat = UInt8.ofNat (48 + u % 10) := by
  rw [wrap_in (k := .i64) (InR.i64.2 (by omega)), wrap_in (InR.u8.2 (by omega))]
  congr 1
theorem sFmtL (k : Option Bytes) : ∀ (n u : Nat) (acc : Bytes), Lib.nDigits u ≤ n → acc.length + Lib.nDigits u ≤ 1000 → d_spec_FormatInt_R_L1 k n (u : Int) acc = some (Lib.decDigits u ++ acc) := by
  intro n
  induction n with
  | zero => intro u acc h _; have := Lib.nDigits_pos u; omega
  | succ n ih =>
    intro u acc hn hl
    have hp := Lib.nDigits_pos u
    have e0 : (decide (0 ≤ (u : Int)) && decide (0 < (10 : Int))) = true := by simp
    have e1 : decide (([UInt8.ofNat (48 + u % 10)] : Bytes).length + (acc : Bytes).length ≤ maxLen) = true := by unfold maxLen; simp; omega
    rw [d_spec_FormatInt_R_L1]
    simp only [dig1, e0, e1, cond_true]
    by_cases h10 : u < 10
    · have e2 : (((u : Int) / (10) : Int) == (0)) = true := by rw [beq_iff_eq]; omega
      rw [e2, cond_true, Lib.decDigits, dif_pos h10, Nat.mod_eq_of_lt h10]
    · have e2 : (((u : Int) / (10) : Int) == (0)) = false := by rw [beq_eq_false_iff_ne]; omega
      have e3 : ((u : Int) / 10) = ((u / 10 : Nat) : Int) := by omega
      have hd := Lib.nDigits_big h10
      rw [e2, cond_false, e3, ih (u / 10) _ (by omega) (by simp; omega)]
      conv => rhs; rw [Lib.decDigits, dif_neg h10]
      simp
theorem sFmtR (m u : Nat) (h : u ≤ 9223372036854775807) : d_spec_FormatInt_R (m + 1) (u : Int) = some (Lib.decDigits u) := by
  rw [d_spec_FormatInt_R]
  have e1 : (((u : Int)) == (-9223372036854775808)) = false := by rw [beq_eq_false_iff_ne]; omega
  have e2 : decide ((u : Int) < 0) = false := by simp
  have := nDig19 (u := u) (by omega)
  rw [e1, cond_false, e2, cond_false, sFmtL _ _ _ _ (by unfold fuel; omega) (by simp; omega)]
  simp
theorem itoa_min : Lib.itoa (-9223372036854775808) = [45, 57, 50, 50, 51, 51, 55, 50, 48, 51, 54, 56, 53, 52, 55, 55, 53, 56, 48, 56] := by
  unfold Lib.itoa
  simp [Lib.decDigits]
theorem sFmt (n : Int) (h : InR .i64 n) : d_spec_FormatInt n = some (Lib.itoa n) := by
  have h := InR.i64.1 h
  unfold d_spec_FormatInt
  rw [show fuel = 4194303 + 1 from rfl, d_spec_FormatInt_R]
  by_cases hm : n = -9223372036854775808
  · subst hm
    rw [itoa_min]
    rfl
  have e1 : ((n : Int) == (-9223372036854775808)) = false := by rw [beq_eq_false_iff_ne]; exact hm
  rw [e1, cond_false]
  by_cases hn : n < 0
  · have e2 : decide (n < 0) = true := by simpa using hn
    have e3 : IntKind.i64.wrap (0 - n) = ((n.natAbs : Nat) : Int) := by rw [wrap_in (InR.i64.2 (by omega))]; omega
    have hd := nDig19 (u := n.natAbs) (by omega)
    rw [e2, cond_true, e3, show (4194303 : Nat) = 4194302 + 1 from rfl, sFmtR _ _ (by omega), Option.bind_some]
    have e4 : decide (([45] : Bytes).length + (Lib.decDigits n.natAbs : Bytes).length ≤ maxLen) = true := by unfold maxLen; rw [Lib.decDigits_length]; simp; omega
    rw [e4, cond_true]
    unfold Lib.itoa
    rw [if_pos hn]
    rfl
  · have e2 : decide (n < 0) = false := by simpa using hn
    have e3 : n = ((n.toNat : Nat) : Int) := by omega
    have := nDig19 (u := n.toNat) (by omega)
    rw [e2, cond_false]
    conv => lhs; rw [e3]
    rw [sFmtL _ _ _ _ (by unfold fuel; omega) (by simp; omega)]
    unfold Lib.itoa
    rw [if_neg hn]
    simp
theorem iFmt (n : Int) : d_impl_FormatInt n = some (Lib.itoa n) := by
  unfold d_impl_FormatInt d_strconv_Itoa
  rfl
theorem itoa_len21 (n : Int) (h : InR .i64 n) : (Lib.itoa n).length ≤ 21 := by
  have := InR.i64.1 h
  exact Lib.itoa_length_le n this.1 this.2
/-! facts and matches -/
def textF (f : Fact) : Bytes := ((f.rel ++ [40]) ++ Lib.join f.args [44]) ++ [41]
theorem factB_len {f : Fact} (h : factB f = true) : f.rel.length ≤ 8 ∧ (Lib.join f.args [44]).length ≤ 27 ∧ f.args.length ≤ 3 := by
  simp only [factB, Bool.and_eq_true, decide_eq_true_eq, List.all_eq_true] at h
  have h1 := (nameB_len h.2.1).2
  have h2 := joinLen' [44] 8 f.args fun x hx => (atomB_len (h.1 x hx)).2
  simp only [List.length_cons, List.length_nil] at h2
  omega
theorem textF_len {f : Fact} (h : factB f = true) : (textF f).length ≤ 37 := by
  have := factB_len h
  simp [textF]; omega
theorem sText (f : Fact) (h : f.wt ≤ 1048576) (hf : factB f = true) : d_spec_FormatFact f = some (textF f) := by
  have := factB_len hf
  unfold d_spec_FormatFact
  rw [sFact f h, hf, Option.bind_some, sJoin _ _ (by omega), Bool.not_true, cond_false, okLen (by simp; omega), cond_true, Option.bind_some, okLen (by simp; omega), cond_true, okLen (by simp; omega)]
  rfl
theorem iText (f : Fact) (h : f.wt ≤ 1048576) (hf : factB f = true) : d_impl_FormatFact f = some (textF f) := by
  have := factB_len hf
  unfold d_impl_FormatFact
  rw [iFact f h, hf, Option.bind_some, iJoin _ _ (by omega) (by omega), Bool.not_true, cond_false, okLen (by simp; omega), cond_true, Option.bind_some, okLen (by simp; omega), cond_true, okLen (by simp; omega)]
  rfl
theorem roomW {w : List Bytes} {y : Bytes} (h : w.length ≤ 1048576) : room ((w.map tx).length + ([[D.str y]]).length) 16 = true := by
  unfold room maxLen
  simp
  omega
theorem sFactsL (a : List Fact) (k : List Bytes → Option Bytes) : ∀ (l : List Fact) (i : Nat) (w : List Bytes), (∀ x ∈ l, x.wt ≤ 1048576) → w.length + l.length ≤ 1048576 →
    d_spec_FormatFacts_L1 a k l i w = bif l.all factB then k (w ++ l.map textF) else some [] := by
  intro l
  induction l with
  | nil => intro i w _ _; simp [d_spec_FormatFacts_L1]
  | cons x xs ih =>
    intro i w h hl
    simp only [List.length_cons] at hl
    rw [d_spec_FormatFacts_L1, sFact x (h x (by simp)), Option.bind_some, List.all_cons]
    cases hx : factB x with
    | false => rfl
    | true =>
      rw [sText x (h x (by simp)) hx, Bool.not_true, cond_false, Option.bind_some, roomW (by omega), cond_true, ih (i + 1) _ (fun y hy => h y (by simp [hy])) (by simp; omega)]
      simp
theorem iFactsL (a : List Fact) (k : List Bytes → Option Bytes) : ∀ (l : List Fact) (i : Nat) (w : List Bytes), (∀ x ∈ l, x.wt ≤ 1048576) → w.length + l.length ≤ 1048576 →
    d_impl_FormatFacts_L1 a k l i w = bif l.all factB then k (w ++ l.map textF) else some [] := by
  intro l
  induction l with
  | nil => intro i w _ _; simp [d_impl_FormatFacts_L1]
  | cons x xs ih =>
    intro i w h hl
    simp only [List.length_cons] at hl
    rw [d_impl_FormatFacts_L1, iFact x (h x (by simp)), Option.bind_some, List.all_cons]
    cases hx : factB x with
    | false => rfl
    | true =>
      rw [iText x (h x (by simp)) hx, Bool.not_true, cond_false, Option.bind_some, roomW (by omega), cond_true, ih (i + 1) _ (fun y hy => h y (by simp [hy])) (by simp; omega)]
      simp
def textS (l : List Fact) : Bytes := bif l.all factB then (if l = [] then [45] else Lib.join (l.map textF) [32]) else []
theorem textS_len (l : List Fact) (h : l.length ≤ 1048576) (hf : l.all factB = true) : (Lib.join (l.map textF) [32]).length ≤ 39845888 := by
  simp only [List.all_eq_true] at hf
  have := joinLen' [32] 37 (l.map textF) fun x hx => by obtain ⟨f, h1, rfl⟩ := List.mem_map.1 hx; exact textF_len (hf f h1)
  simp only [List.length_map, List.length_cons, List.length_nil] at this
  omega
theorem textS_small (l : List Fact) (h : l.length ≤ 1048576) : (textS l).length ≤ 39845888 := by
  unfold textS
  cases hf : l.all factB with
  | false => simp
  | true =>
    simp only [cond_true]
    split
    · simp
    · exact textS_len l h hf
theorem fs_len {l : List Fact} (h : wtL Fact.wt l ≤ 1048576) : l.length ≤ 1048576 := Nat.le_trans (wtL_len _ _) h
theorem fs_mem {l : List Fact} (h : wtL Fact.wt l ≤ 1048576) : ∀ x ∈ l, x.wt ≤ 1048576 := fun x hx => by have := wtL_mem (w := Fact.wt) hx; omega
theorem sFacts (l : List Fact) (h : wtL Fact.wt l ≤ 1048576) : d_spec_FormatFacts l = some (textS l) := by
  unfold d_spec_FormatFacts
  rw [sFactsL _ _ _ _ _ (fs_mem h) (by have := fs_len h; simpa using this), List.nil_append, textS]
  cases hf : l.all factB with
  | false => rfl
  | true =>
    cases l with
    | nil => rfl
    | cons x xs =>
      have e : ((((((x :: xs).map textF).map tx).length : Int) : Int) == 0) = false := by simp; omega
      have hb := textS_len _ (fs_len h) hf
      simp only [cond_true]
      rw [e, cond_false, sJoin _ _ (by omega)]
      rfl
theorem iFacts (l : List Fact) (h : wtL Fact.wt l ≤ 1048576) : d_impl_FormatFacts l = some (textS l) := by
  unfold d_impl_FormatFacts
  rw [iFactsL _ _ _ _ _ (fs_mem h) (by have := fs_len h; simpa using this), List.nil_append, textS]
  cases l with
  | nil => rfl
  | cons x xs =>
    have e : (((((x :: xs).map Fact.c).length : Int) : Int) == 0) = false := by simp; omega
    rw [e, cond_false]
    cases hf : (x :: xs).all factB with
    | false => rfl
    | true =>
      have hb := textS_len _ (fs_len h) hf
      have := fs_len h
      simp only [cond_true]
      rw [iJoin _ _ (by omega) (by rw [List.length_map]; omega)]
      rfl
/-- the text of a match -/
def textM (x : Match) : Bytes := bif nameB x.rule then (bif ((textS x.facts : Bytes) == []) then [] else (x.rule ++ [58, 32]) ++ textS x.facts) else []
theorem textM_len (x : Match) (h : wtL Fact.wt x.facts ≤ 1048576) : (textM x).length ≤ 40000000 := by
  have h2 := textS_small x.facts (fs_len h)
  unfold textM
  cases hn : nameB x.rule with
  | false => simp
  | true =>
    have h1 := (nameB_len hn).2
    cases ((textS x.facts : Bytes) == []) <;> simp
    omega
theorem sMatch (x : Match) (h : wtL Fact.wt x.facts ≤ 1048576) (hr : x.rule.length ≤ 1048576) : d_spec_FormatMatch x = some (textM x) := by
  unfold d_spec_FormatMatch textM
  rw [sFacts _ h, sName _ hr]
  simp only [Option.bind_some]
  cases hn : nameB x.rule with
  | false => rfl
  | true =>
    have h1 := (nameB_len hn).2
    have h2 := textS_small x.facts (fs_len h)
    cases ((textS x.facts : Bytes) == []) with
    | true => rfl
    | false =>
      simp only [Bool.not_true, cond_false, cond_true]
      rw [okLen (by simp; omega), cond_true, okLen (by simp; omega), cond_true]
theorem iMatch (x : Match) (h : wtL Fact.wt x.facts ≤ 1048576) (hr : x.rule.length ≤ 1048576) : d_impl_FormatMatch x = some (textM x) := by
  unfold d_impl_FormatMatch textM
  rw [iFacts _ h, iName _ hr]
  simp only [Option.bind_some]
  cases hn : nameB x.rule with
  | false => rfl
  | true =>
    have h1 := (nameB_len hn).2
    have h2 := textS_small x.facts (fs_len h)
    cases ((textS x.facts : Bytes) == []) with
    | true => rfl
    | false =>
      simp only [Bool.not_true, cond_false, cond_true]
      rw [okLen (by simp; omega), cond_true, okLen (by simp; omega), cond_true]
/-! the line of a choice -/
theorem sLineL (a : Choice) (y1 : Bytes) (y4 : List Int) (k : List Bytes → Option Bytes) : ∀ (l : List Int) (i : Nat) (w : List Bytes), (∀ z ∈ l, InR .i64 z) → w.length + l.length ≤ 1048576 → d_spec_ChoiceLine_L1 a y1 y4 k l i w = k (w ++ l.map Lib.itoa) := by
  intro l
  induction l with
  | nil => intro i w _ _; simp [d_spec_ChoiceLine_L1]
  | cons z zs ih =>
    intro i w h hl
    simp only [List.length_cons] at hl
    rw [d_spec_ChoiceLine_L1, sFmt z (h z (by simp)), Option.bind_some, roomW (by omega), cond_true, ih (i + 1) _ (fun y hy => h y (by simp [hy])) (by simp; omega)]
    simp
theorem iLineL (a : Choice) (y1 : Bytes) (y4 : List Int) (k : List Bytes → Option Bytes) : ∀ (l : List Int) (i : Nat) (w : List Bytes), w.length + l.length ≤ 1048576 → d_impl_ChoiceLine_L1 a y1 y4 k l i w = k (w ++ l.map Lib.itoa) := by
  intro l
  induction l with
  | nil => intro i w _; simp [d_impl_ChoiceLine_L1]
  | cons z zs ih =>
    intro i w hl
    simp only [List.length_cons] at hl
    rw [d_impl_ChoiceLine_L1, iFmt z, Option.bind_some, roomW (by omega), cond_true, ih (i + 1) _ (by simp; omega)]
    simp
def lineB (x : Choice) : Bytes := bif ((textM x.mtch : Bytes) == []) then [] else ((((((textM x.mtch ++ [32, 40]) ++ Lib.itoa x.prio) ++ [59, 32]) ++ Lib.join ((fallB x.times).map Lib.itoa) [44]) ++ [59, 32]) ++ Lib.itoa x.spec) ++ [41]
theorem line_len {l : List Int} (h : l.length ≤ 1048576) (hr : ∀ z ∈ l, InR .i64 z) : (Lib.join ((fallB l).map Lib.itoa) [44]).length ≤ 100000000 := by
  have := joinLen' [44] 21 ((fallB l).map Lib.itoa) fun x hx => by
    obtain ⟨z, h1, rfl⟩ := List.mem_map.1 hx
    exact itoa_len21 z (hr z ((fallB_perm l).mem_iff.1 h1))
  simp only [List.length_map, List.length_cons, List.length_nil, fallB_len] at this
  omega
theorem sLine (x : Choice) (hf : wtL Fact.wt x.mtch.facts ≤ 1048576) (hm : x.mtch.rule.length ≤ 1048576) (ht : x.times.length ≤ 1048576) (hr : ∀ z ∈ x.times, InR .i64 z) (hp : InR .i64 x.prio) (hs : InR .i64 x.spec) : d_spec_ChoiceLine x = some (lineB x) := by
  have l1 := textM_len x.mtch hf
  have l2 := line_len ht hr
  have l3 := itoa_len21 x.prio hp
  have l4 := itoa_len21 x.spec hs
  have hfl := fallB_len x.times
  unfold d_spec_ChoiceLine lineB
  rw [sMatch x.mtch hf hm, Option.bind_some]
  cases ((textM x.mtch : Bytes) == []) with
  | true => rfl
  | false =>
    rw [cond_false, cond_false, sFalling x.times ht, Option.bind_some, lenOk (by omega), cond_true, sLineL _ _ _ _ _ _ _ (fun z hz => hr z ((fallB_perm x.times).mem_iff.1 hz)) (by simp; omega), List.nil_append]
    rw [okLen (by simp; omega), cond_true, sFmt _ hp, Option.bind_some, okLen (by simp; omega), cond_true, okLen (by simp; omega), cond_true, sJoin _ _ (by omega), Option.bind_some, okLen (by simp; omega), cond_true, okLen (by simp; omega), cond_true, sFmt _ hs, Option.bind_some, okLen (by simp; omega), cond_true, okLen (by simp; omega), cond_true]
theorem iLine (x : Choice) (hf : wtL Fact.wt x.mtch.facts ≤ 1048576) (hm : x.mtch.rule.length ≤ 1048576) (ht : x.times.length ≤ 1048576) (hr : ∀ z ∈ x.times, InR .i64 z) (hp : InR .i64 x.prio) (hs : InR .i64 x.spec) : d_impl_ChoiceLine x = some (lineB x) := by
  have l1 := textM_len x.mtch hf
  have l2 := line_len ht hr
  have l3 := itoa_len21 x.prio hp
  have l4 := itoa_len21 x.spec hs
  have hfl := fallB_len x.times
  unfold d_impl_ChoiceLine lineB
  rw [iMatch x.mtch hf hm, Option.bind_some]
  cases ((textM x.mtch : Bytes) == []) with
  | true => rfl
  | false =>
    rw [cond_false, cond_false, iFalling x.times ht, Option.bind_some, lenOk (by omega), cond_true, iLineL _ _ _ _ _ _ _ (by simp; omega), List.nil_append]
    rw [okLen (by simp; omega), cond_true, iFmt, Option.bind_some, okLen (by simp; omega), cond_true, okLen (by simp; omega), cond_true, iJoin _ _ (by omega) (by simp; omega), Option.bind_some, okLen (by simp; omega), cond_true, okLen (by simp; omega), cond_true, iFmt, Option.bind_some, okLen (by simp; omega), cond_true, okLen (by simp; omega), cond_true]
end Go.Cx
