/- Numbers as texts, and plain names of variables, in plain words: of the program and of the reference. No condition but bounds on sizes. -/
import Derived.Test.YtpglgncmlcpgdaaGreatDoorPFnPlainNLwB
import Derived.Lib.ItoaNum
import Derived.Lib.ItoaLen
namespace Go.Cx
open Go.RowKit Go.Proofs
set_option linter.unusedVariables false
set_option linter.unusedSimpArgs false
theorem nDig_le : ∀ (k v : Nat), v < 10 ^ k → 1 ≤ k → Lib.nDigits v ≤ k := by
  intro k
  induction k with
  | zero => intro v _ h; omega
  | succ k ih =>
    intro v hv _
    by_cases h10 : v < 10
    · rw [Lib.nDigits_small h10]; omega
    · rw [Lib.nDigits_big h10]
      have h3 : v / 10 < 10 ^ k := by rw [Nat.pow_succ] at hv; omega
      have hk1 : 1 ≤ k := by
        cases k with
        | zero => simp at hv; omega
        | succ k => omega
      have := ih (v / 10) h3 hk1
      omega
theorem nDig19 {u : Nat} (h : u ≤ 9223372036854775808) : Lib.nDigits u ≤ 19 := nDig_le 19 u (by omega) (by omega)
theorem dig1 (u : Nat) : UInt8.ofNat (IntKind.u8.wrap (IntKind.i64.wrap ((48) + ((u : Int) % (10))))).toNat = UInt8.ofNat (48 + u % 10) := by
  rw [wrap_in (k := .i64) (InR.i64.2 (by omega)), wrap_in (InR.u8.2 (by omega))]
  congr 1
theorem sFmtL (k : Option Bytes) : ∀ (n u : Nat) (acc : Bytes), Lib.nDigits u ≤ n → acc.length + Lib.nDigits u ≤ 1000 → d_spec_FormatInt_R_L1 k n (u : Int) acc = some (Lib.decDigits u ++ acc) := by
  intro n
  induction n with
  | zero => intro u acc h _; have := Lib.nDigits_pos u; omega
  | succ n ih =>
    intro u acc hn hl
    have hp := Lib.nDigits_pos u
    have e0 : (decide (0 ≤ (u : Int)) && decide (0 < (10 : Int))) = true := by simp
    have e1 : decide (([UInt8.ofNat (48 + u % 10)] : Bytes).length + (acc : Bytes).length ≤ maxLen) = true := by unfold maxLen; simp; omega
    rw [d_spec_FormatInt_R_L1]
    simp only [dig1, e0, e1, cond_true]
    by_cases h10 : u < 10
    · have e2 : (((u : Int) / (10) : Int) == (0)) = true := by rw [beq_iff_eq]; omega
      rw [e2, cond_true, Lib.decDigits, dif_pos h10, Nat.mod_eq_of_lt h10]
    · have e2 : (((u : Int) / (10) : Int) == (0)) = false := by rw [beq_eq_false_iff_ne]; omega
      have e3 : ((u : Int) / 10) = ((u / 10 : Nat) : Int) := by omega
      have hd := Lib.nDigits_big h10
      rw [e2, cond_false, e3, ih (u / 10) _ (by omega) (by simp; omega)]
      conv => rhs; rw [Lib.decDigits, dif_neg h10]
      simp
theorem sFmtR (m u : Nat) (h : u ≤ 9223372036854775807) : d_spec_FormatInt_R (m + 1) (u : Int) = some (Lib.decDigits u) := by
  rw [d_spec_FormatInt_R]
  have e1 : (((u : Int)) == (-9223372036854775808)) = false := by rw [beq_eq_false_iff_ne]; omega
  have e2 : decide ((u : Int) < 0) = false := by simp
  have := nDig19 (u := u) (by omega)
  rw [e1, cond_false, e2, cond_false, sFmtL _ _ _ _ (by unfold fuel; omega) (by simp; omega)]
  simp
theorem itoa_min : Lib.itoa (-9223372036854775808) = [45, 57, 50, 50, 51, 51, 55, 50, 48, 51, 54, 56, 53, 52, 55, 55, 53, 56, 48, 56] := by
  unfold Lib.itoa
  simp [Lib.decDigits]
theorem sFmt (n : Int) (h : InR .i64 n) : d_spec_FormatInt n = some (Lib.itoa n) := by
  have h := InR.i64.1 h
  unfold d_spec_FormatInt
  rw [show fuel = 4194303 + 1 from rfl, d_spec_FormatInt_R]
  by_cases hm : n = -9223372036854775808
  · subst hm
    rw [itoa_min]
    rfl
  have e1 : ((n : Int) == (-9223372036854775808)) = false := by rw [beq_eq_false_iff_ne]; exact hm
  rw [e1, cond_false]
  by_cases hn : n < 0
  · have e2 : decide (n < 0) = true := by simpa using hn
    have e3 : IntKind.i64.wrap (0 - n) = ((n.natAbs : Nat) : Int) := by rw [wrap_in (InR.i64.2 (by omega))]; omega
    have hd := nDig19 (u := n.natAbs) (by omega)
    rw [e2, cond_true, e3, show (4194303 : Nat) = 4194302 + 1 from rfl, sFmtR _ _ (by omega), Option.bind_some]
    have e4 : decide (([45] : Bytes).length + (Lib.decDigits n.natAbs : Bytes).length ≤ maxLen) = true := by unfold maxLen; rw [Lib.decDigits_length]; simp; omega
    rw [e4, cond_true]
    unfold Lib.itoa
    rw [if_pos hn]
    rfl
  · have e2 : decide (n < 0) = false := by simpa using hn
    have e3 : n = ((n.toNat : Nat) : Int) := by omega
    have := nDig19 (u := n.toNat) (by omega)
    rw [e2, cond_false]
    conv => lhs; rw [e3]
    rw [sFmtL _ _ _ _ (by unfold fuel; omega) (by simp; omega)]
    unfold Lib.itoa
    rw [if_neg hn]
    simp
theorem iFmt (n : Int) : d_impl_FormatInt n = some (Lib.itoa n) := by
  unfold d_impl_FormatInt d_strconv_Itoa
  rfl
theorem itoa_len21 (n : Int) (h : InR .i64 n) : (Lib.itoa n).length ≤ 21 := by
  have := InR.i64.1 h
  exact Lib.itoa_length_le n this.1 this.2
/-! renaming -/
def rnB (to : List Pair) (s : Bytes) : Bytes := match to with
  | [] => s
  | p :: r => bif p.var == s then p.value else rnB r s
def renC (to : List Pair) (x : Cond) : Cond := ⟨x.kind, ⟨x.pat.rel, x.pat.args.map (rnB to)⟩, rnB to x.left, rnB to x.right⟩
theorem iRn (to : List Pair) (s : Bytes) : d_impl_renamedText s to = some (rnB to s) := by
  unfold d_impl_renamedText
  have : ∀ (r : List Pair) (i : Nat), d_impl_renamedText_L1 s to (some s) r i = some (rnB r s) := by
    intro r
    induction r with
    | nil => intro i; rfl
    | cons x r ih =>
      intro i
      rw [d_impl_renamedText_L1, ih, rnB]
      cases x.var == s <;> rfl
  exact this to 0
theorem iRen (x : Cond) (to : List Pair) (h : x.pat.args.length ≤ 1099511627770) : d_impl_RenameCond x to = some (renC to x) := by
  unfold d_impl_RenameCond
  rw [iRn, Option.bind_some, iRn, Option.bind_some]
  rw [mapL (c := tx) (b := 16) (f := fun a => d_impl_renamedText a to) (g := rnB to) (L := d_impl_RenameCond_L1 x to (rnB to x.left) (rnB to x.right) _) (k := _) (by decide) (fun _ _ => rfl) (fun _ _ _ _ => rfl) _ _ _ (fun a _ => iRn to a) (by simp; omega)]
  rfl
/-! plain names -/
def hasV (l : List Pair) (t : Bytes) : Bool := l.any fun p => p.var == t
def nameP (l : List Pair) (t : Bytes) : List Pair := bif varB t && !hasV l t then l ++ [⟨t, [63] ++ Lib.itoa ((l.length : Int) + 1)⟩] else l
theorem mGet_put (x y : Bytes) : ∀ (m : List (Bytes × Bool)), mGet false y (mPut x true m) = (y == x || mGet false y m)
  | [] => by simp only [mPut, mGet]; cases y == x <;> rfl
  | p :: m => by
    simp only [mPut]
    cases h : x == p.1 with
    | true =>
      have h' : x = p.1 := by simpa using h
      subst h'
      simp only [cond_true, mGet]
      cases y == p.1 <;> simp
    | false =>
      simp only [cond_false, mGet, mGet_put x y m]
      cases hy : y == p.1 with
      | true =>
        have h1 : y = p.1 := by simpa using hy
        have h2 : (y == x) = false := by
          rw [beq_eq_false_iff_ne] at h ⊢
          intro e; exact h (e.symm.trans h1)
        simp [h2]
      | false => simp
theorem hasV_snoc (l : List Pair) (x y v : Bytes) : hasV (l ++ [⟨x, v⟩]) y = (y == x || hasV l y) := by
  have : (x == y) = (y == x) := by rw [Bool.eq_iff_iff, beq_iff_eq, beq_iff_eq]; exact eq_comm
  simp only [hasV, List.any_append, List.any_cons, List.any_nil, Bool.or_false, this]
  cases y == x <;> simp
theorem iPlainP (ts : List Bytes) (hl : ts.length ≤ 1099511627700) (h : ∀ x ∈ ts, x.length ≤ 1048576) : d_impl_plainPairs ts = some (ts.foldl nameP []) := by
  unfold d_impl_plainPairs
  have key : ∀ (r : List Bytes) (i : Nat) (w : List Pair) (m : List (Bytes × Bool)), (∀ x ∈ r, x.length ≤ 1048576) → w.length + r.length ≤ 1099511627700 → (∀ y, mGet false y m = hasV w y) →
      d_impl_plainPairs_L1 ts (fun q => some q) r i w m = some (r.foldl nameP w) := by
    intro r
    induction r with
    | nil => intro i w m _ _ _; rfl
    | cons x r ih =>
      intro i w m hx hw hm
      simp only [List.length_cons] at hw
      have hr : InR .i64 ((w.length : Int) + 1) := InR.i64.2 (by omega)
      have hi := itoa_len21 _ hr
      have e1 : IntKind.i64.wrap ((((w.map Pair.c).length : Int)) + 1) = (w.length : Int) + 1 := by rw [wrap_in (InR.i64.2 (by simp; omega))]; simp
      have e2 : decide (([63] : Bytes).length + (Lib.itoa ((w.length : Int) + 1) : Bytes).length ≤ maxLen) = true := by unfold maxLen; simp; omega
      rw [d_impl_plainPairs_L1, iVar x (hx x (by simp)), Option.bind_some, List.foldl_cons, nameP, hm x]
      cases hv : varB x with
      | false => simp only [cond_false, Bool.false_and]; exact ih _ _ _ (fun y hy => hx y (by simp [hy])) (by omega) hm
      | true =>
        cases hh : hasV w x with
        | true => simp only [cond_true, Bool.not_true, cond_false, Bool.true_and]; exact ih _ _ _ (fun y hy => hx y (by simp [hy])) (by omega) hm
        | false =>
          simp only [cond_true, Bool.not_false, Bool.true_and]
          rw [e1, iFmt, Option.bind_some, e2, cond_true, room1 (by omega) (by decide), cond_true]
          exact ih _ _ _ (fun y hy => hx y (by simp [hy])) (by simp; omega) (fun y => by rw [mGet_put, hasV_snoc, hm])
  exact key ts 0 [] [] h (by simpa using hl) (fun y => rfl)
def termsB (l : List Cond) : List Bytes := l.flatMap fun c => c.pat.args ++ [c.left, c.right]
theorem termsB_len (l : List Cond) : (termsB l).length ≤ 3 * wtL Cond.wt l := by
  unfold termsB
  induction l with
  | nil => simp
  | cons x l ih =>
    rw [List.flatMap_cons, List.length_append, wtL_cons]
    have := Fact.args_le (Cond.pat_le (c := x) (Nat.le_refl _))
    simp only [List.length_append, List.length_cons, List.length_nil]
    omega
def namesB (r : Rule) : List Pair := (termsB r.conds).foldl nameP []
def plainB (r : Rule) : List Cond := r.conds.map (renC (namesB r))
theorem iNames (r : Rule) (h : r.wt ≤ 1048576) : d_impl_PlainNames r = some (namesB r) := by
  unfold d_impl_PlainNames
  have hw := Rule.conds_le h
  have key : ∀ (k : List Bytes → Option (List Pair)) (l : List Cond) (i : Nat) (w : List Bytes), (∀ c ∈ l, c.wt ≤ 1048576) → w.length + 3 * wtL Cond.wt l ≤ 1099511627700 → d_impl_PlainNames_L1 r k l i w = k (w ++ termsB l) := by
    intro k l
    induction l with
    | nil => intro i w _ _; simp [d_impl_PlainNames_L1, termsB]
    | cons c l ih =>
      intro i w hc hw
      rw [wtL_cons] at hw
      have hcw := hc c (by simp)
      have ha := Fact.args_le (Cond.pat_le (c := c) (Nat.le_refl _))
      rw [d_impl_PlainNames_L1, iTerms c hcw, Option.bind_some, roomA (by simp; omega) (by decide), cond_true, ih _ _ (fun y hy => hc y (by simp [hy])) (by simp; omega)]
      simp [termsB]
  have hl := termsB_len r.conds
  rw [key _ _ _ _ (fun c hc => Rule.cond_le h hc) (by simp; omega), List.nil_append, iPlainP _ (by omega) ?_]
  · rfl
  · intro x hx
    unfold termsB at hx
    obtain ⟨c, hc, hx⟩ := List.mem_flatMap.1 hx
    have hcw := Rule.cond_le h hc
    rcases List.mem_append.1 hx with hx | hx
    · exact Fact.arg_le (Cond.pat_le hcw) hx
    · simp only [List.mem_cons, List.not_mem_nil, or_false] at hx
      rcases hx with rfl | rfl
      · exact Cond.left_le hcw
      · exact Cond.right_le hcw
theorem iConds (r : Rule) (h : r.wt ≤ 1048576) : d_impl_PlainConds r = some (plainB r) := by
  unfold d_impl_PlainConds
  have hw := Rule.conds_le h
  have hl := wtL_len Cond.wt r.conds
  rw [iNames r h, Option.bind_some]
  rw [mapL (c := Cond.c) (b := 80) (f := fun a => d_impl_RenameCond a (namesB r)) (g := renC (namesB r)) (L := d_impl_PlainConds_L1 r (namesB r) _) (k := _) (by decide) (fun _ _ => rfl) (fun _ _ _ _ => rfl) _ _ _ (fun c hc => iRen c _ (by have := Fact.args_le (Cond.pat_le (Rule.cond_le h hc)); omega)) (by simp; omega)]
  simp [plainB]
end Go.Cx
