/- Reading numbers, and the orders of atoms, facts and tokens, in plain words: of the program and of the reference. No condition but bounds on sizes. -/
import Derived.Test.YtpglgncmlcpgdaaGreatDoorPFnPlainNLwD
import Derived.Test.YtpglgncmlcpgdaaGreatDoorPFnPlainNLwE
import Derived.Lib.Atoi
namespace Go.Cx
open Go.RowKit Go.Proofs
set_option linter.unusedVariables false
set_option linter.unusedSimpArgs false
/-! numbers -/
def numB (s : Bytes) : Option Nat := if 1 ≤ s.length ∧ s.length ≤ 4 then (match Lib.decFrom 0 s with | some n => if Lib.decDigits n = s then some n else none | none => none) else none
def pI (s : Bytes) : Int × Bool := match numB s with | some n => ((n : Int), true) | none => (0, false)
theorem dig_byte : ∀ (u : Nat), ∀ b ∈ Lib.decDigits u, 48 ≤ b.toNat ∧ b.toNat ≤ 57 := by
  intro u
  induction u using Nat.strongRecOn with
  | _ u ih =>
    have hb : ∀ v : Nat, v < 10 → 48 ≤ (UInt8.ofNat (48 + v)).toNat ∧ (UInt8.ofNat (48 + v)).toNat ≤ 57 := by
      intro v hv
      have : (UInt8.ofNat (48 + v)).toNat = 48 + v := by simp; omega
      omega
    intro b hm
    rw [Lib.decDigits] at hm
    split at hm
    · rename_i h10
      simp only [List.mem_singleton] at hm
      subst hm
      exact hb u h10
    · rename_i h10
      rcases List.mem_append.1 hm with hm | hm
      · exact ih (u / 10) (by omega) b hm
      · simp only [List.mem_singleton] at hm
        subst hm
        exact hb (u % 10) (by omega)
theorem sParseL (a : Bytes) (k : Int → Option (Int × Bool)) (ha : a.length ≤ 4) : ∀ (rest pre : Bytes) (acc : Nat), a = pre ++ rest → acc < 10 ^ pre.length → ∀ n, rest.length < n →
    d_spec_ParseInt_L1 a k n (acc : Int) (pre.length : Int) = (match Lib.decFrom acc rest with | some m => k (m : Int) | none => some (0, false)) := by
  intro rest
  induction rest with
  | nil =>
    intro pre acc h _ n hn
    obtain ⟨m, rfl⟩ : ∃ m, n = m + 1 := ⟨n - 1, by simp at hn; omega⟩
    have e1 : decide ((pre.length : Int) < (a.length : Int)) = false := by simp [h]
    rw [d_spec_ParseInt_L1, e1]; rfl
  | cons x xs ih =>
    intro pre acc h hacc n hn
    obtain ⟨m, rfl⟩ : ∃ m, n = m + 1 := ⟨n - 1, by simp at hn; omega⟩
    have hl : a.length = pre.length + (xs.length + 1) := by rw [h]; simp
    have e1 : decide ((pre.length : Int) < (a.length : Int)) = true := by rw [hl]; simp; omega
    have e4 : IntKind.i64.wrap ((pre.length : Int) + 1) = ((pre ++ [x]).length : Int) := by rw [wrap1 (by omega)]; simp
    have h10 : acc < 10000 := Nat.lt_of_lt_of_le hacc (Nat.pow_le_pow_right (by omega) (show pre.length ≤ 4 by omega))
    have hx := x.toNat_lt
    rw [d_spec_ParseInt_L1, e1, cond_true, atI_mid h, Option.bind_some, e4]
    by_cases c1 : (x.toNat : Int) < 48
    · have : Lib.digitVal x = none := by unfold Lib.digitVal; rw [if_neg (by omega)]
      simp only [Lib.decFrom, this]
      rw [decide_eq_true c1, cond_true]
    · by_cases c2 : (x.toNat : Int) > 57
      · have : Lib.digitVal x = none := by unfold Lib.digitVal; rw [if_neg (by omega)]
        simp only [Lib.decFrom, this]
        rw [decide_eq_false c1, cond_false, decide_eq_true c2, cond_true]
      · have hd : Lib.digitVal x = some (x.toNat - 48) := by unfold Lib.digitVal; rw [if_pos (by omega)]
        have e5 : IntKind.i64.wrap ((IntKind.i64.wrap ((10) * (acc : Int))) + (IntKind.i64.wrap (IntKind.u8.wrap ((x.toNat : Int) - (48))))) = ((acc * 10 + (x.toNat - 48) : Nat) : Int) := by
          rw [wrap_in (k := .u8) (InR.u8.2 (by omega)), wrap_in (n := (10 : Int) * (acc : Int)) (InR.i64.2 (by omega)), wrap_in (n := (x.toNat : Int) - 48) (InR.i64.2 (by omega)), wrap_in (InR.i64.2 (by omega))]
          omega
        simp only [Lib.decFrom, hd]
        rw [decide_eq_false c1, cond_false, decide_eq_false c2, cond_false, e5]
        refine ih (pre ++ [x]) _ (by simp [h]) ?_ m (by simp at hn; omega)
        rw [List.length_append, List.length_singleton, Nat.pow_succ]
        omega
theorem sParse (s : Bytes) : d_spec_ParseInt s = some (pI s) := by
  unfold d_spec_ParseInt
  rw [in_eq, Option.bind_some]
  by_cases hl : 1 ≤ s.length ∧ s.length ≤ 4
  · have e1 : (decide ((s.length : Int) ≥ 1) && decide ((s.length : Int) ≤ 4)) = true := by simp; omega
    have t := sParseL s (fun z => ((d_spec_FormatInt (z)).bind fun y29 => (bif !((y29 : Bytes) == (s)) then (some ((0, false))) else (some ((z, true)))))) hl.2 s [] 0 rfl (by simp) fuel (by unfold fuel; omega)
    rw [e1, Bool.not_true, cond_false]
    refine t.trans ?_
    unfold pI numB
    rw [if_pos hl]
    cases hd : Lib.decFrom 0 s with
    | none => rfl
    | some m =>
      have hm := Lib.decFrom_lt s 0 m hd
      have h10 : m < 10000 := by
        have := Nat.pow_le_pow_right (n := 10) (by omega) hl.2
        omega
      simp only
      rw [sFmt _ (InR.i64.2 (by omega)), Option.bind_some]
      have e2 : Lib.itoa (m : Int) = Lib.decDigits m := by unfold Lib.itoa; rw [if_neg (by omega)]; simp
      rw [e2]
      by_cases he : Lib.decDigits m = s
      · rw [if_pos he, he]; simp
      · rw [if_neg he]
        have : (Lib.decDigits m == s) = false := by simpa using he
        rw [this]; rfl
  · have e1 : (decide ((s.length : Int) ≥ 1) && decide ((s.length : Int) ≤ 4)) = false := by
      rw [Bool.and_eq_false_iff, decide_eq_false_iff_not, decide_eq_false_iff_not]; omega
    rw [e1]
    unfold pI numB
    rw [if_neg hl]
    rfl
theorem iParse (s : Bytes) : d_impl_ParseInt s = some (pI s) := by
  unfold d_impl_ParseInt pI numB
  by_cases hl : 1 ≤ s.length ∧ s.length ≤ 4
  · have e1 : decide ((s.length : Int) < 1) = false := by simp; omega
    have e2 : decide ((s.length : Int) > 4) = false := by simp; omega
    rw [if_pos hl, e1, cond_false, e2, cond_false]
    unfold d_strconv_Atoi l_Atoi
    rw [if_pos (by omega)]
    cases s with
    | nil => simp at hl
    | cons b t =>
      have fin : ∀ (m : Nat), Lib.decFrom 0 (b :: t) = some m → (bif decide ((m : Int) < 0) then some ((0 : Int), false) else bif decide ((m : Int) > 9999) then some (0, false) else (d_impl_FormatInt (m : Int)).bind fun y8 => bif !((y8 : Bytes) == (b :: t)) then some (0, false) else some ((m : Int), true)) =
          some (match (if Lib.decDigits m = b :: t then some m else none) with | some n => ((n : Int), true) | none => (0, false)) := by
        intro m hd
        have hm := Lib.decFrom_lt (b :: t) 0 m hd
        have h10 : m < 10000 := by
          have := Nat.pow_le_pow_right (n := 10) (by omega) hl.2
          omega
        have e3 : decide ((m : Int) < 0) = false := by simp
        have e4 : decide ((m : Int) > 9999) = false := by simp; omega
        have e5 : Lib.itoa (m : Int) = Lib.decDigits m := by unfold Lib.itoa; rw [if_neg (by omega)]; simp
        rw [e3, cond_false, e4, cond_false, iFmt, Option.bind_some, e5]
        by_cases he : Lib.decDigits m = b :: t
        · rw [if_pos he, he]; simp
        · rw [if_neg he]
          have : (Lib.decDigits m == (b :: t)) = false := by simpa using he
          rw [this]; rfl
      have sign : ∀ (n : Int), b.toNat < 48 → (bif decide (n < 0) then some ((0 : Int), false) else bif decide (n > 9999) then some (0, false) else (d_impl_FormatInt n).bind fun y8 => bif !((y8 : Bytes) == (b :: t)) then some (0, false) else some (n, true)) = some (0, false) := by
        intro n hb
        by_cases hn : n < 0
        · rw [decide_eq_true hn]; rfl
        rw [decide_eq_false hn, cond_false, iFmt, Option.bind_some]
        cases decide (n > 9999) with
        | true => rfl
        | false =>
          have e5 : Lib.itoa n = Lib.decDigits n.toNat := by unfold Lib.itoa; rw [if_neg hn]
          have : (Lib.itoa n == (b :: t)) = false := by
            rw [e5, beq_eq_false_iff_ne]
            intro h
            have := dig_byte n.toNat b (by rw [h]; simp)
            omega
          rw [this]; rfl
      simp only [Lib.atoi]
      by_cases hb : b = 45
      · subst hb
        have hd : Lib.decFrom 0 ((45 : UInt8) :: t) = none := by simp [Lib.decFrom, Lib.digitVal]
        rw [if_pos (by decide), hd]
        cases Lib.decNat t with
        | none => rfl
        | some m => exact sign _ (by decide)
      · rw [if_neg (by simpa using hb)]
        by_cases hb2 : b = 43
        · subst hb2
          have hd : Lib.decFrom 0 ((43 : UInt8) :: t) = none := by simp [Lib.decFrom, Lib.digitVal]
          rw [if_pos (by decide), hd]
          cases Lib.decNat t with
          | none => rfl
          | some m => exact sign (m : Int) (by decide)
        · rw [if_neg (by simpa using hb2)]
          have hdn : Lib.decNat (b :: t) = Lib.decFrom 0 (b :: t) := by simp [Lib.decNat]
          rw [hdn]
          cases hd : Lib.decFrom 0 (b :: t) with
          | none => rfl
          | some m => exact fin m hd
  · rw [if_neg hl]
    by_cases h1 : (s.length : Int) < 1
    · rw [decide_eq_true h1]; rfl
    · have h2 : (s.length : Int) > 4 := by omega
      rw [decide_eq_false h1, cond_false, decide_eq_true h2]; rfl
/-! orders -/
def cmpT (a b : Bytes) : Int := if Op.bytesLess a b = true then -1 else if a = b then 0 else 1
def cmpN (x y : Int) : Int := if x < y then -1 else if x > y then 1 else 0
def cmpA (a b : Bytes) : Int := match numB a, numB b with
  | some x, some y => cmpN x y
  | some _, none => -1
  | none, some _ => 1
  | none, none => cmpT a b
def diffL {α : Type} (g : α → α → Int) : List α → List α → Option Int
  | x :: xs, y :: ys => if g x y ≠ 0 then some (g x y) else diffL g xs ys
  | _, _ => none
def cmpL {α : Type} (g : α → α → Int) (a b : List α) : Int := match diffL g a b with | some z => z | none => cmpN a.length b.length
def cmpF (a b : Fact) : Int := if a.rel ≠ b.rel then cmpT a.rel b.rel else cmpL cmpA a.args b.args
theorem cmpT_ne {a b : Bytes} (h : a ≠ b) : cmpT a b ≠ 0 := by
  unfold cmpT
  split
  · omega
  · first | omega | (rw [if_neg h]; omega)
theorem cmpT_self (a : Bytes) : cmpT a a = 0 := by
  unfold cmpT
  rw [bl_irrefl]; simp
theorem cmpB_eq : ∀ (a b : Bytes), Lib.compareBytes a b = cmpT a b
  | [], [] => by simp [Lib.compareBytes, cmpT, Op.bytesLess]
  | [], _ :: _ => by simp [Lib.compareBytes, cmpT, Op.bytesLess]
  | _ :: _, [] => by simp [Lib.compareBytes, cmpT, Op.bytesLess]
  | a :: xs, b :: ys => by
    have ih := cmpB_eq xs ys
    simp only [Lib.compareBytes, cmpT, Op.bytesLess]
    by_cases h1 : a < b
    · simp [h1]
    · by_cases h2 : b < a
      · have hne : a ≠ b := fun e => by subst e; exact h1 h2
        simp [h1, h2, hne]
      · have e : a = b := by
          rw [UInt8.lt_iff_toNat_lt] at h1 h2
          exact UInt8.toNat_inj.1 (by omega)
        subst e
        rw [if_neg h1, if_neg h1, ih]
        simp [cmpT, h1]
theorem cmpLoop {α : Type} {f : α → α → Option Int} {g : α → α → Int} {c : α → List D} {L : List α → Nat → Option Int} {k : Option Int} {b : List α} (hnil : ∀ i, L [] i = k)
    (hcons : ∀ x xs i, L (x :: xs) i = bif decide (((i : Int) : Int) < (((b.map c).length : Int))) then ((atI b ((i : Int))).bind fun y => ((f x y).bind fun z => (bif (z : Int) != (0) then (some z) else (L xs (i + 1))))) else k) :
    ∀ (l pre rest : List α), b = pre ++ rest → (∀ x ∈ l, ∀ y ∈ rest, f x y = some (g x y)) → L l pre.length = (match diffL g l rest with | some z => some z | none => k) := by
  intro l
  induction l with
  | nil => intro pre rest h _; rw [hnil]; cases rest <;> rfl
  | cons x xs ih =>
    intro pre rest h hf
    rw [hcons]
    cases rest with
    | nil =>
      have e1 : decide ((pre.length : Int) < ((b.map c).length : Int)) = false := by simp [h]
      rw [e1]; rfl
    | cons y ys =>
      have e1 : decide ((pre.length : Int) < ((b.map c).length : Int)) = true := by simp [h]; omega
      rw [e1, cond_true, atI_mid h, Option.bind_some, hf x (by simp) y (by simp), Option.bind_some]
      simp only [diffL]
      have t := ih (pre ++ [y]) ys (by simp [h]) (fun x' hx y' hy => hf x' (by simp [hx]) y' (by simp [hy]))
      rw [List.length_append, List.length_singleton] at t
      by_cases hz : g x y = 0
      · have e2 : (g x y != 0) = false := by simp [hz]
        rw [e2, cond_false, t, if_neg (by simp [hz])]
      · have e2 : (g x y != 0) = true := by simp [hz]
        rw [e2, cond_true, if_pos hz]
theorem cmpN_eq (x y : Int) : (bif decide (x < y) then some (-1 : Int) else bif decide (x > y) then some 1 else some 0) = some (cmpN x y) := by
  unfold cmpN
  by_cases h1 : x < y
  · simp [h1]
  · by_cases h2 : x > y
    · simp [h1, h2]
    · simp [h1, h2]
theorem sCmpT (a b : Bytes) : d_spec_l1Cmp a b = some (cmpT a b) := by
  unfold d_spec_l1Cmp cmpT
  cases h : Op.bytesLess a b with
  | true => rfl
  | false =>
    by_cases e : a = b
    · simp [e]
    · have e' : (a == b) = false := by simpa using e
      simp [e, e']
theorem sCmpA (a b : Bytes) : d_spec_CompareAtoms a b = some (cmpA a b) := by
  unfold d_spec_CompareAtoms cmpA
  rw [sParse, sParse, Option.bind_some, Option.bind_some, sCmpT]
  unfold pI
  cases numB a with
  | none => cases numB b <;> rfl
  | some x =>
    cases numB b with
    | none => rfl
    | some y =>
      simp only [cond_true, Bool.not_true, cond_false]
      exact cmpN_eq _ _
theorem iCmpN (x y : Int) : d_impl_compareInts x y = some (cmpN x y) := by
  unfold d_impl_compareInts
  exact cmpN_eq x y
theorem iCmpB (a b : Bytes) : d_strings_Compare a b = some (cmpT a b) := by
  unfold d_strings_Compare
  show some (Lib.compareBytes a b) = _
  rw [cmpB_eq]
theorem iCmpA (a b : Bytes) : d_impl_CompareAtoms a b = some (cmpA a b) := by
  unfold d_impl_CompareAtoms cmpA
  rw [iParse, iParse, Option.bind_some, Option.bind_some, iCmpB]
  unfold pI
  cases numB a with
  | none => cases numB b <;> rfl
  | some x =>
    cases numB b with
    | none => rfl
    | some y =>
      simp only [cond_true, iCmpN, Option.bind_some]
theorem sCmpF (a b : Fact) : d_spec_CompareFacts a b = some (cmpF a b) := by
  unfold d_spec_CompareFacts cmpF
  by_cases h : a.rel = b.rel
  · have e : (a.rel == b.rel) = true := by simpa using h
    rw [e, Bool.not_true, cond_false, if_neg (by simpa using h)]
    have t := fun k => cmpLoop (f := d_spec_CompareAtoms) (g := cmpA) (c := tx) (L := d_spec_CompareFacts_L1 a b k) (b := b.args) (k := k) (fun _ => rfl) (fun _ _ _ => rfl) a.args [] b.args rfl (fun x _ y _ => sCmpA x y)
    refine (t _).trans ?_
    unfold cmpL
    cases diffL cmpA a.args b.args with
    | some z => rfl
    | none => simp only [List.length_map]; exact cmpN_eq _ _
  · have e : (a.rel == b.rel) = false := by simpa using h
    rw [e, Bool.not_false, cond_true, if_pos h, sCmpT]; rfl
theorem iCmpF (a b : Fact) : d_impl_CompareFacts a b = some (cmpF a b) := by
  unfold d_impl_CompareFacts cmpF
  rw [iCmpB, Option.bind_some]
  by_cases h : a.rel = b.rel
  · have e : (cmpT a.rel b.rel != 0) = false := by rw [h, cmpT_self]; rfl
    rw [e, cond_false, if_neg (by simpa using h)]
    have t := fun k => cmpLoop (f := d_impl_CompareAtoms) (g := cmpA) (c := tx) (L := d_impl_CompareFacts_L1 a b k) (b := b.args) (k := k) (fun _ => rfl) (fun _ _ _ => rfl) a.args [] b.args rfl (fun x _ y _ => iCmpA x y)
    refine (t _).trans ?_
    unfold cmpL
    cases diffL cmpA a.args b.args with
    | some z => rfl
    | none => simp only [List.length_map, iCmpN, Option.bind_some]
  · have e : (cmpT a.rel b.rel != 0) = true := by simpa using cmpT_ne h
    rw [e, cond_true, if_pos h]
/-! fact sets -/
def chainB : Option Fact → List Fact → Bool
  | _, [] => true
  | p, x :: xs => factB x && (match p with | some q => decide (cmpF q x < 0) | none => true) && chainB (some x) xs
def areFB (l : List Fact) : Bool := chainB none l && decide (l.length ≤ 24)
theorem chainLoop {isF : Fact → Option Bool} {cmp : Fact → Fact → Option Int} {a : List Fact} {L : List Fact → Nat → Option Bool} {k : Option Bool} (ha : a.length ≤ 1099511627770) (hc : ∀ x y, cmp x y = some (cmpF x y)) (hnil : ∀ i, L [] i = k)
    (hcons : ∀ x xs i, L (x :: xs) i = ((isF x).bind fun y => (bif !(y) then (some (false)) else (bif decide (((i : Int) : Int) > (0)) then ((atI a (IntKind.i64.wrap (((i : Int)) - (1)))).bind fun q => ((cmp q x).bind fun z => (bif decide ((z : Int) ≥ (0)) then (some (false)) else (L xs (i + 1) )))) else (L xs (i + 1) ))))) :
    ∀ (l pre : List Fact), a = pre ++ l → (∀ x ∈ l, isF x = some (factB x)) → L l pre.length = bif chainB pre.getLast? l then k else some false := by
  intro l
  induction l with
  | nil => intro pre _ _; rw [hnil]; rfl
  | cons x xs ih =>
    intro pre h hf
    have hl : a.length = pre.length + (xs.length + 1) := by rw [h]; simp
    have t := ih (pre ++ [x]) (by simp [h]) (fun y hy => hf y (by simp [hy]))
    rw [List.length_append, List.length_singleton, List.getLast?_concat] at t
    rw [hcons, hf x (by simp), Option.bind_some, t]
    simp only [chainB]
    cases factB x with
    | false => rfl
    | true =>
      rw [Bool.not_true, cond_false, Bool.true_and]
      rcases List.eq_nil_or_concat pre with rfl | ⟨p, z, hpz⟩
      · simp
      · rw [List.concat_eq_append] at hpz
        subst hpz
        have e0 : decide ((((p ++ [z]).length : Int)) > 0) = true := by simp <;> omega
        have e1 : IntKind.i64.wrap ((((p ++ [z]).length : Int)) - 1) = (p.length : Int) := by
          rw [wrap_in (InR.i64.2 (by simp at hl ⊢; omega))]; simp
        have e2 : atI a (p.length : Int) = some z := atI_mid (xs := x :: xs) (by rw [h]; simp)
        rw [e0, cond_true, e1, e2, Option.bind_some, hc, Option.bind_some, List.getLast?_concat]
        by_cases hz : cmpF z x < 0
        · have e3 : decide (cmpF z x ≥ 0) = false := by simp; omega
          rw [e3, cond_false]
          show _ = bif (decide (cmpF z x < 0) && chainB (some x) xs) then k else some false
          rw [decide_eq_true hz, Bool.true_and]
        · have e3 : decide (cmpF z x ≥ 0) = true := by simp; omega
          rw [e3, cond_true]
          show _ = bif (decide (cmpF z x < 0) && chainB (some x) xs) then k else some false
          rw [decide_eq_false hz]; rfl
theorem iAreF (l : List Fact) (h : wtL Fact.wt l ≤ 1048576) : d_impl_AreFacts l = some (areFB l) := by
  unfold d_impl_AreFacts areFB
  have hl := wtL_len Fact.wt l
  have t := chainLoop (isF := d_impl_IsFact) (cmp := d_impl_CompareFacts) (a := l) (L := d_impl_AreFacts_L1 l (some true)) (k := _) (by omega) iCmpF (fun _ => rfl) (fun _ _ _ => rfl) l [] rfl (fun x hx => iFact x (by have := wtL_mem (w := Fact.wt) hx; omega))
  rw [show d_impl_AreFacts_L1 l (some true) l 0 = _ from t]
  by_cases h24 : l.length ≤ 24
  · have e : decide ((((l.map Fact.c).length : Int)) > 24) = false := by rw [List.length_map]; simp; omega
    rw [e, cond_false, decide_eq_true h24, Bool.and_true]
    show (bif chainB none l then _ else _) = _
    cases chainB none l <;> rfl
  · have e : decide ((((l.map Fact.c).length : Int)) > 24) = true := by rw [List.length_map]; simp; omega
    rw [e, cond_true, decide_eq_false h24, Bool.and_false]
end Go.Cx
