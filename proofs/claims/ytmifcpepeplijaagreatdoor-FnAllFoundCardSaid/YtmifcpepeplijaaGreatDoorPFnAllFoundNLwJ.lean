import Derived.Test.YtmifcpepeplijaaGreatDoorPFnAllFoundNPl
import Derived.Test.YtmifcpepeplijaaGreatDoorPFnAllFoundNFn2
import Derived.Sort.Walk0
import Derived.Lib.ItoaNum
import Derived.Lib.ItoaLen
import Derived.Lib.Atoi
/- Chapter 1 in plain words: what the functions on texts and lists of texts compute, of the program and of the reference. No condition but bounds on lengths. -/
namespace Go.Cx
open Go.RowKit Go.Proofs
set_option linter.unusedVariables false
set_option linter.unusedSimpArgs false
theorem atI_mid {α : Type} {a pre xs : List α} {x : α} (h : a = pre ++ x :: xs) : atI a (pre.length : Int) = some x := by
  unfold atI
  have : a[pre.length]? = some x := by rw [h]; simp
  simp [this]
theorem roomK {n b : Nat} (hn : n ≤ 1099511627776) (hb : b ≤ 128) : room n b = true := by
  unfold room maxLen
  have : n * b ≤ 1099511627776 * 128 := Nat.mul_le_mul hn hb
  simp
  omega
theorem room1 {α : Type} {w : List α} {c : α → List D} {y : List D} {b : Nat} (h : w.length < 1099511627776) (hb : b ≤ 128) : room ((w.map c).length + ([y]).length) b = true := roomK (by simp; omega) hb
theorem roomA {α β : Type} {w : List α} {v : List β} {c : α → List D} {d : β → List D} {b : Nat} (h : w.length + v.length ≤ 1099511627776) (hb : b ≤ 128) : room ((w.map c).length + (v.map d).length) b = true := roomK (by simp; omega) hb
theorem room0 {β : Type} {v : List β} {d : β → List D} {b : Nat} (h : v.length ≤ 1099511627776) (hb : b ≤ 128) : room ((([] : List (List D))).length + (v.map d).length) b = true := roomK (by simp; omega) hb
theorem lenOk {α : Type} {l : List α} (h : l.length ≤ 1099511627776) : decide (l.length ≤ maxLen) = true := by unfold maxLen; simp; omega
/-- loops that hand on f x, one element a round -/
theorem mapL {α β γ : Type} {c : β → List D} {b : Nat} {f : α → Option β} {g : α → β} {L : List α → Nat → List β → Option γ} {k : List β → Option γ} (hb : b ≤ 128) (hnil : ∀ i w, L [] i w = k w)
    (hcons : ∀ x xs i w, L (x :: xs) i w = (f x).bind fun y => bif room ((w.map c).length + ([c y]).length) b then L xs (i + 1) (w ++ [y]) else none) :
    ∀ (l : List α) (i : Nat) (w : List β), (∀ x ∈ l, f x = some (g x)) → w.length + l.length ≤ 1099511627776 → L l i w = k (w ++ l.map g) := by
  intro l
  induction l with
  | nil => intro i w _ _; simp [hnil]
  | cons x xs ih =>
    intro i w hf hl
    simp only [List.length_cons] at hl
    rw [hcons, hf x (by simp), Option.bind_some, room1 (by omega) hb, cond_true, ih _ _ (fun y hy => hf y (by simp [hy])) (by simp; omega)]
    simp
/-- loops that stop with false at the first element that does not fit -/
theorem allL {α : Type} {f : α → Option Bool} {p : α → Bool} {L : List α → Nat → Option Bool} {k : Option Bool} (hnil : ∀ i, L [] i = k)
    (hcons : ∀ x xs i, L (x :: xs) i = (f x).bind fun y => bif !y then some false else L xs (i + 1)) : ∀ (l : List α) (i : Nat), (∀ x ∈ l, f x = some (p x)) → L l i = bif l.all p then k else some false := by
  intro l
  induction l with
  | nil => intro i _; simp [hnil]
  | cons x xs ih =>
    intro i hf
    rw [hcons, hf x (by simp), Option.bind_some, ih _ (fun y hy => hf y (by simp [hy])), List.all_cons]
    cases p x <;> simp
/-! the order of texts -/
theorem bl_irrefl : ∀ (a : Bytes), Op.bytesLess a a = false
  | [] => rfl
  | x :: a => by simp [Op.bytesLess, bl_irrefl a]
theorem bl_trans : ∀ {a b c : Bytes}, Op.bytesLess a b = true → Op.bytesLess b c = true → Op.bytesLess a c = true
  | [], b, [], _, h2 => by cases b <;> simp [Op.bytesLess] at h2
  | [], b, _ :: _, _, _ => by simp [Op.bytesLess]
  | _ :: _, [], _, h1, _ => by simp [Op.bytesLess] at h1
  | _ :: _, _ :: _, [], _, h2 => by simp [Op.bytesLess] at h2
  | x :: a, y :: b, z :: c, h1, h2 => by
    simp only [Op.bytesLess, Bool.or_eq_true, decide_eq_true_eq, Bool.and_eq_true, beq_iff_eq] at h1 h2 ⊢
    rcases h1 with h1 | ⟨rfl, h1⟩
    · rcases h2 with h2 | ⟨rfl, h2⟩
      · exact .inl (UInt8.lt_trans h1 h2)
      · exact .inl h1
    · rcases h2 with h2 | ⟨rfl, h2⟩
      · exact .inl h2
      · exact .inr ⟨rfl, bl_trans h1 h2⟩
theorem bl_tri : ∀ {a b : Bytes}, Op.bytesLess a b = false → Op.bytesLess b a = false → a = b
  | [], [], _, _ => rfl
  | [], _ :: _, h, _ => by simp [Op.bytesLess] at h
  | _ :: _, [], _, h => by simp [Op.bytesLess] at h
  | x :: a, y :: b, h1, h2 => by
    simp only [Op.bytesLess, Bool.or_eq_false_iff, decide_eq_false_iff_not, Bool.and_eq_false_iff, beq_eq_false_iff_ne, ne_eq] at h1 h2
    have e : x = y := by
      have h3 := h1.1; have h4 := h2.1
      rw [UInt8.lt_iff_toNat_lt] at h3 h4
      exact UInt8.toNat_inj.1 (by omega)
    subst e
    rw [bl_tri (h1.2.resolve_left (by simp)) (h2.2.resolve_left (by simp))]
theorem bl_asymm {a b : Bytes} (h : Op.bytesLess a b = true) : Op.bytesLess b a = false := by
  cases hb : Op.bytesLess b a with
  | false => rfl
  | true => have := bl_trans h hb; rw [bl_irrefl] at this; cases this
/-! ascending lists without repetition -/
def SS (l : List Bytes) : Prop := l.Pairwise fun a b => Op.bytesLess a b = true
theorem SS_unique : ∀ {a b : List Bytes}, SS a → SS b → (∀ x, x ∈ a ↔ x ∈ b) → a = b
  | [], [], _, _, _ => rfl
  | [], y :: b, _, _, h => by have := (h y).2 (by simp); cases this
  | x :: a, [], _, _, h => by have := (h x).1 (by simp); cases this
  | x :: a, y :: b, h1, h2, h => by
    obtain ⟨p1, p2⟩ := List.pairwise_cons.1 h1
    obtain ⟨q1, q2⟩ := List.pairwise_cons.1 h2
    have e : x = y := by
      refine bl_tri ?_ ?_
      · cases hb : Op.bytesLess x y with
        | false => rfl
        | true =>
          rcases List.mem_cons.1 ((h x).1 (by simp)) with rfl | hx
          · exact (bl_irrefl x ▸ hb).symm
          · have := bl_asymm (q1 x hx); rw [hb] at this; exact this
      · cases hb : Op.bytesLess y x with
        | false => rfl
        | true =>
          rcases List.mem_cons.1 ((h y).2 (by simp)) with rfl | hx
          · exact (bl_irrefl y ▸ hb).symm
          · have := bl_asymm (p1 y hx); rw [hb] at this; exact this
    subst e
    rw [SS_unique p2 q2 (fun z => ?_)]
    constructor
    · intro hz
      rcases List.mem_cons.1 ((h z).1 (by simp [hz])) with rfl | hz'
      · have := p1 z hz; rw [bl_irrefl] at this; cases this
      · exact hz'
    · intro hz
      rcases List.mem_cons.1 ((h z).2 (by simp [hz])) with rfl | hz'
      · have := q1 z hz; rw [bl_irrefl] at this; cases this
      · exact hz'
def putB : List Bytes → Bytes → List Bytes
  | [], s => [s]
  | x :: xs, s => bif Op.bytesLess x s then x :: putB xs s else bif x == s then x :: xs else s :: x :: xs
theorem mem_putB : ∀ {l : List Bytes} {s y : Bytes}, y ∈ putB l s ↔ y = s ∨ y ∈ l
  | [], s, y => by simp [putB]
  | x :: xs, s, y => by
    simp only [putB]
    cases Op.bytesLess x s with
    | true => simp only [cond_true, List.mem_cons, mem_putB (l := xs)]; constructor <;> (rintro (h | h | h) <;> simp [h])
    | false =>
      simp only [cond_false]
      cases hx : x == s with
      | true =>
        simp only [beq_iff_eq] at hx
        subst hx
        simp
      | false => simp
theorem ss_putB : ∀ {l : List Bytes} {s : Bytes}, SS l → SS (putB l s)
  | [], s, _ => by simp [putB, SS]
  | x :: xs, s, h => by
    obtain ⟨p1, p2⟩ := List.pairwise_cons.1 h
    simp only [putB]
    cases hb : Op.bytesLess x s with
    | true =>
      simp only [cond_true]
      refine List.pairwise_cons.2 ⟨fun y hy => ?_, ss_putB p2⟩
      rcases mem_putB.1 hy with rfl | hy
      · exact hb
      · exact p1 y hy
    | false =>
      simp only [cond_false]
      cases hx : x == s with
      | true => exact h
      | false =>
        have hs : Op.bytesLess s x = true := by
          cases hc : Op.bytesLess s x with
          | true => rfl
          | false => have := bl_tri hb hc; subst this; simp at hx
        refine List.pairwise_cons.2 ⟨fun y hy => ?_, h⟩
        rcases List.mem_cons.1 hy with rfl | hy
        · exact hs
        · exact bl_trans hs (p1 y hy)
theorem len_putB : ∀ (l : List Bytes) (s : Bytes), (putB l s).length ≤ l.length + 1
  | [], s => by simp [putB]
  | x :: xs, s => by
    have := len_putB xs s
    simp only [putB]
    cases Op.bytesLess x s <;> simp only [cond_true, cond_false, List.length_cons]
    · cases x == s <;> simp
    · omega
/-- the different texts of a list, ascending -/
def uniqS (l : List Bytes) : List Bytes := l.foldl putB []
theorem foldl_putB_mem : ∀ (l a : List Bytes) (y : Bytes), y ∈ l.foldl putB a ↔ y ∈ a ∨ y ∈ l
  | [], a, y => by simp
  | x :: l, a, y => by
    rw [List.foldl_cons, foldl_putB_mem l, mem_putB]
    simp only [List.mem_cons]
    constructor
    · rintro ((h | h) | h) <;> simp [h]
    · rintro (h | h | h) <;> simp [h]
theorem foldl_putB_ss : ∀ (l : List Bytes) {a : List Bytes}, SS a → SS (l.foldl putB a)
  | [], a, h => h
  | x :: l, a, h => foldl_putB_ss l (ss_putB h)
theorem foldl_putB_len : ∀ (l a : List Bytes), (l.foldl putB a).length ≤ a.length + l.length
  | [], a => by simp
  | x :: l, a => by
    have h1 := foldl_putB_len l (putB a x)
    have h2 := len_putB a x
    rw [List.foldl_cons, List.length_cons]; omega
theorem mem_uniqS {l : List Bytes} {y : Bytes} : y ∈ uniqS l ↔ y ∈ l := by unfold uniqS; rw [foldl_putB_mem]; simp
theorem ss_uniqS (l : List Bytes) : SS (uniqS l) := foldl_putB_ss l (by simp [SS])
theorem len_uniqS (l : List Bytes) : (uniqS l).length ≤ l.length := by have := foldl_putB_len l []; simpa [uniqS] using this
theorem uniqS_congr {a b : List Bytes} (h : ∀ x, x ∈ a ↔ x ∈ b) : uniqS a = uniqS b := SS_unique (ss_uniqS a) (ss_uniqS b) (fun x => by rw [mem_uniqS, mem_uniqS, h])
theorem uniqS_snoc (a : List Bytes) (x : Bytes) : putB (uniqS a) x = uniqS (a ++ [x]) := by simp [uniqS]
theorem uniqS_fold (a b : List Bytes) : b.foldl putB (uniqS a) = uniqS (a ++ b) := by simp [uniqS]
theorem uniqS_fold2 (a b : List Bytes) : (uniqS b).foldl putB (uniqS a) = uniqS (a ++ b) := by
  rw [uniqS_fold]
  exact uniqS_congr (fun x => by simp [mem_uniqS])
theorem contains_uniqS (l : List Bytes) (v : Bytes) : (uniqS l).contains v = l.contains v := by
  rw [Bool.eq_iff_iff]
  simp [mem_uniqS]
/-! atoms, names, variables -/
def in1 (x : UInt8) : Bool := decide ((x.toNat : Int) ≥ 97) && decide ((x.toNat : Int) ≤ 122)
def in2 (x : UInt8) : Bool := decide ((x.toNat : Int) ≥ 48) && decide ((x.toNat : Int) ≤ 57)
def ab (x : UInt8) : Bool := in1 x || in2 x
def lenB (s : Bytes) : Bool := decide ((s.length : Int) ≥ 1) && decide ((s.length : Int) ≤ 8)
def atomB (s : Bytes) : Bool := s.all ab && lenB s
def headB : Bytes → Bool
  | [] => false
  | x :: _ => decide ((x.toNat : Int) ≥ 97)
def nameB (s : Bytes) : Bool := atomB s && headB s
def varB : Bytes → Bool
  | [] => false
  | x :: t => decide ((x.toNat : Int) = 63) && atomB t
def termB (s : Bytes) : Bool := atomB s || varB s
theorem var_not_atom {s : Bytes} (h : varB s = true) : atomB s = false := by
  cases s with
  | nil => cases h
  | cons x t =>
    simp only [varB, Bool.and_eq_true, decide_eq_true_eq] at h
    simp only [atomB, List.all_cons, ab, in1, in2]
    have : (x.toNat : Int) = 63 := h.1
    simp [this]
theorem wrapB (x : UInt8) : IntKind.i64.wrap ((x.toNat : Nat) : Int) = (x.toNat : Int) := wrap_in (InR.i64.2 (by have := x.toNat_lt; omega))
theorem wrap1 {n : Nat} (h : n ≤ 1099511627776) : IntKind.i64.wrap ((n : Int) + 1) = ((n + 1 : Nat) : Int) := by rw [wrap_in (InR.i64.2 (by omega))]; omega
theorem pcut1 {n : Nat} (h : 1 ≤ n) : pcut n (some (D.int .i64 1)) none = some (1, n) := by
  unfold pcut
  have : (0 : Int) ≤ 1 ∧ (1 : Int).toNat ≤ n := ⟨by decide, h⟩
  simp only [if_pos this]
  rfl
theorem in_eq (a b c : Int) : d_spec_l1In a b c = some (decide (a ≥ b) && decide (a ≤ c)) := by
  unfold d_spec_l1In
  cases decide (a ≥ b) <;> rfl
theorem sAtomL (a : Bytes) (k : Option Bool) (ha : a.length ≤ 1048576) : ∀ (rest pre : Bytes), a = pre ++ rest → ∀ n, rest.length < n → d_spec_IsAtom_L1 a k n (pre.length : Int) = bif rest.all ab then k else some false := by
  intro rest
  induction rest with
  | nil =>
    intro pre h n hn
    obtain ⟨m, rfl⟩ : ∃ m, n = m + 1 := ⟨n - 1, by simp at hn; omega⟩
    have e1 : decide ((pre.length : Int) < (a.length : Int)) = false := by simp [h]
    rw [d_spec_IsAtom_L1, e1]; rfl
  | cons x xs ih =>
    intro pre h n hn
    obtain ⟨m, rfl⟩ : ∃ m, n = m + 1 := ⟨n - 1, by simp at hn; omega⟩
    have hl : a.length = pre.length + (xs.length + 1) := by rw [h]; simp
    have e1 : decide ((pre.length : Int) < (a.length : Int)) = true := by rw [hl]; simp; omega
    have e4 : IntKind.i64.wrap ((pre.length : Int) + 1) = ((pre ++ [x]).length : Int) := by rw [wrap1 (by omega)]; simp
    have t := ih (pre ++ [x]) (by simp [h]) m (by simp at hn; omega)
    rw [d_spec_IsAtom_L1, e1, cond_true, atI_mid h, Option.bind_some, wrapB, in_eq, in_eq, Option.bind_some, Option.bind_some, e4, t, List.all_cons]
    show (bif !in1 x then (bif !in2 x then _ else _) else _) = bif (in1 x || in2 x) && xs.all ab then k else some false
    cases in1 x <;> cases in2 x <;> simp
theorem sAtom (a : Bytes) (ha : a.length ≤ 1048576) : d_spec_IsAtom a = some (atomB a) := by
  unfold d_spec_IsAtom
  refine (sAtomL a _ ha a [] rfl fuel (by unfold fuel; omega)).trans ?_
  rw [in_eq, Option.bind_some]
  show _ = some (a.all ab && lenB a)
  cases a.all ab <;> rfl
theorem iAtomL (a : Bytes) (k : Option Bool) (ha : a.length ≤ 1048576) : ∀ (rest pre : Bytes), a = pre ++ rest → ∀ n, rest.length < n → d_impl_IsAtom_L1 a k n (pre.length : Int) = bif rest.all ab then k else some false := by
  intro rest
  induction rest with
  | nil =>
    intro pre h n hn
    obtain ⟨m, rfl⟩ : ∃ m, n = m + 1 := ⟨n - 1, by simp at hn; omega⟩
    have e1 : decide ((pre.length : Int) < (a.length : Int)) = false := by simp [h]
    rw [d_impl_IsAtom_L1, e1]; rfl
  | cons x xs ih =>
    intro pre h n hn
    obtain ⟨m, rfl⟩ : ∃ m, n = m + 1 := ⟨n - 1, by simp at hn; omega⟩
    have hl : a.length = pre.length + (xs.length + 1) := by rw [h]; simp
    have e1 : decide ((pre.length : Int) < (a.length : Int)) = true := by rw [hl]; simp; omega
    have e4 : IntKind.i64.wrap ((pre.length : Int) + 1) = ((pre ++ [x]).length : Int) := by rw [wrap1 (by omega)]; simp
    have t := ih (pre ++ [x]) (by simp [h]) m (by simp at hn; omega)
    rw [d_impl_IsAtom_L1, e1, cond_true, atI_mid h, Option.bind_some, e4, t, List.all_cons]
    have c1 : decide ((x.toNat : Int) ≥ 97) = !decide ((x.toNat : Int) < 97) := by rw [Bool.eq_iff_iff]; simp
    have c2 : decide ((x.toNat : Int) ≤ 122) = !decide ((x.toNat : Int) > 122) := by rw [Bool.eq_iff_iff]; simp
    have c3 : decide ((x.toNat : Int) ≥ 48) = !decide ((x.toNat : Int) < 48) := by rw [Bool.eq_iff_iff]; simp
    have c4 : decide ((x.toNat : Int) ≤ 57) = !decide ((x.toNat : Int) > 57) := by rw [Bool.eq_iff_iff]; simp
    rw [ab, in1, in2, c1, c2, c3, c4]
    cases decide ((x.toNat : Int) < 97) <;> cases decide ((x.toNat : Int) > 122) <;> cases decide ((x.toNat : Int) < 48) <;> cases decide ((x.toNat : Int) > 57) <;> simp
theorem iAtom (a : Bytes) (ha : a.length ≤ 1048576) : d_impl_IsAtom a = some (atomB a) := by
  unfold d_impl_IsAtom
  rw [show d_impl_IsAtom_L1 a (some true) fuel 0 = _ from iAtomL a _ ha a [] rfl fuel (by unfold fuel; omega)]
  have c1 : decide ((a.length : Int) ≥ 1) = !decide ((a.length : Int) < 1) := by rw [Bool.eq_iff_iff]; simp
  have c2 : decide ((a.length : Int) ≤ 8) = !decide ((a.length : Int) > 8) := by rw [Bool.eq_iff_iff]; simp
  rw [atomB, lenB, c1, c2]
  cases decide ((a.length : Int) < 1) <;> cases decide ((a.length : Int) > 8) <;> cases a.all ab <;> rfl
theorem sName (a : Bytes) (ha : a.length ≤ 1048576) : d_spec_IsName a = some (nameB a) := by
  unfold d_spec_IsName
  rw [sAtom a ha, Option.bind_some, nameB]
  cases h : atomB a with
  | false => rfl
  | true =>
    cases a with
    | nil => simp [atomB, lenB] at h
    | cons x xs =>
      rw [show atI (x :: xs) 0 = some x from rfl]
      simp only [cond_true, Option.bind_some, wrapB, in_eq, Bool.true_and, Option.some.injEq, headB]
      simp only [atomB, List.all_cons, ab, in1, in2, Bool.and_eq_true, Bool.or_eq_true, decide_eq_true_eq] at h
      rw [Bool.eq_iff_iff]
      simp only [Bool.and_eq_true, decide_eq_true_eq]
      omega
theorem iName (a : Bytes) (ha : a.length ≤ 1048576) : d_impl_IsName a = some (nameB a) := by
  unfold d_impl_IsName
  rw [iAtom a ha, Option.bind_some, nameB]
  cases h : atomB a with
  | false => rfl
  | true =>
    cases a with
    | nil => simp [atomB, lenB] at h
    | cons x xs => rfl
theorem sVar (a : Bytes) (ha : a.length ≤ 1048576) : d_spec_IsVar a = some (varB a) := by
  unfold d_spec_IsVar
  cases a with
  | nil => rfl
  | cons x t =>
    simp only [List.length_cons] at ha
    rw [show atI (x :: t) 0 = some x from rfl, Option.bind_some, pcut1 (by simp), Option.bind_some]
    have e : (((x :: t).take ((x :: t).length)).drop 1) = t := by simp
    simp only [e, sAtom t (by omega), Option.bind_some, varB, beq_dec]
    cases t with
    | nil => cases decide ((x.toNat : Int) = 63) <;> rfl
    | cons y t =>
      have e2 : decide ((((x :: y :: t).length : Int) : Int) > 1) = true := by simp; omega
      rw [e2]
      cases decide ((x.toNat : Int) = 63) <;> simp
theorem iVar (a : Bytes) (ha : a.length ≤ 1048576) : d_impl_IsVar a = some (varB a) := by
  unfold d_impl_IsVar
  cases a with
  | nil => rfl
  | cons x t =>
    simp only [List.length_cons] at ha
    rw [show atI (x :: t) 0 = some x from rfl, Option.bind_some, pcut1 (by simp), Option.bind_some]
    have e : (((x :: t).take ((x :: t).length)).drop 1) = t := by simp
    simp only [e, iAtom t (by omega), Option.bind_some, varB, beq_dec]
    cases t with
    | nil => cases decide ((x.toNat : Int) = 63) <;> rfl
    | cons y t =>
      have e2 : decide ((((x :: y :: t).length : Int) : Int) > 1) = true := by simp; omega
      rw [e2]
      cases decide ((x.toNat : Int) = 63) <;> simp
theorem sTerm (a : Bytes) (ha : a.length ≤ 1048576) : d_spec_IsTerm a = some (termB a) := by
  unfold d_spec_IsTerm termB
  rw [sAtom a ha, sVar a ha]
  cases atomB a <;> simp
theorem iTerm (a : Bytes) (ha : a.length ≤ 1048576) : d_impl_IsTerm a = some (termB a) := by
  unfold d_impl_IsTerm termB
  rw [iAtom a ha, iVar a ha]
  cases atomB a <;> simp
theorem sTexts (l : List Bytes) (h : l.length ≤ 1099511627776) : d_spec_l1Texts l = some l := by
  unfold d_spec_l1Texts; rw [room0 h (by decide)]; rfl
theorem iTexts (l : List Bytes) (h : l.length ≤ 1099511627776) : d_impl_copyTexts l = some l := by
  unfold d_impl_copyTexts; rw [room0 h (by decide)]; rfl
theorem iSameT (a b : List Bytes) : d_impl_sameTexts a b = some (decide (a = b)) := by
  unfold d_impl_sameTexts
  exact eqL (c := tx) (f := fun x y => some (x == y)) (fun k => d_impl_sameTexts_L1 a b k) (fun _ _ => rfl) (fun _ _ _ _ => rfl) (fun x y => by rw [Option.some.injEq, Bool.eq_iff_iff]; simp)
theorem sHas (l : List Bytes) (v : Bytes) : d_spec_l1HasText l v = some (l.contains v) := by
  unfold d_spec_l1HasText
  have : ∀ (r : List Bytes) (i : Nat), d_spec_l1HasText_L1 l v (some false) r i = some (r.contains v) := by
    intro r
    induction r with
    | nil => intro i; rfl
    | cons x r ih =>
      intro i
      rw [d_spec_l1HasText_L1, ih, List.contains_cons]
      have : (x == v) = (v == x) := by rw [Bool.eq_iff_iff, beq_iff_eq, beq_iff_eq]; exact eq_comm
      rw [this]
      cases v == x <;> rfl
  exact this l 0
theorem iHas (l : List Bytes) (v : Bytes) : d_impl_hasText l v = some (l.contains v) := by
  unfold d_impl_hasText
  have : ∀ (r : List Bytes) (i : Nat), d_impl_hasText_L1 l v (some false) r i = some (r.contains v) := by
    intro r
    induction r with
    | nil => intro i; rfl
    | cons x r ih =>
      intro i
      rw [d_impl_hasText_L1, ih, List.contains_cons]
      have : (x == v) = (v == x) := by rw [Bool.eq_iff_iff, beq_iff_eq, beq_iff_eq]; exact eq_comm
      rw [this]
      cases v == x <;> rfl
  exact this l 0
theorem sPutL (a : List Bytes) (s : Bytes) (k : Bool → List Bytes → Option (List Bytes)) : ∀ (l : List Bytes) (i : Nat) (w : List Bytes), w.length + l.length < 1099511627776 →
    d_spec_l1Put_L1 a s k l i true w = k true (w ++ l) := by
  intro l
  induction l with
  | nil => intro i w _; simp [d_spec_l1Put_L1]
  | cons x xs ih =>
    intro i w h
    simp only [List.length_cons] at h
    rw [d_spec_l1Put_L1, Bool.not_true, cond_false, room1 (by omega) (by decide), cond_true, ih _ _ (by simp; omega)]
    simp
theorem sPutM (a : List Bytes) (s : Bytes) (k : Bool → List Bytes → Option (List Bytes)) (hk : ∀ w, w.length < 1099511627776 → k false w = some (w ++ [s])) (hk2 : ∀ w, k true w = some w) : ∀ (l : List Bytes) (i : Nat) (w : List Bytes), w.length + l.length + 1 < 1099511627776 →
    d_spec_l1Put_L1 a s k l i false w = some (w ++ putB l s) := by
  intro l
  induction l with
  | nil => intro i w h; rw [d_spec_l1Put_L1, hk w (by omega)]; rfl
  | cons x xs ih =>
    intro i w h
    simp only [List.length_cons] at h
    rw [d_spec_l1Put_L1, Bool.not_false, cond_true, putB]
    cases Op.bytesLess x s with
    | true =>
      simp only [Bool.not_true, cond_false, cond_true]
      rw [room1 (by omega) (by decide), cond_true, ih _ _ (by simp; omega)]
      simp
    | false =>
      simp only [Bool.not_false, cond_true, cond_false]
      cases x == s with
      | true =>
        simp only [Bool.not_true, cond_false, cond_true]
        rw [room1 (by omega) (by decide), cond_true, sPutL _ _ _ _ _ _ (by simp; omega), hk2]
        simp
      | false =>
        simp only [Bool.not_false, cond_true, cond_false]
        rw [room1 (by omega) (by decide), cond_true]
        have e : room (((w.map tx) ++ [[D.str s]]).length + ([[D.str x]]).length) 16 = true := roomK (by simp; omega) (by decide)
        rw [e, cond_true, sPutL _ _ _ _ _ _ (by simp; omega), hk2]
        simp
theorem sPut (l : List Bytes) (s : Bytes) (h : l.length + 1 < 1099511627776) : d_spec_l1Put l s = some (putB l s) := by
  unfold d_spec_l1Put
  rw [sPutM l s _ (fun w hw => by simp only [Bool.not_false, cond_true]; rw [room1 hw (by decide)]; rfl) (fun w => by simp) l 0 [] (by simpa using h)]
  rfl
def dd : Option Bytes → List Bytes → List Bytes
  | _, [] => []
  | p, x :: xs => if p = some x then dd (some x) xs else x :: dd (some x) xs
theorem dd_mem : ∀ {l : List Bytes} {p : Option Bytes} {y : Bytes}, y ∈ dd p l → y ∈ l
  | [], p, y, h => by cases h
  | x :: xs, p, y, h => by
    simp only [dd] at h
    split at h
    · exact List.mem_cons.2 (.inr (dd_mem h))
    · rcases List.mem_cons.1 h with rfl | h
      · simp
      · exact List.mem_cons.2 (.inr (dd_mem h))
theorem mem_dd : ∀ {l : List Bytes} {p : Option Bytes} {y : Bytes}, y ∈ l → p = some y ∨ y ∈ dd p l
  | x :: xs, p, y, h => by
    simp only [dd]
    rcases List.mem_cons.1 h with rfl | h
    · by_cases hp : p = some y
      · exact .inl hp
      · rw [if_neg hp]; exact .inr (by simp)
    · have := mem_dd (p := some x) h
      split
      · rename_i hp
        rcases this with e | e
        · exact .inl (hp.trans e)
        · exact .inr e
      · rcases this with e | e
        · cases e; exact .inr (by simp)
        · exact .inr (by simp [e])
theorem dd_ss : ∀ {l : List Bytes} {p : Option Bytes}, l.Pairwise (fun a b => Op.bytesLess b a = false) → (∀ q, p = some q → ∀ y ∈ l, Op.bytesLess y q = false) → SS (dd p l) ∧ ∀ q, p = some q → ∀ y ∈ dd p l, Op.bytesLess q y = true
  | [], p, _, _ => ⟨by simp [dd, SS], by simp [dd]⟩
  | x :: xs, p, h, hp => by
    obtain ⟨p1, p2⟩ := List.pairwise_cons.1 h
    obtain ⟨i1, i2⟩ := dd_ss (l := xs) (p := some x) p2 (fun q hq y hy => by cases hq; exact p1 y hy)
    simp only [dd]
    split
    · rename_i he
      exact ⟨i1, fun q hq y hy => by rw [he] at hq; cases hq; exact i2 x rfl y hy⟩
    · rename_i he
      refine ⟨List.pairwise_cons.2 ⟨fun y hy => i2 x rfl y hy, i1⟩, fun q hq y hy => ?_⟩
      have hqx : Op.bytesLess q x = true := by
        cases hc : Op.bytesLess q x with
        | true => rfl
        | false => exact absurd (by rw [hq, bl_tri hc (hp q hq x (by simp))]) he
      rcases List.mem_cons.1 hy with rfl | hy
      · exact hqx
      · exact bl_trans hqx (i2 x rfl y hy)
theorem sortB_eq (l : List Bytes) : sortB l = l.mergeSort (fun x y => !Op.bytesLess y x) := by
  unfold sortB
  congr 1
  funext x y
  rw [Go.Proofs.bytesLess_eq]
  rw [Bool.eq_iff_iff]
  simp [List.not_lt]
theorem sortB_sorted (l : List Bytes) : (sortB l).Pairwise (fun a b => Op.bytesLess b a = false) := by
  rw [sortB_eq]
  have := List.pairwise_mergeSort (le := fun x y => !Op.bytesLess y x) (fun a b c h1 h2 => by
    simp only [Bool.not_eq_true'] at h1 h2 ⊢
    cases hc : Op.bytesLess c a with
    | false => rfl
    | true =>
      cases hb : Op.bytesLess b a with
      | true => rw [h1] at hb; cases hb
      | false =>
        cases hb2 : Op.bytesLess a b with
        | true => have := bl_trans hc hb2; rw [h2] at this; cases this
        | false => have := bl_tri hb hb2; subst this; rw [h2] at hc; cases hc) (fun a b => by
    cases hc : Op.bytesLess b a with
    | false => simp
    | true => simp [bl_asymm hc]) l
  exact this.imp (fun h => by simpa using h)
theorem dd_uniq (l : List Bytes) : dd none (sortB l) = uniqS l := by
  refine SS_unique (dd_ss (sortB_sorted l) (by simp)).1 (ss_uniqS l) (fun x => ?_)
  rw [mem_uniqS]
  have hm : x ∈ sortB l ↔ x ∈ l := (sortB_perm l).mem_iff
  constructor
  · intro h; exact hm.1 (dd_mem h)
  · intro h
    rcases mem_dd (p := none) (hm.2 h) with h | h
    · cases h
    · exact h
theorem iSortedL (a : List Bytes) (k : List Bytes → Option (List Bytes)) (ha : a.length ≤ 1099511627775) : ∀ (rest pre : List Bytes) (w : List Bytes), sortB ([] ++ a) = pre ++ rest → w.length + rest.length ≤ 1099511627775 →
    d_impl_SortedTexts_L1 a k rest pre.length w = k (w ++ dd pre.getLast? rest) := by
  have hlen : (sortB ([] ++ a)).length = a.length := (sortB_perm _).length_eq
  intro rest
  induction rest with
  | nil => intro pre w _ _; simp [d_impl_SortedTexts_L1, dd]
  | cons x xs ih =>
    intro pre w h hw
    simp only [List.length_cons] at hw
    have hl : pre.length + (xs.length + 1) = a.length := by rw [← hlen, h]; simp
    have t := fun w' => ih (pre ++ [x]) w' (by rw [h]; simp)
    simp only [List.length_append, List.length_cons, List.length_nil, List.getLast?_concat] at t
    rw [d_impl_SortedTexts_L1]
    rcases List.eq_nil_or_concat pre with rfl | ⟨p, z, hpz⟩
    · have e0 : (((([] : List Bytes).length : Int) : Int) == 0) = true := rfl
      rw [e0, cond_true, room1 (by omega) (by decide), cond_true, t _ (by simp; omega)]
      simp [dd]
    · rw [List.concat_eq_append] at hpz
      subst hpz
      have e0 : (((((p ++ [z]).length : Int)) : Int) == 0) = false := by simp; omega
      have e1 : IntKind.i64.wrap ((((p ++ [z]).length : Int)) - 1) = (p.length : Int) := by
        rw [wrap_in (InR.i64.2 (by simp at hl ⊢; omega))]; simp
      have e2 : atI (sortB ([] ++ a)) (p.length : Int) = some z := atI_mid (xs := x :: xs) (by rw [h]; simp)
      rw [e0, cond_false, e1, e2, Option.bind_some]
      simp only [dd, List.getLast?_concat]
      by_cases hz : z = x
      · subst hz
        have e3 : ((z : Bytes) == z) = true := by simp
        rw [e3, Bool.not_true, cond_false, t _ (by omega), if_pos rfl]
      · have e3 : ((z : Bytes) == x) = false := by simpa using hz
        rw [e3, Bool.not_false, cond_true, room1 (by omega) (by decide), cond_true, t _ (by simp; omega), if_neg (by simpa using hz)]
        simp
theorem iSorted (l : List Bytes) (h : l.length < 1099511627775) : d_impl_SortedTexts l = some (uniqS l) := by
  have hlen : (sortB ([] ++ l)).length = l.length := (sortB_perm _).length_eq
  unfold d_impl_SortedTexts
  have e1 : decide ((([] : List Bytes) ++ l).length < 4611686018427387904) = true := by simp; omega
  rw [room0 (by omega) (by decide), cond_true, e1, cond_true, lenOk (by rw [hlen]; omega), cond_true]
  have := iSortedL l (fun q => some q) (by omega) (sortB ([] ++ l)) [] [] rfl (by rw [hlen]; simp; omega)
  rw [show ([] : List Bytes).length = 0 from rfl] at this
  rw [this, ← dd_uniq]
  simp
end Go.Cx

/- Chapters 2 to 5 in plain words: facts, patterns, conditions, rules, as the program and the reference read them. No condition but bounds on sizes. -/
namespace Go.Cx
open Go.RowKit Go.Proofs
set_option linter.unusedVariables false
set_option linter.unusedSimpArgs false
theorem Fact.rel_le {p : Fact} {n : Nat} (h : p.wt ≤ n) : p.rel.length ≤ n := by unfold Fact.wt tw at h; omega
theorem Fact.args_le {p : Fact} {n : Nat} (h : p.wt ≤ n) : p.args.length ≤ n := by unfold Fact.wt at h; have := wtL_len tw p.args; omega
theorem Fact.arg_le {p : Fact} {n : Nat} (h : p.wt ≤ n) {x : Bytes} (hx : x ∈ p.args) : x.length ≤ n := by unfold Fact.wt at h; have := wtL_mem (w := tw) hx; have e : tw x = x.length := rfl; omega
theorem Cond.pat_le {c : Cond} {n : Nat} (h : c.wt ≤ n) : c.pat.wt ≤ n := by simp only [Cond.wt, Fact.wt] at h ⊢; omega
theorem Cond.left_le {c : Cond} {n : Nat} (h : c.wt ≤ n) : c.left.length ≤ n := by simp only [Cond.wt, tw] at h; omega
theorem Cond.right_le {c : Cond} {n : Nat} (h : c.wt ≤ n) : c.right.length ≤ n := by simp only [Cond.wt, tw] at h; omega
theorem Action.pat_le {c : Action} {n : Nat} (h : c.wt ≤ n) : c.pat.wt ≤ n := by simp only [Action.wt, Fact.wt] at h ⊢; omega
theorem Rule.name_le {r : Rule} {n : Nat} (h : r.wt ≤ n) : r.name.length ≤ n := by simp only [Rule.wt, tw] at h; omega
theorem Rule.conds_le {r : Rule} {n : Nat} (h : r.wt ≤ n) : wtL Cond.wt r.conds ≤ n := by simp only [Rule.wt] at h; omega
theorem Rule.acts_le {r : Rule} {n : Nat} (h : r.wt ≤ n) : wtL Action.wt r.acts ≤ n := by simp only [Rule.wt] at h; omega
theorem Rule.cond_le {r : Rule} {n : Nat} (h : r.wt ≤ n) {c : Cond} (hc : c ∈ r.conds) : c.wt ≤ n := by have := Rule.conds_le h; have := wtL_mem (w := Cond.wt) hc; omega
theorem Rule.act_le {r : Rule} {n : Nat} (h : r.wt ≤ n) {c : Action} (hc : c ∈ r.acts) : c.wt ≤ n := by have := Rule.acts_le h; have := wtL_mem (w := Action.wt) hc; omega
theorem sCopyF (f : Fact) (h : f.args.length ≤ 1099511627776) : d_spec_l2Copy f = some f := by
  unfold d_spec_l2Copy; rw [sTexts _ h]; rfl
theorem iCopyF (f : Fact) (h : f.args.length ≤ 1099511627776) : d_impl_copyFact f = some f := by
  unfold d_impl_copyFact; rw [iTexts _ h]; rfl
theorem iSameF (a b : Fact) : d_impl_sameFact a b = some (decide (a = b)) := by
  obtain ⟨a0, a1⟩ := a; obtain ⟨b0, b1⟩ := b
  unfold d_impl_sameFact
  simp only [iSameT, Option.bind_some, beq_dec]
  by_cases h0 : a0 = b0 <;> by_cases h1 : a1 = b1 <;> simp [h0, h1]
theorem iSameFs (a b : List Fact) : d_impl_SameFacts a b = some (decide (a = b)) := by
  unfold d_impl_SameFacts
  exact eqL (c := Fact.c) (f := d_impl_sameFact) (fun k => d_impl_SameFacts_L1 a b k) (fun _ _ => rfl) (fun _ _ _ _ => rfl) iSameF
def patB (p : Fact) : Bool := p.args.all termB && (nameB p.rel && decide ((p.args.length : Int) ≤ 3))
def factB (f : Fact) : Bool := f.args.all atomB && (nameB f.rel && decide ((f.args.length : Int) ≤ 3))
theorem sFact (f : Fact) (h : f.wt ≤ 1048576) : d_spec_IsFact f = some (factB f) := by
  unfold d_spec_IsFact
  rw [allL (f := d_spec_IsAtom) (L := d_spec_IsFact_L1 f _) (fun _ => rfl) (fun _ _ _ => rfl) f.args 0 (fun x hx => sAtom x (Fact.arg_le h hx)), sName _ (Fact.rel_le h), Option.bind_some, List.length_map, factB]
  cases f.args.all atomB <;> cases nameB f.rel <;> rfl
theorem iFact (f : Fact) (h : f.wt ≤ 1048576) : d_impl_IsFact f = some (factB f) := by
  unfold d_impl_IsFact
  rw [allL (f := d_impl_IsAtom) (L := d_impl_IsFact_L1 f _) (fun _ => rfl) (fun _ _ _ => rfl) f.args 0 (fun x hx => iAtom x (Fact.arg_le h hx)), iName _ (Fact.rel_le h), Option.bind_some, List.length_map, factB]
  have c : decide ((f.args.length : Int) ≤ 3) = !decide ((f.args.length : Int) > 3) := by rw [Bool.eq_iff_iff]; simp
  rw [c]
  cases f.args.all atomB <;> cases nameB f.rel <;> cases decide ((f.args.length : Int) > 3) <;> rfl
theorem sPat (f : Fact) (h : f.wt ≤ 1048576) : d_spec_IsPattern f = some (patB f) := by
  unfold d_spec_IsPattern
  rw [allL (f := d_spec_IsTerm) (L := d_spec_IsPattern_L1 f _) (fun _ => rfl) (fun _ _ _ => rfl) f.args 0 (fun x hx => sTerm x (Fact.arg_le h hx)), sName _ (Fact.rel_le h), Option.bind_some, List.length_map, patB]
  cases f.args.all termB <;> cases nameB f.rel <;> rfl
theorem iPat (f : Fact) (h : f.wt ≤ 1048576) : d_impl_IsPattern f = some (patB f) := by
  unfold d_impl_IsPattern
  rw [allL (f := d_impl_IsTerm) (L := d_impl_IsPattern_L1 f _) (fun _ => rfl) (fun _ _ _ => rfl) f.args 0 (fun x hx => iTerm x (Fact.arg_le h hx)), iName _ (Fact.rel_le h), Option.bind_some, List.length_map, patB]
  have c : decide ((f.args.length : Int) ≤ 3) = !decide ((f.args.length : Int) > 3) := by rw [Bool.eq_iff_iff]; simp
  rw [c]
  cases f.args.all termB <;> cases nameB f.rel <;> cases decide ((f.args.length : Int) > 3) <;> rfl
/-- the variables among texts -/
def varsB (l : List Bytes) : List Bytes := l.filter varB
theorem varsB_len (l : List Bytes) : (varsB l).length ≤ l.length := List.length_filter_le _ _
theorem varsB_app (a b : List Bytes) : varsB (a ++ b) = varsB a ++ varsB b := List.filter_append _ _
theorem sVarsOf (p : Fact) (h : p.wt ≤ 1048576) : d_spec_VarsOf p = some (uniqS (varsB p.args)) := by
  unfold d_spec_VarsOf
  have : ∀ (r : List Bytes) (i : Nat) (w : List Bytes), (∀ x ∈ r, x.length ≤ 1048576) → w.length + r.length ≤ 2097152 → d_spec_VarsOf_L1 p (fun q => some q) r i w = some ((varsB r).foldl putB w) := by
    intro r
    induction r with
    | nil => intro i w _ _; rfl
    | cons x r ih =>
      intro i w hr hw
      simp only [List.length_cons] at hw
      have hl := len_putB w x
      rw [d_spec_VarsOf_L1, sVar x (hr x (by simp)), Option.bind_some, sPut w x (by omega), Option.bind_some, ih _ _ (fun y hy => hr y (by simp [hy])) (by omega), ih _ _ (fun y hy => hr y (by simp [hy])) (by omega)]
      cases hv : varB x <;> simp [varsB, hv]
  exact this p.args 0 [] (fun x hx => Fact.arg_le h hx) (by have := Fact.args_le h; simp; omega)
theorem iVars (l : List Bytes) (hl : l.length ≤ 2097152) (h : ∀ x ∈ l, x.length ≤ 1048576) : d_impl_varsAmong l = some (varsB l) := by
  unfold d_impl_varsAmong
  have : ∀ (r : List Bytes) (i : Nat) (w : List Bytes), (∀ x ∈ r, x.length ≤ 1048576) → w.length + r.length ≤ 2097152 → d_impl_varsAmong_L1 l (fun q => some q) r i w = some (w ++ varsB r) := by
    intro r
    induction r with
    | nil => intro i w _ _; simp [d_impl_varsAmong_L1, varsB]
    | cons x r ih =>
      intro i w hr hw
      simp only [List.length_cons] at hw
      rw [d_impl_varsAmong_L1, iVar x (hr x (by simp)), Option.bind_some, room1 (by omega) (by decide), ih _ _ (fun y hy => hr y (by simp [hy])) (by simp; omega), ih _ _ (fun y hy => hr y (by simp [hy])) (by omega)]
      cases hv : varB x <;> simp [varsB, hv]
  exact this l 0 [] h (by simpa using hl)
/-- the variables of a condition -/
def condV (c : Cond) : List Bytes := varsB (c.pat.args ++ [c.left, c.right])
theorem condV_len {c : Cond} {n : Nat} (h : c.wt ≤ n) : (condV c).length ≤ n + 2 := by
  have h1 := varsB_len (c.pat.args ++ [c.left, c.right])
  have h2 := Fact.args_le (Cond.pat_le h)
  simp only [List.length_append, List.length_cons, List.length_nil] at h1
  unfold condV
  omega
theorem sCondV (c : Cond) (h : c.wt ≤ 1048576) : d_spec_CondVars c = some (uniqS (condV c)) := by
  unfold d_spec_CondVars
  have h1 := Fact.args_le (Cond.pat_le h)
  have h2 := len_uniqS (varsB c.pat.args)
  have h3 := varsB_len c.pat.args
  have h4 := len_putB (uniqS (varsB c.pat.args)) c.left
  rw [sVarsOf _ (Cond.pat_le h), Option.bind_some, sVar _ (Cond.left_le h), Option.bind_some, sVar _ (Cond.right_le h)]
  simp only [Option.bind_some]
  rw [sPut _ _ (by omega), sPut _ _ (by omega), Option.bind_some, sPut _ _ (by omega)]
  simp only [Option.bind_some, condV, varsB_app, uniqS_snoc]
  cases hl : varB c.left <;> cases hr : varB c.right <;> simp [varsB, hl, hr]
theorem iTerms (c : Cond) (h : c.wt ≤ 1048576) : d_impl_termsOf c = some (c.pat.args ++ [c.left, c.right]) := by
  unfold d_impl_termsOf
  have h1 := Fact.args_le (Cond.pat_le h)
  rw [iTexts _ (by omega), Option.bind_some]
  rw [roomK (by simp; omega) (by decide)]
  rfl
theorem iCondV (c : Cond) (h : c.wt ≤ 1048576) : d_impl_CondVars c = some (uniqS (condV c)) := by
  unfold d_impl_CondVars
  have h1 := Fact.args_le (Cond.pat_le h)
  have h5 := condV_len h
  rw [iTerms c h, Option.bind_some, iVars _ (by simp; omega) (fun x hx => by
    simp only [List.mem_append, List.mem_cons, List.not_mem_nil, or_false] at hx
    rcases hx with hx | rfl | rfl
    · exact Fact.arg_le (Cond.pat_le h) hx
    · exact Cond.left_le h
    · exact Cond.right_le h), Option.bind_some]
  rw [show varsB (c.pat.args ++ [c.left, c.right]) = condV c from rfl, iSorted _ (by omega)]
  rfl
def zeroB (p : Fact) : Bool := p.rel == [] && decide ((p.args.length : Int) = 0)
def condB (c : Cond) : Bool := bif decide (c.kind = 1) || decide (c.kind = 2) then patB c.pat && (c.left == [] && c.right == []) else bif decide (c.kind = 3) || decide (c.kind = 4) || decide (c.kind = 5) then zeroB c.pat && (termB c.left && termB c.right) else false
def testB (c : Cond) : Bool := condB c && decide (c.kind ≥ 3)
theorem condB_kind {c : Cond} (h : condB c = true) : 1 ≤ c.kind ∧ c.kind ≤ 5 := by
  unfold condB at h
  by_cases h1 : c.kind = 1
  · omega
  by_cases h2 : c.kind = 2
  · omega
  by_cases h3 : c.kind = 3
  · omega
  by_cases h4 : c.kind = 4
  · omega
  by_cases h5 : c.kind = 5
  · omega
  simp [h1, h2, h3, h4, h5] at h
theorem sCond (c : Cond) (h : c.wt ≤ 1048576) : d_spec_IsCond c = some (condB c) := by
  unfold d_spec_IsCond condB zeroB
  simp only [sPat _ (Cond.pat_le h), sTerm _ (Cond.left_le h), sTerm _ (Cond.right_le h), Option.bind_some, List.length_map, beq_dec]
  by_cases h1 : c.kind = 1
  · simp only [h1]; cases patB c.pat <;> cases decide (c.left = []) <;> simp
  by_cases h2 : c.kind = 2
  · simp only [h2]; cases patB c.pat <;> cases decide (c.left = []) <;> simp
  by_cases h3 : c.kind = 3
  · simp only [h3]; cases decide (c.pat.rel = []) <;> cases decide ((c.pat.args.length : Int) = 0) <;> cases termB c.left <;> simp
  by_cases h4 : c.kind = 4
  · simp only [h4]; cases decide (c.pat.rel = []) <;> cases decide ((c.pat.args.length : Int) = 0) <;> cases termB c.left <;> simp
  by_cases h5 : c.kind = 5
  · simp only [h5]; cases decide (c.pat.rel = []) <;> cases decide ((c.pat.args.length : Int) = 0) <;> cases termB c.left <;> simp
  simp [h1, h2, h3, h4, h5]
theorem iZero (p : Fact) : d_impl_zeroPattern p = some (zeroB p) := by
  unfold d_impl_zeroPattern zeroB
  simp only [List.length_map, beq_dec]
  cases decide (p.rel = []) <;> rfl
theorem iCond (c : Cond) (h : c.wt ≤ 1048576) : d_impl_IsCond c = some (condB c) := by
  unfold d_impl_IsCond condB
  simp only [iPat _ (Cond.pat_le h), iTerm _ (Cond.left_le h), iTerm _ (Cond.right_le h), iZero, Option.bind_some, beq_dec]
  by_cases h1 : c.kind = 1
  · simp only [h1]; cases patB c.pat <;> cases decide (c.left = []) <;> simp
  by_cases h2 : c.kind = 2
  · simp only [h2]; cases patB c.pat <;> cases decide (c.left = []) <;> simp
  by_cases h3 : c.kind = 3
  · simp only [h3]; cases zeroB c.pat <;> cases termB c.left <;> cases termB c.right <;> simp
  by_cases h4 : c.kind = 4
  · simp only [h4]; cases zeroB c.pat <;> cases termB c.left <;> cases termB c.right <;> simp
  by_cases h5 : c.kind = 5
  · simp only [h5]; cases zeroB c.pat <;> cases termB c.left <;> cases termB c.right <;> simp
  simp [h1, h2, h3, h4, h5]
theorem sTest (c : Cond) (h : c.wt ≤ 1048576) : d_spec_IsTest c = some (testB c) := by
  unfold d_spec_IsTest testB
  rw [sCond c h]
  cases condB c <;> rfl
theorem iTest (c : Cond) (h : c.wt ≤ 1048576) : d_impl_IsTest c = some (testB c) := by
  unfold d_impl_IsTest testB
  rw [iCond c h]
  cases condB c <;> rfl
def actB (a : Action) : Bool := bif decide (a.kind = 1) || decide (a.kind = 2) then patB a.pat else bif decide (a.kind = 3) then zeroB a.pat else false
theorem sAct (a : Action) (h : a.wt ≤ 1048576) : d_spec_IsAction a = some (actB a) := by
  unfold d_spec_IsAction actB zeroB
  simp only [sPat _ (Action.pat_le h), Option.bind_some, List.length_map, beq_dec]
  by_cases h1 : a.kind = 1
  · simp [h1]
  by_cases h2 : a.kind = 2
  · simp [h2]
  by_cases h3 : a.kind = 3
  · simp only [h3]; cases decide (a.pat.rel = []) <;> simp
  simp [h1, h2, h3]
theorem iAct (a : Action) (h : a.wt ≤ 1048576) : d_impl_IsAction a = some (actB a) := by
  unfold d_impl_IsAction actB
  simp only [iPat _ (Action.pat_le h), iZero, Option.bind_some, beq_dec]
  by_cases h1 : a.kind = 1
  · simp [h1]
  by_cases h2 : a.kind = 2
  · simp [h2]
  by_cases h3 : a.kind = 3
  · simp [h3]
  simp [h1, h2, h3]
end Go.Cx

/- Numbers as texts, and plain names of variables, in plain words: of the program and of the reference. No condition but bounds on sizes. -/
namespace Go.Cx
open Go.RowKit Go.Proofs
set_option linter.unusedVariables false
set_option linter.unusedSimpArgs false
theorem nDig_le : ∀ (k v : Nat), v < 10 ^ k → 1 ≤ k → Lib.nDigits v ≤ k := by
  intro k
  induction k with
  | zero => intro v _ h; omega
  | succ k ih =>
    intro v hv _
    by_cases h10 : v < 10
    · rw [Lib.nDigits_small h10]; omega
    · rw [Lib.nDigits_big h10]
      have h3 : v / 10 < 10 ^ k := by rw [Nat.pow_succ] at hv; omega
      have hk1 : 1 ≤ k := by
        cases k with
        | zero => simp at hv; omega
        | succ k => omega
      have := ih (v / 10) h3 hk1
      omega
theorem nDig19 {u : Nat} (h : u ≤ 9223372036854775808) : Lib.nDigits u ≤ 19 := nDig_le 19 u (by omega) (by omega)
theorem dig1 (u : Nat) : UInt8.ofNat (IntKind.u8.wrap (IntKind.i64.wrap ((48) + ((u : Int) % (10))))).toNat = UInt8.ofNat (48 + u % 10) := by
  rw [wrap_in (k := .i64) (InR.i64.2 (by omega)), wrap_in (InR.u8.2 (by omega))]
  congr 1
theorem sFmtL (k : Option Bytes) : ∀ (n u : Nat) (acc : Bytes), Lib.nDigits u ≤ n → acc.length + Lib.nDigits u ≤ 1000 → d_spec_FormatInt_R_L1 k n (u : Int) acc = some (Lib.decDigits u ++ acc) := by
  intro n
  induction n with
  | zero => intro u acc h _; have := Lib.nDigits_pos u; omega
  | succ n ih =>
    intro u acc hn hl
    have hp := Lib.nDigits_pos u
    have e0 : (decide (0 ≤ (u : Int)) && decide (0 < (10 : Int))) = true := by simp
    have e1 : decide (([UInt8.ofNat (48 + u % 10)] : Bytes).length + (acc : Bytes).length ≤ maxLen) = true := by unfold maxLen; simp; omega
    rw [d_spec_FormatInt_R_L1]
    simp only [dig1, e0, e1, cond_true]
    by_cases h10 : u < 10
    · have e2 : (((u : Int) / (10) : Int) == (0)) = true := by rw [beq_iff_eq]; omega
      rw [e2, cond_true, Lib.decDigits, dif_pos h10, Nat.mod_eq_of_lt h10]
    · have e2 : (((u : Int) / (10) : Int) == (0)) = false := by rw [beq_eq_false_iff_ne]; omega
      have e3 : ((u : Int) / 10) = ((u / 10 : Nat) : Int) := by omega
      have hd := Lib.nDigits_big h10
      rw [e2, cond_false, e3, ih (u / 10) _ (by omega) (by simp; omega)]
      conv => rhs; rw [Lib.decDigits, dif_neg h10]
      simp
theorem sFmtR (m u : Nat) (h : u ≤ 9223372036854775807) : d_spec_FormatInt_R (m + 1) (u : Int) = some (Lib.decDigits u) := by
  rw [d_spec_FormatInt_R]
  have e1 : (((u : Int)) == (-9223372036854775808)) = false := by rw [beq_eq_false_iff_ne]; omega
  have e2 : decide ((u : Int) < 0) = false := by simp
  have := nDig19 (u := u) (by omega)
  rw [e1, cond_false, e2, cond_false, sFmtL _ _ _ _ (by unfold fuel; omega) (by simp; omega)]
  simp
theorem itoa_min : Lib.itoa (-9223372036854775808) = [45, 57, 50, 50, 51, 51, 55, 50, 48, 51, 54, 56, 53, 52, 55, 55, 53, 56, 48, 56] := by
  unfold Lib.itoa
  simp [Lib.decDigits]
theorem sFmt (n : Int) (h : InR .i64 n) : d_spec_FormatInt n = some (Lib.itoa n) := by
  have h := InR.i64.1 h
  unfold d_spec_FormatInt
  rw [show fuel = 4194303 + 1 from rfl, d_spec_FormatInt_R]
  by_cases hm : n = -9223372036854775808
  · subst hm
    rw [itoa_min]
    rfl
  have e1 : ((n : Int) == (-9223372036854775808)) = false := by rw [beq_eq_false_iff_ne]; exact hm
  rw [e1, cond_false]
  by_cases hn : n < 0
  · have e2 : decide (n < 0) = true := by simpa using hn
    have e3 : IntKind.i64.wrap (0 - n) = ((n.natAbs : Nat) : Int) := by rw [wrap_in (InR.i64.2 (by omega))]; omega
    have hd := nDig19 (u := n.natAbs) (by omega)
    rw [e2, cond_true, e3, show (4194303 : Nat) = 4194302 + 1 from rfl, sFmtR _ _ (by omega), Option.bind_some]
    have e4 : decide (([45] : Bytes).length + (Lib.decDigits n.natAbs : Bytes).length ≤ maxLen) = true := by unfold maxLen; rw [Lib.decDigits_length]; simp; omega
    rw [e4, cond_true]
    unfold Lib.itoa
    rw [if_pos hn]
    rfl
  · have e2 : decide (n < 0) = false := by simpa using hn
    have e3 : n = ((n.toNat : Nat) : Int) := by omega
    have := nDig19 (u := n.toNat) (by omega)
    rw [e2, cond_false]
    conv => lhs; rw [e3]
    rw [sFmtL _ _ _ _ (by unfold fuel; omega) (by simp; omega)]
    unfold Lib.itoa
    rw [if_neg hn]
    simp
theorem iFmt (n : Int) : d_impl_FormatInt n = some (Lib.itoa n) := by
  unfold d_impl_FormatInt d_strconv_Itoa
  rfl
/-! renaming -/
/-! plain names -/
end Go.Cx

/- Shapes in plain words: a shape is its own shape; a pattern and its shape cover each other. No condition but bounds on sizes. -/
namespace Go.Cx
open Go.RowKit Go.Proofs
set_option linter.unusedVariables false
set_option linter.unusedSimpArgs false
/-- the k-th plain name -/
def nmB (k : Nat) : Bytes := [63] ++ Lib.itoa ((k : Int) + 1)
/-- pairs that give variables plain names, in order -/
def WfN (N : List Pair) : Prop := ∀ (i : Nat) p, N[i]? = some p → p.value = nmB i ∧ varB p.var = true
/-- keys are told apart -/
def NdK (N : List Pair) : Prop := (N.map Pair.var).Nodup
theorem WfN.nil : WfN [] := fun i p h => by simp at h
theorem NdK.nil : NdK [] := by simp [NdK]
/-! covers -/
end Go.Cx

/- Chapter 5 in plain words: which variables a rule binds and uses, what it reads and writes, whether it is valid. No condition but bounds on sizes. -/
namespace Go.Cx
open Go.RowKit Go.Proofs
set_option linter.unusedVariables false
set_option linter.unusedSimpArgs false
def bnd1 (c : Cond) : List Bytes := bif decide (c.kind = 1) then varsB c.pat.args else []
theorem bnd1_len {c : Cond} : (bnd1 c).length ≤ c.wt := by
  unfold bnd1
  have h2 := varsB_len c.pat.args
  have h3 := Fact.args_le (Cond.pat_le (Nat.le_refl c.wt))
  cases decide (c.kind = 1) <;> simp; omega
/-- the variables that the first n conditions bind -/
def bndV (r : Rule) (n : Int) : List Bytes := (r.conds.take n.toNat).flatMap bnd1
theorem take_step {α : Type} (x : α) (xs : List α) (n : Int) (i : Nat) : (x :: xs).take (n - (i : Int)).toNat = if (i : Int) < n then x :: xs.take (n - ((i + 1 : Nat) : Int)).toNat else [] := by
  by_cases h : (i : Int) < n
  · rw [if_pos h]
    obtain ⟨m, hm⟩ : ∃ m, (n - (i : Int)).toNat = m + 1 := ⟨(n - (i : Int)).toNat - 1, by omega⟩
    have : (n - ((i + 1 : Nat) : Int)).toNat = m := by omega
    rw [hm, this]; rfl
  · rw [if_neg h, show (n - (i : Int)).toNat = 0 from by omega]; rfl
theorem flatMap_len {α β : Type} {f : α → List β} {w : α → Nat} (l : List α) (h : ∀ x ∈ l, (f x).length ≤ w x + 2) : (l.flatMap f).length ≤ 3 * wtL w l := by
  induction l with
  | nil => simp [wtL]
  | cons x l ih =>
    rw [List.flatMap_cons, List.length_append, wtL_cons]
    have h1 := h x (by simp)
    have h2 := ih (fun y hy => h y (by simp [hy]))
    omega
theorem bndV_len {r : Rule} {n : Nat} (h : r.wt ≤ n) (m : Int) : (bndV r m).length ≤ 3 * n := by
  unfold bndV
  have h1 := flatMap_len (w := Cond.wt) (f := bnd1) (r.conds.take m.toNat) (fun c _ => by have := @bnd1_len c; omega)
  have h2 : wtL Cond.wt (r.conds.take m.toNat) ≤ wtL Cond.wt r.conds := by
    conv => rhs; rw [← List.take_append_drop m.toNat r.conds]
    rw [wtL_append]; omega
  have h3 := Rule.conds_le h
  omega
theorem sBoundL2 (a : Rule) (n : Int) (i : Nat) (y : List Bytes) (k : List Bytes → Option (List Bytes)) : ∀ (l : List Bytes) (j : Nat) (w : List Bytes), w.length + l.length ≤ 1099511627770 → d_spec_BoundVars_L2 a n i y k l j w = k (l.foldl putB w) := by
  intro l
  induction l with
  | nil => intro j w _; rfl
  | cons x l ih =>
    intro j w hw
    simp only [List.length_cons] at hw
    have := len_putB w x
    rw [d_spec_BoundVars_L2, sPut w x (by omega), Option.bind_some, ih _ _ (by omega)]; rfl
theorem sBoundL (a : Rule) (n : Int) (k : List Bytes → Option (List Bytes)) : ∀ (l : List Cond) (i : Nat) (acc : List Bytes), (∀ c ∈ l, c.wt ≤ 1048576) → acc.length + wtL Cond.wt l ≤ 2097152 →
    d_spec_BoundVars_L1 a n k l i (uniqS acc) = k (uniqS (acc ++ (l.take (n - (i : Int)).toNat).flatMap bnd1)) := by
  intro l
  induction l with
  | nil => intro i acc _ _; simp [d_spec_BoundVars_L1]
  | cons c l ih =>
    intro i acc hc hb
    rw [wtL_cons] at hb
    have hwt := hc c (by simp)
    have hv := varsB_len c.pat.args
    have ha := Fact.args_le (Cond.pat_le (Nat.le_refl c.wt))
    have hu := len_uniqS (varsB c.pat.args)
    have hu2 := len_uniqS acc
    rw [d_spec_BoundVars_L1, take_step]
    by_cases hi : (i : Int) < n
    · have e1 : decide (((i : Int) : Int) < n) = true := by simp [hi]
      rw [e1, cond_true, if_pos hi]
      by_cases hk : c.kind = 1
      · have e2 : ((c.kind : Int) == 1) = true := by simp [hk]
        rw [e2, cond_true, sVarsOf _ (Cond.pat_le hwt), Option.bind_some, lenOk (by omega), cond_true, sBoundL2 _ _ _ _ _ _ _ _ (by omega), uniqS_fold2, ih _ _ (fun x hx => hc x (by simp [hx])) (by simp; omega)]
        simp [bnd1, hk]
      · have e2 : ((c.kind : Int) == 1) = false := by simp [hk]
        rw [e2, cond_false, ih _ _ (fun x hx => hc x (by simp [hx])) (by omega)]
        simp [bnd1, hk]
    · have e1 : decide (((i : Int) : Int) < n) = false := by simp [hi]
      rw [e1, cond_false, if_neg hi]
      simp
theorem sBound (r : Rule) (n : Int) (h : r.wt ≤ 1048576) : d_spec_BoundVars r n = some (uniqS (bndV r n)) := by
  unfold d_spec_BoundVars
  have := sBoundL r n (fun q => some q) r.conds 0 [] (fun c hc => Rule.cond_le h hc) (by have := Rule.conds_le h; simp; omega)
  rw [show uniqS [] = [] from rfl] at this
  rw [this]
  simp [bndV]
theorem iBoundL (a : Rule) (n : Int) (k : List Bytes → Option (List Bytes)) : ∀ (l : List Cond) (i : Nat) (w : List Bytes), (∀ c ∈ l, c.wt ≤ 1048576) → w.length + wtL Cond.wt l ≤ 2097152 →
    d_impl_BoundVars_L1 a n k l i w = k (w ++ (l.take (n - (i : Int)).toNat).flatMap bnd1) := by
  intro l
  induction l with
  | nil => intro i w _ _; simp [d_impl_BoundVars_L1]
  | cons c l ih =>
    intro i w hc hb
    rw [wtL_cons] at hb
    have hwt := hc c (by simp)
    have hv := varsB_len c.pat.args
    have ha := Fact.args_le (Cond.pat_le (Nat.le_refl c.wt))
    rw [d_impl_BoundVars_L1, take_step]
    by_cases hi : (i : Int) < n
    · have e1 : decide (((i : Int) : Int) < n) = true := by simp [hi]
      rw [e1, cond_true, if_pos hi]
      by_cases hk : c.kind = 1
      · have e2 : ((c.kind : Int) == 1) = true := by simp [hk]
        rw [e2, cond_true, iVars _ (by omega) (fun x hx => Fact.arg_le (Cond.pat_le hwt) hx), Option.bind_some, roomA (by omega) (by decide), cond_true, ih _ _ (fun x hx => hc x (by simp [hx])) (by simp; omega)]
        simp [bnd1, hk]
      · have e2 : ((c.kind : Int) == 1) = false := by simp [hk]
        rw [e2, cond_false, ih _ _ (fun x hx => hc x (by simp [hx])) (by omega)]
        simp [bnd1, hk]
    · have e1 : decide (((i : Int) : Int) < n) = false := by simp [hi]
      rw [e1, cond_false, if_neg hi, ih _ _ (fun x hx => hc x (by simp [hx])) (by omega), show (n - ((i + 1 : Nat) : Int)).toNat = 0 from by omega]
      simp
theorem iBound (r : Rule) (n : Int) (h : r.wt ≤ 1048576) : d_impl_BoundVars r n = some (uniqS (bndV r n)) := by
  unfold d_impl_BoundVars
  have hl := bndV_len h n
  rw [iBoundL r n _ r.conds 0 [] (fun c hc => Rule.cond_le h hc) (by have := Rule.conds_le h; simp; omega)]
  have e : ([] : List Bytes) ++ (r.conds.take (n - ((0 : Nat) : Int)).toNat).flatMap bnd1 = bndV r n := by simp [bndV]
  rw [e, iSorted _ (by omega)]
  rfl
/-- all variables of the conditions; of the rule -/
def cndV (l : List Cond) : List Bytes := l.flatMap condV
def actV (l : List Action) : List Bytes := l.flatMap fun a => varsB a.pat.args
def rulV (r : Rule) : List Bytes := cndV r.conds ++ actV r.acts
theorem cndV_len (l : List Cond) : (cndV l).length ≤ 3 * wtL Cond.wt l := flatMap_len l (fun c _ => condV_len (Nat.le_refl _))
theorem sRuleVL2 (a : Rule) (i : Nat) (y : List Bytes) (k : List Bytes → Option (List Bytes)) : ∀ (l : List Bytes) (j : Nat) (w : List Bytes), w.length + l.length ≤ 1099511627770 → d_spec_RuleVars_L2 a i y k l j w = k (l.foldl putB w) := by
  intro l
  induction l with
  | nil => intro j w _; rfl
  | cons x l ih =>
    intro j w hw
    simp only [List.length_cons] at hw
    have := len_putB w x
    rw [d_spec_RuleVars_L2, sPut w x (by omega), Option.bind_some, ih _ _ (by omega)]; rfl
theorem sRuleVL4 (a : Rule) (i : Nat) (y : List Bytes) (k : List Bytes → Option (List Bytes)) : ∀ (l : List Bytes) (j : Nat) (w : List Bytes), w.length + l.length ≤ 1099511627770 → d_spec_RuleVars_L4 a i y k l j w = k (l.foldl putB w) := by
  intro l
  induction l with
  | nil => intro j w _; rfl
  | cons x l ih =>
    intro j w hw
    simp only [List.length_cons] at hw
    have := len_putB w x
    rw [d_spec_RuleVars_L4, sPut w x (by omega), Option.bind_some, ih _ _ (by omega)]; rfl
theorem sRuleVL1 (a : Rule) (k : List Bytes → Option (List Bytes)) : ∀ (l : List Cond) (i : Nat) (acc : List Bytes), (∀ c ∈ l, c.wt ≤ 1048576) → acc.length + 3 * wtL Cond.wt l ≤ 16777216 →
    d_spec_RuleVars_L1 a k l i (uniqS acc) = k (uniqS (acc ++ cndV l)) := by
  intro l
  induction l with
  | nil => intro i acc _ _; simp [d_spec_RuleVars_L1, cndV]
  | cons c l ih =>
    intro i acc hc hb
    rw [wtL_cons] at hb
    have hwt := hc c (by simp)
    have h1 := condV_len (Nat.le_refl c.wt)
    have hu := len_uniqS (condV c)
    have hu2 := len_uniqS acc
    rw [d_spec_RuleVars_L1, sCondV c hwt, Option.bind_some, lenOk (by omega), cond_true, sRuleVL2 _ _ _ _ _ _ _ (by omega), uniqS_fold2, ih _ _ (fun x hx => hc x (by simp [hx])) (by simp; omega)]
    simp [cndV]
theorem sRuleVL3 (a : Rule) (k : List Bytes → Option (List Bytes)) : ∀ (l : List Action) (i : Nat) (acc : List Bytes), (∀ c ∈ l, c.wt ≤ 1048576) → acc.length + 3 * wtL Action.wt l ≤ 16777216 →
    d_spec_RuleVars_L3 a k l i (uniqS acc) = k (uniqS (acc ++ actV l)) := by
  intro l
  induction l with
  | nil => intro i acc _ _; simp [d_spec_RuleVars_L3, actV]
  | cons c l ih =>
    intro i acc hc hb
    rw [wtL_cons] at hb
    have hwt := hc c (by simp)
    have h1 := varsB_len c.pat.args
    have h2 := Fact.args_le (Action.pat_le (Nat.le_refl c.wt))
    have hu := len_uniqS (varsB c.pat.args)
    have hu2 := len_uniqS acc
    rw [d_spec_RuleVars_L3, sVarsOf _ (Action.pat_le hwt), Option.bind_some, lenOk (by omega), cond_true, sRuleVL4 _ _ _ _ _ _ _ (by omega), uniqS_fold2, ih _ _ (fun x hx => hc x (by simp [hx])) (by simp; omega)]
    simp [actV]
theorem sRuleV (r : Rule) (h : r.wt ≤ 1048576) : d_spec_RuleVars r = some (uniqS (rulV r)) := by
  unfold d_spec_RuleVars
  have h3 := Rule.conds_le h; have h4 := Rule.acts_le h
  have hl := cndV_len r.conds
  have := sRuleVL1 r (fun q => d_spec_RuleVars_L3 r (fun q => some q) r.acts 0 q) r.conds 0 [] (fun c hc => Rule.cond_le h hc) (by simp; omega)
  rw [show uniqS [] = [] from rfl] at this
  rw [this]
  simp only [List.nil_append]
  rw [sRuleVL3 r _ r.acts 0 _ (fun c hc => Rule.act_le h hc) (by omega)]
  rfl
theorem iCndV (l : List Cond) (hc : ∀ c ∈ l, c.wt ≤ 1048576) (hb : wtL Cond.wt l ≤ 1048576) : d_impl_condVarsOf l = some (l.flatMap fun c => uniqS (condV c)) := by
  unfold d_impl_condVarsOf
  have : ∀ (r : List Cond) (i : Nat) (w : List Bytes), (∀ c ∈ r, c.wt ≤ 1048576) → w.length + 3 * wtL Cond.wt r ≤ 16777216 → d_impl_condVarsOf_L1 l (fun q => some q) r i w = some (w ++ r.flatMap fun c => uniqS (condV c)) := by
    intro r
    induction r with
    | nil => intro i w _ _; simp [d_impl_condVarsOf_L1]
    | cons c r ih =>
      intro i w hc hb
      rw [wtL_cons] at hb
      have h1 := condV_len (Nat.le_refl c.wt)
      have hu := len_uniqS (condV c)
      rw [d_impl_condVarsOf_L1, iCondV c (hc c (by simp)), Option.bind_some, roomA (by omega) (by decide), cond_true, ih _ _ (fun x hx => hc x (by simp [hx])) (by simp; omega)]
      simp
  exact this l 0 [] hc (by simp; omega)
theorem cndU_len (l : List Cond) : (l.flatMap fun c => uniqS (condV c)).length ≤ 3 * wtL Cond.wt l := flatMap_len l (fun c _ => by
  have h1 := condV_len (Nat.le_refl c.wt)
  have hu := len_uniqS (condV c)
  omega)
theorem cndU (l : List Cond) (b : List Bytes) : uniqS ((l.flatMap fun c => uniqS (condV c)) ++ b) = uniqS (cndV l ++ b) := uniqS_congr (fun x => by simp [cndV, mem_uniqS])
/-! when a rule is valid -/
def elsC (v : Bytes) (k : Int) : List Cond → Nat → Bool
  | [], _ => false
  | c :: cs, i => (decide (((i : Nat) : Int) ≠ k) && (condV c).contains v) || elsC v k cs (i + 1)
def elsB (r : Rule) (k : Int) (v : Bytes) : Bool := elsC v k r.conds 0 || r.acts.any fun a => (varsB a.pat.args).contains v
theorem contains_vars {l : List Bytes} {v : Bytes} (h : varB v = true) : l.contains v = (varsB l).contains v := by
  rw [Bool.eq_iff_iff]
  simp [varsB, h]
theorem sEls (r : Rule) (k : Int) (v : Bytes) (h : r.wt ≤ 1048576) : d_spec_l5Elsewhere r k v = some (elsB r k v) := by
  unfold d_spec_l5Elsewhere elsB
  have k2 : ∀ (l : List Action) (i : Nat), (∀ c ∈ l, c.wt ≤ 1048576) → d_spec_l5Elsewhere_L2 r v (some false) l i = some (l.any fun a => (varsB a.pat.args).contains v) := by
    intro l
    induction l with
    | nil => intro i _; rfl
    | cons a l ih =>
      intro i hc
      rw [d_spec_l5Elsewhere_L2, sVarsOf _ (Action.pat_le (hc a (by simp))), Option.bind_some, sHas, Option.bind_some, contains_uniqS, ih _ (fun x hx => hc x (by simp [hx])), List.any_cons]
      cases (varsB a.pat.args).contains v <;> rfl
  have k1 : ∀ (l : List Cond) (i : Nat), (∀ c ∈ l, c.wt ≤ 1048576) → d_spec_l5Elsewhere_L1 r k v (some (r.acts.any fun a => (varsB a.pat.args).contains v)) l i = some (elsC v k l i || r.acts.any fun a => (varsB a.pat.args).contains v) := by
    intro l
    induction l with
    | nil => intro i _; rfl
    | cons c l ih =>
      intro i hc
      rw [d_spec_l5Elsewhere_L1, sCondV _ (hc c (by simp)), Option.bind_some, sHas, Option.bind_some, contains_uniqS, ih _ (fun x hx => hc x (by simp [hx]))]
      simp only [elsC, bne, beq_dec]
      by_cases hi : ((i : Nat) : Int) = k
      · simp [hi]
      · cases (condV c).contains v <;> simp [hi]
  rw [k2 _ _ (fun c hc => Rule.act_le h hc), k1 _ _ (fun c hc => Rule.cond_le h hc)]
theorem iEls (r : Rule) (k : Int) (v : Bytes) (hv : varB v = true) (h : r.wt ≤ 1048576) : d_impl_occursElsewhere r k v = some (elsB r k v) := by
  unfold d_impl_occursElsewhere elsB
  have k2 : ∀ (l : List Action) (i : Nat), d_impl_occursElsewhere_L2 r v (some false) l i = some (l.any fun a => (varsB a.pat.args).contains v) := by
    intro l
    induction l with
    | nil => intro i; rfl
    | cons a l ih =>
      intro i
      rw [d_impl_occursElsewhere_L2, iHas, Option.bind_some, contains_vars hv, ih, List.any_cons]
      cases (varsB a.pat.args).contains v <;> rfl
  have k1 : ∀ (l : List Cond) (i : Nat), (∀ c ∈ l, c.wt ≤ 1048576) → d_impl_occursElsewhere_L1 r k v (some (r.acts.any fun a => (varsB a.pat.args).contains v)) l i = some (elsC v k l i || r.acts.any fun a => (varsB a.pat.args).contains v) := by
    intro l
    induction l with
    | nil => intro i _; rfl
    | cons c l ih =>
      intro i hc
      rw [d_impl_occursElsewhere_L1, iCondV _ (hc c (by simp)), Option.bind_some, iHas, Option.bind_some, contains_uniqS, ih _ (fun x hx => hc x (by simp [hx]))]
      simp only [elsC, bne, beq_dec]
      by_cases hi : ((i : Nat) : Int) = k
      · simp [hi]
      · cases (condV c).contains v <;> simp [hi]
  rw [k2, k1 _ _ (fun c hc => Rule.cond_le h hc)]
/-- a variable of a condition is bound as it should -/
def fitB (r : Rule) (i : Nat) (c : Cond) (v : Bytes) : Bool := decide (c.kind = 1) || (bndV r i).contains v || (decide (c.kind = 2) && !elsB r i v)
def condsB (r : Rule) : List Cond → Nat → Bool
  | [], _ => true
  | c :: cs, i => (condB c && (!decide (i = 0) || decide (c.kind = 1)) && (uniqS (condV c)).all (fitB r i c)) && condsB r cs (i + 1)
def actsB (r : Rule) : Bool := r.acts.all fun a => actB a && (varsB a.pat.args).all fun v => (bndV r r.conds.length).contains v
def ruleB (r : Rule) : Bool := nameB r.name && (decide (0 ≤ r.prio) && decide (r.prio ≤ 9)) && (decide (1 ≤ (r.conds.length : Int)) && decide ((r.conds.length : Int) ≤ 4)) && (decide (1 ≤ (r.acts.length : Int)) && decide ((r.acts.length : Int) ≤ 2)) &&
  (condsB r r.conds 0 && (actsB r && decide (((uniqS (cndV r.conds)).length : Int) ≤ 6)))
theorem all_uniqS (l : List Bytes) (p : Bytes → Bool) : (uniqS l).all p = l.all p := by
  rw [Bool.eq_iff_iff]
  simp [List.all_eq_true, mem_uniqS]
theorem bnd_sub (r : Rule) (n : Int) {v : Bytes} (h : v ∈ bndV r n) : v ∈ cndV r.conds := by
  unfold bndV at h
  obtain ⟨c, hc, hv⟩ := List.mem_flatMap.1 h
  refine List.mem_flatMap.2 ⟨c, List.mem_of_mem_take hc, ?_⟩
  unfold bnd1 at hv
  cases hk : decide (c.kind = 1) with
  | false => rw [hk] at hv; cases hv
  | true =>
    rw [hk] at hv
    simp only [cond_true] at hv
    unfold condV
    rw [varsB_app]
    exact List.mem_append.2 (.inl hv)
theorem actsB_vars {r : Rule} (h : actsB r = true) : uniqS (rulV r) = uniqS (cndV r.conds) := by
  refine uniqS_congr (fun x => ?_)
  unfold rulV
  simp only [List.mem_append]
  constructor
  · rintro (hx | hx)
    · exact hx
    · obtain ⟨a, ha, hv⟩ := List.mem_flatMap.1 hx
      unfold actsB at h
      have := List.all_eq_true.1 h a ha
      simp only [Bool.and_eq_true, List.all_eq_true] at this
      have := this.2 x hv
      exact bnd_sub r _ (by simpa using this)
  · exact .inl
theorem sRuleL2 (r : Rule) (y : List Bytes) (i : Nat) (c : Cond) (l : List Bytes) (k : Option Bool) (hc : c.wt ≤ 1048576) (hr : r.wt ≤ 1048576) (hcb : condB c = true) : ∀ (rest : List Bytes) (j : Nat), d_spec_IsRule_L2 r y i c (uniqS (bndV r i)) l k rest j = bif rest.all (fitB r i c) then k else some false := by
  have hk := condB_kind hcb
  intro rest
  induction rest with
  | nil => intro j; rfl
  | cons v rest ih =>
    intro j
    rw [d_spec_IsRule_L2, sHas, Option.bind_some, contains_uniqS, sTest c hc, Option.bind_some, sEls r _ v hr, Option.bind_some, ih, List.all_cons]
    unfold testB fitB
    rw [hcb]
    by_cases h1 : c.kind = 1
    · simp [h1]
    by_cases h2 : c.kind = 2
    · cases (bndV r i).contains v <;> cases elsB r i v <;> simp [h2]
    have h3 : c.kind ≥ 3 := by omega
    cases (bndV r i).contains v <;> simp [h1, h2, h3]
theorem sRuleL3 (r : Rule) (y : List Bytes) (i : Nat) (c : Cond) (l : List Bytes) (k : Option Bool) (hc : c.wt ≤ 1048576) (hr : r.wt ≤ 1048576) (hcb : condB c = true) : ∀ (rest : List Bytes) (j : Nat), d_spec_IsRule_L3 r y i c (uniqS (bndV r i)) l k rest j = bif rest.all (fitB r i c) then k else some false := by
  have hk := condB_kind hcb
  intro rest
  induction rest with
  | nil => intro j; rfl
  | cons v rest ih =>
    intro j
    rw [d_spec_IsRule_L3, sHas, Option.bind_some, contains_uniqS, sTest c hc, Option.bind_some, sEls r _ v hr, Option.bind_some, ih, List.all_cons]
    unfold testB fitB
    rw [hcb]
    by_cases h1 : c.kind = 1
    · simp [h1]
    by_cases h2 : c.kind = 2
    · cases (bndV r i).contains v <;> cases elsB r i v <;> simp [h2]
    have h3 : c.kind ≥ 3 := by omega
    cases (bndV r i).contains v <;> simp [h1, h2, h3]
theorem sRuleL1 (r : Rule) (y : List Bytes) (k : Option Bool) (hr : r.wt ≤ 1048576) : ∀ (rest : List Cond) (i : Nat), (∀ c ∈ rest, c.wt ≤ 1048576) → d_spec_IsRule_L1 r y k rest i = bif condsB r rest i then k else some false := by
  intro rest
  induction rest with
  | nil => intro i _; rfl
  | cons c rest ih =>
    intro i h
    have hc := h c (by simp)
    have hl := condV_len hc
    have hu := len_uniqS (condV c)
    rw [d_spec_IsRule_L1, sCond c hc, Option.bind_some, condsB]
    cases hcb : condB c with
    | false => rfl
    | true =>
      rw [sBound r _ hr, sCondV c hc, ih _ (fun x hx => h x (by simp [hx]))]
      simp only [Option.bind_some, lenOk (show (uniqS (condV c)).length ≤ 1099511627776 by omega), cond_true]
      rw [sRuleL2 r y i c _ _ hc hr hcb, sRuleL3 r y i c _ _ hc hr hcb]
      simp only [bne, beq_dec]
      have e0 : decide (((i : Int) : Int) = 0) = decide (i = 0) := by rw [Bool.eq_iff_iff]; simp
      rw [e0]
      cases decide (i = 0) <;> cases decide (c.kind = 1) <;> cases (uniqS (condV c)).all (fitB r i c) <;> simp
theorem sRuleL5 (r : Rule) (y : List Bytes) (i : Nat) (l : List Bytes) (k : Option Bool) : ∀ (rest : List Bytes) (j : Nat), d_spec_IsRule_L5 r y i l k rest j = bif rest.all (fun v => y.contains v) then k else some false :=
  fun rest j => allL (f := fun v => d_spec_l1HasText y v) (L := d_spec_IsRule_L5 r y i l k) (fun _ => rfl) (fun _ _ _ => rfl) rest j (fun v _ => sHas y v)
theorem sRuleL4 (r : Rule) (b : List Bytes) (k : Option Bool) : ∀ (rest : List Action) (i : Nat), (∀ a ∈ rest, a.wt ≤ 1048576) → d_spec_IsRule_L4 r (uniqS b) k rest i = bif rest.all (fun a => actB a && (varsB a.pat.args).all fun v => b.contains v) then k else some false := by
  intro rest
  induction rest with
  | nil => intro i _; rfl
  | cons a rest ih =>
    intro i h
    have ha := h a (by simp)
    have h1 := varsB_len a.pat.args
    have h2 := Fact.args_le (Action.pat_le ha)
    have hu := len_uniqS (varsB a.pat.args)
    rw [d_spec_IsRule_L4, sAct a ha, Option.bind_some, sVarsOf _ (Action.pat_le ha), Option.bind_some, lenOk (by omega), ih _ (fun x hx => h x (by simp [hx])), sRuleL5, List.all_cons, all_uniqS]
    have e : ((varsB a.pat.args).all fun v => (uniqS b).contains v) = (varsB a.pat.args).all fun v => b.contains v := by
      congr 1; funext v; exact contains_uniqS b v
    rw [e]
    cases actB a <;> cases (varsB a.pat.args).all (fun v => b.contains v) <;> simp
theorem sRule (r : Rule) (h : r.wt ≤ 1048576) : d_spec_IsRule r = some (ruleB r) := by
  unfold d_spec_IsRule
  simp only [sName _ (Rule.name_le h), Option.bind_some, in_eq, List.length_map]
  rw [sBound r _ h]
  simp only [Option.bind_some]
  rw [sRuleL1 r _ _ h _ _ (fun c hc => Rule.cond_le h hc), sRuleL4 r _ _ _ _ (fun a ha => Rule.act_le h ha), sRuleV r h]
  simp only [Option.bind_some, List.length_map]
  have hab : (r.acts.all fun a => actB a && (varsB a.pat.args).all fun v => (bndV r r.conds.length).contains v) = actsB r := rfl
  rw [hab]
  unfold ruleB
  have g1 : decide (r.prio ≥ 0) = decide (0 ≤ r.prio) := rfl
  have g2 : decide ((r.conds.length : Int) ≥ 1) = decide (1 ≤ (r.conds.length : Int)) := rfl
  have g3 : decide ((r.acts.length : Int) ≥ 1) = decide (1 ≤ (r.acts.length : Int)) := rfl
  rw [g1, g2, g3]
  cases ha : actsB r with
  | false => cases nameB r.name <;> cases (decide (0 ≤ r.prio) && decide (r.prio ≤ 9)) <;> cases (decide (1 ≤ (r.conds.length : Int)) && decide ((r.conds.length : Int) ≤ 4)) <;> cases (decide (1 ≤ (r.acts.length : Int)) && decide ((r.acts.length : Int) ≤ 2)) <;> cases condsB r r.conds 0 <;> rfl
  | true =>
    rw [actsB_vars ha]
    cases nameB r.name <;> cases (decide (0 ≤ r.prio) && decide (r.prio ≤ 9)) <;> cases (decide (1 ≤ (r.conds.length : Int)) && decide ((r.conds.length : Int) ≤ 4)) <;> cases (decide (1 ≤ (r.acts.length : Int)) && decide ((r.acts.length : Int) ≤ 2)) <;> cases condsB r r.conds 0 <;> simp
theorem iFitsL (r : Rule) (i : Nat) (c : Cond) (l : List Bytes) (k : Option Bool) (hr : r.wt ≤ 1048576) (hcb : condB c = true) : ∀ (rest : List Bytes) (j : Nat), (∀ v ∈ rest, varB v = true) → d_impl_condFits_L1 r (i : Int) c (uniqS (bndV r i)) l k rest j = bif rest.all (fitB r i c) then k else some false := by
  have hk := condB_kind hcb
  intro rest
  induction rest with
  | nil => intro j _; rfl
  | cons v rest ih =>
    intro j hv
    rw [d_impl_condFits_L1, iHas, Option.bind_some, contains_uniqS, iEls r _ v (hv v (by simp)) hr, Option.bind_some, ih _ (fun x hx => hv x (by simp [hx])), List.all_cons]
    unfold fitB
    simp only [bne, beq_dec]
    by_cases h1 : c.kind = 1
    · simp [h1]
    by_cases h2 : c.kind = 2
    · cases (bndV r i).contains v <;> cases elsB r i v <;> simp [h2]
    cases (bndV r i).contains v <;> simp [h1, h2]
theorem iFits (r : Rule) (i : Nat) (c : Cond) (hr : r.wt ≤ 1048576) (hi : r.conds[i]? = some c) (hcb : condB c = true) : d_impl_condFits r (i : Int) = some ((uniqS (condV c)).all (fitB r i c)) := by
  unfold d_impl_condFits
  have hc := Rule.cond_le hr (List.mem_of_getElem? hi)
  have hl := condV_len hc
  have hu := len_uniqS (condV c)
  have e : atI r.conds (i : Int) = some c := by unfold atI; simp [hi]
  rw [e, Option.bind_some, iBound r _ hr, Option.bind_some, iCondV c hc, Option.bind_some, lenOk (by omega), cond_true, iFitsL r i c _ _ hr hcb _ _ (fun v hv => by
    rw [mem_uniqS] at hv
    unfold condV varsB at hv
    exact (List.mem_filter.1 hv).2)]
  cases (uniqS (condV c)).all (fitB r i c) <;> rfl
theorem iRuleL1 (r : Rule) (k : Option Bool) (hr : r.wt ≤ 1048576) : ∀ (rest pre : List Cond), r.conds = pre ++ rest → d_impl_IsRule_L1 r k rest pre.length = bif condsB r rest pre.length then k else some false := by
  intro rest
  induction rest with
  | nil => intro pre _; rfl
  | cons c rest ih =>
    intro pre h
    have hm : c ∈ r.conds := by rw [h]; simp
    have hc := Rule.cond_le hr hm
    have hi : r.conds[pre.length]? = some c := by rw [h]; simp
    have t := ih (pre ++ [c]) (by rw [h]; simp)
    simp only [List.length_append, List.length_cons, List.length_nil] at t
    rw [d_impl_IsRule_L1, iCond c hc, Option.bind_some, condsB]
    cases hcb : condB c with
    | false => rfl
    | true =>
      rw [iFits r _ c hr hi hcb, Option.bind_some, t]
      simp only [bne, beq_dec]
      have e0 : decide ((((pre.length : Nat) : Int) : Int) = 0) = decide (pre.length = 0) := by rw [Bool.eq_iff_iff]; simp
      rw [e0]
      cases decide (pre.length = 0) <;> cases decide (c.kind = 1) <;> cases (uniqS (condV c)).all (fitB r pre.length c) <;> simp
theorem iRuleL3 (r : Rule) (y : List Bytes) (i : Nat) (l : List Bytes) (k : Option Bool) : ∀ (rest : List Bytes) (j : Nat), d_impl_IsRule_L3 r y i l k rest j = bif rest.all (fun v => y.contains v) then k else some false :=
  fun rest j => allL (f := fun v => d_impl_hasText y v) (L := d_impl_IsRule_L3 r y i l k) (fun _ => rfl) (fun _ _ _ => rfl) rest j (fun v _ => iHas y v)
theorem iRuleL2 (r : Rule) (b : List Bytes) (k : Option Bool) : ∀ (rest : List Action) (i : Nat), (∀ a ∈ rest, a.wt ≤ 1048576) → d_impl_IsRule_L2 r (uniqS b) k rest i = bif rest.all (fun a => actB a && (varsB a.pat.args).all fun v => b.contains v) then k else some false := by
  intro rest
  induction rest with
  | nil => intro i _; rfl
  | cons a rest ih =>
    intro i h
    have ha := h a (by simp)
    have h1 := varsB_len a.pat.args
    have h2 := Fact.args_le (Action.pat_le ha)
    rw [d_impl_IsRule_L2, iAct a ha, Option.bind_some, iVars _ (by omega) (fun x hx => Fact.arg_le (Action.pat_le ha) hx), Option.bind_some, lenOk (by omega), ih _ (fun x hx => h x (by simp [hx])), iRuleL3, List.all_cons]
    have e : ((varsB a.pat.args).all fun v => (uniqS b).contains v) = (varsB a.pat.args).all fun v => b.contains v := by
      congr 1; funext v; exact contains_uniqS b v
    rw [e]
    cases actB a <;> cases (varsB a.pat.args).all (fun v => b.contains v) <;> simp
theorem iRule (r : Rule) (h : r.wt ≤ 1048576) : d_impl_IsRule r = some (ruleB r) := by
  unfold d_impl_IsRule
  have hcu := cndU_len r.conds
  have hcl := Rule.conds_le h
  rw [show d_impl_IsRule_L1 r _ r.conds 0 = _ from iRuleL1 r _ h r.conds [] rfl, iBound r _ h, Option.bind_some, iRuleL2 r _ _ _ _ (fun a ha => Rule.act_le h ha), iCndV _ (fun c hc => Rule.cond_le h hc) hcl, Option.bind_some, iSorted _ (by omega), iName _ (Rule.name_le h)]
  have e := cndU r.conds []
  simp only [List.append_nil] at e
  rw [e]
  simp only [Option.bind_some, List.length_map, List.length_nil]
  have hab : (r.acts.all fun a => actB a && (varsB a.pat.args).all fun v => (bndV r r.conds.length).contains v) = actsB r := rfl
  rw [hab]
  unfold ruleB
  have g1 : decide (0 ≤ r.prio) = !decide (r.prio < 0) := by rw [Bool.eq_iff_iff]; simp
  have g2 : decide (r.prio ≤ 9) = !decide (r.prio > 9) := by rw [Bool.eq_iff_iff]; simp
  have g3 : decide (1 ≤ (r.conds.length : Int)) = !decide ((r.conds.length : Int) < 1) := by rw [Bool.eq_iff_iff]; simp
  have g4 : decide ((r.conds.length : Int) ≤ 4) = !decide ((r.conds.length : Int) > 4) := by rw [Bool.eq_iff_iff]; simp
  have g5 : decide (1 ≤ (r.acts.length : Int)) = !decide ((r.acts.length : Int) < 1) := by rw [Bool.eq_iff_iff]; simp
  have g6 : decide ((r.acts.length : Int) ≤ 2) = !decide ((r.acts.length : Int) > 2) := by rw [Bool.eq_iff_iff]; simp
  rw [g1, g2, g3, g4, g5, g6]
  cases nameB r.name
  · rfl
  cases decide (r.prio < 0)
  case true => rfl
  cases decide (r.prio > 9)
  case true => rfl
  cases decide ((r.conds.length : Int) < 1)
  case true => rfl
  cases decide ((r.conds.length : Int) > 4)
  case true => rfl
  cases decide ((r.acts.length : Int) < 1)
  case true => rfl
  cases decide ((r.acts.length : Int) > 2)
  case true => rfl
  cases condsB r r.conds 0
  · rfl
  cases actsB r
  · rfl
  simp
end Go.Cx

/- Comparing rules and networks, stamps and times, in plain words. No condition but bounds on sizes. -/
namespace Go.Cx
open Go.RowKit Go.Proofs
set_option linter.unusedVariables false
set_option linter.unusedSimpArgs false
theorem pair_dec (x y : Pair) : ((x.var : Bytes) == y.var && (x.value : Bytes) == y.value) = decide (x = y) := by
  obtain ⟨x0, x1⟩ := x; obtain ⟨y0, y1⟩ := y
  simp only [beq_dec]
  by_cases h0 : x0 = y0 <;> by_cases h1 : x1 = y1 <;> simp [h0, h1]
theorem iSameB (a b : List Pair) : d_impl_samePairs a b = some (decide (a = b)) := by
  unfold d_impl_samePairs
  exact eqL (c := Pair.c) (f := fun x y => some (decide (x = y))) (fun k => d_impl_samePairs_L1 a b k) (fun _ _ => rfl) (fun k x xs i => by rw [d_impl_samePairs_L1]; congr 1; funext y; rw [pair_dec]; rfl) (fun _ _ => rfl)
end Go.Cx

/- Reading numbers, and the orders of atoms, facts and tokens, in plain words: of the program and of the reference. No condition but bounds on sizes. -/
namespace Go.Cx
open Go.RowKit Go.Proofs
set_option linter.unusedVariables false
set_option linter.unusedSimpArgs false
/-! numbers -/
def numB (s : Bytes) : Option Nat := if 1 ≤ s.length ∧ s.length ≤ 4 then (match Lib.decFrom 0 s with | some n => if Lib.decDigits n = s then some n else none | none => none) else none
def pI (s : Bytes) : Int × Bool := match numB s with | some n => ((n : Int), true) | none => (0, false)
theorem dig_byte : ∀ (u : Nat), ∀ b ∈ Lib.decDigits u, 48 ≤ b.toNat ∧ b.toNat ≤ 57 := by
  intro u
  induction u using Nat.strongRecOn with
  | _ u ih =>
    have hb : ∀ v : Nat, v < 10 → 48 ≤ (UInt8.ofNat (48 + v)).toNat ∧ (UInt8.ofNat (48 + v)).toNat ≤ 57 := by
      intro v hv
      have : (UInt8.ofNat (48 + v)).toNat = 48 + v := by simp; omega
      omega
    intro b hm
    rw [Lib.decDigits] at hm
    split at hm
    · rename_i h10
      simp only [List.mem_singleton] at hm
      subst hm
      exact hb u h10
    · rename_i h10
      rcases List.mem_append.1 hm with hm | hm
      · exact ih (u / 10) (by omega) b hm
      · simp only [List.mem_singleton] at hm
        subst hm
        exact hb (u % 10) (by omega)
theorem sParseL (a : Bytes) (k : Int → Option (Int × Bool)) (ha : a.length ≤ 4) : ∀ (rest pre : Bytes) (acc : Nat), a = pre ++ rest → acc < 10 ^ pre.length → ∀ n, rest.length < n →
    d_spec_ParseInt_L1 a k n (acc : Int) (pre.length : Int) = (match Lib.decFrom acc rest with | some m => k (m : Int) | none => some (0, false)) := by
  intro rest
  induction rest with
  | nil =>
    intro pre acc h _ n hn
    obtain ⟨m, rfl⟩ : ∃ m, n = m + 1 := ⟨n - 1, by simp at hn; omega⟩
    have e1 : decide ((pre.length : Int) < (a.length : Int)) = false := by simp [h]
    rw [d_spec_ParseInt_L1, e1]; rfl
  | cons x xs ih =>
    intro pre acc h hacc n hn
    obtain ⟨m, rfl⟩ : ∃ m, n = m + 1 := ⟨n - 1, by simp at hn; omega⟩
    have hl : a.length = pre.length + (xs.length + 1) := by rw [h]; simp
    have e1 : decide ((pre.length : Int) < (a.length : Int)) = true := by rw [hl]; simp; omega
    have e4 : IntKind.i64.wrap ((pre.length : Int) + 1) = ((pre ++ [x]).length : Int) := by rw [wrap1 (by omega)]; simp
    have h10 : acc < 10000 := Nat.lt_of_lt_of_le hacc (Nat.pow_le_pow_right (by omega) (show pre.length ≤ 4 by omega))
    have hx := x.toNat_lt
    rw [d_spec_ParseInt_L1, e1, cond_true, atI_mid h, Option.bind_some, e4]
    by_cases c1 : (x.toNat : Int) < 48
    · have : Lib.digitVal x = none := by unfold Lib.digitVal; rw [if_neg (by omega)]
      simp only [Lib.decFrom, this]
      rw [decide_eq_true c1, cond_true]
    · by_cases c2 : (x.toNat : Int) > 57
      · have : Lib.digitVal x = none := by unfold Lib.digitVal; rw [if_neg (by omega)]
        simp only [Lib.decFrom, this]
        rw [decide_eq_false c1, cond_false, decide_eq_true c2, cond_true]
      · have hd : Lib.digitVal x = some (x.toNat - 48) := by unfold Lib.digitVal; rw [if_pos (by omega)]
        have e5 : IntKind.i64.wrap ((IntKind.i64.wrap ((10) * (acc : Int))) + (IntKind.i64.wrap (IntKind.u8.wrap ((x.toNat : Int) - (48))))) = ((acc * 10 + (x.toNat - 48) : Nat) : Int) := by
          rw [wrap_in (k := .u8) (InR.u8.2 (by omega)), wrap_in (n := (10 : Int) * (acc : Int)) (InR.i64.2 (by omega)), wrap_in (n := (x.toNat : Int) - 48) (InR.i64.2 (by omega)), wrap_in (InR.i64.2 (by omega))]
          omega
        simp only [Lib.decFrom, hd]
        rw [decide_eq_false c1, cond_false, decide_eq_false c2, cond_false, e5]
        refine ih (pre ++ [x]) _ (by simp [h]) ?_ m (by simp at hn; omega)
        rw [List.length_append, List.length_singleton, Nat.pow_succ]
        omega
theorem sParse (s : Bytes) : d_spec_ParseInt s = some (pI s) := by
  unfold d_spec_ParseInt
  rw [in_eq, Option.bind_some]
  by_cases hl : 1 ≤ s.length ∧ s.length ≤ 4
  · have e1 : (decide ((s.length : Int) ≥ 1) && decide ((s.length : Int) ≤ 4)) = true := by simp; omega
    have t := sParseL s (fun z => ((d_spec_FormatInt (z)).bind fun y29 => (bif !((y29 : Bytes) == (s)) then (some ((0, false))) else (some ((z, true)))))) hl.2 s [] 0 rfl (by simp) fuel (by unfold fuel; omega)
    rw [e1, Bool.not_true, cond_false]
    refine t.trans ?_
    unfold pI numB
    rw [if_pos hl]
    cases hd : Lib.decFrom 0 s with
    | none => rfl
    | some m =>
      have hm := Lib.decFrom_lt s 0 m hd
      have h10 : m < 10000 := by
        have := Nat.pow_le_pow_right (n := 10) (by omega) hl.2
        omega
      simp only
      rw [sFmt _ (InR.i64.2 (by omega)), Option.bind_some]
      have e2 : Lib.itoa (m : Int) = Lib.decDigits m := by unfold Lib.itoa; rw [if_neg (by omega)]; simp
      rw [e2]
      by_cases he : Lib.decDigits m = s
      · rw [if_pos he, he]; simp
      · rw [if_neg he]
        have : (Lib.decDigits m == s) = false := by simpa using he
        rw [this]; rfl
  · have e1 : (decide ((s.length : Int) ≥ 1) && decide ((s.length : Int) ≤ 4)) = false := by
      rw [Bool.and_eq_false_iff, decide_eq_false_iff_not, decide_eq_false_iff_not]; omega
    rw [e1]
    unfold pI numB
    rw [if_neg hl]
    rfl
theorem iParse (s : Bytes) : d_impl_ParseInt s = some (pI s) := by
  unfold d_impl_ParseInt pI numB
  by_cases hl : 1 ≤ s.length ∧ s.length ≤ 4
  · have e1 : decide ((s.length : Int) < 1) = false := by simp; omega
    have e2 : decide ((s.length : Int) > 4) = false := by simp; omega
    rw [if_pos hl, e1, cond_false, e2, cond_false]
    unfold d_strconv_Atoi l_Atoi
    rw [if_pos (by omega)]
    cases s with
    | nil => simp at hl
    | cons b t =>
      have fin : ∀ (m : Nat), Lib.decFrom 0 (b :: t) = some m → (bif decide ((m : Int) < 0) then some ((0 : Int), false) else bif decide ((m : Int) > 9999) then some (0, false) else (d_impl_FormatInt (m : Int)).bind fun y8 => bif !((y8 : Bytes) == (b :: t)) then some (0, false) else some ((m : Int), true)) =
          some (match (if Lib.decDigits m = b :: t then some m else none) with | some n => ((n : Int), true) | none => (0, false)) := by
        intro m hd
        have hm := Lib.decFrom_lt (b :: t) 0 m hd
        have h10 : m < 10000 := by
          have := Nat.pow_le_pow_right (n := 10) (by omega) hl.2
          omega
        have e3 : decide ((m : Int) < 0) = false := by simp
        have e4 : decide ((m : Int) > 9999) = false := by simp; omega
        have e5 : Lib.itoa (m : Int) = Lib.decDigits m := by unfold Lib.itoa; rw [if_neg (by omega)]; simp
        rw [e3, cond_false, e4, cond_false, iFmt, Option.bind_some, e5]
        by_cases he : Lib.decDigits m = b :: t
        · rw [if_pos he, he]; simp
        · rw [if_neg he]
          have : (Lib.decDigits m == (b :: t)) = false := by simpa using he
          rw [this]; rfl
      have sign : ∀ (n : Int), b.toNat < 48 → (bif decide (n < 0) then some ((0 : Int), false) else bif decide (n > 9999) then some (0, false) else (d_impl_FormatInt n).bind fun y8 => bif !((y8 : Bytes) == (b :: t)) then some (0, false) else some (n, true)) = some (0, false) := by
        intro n hb
        by_cases hn : n < 0
        · rw [decide_eq_true hn]; rfl
        rw [decide_eq_false hn, cond_false, iFmt, Option.bind_some]
        cases decide (n > 9999) with
        | true => rfl
        | false =>
          have e5 : Lib.itoa n = Lib.decDigits n.toNat := by unfold Lib.itoa; rw [if_neg hn]
          have : (Lib.itoa n == (b :: t)) = false := by
            rw [e5, beq_eq_false_iff_ne]
            intro h
            have := dig_byte n.toNat b (by rw [h]; simp)
            omega
          rw [this]; rfl
      simp only [Lib.atoi]
      by_cases hb : b = 45
      · subst hb
        have hd : Lib.decFrom 0 ((45 : UInt8) :: t) = none := by simp [Lib.decFrom, Lib.digitVal]
        rw [if_pos (by decide), hd]
        cases Lib.decNat t with
        | none => rfl
        | some m => exact sign _ (by decide)
      · rw [if_neg (by simpa using hb)]
        by_cases hb2 : b = 43
        · subst hb2
          have hd : Lib.decFrom 0 ((43 : UInt8) :: t) = none := by simp [Lib.decFrom, Lib.digitVal]
          rw [if_pos (by decide), hd]
          cases Lib.decNat t with
          | none => rfl
          | some m => exact sign (m : Int) (by decide)
        · rw [if_neg (by simpa using hb2)]
          have hdn : Lib.decNat (b :: t) = Lib.decFrom 0 (b :: t) := by simp [Lib.decNat]
          rw [hdn]
          cases hd : Lib.decFrom 0 (b :: t) with
          | none => rfl
          | some m => exact fin m hd
  · rw [if_neg hl]
    by_cases h1 : (s.length : Int) < 1
    · rw [decide_eq_true h1]; rfl
    · have h2 : (s.length : Int) > 4 := by omega
      rw [decide_eq_false h1, cond_false, decide_eq_true h2]; rfl
/-! orders -/
def cmpT (a b : Bytes) : Int := if Op.bytesLess a b = true then -1 else if a = b then 0 else 1
def cmpN (x y : Int) : Int := if x < y then -1 else if x > y then 1 else 0
def cmpA (a b : Bytes) : Int := match numB a, numB b with
  | some x, some y => cmpN x y
  | some _, none => -1
  | none, some _ => 1
  | none, none => cmpT a b
def diffL {α : Type} (g : α → α → Int) : List α → List α → Option Int
  | x :: xs, y :: ys => if g x y ≠ 0 then some (g x y) else diffL g xs ys
  | _, _ => none
def cmpL {α : Type} (g : α → α → Int) (a b : List α) : Int := match diffL g a b with | some z => z | none => cmpN a.length b.length
def cmpF (a b : Fact) : Int := if a.rel ≠ b.rel then cmpT a.rel b.rel else cmpL cmpA a.args b.args
theorem cmpT_ne {a b : Bytes} (h : a ≠ b) : cmpT a b ≠ 0 := by
  unfold cmpT
  split
  · omega
  · first | omega | (rw [if_neg h]; omega)
theorem cmpT_self (a : Bytes) : cmpT a a = 0 := by
  unfold cmpT
  rw [bl_irrefl]; simp
theorem cmpB_eq : ∀ (a b : Bytes), Lib.compareBytes a b = cmpT a b
  | [], [] => by simp [Lib.compareBytes, cmpT, Op.bytesLess]
  | [], _ :: _ => by simp [Lib.compareBytes, cmpT, Op.bytesLess]
  | _ :: _, [] => by simp [Lib.compareBytes, cmpT, Op.bytesLess]
  | a :: xs, b :: ys => by
    have ih := cmpB_eq xs ys
    simp only [Lib.compareBytes, cmpT, Op.bytesLess]
    by_cases h1 : a < b
    · simp [h1]
    · by_cases h2 : b < a
      · have hne : a ≠ b := fun e => by subst e; exact h1 h2
        simp [h1, h2, hne]
      · have e : a = b := by
          rw [UInt8.lt_iff_toNat_lt] at h1 h2
          exact UInt8.toNat_inj.1 (by omega)
        subst e
        rw [if_neg h1, if_neg h1, ih]
        simp [cmpT, h1]
theorem cmpLoop {α : Type} {f : α → α → Option Int} {g : α → α → Int} {c : α → List D} {L : List α → Nat → Option Int} {k : Option Int} {b : List α} (hnil : ∀ i, L [] i = k)
    (hcons : ∀ x xs i, L (x :: xs) i = bif decide (((i : Int) : Int) < (((b.map c).length : Int))) then ((atI b ((i : Int))).bind fun y => ((f x y).bind fun z => (bif (z : Int) != (0) then (some z) else (L xs (i + 1))))) else k) :
    ∀ (l pre rest : List α), b = pre ++ rest → (∀ x ∈ l, ∀ y ∈ rest, f x y = some (g x y)) → L l pre.length = (match diffL g l rest with | some z => some z | none => k) := by
  intro l
  induction l with
  | nil => intro pre rest h _; rw [hnil]; cases rest <;> rfl
  | cons x xs ih =>
    intro pre rest h hf
    rw [hcons]
    cases rest with
    | nil =>
      have e1 : decide ((pre.length : Int) < ((b.map c).length : Int)) = false := by simp [h]
      rw [e1]; rfl
    | cons y ys =>
      have e1 : decide ((pre.length : Int) < ((b.map c).length : Int)) = true := by simp [h]; omega
      rw [e1, cond_true, atI_mid h, Option.bind_some, hf x (by simp) y (by simp), Option.bind_some]
      simp only [diffL]
      have t := ih (pre ++ [y]) ys (by simp [h]) (fun x' hx y' hy => hf x' (by simp [hx]) y' (by simp [hy]))
      rw [List.length_append, List.length_singleton] at t
      by_cases hz : g x y = 0
      · have e2 : (g x y != 0) = false := by simp [hz]
        rw [e2, cond_false, t, if_neg (by simp [hz])]
      · have e2 : (g x y != 0) = true := by simp [hz]
        rw [e2, cond_true, if_pos hz]
theorem cmpN_eq (x y : Int) : (bif decide (x < y) then some (-1 : Int) else bif decide (x > y) then some 1 else some 0) = some (cmpN x y) := by
  unfold cmpN
  by_cases h1 : x < y
  · simp [h1]
  · by_cases h2 : x > y
    · simp [h1, h2]
    · simp [h1, h2]
theorem sCmpT (a b : Bytes) : d_spec_l1Cmp a b = some (cmpT a b) := by
  unfold d_spec_l1Cmp cmpT
  cases h : Op.bytesLess a b with
  | true => rfl
  | false =>
    by_cases e : a = b
    · simp [e]
    · have e' : (a == b) = false := by simpa using e
      simp [e, e']
theorem sCmpA (a b : Bytes) : d_spec_CompareAtoms a b = some (cmpA a b) := by
  unfold d_spec_CompareAtoms cmpA
  rw [sParse, sParse, Option.bind_some, Option.bind_some, sCmpT]
  unfold pI
  cases numB a with
  | none => cases numB b <;> rfl
  | some x =>
    cases numB b with
    | none => rfl
    | some y =>
      simp only [cond_true, Bool.not_true, cond_false]
      exact cmpN_eq _ _
theorem iCmpN (x y : Int) : d_impl_compareInts x y = some (cmpN x y) := by
  unfold d_impl_compareInts
  exact cmpN_eq x y
theorem iCmpB (a b : Bytes) : d_strings_Compare a b = some (cmpT a b) := by
  unfold d_strings_Compare
  show some (Lib.compareBytes a b) = _
  rw [cmpB_eq]
theorem iCmpA (a b : Bytes) : d_impl_CompareAtoms a b = some (cmpA a b) := by
  unfold d_impl_CompareAtoms cmpA
  rw [iParse, iParse, Option.bind_some, Option.bind_some, iCmpB]
  unfold pI
  cases numB a with
  | none => cases numB b <;> rfl
  | some x =>
    cases numB b with
    | none => rfl
    | some y =>
      simp only [cond_true, iCmpN, Option.bind_some]
theorem sCmpF (a b : Fact) : d_spec_CompareFacts a b = some (cmpF a b) := by
  unfold d_spec_CompareFacts cmpF
  by_cases h : a.rel = b.rel
  · have e : (a.rel == b.rel) = true := by simpa using h
    rw [e, Bool.not_true, cond_false, if_neg (by simpa using h)]
    have t := fun k => cmpLoop (f := d_spec_CompareAtoms) (g := cmpA) (c := tx) (L := d_spec_CompareFacts_L1 a b k) (b := b.args) (k := k) (fun _ => rfl) (fun _ _ _ => rfl) a.args [] b.args rfl (fun x _ y _ => sCmpA x y)
    refine (t _).trans ?_
    unfold cmpL
    cases diffL cmpA a.args b.args with
    | some z => rfl
    | none => simp only [List.length_map]; exact cmpN_eq _ _
  · have e : (a.rel == b.rel) = false := by simpa using h
    rw [e, Bool.not_false, cond_true, if_pos h, sCmpT]; rfl
theorem iCmpF (a b : Fact) : d_impl_CompareFacts a b = some (cmpF a b) := by
  unfold d_impl_CompareFacts cmpF
  rw [iCmpB, Option.bind_some]
  by_cases h : a.rel = b.rel
  · have e : (cmpT a.rel b.rel != 0) = false := by rw [h, cmpT_self]; rfl
    rw [e, cond_false, if_neg (by simpa using h)]
    have t := fun k => cmpLoop (f := d_impl_CompareAtoms) (g := cmpA) (c := tx) (L := d_impl_CompareFacts_L1 a b k) (b := b.args) (k := k) (fun _ => rfl) (fun _ _ _ => rfl) a.args [] b.args rfl (fun x _ y _ => iCmpA x y)
    refine (t _).trans ?_
    unfold cmpL
    cases diffL cmpA a.args b.args with
    | some z => rfl
    | none => simp only [List.length_map, iCmpN, Option.bind_some]
  · have e : (cmpT a.rel b.rel != 0) = true := by simpa using cmpT_ne h
    rw [e, cond_true, if_pos h]
/-! fact sets -/
def chainB : Option Fact → List Fact → Bool
  | _, [] => true
  | p, x :: xs => factB x && (match p with | some q => decide (cmpF q x < 0) | none => true) && chainB (some x) xs
def areFB (l : List Fact) : Bool := chainB none l && decide (l.length ≤ 24)
theorem chainLoop {isF : Fact → Option Bool} {cmp : Fact → Fact → Option Int} {a : List Fact} {L : List Fact → Nat → Option Bool} {k : Option Bool} (ha : a.length ≤ 1099511627770) (hc : ∀ x y, cmp x y = some (cmpF x y)) (hnil : ∀ i, L [] i = k)
    (hcons : ∀ x xs i, L (x :: xs) i = ((isF x).bind fun y => (bif !(y) then (some (false)) else (bif decide (((i : Int) : Int) > (0)) then ((atI a (IntKind.i64.wrap (((i : Int)) - (1)))).bind fun q => ((cmp q x).bind fun z => (bif decide ((z : Int) ≥ (0)) then (some (false)) else (L xs (i + 1) )))) else (L xs (i + 1) ))))) :
    ∀ (l pre : List Fact), a = pre ++ l → (∀ x ∈ l, isF x = some (factB x)) → L l pre.length = bif chainB pre.getLast? l then k else some false := by
  intro l
  induction l with
  | nil => intro pre _ _; rw [hnil]; rfl
  | cons x xs ih =>
    intro pre h hf
    have hl : a.length = pre.length + (xs.length + 1) := by rw [h]; simp
    have t := ih (pre ++ [x]) (by simp [h]) (fun y hy => hf y (by simp [hy]))
    rw [List.length_append, List.length_singleton, List.getLast?_concat] at t
    rw [hcons, hf x (by simp), Option.bind_some, t]
    simp only [chainB]
    cases factB x with
    | false => rfl
    | true =>
      rw [Bool.not_true, cond_false, Bool.true_and]
      rcases List.eq_nil_or_concat pre with rfl | ⟨p, z, hpz⟩
      · simp
      · rw [List.concat_eq_append] at hpz
        subst hpz
        have e0 : decide ((((p ++ [z]).length : Int)) > 0) = true := by simp <;> omega
        have e1 : IntKind.i64.wrap ((((p ++ [z]).length : Int)) - 1) = (p.length : Int) := by
          rw [wrap_in (InR.i64.2 (by simp at hl ⊢; omega))]; simp
        have e2 : atI a (p.length : Int) = some z := atI_mid (xs := x :: xs) (by rw [h]; simp)
        rw [e0, cond_true, e1, e2, Option.bind_some, hc, Option.bind_some, List.getLast?_concat]
        by_cases hz : cmpF z x < 0
        · have e3 : decide (cmpF z x ≥ 0) = false := by simp; omega
          rw [e3, cond_false]
          show _ = bif (decide (cmpF z x < 0) && chainB (some x) xs) then k else some false
          rw [decide_eq_true hz, Bool.true_and]
        · have e3 : decide (cmpF z x ≥ 0) = true := by simp; omega
          rw [e3, cond_true]
          show _ = bif (decide (cmpF z x < 0) && chainB (some x) xs) then k else some false
          rw [decide_eq_false hz]; rfl
theorem sAreF (l : List Fact) (h : wtL Fact.wt l ≤ 1048576) : d_spec_AreFacts l = some (areFB l) := by
  unfold d_spec_AreFacts areFB
  have hl := wtL_len Fact.wt l
  have t := chainLoop (isF := d_spec_IsFact) (cmp := d_spec_CompareFacts) (a := l) (L := d_spec_AreFacts_L1 l (some (decide (((((l).map Fact.c).length : Int) : Int) ≤ (24))))) (k := _) (by omega) sCmpF (fun _ => rfl) (fun _ _ _ => rfl) l [] rfl (fun x hx => sFact x (by have := wtL_mem (w := Fact.wt) hx; omega))
  refine t.trans ?_
  have e : decide ((((l.map Fact.c).length : Int)) ≤ 24) = decide (l.length ≤ 24) := by rw [List.length_map]; congr 1; rw [eq_iff_iff]; omega
  rw [e]
  show (bif chainB none l then _ else _) = _
  cases chainB none l <;> rfl
theorem iAreF (l : List Fact) (h : wtL Fact.wt l ≤ 1048576) : d_impl_AreFacts l = some (areFB l) := by
  unfold d_impl_AreFacts areFB
  have hl := wtL_len Fact.wt l
  have t := chainLoop (isF := d_impl_IsFact) (cmp := d_impl_CompareFacts) (a := l) (L := d_impl_AreFacts_L1 l (some true)) (k := _) (by omega) iCmpF (fun _ => rfl) (fun _ _ _ => rfl) l [] rfl (fun x hx => iFact x (by have := wtL_mem (w := Fact.wt) hx; omega))
  rw [show d_impl_AreFacts_L1 l (some true) l 0 = _ from t]
  by_cases h24 : l.length ≤ 24
  · have e : decide ((((l.map Fact.c).length : Int)) > 24) = false := by rw [List.length_map]; simp; omega
    rw [e, cond_false, decide_eq_true h24, Bool.and_true]
    show (bif chainB none l then _ else _) = _
    cases chainB none l <;> rfl
  · have e : decide ((((l.map Fact.c).length : Int)) > 24) = true := by rw [List.length_map]; simp; omega
    rw [e, cond_true, decide_eq_false h24, Bool.and_false]
end Go.Cx

/- Bindings, matching, conditions that hold, and tokens in plain words: of the program and of the reference. No condition but bounds on sizes. -/
namespace Go.Cx
open Go.RowKit Go.Proofs
set_option linter.unusedVariables false
set_option linter.unusedSimpArgs false
/-! bindings -/
def PB (b : List Pair) : Prop := b.length ≤ 1048576 ∧ ∀ x ∈ b, x.var.length ≤ 1048576 ∧ x.value.length ≤ 1048576
theorem PB.nil : PB [] := ⟨by simp, by simp⟩
def chainP : Option Pair → List Pair → Bool
  | _, [] => true
  | p, x :: xs => varB x.var && (atomB x.value && ((match p with | some q => Op.bytesLess q.var x.var | none => true) && chainP (some x) xs))
def bindB (b : List Pair) : Bool := chainP none b && decide (b.length ≤ 6)
theorem bindB_len {b : List Pair} (h : bindB b = true) : b.length ≤ 6 := by
  unfold bindB at h
  simp only [Bool.and_eq_true, decide_eq_true_eq] at h
  exact h.2
theorem bindLoop {isV isA : Bytes → Option Bool} {a : List Pair} {L : List Pair → Nat → Option Bool} {k : Option Bool} (ha : a.length ≤ 1099511627770) (hV : ∀ x : Bytes, x.length ≤ 1048576 → isV x = some (varB x)) (hA : ∀ x : Bytes, x.length ≤ 1048576 → isA x = some (atomB x)) (hnil : ∀ i, L [] i = k)
    (hcons : ∀ x xs i, L (x :: xs) i = ((isV (x.var)).bind fun y => (bif !(y) then (some (false)) else ((isA (x.value)).bind fun z => (bif !(z) then (some (false)) else (bif decide (((i : Int) : Int) > (0)) then ((atI a (IntKind.i64.wrap (((i : Int)) - (1)))).bind fun q => (bif !(Op.bytesLess (q.var) (x.var)) then (some (false)) else (L xs (i + 1)))) else (L xs (i + 1)))))))) :
    ∀ (l pre : List Pair), a = pre ++ l → (∀ x ∈ l, x.var.length ≤ 1048576 ∧ x.value.length ≤ 1048576) → L l pre.length = bif chainP pre.getLast? l then k else some false := by
  intro l
  induction l with
  | nil => intro pre _ _; rw [hnil]; rfl
  | cons x xs ih =>
    intro pre h hf
    have hl : a.length = pre.length + (xs.length + 1) := by rw [h]; simp
    have t := ih (pre ++ [x]) (by simp [h]) (fun y hy => hf y (by simp [hy]))
    rw [List.length_append, List.length_singleton, List.getLast?_concat] at t
    rw [hcons, hV _ (hf x (by simp)).1, Option.bind_some, hA _ (hf x (by simp)).2, Option.bind_some, t]
    simp only [chainP]
    cases varB x.var with
    | false => rfl
    | true =>
      cases atomB x.value with
      | false => rfl
      | true =>
        simp only [Bool.not_true, cond_false, Bool.true_and]
        rcases List.eq_nil_or_concat pre with rfl | ⟨p, z, hpz⟩
        · simp
        · rw [List.concat_eq_append] at hpz
          subst hpz
          have e0 : decide ((((p ++ [z]).length : Int)) > 0) = true := by simp <;> omega
          have e1 : IntKind.i64.wrap ((((p ++ [z]).length : Int)) - 1) = (p.length : Int) := by
            rw [wrap_in (InR.i64.2 (by simp at hl ⊢; omega))]; simp
          have e2 : atI a (p.length : Int) = some z := atI_mid (xs := x :: xs) (by rw [h]; simp)
          rw [e0, cond_true, e1, e2, Option.bind_some, List.getLast?_concat]
          show _ = bif (Op.bytesLess z.var x.var && chainP (some x) xs) then k else some false
          cases Op.bytesLess z.var x.var <;> rfl
theorem sBind (b : List Pair) (h : PB b) : d_spec_IsBinding b = some (bindB b) := by
  unfold d_spec_IsBinding bindB
  have t := fun k => bindLoop (isV := d_spec_IsVar) (isA := d_spec_IsAtom) (a := b) (L := d_spec_IsBinding_L1 b k) (k := k) (by have := h.1; omega) sVar sAtom (fun _ => rfl) (fun _ _ _ => rfl) b [] rfl h.2
  refine (t _).trans ?_
  have e : decide ((((b.map Pair.c).length : Int)) ≤ 6) = decide (b.length ≤ 6) := by rw [List.length_map]; congr 1; rw [eq_iff_iff]; omega
  rw [e]
  show (bif chainP none b then _ else _) = _
  cases chainP none b <;> rfl
theorem iBind (b : List Pair) (h : PB b) : d_impl_IsBinding b = some (bindB b) := by
  unfold d_impl_IsBinding bindB
  have t := fun k => bindLoop (isV := d_impl_IsVar) (isA := d_impl_IsAtom) (a := b) (L := d_impl_IsBinding_L1 b k) (k := k) (by have := h.1; omega) iVar iAtom (fun _ => rfl) (fun _ _ _ => rfl) b [] rfl h.2
  rw [show d_impl_IsBinding_L1 b (some true) b 0 = _ from t _]
  by_cases h6 : b.length ≤ 6
  · have e : decide ((((b.map Pair.c).length : Int)) > 6) = false := by rw [List.length_map]; simp; omega
    rw [e, cond_false, decide_eq_true h6, Bool.and_true]
    show (bif chainP none b then _ else _) = _
    cases chainP none b <;> rfl
  · have e : decide ((((b.map Pair.c).length : Int)) > 6) = true := by rw [List.length_map]; simp; omega
    rw [e, cond_true, decide_eq_false h6, Bool.and_false]
def findP (t : Bytes) : List Pair → Option Bytes
  | [] => none
  | x :: xs => bif x.var == t then some x.value else findP t xs
def valB (b : List Pair) (t : Bytes) : Bytes × Bool := bif atomB t then (t, true) else bif varB t then (match findP t b with | some v => (v, true) | none => ([], false)) else ([], false)
theorem sVal (b : List Pair) (t : Bytes) (ht : t.length ≤ 1048576) : d_spec_ValueOf b t = some (valB b t) := by
  unfold d_spec_ValueOf valB
  have key : ∀ (l : List Pair) (i : Nat), d_spec_ValueOf_L1 b t (some (([], false))) l i = some (bif varB t then (match findP t l with | some v => (v, true) | none => ([], false)) else ([], false)) := by
    intro l
    induction l with
    | nil => intro i; rw [d_spec_ValueOf_L1]; cases varB t <;> rfl
    | cons x xs ih =>
      intro i
      rw [d_spec_ValueOf_L1, sVar t ht, Option.bind_some, ih]
      simp only [findP]
      cases x.var == t <;> cases varB t <;> rfl
  rw [sAtom t ht, Option.bind_some, key]
  cases atomB t <;> rfl
theorem iVal (b : List Pair) (t : Bytes) (ht : t.length ≤ 1048576) : d_impl_ValueOf b t = some (valB b t) := by
  unfold d_impl_ValueOf valB
  have key : ∀ (l : List Pair) (i : Nat), d_impl_ValueOf_L1 b t (some (([], false))) l i = some (match findP t l with | some v => (v, true) | none => ([], false)) := by
    intro l
    induction l with
    | nil => intro i; rfl
    | cons x xs ih =>
      intro i
      rw [d_impl_ValueOf_L1, ih]
      simp only [findP]
      cases x.var == t <;> rfl
  rw [iAtom t ht, Option.bind_some, iVar t ht, Option.bind_some, key]
  cases atomB t <;> cases varB t <;> rfl
theorem sCopyP (b : List Pair) (h : b.length ≤ 1099511627776) : d_spec_l3Copy b = some b := by
  unfold d_spec_l3Copy
  rw [room0 h (by decide)]; simp
theorem iCopyP (b : List Pair) (h : b.length ≤ 1099511627776) : d_impl_copyPairs b = some b := by
  unfold d_impl_copyPairs
  rw [room0 h (by decide)]; simp
def setP (v val : Bytes) : List Pair → List Pair
  | [] => [⟨v, val⟩]
  | x :: xs => bif !(Op.bytesLess x.var v || x.var == v) then ⟨v, val⟩ :: x :: xs else x :: setP v val xs
theorem setP_len (v val : Bytes) (b : List Pair) : (setP v val b).length = b.length + 1 := by
  induction b with
  | nil => rfl
  | cons x xs ih => simp only [setP]; cases !(Op.bytesLess x.var v || x.var == v) <;> simp [ih]
theorem setP_mem (v val : Bytes) (b : List Pair) {x : Pair} (h : x ∈ setP v val b) : x = ⟨v, val⟩ ∨ x ∈ b := by
  induction b with
  | nil => simp [setP] at h; exact .inl h
  | cons y ys ih =>
    simp only [setP] at h
    cases hc : !(Op.bytesLess y.var v || y.var == v) with
    | true =>
      rw [hc, cond_true] at h
      rcases List.mem_cons.1 h with h | h
      · exact .inl h
      · exact .inr h
    | false =>
      rw [hc, cond_false] at h
      rcases List.mem_cons.1 h with h | h
      · exact .inr (by simp [h])
      · rcases ih h with h | h
        · exact .inl h
        · exact .inr (by simp [h])
theorem setLoop {γ : Type} {v val : Bytes} {L : List Pair → Nat → Bool → List Pair → Option γ} {k : Bool → List Pair → Option γ} {K : List Pair → Option γ} (hk1 : ∀ w, k true w = K w) (hk2 : ∀ w : List Pair, w.length < 1099511627770 → k false w = K (w ++ [⟨v, val⟩])) (hnil : ∀ i d w, L [] i d w = k d w)
    (hcons : ∀ x xs i d w, L (x :: xs) i d w = (bif !(d) then (bif !(Op.bytesLess (x.var) v || (x.var : Bytes) == v) then (bif room (((w).map Pair.c).length + ([[D.str v, D.str val]]).length) 32 then (bif room ((((w).map Pair.c) ++ ([[D.str v, D.str val]])).length + ([[D.str (x.var), D.str (x.value)]]).length) 32 then (L xs (i + 1) (true) (((w) ++ ([(⟨v, val⟩ : Pair)])) ++ ([x]))) else none) else none) else (bif room (((w).map Pair.c).length + ([[D.str (x.var), D.str (x.value)]]).length) 32 then (L xs (i + 1) (d) ((w) ++ ([x]))) else none)) else (bif room (((w).map Pair.c).length + ([[D.str (x.var), D.str (x.value)]]).length) 32 then (L xs (i + 1) (d) ((w) ++ ([x]))) else none))) :
    ∀ (l : List Pair) (i : Nat) (w : List Pair), w.length + l.length < 1099511627760 → L l i false w = K (w ++ setP v val l) := by
  have c1 : ∀ (l : List Pair) (i : Nat) (w : List Pair), w.length + l.length < 1099511627765 → L l i true w = K (w ++ l) := by
    intro l
    induction l with
    | nil => intro i w _; rw [hnil, hk1, List.append_nil]
    | cons x xs ih =>
      intro i w hw
      simp only [List.length_cons] at hw
      rw [hcons, Bool.not_true, cond_false, room1 (by omega) (by decide), cond_true, ih (i + 1) (w ++ [x]) (by simp; omega)]; simp
  intro l
  induction l with
  | nil => intro i w hw; simp only [List.length_nil] at hw; rw [hnil, hk2 _ (by omega)]; rfl
  | cons x xs ih =>
    intro i w hw
    simp only [List.length_cons] at hw
    have r1 : ∀ y : List D, room ((w.map Pair.c).length + ([y]).length) 32 = true := fun y => room1 (by omega) (by decide)
    have r2 : room ((((w).map Pair.c) ++ ([[D.str v, D.str val]])).length + ([[D.str (x.var), D.str (x.value)]]).length) 32 = true := roomK (by simp; omega) (by decide)
    have t1 := ih (i + 1) (w ++ [x]) (by simp; omega)
    have t2 := c1 xs (i + 1) ((w ++ [⟨v, val⟩]) ++ [x]) (by simp; omega)
    rw [hcons, Bool.not_false, cond_true, r1, r1, r2]
    simp only [cond_true, setP]
    cases !(Op.bytesLess x.var v || x.var == v) with
    | true => rw [cond_true, cond_true, t2]; simp
    | false => rw [cond_false, cond_false, t1]; simp
theorem sSetP (b : List Pair) (v val : Bytes) (h : b.length < 1099511627700) : d_spec_l3Set b v val = some (setP v val b) := by
  unfold d_spec_l3Set
  exact setLoop (v := v) (val := val) (K := fun w => some w) (L := d_spec_l3Set_L1 b v val (fun (z : Bool) (q : List Pair) => (bif !(z) then (bif room (((q).map Pair.c).length + ([[D.str v, D.str val]]).length) 32 then (some ((q) ++ ([(⟨v, val⟩ : Pair)]))) else none) else (some (q))))) (fun w => rfl) (fun w hw => by show (bif !false then _ else _) = _; rw [room1 (by omega) (by decide)]; rfl) (fun _ _ _ => rfl) (fun _ _ _ _ _ => rfl) b 0 [] (by simp; omega)
def extB (b : List Pair) (v val : Bytes) : List Pair × Bool := bif bindB b && (varB v && atomB val) then (match findP v b with | some o => bif o == val then (b, true) else ([], false) | none => bif decide (b.length = 6) then ([], false) else (setP v val b, true)) else ([], false)
theorem extB_PB {b : List Pair} {v val : Bytes} (h : PB b) (hv : v.length ≤ 1048576) (hl : val.length ≤ 1048576) : PB (extB b v val).1 := by
  unfold extB
  cases hb : bindB b && (varB v && atomB val) with
  | false => exact PB.nil
  | true =>
    rw [cond_true]
    have h6 : b.length ≤ 6 := bindB_len (by simp only [Bool.and_eq_true] at hb; exact hb.1)
    cases findP v b with
    | some o => simp only; cases o == val <;> first | exact h | exact PB.nil
    | none =>
      simp only
      cases decide (b.length = 6) with
      | true => exact PB.nil
      | false =>
        refine ⟨by simp only [cond_false, setP_len]; omega, fun x hx => ?_⟩
        rcases setP_mem _ _ _ hx with rfl | hx
        · exact ⟨hv, hl⟩
        · exact h.2 x hx
theorem sExt (b : List Pair) (v val : Bytes) (h : PB b) (hv : v.length ≤ 1048576) (hl : val.length ≤ 1048576) : d_spec_Extend b v val = some (extB b v val) := by
  unfold d_spec_Extend extB
  have hlen := h.1
  rw [sBind b h, Option.bind_some, sVar v hv, Option.bind_some, sAtom val hl, Option.bind_some, sVal b v hv, Option.bind_some, sCopyP b (by omega), Option.bind_some, sSetP b v val (by omega), Option.bind_some]
  have e6 : (((((b.map Pair.c).length : Int) : Int) == 6)) = decide (b.length = 6) := by
    rw [List.length_map, Bool.eq_iff_iff]; simp; omega
  rw [e6]
  cases hb : bindB b with
  | false => rfl
  | true =>
    cases hvv : varB v with
    | false => rfl
    | true =>
      cases atomB val with
      | false => rfl
      | true =>
        have hv2 : valB b v = (match findP v b with | some o => (o, true) | none => ([], false)) := by unfold valB; rw [var_not_atom hvv, hvv]; rfl
        rw [hv2]
        simp only [Bool.not_true, cond_false, Bool.true_and, Bool.and_true, cond_true]
        cases findP v b with
        | some o => simp only [cond_true]; cases o == val <;> rfl
        | none => simp only [cond_false]; cases decide (b.length = 6) <;> rfl
theorem iExt (b : List Pair) (v val : Bytes) (h : PB b) (hv : v.length ≤ 1048576) (hl : val.length ≤ 1048576) : d_impl_Extend b v val = some (extB b v val) := by
  unfold d_impl_Extend extB
  have hlen := h.1
  have t := (setLoop (v := v) (val := val) (K := fun w => some ((w, true) : List Pair × Bool)) (L := d_impl_Extend_L1 b v val (fun (z : Bool) (q : List Pair) => (bif !(z) then (bif room (((q).map Pair.c).length + ([[D.str v, D.str val]]).length) 32 then (some (((q) ++ ([(⟨v, val⟩ : Pair)]), true))) else none) else (some ((q, true)))))) (fun w => rfl) (fun w hw => by show (bif !false then _ else _) = _; rw [room1 (by omega) (by decide)]; rfl) (fun _ _ _ => rfl) (fun _ _ _ _ _ => rfl) b 0 [] (by simp; omega))
  rw [iBind b h, Option.bind_some, iVar v hv, Option.bind_some, iAtom val hl, Option.bind_some, iVal b v hv, Option.bind_some, iCopyP b (by omega), Option.bind_some, t]
  cases hb : bindB b with
  | false => rfl
  | true =>
    have h6 := bindB_len hb
    have e6 : decide ((((b.map Pair.c).length : Int) : Int) ≥ 6) = decide (b.length = 6) := by
      rw [List.length_map]; congr 1; rw [eq_iff_iff]; omega
    rw [e6]
    cases hvv : varB v with
    | false => rfl
    | true =>
      cases atomB val with
      | false => rfl
      | true =>
        have hv2 : valB b v = (match findP v b with | some o => (o, true) | none => ([], false)) := by unfold valB; rw [var_not_atom hvv, hvv]; rfl
        rw [hv2]
        simp only [Bool.not_true, cond_false, Bool.true_and, Bool.and_true, cond_true]
        cases findP v b with
        | some o => simp only [cond_true]; cases o == val <;> rfl
        | none => simp only [cond_false]; cases decide (b.length = 6) <;> rfl
/-! matching -/
def matA : List Bytes → List Bytes → List Pair → List Pair × Bool
  | [], _, w => (w, true)
  | _ :: _, [], _ => ([], false)
  | x :: xs, y :: ys, w => bif atomB x then (bif x == y then matA xs ys w else ([], false)) else (bif (extB w x y).2 then matA xs ys (extB w x y).1 else ([], false))
def matF (p f : Fact) (b : List Pair) : List Pair × Bool := bif patB p && (factB f && (bindB b && (p.rel == f.rel && decide (p.args.length = f.args.length)))) then matA p.args f.args b else ([], false)
theorem matA_PB : ∀ (l r : List Bytes) (w : List Pair), PB w → (∀ x ∈ l, x.length ≤ 1048576) → (∀ x ∈ r, x.length ≤ 1048576) → PB (matA l r w).1
  | [], _, w, h, _, _ => h
  | _ :: _, [], _, _, _, _ => PB.nil
  | x :: xs, y :: ys, w, h, hl, hr => by
    simp only [matA]
    have i1 := matA_PB xs ys w h (fun z hz => hl z (by simp [hz])) (fun z hz => hr z (by simp [hz]))
    have i2 := matA_PB xs ys (extB w x y).1 (extB_PB h (hl x (by simp)) (hr y (by simp))) (fun z hz => hl z (by simp [hz])) (fun z hz => hr z (by simp [hz]))
    cases atomB x with
    | true => cases x == y <;> first | exact i1 | exact PB.nil
    | false => cases (extB w x y).2 <;> first | exact i2 | exact PB.nil
theorem matF_PB {p f : Fact} {b : List Pair} (hb : PB b) (hp : p.wt ≤ 1048576) (hf : f.wt ≤ 1048576) : PB (matF p f b).1 := by
  unfold matF
  cases patB p && (factB f && (bindB b && (p.rel == f.rel && decide (p.args.length = f.args.length)))) with
  | false => exact PB.nil
  | true => exact matA_PB _ _ _ hb (fun x hx => Fact.arg_le hp hx) (fun x hx => Fact.arg_le hf hx)
theorem matLoop {isA : Bytes → Option Bool} {ext : List Pair → Bytes → Bytes → Option (List Pair × Bool)} {fa : List Bytes} {L : List Bytes → Nat → List Pair → Option (List Pair × Bool)} (hA : ∀ x : Bytes, x.length ≤ 1048576 → isA x = some (atomB x)) (hE : ∀ w x y, PB w → x.length ≤ 1048576 → y.length ≤ 1048576 → ext w x y = some (extB w x y)) (hnil : ∀ i w, L [] i w = some (w, true))
    (hcons : ∀ x xs i w, L (x :: xs) i w = ((isA x).bind fun y => (bif y then ((atI fa ((i : Int))).bind fun z => (bif !((x : Bytes) == z) then (some (([], false))) else (L xs (i + 1) w))) else ((atI fa ((i : Int))).bind fun z => ((ext w x z).bind fun q => (bif !(q.2) then (some (([], false))) else (L xs (i + 1) (q.1)))))))) :
    ∀ (l pre rest : List Bytes) (w : List Pair), fa = pre ++ rest → l.length = rest.length → (∀ x ∈ l, x.length ≤ 1048576) → (∀ x ∈ rest, x.length ≤ 1048576) → PB w → L l pre.length w = some (matA l rest w) := by
  intro l
  induction l with
  | nil => intro pre rest w _ _ _ _ _; rw [hnil]; simp [matA]
  | cons x xs ih =>
    intro pre rest w h hl hx hr hw
    cases rest with
    | nil => simp at hl
    | cons y ys =>
      have t := fun w' hw' => ih (pre ++ [y]) ys w' (by simp [h]) (by simpa using hl) (fun z hz => hx z (by simp [hz])) (fun z hz => hr z (by simp [hz])) hw'
      simp only [List.length_append, List.length_singleton] at t
      rw [hcons, hA x (hx x (by simp)), Option.bind_some, atI_mid h, Option.bind_some, Option.bind_some, hE w x y hw (hx x (by simp)) (hr y (by simp)), Option.bind_some]
      simp only [matA]
      cases atomB x with
      | true =>
        simp only [cond_true]
        cases x == y with
        | true => simp only [Bool.not_true, cond_false, cond_true]; exact t w hw
        | false => rfl
      | false =>
        simp only [cond_false]
        cases hq : (extB w x y).2 with
        | true => simp only [Bool.not_true, cond_false, cond_true]; exact t _ (extB_PB hw (hx x (by simp)) (hr y (by simp)))
        | false => rfl
theorem len_ne (a b : List Bytes) : ((((a.map tx).length : Int) : Int) != (((b.map tx).length : Int))) = !decide (a.length = b.length) := by
  rw [List.length_map, List.length_map]
  by_cases h : a.length = b.length
  · simp [h]
  · rw [decide_eq_false h]; simp; omega
theorem sMat (p f : Fact) (b : List Pair) (hp : p.wt ≤ 1048576) (hf : f.wt ≤ 1048576) (hb : PB b) : d_spec_MatchFact p f b = some (matF p f b) := by
  unfold d_spec_MatchFact matF
  have hlen := hb.1
  rw [sPat p hp, Option.bind_some, sFact f hf, Option.bind_some, sBind b hb, Option.bind_some, sCopyP b (by omega), Option.bind_some, len_ne]
  cases patB p with
  | false => rfl
  | true =>
    cases factB f with
    | false => rfl
    | true =>
      cases bindB b with
      | false => rfl
      | true =>
        cases p.rel == f.rel with
        | false => rfl
        | true =>
          by_cases h : p.args.length = f.args.length
          · rw [decide_eq_true h]
            have t := matLoop (isA := d_spec_IsAtom) (ext := d_spec_Extend) (fa := f.args) (L := d_spec_MatchFact_L1 p f (fun (q : List Pair) => (some ((q, true))))) sAtom (fun w x y hw hx hy => sExt w x y hw hx hy) (fun _ _ => rfl) (fun _ _ _ _ => rfl) p.args [] f.args b rfl h (fun x hx => Fact.arg_le hp hx) (fun x hx => Fact.arg_le hf hx) hb
            exact t
          · rw [decide_eq_false h]; rfl
theorem iMat (p f : Fact) (b : List Pair) (hp : p.wt ≤ 1048576) (hf : f.wt ≤ 1048576) (hb : PB b) : d_impl_MatchFact p f b = some (matF p f b) := by
  unfold d_impl_MatchFact matF
  have hlen := hb.1
  rw [iPat p hp, Option.bind_some, iFact f hf, Option.bind_some, iBind b hb, Option.bind_some, iCopyP b (by omega), Option.bind_some, len_ne]
  cases patB p with
  | false => rfl
  | true =>
    cases factB f with
    | false => rfl
    | true =>
      cases bindB b with
      | false => rfl
      | true =>
        cases p.rel == f.rel with
        | false => rfl
        | true =>
          by_cases h : p.args.length = f.args.length
          · rw [decide_eq_true h]
            have t := matLoop (isA := d_impl_IsAtom) (ext := d_impl_Extend) (fa := f.args) (L := d_impl_MatchFact_L1 p f (fun (q : List Pair) => (some ((q, true))))) iAtom (fun w x y hw hx hy => iExt w x y hw hx hy) (fun _ _ => rfl) (fun _ _ _ _ => rfl) p.args [] f.args b rfl h (fun x hx => Fact.arg_le hp hx) (fun x hx => Fact.arg_le hf hx) hb
            exact t
          · rw [decide_eq_false h]; rfl
/-! tests, and conditions that hold -/
def ltB (l r : Bytes) : Bool := match numB l, numB r with | some x, some y => decide (x < y) | _, _ => false
def hldT (c : Cond) (b : List Pair) : Bool := testB c && (bindB b && ((valB b c.left).2 && ((valB b c.right).2 && (bif decide (c.kind = 3) then (valB b c.left).1 == (valB b c.right).1 else bif decide (c.kind = 4) then !((valB b c.left).1 == (valB b c.right).1) else ltB (valB b c.left).1 (valB b c.right).1))))
theorem int_beq (a b : Int) : (a == b) = decide (a = b) := by rw [Bool.eq_iff_iff]; simp
theorem sHldT (c : Cond) (b : List Pair) (hc : c.wt ≤ 1048576) (hb : PB b) : d_spec_HoldsTest c b = some (hldT c b) := by
  unfold d_spec_HoldsTest hldT
  rw [sTest c hc, Option.bind_some, sBind b hb, Option.bind_some, sVal b c.left (Cond.left_le hc), Option.bind_some, sVal b c.right (Cond.right_le hc), Option.bind_some, int_beq, int_beq]
  cases testB c with
  | false => rfl
  | true =>
    cases bindB b with
    | false => rfl
    | true =>
      cases (valB b c.left).2 with
      | false => rfl
      | true =>
        cases (valB b c.right).2 with
        | false => rfl
        | true =>
          cases decide (c.kind = 3) with
          | true => rfl
          | false =>
            cases decide (c.kind = 4) with
            | true => rfl
            | false =>
              simp only [Bool.not_true, cond_false, Bool.true_and]
              unfold d_spec_IsNumber ltB
              rw [sParse, Option.bind_some, Option.bind_some, sParse, Option.bind_some, Option.bind_some, sCmpA, Option.bind_some]
              unfold pI cmpA
              cases numB (valB b c.left).1 with
              | none => rfl
              | some x =>
                cases numB (valB b c.right).1 with
                | none => rfl
                | some y =>
                  simp only [cond_true]
                  congr 1
                  unfold cmpN
                  by_cases h : x < y
                  · have h1 : (x : Int) < y := by omega
                    simp [h1, h]
                  · have h1 : ¬ (x : Int) < y := by omega
                    by_cases h2 : (x : Int) > y
                    · simp [h1, h, h2]
                    · simp [h1, h, h2]
theorem iHldT (c : Cond) (b : List Pair) (hc : c.wt ≤ 1048576) (hb : PB b) : d_impl_HoldsTest c b = some (hldT c b) := by
  unfold d_impl_HoldsTest hldT
  rw [iTest c hc, Option.bind_some, iBind b hb, Option.bind_some, iVal b c.left (Cond.left_le hc), Option.bind_some, iVal b c.right (Cond.right_le hc), Option.bind_some, int_beq, int_beq]
  cases testB c with
  | false => rfl
  | true =>
    cases bindB b with
    | false => rfl
    | true =>
      cases (valB b c.left).2 with
      | false => rfl
      | true =>
        cases (valB b c.right).2 with
        | false => rfl
        | true =>
          cases decide (c.kind = 3) with
          | true => rfl
          | false =>
            cases decide (c.kind = 4) with
            | true => rfl
            | false =>
              simp only [Bool.not_true, cond_false, Bool.true_and]
              unfold ltB
              rw [iParse, Option.bind_some, iParse, Option.bind_some]
              unfold pI
              cases numB (valB b c.left).1 with
              | none => rfl
              | some x =>
                cases numB (valB b c.right).1 with
                | none => rfl
                | some y =>
                  simp only [cond_true]
                  congr 1
                  by_cases h : x < y
                  · simp [h]
                  · simp [h]
def fitF (p : Fact) (b : List Pair) (fs : List Fact) : List Fact := fs.filter fun f => (matF p f b).2
def FS (fs : List Fact) : Prop := fs.length ≤ 1048576 ∧ ∀ f ∈ fs, f.wt ≤ 1048576
theorem FS.of {fs : List Fact} (h : wtL Fact.wt fs ≤ 1048576) : FS fs := ⟨by have := wtL_len Fact.wt fs; omega, fun f hf => by have := wtL_mem (w := Fact.wt) hf; omega⟩
theorem fitLoop {γ : Type} {mf : Fact → Option (List Pair × Bool)} {cp : Fact → Option Fact} {p : Fact} {b : List Pair} {L : List Fact → Nat → List Fact → Option γ} {k : List Fact → Option γ} (hm : ∀ f : Fact, f.wt ≤ 1048576 → mf f = some (matF p f b)) (hc : ∀ f : Fact, f.wt ≤ 1048576 → cp f = some f) (hnil : ∀ i w, L [] i w = k w)
    (hcons : ∀ x xs i w, L (x :: xs) i w = ((mf x).bind fun y => (bif y.2 then ((cp x).bind fun z => (bif room (((w).map Fact.c).length + ([[D.str (z.rel), D.sl ((z.args).map tx)]]).length) 40 then (L xs (i + 1) ((w) ++ ([z]))) else none)) else (L xs (i + 1) (w))))) :
    ∀ (l : List Fact) (i : Nat) (w : List Fact), (∀ f ∈ l, f.wt ≤ 1048576) → w.length + l.length < 1099511627700 → L l i w = k (w ++ fitF p b l) := by
  intro l
  induction l with
  | nil => intro i w _ _; rw [hnil]; simp [fitF]
  | cons x xs ih =>
    intro i w hl hw
    simp only [List.length_cons] at hw
    have hx := hl x (by simp)
    rw [hcons, hm x hx, Option.bind_some, hc x hx, Option.bind_some, room1 (by omega) (by decide), cond_true]
    have e : fitF p b (x :: xs) = bif (matF p x b).2 then x :: fitF p b xs else fitF p b xs := by
      unfold fitF
      rw [List.filter_cons]
      cases (matF p x b).2 <;> rfl
    rw [e]
    cases (matF p x b).2 with
    | true => rw [cond_true, cond_true, ih _ _ (fun f hf => hl f (by simp [hf])) (by simp; omega)]; simp
    | false => rw [cond_false, cond_false, ih _ _ (fun f hf => hl f (by simp [hf])) (by omega)]
theorem sFit (p : Fact) (b : List Pair) (fs : List Fact) (hp : p.wt ≤ 1048576) (hb : PB b) (hf : FS fs) : d_spec_MatchingFacts p b fs = some (fitF p b fs) := by
  unfold d_spec_MatchingFacts
  have h1 := hf.1
  refine (fitLoop (mf := fun f => d_spec_MatchFact p f b) (cp := d_spec_l2Copy) (p := p) (b := b) (L := d_spec_MatchingFacts_L1 p b fs _) (k := fun q => some q) (fun f h => sMat p f b hp h hb) (fun f h => sCopyF f (by have := Fact.args_le h; omega)) (fun _ _ => rfl) (fun _ _ _ _ => rfl) fs 0 [] hf.2 (by simp; omega)).trans ?_
  simp
theorem iFit (p : Fact) (b : List Pair) (fs : List Fact) (hp : p.wt ≤ 1048576) (hb : PB b) (hf : FS fs) : d_impl_MatchingFacts p b fs = some (fitF p b fs) := by
  unfold d_impl_MatchingFacts
  have h1 := hf.1
  refine (fitLoop (mf := fun f => d_impl_MatchFact p f b) (cp := d_impl_copyFact) (p := p) (b := b) (L := d_impl_MatchingFacts_L1 p b fs _) (k := fun q => some q) (fun f h => iMat p f b hp h hb) (fun f h => iCopyF f (by have := Fact.args_le h; omega)) (fun _ _ => rfl) (fun _ _ _ _ => rfl) fs 0 [] hf.2 (by simp; omega)).trans ?_
  simp
def hldC (c : Cond) (b : List Pair) (fs : List Fact) : Bool := condB c && (bindB b && (bif decide (c.kind = 1) then decide (0 < (fitF c.pat b fs).length) else bif decide (c.kind = 2) then decide ((fitF c.pat b fs).length = 0) else hldT c b))
theorem len_gt (l : List Fact) : decide (((((l).map Fact.c).length : Int) : Int) > (0)) = decide (0 < l.length) := by rw [List.length_map]; congr 1; rw [eq_iff_iff]; omega
theorem len_eq (l : List Fact) : ((((((l).map Fact.c).length : Int) : Int) == (0))) = decide (l.length = 0) := by rw [List.length_map, int_beq]; congr 1; rw [eq_iff_iff]; omega
theorem sHldC (c : Cond) (b : List Pair) (fs : List Fact) (hc : c.wt ≤ 1048576) (hb : PB b) (hf : FS fs) : d_spec_HoldsCond c b fs = some (hldC c b fs) := by
  unfold d_spec_HoldsCond hldC
  rw [sCond c hc, Option.bind_some, sBind b hb, Option.bind_some, sFit c.pat b fs (Cond.pat_le hc) hb hf, Option.bind_some, Option.bind_some, sHldT c b hc hb, Option.bind_some, int_beq, int_beq, len_gt, len_eq]
  cases condB c with
  | false => rfl
  | true =>
    cases bindB b with
    | false => rfl
    | true => cases decide (c.kind = 1) <;> cases decide (c.kind = 2) <;> rfl
theorem iHldC (c : Cond) (b : List Pair) (fs : List Fact) (hc : c.wt ≤ 1048576) (hb : PB b) (hf : FS fs) : d_impl_HoldsCond c b fs = some (hldC c b fs) := by
  unfold d_impl_HoldsCond hldC
  rw [iCond c hc, Option.bind_some, iBind b hb, Option.bind_some, iFit c.pat b fs (Cond.pat_le hc) hb hf, Option.bind_some, Option.bind_some, iHldT c b hc hb, Option.bind_some, int_beq, int_beq, len_gt, len_eq]
  cases condB c with
  | false => rfl
  | true =>
    cases bindB b with
    | false => rfl
    | true => cases decide (c.kind = 1) <;> cases decide (c.kind = 2) <;> rfl
end Go.Cx

/- Patterns that cover, and patterns that match, as maps of terms: what covers matches more, and patterns that cover each other have one shape. No condition but bounds on sizes. -/
namespace Go.Cx
open Go.RowKit Go.Proofs
set_option linter.unusedVariables false
set_option linter.unusedSimpArgs false
/-- a map of terms that leaves atoms alone -/
def Fix (h : Bytes → Bytes) : Prop := ∀ y, atomB y = true → h y = y
/-! matching as a map of terms -/
theorem findP_set_ne {t v val : Bytes} (h : v ≠ t) : ∀ (w : List Pair), findP t (setP v val w) = findP t w
  | [] => by
    have : (v == t) = false := by simpa using h
    simp only [setP, findP, this, cond_false]
  | x :: xs => by
    have hv : (v == t) = false := by simpa using h
    rw [setP]
    cases !(Op.bytesLess x.var v || x.var == v) with
    | true => rw [cond_true, findP]; simp only [hv, cond_false]
    | false => rw [cond_false, findP, findP, findP_set_ne h xs]
theorem findP_set {v val : Bytes} : ∀ (w : List Pair), findP v w = none → findP v (setP v val w) = some val
  | [], _ => by simp [setP, findP]
  | x :: xs, h => by
    rw [findP] at h
    rw [setP]
    cases hx : x.var == v with
    | true => rw [hx] at h; cases h
    | false =>
      rw [hx, cond_false] at h
      cases !(Op.bytesLess x.var v || false) with
      | true => rw [cond_true, findP]; simp
      | false => rw [cond_false, findP, hx, cond_false]; exact findP_set xs h
theorem findP_mem {t o : Bytes} : ∀ {w : List Pair}, findP t w = some o → ∃ p ∈ w, p.var = t ∧ p.value = o
  | x :: xs, h => by
    rw [findP] at h
    cases hx : x.var == t with
    | true => rw [hx, cond_true] at h; cases h; exact ⟨x, by simp, by simpa using hx, rfl⟩
    | false =>
      rw [hx, cond_false] at h
      obtain ⟨p, hp, h1⟩ := findP_mem h
      exact ⟨p, by simp [hp], h1⟩
theorem findP_none {t : Bytes} : ∀ {w : List Pair}, findP t w = none → ∀ p ∈ w, p.var ≠ t
  | x :: xs, h, p, hp => by
    rw [findP] at h
    cases hx : x.var == t with
    | true => rw [hx] at h; cases h
    | false =>
      rw [hx, cond_false] at h
      rcases List.mem_cons.1 hp with rfl | hp
      · simpa using hx
      · exact findP_none h p hp
theorem chainP_cons (p : Option Pair) (x : Pair) (xs : List Pair) : chainP p (x :: xs) = (varB x.var && (atomB x.value && ((match p with | some q => Op.bytesLess q.var x.var | none => true) && chainP (some x) xs))) := by
  cases p <;> rfl
theorem chain_set {v val : Bytes} (hv : varB v = true) (ha : atomB val = true) : ∀ (w : List Pair) (p : Option Pair), chainP p w = true → findP v w = none → (∀ q, p = some q → Op.bytesLess q.var v = true) → chainP p (setP v val w) = true
  | [], p, _, _, hp => by
    simp only [setP, chainP, hv, ha, Bool.true_and, Bool.and_true]
    cases p with
    | none => rfl
    | some q => exact hp q rfl
  | x :: xs, p, hc, hf, hp => by
    rw [chainP_cons] at hc
    simp only [Bool.and_eq_true] at hc
    obtain ⟨c1, c2, c3, c4⟩ := hc
    rw [findP] at hf
    cases hx : x.var == v with
    | true => rw [hx] at hf; cases hf
    | false =>
      rw [hx, cond_false] at hf
      rw [setP, hx, Bool.or_false]
      cases hl : Op.bytesLess x.var v with
      | true =>
        rw [Bool.not_true, cond_false, chainP_cons]
        simp only [Bool.and_eq_true]
        exact ⟨c1, c2, c3, chain_set hv ha xs (some x) c4 hf (fun q hq => by cases hq; exact hl)⟩
      | false =>
        have h2 : Op.bytesLess v x.var = true := by
          cases h3 : Op.bytesLess v x.var with
          | true => rfl
          | false =>
            have := bl_tri hl h3
            rw [this] at hx; simp at hx
        rw [Bool.not_false, cond_true, chainP_cons]
        simp only [Bool.and_eq_true]
        refine ⟨hv, ha, ?_, ?_⟩
        · cases p with
          | none => rfl
          | some q => exact hp q rfl
        · rw [chainP_cons]
          simp only [Bool.and_eq_true]
          exact ⟨c1, c2, h2, c4⟩
theorem bind_set {v val : Bytes} {w : List Pair} (hv : varB v = true) (ha : atomB val = true) (hb : bindB w = true) (hf : findP v w = none) (hl : w.length ≠ 6) : bindB (setP v val w) = true := by
  have h6 := bindB_len hb
  unfold bindB at hb ⊢
  rw [Bool.and_eq_true] at hb ⊢
  exact ⟨chain_set hv ha w none hb.1 hf (fun q h => by cases h), by rw [setP_len]; simp; omega⟩
/-! patterns that cover each other have one shape -/
theorem term_of {p : Fact} (h : patB p = true) : ∀ t ∈ p.args, termB t = true := by
  unfold patB at h
  rw [Bool.and_eq_true] at h
  exact fun t ht => List.all_eq_true.1 h.1 t ht
end Go.Cx

/- Tokens, their numbers and matches in plain words: of the program and of the reference. No condition but bounds on sizes. -/
namespace Go.Cx
open Go.RowKit Go.Proofs
set_option linter.unusedVariables false
set_option linter.unusedSimpArgs false
/-! copies -/
theorem iCopiesF (l : List Fact) (h : l.length ≤ 1048576) (hf : ∀ f ∈ l, f.args.length ≤ 1048576) : d_impl_copyFacts l = some l := by
  unfold d_impl_copyFacts
  refine (mapL (c := Fact.c) (b := 40) (f := d_impl_copyFact) (g := fun x => x) (L := d_impl_copyFacts_L1 l _) (k := fun q => some q) (by decide) (fun _ _ => rfl) (fun _ _ _ _ => rfl) l 0 [] (fun f h => iCopyF f (by have := hf f h; omega)) (by simp; omega)).trans ?_
  simp
/-! one more condition -/
def TK (n : Nat) (t : Token) : Prop := t.facts.length ≤ n ∧ (∀ f ∈ t.facts, f.wt ≤ 1048576) ∧ PB t.bind
theorem TK.le {n m : Nat} {t : Token} (h : TK n t) (hm : n ≤ m) : TK m t := ⟨by have := h.1; omega, h.2⟩
def ext1 (c : Cond) (t : Token) (f : Fact) : List Token := bif (matF c.pat f t.bind).2 then [⟨t.facts ++ [f], (matF c.pat f t.bind).1⟩] else []
def nxt1 (c : Cond) (fs : List Fact) (t : Token) : List Token := bif decide (c.kind = 1) then fs.flatMap (ext1 c t) else bif hldC c t.bind fs then [t] else []
def nxtB (fs : List Fact) (l : List Token) (c : Cond) : List Token := l.flatMap (nxt1 c fs)
def tokB (cs : List Cond) (fs : List Fact) : List Token := cs.foldl (nxtB fs) [⟨[], []⟩]
theorem ext1_len (c : Cond) (t : Token) (f : Fact) : (ext1 c t f).length ≤ 1 := by unfold ext1; cases (matF c.pat f t.bind).2 <;> simp
theorem exts_len (c : Cond) (t : Token) (fs : List Fact) : (fs.flatMap (ext1 c t)).length ≤ fs.length := by
  induction fs with
  | nil => simp
  | cons f fs ih => rw [List.flatMap_cons, List.length_append]; have := ext1_len c t f; simp only [List.length_cons]; omega
theorem nxt1_len (c : Cond) (fs : List Fact) (t : Token) : (nxt1 c fs t).length ≤ fs.length + 1 := by
  unfold nxt1
  cases decide (c.kind = 1) with
  | true => have := exts_len c t fs; rw [cond_true]; omega
  | false => cases hldC c t.bind fs <;> simp
theorem nxtB_len (fs : List Fact) (l : List Token) (c : Cond) : (nxtB fs l c).length ≤ l.length * (fs.length + 1) := by
  unfold nxtB
  induction l with
  | nil => simp
  | cons t l ih => rw [List.flatMap_cons, List.length_append, List.length_cons, Nat.succ_mul]; have := nxt1_len c fs t; omega
theorem nxt1_TK {c : Cond} {fs : List Fact} {t : Token} {n : Nat} (h : TK n t) (hc : c.wt ≤ 1048576) (hf : FS fs) : ∀ u ∈ nxt1 c fs t, TK (n + 1) u := by
  intro u hu
  unfold nxt1 at hu
  cases hk : decide (c.kind = 1) with
  | false =>
    rw [hk, cond_false] at hu
    cases hh : hldC c t.bind fs with
    | false => rw [hh] at hu; cases hu
    | true =>
      rw [hh, cond_true, List.mem_singleton] at hu
      subst hu; exact h.le (by omega)
  | true =>
    rw [hk, cond_true] at hu
    obtain ⟨f, hf1, hu⟩ := List.mem_flatMap.1 hu
    unfold ext1 at hu
    cases hm : (matF c.pat f t.bind).2 with
    | false => rw [hm] at hu; cases hu
    | true =>
      rw [hm, cond_true, List.mem_singleton] at hu
      subst hu
      refine ⟨by have := h.1; simp; omega, ?_, matF_PB h.2.2 (Cond.pat_le hc) (hf.2 f hf1)⟩
      intro g hg
      rcases List.mem_append.1 hg with hg | hg
      · exact h.2.1 g hg
      · rw [List.mem_singleton] at hg; rw [hg]; exact hf.2 f hf1
theorem nxtB_TK {c : Cond} {fs : List Fact} {l : List Token} {n : Nat} (h : ∀ t ∈ l, TK n t) (hc : c.wt ≤ 1048576) (hf : FS fs) : ∀ u ∈ nxtB fs l c, TK (n + 1) u := by
  intro u hu
  obtain ⟨t, ht, hu⟩ := List.mem_flatMap.1 hu
  exact nxt1_TK (h t ht) hc hf u hu
theorem extLoop {γ : Type} {mf : Fact → Option (List Pair × Bool)} {cps : Option (List Fact)} {cp : Fact → Option Fact} {c : Cond} {t : Token} {L : List Fact → Nat → List Token → Option γ} {k : List Token → Option γ} (hm : ∀ f : Fact, f.wt ≤ 1048576 → mf f = some (matF c.pat f t.bind)) (hcs : cps = some t.facts) (hc : ∀ f : Fact, f.wt ≤ 1048576 → cp f = some f) (ht : t.facts.length ≤ 1048576) (hnil : ∀ i w, L [] i w = k w)
    (hcons : ∀ x xs i w, L (x :: xs) i w = ((mf x).bind fun y => (bif y.2 then (cps.bind fun q => ((cp x).bind fun z => (bif room (((q).map Fact.c).length + ([[D.str (z.rel), D.sl ((z.args).map tx)]]).length) 40 then (bif room (((w).map Token.c).length + ([[D.sl (((q).map Fact.c) ++ ([[D.str (z.rel), D.sl ((z.args).map tx)]])), D.sl ((y.1).map Pair.c)]]).length) 48 then (L xs (i + 1) ((w) ++ ([(⟨(q) ++ ([z]), y.1⟩ : Token)]))) else none) else none))) else (L xs (i + 1) (w))))) :
    ∀ (l : List Fact) (i : Nat) (w : List Token), (∀ f ∈ l, f.wt ≤ 1048576) → w.length + l.length < 1099511627770 → L l i w = k (w ++ l.flatMap (ext1 c t)) := by
  intro l
  induction l with
  | nil => intro i w _ _; rw [hnil]; simp
  | cons x xs ih =>
    intro i w hl hw
    simp only [List.length_cons] at hw
    have hx := hl x (by simp)
    rw [hcons, hm x hx, Option.bind_some, hcs, Option.bind_some, hc x hx, Option.bind_some, room1 (by omega) (by decide), cond_true, room1 (by omega) (by decide), cond_true, List.flatMap_cons]
    rw [show ext1 c t x = bif (matF c.pat x t.bind).2 then [⟨t.facts ++ [x], (matF c.pat x t.bind).1⟩] else [] from rfl]
    cases (matF c.pat x t.bind).2 with
    | true => rw [cond_true, cond_true, ih _ _ (fun f hf => hl f (by simp [hf])) (by simp; omega)]; simp
    | false => rw [cond_false, cond_false, ih _ _ (fun f hf => hl f (by simp [hf])) (by omega)]; simp
theorem kind_ne (c : Cond) : ((c.kind : Int) != (1)) = !decide (c.kind = 1) := by
  show (!((c.kind : Int) == 1)) = _
  rw [int_beq]
theorem one_TK : ∀ t ∈ [(⟨[], []⟩ : Token)], TK 0 t := by
  intro t ht
  rw [List.mem_singleton] at ht
  subst ht
  exact ⟨by simp, by simp, PB.nil⟩
theorem pow25 {n : Nat} (h : n ≤ 4) : [(⟨[], []⟩ : Token)].length * 25 ^ n ≤ 390625 := by
  have := Nat.pow_le_pow_right (n := 25) (by decide) h
  simp only [List.length_singleton, Nat.one_mul]
  exact this
theorem iToksL2 (c0 : List Cond) (fs : List Fact) (w0 : List Token) (i1 : Nat) (c : Cond) (k : List Token → Option (List Token)) (hc : c.wt ≤ 1048576) (hf : FS fs) : ∀ (l : List Token) (i : Nat) (w : List Token), (∀ t ∈ l, TK 1048576 t) → w.length + l.length * (fs.length + 1) < 1099511627700 → d_impl_tokensOf_L2 c0 fs w0 i1 c k l i w = k (w ++ nxtB fs l c) := by
  intro l
  have h1 := hf.1
  induction l with
  | nil => intro i w _ _; rw [d_impl_tokensOf_L2]; simp [nxtB]
  | cons t l ih =>
    intro i w hl hw
    rw [List.length_cons, Nat.succ_mul] at hw
    have ht := hl t (by simp)
    have e : nxtB fs (t :: l) c = nxt1 c fs t ++ nxtB fs l c := by simp [nxtB]
    have hn := nxt1_len c fs t
    have he := exts_len c t fs
    rw [d_impl_tokensOf_L2, kind_ne, iHldC c t.bind fs hc ht.2.2 hf, Option.bind_some, room1 (by omega) (by decide), cond_true, lenOk (by omega), cond_true, e]
    rw [extLoop (mf := fun f => d_impl_MatchFact c.pat f t.bind) (cps := d_impl_copyFacts t.facts) (cp := d_impl_copyFact) (c := c) (t := t) (L := d_impl_tokensOf_L3 c0 fs i w0 t i1 c _) (k := _) (fun f h => iMat c.pat f t.bind (Cond.pat_le hc) h ht.2.2) (iCopiesF t.facts ht.1 (fun f hf => by have := Fact.args_le (ht.2.1 f hf); omega)) (fun f h => iCopyF f (by have := Fact.args_le h; omega)) ht.1 (fun _ _ => rfl) (fun _ _ _ _ => rfl) fs 0 w hf.2 (by omega)]
    unfold nxt1
    cases decide (c.kind = 1) with
    | true => simp only [Bool.not_true, cond_false, cond_true]; rw [ih _ _ (fun u hu => hl u (by simp [hu])) (by rw [List.length_append]; omega)]; simp
    | false =>
      simp only [Bool.not_false, cond_true, cond_false]
      cases hldC c t.bind fs with
      | true => simp only [cond_true]; rw [ih _ _ (fun u hu => hl u (by simp [hu])) (by rw [List.length_append]; simp; omega)]; simp
      | false => simp only [cond_false]; rw [ih _ _ (fun u hu => hl u (by simp [hu])) (by omega)]; simp
theorem iToksL (c0 : List Cond) (fs : List Fact) (k : List Token → Option (List Token)) (hf : FS fs) (h24 : fs.length ≤ 24) : ∀ (cs : List Cond) (i : Nat) (w : List Token) (n : Nat), (∀ c ∈ cs, c.wt ≤ 1048576) → (∀ t ∈ w, TK n t) → n + cs.length ≤ 1048576 → w.length * 25 ^ cs.length ≤ 390625 → d_impl_tokensOf_L1 c0 fs k cs i w = k (cs.foldl (nxtB fs) w) := by
  intro cs
  induction cs with
  | nil => intro i w n _ _ _ _; rfl
  | cons c cs ih =>
    intro i w n hc hw hn hl
    simp only [List.length_cons] at hn
    rw [List.length_cons, Nat.pow_succ, Nat.mul_comm (25 ^ cs.length) 25, ← Nat.mul_assoc] at hl
    have hp : 1 ≤ 25 ^ cs.length := Nat.one_le_pow _ _ (by decide)
    have hl2 : w.length * 25 ≤ 390625 := Nat.le_trans (Nat.le_mul_of_pos_right _ hp) hl
    have h25 : w.length * (fs.length + 1) ≤ w.length * 25 := Nat.mul_le_mul_left _ (by omega)
    rw [d_impl_tokensOf_L1, lenOk (by omega), cond_true, iToksL2 c0 fs w i c _ (hc c (by simp)) hf w 0 [] (fun t ht => (hw t ht).le (by omega)) (by simp only [List.length_nil]; omega), List.nil_append]
    refine ih _ _ (n + 1) (fun x hx => hc x (by simp [hx])) (nxtB_TK hw (hc c (by simp)) hf) (by omega) ?_
    exact Nat.le_trans (Nat.mul_le_mul_right _ (Nat.le_trans (nxtB_len fs w c) h25)) hl
theorem iToks (cs : List Cond) (fs : List Fact) (hc : ∀ c ∈ cs, c.wt ≤ 1048576) (h4 : cs.length ≤ 4) (hf : FS fs) (h24 : fs.length ≤ 24) : d_impl_tokensOf cs fs = some (tokB cs fs) := by
  unfold d_impl_tokensOf
  exact iToksL cs fs _ hf h24 cs 0 _ 0 hc one_TK (by omega) (pow25 h4)
/-! of a rule -/
theorem ruleB_len {r : Rule} (h : ruleB r = true) : r.conds.length ≤ 4 := by
  unfold ruleB at h
  simp only [Bool.and_eq_true, decide_eq_true_eq] at h
  omega
theorem condsB_mem {r : Rule} : ∀ {l : List Cond} {i : Nat}, condsB r l i = true → ∀ c ∈ l, condB c = true
  | [], _, _, c, hc => by cases hc
  | x :: xs, i, h, c, hc => by
    simp only [condsB, Bool.and_eq_true] at h
    rcases List.mem_cons.1 hc with rfl | hc
    · exact h.1.1.1
    · exact condsB_mem h.2 c hc
theorem ruleB_conds {r : Rule} (h : ruleB r = true) : ∀ c ∈ r.conds, condB c = true := by
  unfold ruleB at h
  simp only [Bool.and_eq_true] at h
  exact condsB_mem h.2.1
theorem areFB_len {l : List Fact} (h : areFB l = true) : l.length ≤ 24 := by
  unfold areFB at h
  simp only [Bool.and_eq_true, decide_eq_true_eq] at h
  exact h.2
def tkO (r : Rule) (n : Int) (fs : List Fact) : List Token := bif ruleB r && (areFB fs && (decide (n ≥ 0) && decide (n ≤ (r.conds.length : Int)))) then tokB (r.conds.take n.toNat) fs else []
theorem tkO_in {r : Rule} {fs : List Fact} (h1 : ruleB r = true) (h2 : areFB fs = true) {j : Nat} (hj : j ≤ r.conds.length) : tkO r (j : Int) fs = tokB (r.conds.take j) fs := by
  unfold tkO
  rw [h1, h2]
  have e1 : decide ((j : Int) ≥ 0) = true := by simp
  have e2 : decide ((j : Int) ≤ (r.conds.length : Int)) = true := by simp; omega
  rw [e1, e2]
  simp
/-! matches -/
def mtB (r : Rule) (fs : List Fact) : List Match := (tkO r (r.conds.length : Int) fs).map fun t => ⟨r.name, t.facts, t.bind⟩
theorem tokB_len {cs : List Cond} {fs : List Fact} (h4 : cs.length ≤ 4) (h24 : fs.length ≤ 24) : (tokB cs fs).length ≤ 390625 := by
  have key : ∀ (cs : List Cond) (w : List Token), w.length * 25 ^ cs.length ≤ 390625 → (cs.foldl (nxtB fs) w).length ≤ 390625 := by
    intro cs
    induction cs with
    | nil => intro w h; simpa using h
    | cons c cs ih =>
      intro w h
      rw [List.length_cons, Nat.pow_succ, Nat.mul_comm (25 ^ cs.length) 25, ← Nat.mul_assoc] at h
      refine ih _ ?_
      have h25 : w.length * (fs.length + 1) ≤ w.length * 25 := Nat.mul_le_mul_left _ (by omega)
      exact Nat.le_trans (Nat.mul_le_mul_right _ (Nat.le_trans (nxtB_len fs w c) h25)) h
  exact key cs _ (pow25 h4)
theorem iMts (r : Rule) (fs : List Fact) (hr : r.wt ≤ 1048576) (hf : wtL Fact.wt fs ≤ 1048576) : d_impl_MatchesOf r fs = some (mtB r fs) := by
  unfold d_impl_MatchesOf d_impl_matchesOf mtB
  rw [iRule r hr, Option.bind_some, iAreF fs hf, Option.bind_some]
  cases h1 : ruleB r with
  | false => unfold tkO; rw [h1]; rfl
  | true =>
    cases h2 : areFB fs with
    | false => unfold tkO; rw [h1, h2]; rfl
    | true =>
      have h4 := ruleB_len h1
      have hl := tokB_len (cs := r.conds) h4 (areFB_len h2)
      simp only [Bool.not_true, cond_false]
      rw [iToks r.conds fs (fun c hc => Rule.cond_le hr hc) h4 (FS.of hf) (areFB_len h2), Option.bind_some, lenOk (by omega), cond_true, tkO_in h1 h2 (Nat.le_refl _), List.take_length]
      rw [show d_impl_matchesOf_L1 r (tokB r.conds fs) (fun q => some q) (tokB r.conds fs) 0 [] = _ from mapL (c := Match.c) (b := 64) (f := fun t : Token => some (⟨r.name, t.facts, t.bind⟩ : Match)) (g := fun t => ⟨r.name, t.facts, t.bind⟩) (L := d_impl_matchesOf_L1 r _ _) (k := fun q => some q) (by decide) (fun _ _ => rfl) (fun _ _ _ _ => rfl) _ 0 [] (fun _ _ => rfl) (by simp; omega)]
      simp
theorem anyL {α : Type} {f : α → Option Bool} {p : α → Bool} {L : List α → Nat → Option Bool} (hf : ∀ x, f x = some (p x)) (hnil : ∀ i, L [] i = some false) (hcons : ∀ x xs i, L (x :: xs) i = (f x).bind fun y => bif y then some true else L xs (i + 1)) : ∀ (l : List α) (i : Nat), L l i = some (l.any p) := by
  intro l
  induction l with
  | nil => intro i; rw [hnil]; rfl
  | cons x xs ih =>
    intro i
    rw [hcons, hf, Option.bind_some, ih, List.any_cons]
    cases p x <;> rfl
theorem match_dec (a b : Match) : ((a.rule == b.rule) && (decide (a.facts = b.facts) && decide (a.bind = b.bind))) = decide (a = b) := by
  cases a; cases b
  rw [Bool.eq_iff_iff]
  simp
theorem iSameM (a b : Match) : d_impl_SameMatch a b = some (decide (a = b)) := by
  unfold d_impl_SameMatch
  rw [iSameFs, Option.bind_some, iSameB, Option.bind_some, ← match_dec]
  cases a.rule == b.rule <;> cases decide (a.facts = b.facts) <;> rfl
theorem iIsM (r : Rule) (fs : List Fact) (m : Match) (hr : r.wt ≤ 1048576) (hf : wtL Fact.wt fs ≤ 1048576) : d_impl_IsMatch r fs m = some ((mtB r fs).any fun x => decide (x = m)) := by
  unfold d_impl_IsMatch d_impl_hasMatch
  rw [iMts r fs hr hf, Option.bind_some, show d_impl_hasMatch_L1 (mtB r fs) m (some false) (mtB r fs) 0 = _ from anyL (f := fun x => d_impl_SameMatch x m) (L := d_impl_hasMatch_L1 (mtB r fs) m (some false)) (fun x => iSameM x m) (fun _ => rfl) (fun _ _ _ => rfl) _ 0, Option.bind_some]
/-! plain tries -/
end Go.Cx

/- Bindings and matching, seen through what they look up. No condition. -/
namespace Go.Cx
open Go.RowKit Go.Proofs
set_option linter.unusedVariables false
set_option linter.unusedSimpArgs false
theorem nodup_sub : ∀ (a b : List Bytes), a.Nodup → (∀ x ∈ a, x ∈ b) → a.length ≤ b.length
  | [], b, _, _ => Nat.zero_le _
  | x :: xs, b, hn, hs => by
    rw [List.nodup_cons] at hn
    have h1 := nodup_sub xs (b.erase x) hn.2 fun y hy => (List.mem_erase_of_ne (fun e => hn.1 (by rw [← e]; exact hy))).2 (hs y (by simp [hy]))
    have h2 := List.length_erase_of_mem (hs x (by simp))
    have h3 : 0 < b.length := List.length_pos_of_mem (hs x (by simp))
    simp only [List.length_cons]; omega
theorem atom_not_var {x : Bytes} (h : atomB x = true) : varB x = false := by
  cases hv : varB x with
  | false => rfl
  | true => rw [var_not_atom hv] at h; cases h
theorem ruleB_six {r : Rule} (h : ruleB r = true) : (uniqS (cndV r.conds)).length ≤ 6 := by
  unfold ruleB at h
  simp only [Bool.and_eq_true, decide_eq_true_eq] at h
  omega
theorem condB_pat {c : Cond} (hc : condB c = true) (hk : c.kind = 1 ∨ c.kind = 2) : patB c.pat = true ∧ c.left = [] ∧ c.right = [] := by
  unfold condB at hc
  have : (decide (c.kind = 1) || decide (c.kind = 2)) = true := by simpa using hk
  rw [this, cond_true] at hc
  simp only [Bool.and_eq_true, beq_iff_eq] at hc
  exact ⟨hc.1, hc.2.1, hc.2.2⟩
/-! a sorted binding is what it looks up -/
theorem chainP_none {p : Option Pair} {b : List Pair} (h : chainP p b = true) : chainP none b = true := by
  cases b with
  | nil => rfl
  | cons x xs =>
    rw [chainP_cons] at h ⊢
    simp only [Bool.and_eq_true] at h ⊢
    first | exact ⟨h.1, h.2.1, rfl, h.2.2.2⟩ | exact ⟨h.1, h.2.1, h.2.2.2⟩ | exact ⟨h.1, h.2.1, trivial, h.2.2.2⟩
theorem chain_lt : ∀ {b : List Pair} {p : Pair}, chainP (some p) b = true → ∀ x ∈ b, Op.bytesLess p.var x.var = true
  | y :: ys, p, h, x, hx => by
    rw [chainP_cons] at h
    simp only [Bool.and_eq_true] at h
    rcases List.mem_cons.1 hx with rfl | hx
    · exact h.2.2.1
    · exact bl_trans h.2.2.1 (chain_lt h.2.2.2 x hx)
theorem chain_nodup : ∀ {b : List Pair} {p : Option Pair}, chainP p b = true → (b.map Pair.var).Nodup
  | [], _, _ => by simp
  | x :: xs, p, h => by
    rw [chainP_cons] at h
    simp only [Bool.and_eq_true] at h
    rw [List.map_cons, List.nodup_cons]
    refine ⟨fun hm => ?_, chain_nodup h.2.2.2⟩
    obtain ⟨q, hq, e⟩ := List.mem_map.1 hm
    have := chain_lt h.2.2.2 q hq
    rw [e, bl_irrefl] at this; cases this
theorem bindB_chain {b : List Pair} (h : bindB b = true) : chainP none b = true := by
  unfold bindB at h; rw [Bool.and_eq_true] at h; exact h.1
theorem chain_mem : ∀ {b : List Pair} {p : Option Pair}, chainP p b = true → ∀ x ∈ b, varB x.var = true ∧ atomB x.value = true
  | y :: ys, p, h, x, hx => by
    rw [chainP_cons] at h
    simp only [Bool.and_eq_true] at h
    rcases List.mem_cons.1 hx with rfl | hx
    · exact ⟨h.1, h.2.1⟩
    · exact chain_mem h.2.2.2 x hx
theorem chain_ext : ∀ {a b : List Pair}, chainP none a = true → chainP none b = true → (∀ v, findP v a = findP v b) → a = b
  | [], [], _, _, _ => rfl
  | [], y :: ys, _, _, h => by have := h y.var; simp [findP] at this
  | x :: xs, [], _, _, h => by have := h x.var; simp [findP] at this
  | x :: xs, y :: ys, ha, hb, h => by
    have ha0 := ha
    have hb0 := hb
    rw [chainP_cons] at ha hb
    simp only [Bool.and_eq_true] at ha hb
    have key : ∀ {u v : Pair} {us vs : List Pair}, chainP (some u) us = true → chainP (some v) vs = true → (∀ t, findP t (u :: us) = findP t (v :: vs)) → Op.bytesLess u.var v.var = false := by
      intro u v us vs hu hv ht
      cases hl : Op.bytesLess u.var v.var with
      | false => rfl
      | true =>
        have h1 := ht u.var
        rw [show findP u.var (u :: us) = some u.value by simp [findP]] at h1
        obtain ⟨q, hq, e, _⟩ := findP_mem h1.symm
        rcases List.mem_cons.1 hq with rfl | hq
        · rw [e, bl_irrefl] at hl; cases hl
        · have := bl_trans hl (chain_lt hv q hq)
          rw [e, bl_irrefl] at this; cases this
    have e1 := key ha.2.2.2 hb.2.2.2 h
    have e2 := key hb.2.2.2 ha.2.2.2 (fun t => (h t).symm)
    have ev : x.var = y.var := bl_tri e1 e2
    have e3 : x.value = y.value := by
      have := h x.var
      rw [show findP x.var (x :: xs) = some x.value by simp [findP], show findP x.var (y :: ys) = some y.value by simp [findP, ev]] at this
      exact Option.some.inj this
    have e4 : x = y := by cases x; cases y; cases ev; cases e3; rfl
    subst e4
    congr 1
    refine chain_ext (chainP_none ha.2.2.2) (chainP_none hb.2.2.2) fun v => ?_
    by_cases hv : x.var = v
    · have n1 : ∀ {l : List Pair}, chainP (some x) l = true → findP v l = none := by
        intro l hl
        cases hf : findP v l with
        | none => rfl
        | some o =>
          obtain ⟨q, hq, e, _⟩ := findP_mem hf
          have := chain_lt hl q hq
          rw [hv, e, bl_irrefl] at this; cases this
      rw [n1 ha.2.2.2, n1 hb.2.2.2]
    · have := h v
      have hne : (x.var == v) = false := by rw [beq_eq_false_iff_ne]; exact hv
      rw [findP, findP, hne, cond_false, cond_false] at this
      exact this
/-! bindings of the variables U -/
structure WB (U : List Bytes) (b : List Pair) : Prop where
  ok : bindB b = true
  sub : ∀ p ∈ b, p.var ∈ U
theorem WB.nil (U : List Bytes) : WB U [] := ⟨rfl, fun p h => by cases h⟩
theorem WB.room {U : List Bytes} (hU : U.length ≤ 6) {b : List Pair} (h : WB U b) {x : Bytes} (hx : x ∈ U) (hf : findP x b = none) : b.length ≠ 6 := by
  have h1 : (x :: b.map Pair.var).length ≤ U.length := nodup_sub _ _ (by
    rw [List.nodup_cons]
    refine ⟨fun hm => ?_, chain_nodup (bindB_chain h.ok)⟩
    obtain ⟨p, hp, e⟩ := List.mem_map.1 hm
    exact findP_none hf p hp e) (fun y hy => by
    rcases List.mem_cons.1 hy with rfl | hy
    · exact hx
    · obtain ⟨p, hp, rfl⟩ := List.mem_map.1 hy; exact h.sub p hp)
  simp only [List.length_cons, List.length_map] at h1
  omega
theorem WB.set {U : List Bytes} (hU : U.length ≤ 6) {b : List Pair} (h : WB U b) {x y : Bytes} (hx : x ∈ U) (hv : varB x = true) (ha : atomB y = true) (hf : findP x b = none) : WB U (setP x y b) :=
  ⟨bind_set hv ha h.ok hf (h.room hU hx hf), fun p hp => by
    rcases setP_mem x y b hp with e | e
    · rw [e]; exact hx
    · exact h.sub p e⟩
theorem WB.ext {U : List Bytes} {a b : List Pair} (ha : WB U a) (hb : WB U b) (h : ∀ v, findP v a = findP v b) : a = b := chain_ext (bindB_chain ha.ok) (bindB_chain hb.ok) h
/-- one argument: what an extension is -/
theorem extB_in {U : List Bytes} (hU : U.length ≤ 6) {b : List Pair} (h : WB U b) {x y : Bytes} (hx : x ∈ U) (hv : varB x = true) : extB b x y = if atomB y = true then (match findP x b with | some o => bif o == y then (b, true) else ([], false) | none => (setP x y b, true)) else ([], false) := by
  unfold extB
  rw [h.ok, hv]
  simp only [Bool.true_and]
  cases ha : atomB y with
  | false => rfl
  | true =>
    rw [cond_true, if_pos rfl]
    cases hf : findP x b with
    | some o => rfl
    | none => dsimp only; rw [decide_eq_false (h.room hU hx hf), cond_false]
/-- the assignment h says all of b -/
def Says (h : Bytes → Bytes) (b : List Pair) : Prop := ∀ v o, findP v b = some o → h v = o
theorem findP_set_eq {x y v : Bytes} {b : List Pair} (hf : findP x b = none) : findP v (setP x y b) = if v = x then some y else findP v b := by
  by_cases e : v = x
  · subst e; rw [if_pos rfl, findP_set _ hf]
  · rw [if_neg e, findP_set_ne (fun e2 => e e2.symm)]
/-- what matching arguments comes to: there is one assignment that gives them -/
theorem matA_iff {U : List Bytes} (hU : U.length ≤ 6) : ∀ (l r : List Bytes) (b : List Pair), WB U b → (∀ x ∈ l, termB x = true) → (∀ x ∈ l, varB x = true → x ∈ U) → (∀ y ∈ r, atomB y = true) → l.length = r.length →
    ((matA l r b).2 = true ↔ ∃ h, Says h b ∧ Fix h ∧ r = l.map h) ∧ ((matA l r b).2 = true → WB U (matA l r b).1 ∧ ∀ v o, (findP v (matA l r b).1 = some o ↔ findP v b = some o ∨ (v ∈ l ∧ varB v = true ∧ ∀ h, Says h b → Fix h → r = l.map h → h v = o))) := by
  intro l
  induction l with
  | nil =>
    intro r b hb _ _ _ hl
    have hr : r = [] := by cases r with | nil => rfl | cons _ _ => simp at hl
    subst hr
    refine ⟨⟨fun _ => ?_, fun _ => rfl⟩, fun _ => ⟨hb, fun v o => ⟨fun h => .inl h, fun h => ?_⟩⟩⟩
    · refine ⟨fun y => (findP y b).getD y, fun v o ho => by simp [ho], fun y hy => ?_, rfl⟩
      cases hf : findP y b with
      | none => simp [hf]
      | some o =>
        obtain ⟨p, hp, h1, _⟩ := findP_mem hf
        have := (chain_mem (bindB_chain hb.ok) p hp).1
        rw [h1] at this
        rw [var_not_atom this] at hy; cases hy
    · rcases h with h | ⟨h, _⟩
      · exact h
      · cases h
  | cons x xs ih =>
    intro r b hb ht hv hat hl
    cases r with
    | nil => simp at hl
    | cons y ys =>
      have ht' : ∀ z ∈ xs, termB z = true := fun z hz => ht z (by simp [hz])
      have hv' : ∀ z ∈ xs, varB z = true → z ∈ U := fun z hz => hv z (by simp [hz])
      have ha' : ∀ z ∈ ys, atomB z = true := fun z hz => hat z (by simp [hz])
      have hl' : xs.length = ys.length := by simpa using hl
      have hay := hat y (by simp)
      cases hx : atomB x with
      | true =>
        have hxv := atom_not_var hx
        cases hxy : x == y with
        | false =>
          have e : matA (x :: xs) (y :: ys) b = ([], false) := by simp only [matA, hx, hxy, cond_true, cond_false]
          rw [e]
          refine ⟨⟨fun h => (by cases h), ?_⟩, fun h => (by cases h)⟩
          rintro ⟨h, _, h2, h3⟩
          rw [List.map_cons, h2 x hx] at h3
          have : x = y := (List.cons.inj h3).1.symm
          rw [this] at hxy; simp at hxy
        | true =>
          have exy : x = y := by simpa using hxy
          have e : matA (x :: xs) (y :: ys) b = matA xs ys b := by simp only [matA, hx, hxy, cond_true]
          rw [e]
          obtain ⟨i1, i2⟩ := ih ys b hb ht' hv' ha' hl'
          have hh : ∀ h : Bytes → Bytes, Fix h → (y :: ys = (x :: xs).map h ↔ ys = xs.map h) := by
            intro h hf
            rw [List.map_cons, hf x hx, exy]
            exact ⟨fun q => (List.cons.inj q).2, fun q => by rw [← q]⟩
          refine ⟨⟨fun h => ?_, ?_⟩, fun h => ?_⟩
          · obtain ⟨g, g1, g2, g3⟩ := i1.1 h
            exact ⟨g, g1, g2, (hh g g2).2 g3⟩
          · rintro ⟨g, g1, g2, g3⟩
            exact i1.2 ⟨g, g1, g2, (hh g g2).1 g3⟩
          · obtain ⟨k1, k2⟩ := i2 h
            refine ⟨k1, fun v o => (k2 v o).trans ⟨?_, ?_⟩⟩
            · rintro (q | ⟨q1, q2, q3⟩)
              · exact .inl q
              · exact .inr ⟨by simp [q1], q2, fun g g1 g2 g3 => q3 g g1 g2 ((hh g g2).1 g3)⟩
            · rintro (q | ⟨q1, q2, q3⟩)
              · exact .inl q
              · rcases List.mem_cons.1 q1 with rfl | q1
                · rw [hxv] at q2; cases q2
                · exact .inr ⟨q1, q2, fun g g1 g2 g3 => q3 g g1 g2 ((hh g g2).2 g3)⟩
      | false =>
        have hxv : varB x = true := by have := ht x (by simp); unfold termB at this; rw [hx] at this; simpa using this
        have hxU := hv x (by simp) hxv
        have ee := extB_in hU hb (y := y) hxU hxv
        rw [if_pos hay] at ee
        cases hf : findP x b with
        | some o =>
          rw [hf] at ee
          dsimp only at ee
          cases ho : o == y with
          | false =>
            rw [ho, cond_false] at ee
            have e : matA (x :: xs) (y :: ys) b = ([], false) := by simp only [matA, hx, cond_false, ee]
            rw [e]
            refine ⟨⟨fun h => (by cases h), ?_⟩, fun h => (by cases h)⟩
            rintro ⟨h, h1, h2, h3⟩
            rw [List.map_cons, h1 x o hf] at h3
            have : o = y := (List.cons.inj h3).1.symm
            rw [this] at ho; simp at ho
          | true =>
            have eo : o = y := by simpa using ho
            rw [ho, cond_true] at ee
            have e : matA (x :: xs) (y :: ys) b = matA xs ys b := by simp only [matA, hx, cond_false, ee, cond_true]
            rw [e]
            obtain ⟨i1, i2⟩ := ih ys b hb ht' hv' ha' hl'
            have hh : ∀ h : Bytes → Bytes, Says h b → (y :: ys = (x :: xs).map h ↔ ys = xs.map h) := by
              intro h h1
              rw [List.map_cons, h1 x o hf, eo]
              exact ⟨fun q => (List.cons.inj q).2, fun q => by rw [← q]⟩
            refine ⟨⟨fun h => ?_, ?_⟩, fun h => ?_⟩
            · obtain ⟨g, g1, g2, g3⟩ := i1.1 h
              exact ⟨g, g1, g2, (hh g g1).2 g3⟩
            · rintro ⟨g, g1, g2, g3⟩
              exact i1.2 ⟨g, g1, g2, (hh g g1).1 g3⟩
            · obtain ⟨k1, k2⟩ := i2 h
              refine ⟨k1, fun v q => (k2 v q).trans ⟨?_, ?_⟩⟩
              · rintro (q1 | ⟨q1, q2, q3⟩)
                · exact .inl q1
                · exact .inr ⟨by simp [q1], q2, fun g g1 g2 g3 => q3 g g1 g2 ((hh g g1).1 g3)⟩
              · rintro (q1 | ⟨q1, q2, q3⟩)
                · exact .inl q1
                · rcases List.mem_cons.1 q1 with rfl | q1
                  · obtain ⟨g, g1, g2, g3⟩ := i1.1 h
                    have := q3 g g1 g2 ((hh g g1).2 g3)
                    rw [g1 v o hf] at this
                    subst this; exact .inl hf
                  · exact .inr ⟨q1, q2, fun g g1 g2 g3 => q3 g g1 g2 ((hh g g1).2 g3)⟩
        | none =>
          rw [hf] at ee
          dsimp only at ee
          have e : matA (x :: xs) (y :: ys) b = matA xs ys (setP x y b) := by simp only [matA, hx, cond_false, ee, cond_true]
          rw [e]
          obtain ⟨i1, i2⟩ := ih ys (setP x y b) (hb.set hU hxU hxv hay hf) ht' hv' ha' hl'
          have hs : ∀ h : Bytes → Bytes, Says h (setP x y b) ↔ Says h b ∧ h x = y := by
            intro h
            constructor
            · intro q
              refine ⟨fun v o ho => q v o ?_, q x y (findP_set _ hf)⟩
              rw [findP_set_eq hf, if_neg (fun e => by rw [e, hf] at ho; cases ho)]; exact ho
            · rintro ⟨q1, q2⟩ v o ho
              rw [findP_set_eq hf] at ho
              by_cases e : v = x
              · rw [if_pos e] at ho; cases ho; rw [e]; exact q2
              · rw [if_neg e] at ho; exact q1 v o ho
          have hh : ∀ h : Bytes → Bytes, (y :: ys = (x :: xs).map h ↔ h x = y ∧ ys = xs.map h) := by
            intro h
            rw [List.map_cons]
            exact ⟨fun q => ⟨(List.cons.inj q).1.symm, (List.cons.inj q).2⟩, fun q => by rw [q.1, ← q.2]⟩
          refine ⟨⟨fun h => ?_, ?_⟩, fun h => ?_⟩
          · obtain ⟨g, g1, g2, g3⟩ := i1.1 h
            obtain ⟨g1, g4⟩ := (hs g).1 g1
            exact ⟨g, g1, g2, (hh g).2 ⟨g4, g3⟩⟩
          · rintro ⟨g, g1, g2, g3⟩
            obtain ⟨g4, g3⟩ := (hh g).1 g3
            exact i1.2 ⟨g, (hs g).2 ⟨g1, g4⟩, g2, g3⟩
          · obtain ⟨k1, k2⟩ := i2 h
            refine ⟨k1, fun v q => (k2 v q).trans ⟨?_, ?_⟩⟩
            · rintro (q1 | ⟨q1, q2, q3⟩)
              · rw [findP_set_eq hf] at q1
                by_cases ev : v = x
                · rw [if_pos ev] at q1; cases q1
                  refine .inr ⟨by simp [ev], by rw [ev]; exact hxv, fun g g1 g2 g3 => by rw [ev]; exact ((hh g).1 g3).1⟩
                · rw [if_neg ev] at q1; exact .inl q1
              · refine .inr ⟨by simp [q1], q2, fun g g1 g2 g3 => ?_⟩
                obtain ⟨g4, g3⟩ := (hh g).1 g3
                exact q3 g ((hs g).2 ⟨g1, g4⟩) g2 g3
            · rintro (q1 | ⟨q1, q2, q3⟩)
              · left
                rw [findP_set_eq hf, if_neg (fun e => by rw [e, hf] at q1; cases q1)]; exact q1
              · by_cases ev : v = x
                · left
                  obtain ⟨g, g1, g2, g3⟩ := i1.1 h
                  obtain ⟨g1, g4⟩ := (hs g).1 g1
                  have := q3 g g1 g2 ((hh g).2 ⟨g4, g3⟩)
                  rw [ev, g4] at this
                  rw [findP_set_eq hf, if_pos ev, this]
                · rcases List.mem_cons.1 q1 with q1 | q1
                  · exact absurd q1 ev
                  · refine .inr ⟨q1, q2, fun g g1 g2 g3 => ?_⟩
                    obtain ⟨g1, g4⟩ := (hs g).1 g1
                    exact q3 g g1 g2 ((hh g).2 ⟨g4, g3⟩)
/-! a pattern and a fact -/
def Fits (p f : Fact) (h : Bytes → Bytes) : Prop := factB f = true ∧ p.rel = f.rel ∧ f.args = p.args.map h
theorem matF_sem {U : List Bytes} (hU : U.length ≤ 6) {p f : Fact} {b : List Pair} (hb : WB U b) (hp : patB p = true) (hv : ∀ x ∈ p.args, varB x = true → x ∈ U) :
    ((matF p f b).2 = true ↔ ∃ h, Says h b ∧ Fix h ∧ Fits p f h) ∧ ((matF p f b).2 = true → WB U (matF p f b).1 ∧ ∀ v o, (findP v (matF p f b).1 = some o ↔ findP v b = some o ∨ (v ∈ p.args ∧ varB v = true ∧ ∀ h, Says h b → Fix h → Fits p f h → h v = o))) := by
  cases hc : patB p && (factB f && (bindB b && (p.rel == f.rel && decide (p.args.length = f.args.length)))) with
  | false =>
    have e : matF p f b = ([], false) := by unfold matF; rw [hc]; rfl
    rw [e]
    refine ⟨⟨fun h => (by cases h), ?_⟩, fun h => (by cases h)⟩
    rintro ⟨h, _, _, h1, h2, h3⟩
    rw [hp, h1, hb.ok, h2, beq_self_eq_true, decide_eq_true (by rw [h3]; simp)] at hc
    cases hc
  | true =>
    have e : matF p f b = matA p.args f.args b := by unfold matF; rw [hc]; rfl
    simp only [Bool.and_eq_true, beq_iff_eq, decide_eq_true_eq] at hc
    obtain ⟨_, c2, _, c4, c5⟩ := hc
    have hat : ∀ y ∈ f.args, atomB y = true := by
      unfold factB at c2
      rw [Bool.and_eq_true] at c2
      exact List.all_eq_true.1 c2.1
    obtain ⟨i1, i2⟩ := matA_iff hU p.args f.args b hb (term_of hp) hv hat c5
    rw [e]
    have hf : ∀ h, Fits p f h ↔ f.args = p.args.map h := fun h => ⟨fun q => q.2.2, fun q => ⟨c2, c4, q⟩⟩
    refine ⟨⟨fun h => ?_, ?_⟩, fun h => ?_⟩
    · obtain ⟨g, g1, g2, g3⟩ := i1.1 h; exact ⟨g, g1, g2, (hf g).2 g3⟩
    · rintro ⟨g, g1, g2, g3⟩; exact i1.2 ⟨g, g1, g2, (hf g).1 g3⟩
    · obtain ⟨k1, k2⟩ := i2 h
      refine ⟨k1, fun v o => (k2 v o).trans ⟨?_, ?_⟩⟩
      · rintro (q | ⟨q1, q2, q3⟩)
        · exact .inl q
        · exact .inr ⟨q1, q2, fun g g1 g2 g3 => q3 g g1 g2 ((hf g).1 g3)⟩
      · rintro (q | ⟨q1, q2, q3⟩)
        · exact .inl q
        · exact .inr ⟨q1, q2, fun g g1 g2 g3 => q3 g g1 g2 ((hf g).2 g3)⟩
/-- a match's binding says what the old one says, and that the pattern gives the fact -/
theorem matF_says {U : List Bytes} (hU : U.length ≤ 6) {p f : Fact} {b : List Pair} (hb : WB U b) (hp : patB p = true) (hv : ∀ x ∈ p.args, varB x = true → x ∈ U) (hm : (matF p f b).2 = true) {h : Bytes → Bytes} (hx : Fix h) : Says h (matF p f b).1 ↔ Says h b ∧ Fits p f h := by
  obtain ⟨i1, i2⟩ := matF_sem hU hb hp hv (f := f)
  obtain ⟨k1, k2⟩ := i2 hm
  obtain ⟨g, g1, g2, g3⟩ := i1.1 hm
  constructor
  · intro hs
    refine ⟨fun v o ho => hs v o ((k2 v o).2 (.inl ho)), g3.1, g3.2.1, ?_⟩
    rw [g3.2.2]
    refine List.map_congr_left fun x hx2 => ?_
    cases hxv : varB x with
    | false =>
      have hax : atomB x = true := by have := term_of hp x hx2; unfold termB at this; rw [hxv, Bool.or_false] at this; exact this
      rw [g2 x hax, hx x hax]
    | true =>
      refine (hs x (g x) ((k2 x (g x)).2 (.inr ⟨hx2, hxv, fun q q1 q2 q3 => ?_⟩))).symm
      have := q3.2.2
      rw [g3.2.2] at this
      exact (List.map_inj_left.1 this x hx2).symm
  · rintro ⟨h1, h2⟩ v o ho
    rcases (k2 v o).1 ho with q | ⟨_, _, q⟩
    · exact h1 v o q
    · exact q h h1 hx h2
theorem matF_dom {U : List Bytes} (hU : U.length ≤ 6) {p f : Fact} {b : List Pair} (hb : WB U b) (hp : patB p = true) (hv : ∀ x ∈ p.args, varB x = true → x ∈ U) (hm : (matF p f b).2 = true) (v : Bytes) : (∃ o, findP v (matF p f b).1 = some o) ↔ (∃ o, findP v b = some o) ∨ v ∈ varsB p.args := by
  obtain ⟨i1, i2⟩ := matF_sem hU hb hp hv (f := f)
  obtain ⟨k1, k2⟩ := i2 hm
  obtain ⟨g, g1, g2, g3⟩ := i1.1 hm
  constructor
  · rintro ⟨o, ho⟩
    rcases (k2 v o).1 ho with q | ⟨q1, q2, _⟩
    · exact .inl ⟨o, q⟩
    · exact .inr (List.mem_filter.2 ⟨q1, q2⟩)
  · rintro (⟨o, ho⟩ | h)
    · exact ⟨o, (k2 v o).2 (.inl ho)⟩
    · obtain ⟨q1, q2⟩ := List.mem_filter.1 h
      refine ⟨g v, (k2 v _).2 (.inr ⟨q1, q2, fun q w1 w2 w3 => ?_⟩)⟩
      have := w3.2.2
      rw [g3.2.2] at this
      exact (List.map_inj_left.1 this v q1).symm
theorem Says.of {b : List Pair} {U : List Bytes} (hb : WB U b) : Says (fun y => (findP y b).getD y) b ∧ Fix (fun y => (findP y b).getD y) := by
  refine ⟨fun v o ho => by simp [ho], fun y hy => ?_⟩
  cases hf : findP y b with
  | none => simp [hf]
  | some o =>
    obtain ⟨p, hp, h1, _⟩ := findP_mem hf
    have := (chain_mem (bindB_chain hb.ok) p hp).1
    rw [h1] at this
    rw [var_not_atom this] at hy; cases hy
theorem WB.key {U : List Bytes} {b : List Pair} (hb : WB U b) {v o : Bytes} (h : findP v b = some o) : varB v = true := by
  obtain ⟨p, hp, h1, _⟩ := findP_mem h
  have := (chain_mem (bindB_chain hb.ok) p hp).1
  rw [h1] at this; exact this
/-- two bindings with one domain that one assignment says are one -/
theorem WB.one {U : List Bytes} {a b : List Pair} (ha : WB U a) (hb : WB U b) (hd : ∀ v, (∃ o, findP v a = some o) ↔ (∃ o, findP v b = some o)) {h : Bytes → Bytes} (h1 : Says h a) (h2 : Says h b) : a = b := by
  refine ha.ext hb fun v => ?_
  cases hf : findP v a with
  | some o =>
    obtain ⟨q, hq⟩ := (hd v).1 ⟨o, hf⟩
    rw [hq, ← h1 v o hf, ← h2 v q hq]
  | none =>
    cases hg : findP v b with
    | none => rfl
    | some q =>
      obtain ⟨o, ho⟩ := (hd v).2 ⟨q, hg⟩
      rw [hf] at ho; cases ho
/-- whether a pattern fits looks at the pattern's variables alone -/
theorem matF_congr {U : List Bytes} (hU : U.length ≤ 6) {p f : Fact} {a b : List Pair} (ha : WB U a) (hb : WB U b) (hp : patB p = true) (hv : ∀ x ∈ p.args, varB x = true → x ∈ U) (he : ∀ x ∈ p.args, varB x = true → findP x a = findP x b) : (matF p f a).2 = (matF p f b).2 := by
  have one : ∀ {a b : List Pair}, WB U a → WB U b → (∀ x ∈ p.args, varB x = true → findP x a = findP x b) → (matF p f a).2 = true → (matF p f b).2 = true := by
    intro a b ha hb he h
    obtain ⟨g, g1, g2, g3⟩ := (matF_sem hU ha hp hv (f := f)).1.1 h
    refine (matF_sem hU hb hp hv (f := f)).1.2 ⟨fun y => if y ∈ p.args then g y else (findP y b).getD y, fun v o ho => ?_, fun y hy => ?_, g3.1, g3.2.1, ?_⟩
    · show (if v ∈ p.args then g v else (findP v b).getD v) = o
      by_cases hm : v ∈ p.args
      · rw [if_pos hm]; exact g1 v o (by rw [he v hm (hb.key ho)]; exact ho)
      · rw [if_neg hm, ho]; rfl
    · show (if y ∈ p.args then g y else (findP y b).getD y) = y
      by_cases hm : y ∈ p.args
      · rw [if_pos hm]; exact g2 y hy
      · rw [if_neg hm]; exact (Says.of hb).2 y hy
    · rw [g3.2.2]
      exact List.map_congr_left fun x hx => by show g x = (if x ∈ p.args then g x else (findP x b).getD x); rw [if_pos hx]
  cases h1 : (matF p f a).2 with
  | true => rw [one ha hb he h1]
  | false =>
    cases h2 : (matF p f b).2 with
    | false => rfl
    | true => rw [one hb ha (fun x h3 h4 => (he x h3 h4).symm) h2] at h1; cases h1
theorem condV_args {c : Cond} {x : Bytes} (h : x ∈ c.pat.args) (hv : varB x = true) : x ∈ condV c := List.mem_filter.2 ⟨by simp [h], hv⟩
theorem valB_congr {c : Cond} {a b : List Pair} (he : ∀ x ∈ condV c, findP x a = findP x b) {t : Bytes} (ht : t = c.left ∨ t = c.right) : valB a t = valB b t := by
  unfold valB
  cases hv : varB t with
  | false => rfl
  | true => rw [he t (List.mem_filter.2 ⟨by rcases ht with rfl | rfl <;> simp, hv⟩)]
theorem hldC_congr {U : List Bytes} (hU : U.length ≤ 6) {c : Cond} {fs : List Fact} {a b : List Pair} (ha : WB U a) (hb : WB U b) (hc : condB c = true) (hk : c.kind ≠ 1) (hv : ∀ x ∈ c.pat.args, varB x = true → x ∈ U) (he : ∀ x ∈ condV c, findP x a = findP x b) : hldC c a fs = hldC c b fs := by
  unfold hldC
  rw [hc, ha.ok, hb.ok, decide_eq_false hk, cond_false, cond_false]
  by_cases h2 : c.kind = 2
  · have hp := (condB_pat hc (.inr h2)).1
    have e : fitF c.pat a fs = fitF c.pat b fs := by
      unfold fitF
      congr 1; funext f
      exact matF_congr hU ha hb hp hv fun x hx hxv => he x (condV_args hx hxv)
    rw [e, decide_eq_true h2]; rfl
  · rw [decide_eq_false h2, cond_false, cond_false]
    unfold hldT
    rw [ha.ok, hb.ok, valB_congr he (.inl rfl), valB_congr he (.inr rfl)]
/-! the conditions of a valid rule -/
theorem condsB_get {r : Rule} : ∀ {pre rest : List Cond} {c : Cond} {i : Nat}, condsB r (pre ++ c :: rest) i = true → condB c = true ∧ (i + pre.length = 0 → c.kind = 1) ∧ ∀ v ∈ condV c, fitB r (i + pre.length) c v = true
  | [], rest, c, i, h => by
    rw [List.nil_append] at h
    unfold condsB at h
    rw [all_uniqS] at h
    simp only [Bool.and_eq_true, Bool.or_eq_true, Bool.not_eq_true', decide_eq_false_iff_not, decide_eq_true_eq] at h
    refine ⟨h.1.1.1, fun e => ?_, fun v hv => List.all_eq_true.1 h.1.2 v hv⟩
    rcases h.1.1.2 with q | q
    · exact absurd (by simpa using e) q
    · exact q
  | x :: pre, rest, c, i, h => by
    rw [List.cons_append] at h
    unfold condsB at h
    rw [Bool.and_eq_true] at h
    have := condsB_get h.2
    rw [List.length_cons, show i + (pre.length + 1) = i + 1 + pre.length by omega]; exact this
theorem ruleB_condsB {r : Rule} (h : ruleB r = true) : condsB r r.conds 0 = true := by
  unfold ruleB at h
  simp only [Bool.and_eq_true] at h
  exact h.2.1
theorem elsC_of {v : Bytes} {k : Int} : ∀ {l : List Cond} {i j : Nat} {c : Cond}, l[j]? = some c → ((i + j : Nat) : Int) ≠ k → v ∈ condV c → elsC v k l i = true
  | x :: l, i, 0, c, h, hn, hv => by
    cases h
    unfold elsC
    rw [decide_eq_true (by simpa using hn), List.contains_iff_mem.2 hv]; rfl
  | x :: l, i, j + 1, c, h, hn, hv => by
    unfold elsC
    rw [elsC_of (l := l) (i := i + 1) (j := j) h (by rw [show i + 1 + j = i + (j + 1) by omega]; exact hn) hv, Bool.or_true]
end Go.Cx

/- What the draws of the reference come to in plain words: they come back, with data of bounded size. No condition but a bound on the code's length. -/
namespace Go.Cx
open Go.RowKit Go.Proofs
set_option linter.unusedVariables false
set_option linter.unusedSimpArgs false
def CurOk (c : Cur) : Prop := 0 ≤ c.i ∧ c.b.length ≤ 4096
theorem band255 (x : Int) : 0 ≤ bandI .i64 x 255 ∧ bandI .i64 x 255 ≤ 255 := by
  unfold bandI
  have h : (BitVec.ofInt IntKind.i64.bits x &&& BitVec.ofInt IntKind.i64.bits 255).toNat ≤ 255 := by
    rw [BitVec.toNat_and]
    exact Nat.le_trans Nat.and_le_right (by decide)
  rw [wrap_in (InR.i64.2 (by omega))]
  omega
theorem sByte (c : Cur) (h : CurOk c) : ∃ c' x, d_spec_l1Byte c = some (c', x) ∧ CurOk c' ∧ 0 ≤ x ∧ x ≤ 255 := by
  obtain ⟨h1, h2⟩ := h
  unfold d_spec_l1Byte
  rw [List.length_map]
  by_cases hi : c.i < (c.b.length : Int)
  · have hlt : c.i.toNat < c.b.length := by omega
    have e : atI c.b c.i = some c.b[c.i.toNat] := by unfold atI; rw [decide_eq_true h1, cond_true]; exact List.getElem?_eq_getElem hlt
    rw [decide_eq_true hi, cond_true, e, Option.bind_some]
    refine ⟨_, _, rfl, ⟨?_, h2⟩, band255 _⟩
    show 0 ≤ IntKind.i64.wrap (c.i + 1)
    rw [wrap_in (InR.i64.2 (by omega))]; omega
  · rw [decide_eq_false hi, cond_false]
    exact ⟨_, _, rfl, ⟨h1, h2⟩, band255 _⟩
theorem sBelow (c : Cur) (n : Int) (h : CurOk c) (h0 : 0 < n) (h1 : n ≤ 256) : ∃ c' r, d_spec_l1Below c n = some (c', r) ∧ CurOk c' ∧ 0 ≤ r ∧ r < n := by
  obtain ⟨c', x, e, hc, hx, hx2⟩ := sByte c h
  unfold d_spec_l1Below
  have e1 : decide (n ≤ 0) = false := by simp; omega
  have e2 : decide (n ≤ 256) = true := by simp; omega
  have e3 : (decide (0 ≤ x) && decide (0 < n)) = true := by simp; omega
  rw [e1, cond_false, e2, cond_true, e, Option.bind_some, e3, cond_true]
  exact ⟨_, _, rfl, hc, Int.emod_nonneg _ (by omega), Int.emod_lt_of_pos _ h0⟩
theorem sOnce (c : Cur) (n : Int) (h : CurOk c) (h0 : 0 < n) (h1 : n ≤ 256) : ∃ c' b, d_spec_l1Once c n = some (c', b) ∧ CurOk c' := by
  obtain ⟨c', x, e, hc, _⟩ := sBelow c n h h0 h1
  unfold d_spec_l1Once
  rw [e, Option.bind_some]
  exact ⟨_, _, rfl, hc⟩
theorem sStr (c : Cur) (l : List Bytes) (h : CurOk c) (h0 : 0 < l.length) (h1 : l.length ≤ 256) : ∃ c' s, d_spec_l1Str c l = some (c', s) ∧ CurOk c' ∧ s ∈ l := by
  obtain ⟨c', x, e, hc, hx, hx2⟩ := sBelow c (l.length : Int) h (by omega) (by omega)
  unfold d_spec_l1Str
  rw [List.length_map, e, Option.bind_some]
  have hlt : x.toNat < l.length := by omega
  have e2 : atI l x = some l[x.toNat] := by unfold atI; rw [decide_eq_true hx, cond_true]; exact List.getElem?_eq_getElem hlt
  rw [e2, Option.bind_some]
  exact ⟨_, _, rfl, hc, List.getElem_mem hlt⟩
theorem sAtomD (c : Cur) (h : CurOk c) : ∃ c' s, d_spec_l1Atom c = some (c', s) ∧ CurOk c' ∧ s.length ≤ 16 := by
  unfold d_spec_l1Atom
  obtain ⟨c', s, e, hc, hs⟩ := sStr c ([[97], [98], [99], [49], [50]] : List Bytes) h (by decide) (by decide)
  rw [e, Option.bind_some]
  have : ∀ s ∈ ([[97], [98], [99], [49], [50]] : List Bytes), s.length ≤ 16 := by decide
  exact ⟨_, _, rfl, hc, this s hs⟩
theorem sWordD (c : Cur) (h : CurOk c) : ∃ c' s, d_spec_l1Word c = some (c', s) ∧ CurOk c' ∧ s.length ≤ 16 := by
  unfold d_spec_l1Word
  generalize hl : ([[97], [98], [111, 110], [55], [49, 48], [57, 57, 57, 57], [49, 48, 48, 48, 48], [48, 48, 55], [48], [], [65], [63, 120], [63, 63], [63], [97, 98, 99, 100, 101, 102, 103, 104], [97, 98, 99, 100, 101, 102, 103, 104, 105], [63, 97, 98, 99, 100, 101, 102, 103, 104], [97, 45, 98], [120, 49], [49, 120], [45, 51]] : List Bytes) = l
  have h0 : 0 < l.length ∧ l.length ≤ 256 ∧ ∀ s ∈ l, s.length ≤ 16 := by subst hl; decide
  obtain ⟨c', s, e, hc, hs⟩ := sStr c l h h0.1 h0.2.1
  rw [e, Option.bind_some]
  exact ⟨_, _, rfl, hc, h0.2.2 s hs⟩
theorem sTermD (c : Cur) (h : CurOk c) : ∃ c' s, d_spec_l3Term c = some (c', s) ∧ CurOk c' ∧ s.length ≤ 16 := by
  unfold d_spec_l3Term
  obtain ⟨c1, b, e, hc⟩ := sOnce c 4 h (by decide) (by decide)
  rw [e, Option.bind_some]
  cases b with
  | true =>
    obtain ⟨c2, s, e2, hc2, hs⟩ := sAtomD c1 hc
    rw [cond_true, e2, Option.bind_some]
    exact ⟨_, _, rfl, hc2, hs⟩
  | false =>
    obtain ⟨c2, s, e2, hc2, hs⟩ := sStr c1 ([[63, 120], [63, 121], [63, 122]] : List Bytes) hc (by decide) (by decide)
    rw [cond_false, e2, Option.bind_some]
    have : ∀ s ∈ ([[63, 120], [63, 121], [63, 122]] : List Bytes), s.length ≤ 16 := by decide
    exact ⟨_, _, rfl, hc2, this s hs⟩
theorem sRelD (c : Cur) (h : CurOk c) : ∃ c' r n, d_spec_l2Rel c = some (c', (r, n)) ∧ CurOk c' ∧ r.length ≤ 16 ∧ 0 ≤ n ∧ n ≤ 2 := by
  unfold d_spec_l2Rel
  obtain ⟨c1, x, e, hc, hx, hx2⟩ := sBelow c 6 h (by decide) (by decide)
  rw [e, Option.bind_some]
  have key : x = 0 ∨ x = 1 ∨ x = 2 ∨ x = 3 ∨ x = 4 ∨ x = 5 := by omega
  rcases key with rfl | rfl | rfl | rfl | rfl | rfl <;> exact ⟨c1, _, _, rfl, hc, by decide, by decide, by decide⟩
/-- a fact or pattern of bounded size -/
def SmallF (k : Nat) (p : Fact) : Prop := p.rel.length ≤ 16 ∧ p.args.length ≤ k ∧ ∀ x ∈ p.args, x.length ≤ 16
theorem wtL_small : ∀ (l : List Bytes), (∀ x ∈ l, x.length ≤ 16) → wtL tw l ≤ 17 * l.length
  | [], _ => by simp [wtL]
  | x :: l, h => by
    have h1 := wtL_small l fun y hy => h y (by simp [hy])
    have h2 := h x (by simp)
    rw [wtL_cons, List.length_cons]; unfold tw at *; omega
theorem SmallF.wt {k : Nat} {p : Fact} (h : SmallF k p) (hk : k ≤ 1000) : p.wt ≤ 1048576 := by
  have := wtL_small p.args h.2.2
  have h1 := h.1
  have h2 := h.2.1
  unfold Fact.wt tw
  unfold tw at this
  have : 17 * p.args.length ≤ 17 * 1000 := Nat.mul_le_mul_left _ (by omega)
  omega
theorem sDrawPL (y : Cur × (Bytes × Int)) (k : List Int → Int → Int → List Bytes → Option (Cur × Fact)) : ∀ (m : Nat) (fu : Nat) (v : Int) (c : Cur) (w : List Bytes), y.2.2 - v = (m : Int) → m < fu → 0 ≤ v → y.2.2 ≤ 100 → w.length + m ≤ 1000 → CurOk c → (∀ x ∈ w, x.length ≤ 16) →
    ∃ c' w', d_spec_l3Draw_L1 y k fu v c.b c.i c.h w = k c'.b c'.i c'.h w' ∧ CurOk c' ∧ w'.length ≤ w.length + m ∧ ∀ x ∈ w', x.length ≤ 16 := by
  intro m
  induction m with
  | zero =>
    intro fu v c w hv hf h0 hy hw hc hx
    cases fu with
    | zero => omega
    | succ fu =>
      have e : decide (v < y.2.2) = false := by simp; omega
      rw [d_spec_l3Draw_L1, e, cond_false]
      exact ⟨c, w, rfl, hc, by omega, hx⟩
  | succ m ih =>
    intro fu v c w hv hf h0 hy hw hc hx
    cases fu with
    | zero => omega
    | succ fu =>
      have e : decide (v < y.2.2) = true := by simp; omega
      obtain ⟨c1, s, e2, hc1, hs⟩ := sTermD c hc
      have e2' : d_spec_l3Term (⟨c.b, c.i, c.h⟩ : Cur) = some (c1, s) := e2
      have e3 : IntKind.i64.wrap (v + 1) = v + 1 := wrap_in (InR.i64.2 (by omega))
      rw [d_spec_l3Draw_L1, e, cond_true, e2', Option.bind_some, room1 (by omega) (by decide), cond_true, e3]
      obtain ⟨c', w', q1, q2, q3, q4⟩ := ih fu (v + 1) c1 (w ++ [s]) (by omega) (by omega) (by omega) hy (by simp; omega) hc1 (fun x hxm => by
        rcases List.mem_append.1 hxm with h | h
        · exact hx x h
        · simp at h; subst h; exact hs)
      exact ⟨c', w', q1, q2, by simp at q3; omega, q4⟩
theorem sDrawP (c : Cur) (h : CurOk c) : ∃ c' p, d_spec_l3Draw c = some (c', p) ∧ CurOk c' ∧ SmallF 2 p := by
  unfold d_spec_l3Draw
  obtain ⟨c1, r, n, e, hc, hr, hn, hn2⟩ := sRelD c h
  rw [e, Option.bind_some]
  obtain ⟨c', w', q1, q2, q3, q4⟩ := sDrawPL (c1, (r, n)) (fun a b d q => some ((⟨a, b, d⟩ : Cur), (⟨r, q⟩ : Fact))) n.toNat fuel 0 c1 [] (by simp; omega) (by unfold fuel; omega) (by omega) (by simp; omega) (by simp; omega) hc (by simp)
  exact ⟨_, _, q1, q2, hr, by show w'.length ≤ 2; simp at q3; omega, q4⟩
theorem sAnyP (c : Cur) (h : CurOk c) : ∃ c' p, d_spec_l3Any c = some (c', p) ∧ CurOk c' ∧ SmallF 4 p := by
  unfold d_spec_l3Any
  obtain ⟨c1, p, e, hc, hp1, hp2, hp3⟩ := sDrawP c h
  obtain ⟨c2, x, e2, hc2, hx, hx2⟩ := sBelow c1 10 hc (by decide) (by decide)
  rw [e, Option.bind_some, e2, Option.bind_some]
  cases (x == (0 : Int)) with
  | true =>
    obtain ⟨c3, s, e3, hc3, hs⟩ := sWordD c2 hc2
    rw [cond_true, e3, Option.bind_some]
    exact ⟨_, _, rfl, hc3, hs, by show p.args.length ≤ 4; omega, hp3⟩
  | false =>
    rw [cond_false]
    cases (x == (1 : Int)) with
    | true =>
      obtain ⟨c3, s, e3, hc3, hs⟩ := sWordD c2 hc2
      rw [cond_true, e3, Option.bind_some, room1 (w := p.args) (by omega) (by decide), cond_true]
      refine ⟨_, _, rfl, hc3, hp1, by simp; omega, fun y hy => ?_⟩
      rcases List.mem_append.1 hy with h | h
      · exact hp3 y h
      · simp at h; subst h; exact hs
    | false =>
      rw [cond_false]
      cases (x == (2 : Int)) with
      | true =>
        obtain ⟨c3, z, e3, hc3, hz, hz2⟩ := sBelow c2 5 hc2 (by decide) (by decide)
        have e4 : (decide (0 ≤ z) && decide (z.toNat ≤ ((([[63, 120], [63, 120], [63, 121], [63, 120]] : List Bytes)).map tx).length)) = true := by simp; omega
        rw [cond_true, e3, Option.bind_some, e4, cond_true]
        refine ⟨_, _, rfl, hc3, hp1, by simp [List.length_take]; omega, fun y hy => ?_⟩
        have : ∀ s ∈ ([[63, 120], [63, 120], [63, 121], [63, 120]] : List Bytes), s.length ≤ 16 := by decide
        exact this y (List.mem_of_mem_take hy)
      | false => exact ⟨_, _, rfl, hc2, hp1, by show p.args.length ≤ 4; omega, hp3⟩
theorem sNewD (code : List Int) (h : code.length ≤ 4096) : ∃ c, d_spec_l1New code = some c ∧ CurOk c := by
  unfold d_spec_l1New
  have key : ∀ (k : Int → Option Cur) (r : List Int) (i : Nat) (v : Int), ∃ z, d_spec_l1New_L1 code k r i v = k z := by
    intro k r
    induction r with
    | nil => intro i v; exact ⟨v, rfl⟩
    | cons x r ih =>
      intro i v
      rw [d_spec_l1New_L1]
      cases decide ((i : Int) < 4000) with
      | true => exact ih _ _
      | false => exact ⟨v, rfl⟩
  obtain ⟨z, e⟩ := key (fun z => some (⟨code, 0, z⟩ : Cur)) code 0 (IntKind.i64.wrap ((851207) + (IntKind.i64.wrap ((3) * ((((code).map yx).length : Int))))))
  rw [lenOk (by omega), cond_true, e]
  exact ⟨_, rfl, by show (0 : Int) ≤ 0; omega, h⟩
end Go.Cx
