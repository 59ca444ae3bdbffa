import Derived.Test.YteddjemiikgheaaGreatDoorPSharedNodesNPl
import Derived.Test.YteddjemiikgheaaGreatDoorPSharedNodesNFn2
import Derived.Sort.Walk0
import Derived.Lib.ItoaNum
import Derived.Lib.ItoaLen
import Derived.Lib.Atoi
/- Chapter 1 in plain words: what the functions on texts and lists of texts compute, of the program and of the reference. No condition but bounds on lengths. -/
namespace Go.Cx
open Go.RowKit Go.Proofs
set_option linter.unusedVariables false
set_option linter.unusedSimpArgs false
theorem atI_mid {α : Type} {a pre xs : List α} {x : α} (h : a = pre ++ x :: xs) : atI a (pre.length : Int) = some x := by
  unfold atI
  have : a[pre.length]? = some x := by rw [h]; simp
  simp [this]
theorem roomK {n b : Nat} (hn : n ≤ 1099511627776) (hb : b ≤ 128) : room n b = true := by
  unfold room maxLen
  have : n * b ≤ 1099511627776 * 128 := Nat.mul_le_mul hn hb
  simp
  omega
theorem room1 {α : Type} {w : List α} {c : α → List D} {y : List D} {b : Nat} (h : w.length < 1099511627776) (hb : b ≤ 128) : room ((w.map c).length + ([y]).length) b = true := roomK (by simp; omega) hb
theorem roomA {α β : Type} {w : List α} {v : List β} {c : α → List D} {d : β → List D} {b : Nat} (h : w.length + v.length ≤ 1099511627776) (hb : b ≤ 128) : room ((w.map c).length + (v.map d).length) b = true := roomK (by simp; omega) hb
theorem room0 {β : Type} {v : List β} {d : β → List D} {b : Nat} (h : v.length ≤ 1099511627776) (hb : b ≤ 128) : room ((([] : List (List D))).length + (v.map d).length) b = true := roomK (by simp; omega) hb
theorem lenOk {α : Type} {l : List α} (h : l.length ≤ 1099511627776) : decide (l.length ≤ maxLen) = true := by unfold maxLen; simp; omega
/-- loops that hand on f x, one element a round -/
theorem mapL {α β γ : Type} {c : β → List D} {b : Nat} {f : α → Option β} {g : α → β} {L : List α → Nat → List β → Option γ} {k : List β → Option γ} (hb : b ≤ 128) (hnil : ∀ i w, L [] i w = k w)
    (hcons : ∀ x xs i w, L (x :: xs) i w = (f x).bind fun y => bif room ((w.map c).length + ([c y]).length) b then L xs (i + 1) (w ++ [y]) else none) :
    ∀ (l : List α) (i : Nat) (w : List β), (∀ x ∈ l, f x = some (g x)) → w.length + l.length ≤ 1099511627776 → L l i w = k (w ++ l.map g) := by
  intro l
  induction l with
  | nil => intro i w _ _; simp [hnil]
  | cons x xs ih =>
    intro i w hf hl
    simp only [List.length_cons] at hl
    rw [hcons, hf x (by simp), Option.bind_some, room1 (by omega) hb, cond_true, ih _ _ (fun y hy => hf y (by simp [hy])) (by simp; omega)]
    simp
/-- loops that stop with false at the first element that does not fit -/
theorem allL {α : Type} {f : α → Option Bool} {p : α → Bool} {L : List α → Nat → Option Bool} {k : Option Bool} (hnil : ∀ i, L [] i = k)
    (hcons : ∀ x xs i, L (x :: xs) i = (f x).bind fun y => bif !y then some false else L xs (i + 1)) : ∀ (l : List α) (i : Nat), (∀ x ∈ l, f x = some (p x)) → L l i = bif l.all p then k else some false := by
  intro l
  induction l with
  | nil => intro i _; simp [hnil]
  | cons x xs ih =>
    intro i hf
    rw [hcons, hf x (by simp), Option.bind_some, ih _ (fun y hy => hf y (by simp [hy])), List.all_cons]
    cases p x <;> simp
/-! the order of texts -/
theorem bl_irrefl : ∀ (a : Bytes), Op.bytesLess a a = false
  | [] => rfl
  | x :: a => by simp [Op.bytesLess, bl_irrefl a]
theorem bl_trans : ∀ {a b c : Bytes}, Op.bytesLess a b = true → Op.bytesLess b c = true → Op.bytesLess a c = true
  | [], b, [], _, h2 => by cases b <;> simp [Op.bytesLess] at h2
  | [], b, _ :: _, _, _ => by simp [Op.bytesLess]
  | _ :: _, [], _, h1, _ => by simp [Op.bytesLess] at h1
  | _ :: _, _ :: _, [], _, h2 => by simp [Op.bytesLess] at h2
  | x :: a, y :: b, z :: c, h1, h2 => by
    simp only [Op.bytesLess, Bool.or_eq_true, decide_eq_true_eq, Bool.and_eq_true, beq_iff_eq] at h1 h2 ⊢
    rcases h1 with h1 | ⟨rfl, h1⟩
    · rcases h2 with h2 | ⟨rfl, h2⟩
      · exact .inl (UInt8.lt_trans h1 h2)
      · exact .inl h1
    · rcases h2 with h2 | ⟨rfl, h2⟩
      · exact .inl h2
      · exact .inr ⟨rfl, bl_trans h1 h2⟩
theorem bl_tri : ∀ {a b : Bytes}, Op.bytesLess a b = false → Op.bytesLess b a = false → a = b
  | [], [], _, _ => rfl
  | [], _ :: _, h, _ => by simp [Op.bytesLess] at h
  | _ :: _, [], _, h => by simp [Op.bytesLess] at h
  | x :: a, y :: b, h1, h2 => by
    simp only [Op.bytesLess, Bool.or_eq_false_iff, decide_eq_false_iff_not, Bool.and_eq_false_iff, beq_eq_false_iff_ne, ne_eq] at h1 h2
    have e : x = y := by
      have h3 := h1.1; have h4 := h2.1
      rw [UInt8.lt_iff_toNat_lt] at h3 h4
      exact UInt8.toNat_inj.1 (by omega)
    subst e
    rw [bl_tri (h1.2.resolve_left (by simp)) (h2.2.resolve_left (by simp))]
theorem bl_asymm {a b : Bytes} (h : Op.bytesLess a b = true) : Op.bytesLess b a = false := by
  cases hb : Op.bytesLess b a with
  | false => rfl
  | true => have := bl_trans h hb; rw [bl_irrefl] at this; cases this
/-! ascending lists without repetition -/
def SS (l : List Bytes) : Prop := l.Pairwise fun a b => Op.bytesLess a b = true
theorem SS_unique : ∀ {a b : List Bytes}, SS a → SS b → (∀ x, x ∈ a ↔ x ∈ b) → a = b
  | [], [], _, _, _ => rfl
  | [], y :: b, _, _, h => by have := (h y).2 (by simp); cases this
  | x :: a, [], _, _, h => by have := (h x).1 (by simp); cases this
  | x :: a, y :: b, h1, h2, h => by
    obtain ⟨p1, p2⟩ := List.pairwise_cons.1 h1
    obtain ⟨q1, q2⟩ := List.pairwise_cons.1 h2
    have e : x = y := by
      refine bl_tri ?_ ?_
      · cases hb : Op.bytesLess x y with
        | false => rfl
        | true =>
          rcases List.mem_cons.1 ((h x).1 (by simp)) with rfl | hx
          · exact (bl_irrefl x ▸ hb).symm
          · have := bl_asymm (q1 x hx); rw [hb] at this; exact this
      · cases hb : Op.bytesLess y x with
        | false => rfl
        | true =>
          rcases List.mem_cons.1 ((h y).2 (by simp)) with rfl | hx
          · exact (bl_irrefl y ▸ hb).symm
          · have := bl_asymm (p1 y hx); rw [hb] at this; exact this
    subst e
    rw [SS_unique p2 q2 (fun z => ?_)]
    constructor
    · intro hz
      rcases List.mem_cons.1 ((h z).1 (by simp [hz])) with rfl | hz'
      · have := p1 z hz; rw [bl_irrefl] at this; cases this
      · exact hz'
    · intro hz
      rcases List.mem_cons.1 ((h z).2 (by simp [hz])) with rfl | hz'
      · have := q1 z hz; rw [bl_irrefl] at this; cases this
      · exact hz'
def putB : List Bytes → Bytes → List Bytes
  | [], s => [s]
  | x :: xs, s => bif Op.bytesLess x s then x :: putB xs s else bif x == s then x :: xs else s :: x :: xs
theorem mem_putB : ∀ {l : List Bytes} {s y : Bytes}, y ∈ putB l s ↔ y = s ∨ y ∈ l
  | [], s, y => by simp [putB]
  | x :: xs, s, y => by
    simp only [putB]
    cases Op.bytesLess x s with
    | true => simp only [cond_true, List.mem_cons, mem_putB (l := xs)]; constructor <;> (rintro (h | h | h) <;> simp [h])
    | false =>
      simp only [cond_false]
      cases hx : x == s with
      | true =>
        simp only [beq_iff_eq] at hx
        subst hx
        simp
      | false => simp
theorem ss_putB : ∀ {l : List Bytes} {s : Bytes}, SS l → SS (putB l s)
  | [], s, _ => by simp [putB, SS]
  | x :: xs, s, h => by
    obtain ⟨p1, p2⟩ := List.pairwise_cons.1 h
    simp only [putB]
    cases hb : Op.bytesLess x s with
    | true =>
      simp only [cond_true]
      refine List.pairwise_cons.2 ⟨fun y hy => ?_, ss_putB p2⟩
      rcases mem_putB.1 hy with rfl | hy
      · exact hb
      · exact p1 y hy
    | false =>
      simp only [cond_false]
      cases hx : x == s with
      | true => exact h
      | false =>
        have hs : Op.bytesLess s x = true := by
          cases hc : Op.bytesLess s x with
          | true => rfl
          | false => have := bl_tri hb hc; subst this; simp at hx
        refine List.pairwise_cons.2 ⟨fun y hy => ?_, h⟩
        rcases List.mem_cons.1 hy with rfl | hy
        · exact hs
        · exact bl_trans hs (p1 y hy)
theorem len_putB : ∀ (l : List Bytes) (s : Bytes), (putB l s).length ≤ l.length + 1
  | [], s => by simp [putB]
  | x :: xs, s => by
    have := len_putB xs s
    simp only [putB]
    cases Op.bytesLess x s <;> simp only [cond_true, cond_false, List.length_cons]
    · cases x == s <;> simp
    · omega
/-- the different texts of a list, ascending -/
def uniqS (l : List Bytes) : List Bytes := l.foldl putB []
theorem foldl_putB_mem : ∀ (l a : List Bytes) (y : Bytes), y ∈ l.foldl putB a ↔ y ∈ a ∨ y ∈ l
  | [], a, y => by simp
  | x :: l, a, y => by
    rw [List.foldl_cons, foldl_putB_mem l, mem_putB]
    simp only [List.mem_cons]
    constructor
    · rintro ((h | h) | h) <;> simp [h]
    · rintro (h | h | h) <;> simp [h]
theorem foldl_putB_ss : ∀ (l : List Bytes) {a : List Bytes}, SS a → SS (l.foldl putB a)
  | [], a, h => h
  | x :: l, a, h => foldl_putB_ss l (ss_putB h)
theorem foldl_putB_len : ∀ (l a : List Bytes), (l.foldl putB a).length ≤ a.length + l.length
  | [], a => by simp
  | x :: l, a => by
    have h1 := foldl_putB_len l (putB a x)
    have h2 := len_putB a x
    rw [List.foldl_cons, List.length_cons]; omega
theorem mem_uniqS {l : List Bytes} {y : Bytes} : y ∈ uniqS l ↔ y ∈ l := by unfold uniqS; rw [foldl_putB_mem]; simp
theorem ss_uniqS (l : List Bytes) : SS (uniqS l) := foldl_putB_ss l (by simp [SS])
theorem len_uniqS (l : List Bytes) : (uniqS l).length ≤ l.length := by have := foldl_putB_len l []; simpa [uniqS] using this
theorem uniqS_congr {a b : List Bytes} (h : ∀ x, x ∈ a ↔ x ∈ b) : uniqS a = uniqS b := SS_unique (ss_uniqS a) (ss_uniqS b) (fun x => by rw [mem_uniqS, mem_uniqS, h])
theorem uniqS_snoc (a : List Bytes) (x : Bytes) : putB (uniqS a) x = uniqS (a ++ [x]) := by simp [uniqS]
theorem uniqS_fold (a b : List Bytes) : b.foldl putB (uniqS a) = uniqS (a ++ b) := by simp [uniqS]
theorem uniqS_fold2 (a b : List Bytes) : (uniqS b).foldl putB (uniqS a) = uniqS (a ++ b) := by
  rw [uniqS_fold]
  exact uniqS_congr (fun x => by simp [mem_uniqS])
theorem contains_uniqS (l : List Bytes) (v : Bytes) : (uniqS l).contains v = l.contains v := by
  rw [Bool.eq_iff_iff]
  simp [mem_uniqS]
/-! atoms, names, variables -/
def in1 (x : UInt8) : Bool := decide ((x.toNat : Int) ≥ 97) && decide ((x.toNat : Int) ≤ 122)
def in2 (x : UInt8) : Bool := decide ((x.toNat : Int) ≥ 48) && decide ((x.toNat : Int) ≤ 57)
def ab (x : UInt8) : Bool := in1 x || in2 x
def lenB (s : Bytes) : Bool := decide ((s.length : Int) ≥ 1) && decide ((s.length : Int) ≤ 8)
def atomB (s : Bytes) : Bool := s.all ab && lenB s
def headB : Bytes → Bool
  | [] => false
  | x :: _ => decide ((x.toNat : Int) ≥ 97)
def nameB (s : Bytes) : Bool := atomB s && headB s
def varB : Bytes → Bool
  | [] => false
  | x :: t => decide ((x.toNat : Int) = 63) && atomB t
def termB (s : Bytes) : Bool := atomB s || varB s
theorem atomB_len {s : Bytes} (h : atomB s = true) : 1 ≤ s.length ∧ s.length ≤ 8 := by
  simp only [atomB, lenB, Bool.and_eq_true, decide_eq_true_eq] at h; omega
theorem nameB_len {s : Bytes} (h : nameB s = true) : 1 ≤ s.length ∧ s.length ≤ 8 := by
  simp only [nameB, Bool.and_eq_true] at h; exact atomB_len h.1
theorem varB_len {s : Bytes} (h : varB s = true) : 1 ≤ s.length ∧ s.length ≤ 9 := by
  cases s with
  | nil => cases h
  | cons x t => simp only [varB, Bool.and_eq_true] at h; have := atomB_len h.2; simp; omega
theorem termB_len {s : Bytes} (h : termB s = true) : 1 ≤ s.length ∧ s.length ≤ 9 := by
  simp only [termB, Bool.or_eq_true] at h
  rcases h with h | h
  · have := atomB_len h; omega
  · exact varB_len h
theorem var_not_atom {s : Bytes} (h : varB s = true) : atomB s = false := by
  cases s with
  | nil => cases h
  | cons x t =>
    simp only [varB, Bool.and_eq_true, decide_eq_true_eq] at h
    simp only [atomB, List.all_cons, ab, in1, in2]
    have : (x.toNat : Int) = 63 := h.1
    simp [this]
theorem wrapB (x : UInt8) : IntKind.i64.wrap ((x.toNat : Nat) : Int) = (x.toNat : Int) := wrap_in (InR.i64.2 (by have := x.toNat_lt; omega))
theorem wrap1 {n : Nat} (h : n ≤ 1099511627776) : IntKind.i64.wrap ((n : Int) + 1) = ((n + 1 : Nat) : Int) := by rw [wrap_in (InR.i64.2 (by omega))]; omega
theorem pcut1 {n : Nat} (h : 1 ≤ n) : pcut n (some (D.int .i64 1)) none = some (1, n) := by
  unfold pcut
  have : (0 : Int) ≤ 1 ∧ (1 : Int).toNat ≤ n := ⟨by decide, h⟩
  simp only [if_pos this]
  rfl
theorem in_eq (a b c : Int) : d_spec_l1In a b c = some (decide (a ≥ b) && decide (a ≤ c)) := by
  unfold d_spec_l1In
  cases decide (a ≥ b) <;> rfl
theorem sAtomL (a : Bytes) (k : Option Bool) (ha : a.length ≤ 1048576) : ∀ (rest pre : Bytes), a = pre ++ rest → ∀ n, rest.length < n → d_spec_IsAtom_L1 a k n (pre.length : Int) = bif rest.all ab then k else some false := by
  intro rest
  induction rest with
  | nil =>
    intro pre h n hn
    obtain ⟨m, rfl⟩ : ∃ m, n = m + 1 := ⟨n - 1, by simp at hn; omega⟩
    have e1 : decide ((pre.length : Int) < (a.length : Int)) = false := by simp [h]
    rw [d_spec_IsAtom_L1, e1]; rfl
  | cons x xs ih =>
    intro pre h n hn
    obtain ⟨m, rfl⟩ : ∃ m, n = m + 1 := ⟨n - 1, by simp at hn; omega⟩
    have hl : a.length = pre.length + (xs.length + 1) := by rw [h]; simp
    have e1 : decide ((pre.length : Int) < (a.length : Int)) = true := by rw [hl]; simp; omega
    have e4 : IntKind.i64.wrap ((pre.length : Int) + 1) = ((pre ++ [x]).length : Int) := by rw [wrap1 (by omega)]; simp
    have t := ih (pre ++ [x]) (by simp [h]) m (by simp at hn; omega)
    rw [d_spec_IsAtom_L1, e1, cond_true, atI_mid h, Option.bind_some, wrapB, in_eq, in_eq, Option.bind_some, Option.bind_some, e4, t, List.all_cons]
    show (bif !in1 x then (bif !in2 x then _ else _) else _) = bif (in1 x || in2 x) && xs.all ab then k else some false
    cases in1 x <;> cases in2 x <;> simp
theorem sAtom (a : Bytes) (ha : a.length ≤ 1048576) : d_spec_IsAtom a = some (atomB a) := by
  unfold d_spec_IsAtom
  refine (sAtomL a _ ha a [] rfl fuel (by unfold fuel; omega)).trans ?_
  rw [in_eq, Option.bind_some]
  show _ = some (a.all ab && lenB a)
  cases a.all ab <;> rfl
theorem iAtomL (a : Bytes) (k : Option Bool) (ha : a.length ≤ 1048576) : ∀ (rest pre : Bytes), a = pre ++ rest → ∀ n, rest.length < n → d_impl_IsAtom_L1 a k n (pre.length : Int) = bif rest.all ab then k else some false := by
  intro rest
  induction rest with
  | nil =>
    intro pre h n hn
    obtain ⟨m, rfl⟩ : ∃ m, n = m + 1 := ⟨n - 1, by simp at hn; omega⟩
    have e1 : decide ((pre.length : Int) < (a.length : Int)) = false := by simp [h]
    rw [d_impl_IsAtom_L1, e1]; rfl
  | cons x xs ih =>
    intro pre h n hn
    obtain ⟨m, rfl⟩ : ∃ m, n = m + 1 := ⟨n - 1, by simp at hn; omega⟩
    have hl : a.length = pre.length + (xs.length + 1) := by rw [h]; simp
    have e1 : decide ((pre.length : Int) < (a.length : Int)) = true := by rw [hl]; simp; omega
    have e4 : IntKind.i64.wrap ((pre.length : Int) + 1) = ((pre ++ [x]).length : Int) := by rw [wrap1 (by omega)]; simp
    have t := ih (pre ++ [x]) (by simp [h]) m (by simp at hn; omega)
    rw [d_impl_IsAtom_L1, e1, cond_true, atI_mid h, Option.bind_some, e4, t, List.all_cons]
    have c1 : decide ((x.toNat : Int) ≥ 97) = !decide ((x.toNat : Int) < 97) := by rw [Bool.eq_iff_iff]; simp
    have c2 : decide ((x.toNat : Int) ≤ 122) = !decide ((x.toNat : Int) > 122) := by rw [Bool.eq_iff_iff]; simp
    have c3 : decide ((x.toNat : Int) ≥ 48) = !decide ((x.toNat : Int) < 48) := by rw [Bool.eq_iff_iff]; simp
    have c4 : decide ((x.toNat : Int) ≤ 57) = !decide ((x.toNat : Int) > 57) := by rw [Bool.eq_iff_iff]; simp
    rw [ab, in1, in2, c1, c2, c3, c4]
    cases decide ((x.toNat : Int) < 97) <;> cases decide ((x.toNat : Int) > 122) <;> cases decide ((x.toNat : Int) < 48) <;> cases decide ((x.toNat : Int) > 57) <;> simp
theorem iAtom (a : Bytes) (ha : a.length ≤ 1048576) : d_impl_IsAtom a = some (atomB a) := by
  unfold d_impl_IsAtom
  rw [show d_impl_IsAtom_L1 a (some true) fuel 0 = _ from iAtomL a _ ha a [] rfl fuel (by unfold fuel; omega)]
  have c1 : decide ((a.length : Int) ≥ 1) = !decide ((a.length : Int) < 1) := by rw [Bool.eq_iff_iff]; simp
  have c2 : decide ((a.length : Int) ≤ 8) = !decide ((a.length : Int) > 8) := by rw [Bool.eq_iff_iff]; simp
  rw [atomB, lenB, c1, c2]
  cases decide ((a.length : Int) < 1) <;> cases decide ((a.length : Int) > 8) <;> cases a.all ab <;> rfl
theorem sName (a : Bytes) (ha : a.length ≤ 1048576) : d_spec_IsName a = some (nameB a) := by
  unfold d_spec_IsName
  rw [sAtom a ha, Option.bind_some, nameB]
  cases h : atomB a with
  | false => rfl
  | true =>
    cases a with
    | nil => simp [atomB, lenB] at h
    | cons x xs =>
      rw [show atI (x :: xs) 0 = some x from rfl]
      simp only [cond_true, Option.bind_some, wrapB, in_eq, Bool.true_and, Option.some.injEq, headB]
      simp only [atomB, List.all_cons, ab, in1, in2, Bool.and_eq_true, Bool.or_eq_true, decide_eq_true_eq] at h
      rw [Bool.eq_iff_iff]
      simp only [Bool.and_eq_true, decide_eq_true_eq]
      omega
theorem iName (a : Bytes) (ha : a.length ≤ 1048576) : d_impl_IsName a = some (nameB a) := by
  unfold d_impl_IsName
  rw [iAtom a ha, Option.bind_some, nameB]
  cases h : atomB a with
  | false => rfl
  | true =>
    cases a with
    | nil => simp [atomB, lenB] at h
    | cons x xs => rfl
theorem sVar (a : Bytes) (ha : a.length ≤ 1048576) : d_spec_IsVar a = some (varB a) := by
  unfold d_spec_IsVar
  cases a with
  | nil => rfl
  | cons x t =>
    simp only [List.length_cons] at ha
    rw [show atI (x :: t) 0 = some x from rfl, Option.bind_some, pcut1 (by simp), Option.bind_some]
    have e : (((x :: t).take ((x :: t).length)).drop 1) = t := by simp
    simp only [e, sAtom t (by omega), Option.bind_some, varB, beq_dec]
    cases t with
    | nil => cases decide ((x.toNat : Int) = 63) <;> rfl
    | cons y t =>
      have e2 : decide ((((x :: y :: t).length : Int) : Int) > 1) = true := by simp; omega
      rw [e2]
      cases decide ((x.toNat : Int) = 63) <;> simp
theorem iVar (a : Bytes) (ha : a.length ≤ 1048576) : d_impl_IsVar a = some (varB a) := by
  unfold d_impl_IsVar
  cases a with
  | nil => rfl
  | cons x t =>
    simp only [List.length_cons] at ha
    rw [show atI (x :: t) 0 = some x from rfl, Option.bind_some, pcut1 (by simp), Option.bind_some]
    have e : (((x :: t).take ((x :: t).length)).drop 1) = t := by simp
    simp only [e, iAtom t (by omega), Option.bind_some, varB, beq_dec]
    cases t with
    | nil => cases decide ((x.toNat : Int) = 63) <;> rfl
    | cons y t =>
      have e2 : decide ((((x :: y :: t).length : Int) : Int) > 1) = true := by simp; omega
      rw [e2]
      cases decide ((x.toNat : Int) = 63) <;> simp
theorem sTerm (a : Bytes) (ha : a.length ≤ 1048576) : d_spec_IsTerm a = some (termB a) := by
  unfold d_spec_IsTerm termB
  rw [sAtom a ha, sVar a ha]
  cases atomB a <;> simp
theorem iTerm (a : Bytes) (ha : a.length ≤ 1048576) : d_impl_IsTerm a = some (termB a) := by
  unfold d_impl_IsTerm termB
  rw [iAtom a ha, iVar a ha]
  cases atomB a <;> simp
theorem sTexts (l : List Bytes) (h : l.length ≤ 1099511627776) : d_spec_l1Texts l = some l := by
  unfold d_spec_l1Texts; rw [room0 h (by decide)]; rfl
theorem iTexts (l : List Bytes) (h : l.length ≤ 1099511627776) : d_impl_copyTexts l = some l := by
  unfold d_impl_copyTexts; rw [room0 h (by decide)]; rfl
theorem sSameT (a b : List Bytes) : d_spec_l1SameTexts a b = some (decide (a = b)) := by
  unfold d_spec_l1SameTexts
  exact eqL (c := tx) (f := fun x y => some (x == y)) (fun k => d_spec_l1SameTexts_L1 a b k) (fun _ _ => rfl) (fun _ _ _ _ => rfl) (fun x y => by rw [Option.some.injEq, Bool.eq_iff_iff]; simp)
theorem iSameT (a b : List Bytes) : d_impl_sameTexts a b = some (decide (a = b)) := by
  unfold d_impl_sameTexts
  exact eqL (c := tx) (f := fun x y => some (x == y)) (fun k => d_impl_sameTexts_L1 a b k) (fun _ _ => rfl) (fun _ _ _ _ => rfl) (fun x y => by rw [Option.some.injEq, Bool.eq_iff_iff]; simp)
theorem sHas (l : List Bytes) (v : Bytes) : d_spec_l1HasText l v = some (l.contains v) := by
  unfold d_spec_l1HasText
  have : ∀ (r : List Bytes) (i : Nat), d_spec_l1HasText_L1 l v (some false) r i = some (r.contains v) := by
    intro r
    induction r with
    | nil => intro i; rfl
    | cons x r ih =>
      intro i
      rw [d_spec_l1HasText_L1, ih, List.contains_cons]
      have : (x == v) = (v == x) := by rw [Bool.eq_iff_iff, beq_iff_eq, beq_iff_eq]; exact eq_comm
      rw [this]
      cases v == x <;> rfl
  exact this l 0
theorem iHas (l : List Bytes) (v : Bytes) : d_impl_hasText l v = some (l.contains v) := by
  unfold d_impl_hasText
  have : ∀ (r : List Bytes) (i : Nat), d_impl_hasText_L1 l v (some false) r i = some (r.contains v) := by
    intro r
    induction r with
    | nil => intro i; rfl
    | cons x r ih =>
      intro i
      rw [d_impl_hasText_L1, ih, List.contains_cons]
      have : (x == v) = (v == x) := by rw [Bool.eq_iff_iff, beq_iff_eq, beq_iff_eq]; exact eq_comm
      rw [this]
      cases v == x <;> rfl
  exact this l 0
theorem sPutL (a : List Bytes) (s : Bytes) (k : Bool → List Bytes → Option (List Bytes)) : ∀ (l : List Bytes) (i : Nat) (w : List Bytes), w.length + l.length < 1099511627776 →
    d_spec_l1Put_L1 a s k l i true w = k true (w ++ l) := by
  intro l
  induction l with
  | nil => intro i w _; simp [d_spec_l1Put_L1]
  | cons x xs ih =>
    intro i w h
    simp only [List.length_cons] at h
    rw [d_spec_l1Put_L1, Bool.not_true, cond_false, room1 (by omega) (by decide), cond_true, ih _ _ (by simp; omega)]
    simp
theorem sPutM (a : List Bytes) (s : Bytes) (k : Bool → List Bytes → Option (List Bytes)) (hk : ∀ w, w.length < 1099511627776 → k false w = some (w ++ [s])) (hk2 : ∀ w, k true w = some w) : ∀ (l : List Bytes) (i : Nat) (w : List Bytes), w.length + l.length + 1 < 1099511627776 →
    d_spec_l1Put_L1 a s k l i false w = some (w ++ putB l s) := by
  intro l
  induction l with
  | nil => intro i w h; rw [d_spec_l1Put_L1, hk w (by omega)]; rfl
  | cons x xs ih =>
    intro i w h
    simp only [List.length_cons] at h
    rw [d_spec_l1Put_L1, Bool.not_false, cond_true, putB]
    cases Op.bytesLess x s with
    | true =>
      simp only [Bool.not_true, cond_false, cond_true]
      rw [room1 (by omega) (by decide), cond_true, ih _ _ (by simp; omega)]
      simp
    | false =>
      simp only [Bool.not_false, cond_true, cond_false]
      cases x == s with
      | true =>
        simp only [Bool.not_true, cond_false, cond_true]
        rw [room1 (by omega) (by decide), cond_true, sPutL _ _ _ _ _ _ (by simp; omega), hk2]
        simp
      | false =>
        simp only [Bool.not_false, cond_true, cond_false]
        rw [room1 (by omega) (by decide), cond_true]
        have e : room (((w.map tx) ++ [[D.str s]]).length + ([[D.str x]]).length) 16 = true := roomK (by simp; omega) (by decide)
        rw [e, cond_true, sPutL _ _ _ _ _ _ (by simp; omega), hk2]
        simp
theorem sPut (l : List Bytes) (s : Bytes) (h : l.length + 1 < 1099511627776) : d_spec_l1Put l s = some (putB l s) := by
  unfold d_spec_l1Put
  rw [sPutM l s _ (fun w hw => by simp only [Bool.not_false, cond_true]; rw [room1 hw (by decide)]; rfl) (fun w => by simp) l 0 [] (by simpa using h)]
  rfl
def dd : Option Bytes → List Bytes → List Bytes
  | _, [] => []
  | p, x :: xs => if p = some x then dd (some x) xs else x :: dd (some x) xs
theorem dd_mem : ∀ {l : List Bytes} {p : Option Bytes} {y : Bytes}, y ∈ dd p l → y ∈ l
  | [], p, y, h => by cases h
  | x :: xs, p, y, h => by
    simp only [dd] at h
    split at h
    · exact List.mem_cons.2 (.inr (dd_mem h))
    · rcases List.mem_cons.1 h with rfl | h
      · simp
      · exact List.mem_cons.2 (.inr (dd_mem h))
theorem mem_dd : ∀ {l : List Bytes} {p : Option Bytes} {y : Bytes}, y ∈ l → p = some y ∨ y ∈ dd p l
  | x :: xs, p, y, h => by
    simp only [dd]
    rcases List.mem_cons.1 h with rfl | h
    · by_cases hp : p = some y
      · exact .inl hp
      · rw [if_neg hp]; exact .inr (by simp)
    · have := mem_dd (p := some x) h
      split
      · rename_i hp
        rcases this with e | e
        · exact .inl (hp.trans e)
        · exact .inr e
      · rcases this with e | e
        · cases e; exact .inr (by simp)
        · exact .inr (by simp [e])
theorem dd_ss : ∀ {l : List Bytes} {p : Option Bytes}, l.Pairwise (fun a b => Op.bytesLess b a = false) → (∀ q, p = some q → ∀ y ∈ l, Op.bytesLess y q = false) → SS (dd p l) ∧ ∀ q, p = some q → ∀ y ∈ dd p l, Op.bytesLess q y = true
  | [], p, _, _ => ⟨by simp [dd, SS], by simp [dd]⟩
  | x :: xs, p, h, hp => by
    obtain ⟨p1, p2⟩ := List.pairwise_cons.1 h
    obtain ⟨i1, i2⟩ := dd_ss (l := xs) (p := some x) p2 (fun q hq y hy => by cases hq; exact p1 y hy)
    simp only [dd]
    split
    · rename_i he
      exact ⟨i1, fun q hq y hy => by rw [he] at hq; cases hq; exact i2 x rfl y hy⟩
    · rename_i he
      refine ⟨List.pairwise_cons.2 ⟨fun y hy => i2 x rfl y hy, i1⟩, fun q hq y hy => ?_⟩
      have hqx : Op.bytesLess q x = true := by
        cases hc : Op.bytesLess q x with
        | true => rfl
        | false => exact absurd (by rw [hq, bl_tri hc (hp q hq x (by simp))]) he
      rcases List.mem_cons.1 hy with rfl | hy
      · exact hqx
      · exact bl_trans hqx (i2 x rfl y hy)
theorem sortB_eq (l : List Bytes) : sortB l = l.mergeSort (fun x y => !Op.bytesLess y x) := by
  unfold sortB
  congr 1
  funext x y
  rw [Go.Proofs.bytesLess_eq]
  rw [Bool.eq_iff_iff]
  simp [List.not_lt]
theorem sortB_sorted (l : List Bytes) : (sortB l).Pairwise (fun a b => Op.bytesLess b a = false) := by
  rw [sortB_eq]
  have := List.pairwise_mergeSort (le := fun x y => !Op.bytesLess y x) (fun a b c h1 h2 => by
    simp only [Bool.not_eq_true'] at h1 h2 ⊢
    cases hc : Op.bytesLess c a with
    | false => rfl
    | true =>
      cases hb : Op.bytesLess b a with
      | true => rw [h1] at hb; cases hb
      | false =>
        cases hb2 : Op.bytesLess a b with
        | true => have := bl_trans hc hb2; rw [h2] at this; cases this
        | false => have := bl_tri hb hb2; subst this; rw [h2] at hc; cases hc) (fun a b => by
    cases hc : Op.bytesLess b a with
    | false => simp
    | true => simp [bl_asymm hc]) l
  exact this.imp (fun h => by simpa using h)
theorem dd_uniq (l : List Bytes) : dd none (sortB l) = uniqS l := by
  refine SS_unique (dd_ss (sortB_sorted l) (by simp)).1 (ss_uniqS l) (fun x => ?_)
  rw [mem_uniqS]
  have hm : x ∈ sortB l ↔ x ∈ l := (sortB_perm l).mem_iff
  constructor
  · intro h; exact hm.1 (dd_mem h)
  · intro h
    rcases mem_dd (p := none) (hm.2 h) with h | h
    · cases h
    · exact h
theorem iSortedL (a : List Bytes) (k : List Bytes → Option (List Bytes)) (ha : a.length ≤ 1099511627775) : ∀ (rest pre : List Bytes) (w : List Bytes), sortB ([] ++ a) = pre ++ rest → w.length + rest.length ≤ 1099511627775 →
    d_impl_SortedTexts_L1 a k rest pre.length w = k (w ++ dd pre.getLast? rest) := by
  have hlen : (sortB ([] ++ a)).length = a.length := (sortB_perm _).length_eq
  intro rest
  induction rest with
  | nil => intro pre w _ _; simp [d_impl_SortedTexts_L1, dd]
  | cons x xs ih =>
    intro pre w h hw
    simp only [List.length_cons] at hw
    have hl : pre.length + (xs.length + 1) = a.length := by rw [← hlen, h]; simp
    have t := fun w' => ih (pre ++ [x]) w' (by rw [h]; simp)
    simp only [List.length_append, List.length_cons, List.length_nil, List.getLast?_concat] at t
    rw [d_impl_SortedTexts_L1]
    rcases List.eq_nil_or_concat pre with rfl | ⟨p, z, hpz⟩
    · have e0 : (((([] : List Bytes).length : Int) : Int) == 0) = true := rfl
      rw [e0, cond_true, room1 (by omega) (by decide), cond_true, t _ (by simp; omega)]
      simp [dd]
    · rw [List.concat_eq_append] at hpz
      subst hpz
      have e0 : (((((p ++ [z]).length : Int)) : Int) == 0) = false := by simp; omega
      have e1 : IntKind.i64.wrap ((((p ++ [z]).length : Int)) - 1) = (p.length : Int) := by
        rw [wrap_in (InR.i64.2 (by simp at hl ⊢; omega))]; simp
      have e2 : atI (sortB ([] ++ a)) (p.length : Int) = some z := atI_mid (xs := x :: xs) (by rw [h]; simp)
      rw [e0, cond_false, e1, e2, Option.bind_some]
      simp only [dd, List.getLast?_concat]
      by_cases hz : z = x
      · subst hz
        have e3 : ((z : Bytes) == z) = true := by simp
        rw [e3, Bool.not_true, cond_false, t _ (by omega), if_pos rfl]
      · have e3 : ((z : Bytes) == x) = false := by simpa using hz
        rw [e3, Bool.not_false, cond_true, room1 (by omega) (by decide), cond_true, t _ (by simp; omega), if_neg (by simpa using hz)]
        simp
theorem iSorted (l : List Bytes) (h : l.length < 1099511627775) : d_impl_SortedTexts l = some (uniqS l) := by
  have hlen : (sortB ([] ++ l)).length = l.length := (sortB_perm _).length_eq
  unfold d_impl_SortedTexts
  have e1 : decide ((([] : List Bytes) ++ l).length < 4611686018427387904) = true := by simp; omega
  rw [room0 (by omega) (by decide), cond_true, e1, cond_true, lenOk (by rw [hlen]; omega), cond_true]
  have := iSortedL l (fun q => some q) (by omega) (sortB ([] ++ l)) [] [] rfl (by rw [hlen]; simp; omega)
  rw [show ([] : List Bytes).length = 0 from rfl] at this
  rw [this, ← dd_uniq]
  simp
end Go.Cx

/- Chapters 2 to 5 in plain words: facts, patterns, conditions, rules, as the program and the reference read them. No condition but bounds on sizes. -/
namespace Go.Cx
open Go.RowKit Go.Proofs
set_option linter.unusedVariables false
set_option linter.unusedSimpArgs false
theorem Fact.rel_le {p : Fact} {n : Nat} (h : p.wt ≤ n) : p.rel.length ≤ n := by unfold Fact.wt tw at h; omega
theorem Fact.args_le {p : Fact} {n : Nat} (h : p.wt ≤ n) : p.args.length ≤ n := by unfold Fact.wt at h; have := wtL_len tw p.args; omega
theorem Fact.arg_le {p : Fact} {n : Nat} (h : p.wt ≤ n) {x : Bytes} (hx : x ∈ p.args) : x.length ≤ n := by unfold Fact.wt at h; have := wtL_mem (w := tw) hx; have e : tw x = x.length := rfl; omega
theorem Cond.pat_le {c : Cond} {n : Nat} (h : c.wt ≤ n) : c.pat.wt ≤ n := by simp only [Cond.wt, Fact.wt] at h ⊢; omega
theorem Cond.left_le {c : Cond} {n : Nat} (h : c.wt ≤ n) : c.left.length ≤ n := by simp only [Cond.wt, tw] at h; omega
theorem Cond.right_le {c : Cond} {n : Nat} (h : c.wt ≤ n) : c.right.length ≤ n := by simp only [Cond.wt, tw] at h; omega
theorem Action.pat_le {c : Action} {n : Nat} (h : c.wt ≤ n) : c.pat.wt ≤ n := by simp only [Action.wt, Fact.wt] at h ⊢; omega
theorem Rule.name_le {r : Rule} {n : Nat} (h : r.wt ≤ n) : r.name.length ≤ n := by simp only [Rule.wt, tw] at h; omega
theorem Rule.conds_le {r : Rule} {n : Nat} (h : r.wt ≤ n) : wtL Cond.wt r.conds ≤ n := by simp only [Rule.wt] at h; omega
theorem Rule.acts_le {r : Rule} {n : Nat} (h : r.wt ≤ n) : wtL Action.wt r.acts ≤ n := by simp only [Rule.wt] at h; omega
theorem Rule.cond_le {r : Rule} {n : Nat} (h : r.wt ≤ n) {c : Cond} (hc : c ∈ r.conds) : c.wt ≤ n := by have := Rule.conds_le h; have := wtL_mem (w := Cond.wt) hc; omega
theorem Rule.act_le {r : Rule} {n : Nat} (h : r.wt ≤ n) {c : Action} (hc : c ∈ r.acts) : c.wt ≤ n := by have := Rule.acts_le h; have := wtL_mem (w := Action.wt) hc; omega
theorem sSameP (a b : Fact) : d_spec_SamePattern a b = some (decide (a = b)) := by
  obtain ⟨a0, a1⟩ := a; obtain ⟨b0, b1⟩ := b
  unfold d_spec_SamePattern
  simp only [sSameT, Option.bind_some, beq_dec]
  by_cases h0 : a0 = b0 <;> by_cases h1 : a1 = b1 <;> simp [h0, h1]
theorem iSameP (a b : Fact) : d_impl_SamePattern a b = some (decide (a = b)) := by
  obtain ⟨a0, a1⟩ := a; obtain ⟨b0, b1⟩ := b
  unfold d_impl_SamePattern
  simp only [iSameT, Option.bind_some, beq_dec]
  by_cases h0 : a0 = b0 <;> by_cases h1 : a1 = b1 <;> simp [h0, h1]
def patB (p : Fact) : Bool := p.args.all termB && (nameB p.rel && decide ((p.args.length : Int) ≤ 3))
theorem sPat (f : Fact) (h : f.wt ≤ 1048576) : d_spec_IsPattern f = some (patB f) := by
  unfold d_spec_IsPattern
  rw [allL (f := d_spec_IsTerm) (L := d_spec_IsPattern_L1 f _) (fun _ => rfl) (fun _ _ _ => rfl) f.args 0 (fun x hx => sTerm x (Fact.arg_le h hx)), sName _ (Fact.rel_le h), Option.bind_some, List.length_map, patB]
  cases f.args.all termB <;> cases nameB f.rel <;> rfl
theorem iPat (f : Fact) (h : f.wt ≤ 1048576) : d_impl_IsPattern f = some (patB f) := by
  unfold d_impl_IsPattern
  rw [allL (f := d_impl_IsTerm) (L := d_impl_IsPattern_L1 f _) (fun _ => rfl) (fun _ _ _ => rfl) f.args 0 (fun x hx => iTerm x (Fact.arg_le h hx)), iName _ (Fact.rel_le h), Option.bind_some, List.length_map, patB]
  have c : decide ((f.args.length : Int) ≤ 3) = !decide ((f.args.length : Int) > 3) := by rw [Bool.eq_iff_iff]; simp
  rw [c]
  cases f.args.all termB <;> cases nameB f.rel <;> cases decide ((f.args.length : Int) > 3) <;> rfl
/-- the variables among texts -/
def varsB (l : List Bytes) : List Bytes := l.filter varB
theorem varsB_len (l : List Bytes) : (varsB l).length ≤ l.length := List.length_filter_le _ _
theorem varsB_app (a b : List Bytes) : varsB (a ++ b) = varsB a ++ varsB b := List.filter_append _ _
theorem sVarsOf (p : Fact) (h : p.wt ≤ 1048576) : d_spec_VarsOf p = some (uniqS (varsB p.args)) := by
  unfold d_spec_VarsOf
  have : ∀ (r : List Bytes) (i : Nat) (w : List Bytes), (∀ x ∈ r, x.length ≤ 1048576) → w.length + r.length ≤ 2097152 → d_spec_VarsOf_L1 p (fun q => some q) r i w = some ((varsB r).foldl putB w) := by
    intro r
    induction r with
    | nil => intro i w _ _; rfl
    | cons x r ih =>
      intro i w hr hw
      simp only [List.length_cons] at hw
      have hl := len_putB w x
      rw [d_spec_VarsOf_L1, sVar x (hr x (by simp)), Option.bind_some, sPut w x (by omega), Option.bind_some, ih _ _ (fun y hy => hr y (by simp [hy])) (by omega), ih _ _ (fun y hy => hr y (by simp [hy])) (by omega)]
      cases hv : varB x <;> simp [varsB, hv]
  exact this p.args 0 [] (fun x hx => Fact.arg_le h hx) (by have := Fact.args_le h; simp; omega)
theorem iVars (l : List Bytes) (hl : l.length ≤ 2097152) (h : ∀ x ∈ l, x.length ≤ 1048576) : d_impl_varsAmong l = some (varsB l) := by
  unfold d_impl_varsAmong
  have : ∀ (r : List Bytes) (i : Nat) (w : List Bytes), (∀ x ∈ r, x.length ≤ 1048576) → w.length + r.length ≤ 2097152 → d_impl_varsAmong_L1 l (fun q => some q) r i w = some (w ++ varsB r) := by
    intro r
    induction r with
    | nil => intro i w _ _; simp [d_impl_varsAmong_L1, varsB]
    | cons x r ih =>
      intro i w hr hw
      simp only [List.length_cons] at hw
      rw [d_impl_varsAmong_L1, iVar x (hr x (by simp)), Option.bind_some, room1 (by omega) (by decide), ih _ _ (fun y hy => hr y (by simp [hy])) (by simp; omega), ih _ _ (fun y hy => hr y (by simp [hy])) (by omega)]
      cases hv : varB x <;> simp [varsB, hv]
  exact this l 0 [] h (by simpa using hl)
/-- the variables of a condition -/
def condV (c : Cond) : List Bytes := varsB (c.pat.args ++ [c.left, c.right])
theorem condV_len {c : Cond} {n : Nat} (h : c.wt ≤ n) : (condV c).length ≤ n + 2 := by
  have h1 := varsB_len (c.pat.args ++ [c.left, c.right])
  have h2 := Fact.args_le (Cond.pat_le h)
  simp only [List.length_append, List.length_cons, List.length_nil] at h1
  unfold condV
  omega
theorem sCondV (c : Cond) (h : c.wt ≤ 1048576) : d_spec_CondVars c = some (uniqS (condV c)) := by
  unfold d_spec_CondVars
  have h1 := Fact.args_le (Cond.pat_le h)
  have h2 := len_uniqS (varsB c.pat.args)
  have h3 := varsB_len c.pat.args
  have h4 := len_putB (uniqS (varsB c.pat.args)) c.left
  rw [sVarsOf _ (Cond.pat_le h), Option.bind_some, sVar _ (Cond.left_le h), Option.bind_some, sVar _ (Cond.right_le h)]
  simp only [Option.bind_some]
  rw [sPut _ _ (by omega), sPut _ _ (by omega), Option.bind_some, sPut _ _ (by omega)]
  simp only [Option.bind_some, condV, varsB_app, uniqS_snoc]
  cases hl : varB c.left <;> cases hr : varB c.right <;> simp [varsB, hl, hr]
theorem iTerms (c : Cond) (h : c.wt ≤ 1048576) : d_impl_termsOf c = some (c.pat.args ++ [c.left, c.right]) := by
  unfold d_impl_termsOf
  have h1 := Fact.args_le (Cond.pat_le h)
  rw [iTexts _ (by omega), Option.bind_some]
  rw [roomK (by simp; omega) (by decide)]
  rfl
theorem iCondV (c : Cond) (h : c.wt ≤ 1048576) : d_impl_CondVars c = some (uniqS (condV c)) := by
  unfold d_impl_CondVars
  have h1 := Fact.args_le (Cond.pat_le h)
  have h5 := condV_len h
  rw [iTerms c h, Option.bind_some, iVars _ (by simp; omega) (fun x hx => by
    simp only [List.mem_append, List.mem_cons, List.not_mem_nil, or_false] at hx
    rcases hx with hx | rfl | rfl
    · exact Fact.arg_le (Cond.pat_le h) hx
    · exact Cond.left_le h
    · exact Cond.right_le h), Option.bind_some]
  rw [show varsB (c.pat.args ++ [c.left, c.right]) = condV c from rfl, iSorted _ (by omega)]
  rfl
def zeroB (p : Fact) : Bool := p.rel == [] && decide ((p.args.length : Int) = 0)
def condB (c : Cond) : Bool := bif decide (c.kind = 1) || decide (c.kind = 2) then patB c.pat && (c.left == [] && c.right == []) else bif decide (c.kind = 3) || decide (c.kind = 4) || decide (c.kind = 5) then zeroB c.pat && (termB c.left && termB c.right) else false
def testB (c : Cond) : Bool := condB c && decide (c.kind ≥ 3)
theorem condB_kind {c : Cond} (h : condB c = true) : 1 ≤ c.kind ∧ c.kind ≤ 5 := by
  unfold condB at h
  by_cases h1 : c.kind = 1
  · omega
  by_cases h2 : c.kind = 2
  · omega
  by_cases h3 : c.kind = 3
  · omega
  by_cases h4 : c.kind = 4
  · omega
  by_cases h5 : c.kind = 5
  · omega
  simp [h1, h2, h3, h4, h5] at h
theorem sCond (c : Cond) (h : c.wt ≤ 1048576) : d_spec_IsCond c = some (condB c) := by
  unfold d_spec_IsCond condB zeroB
  simp only [sPat _ (Cond.pat_le h), sTerm _ (Cond.left_le h), sTerm _ (Cond.right_le h), Option.bind_some, List.length_map, beq_dec]
  by_cases h1 : c.kind = 1
  · simp only [h1]; cases patB c.pat <;> cases decide (c.left = []) <;> simp
  by_cases h2 : c.kind = 2
  · simp only [h2]; cases patB c.pat <;> cases decide (c.left = []) <;> simp
  by_cases h3 : c.kind = 3
  · simp only [h3]; cases decide (c.pat.rel = []) <;> cases decide ((c.pat.args.length : Int) = 0) <;> cases termB c.left <;> simp
  by_cases h4 : c.kind = 4
  · simp only [h4]; cases decide (c.pat.rel = []) <;> cases decide ((c.pat.args.length : Int) = 0) <;> cases termB c.left <;> simp
  by_cases h5 : c.kind = 5
  · simp only [h5]; cases decide (c.pat.rel = []) <;> cases decide ((c.pat.args.length : Int) = 0) <;> cases termB c.left <;> simp
  simp [h1, h2, h3, h4, h5]
theorem iZero (p : Fact) : d_impl_zeroPattern p = some (zeroB p) := by
  unfold d_impl_zeroPattern zeroB
  simp only [List.length_map, beq_dec]
  cases decide (p.rel = []) <;> rfl
theorem iCond (c : Cond) (h : c.wt ≤ 1048576) : d_impl_IsCond c = some (condB c) := by
  unfold d_impl_IsCond condB
  simp only [iPat _ (Cond.pat_le h), iTerm _ (Cond.left_le h), iTerm _ (Cond.right_le h), iZero, Option.bind_some, beq_dec]
  by_cases h1 : c.kind = 1
  · simp only [h1]; cases patB c.pat <;> cases decide (c.left = []) <;> simp
  by_cases h2 : c.kind = 2
  · simp only [h2]; cases patB c.pat <;> cases decide (c.left = []) <;> simp
  by_cases h3 : c.kind = 3
  · simp only [h3]; cases zeroB c.pat <;> cases termB c.left <;> cases termB c.right <;> simp
  by_cases h4 : c.kind = 4
  · simp only [h4]; cases zeroB c.pat <;> cases termB c.left <;> cases termB c.right <;> simp
  by_cases h5 : c.kind = 5
  · simp only [h5]; cases zeroB c.pat <;> cases termB c.left <;> cases termB c.right <;> simp
  simp [h1, h2, h3, h4, h5]
theorem sTest (c : Cond) (h : c.wt ≤ 1048576) : d_spec_IsTest c = some (testB c) := by
  unfold d_spec_IsTest testB
  rw [sCond c h]
  cases condB c <;> rfl
theorem sSameC (a b : Cond) : d_spec_SameCond a b = some (decide (a = b)) := by
  obtain ⟨a0, a1, a2, a3⟩ := a; obtain ⟨b0, b1, b2, b3⟩ := b
  unfold d_spec_SameCond
  simp only [sSameP, Option.bind_some, beq_dec]
  by_cases h0 : a0 = b0 <;> by_cases h1 : a1 = b1 <;> by_cases h2 : a2 = b2 <;> by_cases h3 : a3 = b3 <;> simp [h0, h1, h2, h3]
theorem iSameC (a b : Cond) : d_impl_SameCond a b = some (decide (a = b)) := by
  obtain ⟨a0, a1, a2, a3⟩ := a; obtain ⟨b0, b1, b2, b3⟩ := b
  unfold d_impl_SameCond
  simp only [iSameP, Option.bind_some, beq_dec]
  by_cases h0 : a0 = b0 <;> by_cases h1 : a1 = b1 <;> by_cases h2 : a2 = b2 <;> by_cases h3 : a3 = b3 <;> simp [h0, h1, h2, h3]
def actB (a : Action) : Bool := bif decide (a.kind = 1) || decide (a.kind = 2) then patB a.pat else bif decide (a.kind = 3) then zeroB a.pat else false
theorem sAct (a : Action) (h : a.wt ≤ 1048576) : d_spec_IsAction a = some (actB a) := by
  unfold d_spec_IsAction actB zeroB
  simp only [sPat _ (Action.pat_le h), Option.bind_some, List.length_map, beq_dec]
  by_cases h1 : a.kind = 1
  · simp [h1]
  by_cases h2 : a.kind = 2
  · simp [h2]
  by_cases h3 : a.kind = 3
  · simp only [h3]; cases decide (a.pat.rel = []) <;> simp
  simp [h1, h2, h3]
theorem iAct (a : Action) (h : a.wt ≤ 1048576) : d_impl_IsAction a = some (actB a) := by
  unfold d_impl_IsAction actB
  simp only [iPat _ (Action.pat_le h), iZero, Option.bind_some, beq_dec]
  by_cases h1 : a.kind = 1
  · simp [h1]
  by_cases h2 : a.kind = 2
  · simp [h2]
  by_cases h3 : a.kind = 3
  · simp [h3]
  simp [h1, h2, h3]
end Go.Cx

/- Numbers as texts, and plain names of variables, in plain words: of the program and of the reference. No condition but bounds on sizes. -/
namespace Go.Cx
open Go.RowKit Go.Proofs
set_option linter.unusedVariables false
set_option linter.unusedSimpArgs false
theorem nDig_le : ∀ (k v : Nat), v < 10 ^ k → 1 ≤ k → Lib.nDigits v ≤ k := by
  intro k
  induction k with
  | zero => intro v _ h; omega
  | succ k ih =>
    intro v hv _
    by_cases h10 : v < 10
    · rw [Lib.nDigits_small h10]; omega
    · rw [Lib.nDigits_big h10]
      have h3 : v / 10 < 10 ^ k := by rw [Nat.pow_succ] at hv; omega
      have hk1 : 1 ≤ k := by
        cases k with
        | zero => simp at hv; omega
        | succ k => omega
      have := ih (v / 10) h3 hk1
      omega
theorem nDig19 {u : Nat} (h : u ≤ 9223372036854775808) : Lib.nDigits u ≤ 19 := nDig_le 19 u (by omega) (by omega)
theorem dig1 (u : Nat) : UInt8.ofNat (IntKind.u8.wrap (IntKind.i64.wrap ((48) + ((u : Int) % (10))))).toNat = UInt8.ofNat (48 + u % 10) := by
  rw [wrap_in (k := .i64) (InR.i64.2 (by omega)), wrap_in (InR.u8.2 (by omega))]
  congr 1
theorem sFmtL (k : Option Bytes) : ∀ (n u : Nat) (acc : Bytes), Lib.nDigits u ≤ n → acc.length + Lib.nDigits u ≤ 1000 → d_spec_FormatInt_R_L1 k n (u : Int) acc = some (Lib.decDigits u ++ acc) := by
  intro n
  induction n with
  | zero => intro u acc h _; have := Lib.nDigits_pos u; omega
  | succ n ih =>
    intro u acc hn hl
    have hp := Lib.nDigits_pos u
    have e0 : (decide (0 ≤ (u : Int)) && decide (0 < (10 : Int))) = true := by simp
    have e1 : decide (([UInt8.ofNat (48 + u % 10)] : Bytes).length + (acc : Bytes).length ≤ maxLen) = true := by unfold maxLen; simp; omega
    rw [d_spec_FormatInt_R_L1]
    simp only [dig1, e0, e1, cond_true]
    by_cases h10 : u < 10
    · have e2 : (((u : Int) / (10) : Int) == (0)) = true := by rw [beq_iff_eq]; omega
      rw [e2, cond_true, Lib.decDigits, dif_pos h10, Nat.mod_eq_of_lt h10]
    · have e2 : (((u : Int) / (10) : Int) == (0)) = false := by rw [beq_eq_false_iff_ne]; omega
      have e3 : ((u : Int) / 10) = ((u / 10 : Nat) : Int) := by omega
      have hd := Lib.nDigits_big h10
      rw [e2, cond_false, e3, ih (u / 10) _ (by omega) (by simp; omega)]
      conv => rhs; rw [Lib.decDigits, dif_neg h10]
      simp
theorem sFmtR (m u : Nat) (h : u ≤ 9223372036854775807) : d_spec_FormatInt_R (m + 1) (u : Int) = some (Lib.decDigits u) := by
  rw [d_spec_FormatInt_R]
  have e1 : (((u : Int)) == (-9223372036854775808)) = false := by rw [beq_eq_false_iff_ne]; omega
  have e2 : decide ((u : Int) < 0) = false := by simp
  have := nDig19 (u := u) (by omega)
  rw [e1, cond_false, e2, cond_false, sFmtL _ _ _ _ (by unfold fuel; omega) (by simp; omega)]
  simp
theorem itoa_min : Lib.itoa (-9223372036854775808) = [45, 57, 50, 50, 51, 51, 55, 50, 48, 51, 54, 56, 53, 52, 55, 55, 53, 56, 48, 56] := by
  unfold Lib.itoa
  simp [Lib.decDigits]
theorem sFmt (n : Int) (h : InR .i64 n) : d_spec_FormatInt n = some (Lib.itoa n) := by
  have h := InR.i64.1 h
  unfold d_spec_FormatInt
  rw [show fuel = 4194303 + 1 from rfl, d_spec_FormatInt_R]
  by_cases hm : n = -9223372036854775808
  · subst hm
    rw [itoa_min]
    rfl
  have e1 : ((n : Int) == (-9223372036854775808)) = false := by rw [beq_eq_false_iff_ne]; exact hm
  rw [e1, cond_false]
  by_cases hn : n < 0
  · have e2 : decide (n < 0) = true := by simpa using hn
    have e3 : IntKind.i64.wrap (0 - n) = ((n.natAbs : Nat) : Int) := by rw [wrap_in (InR.i64.2 (by omega))]; omega
    have hd := nDig19 (u := n.natAbs) (by omega)
    rw [e2, cond_true, e3, show (4194303 : Nat) = 4194302 + 1 from rfl, sFmtR _ _ (by omega), Option.bind_some]
    have e4 : decide (([45] : Bytes).length + (Lib.decDigits n.natAbs : Bytes).length ≤ maxLen) = true := by unfold maxLen; rw [Lib.decDigits_length]; simp; omega
    rw [e4, cond_true]
    unfold Lib.itoa
    rw [if_pos hn]
    rfl
  · have e2 : decide (n < 0) = false := by simpa using hn
    have e3 : n = ((n.toNat : Nat) : Int) := by omega
    have := nDig19 (u := n.toNat) (by omega)
    rw [e2, cond_false]
    conv => lhs; rw [e3]
    rw [sFmtL _ _ _ _ (by unfold fuel; omega) (by simp; omega)]
    unfold Lib.itoa
    rw [if_neg hn]
    simp
theorem iFmt (n : Int) : d_impl_FormatInt n = some (Lib.itoa n) := by
  unfold d_impl_FormatInt d_strconv_Itoa
  rfl
theorem itoa_len21 (n : Int) (h : InR .i64 n) : (Lib.itoa n).length ≤ 21 := by
  have := InR.i64.1 h
  exact Lib.itoa_length_le n this.1 this.2
/-! renaming -/
def rnB (to : List Pair) (s : Bytes) : Bytes := match to with
  | [] => s
  | p :: r => bif p.var == s then p.value else rnB r s
def renC (to : List Pair) (x : Cond) : Cond := ⟨x.kind, ⟨x.pat.rel, x.pat.args.map (rnB to)⟩, rnB to x.left, rnB to x.right⟩
theorem sRn (to : List Pair) (s : Bytes) : d_spec_l4Renamed s to = some (rnB to s) := by
  unfold d_spec_l4Renamed
  have : ∀ (r : List Pair) (i : Nat), d_spec_l4Renamed_L1 s to (some s) r i = some (rnB r s) := by
    intro r
    induction r with
    | nil => intro i; rfl
    | cons x r ih =>
      intro i
      rw [d_spec_l4Renamed_L1, ih, rnB]
      cases x.var == s <;> rfl
  exact this to 0
theorem iRn (to : List Pair) (s : Bytes) : d_impl_renamedText s to = some (rnB to s) := by
  unfold d_impl_renamedText
  have : ∀ (r : List Pair) (i : Nat), d_impl_renamedText_L1 s to (some s) r i = some (rnB r s) := by
    intro r
    induction r with
    | nil => intro i; rfl
    | cons x r ih =>
      intro i
      rw [d_impl_renamedText_L1, ih, rnB]
      cases x.var == s <;> rfl
  exact this to 0
theorem sRen (x : Cond) (to : List Pair) (h : x.pat.args.length ≤ 1099511627770) : d_spec_RenameCond x to = some (renC to x) := by
  unfold d_spec_RenameCond
  rw [sRn, Option.bind_some, sRn, Option.bind_some]
  rw [mapL (c := tx) (b := 16) (f := fun a => d_spec_l4Renamed a to) (g := rnB to) (L := d_spec_RenameCond_L1 x to (rnB to x.left) (rnB to x.right) _) (k := _) (by decide) (fun _ _ => rfl) (fun _ _ _ _ => rfl) _ _ _ (fun a _ => sRn to a) (by simp; omega)]
  rfl
theorem iRen (x : Cond) (to : List Pair) (h : x.pat.args.length ≤ 1099511627770) : d_impl_RenameCond x to = some (renC to x) := by
  unfold d_impl_RenameCond
  rw [iRn, Option.bind_some, iRn, Option.bind_some]
  rw [mapL (c := tx) (b := 16) (f := fun a => d_impl_renamedText a to) (g := rnB to) (L := d_impl_RenameCond_L1 x to (rnB to x.left) (rnB to x.right) _) (k := _) (by decide) (fun _ _ => rfl) (fun _ _ _ _ => rfl) _ _ _ (fun a _ => iRn to a) (by simp; omega)]
  rfl
/-! plain names -/
def hasV (l : List Pair) (t : Bytes) : Bool := l.any fun p => p.var == t
def nameP (l : List Pair) (t : Bytes) : List Pair := bif varB t && !hasV l t then l ++ [⟨t, [63] ++ Lib.itoa ((l.length : Int) + 1)⟩] else l
theorem nameP_len (l : List Pair) (t : Bytes) : (nameP l t).length ≤ l.length + 1 := by
  unfold nameP
  cases varB t && !hasV l t <;> simp
theorem foldl_nameP_len : ∀ (ts : List Bytes) (l : List Pair), (ts.foldl nameP l).length ≤ l.length + ts.length
  | [], l => by simp
  | t :: ts, l => by
    have h1 := foldl_nameP_len ts (nameP l t)
    have h2 := nameP_len l t
    rw [List.foldl_cons, List.length_cons]; omega
theorem sName7 (l : List Pair) (t : Bytes) (hl : l.length ≤ 1099511627770) (ht : t.length ≤ 1048576) : d_spec_l7Name l t = some (nameP l t) := by
  unfold d_spec_l7Name
  rw [sVar t ht, Option.bind_some, nameP]
  cases hv : varB t with
  | false => rfl
  | true =>
    rw [Bool.not_true, cond_false, Bool.true_and]
    have key : ∀ (k : Option (List Pair)) (r : List Pair) (i : Nat), d_spec_l7Name_L1 l t k r i = bif hasV r t then some l else k := by
      intro k r
      induction r with
      | nil => intro i; rfl
      | cons x r ih =>
        intro i
        rw [d_spec_l7Name_L1, ih]
        simp only [hasV, List.any_cons]
        cases x.var == t <;> simp
    rw [key]
    cases hasV l t with
    | true => rfl
    | false =>
      have e1 : IntKind.i64.wrap ((((l.map Pair.c).length : Int)) + 1) = (l.length : Int) + 1 := by rw [wrap_in (InR.i64.2 (by simp; omega))]; simp
      have hr : InR .i64 ((l.length : Int) + 1) := InR.i64.2 (by omega)
      have hi := itoa_len21 _ hr
      have e2 : decide (([63] : Bytes).length + (Lib.itoa ((l.length : Int) + 1) : Bytes).length ≤ maxLen) = true := by unfold maxLen; simp; omega
      simp only [cond_false, Bool.not_false, cond_true]
      rw [e1, sFmt _ hr, Option.bind_some, e2, cond_true, room1 (by omega) (by decide)]
      rfl
theorem mGet_put (x y : Bytes) : ∀ (m : List (Bytes × Bool)), mGet false y (mPut x true m) = (y == x || mGet false y m)
  | [] => by simp only [mPut, mGet]; cases y == x <;> rfl
  | p :: m => by
    simp only [mPut]
    cases h : x == p.1 with
    | true =>
      have h' : x = p.1 := by simpa using h
      subst h'
      simp only [cond_true, mGet]
      cases y == p.1 <;> simp
    | false =>
      simp only [cond_false, mGet, mGet_put x y m]
      cases hy : y == p.1 with
      | true =>
        have h1 : y = p.1 := by simpa using hy
        have h2 : (y == x) = false := by
          rw [beq_eq_false_iff_ne] at h ⊢
          intro e; exact h (e.symm.trans h1)
        simp [h2]
      | false => simp
theorem hasV_snoc (l : List Pair) (x y v : Bytes) : hasV (l ++ [⟨x, v⟩]) y = (y == x || hasV l y) := by
  have : (x == y) = (y == x) := by rw [Bool.eq_iff_iff, beq_iff_eq, beq_iff_eq]; exact eq_comm
  simp only [hasV, List.any_append, List.any_cons, List.any_nil, Bool.or_false, this]
  cases y == x <;> simp
theorem iPlainP (ts : List Bytes) (hl : ts.length ≤ 1099511627700) (h : ∀ x ∈ ts, x.length ≤ 1048576) : d_impl_plainPairs ts = some (ts.foldl nameP []) := by
  unfold d_impl_plainPairs
  have key : ∀ (r : List Bytes) (i : Nat) (w : List Pair) (m : List (Bytes × Bool)), (∀ x ∈ r, x.length ≤ 1048576) → w.length + r.length ≤ 1099511627700 → (∀ y, mGet false y m = hasV w y) →
      d_impl_plainPairs_L1 ts (fun q => some q) r i w m = some (r.foldl nameP w) := by
    intro r
    induction r with
    | nil => intro i w m _ _ _; rfl
    | cons x r ih =>
      intro i w m hx hw hm
      simp only [List.length_cons] at hw
      have hr : InR .i64 ((w.length : Int) + 1) := InR.i64.2 (by omega)
      have hi := itoa_len21 _ hr
      have e1 : IntKind.i64.wrap ((((w.map Pair.c).length : Int)) + 1) = (w.length : Int) + 1 := by rw [wrap_in (InR.i64.2 (by simp; omega))]; simp
      have e2 : decide (([63] : Bytes).length + (Lib.itoa ((w.length : Int) + 1) : Bytes).length ≤ maxLen) = true := by unfold maxLen; simp; omega
      rw [d_impl_plainPairs_L1, iVar x (hx x (by simp)), Option.bind_some, List.foldl_cons, nameP, hm x]
      cases hv : varB x with
      | false => simp only [cond_false, Bool.false_and]; exact ih _ _ _ (fun y hy => hx y (by simp [hy])) (by omega) hm
      | true =>
        cases hh : hasV w x with
        | true => simp only [cond_true, Bool.not_true, cond_false, Bool.true_and]; exact ih _ _ _ (fun y hy => hx y (by simp [hy])) (by omega) hm
        | false =>
          simp only [cond_true, Bool.not_false, Bool.true_and]
          rw [e1, iFmt, Option.bind_some, e2, cond_true, room1 (by omega) (by decide), cond_true]
          exact ih _ _ _ (fun y hy => hx y (by simp [hy])) (by simp; omega) (fun y => by rw [mGet_put, hasV_snoc, hm])
  exact key ts 0 [] [] h (by simpa using hl) (fun y => rfl)
def shapeB (p : Fact) : Fact := (renC (p.args.foldl nameP []) ⟨0, p, [], []⟩).pat
theorem sShape (p : Fact) (h : p.wt ≤ 1048576) : d_spec_ShapeOf p = some (shapeB p) := by
  have hl := Fact.args_le h
  unfold d_spec_ShapeOf
  have key : ∀ (k : List Pair → Option Fact) (r : List Bytes) (i : Nat) (w : List Pair), (∀ x ∈ r, x.length ≤ 1048576) → w.length + r.length ≤ 1099511627700 → d_spec_ShapeOf_L1 p k r i w = k (r.foldl nameP w) := by
    intro k r
    induction r with
    | nil => intro i w _ _; rfl
    | cons x r ih =>
      intro i w hx hw
      simp only [List.length_cons] at hw
      have := nameP_len w x
      rw [d_spec_ShapeOf_L1, sName7 w x (by omega) (hx x (by simp)), Option.bind_some, ih _ _ (fun y hy => hx y (by simp [hy])) (by omega)]
      rfl
  rw [key _ _ _ _ (fun x hx => Fact.arg_le h hx) (by simp; omega), sRen _ _ (by simp; omega)]
  rfl
theorem iShape (p : Fact) (h : p.wt ≤ 1048576) : d_impl_ShapeOf p = some (shapeB p) := by
  have hl := Fact.args_le h
  unfold d_impl_ShapeOf
  rw [iPlainP _ (by omega) (fun x hx => Fact.arg_le h hx), Option.bind_some, iRen _ _ (by simp; omega)]
  rfl
def termsB (l : List Cond) : List Bytes := l.flatMap fun c => c.pat.args ++ [c.left, c.right]
theorem termsB_len (l : List Cond) : (termsB l).length ≤ 3 * wtL Cond.wt l := by
  unfold termsB
  induction l with
  | nil => simp
  | cons x l ih =>
    rw [List.flatMap_cons, List.length_append, wtL_cons]
    have := Fact.args_le (Cond.pat_le (c := x) (Nat.le_refl _))
    simp only [List.length_append, List.length_cons, List.length_nil]
    omega
def namesB (r : Rule) : List Pair := (termsB r.conds).foldl nameP []
def plainB (r : Rule) : List Cond := r.conds.map (renC (namesB r))
theorem sNamesL2 (a : Rule) (i : Nat) (c : Cond) (k : List Pair → Option (List Pair)) : ∀ (r : List Bytes) (j : Nat) (w : List Pair), (∀ x ∈ r, x.length ≤ 1048576) → w.length + r.length ≤ 1099511627700 → d_spec_PlainNames_L2 a i c k r j w = k (r.foldl nameP w) := by
  intro r
  induction r with
  | nil => intro i w _ _; rfl
  | cons x r ih =>
    intro i w hx hw
    simp only [List.length_cons] at hw
    have := nameP_len w x
    rw [d_spec_PlainNames_L2, sName7 w x (by omega) (hx x (by simp)), Option.bind_some, ih _ _ (fun y hy => hx y (by simp [hy])) (by omega)]
    rfl
theorem sNames (r : Rule) (h : r.wt ≤ 1048576) : d_spec_PlainNames r = some (namesB r) := by
  unfold d_spec_PlainNames
  have key : ∀ (l : List Cond) (i : Nat) (w : List Pair), (∀ c ∈ l, c.wt ≤ 1048576) → w.length + 3 * wtL Cond.wt l ≤ 1099511627700 → d_spec_PlainNames_L1 r (fun q => some q) l i w = some ((termsB l).foldl nameP w) := by
    intro l
    induction l with
    | nil => intro i w _ _; rfl
    | cons c l ih =>
      intro i w hc hw
      rw [wtL_cons] at hw
      have hcw := hc c (by simp)
      have ha := Fact.args_le (Cond.pat_le (c := c) (Nat.le_refl _))
      have h1 := foldl_nameP_len c.pat.args w
      have h2 := nameP_len (c.pat.args.foldl nameP w) c.left
      have h3 := nameP_len (nameP (c.pat.args.foldl nameP w) c.left) c.right
      rw [d_spec_PlainNames_L1, lenOk (by omega), cond_true, sNamesL2 _ _ _ _ _ _ _ (fun x hx => Fact.arg_le (Cond.pat_le hcw) hx) (by omega), sName7 _ _ (by omega) (Cond.left_le hcw), Option.bind_some, sName7 _ _ (by omega) (Cond.right_le hcw), Option.bind_some,
        ih _ _ (fun y hy => hc y (by simp [hy])) (by omega)]
      simp [termsB]
  have := Rule.conds_le h
  exact key r.conds 0 [] (fun c hc => Rule.cond_le h hc) (by simp; omega)
theorem iNames (r : Rule) (h : r.wt ≤ 1048576) : d_impl_PlainNames r = some (namesB r) := by
  unfold d_impl_PlainNames
  have hw := Rule.conds_le h
  have key : ∀ (k : List Bytes → Option (List Pair)) (l : List Cond) (i : Nat) (w : List Bytes), (∀ c ∈ l, c.wt ≤ 1048576) → w.length + 3 * wtL Cond.wt l ≤ 1099511627700 → d_impl_PlainNames_L1 r k l i w = k (w ++ termsB l) := by
    intro k l
    induction l with
    | nil => intro i w _ _; simp [d_impl_PlainNames_L1, termsB]
    | cons c l ih =>
      intro i w hc hw
      rw [wtL_cons] at hw
      have hcw := hc c (by simp)
      have ha := Fact.args_le (Cond.pat_le (c := c) (Nat.le_refl _))
      rw [d_impl_PlainNames_L1, iTerms c hcw, Option.bind_some, roomA (by simp; omega) (by decide), cond_true, ih _ _ (fun y hy => hc y (by simp [hy])) (by simp; omega)]
      simp [termsB]
  have hl := termsB_len r.conds
  rw [key _ _ _ _ (fun c hc => Rule.cond_le h hc) (by simp; omega), List.nil_append, iPlainP _ (by omega) ?_]
  · rfl
  · intro x hx
    unfold termsB at hx
    obtain ⟨c, hc, hx⟩ := List.mem_flatMap.1 hx
    have hcw := Rule.cond_le h hc
    rcases List.mem_append.1 hx with hx | hx
    · exact Fact.arg_le (Cond.pat_le hcw) hx
    · simp only [List.mem_cons, List.not_mem_nil, or_false] at hx
      rcases hx with rfl | rfl
      · exact Cond.left_le hcw
      · exact Cond.right_le hcw
theorem sConds (r : Rule) (h : r.wt ≤ 1048576) : d_spec_PlainConds r = some (plainB r) := by
  unfold d_spec_PlainConds
  have hw := Rule.conds_le h
  have hl := wtL_len Cond.wt r.conds
  rw [sNames r h, Option.bind_some]
  rw [mapL (c := Cond.c) (b := 80) (f := fun a => d_spec_RenameCond a (namesB r)) (g := renC (namesB r)) (L := d_spec_PlainConds_L1 r (namesB r) _) (k := _) (by decide) (fun _ _ => rfl) (fun _ _ _ _ => rfl) _ _ _ (fun c hc => sRen c _ (by have := Fact.args_le (Cond.pat_le (Rule.cond_le h hc)); omega)) (by simp; omega)]
  simp [plainB]
theorem iConds (r : Rule) (h : r.wt ≤ 1048576) : d_impl_PlainConds r = some (plainB r) := by
  unfold d_impl_PlainConds
  have hw := Rule.conds_le h
  have hl := wtL_len Cond.wt r.conds
  rw [iNames r h, Option.bind_some]
  rw [mapL (c := Cond.c) (b := 80) (f := fun a => d_impl_RenameCond a (namesB r)) (g := renC (namesB r)) (L := d_impl_PlainConds_L1 r (namesB r) _) (k := _) (by decide) (fun _ _ => rfl) (fun _ _ _ _ => rfl) _ _ _ (fun c hc => iRen c _ (by have := Fact.args_le (Cond.pat_le (Rule.cond_le h hc)); omega)) (by simp; omega)]
  simp [plainB]
end Go.Cx

/- The conditions on the path to a node, in plain words. No condition but bounds. -/
namespace Go.Cx
open Go.RowKit Go.Proofs
set_option linter.unusedVariables false
set_option linter.unusedSimpArgs false
theorem rnB_nil (s : Bytes) : rnB [] s = s := rfl
theorem renC_nil (x : Cond) : renC [] x = x := by
  have : x.pat.args.map (rnB []) = x.pat.args := by
    rw [show (rnB []) = id from funext rnB_nil]; simp
  unfold renC
  rw [this]
  rfl
def natI (i : Nat) : Int := (i : Int)
theorem sCopyC (x : Cond) (h : x.pat.args.length ≤ 1099511627770) : d_spec_l4Copy x = some x := by
  unfold d_spec_l4Copy
  rw [sRen x [] h, Option.bind_some, renC_nil]
theorem iCopyC (x : Cond) (h : x.pat.args.length ≤ 1099511627770) : d_impl_copyCond x = some x := by
  unfold d_impl_copyCond d_impl_copyPattern
  rw [iTexts x.pat.args (by omega)]
  rfl
end Go.Cx

/- Shapes in plain words: a shape is its own shape; a pattern and its shape cover each other. No condition but bounds on sizes. -/
namespace Go.Cx
open Go.RowKit Go.Proofs
set_option linter.unusedVariables false
set_option linter.unusedSimpArgs false
/-- the k-th plain name -/
def nmB (k : Nat) : Bytes := [63] ++ Lib.itoa ((k : Int) + 1)
theorem decDigits_one {u : Nat} (h : u < 10) : Lib.decDigits u = [UInt8.ofNat (48 + u)] := by
  rw [Lib.decDigits, dif_pos h]
theorem nmB_lit : ∀ i, i < 6 → nmB i = [63, UInt8.ofNat (49 + i)]
  | 0, _ | 1, _ | 2, _ | 3, _ | 4, _ | 5, _ => by
    unfold nmB Lib.itoa
    rw [if_neg (by decide), decDigits_one (by decide)]
    decide
  | n + 6, h => by omega
/-- pairs that give variables plain names, in order -/
def WfN (N : List Pair) : Prop := ∀ (i : Nat) p, N[i]? = some p → p.value = nmB i ∧ varB p.var = true
theorem hasV_iff (N : List Pair) (t : Bytes) : hasV N t = true ↔ ∃ p ∈ N, p.var = t := by simp [hasV]
theorem nameP_mem (N : List Pair) (t : Bytes) {p : Pair} (h : p ∈ N) : p ∈ nameP N t := by
  unfold nameP
  cases varB t && !hasV N t <;> simp [h]
theorem fold_mem : ∀ (ts : List Bytes) (N : List Pair) {p : Pair}, p ∈ N → p ∈ ts.foldl nameP N
  | [], _, _, h => h
  | t :: ts, N, p, h => fold_mem ts (nameP N t) (nameP_mem N t h)
theorem wf_nameP {N : List Pair} (h : WfN N) (t : Bytes) : WfN (nameP N t) := by
  unfold nameP
  cases hv : varB t && !hasV N t with
  | false => exact h
  | true =>
    simp only [Bool.and_eq_true] at hv
    intro i p hp
    rw [cond_true] at hp
    rcases Nat.lt_or_ge i N.length with hlt | hge
    · rw [List.getElem?_append_left hlt] at hp; exact h i p hp
    · rw [List.getElem?_append_right hge] at hp
      cases hi : i - N.length with
      | zero =>
        rw [hi] at hp; simp at hp; subst hp
        have : i = N.length := by omega
        subst this; exact ⟨rfl, hv.1⟩
      | succ m => rw [hi] at hp; simp at hp
theorem wf_fold : ∀ (ts : List Bytes) {N : List Pair}, WfN N → WfN (ts.foldl nameP N)
  | [], _, h => h
  | t :: ts, _, h => wf_fold ts (wf_nameP h t)
/-- keys are told apart -/
def NdK (N : List Pair) : Prop := (N.map Pair.var).Nodup
theorem ndk_nameP {N : List Pair} (h : NdK N) (t : Bytes) : NdK (nameP N t) := by
  unfold nameP
  cases hv : varB t && !hasV N t with
  | false => exact h
  | true =>
    simp only [Bool.and_eq_true, Bool.not_eq_true'] at hv
    rw [cond_true]
    unfold NdK
    rw [List.map_append, List.nodup_append]
    refine ⟨h, by simp, ?_⟩
    intro a ha b hb e
    simp at hb
    subst hb; subst e
    obtain ⟨p, hp, he⟩ := List.mem_map.1 ha
    have := (hasV_iff N a).2 ⟨p, hp, he⟩
    rw [hv.2] at this; cases this
theorem ndk_fold : ∀ (ts : List Bytes) {N : List Pair}, NdK N → NdK (ts.foldl nameP N)
  | [], _, h => h
  | t :: ts, _, h => ndk_fold ts (ndk_nameP h t)
theorem fold_has : ∀ (ts : List Bytes) (N : List Pair) {t : Bytes}, t ∈ ts → varB t = true → ∃ p ∈ ts.foldl nameP N, p.var = t
  | x :: ts, N, t, h, hv => by
    rcases List.mem_cons.1 h with rfl | h
    · have : ∃ p ∈ nameP N t, p.var = t := by
        unfold nameP
        cases hh : hasV N t with
        | true => rw [hv]; exact (hasV_iff N t).1 hh
        | false => rw [hv]; exact ⟨⟨t, [63] ++ Lib.itoa ((N.length : Int) + 1)⟩, by simp, rfl⟩
      obtain ⟨p, hp, he⟩ := this
      exact ⟨p, fold_mem ts _ hp, he⟩
    · exact fold_has ts _ h hv
theorem rnB_key : ∀ {N : List Pair} {p : Pair}, NdK N → p ∈ N → rnB N p.var = p.value
  | q :: N, p, hn, hp => by
    unfold NdK at hn
    rw [List.map_cons, List.nodup_cons] at hn
    rcases List.mem_cons.1 hp with rfl | hp
    · simp [rnB]
    · have hne : (q.var == p.var) = false := by
        rw [beq_eq_false_iff_ne]
        intro e
        exact hn.1 (by rw [e]; exact List.mem_map.2 ⟨p, hp, rfl⟩)
      rw [rnB, hne, cond_false]
      exact rnB_key (show NdK N from hn.2) hp
theorem rnB_other : ∀ {N : List Pair} {t : Bytes}, (∀ p ∈ N, p.var ≠ t) → rnB N t = t
  | [], t, _ => rfl
  | q :: N, t, h => by
    have hne : (q.var == t) = false := by rw [beq_eq_false_iff_ne]; exact h q (by simp)
    rw [rnB, hne, cond_false]
    exact rnB_other fun p hp => h p (by simp [hp])
theorem WfN.nil : WfN [] := fun i p h => by simp at h
theorem NdK.nil : NdK [] := by simp [NdK]
/-- what the names do -/
theorem wf_mem {N : List Pair} (h : WfN N) {p : Pair} (hp : p ∈ N) : ∃ i, i < N.length ∧ N[i]? = some p ∧ p.value = nmB i ∧ varB p.var = true := by
  obtain ⟨i, hi⟩ := List.getElem?_of_mem hp
  exact ⟨i, (List.getElem?_eq_some_iff.1 hi).1, hi, h i p hi⟩
theorem nm_novar {ts : List Bytes} {t : Bytes} (ht : varB t = false) : rnB (ts.foldl nameP []) t = t :=
  rnB_other fun p hp e => by
    obtain ⟨i, _, _, _, hv⟩ := wf_mem (wf_fold ts WfN.nil) hp
    rw [e, ht] at hv; cases hv
theorem nmB_len : ∀ i, i < 6 → (nmB i).length ≤ 16 := by
  intro i hi
  rw [nmB_lit i hi]
  simp
/-! covers -/
end Go.Cx

/- Chapter 5 in plain words: which variables a rule binds and uses, what it reads and writes, whether it is valid. No condition but bounds on sizes. -/
namespace Go.Cx
open Go.RowKit Go.Proofs
set_option linter.unusedVariables false
set_option linter.unusedSimpArgs false
def bnd1 (c : Cond) : List Bytes := bif decide (c.kind = 1) then varsB c.pat.args else []
theorem bnd1_len {c : Cond} : (bnd1 c).length ≤ c.wt := by
  unfold bnd1
  have h2 := varsB_len c.pat.args
  have h3 := Fact.args_le (Cond.pat_le (Nat.le_refl c.wt))
  cases decide (c.kind = 1) <;> simp; omega
/-- the variables that the first n conditions bind -/
def bndV (r : Rule) (n : Int) : List Bytes := (r.conds.take n.toNat).flatMap bnd1
theorem take_step {α : Type} (x : α) (xs : List α) (n : Int) (i : Nat) : (x :: xs).take (n - (i : Int)).toNat = if (i : Int) < n then x :: xs.take (n - ((i + 1 : Nat) : Int)).toNat else [] := by
  by_cases h : (i : Int) < n
  · rw [if_pos h]
    obtain ⟨m, hm⟩ : ∃ m, (n - (i : Int)).toNat = m + 1 := ⟨(n - (i : Int)).toNat - 1, by omega⟩
    have : (n - ((i + 1 : Nat) : Int)).toNat = m := by omega
    rw [hm, this]; rfl
  · rw [if_neg h, show (n - (i : Int)).toNat = 0 from by omega]; rfl
theorem flatMap_len {α β : Type} {f : α → List β} {w : α → Nat} (l : List α) (h : ∀ x ∈ l, (f x).length ≤ w x + 2) : (l.flatMap f).length ≤ 3 * wtL w l := by
  induction l with
  | nil => simp [wtL]
  | cons x l ih =>
    rw [List.flatMap_cons, List.length_append, wtL_cons]
    have h1 := h x (by simp)
    have h2 := ih (fun y hy => h y (by simp [hy]))
    omega
theorem bndV_len {r : Rule} {n : Nat} (h : r.wt ≤ n) (m : Int) : (bndV r m).length ≤ 3 * n := by
  unfold bndV
  have h1 := flatMap_len (w := Cond.wt) (f := bnd1) (r.conds.take m.toNat) (fun c _ => by have := @bnd1_len c; omega)
  have h2 : wtL Cond.wt (r.conds.take m.toNat) ≤ wtL Cond.wt r.conds := by
    conv => rhs; rw [← List.take_append_drop m.toNat r.conds]
    rw [wtL_append]; omega
  have h3 := Rule.conds_le h
  omega
theorem sBoundL2 (a : Rule) (n : Int) (i : Nat) (y : List Bytes) (k : List Bytes → Option (List Bytes)) : ∀ (l : List Bytes) (j : Nat) (w : List Bytes), w.length + l.length ≤ 1099511627770 → d_spec_BoundVars_L2 a n i y k l j w = k (l.foldl putB w) := by
  intro l
  induction l with
  | nil => intro j w _; rfl
  | cons x l ih =>
    intro j w hw
    simp only [List.length_cons] at hw
    have := len_putB w x
    rw [d_spec_BoundVars_L2, sPut w x (by omega), Option.bind_some, ih _ _ (by omega)]; rfl
theorem sBoundL (a : Rule) (n : Int) (k : List Bytes → Option (List Bytes)) : ∀ (l : List Cond) (i : Nat) (acc : List Bytes), (∀ c ∈ l, c.wt ≤ 1048576) → acc.length + wtL Cond.wt l ≤ 2097152 →
    d_spec_BoundVars_L1 a n k l i (uniqS acc) = k (uniqS (acc ++ (l.take (n - (i : Int)).toNat).flatMap bnd1)) := by
  intro l
  induction l with
  | nil => intro i acc _ _; simp [d_spec_BoundVars_L1]
  | cons c l ih =>
    intro i acc hc hb
    rw [wtL_cons] at hb
    have hwt := hc c (by simp)
    have hv := varsB_len c.pat.args
    have ha := Fact.args_le (Cond.pat_le (Nat.le_refl c.wt))
    have hu := len_uniqS (varsB c.pat.args)
    have hu2 := len_uniqS acc
    rw [d_spec_BoundVars_L1, take_step]
    by_cases hi : (i : Int) < n
    · have e1 : decide (((i : Int) : Int) < n) = true := by simp [hi]
      rw [e1, cond_true, if_pos hi]
      by_cases hk : c.kind = 1
      · have e2 : ((c.kind : Int) == 1) = true := by simp [hk]
        rw [e2, cond_true, sVarsOf _ (Cond.pat_le hwt), Option.bind_some, lenOk (by omega), cond_true, sBoundL2 _ _ _ _ _ _ _ _ (by omega), uniqS_fold2, ih _ _ (fun x hx => hc x (by simp [hx])) (by simp; omega)]
        simp [bnd1, hk]
      · have e2 : ((c.kind : Int) == 1) = false := by simp [hk]
        rw [e2, cond_false, ih _ _ (fun x hx => hc x (by simp [hx])) (by omega)]
        simp [bnd1, hk]
    · have e1 : decide (((i : Int) : Int) < n) = false := by simp [hi]
      rw [e1, cond_false, if_neg hi]
      simp
theorem sBound (r : Rule) (n : Int) (h : r.wt ≤ 1048576) : d_spec_BoundVars r n = some (uniqS (bndV r n)) := by
  unfold d_spec_BoundVars
  have := sBoundL r n (fun q => some q) r.conds 0 [] (fun c hc => Rule.cond_le h hc) (by have := Rule.conds_le h; simp; omega)
  rw [show uniqS [] = [] from rfl] at this
  rw [this]
  simp [bndV]
theorem iBoundL (a : Rule) (n : Int) (k : List Bytes → Option (List Bytes)) : ∀ (l : List Cond) (i : Nat) (w : List Bytes), (∀ c ∈ l, c.wt ≤ 1048576) → w.length + wtL Cond.wt l ≤ 2097152 →
    d_impl_BoundVars_L1 a n k l i w = k (w ++ (l.take (n - (i : Int)).toNat).flatMap bnd1) := by
  intro l
  induction l with
  | nil => intro i w _ _; simp [d_impl_BoundVars_L1]
  | cons c l ih =>
    intro i w hc hb
    rw [wtL_cons] at hb
    have hwt := hc c (by simp)
    have hv := varsB_len c.pat.args
    have ha := Fact.args_le (Cond.pat_le (Nat.le_refl c.wt))
    rw [d_impl_BoundVars_L1, take_step]
    by_cases hi : (i : Int) < n
    · have e1 : decide (((i : Int) : Int) < n) = true := by simp [hi]
      rw [e1, cond_true, if_pos hi]
      by_cases hk : c.kind = 1
      · have e2 : ((c.kind : Int) == 1) = true := by simp [hk]
        rw [e2, cond_true, iVars _ (by omega) (fun x hx => Fact.arg_le (Cond.pat_le hwt) hx), Option.bind_some, roomA (by omega) (by decide), cond_true, ih _ _ (fun x hx => hc x (by simp [hx])) (by simp; omega)]
        simp [bnd1, hk]
      · have e2 : ((c.kind : Int) == 1) = false := by simp [hk]
        rw [e2, cond_false, ih _ _ (fun x hx => hc x (by simp [hx])) (by omega)]
        simp [bnd1, hk]
    · have e1 : decide (((i : Int) : Int) < n) = false := by simp [hi]
      rw [e1, cond_false, if_neg hi, ih _ _ (fun x hx => hc x (by simp [hx])) (by omega), show (n - ((i + 1 : Nat) : Int)).toNat = 0 from by omega]
      simp
theorem iBound (r : Rule) (n : Int) (h : r.wt ≤ 1048576) : d_impl_BoundVars r n = some (uniqS (bndV r n)) := by
  unfold d_impl_BoundVars
  have hl := bndV_len h n
  rw [iBoundL r n _ r.conds 0 [] (fun c hc => Rule.cond_le h hc) (by have := Rule.conds_le h; simp; omega)]
  have e : ([] : List Bytes) ++ (r.conds.take (n - ((0 : Nat) : Int)).toNat).flatMap bnd1 = bndV r n := by simp [bndV]
  rw [e, iSorted _ (by omega)]
  rfl
/-- all variables of the conditions; of the rule -/
def cndV (l : List Cond) : List Bytes := l.flatMap condV
def actV (l : List Action) : List Bytes := l.flatMap fun a => varsB a.pat.args
def rulV (r : Rule) : List Bytes := cndV r.conds ++ actV r.acts
theorem cndV_len (l : List Cond) : (cndV l).length ≤ 3 * wtL Cond.wt l := flatMap_len l (fun c _ => condV_len (Nat.le_refl _))
theorem sRuleVL2 (a : Rule) (i : Nat) (y : List Bytes) (k : List Bytes → Option (List Bytes)) : ∀ (l : List Bytes) (j : Nat) (w : List Bytes), w.length + l.length ≤ 1099511627770 → d_spec_RuleVars_L2 a i y k l j w = k (l.foldl putB w) := by
  intro l
  induction l with
  | nil => intro j w _; rfl
  | cons x l ih =>
    intro j w hw
    simp only [List.length_cons] at hw
    have := len_putB w x
    rw [d_spec_RuleVars_L2, sPut w x (by omega), Option.bind_some, ih _ _ (by omega)]; rfl
theorem sRuleVL4 (a : Rule) (i : Nat) (y : List Bytes) (k : List Bytes → Option (List Bytes)) : ∀ (l : List Bytes) (j : Nat) (w : List Bytes), w.length + l.length ≤ 1099511627770 → d_spec_RuleVars_L4 a i y k l j w = k (l.foldl putB w) := by
  intro l
  induction l with
  | nil => intro j w _; rfl
  | cons x l ih =>
    intro j w hw
    simp only [List.length_cons] at hw
    have := len_putB w x
    rw [d_spec_RuleVars_L4, sPut w x (by omega), Option.bind_some, ih _ _ (by omega)]; rfl
theorem sRuleVL1 (a : Rule) (k : List Bytes → Option (List Bytes)) : ∀ (l : List Cond) (i : Nat) (acc : List Bytes), (∀ c ∈ l, c.wt ≤ 1048576) → acc.length + 3 * wtL Cond.wt l ≤ 16777216 →
    d_spec_RuleVars_L1 a k l i (uniqS acc) = k (uniqS (acc ++ cndV l)) := by
  intro l
  induction l with
  | nil => intro i acc _ _; simp [d_spec_RuleVars_L1, cndV]
  | cons c l ih =>
    intro i acc hc hb
    rw [wtL_cons] at hb
    have hwt := hc c (by simp)
    have h1 := condV_len (Nat.le_refl c.wt)
    have hu := len_uniqS (condV c)
    have hu2 := len_uniqS acc
    rw [d_spec_RuleVars_L1, sCondV c hwt, Option.bind_some, lenOk (by omega), cond_true, sRuleVL2 _ _ _ _ _ _ _ (by omega), uniqS_fold2, ih _ _ (fun x hx => hc x (by simp [hx])) (by simp; omega)]
    simp [cndV]
theorem sRuleVL3 (a : Rule) (k : List Bytes → Option (List Bytes)) : ∀ (l : List Action) (i : Nat) (acc : List Bytes), (∀ c ∈ l, c.wt ≤ 1048576) → acc.length + 3 * wtL Action.wt l ≤ 16777216 →
    d_spec_RuleVars_L3 a k l i (uniqS acc) = k (uniqS (acc ++ actV l)) := by
  intro l
  induction l with
  | nil => intro i acc _ _; simp [d_spec_RuleVars_L3, actV]
  | cons c l ih =>
    intro i acc hc hb
    rw [wtL_cons] at hb
    have hwt := hc c (by simp)
    have h1 := varsB_len c.pat.args
    have h2 := Fact.args_le (Action.pat_le (Nat.le_refl c.wt))
    have hu := len_uniqS (varsB c.pat.args)
    have hu2 := len_uniqS acc
    rw [d_spec_RuleVars_L3, sVarsOf _ (Action.pat_le hwt), Option.bind_some, lenOk (by omega), cond_true, sRuleVL4 _ _ _ _ _ _ _ (by omega), uniqS_fold2, ih _ _ (fun x hx => hc x (by simp [hx])) (by simp; omega)]
    simp [actV]
theorem sRuleV (r : Rule) (h : r.wt ≤ 1048576) : d_spec_RuleVars r = some (uniqS (rulV r)) := by
  unfold d_spec_RuleVars
  have h3 := Rule.conds_le h; have h4 := Rule.acts_le h
  have hl := cndV_len r.conds
  have := sRuleVL1 r (fun q => d_spec_RuleVars_L3 r (fun q => some q) r.acts 0 q) r.conds 0 [] (fun c hc => Rule.cond_le h hc) (by simp; omega)
  rw [show uniqS [] = [] from rfl] at this
  rw [this]
  simp only [List.nil_append]
  rw [sRuleVL3 r _ r.acts 0 _ (fun c hc => Rule.act_le h hc) (by omega)]
  rfl
theorem iCndV (l : List Cond) (hc : ∀ c ∈ l, c.wt ≤ 1048576) (hb : wtL Cond.wt l ≤ 1048576) : d_impl_condVarsOf l = some (l.flatMap fun c => uniqS (condV c)) := by
  unfold d_impl_condVarsOf
  have : ∀ (r : List Cond) (i : Nat) (w : List Bytes), (∀ c ∈ r, c.wt ≤ 1048576) → w.length + 3 * wtL Cond.wt r ≤ 16777216 → d_impl_condVarsOf_L1 l (fun q => some q) r i w = some (w ++ r.flatMap fun c => uniqS (condV c)) := by
    intro r
    induction r with
    | nil => intro i w _ _; simp [d_impl_condVarsOf_L1]
    | cons c r ih =>
      intro i w hc hb
      rw [wtL_cons] at hb
      have h1 := condV_len (Nat.le_refl c.wt)
      have hu := len_uniqS (condV c)
      rw [d_impl_condVarsOf_L1, iCondV c (hc c (by simp)), Option.bind_some, roomA (by omega) (by decide), cond_true, ih _ _ (fun x hx => hc x (by simp [hx])) (by simp; omega)]
      simp
  exact this l 0 [] hc (by simp; omega)
theorem cndU_len (l : List Cond) : (l.flatMap fun c => uniqS (condV c)).length ≤ 3 * wtL Cond.wt l := flatMap_len l (fun c _ => by
  have h1 := condV_len (Nat.le_refl c.wt)
  have hu := len_uniqS (condV c)
  omega)
theorem cndU (l : List Cond) (b : List Bytes) : uniqS ((l.flatMap fun c => uniqS (condV c)) ++ b) = uniqS (cndV l ++ b) := uniqS_congr (fun x => by simp [cndV, mem_uniqS])
/-! when a rule is valid -/
def elsC (v : Bytes) (k : Int) : List Cond → Nat → Bool
  | [], _ => false
  | c :: cs, i => (decide (((i : Nat) : Int) ≠ k) && (condV c).contains v) || elsC v k cs (i + 1)
def elsB (r : Rule) (k : Int) (v : Bytes) : Bool := elsC v k r.conds 0 || r.acts.any fun a => (varsB a.pat.args).contains v
theorem contains_vars {l : List Bytes} {v : Bytes} (h : varB v = true) : l.contains v = (varsB l).contains v := by
  rw [Bool.eq_iff_iff]
  simp [varsB, h]
theorem sEls (r : Rule) (k : Int) (v : Bytes) (h : r.wt ≤ 1048576) : d_spec_l5Elsewhere r k v = some (elsB r k v) := by
  unfold d_spec_l5Elsewhere elsB
  have k2 : ∀ (l : List Action) (i : Nat), (∀ c ∈ l, c.wt ≤ 1048576) → d_spec_l5Elsewhere_L2 r v (some false) l i = some (l.any fun a => (varsB a.pat.args).contains v) := by
    intro l
    induction l with
    | nil => intro i _; rfl
    | cons a l ih =>
      intro i hc
      rw [d_spec_l5Elsewhere_L2, sVarsOf _ (Action.pat_le (hc a (by simp))), Option.bind_some, sHas, Option.bind_some, contains_uniqS, ih _ (fun x hx => hc x (by simp [hx])), List.any_cons]
      cases (varsB a.pat.args).contains v <;> rfl
  have k1 : ∀ (l : List Cond) (i : Nat), (∀ c ∈ l, c.wt ≤ 1048576) → d_spec_l5Elsewhere_L1 r k v (some (r.acts.any fun a => (varsB a.pat.args).contains v)) l i = some (elsC v k l i || r.acts.any fun a => (varsB a.pat.args).contains v) := by
    intro l
    induction l with
    | nil => intro i _; rfl
    | cons c l ih =>
      intro i hc
      rw [d_spec_l5Elsewhere_L1, sCondV _ (hc c (by simp)), Option.bind_some, sHas, Option.bind_some, contains_uniqS, ih _ (fun x hx => hc x (by simp [hx]))]
      simp only [elsC, bne, beq_dec]
      by_cases hi : ((i : Nat) : Int) = k
      · simp [hi]
      · cases (condV c).contains v <;> simp [hi]
  rw [k2 _ _ (fun c hc => Rule.act_le h hc), k1 _ _ (fun c hc => Rule.cond_le h hc)]
theorem iEls (r : Rule) (k : Int) (v : Bytes) (hv : varB v = true) (h : r.wt ≤ 1048576) : d_impl_occursElsewhere r k v = some (elsB r k v) := by
  unfold d_impl_occursElsewhere elsB
  have k2 : ∀ (l : List Action) (i : Nat), d_impl_occursElsewhere_L2 r v (some false) l i = some (l.any fun a => (varsB a.pat.args).contains v) := by
    intro l
    induction l with
    | nil => intro i; rfl
    | cons a l ih =>
      intro i
      rw [d_impl_occursElsewhere_L2, iHas, Option.bind_some, contains_vars hv, ih, List.any_cons]
      cases (varsB a.pat.args).contains v <;> rfl
  have k1 : ∀ (l : List Cond) (i : Nat), (∀ c ∈ l, c.wt ≤ 1048576) → d_impl_occursElsewhere_L1 r k v (some (r.acts.any fun a => (varsB a.pat.args).contains v)) l i = some (elsC v k l i || r.acts.any fun a => (varsB a.pat.args).contains v) := by
    intro l
    induction l with
    | nil => intro i _; rfl
    | cons c l ih =>
      intro i hc
      rw [d_impl_occursElsewhere_L1, iCondV _ (hc c (by simp)), Option.bind_some, iHas, Option.bind_some, contains_uniqS, ih _ (fun x hx => hc x (by simp [hx]))]
      simp only [elsC, bne, beq_dec]
      by_cases hi : ((i : Nat) : Int) = k
      · simp [hi]
      · cases (condV c).contains v <;> simp [hi]
  rw [k2, k1 _ _ (fun c hc => Rule.cond_le h hc)]
/-- a variable of a condition is bound as it should -/
def fitB (r : Rule) (i : Nat) (c : Cond) (v : Bytes) : Bool := decide (c.kind = 1) || (bndV r i).contains v || (decide (c.kind = 2) && !elsB r i v)
def condsB (r : Rule) : List Cond → Nat → Bool
  | [], _ => true
  | c :: cs, i => (condB c && (!decide (i = 0) || decide (c.kind = 1)) && (uniqS (condV c)).all (fitB r i c)) && condsB r cs (i + 1)
def actsB (r : Rule) : Bool := r.acts.all fun a => actB a && (varsB a.pat.args).all fun v => (bndV r r.conds.length).contains v
def ruleB (r : Rule) : Bool := nameB r.name && (decide (0 ≤ r.prio) && decide (r.prio ≤ 9)) && (decide (1 ≤ (r.conds.length : Int)) && decide ((r.conds.length : Int) ≤ 4)) && (decide (1 ≤ (r.acts.length : Int)) && decide ((r.acts.length : Int) ≤ 2)) &&
  (condsB r r.conds 0 && (actsB r && decide (((uniqS (cndV r.conds)).length : Int) ≤ 6)))
theorem all_uniqS (l : List Bytes) (p : Bytes → Bool) : (uniqS l).all p = l.all p := by
  rw [Bool.eq_iff_iff]
  simp [List.all_eq_true, mem_uniqS]
theorem bnd_sub (r : Rule) (n : Int) {v : Bytes} (h : v ∈ bndV r n) : v ∈ cndV r.conds := by
  unfold bndV at h
  obtain ⟨c, hc, hv⟩ := List.mem_flatMap.1 h
  refine List.mem_flatMap.2 ⟨c, List.mem_of_mem_take hc, ?_⟩
  unfold bnd1 at hv
  cases hk : decide (c.kind = 1) with
  | false => rw [hk] at hv; cases hv
  | true =>
    rw [hk] at hv
    simp only [cond_true] at hv
    unfold condV
    rw [varsB_app]
    exact List.mem_append.2 (.inl hv)
theorem actsB_vars {r : Rule} (h : actsB r = true) : uniqS (rulV r) = uniqS (cndV r.conds) := by
  refine uniqS_congr (fun x => ?_)
  unfold rulV
  simp only [List.mem_append]
  constructor
  · rintro (hx | hx)
    · exact hx
    · obtain ⟨a, ha, hv⟩ := List.mem_flatMap.1 hx
      unfold actsB at h
      have := List.all_eq_true.1 h a ha
      simp only [Bool.and_eq_true, List.all_eq_true] at this
      have := this.2 x hv
      exact bnd_sub r _ (by simpa using this)
  · exact .inl
theorem sRuleL2 (r : Rule) (y : List Bytes) (i : Nat) (c : Cond) (l : List Bytes) (k : Option Bool) (hc : c.wt ≤ 1048576) (hr : r.wt ≤ 1048576) (hcb : condB c = true) : ∀ (rest : List Bytes) (j : Nat), d_spec_IsRule_L2 r y i c (uniqS (bndV r i)) l k rest j = bif rest.all (fitB r i c) then k else some false := by
  have hk := condB_kind hcb
  intro rest
  induction rest with
  | nil => intro j; rfl
  | cons v rest ih =>
    intro j
    rw [d_spec_IsRule_L2, sHas, Option.bind_some, contains_uniqS, sTest c hc, Option.bind_some, sEls r _ v hr, Option.bind_some, ih, List.all_cons]
    unfold testB fitB
    rw [hcb]
    by_cases h1 : c.kind = 1
    · simp [h1]
    by_cases h2 : c.kind = 2
    · cases (bndV r i).contains v <;> cases elsB r i v <;> simp [h2]
    have h3 : c.kind ≥ 3 := by omega
    cases (bndV r i).contains v <;> simp [h1, h2, h3]
theorem sRuleL3 (r : Rule) (y : List Bytes) (i : Nat) (c : Cond) (l : List Bytes) (k : Option Bool) (hc : c.wt ≤ 1048576) (hr : r.wt ≤ 1048576) (hcb : condB c = true) : ∀ (rest : List Bytes) (j : Nat), d_spec_IsRule_L3 r y i c (uniqS (bndV r i)) l k rest j = bif rest.all (fitB r i c) then k else some false := by
  have hk := condB_kind hcb
  intro rest
  induction rest with
  | nil => intro j; rfl
  | cons v rest ih =>
    intro j
    rw [d_spec_IsRule_L3, sHas, Option.bind_some, contains_uniqS, sTest c hc, Option.bind_some, sEls r _ v hr, Option.bind_some, ih, List.all_cons]
    unfold testB fitB
    rw [hcb]
    by_cases h1 : c.kind = 1
    · simp [h1]
    by_cases h2 : c.kind = 2
    · cases (bndV r i).contains v <;> cases elsB r i v <;> simp [h2]
    have h3 : c.kind ≥ 3 := by omega
    cases (bndV r i).contains v <;> simp [h1, h2, h3]
theorem sRuleL1 (r : Rule) (y : List Bytes) (k : Option Bool) (hr : r.wt ≤ 1048576) : ∀ (rest : List Cond) (i : Nat), (∀ c ∈ rest, c.wt ≤ 1048576) → d_spec_IsRule_L1 r y k rest i = bif condsB r rest i then k else some false := by
  intro rest
  induction rest with
  | nil => intro i _; rfl
  | cons c rest ih =>
    intro i h
    have hc := h c (by simp)
    have hl := condV_len hc
    have hu := len_uniqS (condV c)
    rw [d_spec_IsRule_L1, sCond c hc, Option.bind_some, condsB]
    cases hcb : condB c with
    | false => rfl
    | true =>
      rw [sBound r _ hr, sCondV c hc, ih _ (fun x hx => h x (by simp [hx]))]
      simp only [Option.bind_some, lenOk (show (uniqS (condV c)).length ≤ 1099511627776 by omega), cond_true]
      rw [sRuleL2 r y i c _ _ hc hr hcb, sRuleL3 r y i c _ _ hc hr hcb]
      simp only [bne, beq_dec]
      have e0 : decide (((i : Int) : Int) = 0) = decide (i = 0) := by rw [Bool.eq_iff_iff]; simp
      rw [e0]
      cases decide (i = 0) <;> cases decide (c.kind = 1) <;> cases (uniqS (condV c)).all (fitB r i c) <;> simp
theorem sRuleL5 (r : Rule) (y : List Bytes) (i : Nat) (l : List Bytes) (k : Option Bool) : ∀ (rest : List Bytes) (j : Nat), d_spec_IsRule_L5 r y i l k rest j = bif rest.all (fun v => y.contains v) then k else some false :=
  fun rest j => allL (f := fun v => d_spec_l1HasText y v) (L := d_spec_IsRule_L5 r y i l k) (fun _ => rfl) (fun _ _ _ => rfl) rest j (fun v _ => sHas y v)
theorem sRuleL4 (r : Rule) (b : List Bytes) (k : Option Bool) : ∀ (rest : List Action) (i : Nat), (∀ a ∈ rest, a.wt ≤ 1048576) → d_spec_IsRule_L4 r (uniqS b) k rest i = bif rest.all (fun a => actB a && (varsB a.pat.args).all fun v => b.contains v) then k else some false := by
  intro rest
  induction rest with
  | nil => intro i _; rfl
  | cons a rest ih =>
    intro i h
    have ha := h a (by simp)
    have h1 := varsB_len a.pat.args
    have h2 := Fact.args_le (Action.pat_le ha)
    have hu := len_uniqS (varsB a.pat.args)
    rw [d_spec_IsRule_L4, sAct a ha, Option.bind_some, sVarsOf _ (Action.pat_le ha), Option.bind_some, lenOk (by omega), ih _ (fun x hx => h x (by simp [hx])), sRuleL5, List.all_cons, all_uniqS]
    have e : ((varsB a.pat.args).all fun v => (uniqS b).contains v) = (varsB a.pat.args).all fun v => b.contains v := by
      congr 1; funext v; exact contains_uniqS b v
    rw [e]
    cases actB a <;> cases (varsB a.pat.args).all (fun v => b.contains v) <;> simp
theorem sRule (r : Rule) (h : r.wt ≤ 1048576) : d_spec_IsRule r = some (ruleB r) := by
  unfold d_spec_IsRule
  simp only [sName _ (Rule.name_le h), Option.bind_some, in_eq, List.length_map]
  rw [sBound r _ h]
  simp only [Option.bind_some]
  rw [sRuleL1 r _ _ h _ _ (fun c hc => Rule.cond_le h hc), sRuleL4 r _ _ _ _ (fun a ha => Rule.act_le h ha), sRuleV r h]
  simp only [Option.bind_some, List.length_map]
  have hab : (r.acts.all fun a => actB a && (varsB a.pat.args).all fun v => (bndV r r.conds.length).contains v) = actsB r := rfl
  rw [hab]
  unfold ruleB
  have g1 : decide (r.prio ≥ 0) = decide (0 ≤ r.prio) := rfl
  have g2 : decide ((r.conds.length : Int) ≥ 1) = decide (1 ≤ (r.conds.length : Int)) := rfl
  have g3 : decide ((r.acts.length : Int) ≥ 1) = decide (1 ≤ (r.acts.length : Int)) := rfl
  rw [g1, g2, g3]
  cases ha : actsB r with
  | false => cases nameB r.name <;> cases (decide (0 ≤ r.prio) && decide (r.prio ≤ 9)) <;> cases (decide (1 ≤ (r.conds.length : Int)) && decide ((r.conds.length : Int) ≤ 4)) <;> cases (decide (1 ≤ (r.acts.length : Int)) && decide ((r.acts.length : Int) ≤ 2)) <;> cases condsB r r.conds 0 <;> rfl
  | true =>
    rw [actsB_vars ha]
    cases nameB r.name <;> cases (decide (0 ≤ r.prio) && decide (r.prio ≤ 9)) <;> cases (decide (1 ≤ (r.conds.length : Int)) && decide ((r.conds.length : Int) ≤ 4)) <;> cases (decide (1 ≤ (r.acts.length : Int)) && decide ((r.acts.length : Int) ≤ 2)) <;> cases condsB r r.conds 0 <;> simp
theorem iFitsL (r : Rule) (i : Nat) (c : Cond) (l : List Bytes) (k : Option Bool) (hr : r.wt ≤ 1048576) (hcb : condB c = true) : ∀ (rest : List Bytes) (j : Nat), (∀ v ∈ rest, varB v = true) → d_impl_condFits_L1 r (i : Int) c (uniqS (bndV r i)) l k rest j = bif rest.all (fitB r i c) then k else some false := by
  have hk := condB_kind hcb
  intro rest
  induction rest with
  | nil => intro j _; rfl
  | cons v rest ih =>
    intro j hv
    rw [d_impl_condFits_L1, iHas, Option.bind_some, contains_uniqS, iEls r _ v (hv v (by simp)) hr, Option.bind_some, ih _ (fun x hx => hv x (by simp [hx])), List.all_cons]
    unfold fitB
    simp only [bne, beq_dec]
    by_cases h1 : c.kind = 1
    · simp [h1]
    by_cases h2 : c.kind = 2
    · cases (bndV r i).contains v <;> cases elsB r i v <;> simp [h2]
    cases (bndV r i).contains v <;> simp [h1, h2]
theorem iFits (r : Rule) (i : Nat) (c : Cond) (hr : r.wt ≤ 1048576) (hi : r.conds[i]? = some c) (hcb : condB c = true) : d_impl_condFits r (i : Int) = some ((uniqS (condV c)).all (fitB r i c)) := by
  unfold d_impl_condFits
  have hc := Rule.cond_le hr (List.mem_of_getElem? hi)
  have hl := condV_len hc
  have hu := len_uniqS (condV c)
  have e : atI r.conds (i : Int) = some c := by unfold atI; simp [hi]
  rw [e, Option.bind_some, iBound r _ hr, Option.bind_some, iCondV c hc, Option.bind_some, lenOk (by omega), cond_true, iFitsL r i c _ _ hr hcb _ _ (fun v hv => by
    rw [mem_uniqS] at hv
    unfold condV varsB at hv
    exact (List.mem_filter.1 hv).2)]
  cases (uniqS (condV c)).all (fitB r i c) <;> rfl
theorem iRuleL1 (r : Rule) (k : Option Bool) (hr : r.wt ≤ 1048576) : ∀ (rest pre : List Cond), r.conds = pre ++ rest → d_impl_IsRule_L1 r k rest pre.length = bif condsB r rest pre.length then k else some false := by
  intro rest
  induction rest with
  | nil => intro pre _; rfl
  | cons c rest ih =>
    intro pre h
    have hm : c ∈ r.conds := by rw [h]; simp
    have hc := Rule.cond_le hr hm
    have hi : r.conds[pre.length]? = some c := by rw [h]; simp
    have t := ih (pre ++ [c]) (by rw [h]; simp)
    simp only [List.length_append, List.length_cons, List.length_nil] at t
    rw [d_impl_IsRule_L1, iCond c hc, Option.bind_some, condsB]
    cases hcb : condB c with
    | false => rfl
    | true =>
      rw [iFits r _ c hr hi hcb, Option.bind_some, t]
      simp only [bne, beq_dec]
      have e0 : decide ((((pre.length : Nat) : Int) : Int) = 0) = decide (pre.length = 0) := by rw [Bool.eq_iff_iff]; simp
      rw [e0]
      cases decide (pre.length = 0) <;> cases decide (c.kind = 1) <;> cases (uniqS (condV c)).all (fitB r pre.length c) <;> simp
theorem iRuleL3 (r : Rule) (y : List Bytes) (i : Nat) (l : List Bytes) (k : Option Bool) : ∀ (rest : List Bytes) (j : Nat), d_impl_IsRule_L3 r y i l k rest j = bif rest.all (fun v => y.contains v) then k else some false :=
  fun rest j => allL (f := fun v => d_impl_hasText y v) (L := d_impl_IsRule_L3 r y i l k) (fun _ => rfl) (fun _ _ _ => rfl) rest j (fun v _ => iHas y v)
theorem iRuleL2 (r : Rule) (b : List Bytes) (k : Option Bool) : ∀ (rest : List Action) (i : Nat), (∀ a ∈ rest, a.wt ≤ 1048576) → d_impl_IsRule_L2 r (uniqS b) k rest i = bif rest.all (fun a => actB a && (varsB a.pat.args).all fun v => b.contains v) then k else some false := by
  intro rest
  induction rest with
  | nil => intro i _; rfl
  | cons a rest ih =>
    intro i h
    have ha := h a (by simp)
    have h1 := varsB_len a.pat.args
    have h2 := Fact.args_le (Action.pat_le ha)
    rw [d_impl_IsRule_L2, iAct a ha, Option.bind_some, iVars _ (by omega) (fun x hx => Fact.arg_le (Action.pat_le ha) hx), Option.bind_some, lenOk (by omega), ih _ (fun x hx => h x (by simp [hx])), iRuleL3, List.all_cons]
    have e : ((varsB a.pat.args).all fun v => (uniqS b).contains v) = (varsB a.pat.args).all fun v => b.contains v := by
      congr 1; funext v; exact contains_uniqS b v
    rw [e]
    cases actB a <;> cases (varsB a.pat.args).all (fun v => b.contains v) <;> simp
theorem iRule (r : Rule) (h : r.wt ≤ 1048576) : d_impl_IsRule r = some (ruleB r) := by
  unfold d_impl_IsRule
  have hcu := cndU_len r.conds
  have hcl := Rule.conds_le h
  rw [show d_impl_IsRule_L1 r _ r.conds 0 = _ from iRuleL1 r _ h r.conds [] rfl, iBound r _ h, Option.bind_some, iRuleL2 r _ _ _ _ (fun a ha => Rule.act_le h ha), iCndV _ (fun c hc => Rule.cond_le h hc) hcl, Option.bind_some, iSorted _ (by omega), iName _ (Rule.name_le h)]
  have e := cndU r.conds []
  simp only [List.append_nil] at e
  rw [e]
  simp only [Option.bind_some, List.length_map, List.length_nil]
  have hab : (r.acts.all fun a => actB a && (varsB a.pat.args).all fun v => (bndV r r.conds.length).contains v) = actsB r := rfl
  rw [hab]
  unfold ruleB
  have g1 : decide (0 ≤ r.prio) = !decide (r.prio < 0) := by rw [Bool.eq_iff_iff]; simp
  have g2 : decide (r.prio ≤ 9) = !decide (r.prio > 9) := by rw [Bool.eq_iff_iff]; simp
  have g3 : decide (1 ≤ (r.conds.length : Int)) = !decide ((r.conds.length : Int) < 1) := by rw [Bool.eq_iff_iff]; simp
  have g4 : decide ((r.conds.length : Int) ≤ 4) = !decide ((r.conds.length : Int) > 4) := by rw [Bool.eq_iff_iff]; simp
  have g5 : decide (1 ≤ (r.acts.length : Int)) = !decide ((r.acts.length : Int) < 1) := by rw [Bool.eq_iff_iff]; simp
  have g6 : decide ((r.acts.length : Int) ≤ 2) = !decide ((r.acts.length : Int) > 2) := by rw [Bool.eq_iff_iff]; simp
  rw [g1, g2, g3, g4, g5, g6]
  cases nameB r.name
  · rfl
  cases decide (r.prio < 0)
  case true => rfl
  cases decide (r.prio > 9)
  case true => rfl
  cases decide ((r.conds.length : Int) < 1)
  case true => rfl
  cases decide ((r.conds.length : Int) > 4)
  case true => rfl
  cases decide ((r.acts.length : Int) < 1)
  case true => rfl
  cases decide ((r.acts.length : Int) > 2)
  case true => rfl
  cases condsB r r.conds 0
  · rfl
  cases actsB r
  · rfl
  simp
/-- the place of a rule's name -/
def findR (name : Bytes) : List Rule → Nat → Int
  | [], _ => -1
  | r :: rs, i => bif r.name == name then (i : Int) else findR name rs (i + 1)
def areL (all : List Rule) : List Rule → Nat → Bool
  | [], _ => true
  | r :: rs, i => (ruleB r && decide (findR r.name all 0 = (i : Int))) && areL all rs (i + 1)
def areB (l : List Rule) : Bool := areL l l 0 && decide ((l.length : Int) ≤ 6)
theorem sFind (l : List Rule) (n : Bytes) : d_spec_FindRule l n = some (findR n l 0) := by
  unfold d_spec_FindRule
  have : ∀ (r : List Rule) (i : Nat), d_spec_FindRule_L1 l n (some (-1)) r i = some (findR n r i) := by
    intro r
    induction r with
    | nil => intro i; rfl
    | cons x r ih => intro i; rw [d_spec_FindRule_L1, ih, findR]; cases x.name == n <;> rfl
  exact this l 0
theorem iFind (l : List Rule) (n : Bytes) : d_impl_FindRule l n = some (findR n l 0) := by
  unfold d_impl_FindRule
  have : ∀ (r : List Rule) (i : Nat), d_impl_FindRule_L1 l n (some (-1)) r i = some (findR n r i) := by
    intro r
    induction r with
    | nil => intro i; rfl
    | cons x r ih => intro i; rw [d_impl_FindRule_L1, ih, findR]; cases x.name == n <;> rfl
  exact this l 0
theorem sAre (l : List Rule) (h : wtL Rule.wt l ≤ 1048576) : d_spec_AreRules l = some (areB l) := by
  unfold d_spec_AreRules
  have : ∀ (r : List Rule) (i : Nat) (k : Option Bool), (∀ x ∈ r, x.wt ≤ 1048576) → d_spec_AreRules_L1 l k r i = bif areL l r i then k else some false := by
    intro r
    induction r with
    | nil => intro i k _; rfl
    | cons x r ih =>
      intro i k hx
      rw [d_spec_AreRules_L1, sRule x (hx x (by simp)), Option.bind_some, sFind, Option.bind_some, ih _ _ (fun y hy => hx y (by simp [hy])), areL]
      simp only [bne, beq_dec]
      cases ruleB x <;> cases decide (findR x.name l 0 = (i : Int)) <;> simp
  rw [this _ _ _ (fun x hx => by have := wtL_mem (w := Rule.wt) hx; omega), List.length_map, areB]
  cases areL l l 0 <;> rfl
theorem iAre (l : List Rule) (h : wtL Rule.wt l ≤ 1048576) : d_impl_AreRules l = some (areB l) := by
  unfold d_impl_AreRules
  have : ∀ (r : List Rule) (i : Nat) (k : Option Bool), (∀ x ∈ r, x.wt ≤ 1048576) → d_impl_AreRules_L1 l k r i = bif areL l r i then k else some false := by
    intro r
    induction r with
    | nil => intro i k _; rfl
    | cons x r ih =>
      intro i k hx
      rw [d_impl_AreRules_L1, iRule x (hx x (by simp)), Option.bind_some, iFind, Option.bind_some, ih _ _ (fun y hy => hx y (by simp [hy])), areL]
      simp only [bne, beq_dec]
      cases ruleB x <;> cases decide (findR x.name l 0 = (i : Int)) <;> simp
  rw [this _ _ _ (fun x hx => by have := wtL_mem (w := Rule.wt) hx; omega), List.length_map, areB]
  have g : decide ((l.length : Int) ≤ 6) = !decide ((l.length : Int) > 6) := by rw [Bool.eq_iff_iff]; simp
  rw [g]
  cases areL l l 0 <;> cases decide ((l.length : Int) > 6) <;> rfl
end Go.Cx

/- Comparing rules and networks, stamps and times, in plain words. No condition but bounds on sizes. -/
namespace Go.Cx
open Go.RowKit Go.Proofs
set_option linter.unusedVariables false
set_option linter.unusedSimpArgs false
end Go.Cx

/- Reading numbers, and the orders of atoms, facts and tokens, in plain words: of the program and of the reference. No condition but bounds on sizes. -/
namespace Go.Cx
open Go.RowKit Go.Proofs
set_option linter.unusedVariables false
set_option linter.unusedSimpArgs false
/-! numbers -/
/-! orders -/
/-! fact sets -/
end Go.Cx

/- Bindings, matching, conditions that hold, and tokens in plain words: of the program and of the reference. No condition but bounds on sizes. -/
namespace Go.Cx
open Go.RowKit Go.Proofs
set_option linter.unusedVariables false
set_option linter.unusedSimpArgs false
/-! bindings -/
def PB (b : List Pair) : Prop := b.length ≤ 1048576 ∧ ∀ x ∈ b, x.var.length ≤ 1048576 ∧ x.value.length ≤ 1048576
theorem PB.nil : PB [] := ⟨by simp, by simp⟩
def chainP : Option Pair → List Pair → Bool
  | _, [] => true
  | p, x :: xs => varB x.var && (atomB x.value && ((match p with | some q => Op.bytesLess q.var x.var | none => true) && chainP (some x) xs))
def bindB (b : List Pair) : Bool := chainP none b && decide (b.length ≤ 6)
theorem bindB_len {b : List Pair} (h : bindB b = true) : b.length ≤ 6 := by
  unfold bindB at h
  simp only [Bool.and_eq_true, decide_eq_true_eq] at h
  exact h.2
def findP (t : Bytes) : List Pair → Option Bytes
  | [] => none
  | x :: xs => bif x.var == t then some x.value else findP t xs
def setP (v val : Bytes) : List Pair → List Pair
  | [] => [⟨v, val⟩]
  | x :: xs => bif !(Op.bytesLess x.var v || x.var == v) then ⟨v, val⟩ :: x :: xs else x :: setP v val xs
theorem setP_len (v val : Bytes) (b : List Pair) : (setP v val b).length = b.length + 1 := by
  induction b with
  | nil => rfl
  | cons x xs ih => simp only [setP]; cases !(Op.bytesLess x.var v || x.var == v) <;> simp [ih]
theorem setP_mem (v val : Bytes) (b : List Pair) {x : Pair} (h : x ∈ setP v val b) : x = ⟨v, val⟩ ∨ x ∈ b := by
  induction b with
  | nil => simp [setP] at h; exact .inl h
  | cons y ys ih =>
    simp only [setP] at h
    cases hc : !(Op.bytesLess y.var v || y.var == v) with
    | true =>
      rw [hc, cond_true] at h
      rcases List.mem_cons.1 h with h | h
      · exact .inl h
      · exact .inr h
    | false =>
      rw [hc, cond_false] at h
      rcases List.mem_cons.1 h with h | h
      · exact .inr (by simp [h])
      · rcases ih h with h | h
        · exact .inl h
        · exact .inr (by simp [h])
/-! matching -/
/-! tests, and conditions that hold -/
def FS (fs : List Fact) : Prop := fs.length ≤ 1048576 ∧ ∀ f ∈ fs, f.wt ≤ 1048576
theorem FS.of {fs : List Fact} (h : wtL Fact.wt fs ≤ 1048576) : FS fs := ⟨by have := wtL_len Fact.wt fs; omega, fun f hf => by have := wtL_mem (w := Fact.wt) hf; omega⟩
end Go.Cx

/- Patterns that cover, and patterns that match, as maps of terms: what covers matches more, and patterns that cover each other have one shape. No condition but bounds on sizes. -/
namespace Go.Cx
open Go.RowKit Go.Proofs
set_option linter.unusedVariables false
set_option linter.unusedSimpArgs false
/-- a map of terms that leaves atoms alone -/
def Fix (h : Bytes → Bytes) : Prop := ∀ y, atomB y = true → h y = y
/-! matching as a map of terms -/
theorem findP_mem {t o : Bytes} : ∀ {w : List Pair}, findP t w = some o → ∃ p ∈ w, p.var = t ∧ p.value = o
  | x :: xs, h => by
    rw [findP] at h
    cases hx : x.var == t with
    | true => rw [hx, cond_true] at h; cases h; exact ⟨x, by simp, by simpa using hx, rfl⟩
    | false =>
      rw [hx, cond_false] at h
      obtain ⟨p, hp, h1⟩ := findP_mem h
      exact ⟨p, by simp [hp], h1⟩
theorem findP_none {t : Bytes} : ∀ {w : List Pair}, findP t w = none → ∀ p ∈ w, p.var ≠ t
  | x :: xs, h, p, hp => by
    rw [findP] at h
    cases hx : x.var == t with
    | true => rw [hx] at h; cases h
    | false =>
      rw [hx, cond_false] at h
      rcases List.mem_cons.1 hp with rfl | hp
      · simpa using hx
      · exact findP_none h p hp
theorem chainP_cons (p : Option Pair) (x : Pair) (xs : List Pair) : chainP p (x :: xs) = (varB x.var && (atomB x.value && ((match p with | some q => Op.bytesLess q.var x.var | none => true) && chainP (some x) xs))) := by
  cases p <;> rfl
theorem chain_set {v val : Bytes} (hv : varB v = true) (ha : atomB val = true) : ∀ (w : List Pair) (p : Option Pair), chainP p w = true → findP v w = none → (∀ q, p = some q → Op.bytesLess q.var v = true) → chainP p (setP v val w) = true
  | [], p, _, _, hp => by
    simp only [setP, chainP, hv, ha, Bool.true_and, Bool.and_true]
    cases p with
    | none => rfl
    | some q => exact hp q rfl
  | x :: xs, p, hc, hf, hp => by
    rw [chainP_cons] at hc
    simp only [Bool.and_eq_true] at hc
    obtain ⟨c1, c2, c3, c4⟩ := hc
    rw [findP] at hf
    cases hx : x.var == v with
    | true => rw [hx] at hf; cases hf
    | false =>
      rw [hx, cond_false] at hf
      rw [setP, hx, Bool.or_false]
      cases hl : Op.bytesLess x.var v with
      | true =>
        rw [Bool.not_true, cond_false, chainP_cons]
        simp only [Bool.and_eq_true]
        exact ⟨c1, c2, c3, chain_set hv ha xs (some x) c4 hf (fun q hq => by cases hq; exact hl)⟩
      | false =>
        have h2 : Op.bytesLess v x.var = true := by
          cases h3 : Op.bytesLess v x.var with
          | true => rfl
          | false =>
            have := bl_tri hl h3
            rw [this] at hx; simp at hx
        rw [Bool.not_false, cond_true, chainP_cons]
        simp only [Bool.and_eq_true]
        refine ⟨hv, ha, ?_, ?_⟩
        · cases p with
          | none => rfl
          | some q => exact hp q rfl
        · rw [chainP_cons]
          simp only [Bool.and_eq_true]
          exact ⟨c1, c2, h2, c4⟩
theorem bind_set {v val : Bytes} {w : List Pair} (hv : varB v = true) (ha : atomB val = true) (hb : bindB w = true) (hf : findP v w = none) (hl : w.length ≠ 6) : bindB (setP v val w) = true := by
  have h6 := bindB_len hb
  unfold bindB at hb ⊢
  rw [Bool.and_eq_true] at hb ⊢
  exact ⟨chain_set hv ha w none hb.1 hf (fun q h => by cases h), by rw [setP_len]; simp; omega⟩
/-! patterns that cover each other have one shape -/
theorem term_of {p : Fact} (h : patB p = true) : ∀ t ∈ p.args, termB t = true := by
  unfold patB at h
  rw [Bool.and_eq_true] at h
  exact fun t ht => List.all_eq_true.1 h.1 t ht
end Go.Cx

/- Tokens, their numbers and matches in plain words: of the program and of the reference. No condition but bounds on sizes. -/
namespace Go.Cx
open Go.RowKit Go.Proofs
set_option linter.unusedVariables false
set_option linter.unusedSimpArgs false
/-! copies -/
/-! one more condition -/
def TK (n : Nat) (t : Token) : Prop := t.facts.length ≤ n ∧ (∀ f ∈ t.facts, f.wt ≤ 1048576) ∧ PB t.bind
theorem TK.le {n m : Nat} {t : Token} (h : TK n t) (hm : n ≤ m) : TK m t := ⟨by have := h.1; omega, h.2⟩
/-! of a rule -/
theorem ruleB_len {r : Rule} (h : ruleB r = true) : r.conds.length ≤ 4 := by
  unfold ruleB at h
  simp only [Bool.and_eq_true, decide_eq_true_eq] at h
  omega
theorem condsB_mem {r : Rule} : ∀ {l : List Cond} {i : Nat}, condsB r l i = true → ∀ c ∈ l, condB c = true
  | [], _, _, c, hc => by cases hc
  | x :: xs, i, h, c, hc => by
    simp only [condsB, Bool.and_eq_true] at h
    rcases List.mem_cons.1 hc with rfl | hc
    · exact h.1.1.1
    · exact condsB_mem h.2 c hc
theorem ruleB_conds {r : Rule} (h : ruleB r = true) : ∀ c ∈ r.conds, condB c = true := by
  unfold ruleB at h
  simp only [Bool.and_eq_true] at h
  exact condsB_mem h.2.1
/-! matches -/
/-! plain tries -/
theorem areL_mem {all : List Rule} : ∀ {l : List Rule} {i : Nat}, areL all l i = true → ∀ r ∈ l, ruleB r = true
  | [], _, _, r, hr => by cases hr
  | x :: xs, i, h, r, hr => by
    simp only [areL, Bool.and_eq_true] at h
    rcases List.mem_cons.1 hr with rfl | hr
    · exact h.1.1
    · exact areL_mem h.2 r hr
theorem areB_mem {l : List Rule} (h : areB l = true) : ∀ r ∈ l, ruleB r = true := by
  unfold areB at h
  simp only [Bool.and_eq_true] at h
  exact areL_mem h.1
end Go.Cx

/- Bindings and matching, seen through what they look up. No condition. -/
namespace Go.Cx
open Go.RowKit Go.Proofs
set_option linter.unusedVariables false
set_option linter.unusedSimpArgs false
theorem nodup_sub : ∀ (a b : List Bytes), a.Nodup → (∀ x ∈ a, x ∈ b) → a.length ≤ b.length
  | [], b, _, _ => Nat.zero_le _
  | x :: xs, b, hn, hs => by
    rw [List.nodup_cons] at hn
    have h1 := nodup_sub xs (b.erase x) hn.2 fun y hy => (List.mem_erase_of_ne (fun e => hn.1 (by rw [← e]; exact hy))).2 (hs y (by simp [hy]))
    have h2 := List.length_erase_of_mem (hs x (by simp))
    have h3 : 0 < b.length := List.length_pos_of_mem (hs x (by simp))
    simp only [List.length_cons]; omega
theorem ruleB_six {r : Rule} (h : ruleB r = true) : (uniqS (cndV r.conds)).length ≤ 6 := by
  unfold ruleB at h
  simp only [Bool.and_eq_true, decide_eq_true_eq] at h
  omega
theorem condB_pat {c : Cond} (hc : condB c = true) (hk : c.kind = 1 ∨ c.kind = 2) : patB c.pat = true ∧ c.left = [] ∧ c.right = [] := by
  unfold condB at hc
  have : (decide (c.kind = 1) || decide (c.kind = 2)) = true := by simpa using hk
  rw [this, cond_true] at hc
  simp only [Bool.and_eq_true, beq_iff_eq] at hc
  exact ⟨hc.1, hc.2.1, hc.2.2⟩
theorem condB_term {c : Cond} (hc : condB c = true) (h1 : c.kind ≠ 1) (h2 : c.kind ≠ 2) : (decide (c.kind = 3) || decide (c.kind = 4) || decide (c.kind = 5)) = true ∧ zeroB c.pat = true ∧ termB c.left = true ∧ termB c.right = true := by
  unfold condB at hc
  rw [decide_eq_false h1, decide_eq_false h2, Bool.or_false, cond_false] at hc
  cases h : (decide (c.kind = 3) || decide (c.kind = 4) || decide (c.kind = 5)) with
  | false => rw [h] at hc; cases hc
  | true =>
    rw [h, cond_true] at hc
    simp only [Bool.and_eq_true] at hc
    exact ⟨rfl, hc.1, hc.2.1, hc.2.2⟩
/-! a sorted binding is what it looks up -/
theorem chainP_none {p : Option Pair} {b : List Pair} (h : chainP p b = true) : chainP none b = true := by
  cases b with
  | nil => rfl
  | cons x xs =>
    rw [chainP_cons] at h ⊢
    simp only [Bool.and_eq_true] at h ⊢
    first | exact ⟨h.1, h.2.1, rfl, h.2.2.2⟩ | exact ⟨h.1, h.2.1, h.2.2.2⟩ | exact ⟨h.1, h.2.1, trivial, h.2.2.2⟩
theorem chain_lt : ∀ {b : List Pair} {p : Pair}, chainP (some p) b = true → ∀ x ∈ b, Op.bytesLess p.var x.var = true
  | y :: ys, p, h, x, hx => by
    rw [chainP_cons] at h
    simp only [Bool.and_eq_true] at h
    rcases List.mem_cons.1 hx with rfl | hx
    · exact h.2.2.1
    · exact bl_trans h.2.2.1 (chain_lt h.2.2.2 x hx)
theorem chain_nodup : ∀ {b : List Pair} {p : Option Pair}, chainP p b = true → (b.map Pair.var).Nodup
  | [], _, _ => by simp
  | x :: xs, p, h => by
    rw [chainP_cons] at h
    simp only [Bool.and_eq_true] at h
    rw [List.map_cons, List.nodup_cons]
    refine ⟨fun hm => ?_, chain_nodup h.2.2.2⟩
    obtain ⟨q, hq, e⟩ := List.mem_map.1 hm
    have := chain_lt h.2.2.2 q hq
    rw [e, bl_irrefl] at this; cases this
theorem bindB_chain {b : List Pair} (h : bindB b = true) : chainP none b = true := by
  unfold bindB at h; rw [Bool.and_eq_true] at h; exact h.1
theorem chain_mem : ∀ {b : List Pair} {p : Option Pair}, chainP p b = true → ∀ x ∈ b, varB x.var = true ∧ atomB x.value = true
  | y :: ys, p, h, x, hx => by
    rw [chainP_cons] at h
    simp only [Bool.and_eq_true] at h
    rcases List.mem_cons.1 hx with rfl | hx
    · exact ⟨h.1, h.2.1⟩
    · exact chain_mem h.2.2.2 x hx
theorem chain_ext : ∀ {a b : List Pair}, chainP none a = true → chainP none b = true → (∀ v, findP v a = findP v b) → a = b
  | [], [], _, _, _ => rfl
  | [], y :: ys, _, _, h => by have := h y.var; simp [findP] at this
  | x :: xs, [], _, _, h => by have := h x.var; simp [findP] at this
  | x :: xs, y :: ys, ha, hb, h => by
    have ha0 := ha
    have hb0 := hb
    rw [chainP_cons] at ha hb
    simp only [Bool.and_eq_true] at ha hb
    have key : ∀ {u v : Pair} {us vs : List Pair}, chainP (some u) us = true → chainP (some v) vs = true → (∀ t, findP t (u :: us) = findP t (v :: vs)) → Op.bytesLess u.var v.var = false := by
      intro u v us vs hu hv ht
      cases hl : Op.bytesLess u.var v.var with
      | false => rfl
      | true =>
        have h1 := ht u.var
        rw [show findP u.var (u :: us) = some u.value by simp [findP]] at h1
        obtain ⟨q, hq, e, _⟩ := findP_mem h1.symm
        rcases List.mem_cons.1 hq with rfl | hq
        · rw [e, bl_irrefl] at hl; cases hl
        · have := bl_trans hl (chain_lt hv q hq)
          rw [e, bl_irrefl] at this; cases this
    have e1 := key ha.2.2.2 hb.2.2.2 h
    have e2 := key hb.2.2.2 ha.2.2.2 (fun t => (h t).symm)
    have ev : x.var = y.var := bl_tri e1 e2
    have e3 : x.value = y.value := by
      have := h x.var
      rw [show findP x.var (x :: xs) = some x.value by simp [findP], show findP x.var (y :: ys) = some y.value by simp [findP, ev]] at this
      exact Option.some.inj this
    have e4 : x = y := by cases x; cases y; cases ev; cases e3; rfl
    subst e4
    congr 1
    refine chain_ext (chainP_none ha.2.2.2) (chainP_none hb.2.2.2) fun v => ?_
    by_cases hv : x.var = v
    · have n1 : ∀ {l : List Pair}, chainP (some x) l = true → findP v l = none := by
        intro l hl
        cases hf : findP v l with
        | none => rfl
        | some o =>
          obtain ⟨q, hq, e, _⟩ := findP_mem hf
          have := chain_lt hl q hq
          rw [hv, e, bl_irrefl] at this; cases this
      rw [n1 ha.2.2.2, n1 hb.2.2.2]
    · have := h v
      have hne : (x.var == v) = false := by rw [beq_eq_false_iff_ne]; exact hv
      rw [findP, findP, hne, cond_false, cond_false] at this
      exact this
/-! bindings of the variables U -/
structure WB (U : List Bytes) (b : List Pair) : Prop where
  ok : bindB b = true
  sub : ∀ p ∈ b, p.var ∈ U
theorem WB.nil (U : List Bytes) : WB U [] := ⟨rfl, fun p h => by cases h⟩
theorem WB.room {U : List Bytes} (hU : U.length ≤ 6) {b : List Pair} (h : WB U b) {x : Bytes} (hx : x ∈ U) (hf : findP x b = none) : b.length ≠ 6 := by
  have h1 : (x :: b.map Pair.var).length ≤ U.length := nodup_sub _ _ (by
    rw [List.nodup_cons]
    refine ⟨fun hm => ?_, chain_nodup (bindB_chain h.ok)⟩
    obtain ⟨p, hp, e⟩ := List.mem_map.1 hm
    exact findP_none hf p hp e) (fun y hy => by
    rcases List.mem_cons.1 hy with rfl | hy
    · exact hx
    · obtain ⟨p, hp, rfl⟩ := List.mem_map.1 hy; exact h.sub p hp)
  simp only [List.length_cons, List.length_map] at h1
  omega
theorem WB.set {U : List Bytes} (hU : U.length ≤ 6) {b : List Pair} (h : WB U b) {x y : Bytes} (hx : x ∈ U) (hv : varB x = true) (ha : atomB y = true) (hf : findP x b = none) : WB U (setP x y b) :=
  ⟨bind_set hv ha h.ok hf (h.room hU hx hf), fun p hp => by
    rcases setP_mem x y b hp with e | e
    · rw [e]; exact hx
    · exact h.sub p e⟩
theorem WB.ext {U : List Bytes} {a b : List Pair} (ha : WB U a) (hb : WB U b) (h : ∀ v, findP v a = findP v b) : a = b := chain_ext (bindB_chain ha.ok) (bindB_chain hb.ok) h
/-- the assignment h says all of b -/
def Says (h : Bytes → Bytes) (b : List Pair) : Prop := ∀ v o, findP v b = some o → h v = o
/-! a pattern and a fact -/
theorem Says.of {b : List Pair} {U : List Bytes} (hb : WB U b) : Says (fun y => (findP y b).getD y) b ∧ Fix (fun y => (findP y b).getD y) := by
  refine ⟨fun v o ho => by simp [ho], fun y hy => ?_⟩
  cases hf : findP y b with
  | none => simp [hf]
  | some o =>
    obtain ⟨p, hp, h1, _⟩ := findP_mem hf
    have := (chain_mem (bindB_chain hb.ok) p hp).1
    rw [h1] at this
    rw [var_not_atom this] at hy; cases hy
theorem WB.key {U : List Bytes} {b : List Pair} (hb : WB U b) {v o : Bytes} (h : findP v b = some o) : varB v = true := by
  obtain ⟨p, hp, h1, _⟩ := findP_mem h
  have := (chain_mem (bindB_chain hb.ok) p hp).1
  rw [h1] at this; exact this
/-- two bindings with one domain that one assignment says are one -/
theorem WB.one {U : List Bytes} {a b : List Pair} (ha : WB U a) (hb : WB U b) (hd : ∀ v, (∃ o, findP v a = some o) ↔ (∃ o, findP v b = some o)) {h : Bytes → Bytes} (h1 : Says h a) (h2 : Says h b) : a = b := by
  refine ha.ext hb fun v => ?_
  cases hf : findP v a with
  | some o =>
    obtain ⟨q, hq⟩ := (hd v).1 ⟨o, hf⟩
    rw [hq, ← h1 v o hf, ← h2 v q hq]
  | none =>
    cases hg : findP v b with
    | none => rfl
    | some q =>
      obtain ⟨o, ho⟩ := (hd v).2 ⟨q, hg⟩
      rw [hf] at ho; cases ho
/-! the conditions of a valid rule -/
end Go.Cx

/- The structure of a network in plain words. No condition but bounds. -/
namespace Go.Cx
open Go.RowKit Go.Proofs
set_option linter.unusedVariables false
set_option linter.unusedSimpArgs false
def alI (sh : Fact) : List Alpha → Nat → Option Nat
  | [], _ => none
  | x :: xs, i => if x.shape = sh then some i else alI sh xs (i + 1)
/-- the alpha of a shape, which is added if there is none -/
def alB (al : List Alpha) (sh : Fact) : List Alpha × Int := match alI sh al 0 with
  | some i => (al, natI i)
  | none => (al ++ [⟨sh, []⟩], natI al.length)
theorem wrapL {n : Nat} (h : n ≤ 1099511627776) : IntKind.i64.wrap (((n + 1 : Nat) : Int) - 1) = natI n := by
  unfold natI; rw [wrap_in (InR.i64.2 (by omega))]; omega
theorem sAlL (n : Network) (sh : Fact) (k : Option (Network × Int)) : ∀ (l : List Alpha) (i : Nat), d_spec_l7Alpha_L1 n sh k l i = match alI sh l i with | some j => some (n, natI j) | none => k := by
  intro l
  induction l with
  | nil => intro i; rfl
  | cons x l ih =>
    intro i
    rw [d_spec_l7Alpha_L1, sSameP, Option.bind_some, ih, alI]
    by_cases h : x.shape = sh
    · rw [decide_eq_true h, cond_true, if_pos h]; rfl
    · rw [decide_eq_false h, cond_false, if_neg h]
theorem sAl (n : Network) (sh : Fact) (h : n.alphas.length ≤ 1048576) : d_spec_l7Alpha n sh = some (⟨n.rules, n.ends, (alB n.alphas sh).1, n.nodes, n.facts, n.tries⟩, (alB n.alphas sh).2) := by
  unfold d_spec_l7Alpha
  rw [lenOk (by omega), cond_true, sAlL, room1 (by omega) (by decide), cond_true]
  unfold alB
  cases alI sh n.alphas 0 with
  | some j => rfl
  | none =>
    dsimp only
    rw [show ((n.alphas.map Alpha.c) ++ [[D.str sh.rel, D.sl (sh.args.map tx), D.sl []]]).length = n.alphas.length + 1 by simp, wrapL (by omega)]
theorem iAlL (n : Network) (sh : Fact) (k : Option (Network × Int)) : ∀ (l : List Alpha) (i : Nat), d___impl_Network__alpha_L1 n sh k l i = match alI sh l i with | some j => some (n, natI j) | none => k := by
  intro l
  induction l with
  | nil => intro i; rfl
  | cons x l ih =>
    intro i
    rw [d___impl_Network__alpha_L1, iSameP, Option.bind_some, ih, alI]
    by_cases h : x.shape = sh
    · rw [decide_eq_true h, cond_true, if_pos h]; rfl
    · rw [decide_eq_false h, cond_false, if_neg h]
theorem iAl (n : Network) (sh : Fact) (h : n.alphas.length ≤ 1048576) : d___impl_Network__alpha n sh = some (⟨n.rules, n.ends, (alB n.alphas sh).1, n.nodes, n.facts, n.tries⟩, (alB n.alphas sh).2) := by
  unfold d___impl_Network__alpha
  rw [lenOk (by omega), cond_true, iAlL, room1 (by omega) (by decide), cond_true]
  unfold alB
  cases alI sh n.alphas 0 with
  | some j => rfl
  | none =>
    dsimp only
    rw [show ((n.alphas.map Alpha.c) ++ [[D.str sh.rel, D.sl (sh.args.map tx), D.sl []]]).length = n.alphas.length + 1 by simp, wrapL (by omega)]
def chI (p : Int) (c : Cond) : List Node → Nat → Option Nat
  | [], _ => none
  | x :: xs, i => if 0 < i ∧ x.parent = p ∧ x.cond = c then some i else chI p c xs (i + 1)
def chA (al : List Alpha) (c : Cond) : List Alpha × Int := if c.kind = 1 ∨ c.kind = 2 then alB al (shapeB c.pat) else (al, -1)
/-- the node of a condition below another one, which is added if there is none -/
def chB (al : List Alpha) (ns : List Node) (p : Int) (c : Cond) : (List Alpha × List Node) × Int := match chI p c ns 0 with
  | some i => ((al, ns), natI i)
  | none => (((chA al c).1, ns ++ [⟨p, c, (chA al c).2, []⟩]), natI ns.length)
theorem chI_drop (p : Int) (c : Cond) (ns : List Node) : chI p c ns 0 = chI p c (ns.drop 1) 1 := by
  cases ns with
  | nil => rfl
  | cons x ns => rw [chI, if_neg (fun h => by omega)]; rfl
def netC (n : Network) (z : (List Alpha × List Node) × Int) : Network × Int := (⟨n.rules, n.ends, z.1.1, z.1.2, n.facts, n.tries⟩, z.2)
theorem sChL (n : Network) (p : Int) (c : Cond) (k : Option (Network × Int)) (hn : n.nodes.length ≤ 1048576) : ∀ (d v fu : Nat), v + d = n.nodes.length + 1 → 1 ≤ v → d < fu → d_spec_l7Child_L1 n p c k fu (v : Int) = match chI p c (n.nodes.drop v) v with | some j => some (n, natI j) | none => k := by
  intro d
  induction d with
  | zero =>
    intro v fu hv h1 hf
    obtain ⟨fu, rfl⟩ : ∃ m, fu = m + 1 := ⟨fu - 1, by omega⟩
    rw [d_spec_l7Child_L1, List.length_map, decide_eq_false (by omega), cond_false, List.drop_eq_nil_of_le (by omega)]; rfl
  | succ d ih =>
    intro v fu hv h1 hf
    obtain ⟨fu, rfl⟩ : ∃ m, fu = m + 1 := ⟨fu - 1, by omega⟩
    by_cases hl : v < n.nodes.length
    · have hx : n.nodes[v]? = some n.nodes[v] := List.getElem?_eq_getElem hl
      have e3 : atI n.nodes (v : Int) = some n.nodes[v] := by unfold atI; rw [decide_eq_true (by omega), cond_true]; exact hx
      rw [List.drop_eq_getElem_cons hl, chI, d_spec_l7Child_L1, List.length_map, decide_eq_true (by omega), cond_true, e3, Option.bind_some, wrap1 (by omega), ih (v + 1) fu (by omega) (by omega) (by omega), sSameC, Option.bind_some]
      generalize n.nodes[v] = x
      by_cases hp : x.parent = p
      · rw [show ((x.parent : Int) == p) = true by simp [hp], cond_true]
        by_cases hc : x.cond = c
        · rw [decide_eq_true hc, cond_true, if_pos ⟨by omega, hp, hc⟩]; rfl
        · rw [decide_eq_false hc, cond_false, if_neg (fun h => hc h.2.2)]
      · rw [show ((x.parent : Int) == p) = false by simp [hp], cond_false, if_neg (fun h => hp h.2.1)]
    · rw [d_spec_l7Child_L1, List.length_map, decide_eq_false (by omega), cond_false, List.drop_eq_nil_of_le (by omega)]; rfl
theorem sCh (n : Network) (p : Int) (c : Cond) (hn : n.nodes.length ≤ 1048576) (ha : n.alphas.length ≤ 1048576) (hc : c.wt ≤ 1048576) : d_spec_l7Child n p c = some (netC n (chB n.alphas n.nodes p c)) := by
  have hp := Cond.pat_le hc
  have hargs := Fact.args_le hp
  unfold d_spec_l7Child
  have e := sChL n p c
  rw [show (1 : Int) = ((1 : Nat) : Int) from rfl, e _ hn n.nodes.length 1 fuel (by omega) (Nat.le_refl _) (by unfold fuel; omega), ← chI_drop, sCopyC c (by omega), Option.bind_some, sShape c.pat hp, Option.bind_some, sAl n _ ha, Option.bind_some]
  unfold chB chA netC
  cases chI p c n.nodes 0 with
  | some j => rfl
  | none =>
    dsimp only
    rw [room1 (by omega) (by decide), cond_true]
    by_cases h1 : c.kind = 1
    · rw [show (((c.kind : Int)) == ((1 : Nat) : Int)) = true by simp [h1], cond_true, if_pos (.inl h1)]
      simp [wrapL, hn, show n.nodes.length ≤ 1099511627776 by omega]
      first | done | (unfold natI; rw [wrap_in (InR.i64.2 (by omega))])
    · rw [show (((c.kind : Int)) == ((1 : Nat) : Int)) = false by simp [h1], cond_false]
      by_cases h2 : c.kind = 2
      · rw [show (((c.kind : Int)) == (2 : Int)) = true by simp [h2], cond_true, if_pos (.inr h2)]
        simp [wrapL, hn, show n.nodes.length ≤ 1099511627776 by omega]
        first | done | (unfold natI; rw [wrap_in (InR.i64.2 (by omega))])
      · rw [show (((c.kind : Int)) == (2 : Int)) = false by simp [h2], cond_false, if_neg (by omega)]
        first | rw [room1 (by omega) (by decide), cond_true] | rw [Option.bind_some, room1 (by omega) (by decide), cond_true] | skip
        simp [wrapL, hn, show n.nodes.length ≤ 1099511627776 by omega]
        first | done | (unfold natI; rw [wrap_in (InR.i64.2 (by omega))])
theorem iChL (n : Network) (p : Int) (c : Cond) (k : Option (Network × Int)) : ∀ (l : List Node) (i : Nat), d___impl_Network__child_L1 n p c k l i = match chI p c l i with | some j => some (n, natI j) | none => k := by
  intro l
  induction l with
  | nil => intro i; rfl
  | cons x l ih =>
    intro i
    rw [d___impl_Network__child_L1, chI, ih, iSameC, Option.bind_some]
    by_cases hi : 0 < i
    · rw [decide_eq_true (by omega), cond_true]
      by_cases hp : x.parent = p
      · rw [show ((x.parent : Int) == p) = true by simp [hp], cond_true]
        by_cases hc : x.cond = c
        · rw [decide_eq_true hc, cond_true, if_pos ⟨hi, hp, hc⟩]; rfl
        · rw [decide_eq_false hc, cond_false, if_neg (fun h => hc h.2.2)]
      · rw [show ((x.parent : Int) == p) = false by simp [hp], cond_false, if_neg (fun h => hp h.2.1)]
    · rw [decide_eq_false (by omega), cond_false, if_neg (fun h => hi h.1)]
theorem iCh (n : Network) (p : Int) (c : Cond) (hn : n.nodes.length ≤ 1048576) (ha : n.alphas.length ≤ 1048576) (hc : c.wt ≤ 1048576) : d___impl_Network__child n p c = some (netC n (chB n.alphas n.nodes p c)) := by
  have hp := Cond.pat_le hc
  have hargs := Fact.args_le hp
  unfold d___impl_Network__child
  rw [lenOk (by omega), cond_true, iChL, iCopyC c (by omega), iShape c.pat hp, Option.bind_some, iAl n _ ha, Option.bind_some, Option.bind_some]
  unfold chB chA netC
  cases chI p c n.nodes 0 with
  | some j => rfl
  | none =>
    dsimp only
    rw [room1 (by omega) (by decide), cond_true]
    by_cases h1 : c.kind = 1
    · rw [show (((c.kind : Int)) == (1 : Int)) = true by simp [h1], cond_true, if_pos (.inl h1)]
      simp [wrapL, hn, show n.nodes.length ≤ 1099511627776 by omega]
      first | done | (unfold natI; rw [wrap_in (InR.i64.2 (by omega))])
    · rw [show (((c.kind : Int)) == (1 : Int)) = false by simp [h1], cond_false]
      by_cases h2 : c.kind = 2
      · rw [show (((c.kind : Int)) == (2 : Int)) = true by simp [h2], cond_true, if_pos (.inr h2)]
        simp [wrapL, hn, show n.nodes.length ≤ 1099511627776 by omega]
        first | done | (unfold natI; rw [wrap_in (InR.i64.2 (by omega))])
      · rw [show (((c.kind : Int)) == (2 : Int)) = false by simp [h2], cond_false, if_neg (by omega)]
        first | rw [room1 (by omega) (by decide), cond_true] | rw [Option.bind_some, room1 (by omega) (by decide), cond_true] | skip
        simp [wrapL, hn, show n.nodes.length ≤ 1099511627776 by omega]
        first | done | (unfold natI; rw [wrap_in (InR.i64.2 (by omega))])
/-! all rules, one after the other -/
def stC (s : (List Alpha × List Node) × Int) (c : Cond) : (List Alpha × List Node) × Int := chB s.1.1 s.1.2 s.2 c
def stR (z : (List Alpha × List Node) × List Int) (r : Rule) : (List Alpha × List Node) × List Int := (((plainB r).foldl stC (z.1, 0)).1, z.2 ++ [((plainB r).foldl stC (z.1, 0)).2])
def root (tk : List Token) : Node := ⟨-1, ⟨0, ⟨[], []⟩, [], []⟩, -1, tk⟩
def strB (tk : List Token) (rs : List Rule) : (List Alpha × List Node) × List Int := rs.foldl stR (([], [root tk]), [])
theorem alB_len (al : List Alpha) (sh : Fact) : (alB al sh).1.length ≤ al.length + 1 := by
  unfold alB; cases alI sh al 0 <;> simp
theorem chA_len (al : List Alpha) (c : Cond) : (chA al c).1.length ≤ al.length + 1 := by
  unfold chA
  by_cases h : c.kind = 1 ∨ c.kind = 2
  · rw [if_pos h]; exact alB_len _ _
  · rw [if_neg h]; exact Nat.le_succ _
theorem chB_len (al : List Alpha) (ns : List Node) (p : Int) (c : Cond) : (chB al ns p c).1.1.length ≤ al.length + 1 ∧ (chB al ns p c).1.2.length ≤ ns.length + 1 := by
  unfold chB
  cases chI p c ns 0 with
  | some i => exact ⟨Nat.le_succ _, Nat.le_succ _⟩
  | none => exact ⟨chA_len _ _, by simp⟩
theorem stC_len : ∀ (cs : List Cond) (s : (List Alpha × List Node) × Int), (cs.foldl stC s).1.1.length ≤ s.1.1.length + cs.length ∧ (cs.foldl stC s).1.2.length ≤ s.1.2.length + cs.length
  | [], s => ⟨Nat.le_refl _, Nat.le_refl _⟩
  | c :: cs, s => by
    have h1 := chB_len s.1.1 s.1.2 s.2 c
    have h2 := stC_len cs (stC s c)
    have h3 : (stC s c).1.1.length ≤ s.1.1.length + 1 ∧ (stC s c).1.2.length ≤ s.1.2.length + 1 := h1
    rw [List.foldl_cons, List.length_cons]
    omega
theorem sStL2 (a : List Rule) (i : Nat) (y : List Cond) (k : Int → Int → List Rule → List Int → List Alpha → List Node → List Fact → Option (Network × Bool)) : ∀ (cs : List Cond) (j : Nat) (v u : Int) (w3 : List Rule) (w4 : List Int) (al : List Alpha) (ns : List Node) (w7 : List Fact), (∀ c ∈ cs, c.wt ≤ 1048576) → al.length + cs.length ≤ 1048576 → ns.length + cs.length ≤ 1048576 →
    d_spec_EmptyNetwork_L2 a i y k cs j v u w3 w4 al ns w7 = k (cs.foldl stC ((al, ns), v)).2 u w3 w4 (cs.foldl stC ((al, ns), v)).1.1 (cs.foldl stC ((al, ns), v)).1.2 w7 := by
  intro cs
  induction cs with
  | nil => intros; rfl
  | cons c cs ih =>
    intro j v u w3 w4 al ns w7 hc ha hn
    simp only [List.length_cons] at ha hn
    have h1 := chB_len al ns v c
    rw [d_spec_EmptyNetwork_L2, sCh _ v c (show ns.length ≤ 1048576 by omega) (show al.length ≤ 1048576 by omega) (hc c (by simp)), Option.bind_some]
    unfold netC
    dsimp only
    rw [ih _ _ _ _ _ _ _ _ (fun x hx => hc x (by simp [hx])) (by omega) (by omega)]
    rfl
theorem iStL2 (a : List Rule) (i : Nat) (y : List Cond) (k : Int → Int → List Rule → List Int → List Alpha → List Node → List Fact → Option Network) : ∀ (cs : List Cond) (j : Nat) (v u : Int) (w3 : List Rule) (w4 : List Int) (al : List Alpha) (ns : List Node) (w7 : List Fact), (∀ c ∈ cs, c.wt ≤ 1048576) → al.length + cs.length ≤ 1048576 → ns.length + cs.length ≤ 1048576 →
    d_impl_structure_L2 a i y k cs j v u w3 w4 al ns w7 = k (cs.foldl stC ((al, ns), v)).2 u w3 w4 (cs.foldl stC ((al, ns), v)).1.1 (cs.foldl stC ((al, ns), v)).1.2 w7 := by
  intro cs
  induction cs with
  | nil => intros; rfl
  | cons c cs ih =>
    intro j v u w3 w4 al ns w7 hc ha hn
    simp only [List.length_cons] at ha hn
    have h1 := chB_len al ns v c
    rw [d_impl_structure_L2, iCh _ v c (show ns.length ≤ 1048576 by omega) (show al.length ≤ 1048576 by omega) (hc c (by simp)), Option.bind_some]
    unfold netC
    dsimp only
    rw [ih _ _ _ _ _ _ _ _ (fun x hx => hc x (by simp [hx])) (by omega) (by omega)]
    rfl
/-! the names of a rule -/
theorem fold_keys : ∀ (ts : List Bytes) (N : List Pair) {p : Pair}, p ∈ ts.foldl nameP N → p ∈ N ∨ (p.var ∈ ts ∧ varB p.var = true)
  | [], _, _, h => .inl h
  | t :: ts, N, p, h => by
    rcases fold_keys ts (nameP N t) h with h1 | h1
    · unfold nameP at h1
      cases hv : varB t && !hasV N t with
      | false => rw [hv] at h1; exact .inl h1
      | true =>
        rw [hv, cond_true] at h1
        simp only [Bool.and_eq_true] at hv
        rcases List.mem_append.1 h1 with h2 | h2
        · exact .inl h2
        · rw [List.mem_singleton.1 h2]; exact .inr ⟨by simp, hv.1⟩
    · exact .inr ⟨by simp [h1.1], h1.2⟩
theorem mem_cndV {l : List Cond} {v : Bytes} : v ∈ cndV l ↔ v ∈ termsB l ∧ varB v = true := by
  unfold cndV termsB condV varsB
  simp only [List.mem_flatMap, List.mem_filter]
  constructor
  · rintro ⟨c, hc, hm, hv⟩; exact ⟨⟨c, hc, hm⟩, hv⟩
  · rintro ⟨⟨c, hc, hm⟩, hv⟩; exact ⟨c, hc, hm, hv⟩
theorem names_six {r : Rule} (h : ruleB r = true) : (namesB r).length ≤ 6 := by
  have h1 : ((namesB r).map Pair.var).length ≤ (uniqS (cndV r.conds)).length := by
    refine nodup_sub _ _ (ndk_fold _ NdK.nil) fun x hx => ?_
    obtain ⟨p, hp, rfl⟩ := List.mem_map.1 hx
    rcases fold_keys _ _ hp with h1 | h1
    · cases h1
    · exact mem_uniqS.2 (mem_cndV.2 h1)
  rw [List.length_map] at h1
  exact Nat.le_trans h1 (ruleB_six h)
theorem names_at {r : Rule} (h : ruleB r = true) {v : Bytes} (hv : v ∈ cndV r.conds) : ∃ i p, i < 6 ∧ (namesB r)[i]? = some p ∧ p.var = v ∧ rnB (namesB r) v = nmB i := by
  obtain ⟨ht, hv2⟩ := mem_cndV.1 hv
  obtain ⟨p, hp, he⟩ := fold_has _ [] ht hv2
  have hp' : p ∈ namesB r := hp
  obtain ⟨i, hi, hget, hval, _⟩ := wf_mem (wf_fold _ WfN.nil) hp'
  refine ⟨i, p, by have := names_six h; unfold namesB at this; omega, hget, he, ?_⟩
  rw [← he]
  exact (rnB_key (N := namesB r) (ndk_fold (termsB r.conds) NdK.nil) hp').trans hval
theorem rn_small {r : Rule} (h : ruleB r = true) {x : Bytes} (hx : x.length ≤ 16) (hV : varB x = true → x ∈ cndV r.conds) : (rnB (namesB r) x).length ≤ 16 := by
  cases hv : varB x with
  | false => rw [show rnB (namesB r) x = x from nm_novar hv]; exact hx
  | true =>
    obtain ⟨i, p, hi, _, _, e⟩ := names_at h (hV hv)
    rw [e]; exact nmB_len i hi
theorem wtL_sml : ∀ (l : List Bytes), (∀ x ∈ l, x.length ≤ 16) → wtL tw l ≤ 17 * l.length
  | [], _ => by simp [wtL]
  | x :: l, h => by
    have h1 := wtL_sml l fun y hy => h y (by simp [hy])
    have h2 := h x (by simp)
    rw [wtL_cons, List.length_cons]; unfold tw at *; omega
theorem term_len {t : Bytes} (h : termB t = true) : t.length ≤ 16 := by have := termB_len h; omega
theorem cond_parts {c : Cond} (h : condB c = true) : c.pat.rel.length ≤ 8 ∧ c.pat.args.length ≤ 3 ∧ (∀ x ∈ c.pat.args, x.length ≤ 16) ∧ c.left.length ≤ 16 ∧ c.right.length ≤ 16 := by
  by_cases hk : c.kind = 1 ∨ c.kind = 2
  · obtain ⟨hp, hl, hr⟩ := condB_pat h hk
    have ht := term_of hp
    unfold patB at hp
    simp only [Bool.and_eq_true, decide_eq_true_eq] at hp
    have := nameB_len hp.2.1
    rw [hl, hr]
    exact ⟨by omega, by omega, fun x hx => term_len (ht x hx), by simp, by simp⟩
  · obtain ⟨_, hz, hl, hr⟩ := condB_term h (fun e => hk (.inl e)) (fun e => hk (.inr e))
    unfold zeroB at hz
    simp only [Bool.and_eq_true, beq_iff_eq, decide_eq_true_eq] at hz
    have h0 : c.pat.args = [] := List.eq_nil_of_length_eq_zero (by omega)
    rw [hz.1, h0]
    exact ⟨by simp, by simp, fun x hx => (by cases hx), term_len hl, term_len hr⟩
/-- the plain conditions of a valid rule are short -/
theorem plain_wt {r : Rule} (h : ruleB r = true) : ∀ c ∈ plainB r, c.wt ≤ 1048576 := by
  intro c' hc'
  obtain ⟨c, hc, rfl⟩ := List.mem_map.1 hc'
  obtain ⟨h1, h2, h3, h4, h5⟩ := cond_parts (ruleB_conds h c hc)
  have hV : ∀ x ∈ c.pat.args ++ [c.left, c.right], varB x = true → x ∈ cndV r.conds := fun x hx hv => mem_cndV.2 ⟨List.mem_flatMap.2 ⟨c, hc, hx⟩, hv⟩
  have a1 : (rnB (namesB r) c.left).length ≤ 16 := rn_small h h4 (hV _ (by simp))
  have a2 : (rnB (namesB r) c.right).length ≤ 16 := rn_small h h5 (hV _ (by simp))
  have a3 := wtL_sml (c.pat.args.map (rnB (namesB r))) (fun x hx => by
    obtain ⟨y, hy, rfl⟩ := List.mem_map.1 hx
    exact rn_small h (h3 y hy) (hV y (by simp [hy])))
  rw [List.length_map] at a3
  unfold renC Cond.wt
  dsimp only
  unfold tw at *
  omega
theorem plain_len {r : Rule} (h : ruleB r = true) : (plainB r).length ≤ 4 := by unfold plainB; rw [List.length_map]; exact ruleB_len h
theorem act_pat {r : Rule} {n : Nat} (h : r.wt ≤ n) {a : Action} (ha : a ∈ r.acts) : a.pat.args.length ≤ n := by
  have h1 := Rule.acts_le h
  have h2 := wtL_mem (w := Action.wt) ha
  have h3 := wtL_len tw a.pat.args
  simp only [Action.wt] at h2
  omega
theorem sCopyQ (p : Fact) (h : p.args.length ≤ 1099511627770) : d_spec_l3CopyPattern p = some p := by
  unfold d_spec_l3CopyPattern; rw [sTexts p.args (by omega)]; rfl
theorem iCopyQ (p : Fact) (h : p.args.length ≤ 1099511627770) : d_impl_copyPattern p = some p := by
  unfold d_impl_copyPattern; rw [iTexts p.args (by omega)]; rfl
theorem sCopyR (r : Rule) (h : r.wt ≤ 1048576) : d_spec_l5Copy r = some r := by
  have h1 := Rule.conds_le h
  have h2 := Rule.acts_le h
  have h3 := wtL_len Cond.wt r.conds
  have h4 := wtL_len Action.wt r.acts
  unfold d_spec_l5Copy
  rw [mapL (c := Cond.c) (b := 80) (f := d_spec_l4Copy) (g := fun x => x) (L := d_spec_l5Copy_L1 r _) (k := _) (by decide) (fun _ _ => rfl) (fun _ _ _ _ => rfl) _ _ _ (fun c hc => sCopyC c (by have := Fact.args_le (Cond.pat_le (Rule.cond_le h hc)); omega)) (by simp; omega)]
  rw [mapL (c := Action.c) (b := 48) (f := fun a : Action => (d_spec_l3CopyPattern a.pat).bind fun y => some (⟨a.kind, y⟩ : Action)) (g := fun x => x) (L := d_spec_l5Copy_L2 r _ _) (k := _) (by decide) (fun _ _ => rfl) (fun x xs i w => by rw [d_spec_l5Copy_L2]; cases d_spec_l3CopyPattern x.pat <;> rfl) _ _ _ (fun a ha => by rw [sCopyQ a.pat (by have := act_pat h ha; omega)]; rfl) (by simp; omega)]
  simp
theorem sCopiesR (l : List Rule) (h : wtL Rule.wt l ≤ 1048576) : d_spec_l5Copies l = some l := by
  have h3 := wtL_len Rule.wt l
  unfold d_spec_l5Copies
  rw [mapL (c := Rule.c) (b := 72) (f := d_spec_l5Copy) (g := fun x => x) (L := d_spec_l5Copies_L1 l _) (k := _) (by decide) (fun _ _ => rfl) (fun _ _ _ _ => rfl) _ _ _ (fun r hr => sCopyR r (by have := wtL_mem (w := Rule.wt) hr; omega)) (by simp; omega)]
  simp
theorem iCopiesC (l : List Cond) (h : l.length ≤ 1048576) (hw : ∀ c ∈ l, c.wt ≤ 1048576) : d_impl_copyConds l = some l := by
  unfold d_impl_copyConds
  rw [mapL (c := Cond.c) (b := 80) (f := d_impl_copyCond) (g := fun x => x) (L := d_impl_copyConds_L1 l _) (k := _) (by decide) (fun _ _ => rfl) (fun _ _ _ _ => rfl) _ _ _ (fun c hc => iCopyC c (by have := Fact.args_le (Cond.pat_le (hw c hc)); omega)) (by simp; omega)]
  simp
theorem iCopyR (r : Rule) (h : r.wt ≤ 1048576) : d_impl_copyRule r = some r := by
  have h1 := Rule.conds_le h
  have h2 := Rule.acts_le h
  have h3 := wtL_len Cond.wt r.conds
  have h4 := wtL_len Action.wt r.acts
  unfold d_impl_copyRule
  rw [iCopiesC r.conds (by omega) (fun c hc => Rule.cond_le h hc), Option.bind_some]
  rw [mapL (c := Action.c) (b := 48) (f := fun a : Action => (d_impl_copyPattern a.pat).bind fun y => some (⟨a.kind, y⟩ : Action)) (g := fun x => x) (L := d_impl_copyRule_L1 r _ _) (k := _) (by decide) (fun _ _ => rfl) (fun x xs i w => by rw [d_impl_copyRule_L1]; cases d_impl_copyPattern x.pat <;> rfl) _ _ _ (fun a ha => by rw [iCopyQ a.pat (by have := act_pat h ha; omega)]; rfl) (by simp; omega)]
  simp
theorem iCopiesR (l : List Rule) (h : wtL Rule.wt l ≤ 1048576) : d_impl_copyRules l = some l := by
  have h3 := wtL_len Rule.wt l
  unfold d_impl_copyRules
  rw [mapL (c := Rule.c) (b := 72) (f := d_impl_copyRule) (g := fun x => x) (L := d_impl_copyRules_L1 l _) (k := _) (by decide) (fun _ _ => rfl) (fun _ _ _ _ => rfl) _ _ _ (fun r hr => iCopyR r (by have := wtL_mem (w := Rule.wt) hr; omega)) (by simp; omega)]
  simp
theorem sStL1 (a : List Rule) (k : Int → List Rule → List Int → List Alpha → List Node → List Fact → Option (Network × Bool)) : ∀ (l : List Rule) (i : Nat) (u : Int) (w2 : List Rule) (es : List Int) (al : List Alpha) (ns : List Node) (w6 : List Fact), (∀ r ∈ l, r.wt ≤ 1048576 ∧ ruleB r = true) → es.length + l.length ≤ 1000 → al.length + 4 * l.length ≤ 1000 → ns.length + 4 * l.length ≤ 1000 →
    d_spec_EmptyNetwork_L1 a k l i u w2 es al ns w6 = k u w2 (l.foldl stR ((al, ns), es)).2 (l.foldl stR ((al, ns), es)).1.1 (l.foldl stR ((al, ns), es)).1.2 w6 := by
  intro l
  induction l with
  | nil => intros; rfl
  | cons r l ih =>
    intro i u w2 es al ns w6 hr he ha hn
    simp only [List.length_cons] at he ha hn
    obtain ⟨hw, hb⟩ := hr r (by simp)
    have h4 := plain_len hb
    have hl := stC_len (plainB r) ((al, ns), 0)
    dsimp only at hl
    rw [d_spec_EmptyNetwork_L1, sConds r hw, Option.bind_some, lenOk (by omega), cond_true, sStL2 _ _ _ _ _ _ _ _ _ _ _ _ _ (plain_wt hb) (by omega) (by omega), room1 (by omega) (by decide), cond_true, ih _ _ _ _ _ _ _ (fun x hx => hr x (by simp [hx])) (by simp; omega) (by omega) (by omega)]
    rfl
theorem sEmpty (rs : List Rule) (h : wtL Rule.wt rs ≤ 1048576) : d_spec_EmptyNetwork rs = some (bif areB rs then (⟨rs, (strB [⟨[], []⟩] rs).2, (strB [⟨[], []⟩] rs).1.1, (strB [⟨[], []⟩] rs).1.2, [], 0⟩, true) else (⟨[], [], [], [], [], 0⟩, false)) := by
  unfold d_spec_EmptyNetwork
  rw [sAre rs h, Option.bind_some]
  cases hb : areB rs with
  | false => rfl
  | true =>
    have h6 : rs.length ≤ 6 := by unfold areB at hb; simp only [Bool.and_eq_true, decide_eq_true_eq] at hb; omega
    rw [Bool.not_true, cond_false, cond_true, sCopiesR rs h, Option.bind_some, sStL1 _ _ _ _ _ _ _ _ _ _ (fun r hr => ⟨by have := wtL_mem (w := Rule.wt) hr; omega, areB_mem hb r hr⟩) (by simp; omega) (by simp; omega) (by simp; omega)]
    rfl
theorem iStL1 (a : List Rule) (k : Int → List Rule → List Int → List Alpha → List Node → List Fact → Option Network) : ∀ (l : List Rule) (i : Nat) (u : Int) (w2 : List Rule) (es : List Int) (al : List Alpha) (ns : List Node) (w6 : List Fact), (∀ r ∈ l, r.wt ≤ 1048576 ∧ ruleB r = true) → es.length + l.length ≤ 1000 → al.length + 4 * l.length ≤ 1000 → ns.length + 4 * l.length ≤ 1000 →
    d_impl_structure_L1 a k l i u w2 es al ns w6 = k u w2 (l.foldl stR ((al, ns), es)).2 (l.foldl stR ((al, ns), es)).1.1 (l.foldl stR ((al, ns), es)).1.2 w6 := by
  intro l
  induction l with
  | nil => intros; rfl
  | cons r l ih =>
    intro i u w2 es al ns w6 hr he ha hn
    simp only [List.length_cons] at he ha hn
    obtain ⟨hw, hb⟩ := hr r (by simp)
    have h4 := plain_len hb
    have hl := stC_len (plainB r) ((al, ns), 0)
    dsimp only at hl
    rw [d_impl_structure_L1, iConds r hw, Option.bind_some, lenOk (by omega), cond_true, iStL2 _ _ _ _ _ _ _ _ _ _ _ _ _ (plain_wt hb) (by omega) (by omega), room1 (by omega) (by decide), cond_true, ih _ _ _ _ _ _ _ (fun x hx => hr x (by simp [hx])) (by simp; omega) (by omega) (by omega)]
    rfl
theorem iStr (rs : List Rule) (h : wtL Rule.wt rs ≤ 1048576) (hb : areB rs = true) : d_impl_structure rs = some ⟨rs, (strB [] rs).2, (strB [] rs).1.1, (strB [] rs).1.2, [], 0⟩ := by
  unfold d_impl_structure
  have h6 : rs.length ≤ 6 := by unfold areB at hb; simp only [Bool.and_eq_true, decide_eq_true_eq] at hb; omega
  rw [iCopiesR rs h, Option.bind_some, iStL1 _ _ _ _ _ _ _ _ _ _ (fun r hr => ⟨by have := wtL_mem (w := Rule.wt) hr; omega, areB_mem hb r hr⟩) (by simp; omega) (by simp; omega) (by simp; omega)]
  rfl
/-! the root apart: what its tokens are does not matter -/
def chR (al : List Alpha) (ns : List Node) (p : Int) (c : Cond) : (List Alpha × List Node) × Int := match chI p c ns 1 with
  | some i => ((al, ns), natI i)
  | none => (((chA al c).1, ns ++ [⟨p, c, (chA al c).2, []⟩]), natI (ns.length + 1))
theorem chB_root (tk : List Token) (al : List Alpha) (ns : List Node) (p : Int) (c : Cond) : chB al (root tk :: ns) p c = (((chR al ns p c).1.1, root tk :: (chR al ns p c).1.2), (chR al ns p c).2) := by
  unfold chB chR
  rw [chI_drop, List.drop_succ_cons, List.drop_zero]
  cases chI p c ns 1 <;> rfl
def rtC (s : (List Alpha × List Node) × Int) (c : Cond) : (List Alpha × List Node) × Int := chR s.1.1 s.1.2 s.2 c
def rtR (z : (List Alpha × List Node) × List Int) (r : Rule) : (List Alpha × List Node) × List Int := (((plainB r).foldl rtC (z.1, 0)).1, z.2 ++ [((plainB r).foldl rtC (z.1, 0)).2])
def rtB (rs : List Rule) : (List Alpha × List Node) × List Int := rs.foldl rtR (([], []), [])
theorem stC_root (tk : List Token) : ∀ (cs : List Cond) (al : List Alpha) (ns : List Node) (v : Int), cs.foldl stC ((al, root tk :: ns), v) = (((cs.foldl rtC ((al, ns), v)).1.1, root tk :: (cs.foldl rtC ((al, ns), v)).1.2), (cs.foldl rtC ((al, ns), v)).2)
  | [], _, _, _ => rfl
  | c :: cs, al, ns, v => by
    rw [List.foldl_cons, List.foldl_cons]
    show cs.foldl stC (chB al (root tk :: ns) v c) = _
    rw [chB_root, stC_root tk cs]
    rfl
theorem stR_root (tk : List Token) : ∀ (rs : List Rule) (al : List Alpha) (ns : List Node) (es : List Int), rs.foldl stR ((al, root tk :: ns), es) = (((rs.foldl rtR ((al, ns), es)).1.1, root tk :: (rs.foldl rtR ((al, ns), es)).1.2), (rs.foldl rtR ((al, ns), es)).2)
  | [], _, _, _ => rfl
  | r :: rs, al, ns, es => by
    rw [List.foldl_cons, List.foldl_cons]
    have e : stR ((al, root tk :: ns), es) r = (((rtR ((al, ns), es) r).1.1, root tk :: (rtR ((al, ns), es) r).1.2), (rtR ((al, ns), es) r).2) := by
      unfold stR rtR
      dsimp only
      rw [stC_root]
    rw [e, stR_root tk rs]
theorem strB_root (tk : List Token) (rs : List Rule) : strB tk rs = (((rtB rs).1.1, root tk :: (rtB rs).1.2), (rtB rs).2) := stR_root tk rs [] [] []
end Go.Cx
