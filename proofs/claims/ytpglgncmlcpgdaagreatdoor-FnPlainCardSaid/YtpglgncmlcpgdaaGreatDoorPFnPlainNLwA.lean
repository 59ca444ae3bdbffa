/- Chapter 1 in plain words: what the functions on texts and lists of texts compute, of the program and of the reference. No condition but bounds on lengths. -/
import Derived.Test.YtpglgncmlcpgdaaGreatDoorPFnPlainNPl
import Derived.Test.YtpglgncmlcpgdaaGreatDoorPFnPlainNFn2
import Derived.Sort.Walk0
namespace Go.Cx
open Go.RowKit Go.Proofs
set_option linter.unusedVariables false
set_option linter.unusedSimpArgs false
theorem atI_mid {α : Type} {a pre xs : List α} {x : α} (h : a = pre ++ x :: xs) : atI a (pre.length : Int) = some x := by
  unfold atI
  have : a[pre.length]? = some x := by rw [h]; simp
  simp [this]
theorem roomK {n b : Nat} (hn : n ≤ 1099511627776) (hb : b ≤ 128) : room n b = true := by
  unfold room maxLen
  have : n * b ≤ 1099511627776 * 128 := Nat.mul_le_mul hn hb
  simp
  omega
theorem room1 {α : Type} {w : List α} {c : α → List D} {y : List D} {b : Nat} (h : w.length < 1099511627776) (hb : b ≤ 128) : room ((w.map c).length + ([y]).length) b = true := roomK (by simp; omega) hb
theorem roomA {α β : Type} {w : List α} {v : List β} {c : α → List D} {d : β → List D} {b : Nat} (h : w.length + v.length ≤ 1099511627776) (hb : b ≤ 128) : room ((w.map c).length + (v.map d).length) b = true := roomK (by simp; omega) hb
theorem room0 {β : Type} {v : List β} {d : β → List D} {b : Nat} (h : v.length ≤ 1099511627776) (hb : b ≤ 128) : room ((([] : List (List D))).length + (v.map d).length) b = true := roomK (by simp; omega) hb
theorem lenOk {α : Type} {l : List α} (h : l.length ≤ 1099511627776) : decide (l.length ≤ maxLen) = true := by unfold maxLen; simp; omega
/-- loops that hand on f x, one element a round -/
theorem mapL {α β γ : Type} {c : β → List D} {b : Nat} {f : α → Option β} {g : α → β} {L : List α → Nat → List β → Option γ} {k : List β → Option γ} (hb : b ≤ 128) (hnil : ∀ i w, L [] i w = k w)
    (hcons : ∀ x xs i w, L (x :: xs) i w = (f x).bind fun y => bif room ((w.map c).length + ([c y]).length) b then L xs (i + 1) (w ++ [y]) else none) :
    ∀ (l : List α) (i : Nat) (w : List β), (∀ x ∈ l, f x = some (g x)) → w.length + l.length ≤ 1099511627776 → L l i w = k (w ++ l.map g) := by
  intro l
  induction l with
  | nil => intro i w _ _; simp [hnil]
  | cons x xs ih =>
    intro i w hf hl
    simp only [List.length_cons] at hl
    rw [hcons, hf x (by simp), Option.bind_some, room1 (by omega) hb, cond_true, ih _ _ (fun y hy => hf y (by simp [hy])) (by simp; omega)]
    simp
/-- loops that stop with false at the first element that does not fit -/
theorem allL {α : Type} {f : α → Option Bool} {p : α → Bool} {L : List α → Nat → Option Bool} {k : Option Bool} (hnil : ∀ i, L [] i = k)
    (hcons : ∀ x xs i, L (x :: xs) i = (f x).bind fun y => bif !y then some false else L xs (i + 1)) : ∀ (l : List α) (i : Nat), (∀ x ∈ l, f x = some (p x)) → L l i = bif l.all p then k else some false := by
  intro l
  induction l with
  | nil => intro i _; simp [hnil]
  | cons x xs ih =>
    intro i hf
    rw [hcons, hf x (by simp), Option.bind_some, ih _ (fun y hy => hf y (by simp [hy])), List.all_cons]
    cases p x <;> simp
/-! the order of texts -/
theorem bl_irrefl : ∀ (a : Bytes), Op.bytesLess a a = false
  | [] => rfl
  | x :: a => by simp [Op.bytesLess, bl_irrefl a]
theorem bl_trans : ∀ {a b c : Bytes}, Op.bytesLess a b = true → Op.bytesLess b c = true → Op.bytesLess a c = true
  | [], b, [], _, h2 => by cases b <;> simp [Op.bytesLess] at h2
  | [], b, _ :: _, _, _ => by simp [Op.bytesLess]
  | _ :: _, [], _, h1, _ => by simp [Op.bytesLess] at h1
  | _ :: _, _ :: _, [], _, h2 => by simp [Op.bytesLess] at h2
  | x :: a, y :: b, z :: c, h1, h2 => by
    simp only [Op.bytesLess, Bool.or_eq_true, decide_eq_true_eq, Bool.and_eq_true, beq_iff_eq] at h1 h2 ⊢
    rcases h1 with h1 | ⟨rfl, h1⟩
    · rcases h2 with h2 | ⟨rfl, h2⟩
      · exact .inl (UInt8.lt_trans h1 h2)
      · exact .inl h1
    · rcases h2 with h2 | ⟨rfl, h2⟩
      · exact .inl h2
      · exact .inr ⟨rfl, bl_trans h1 h2⟩
theorem bl_tri : ∀ {a b : Bytes}, Op.bytesLess a b = false → Op.bytesLess b a = false → a = b
  | [], [], _, _ => rfl
  | [], _ :: _, h, _ => by simp [Op.bytesLess] at h
  | _ :: _, [], _, h => by simp [Op.bytesLess] at h
  | x :: a, y :: b, h1, h2 => by
    simp only [Op.bytesLess, Bool.or_eq_false_iff, decide_eq_false_iff_not, Bool.and_eq_false_iff, beq_eq_false_iff_ne, ne_eq] at h1 h2
    have e : x = y := by
      have h3 := h1.1; have h4 := h2.1
      rw [UInt8.lt_iff_toNat_lt] at h3 h4
      exact UInt8.toNat_inj.1 (by omega)
    subst e
    rw [bl_tri (h1.2.resolve_left (by simp)) (h2.2.resolve_left (by simp))]
theorem bl_asymm {a b : Bytes} (h : Op.bytesLess a b = true) : Op.bytesLess b a = false := by
  cases hb : Op.bytesLess b a with
  | false => rfl
  | true => have := bl_trans h hb; rw [bl_irrefl] at this; cases this
/-! ascending lists without repetition -/
def SS (l : List Bytes) : Prop := l.Pairwise fun a b => Op.bytesLess a b = true
theorem SS_unique : ∀ {a b : List Bytes}, SS a → SS b → (∀ x, x ∈ a ↔ x ∈ b) → a = b
  | [], [], _, _, _ => rfl
  | [], y :: b, _, _, h => by have := (h y).2 (by simp); cases this
  | x :: a, [], _, _, h => by have := (h x).1 (by simp); cases this
  | x :: a, y :: b, h1, h2, h => by
    obtain ⟨p1, p2⟩ := List.pairwise_cons.1 h1
    obtain ⟨q1, q2⟩ := List.pairwise_cons.1 h2
    have e : x = y := by
      refine bl_tri ?_ ?_
      · cases hb : Op.bytesLess x y with
        | false => rfl
        | true =>
          rcases List.mem_cons.1 ((h x).1 (by simp)) with rfl | hx
          · exact (bl_irrefl x ▸ hb).symm
          · have := bl_asymm (q1 x hx); rw [hb] at this; exact this
      · cases hb : Op.bytesLess y x with
        | false => rfl
        | true =>
          rcases List.mem_cons.1 ((h y).2 (by simp)) with rfl | hx
          · exact (bl_irrefl y ▸ hb).symm
          · have := bl_asymm (p1 y hx); rw [hb] at this; exact this
    subst e
    rw [SS_unique p2 q2 (fun z => ?_)]
    constructor
    · intro hz
      rcases List.mem_cons.1 ((h z).1 (by simp [hz])) with rfl | hz'
      · have := p1 z hz; rw [bl_irrefl] at this; cases this
      · exact hz'
    · intro hz
      rcases List.mem_cons.1 ((h z).2 (by simp [hz])) with rfl | hz'
      · have := q1 z hz; rw [bl_irrefl] at this; cases this
      · exact hz'
def putB : List Bytes → Bytes → List Bytes
  | [], s => [s]
  | x :: xs, s => bif Op.bytesLess x s then x :: putB xs s else bif x == s then x :: xs else s :: x :: xs
theorem mem_putB : ∀ {l : List Bytes} {s y : Bytes}, y ∈ putB l s ↔ y = s ∨ y ∈ l
  | [], s, y => by simp [putB]
  | x :: xs, s, y => by
    simp only [putB]
    cases Op.bytesLess x s with
    | true => simp only [cond_true, List.mem_cons, mem_putB (l := xs)]; constructor <;> (rintro (h | h | h) <;> simp [h])
    | false =>
      simp only [cond_false]
      cases hx : x == s with
      | true =>
        simp only [beq_iff_eq] at hx
        subst hx
        simp
      | false => simp
theorem ss_putB : ∀ {l : List Bytes} {s : Bytes}, SS l → SS (putB l s)
  | [], s, _ => by simp [putB, SS]
  | x :: xs, s, h => by
    obtain ⟨p1, p2⟩ := List.pairwise_cons.1 h
    simp only [putB]
    cases hb : Op.bytesLess x s with
    | true =>
      simp only [cond_true]
      refine List.pairwise_cons.2 ⟨fun y hy => ?_, ss_putB p2⟩
      rcases mem_putB.1 hy with rfl | hy
      · exact hb
      · exact p1 y hy
    | false =>
      simp only [cond_false]
      cases hx : x == s with
      | true => exact h
      | false =>
        have hs : Op.bytesLess s x = true := by
          cases hc : Op.bytesLess s x with
          | true => rfl
          | false => have := bl_tri hb hc; subst this; simp at hx
        refine List.pairwise_cons.2 ⟨fun y hy => ?_, h⟩
        rcases List.mem_cons.1 hy with rfl | hy
        · exact hs
        · exact bl_trans hs (p1 y hy)
theorem len_putB : ∀ (l : List Bytes) (s : Bytes), (putB l s).length ≤ l.length + 1
  | [], s => by simp [putB]
  | x :: xs, s => by
    have := len_putB xs s
    simp only [putB]
    cases Op.bytesLess x s <;> simp only [cond_true, cond_false, List.length_cons]
    · cases x == s <;> simp
    · omega
/-- the different texts of a list, ascending -/
def uniqS (l : List Bytes) : List Bytes := l.foldl putB []
theorem foldl_putB_mem : ∀ (l a : List Bytes) (y : Bytes), y ∈ l.foldl putB a ↔ y ∈ a ∨ y ∈ l
  | [], a, y => by simp
  | x :: l, a, y => by
    rw [List.foldl_cons, foldl_putB_mem l, mem_putB]
    simp only [List.mem_cons]
    constructor
    · rintro ((h | h) | h) <;> simp [h]
    · rintro (h | h | h) <;> simp [h]
theorem foldl_putB_ss : ∀ (l : List Bytes) {a : List Bytes}, SS a → SS (l.foldl putB a)
  | [], a, h => h
  | x :: l, a, h => foldl_putB_ss l (ss_putB h)
theorem foldl_putB_len : ∀ (l a : List Bytes), (l.foldl putB a).length ≤ a.length + l.length
  | [], a => by simp
  | x :: l, a => by
    have h1 := foldl_putB_len l (putB a x)
    have h2 := len_putB a x
    rw [List.foldl_cons, List.length_cons]; omega
theorem mem_uniqS {l : List Bytes} {y : Bytes} : y ∈ uniqS l ↔ y ∈ l := by unfold uniqS; rw [foldl_putB_mem]; simp
theorem ss_uniqS (l : List Bytes) : SS (uniqS l) := foldl_putB_ss l (by simp [SS])
theorem len_uniqS (l : List Bytes) : (uniqS l).length ≤ l.length := by have := foldl_putB_len l []; simpa [uniqS] using this
theorem uniqS_congr {a b : List Bytes} (h : ∀ x, x ∈ a ↔ x ∈ b) : uniqS a = uniqS b := SS_unique (ss_uniqS a) (ss_uniqS b) (fun x => by rw [mem_uniqS, mem_uniqS, h])
theorem uniqS_snoc (a : List Bytes) (x : Bytes) : putB (uniqS a) x = uniqS (a ++ [x]) := by simp [uniqS]
theorem uniqS_fold (a b : List Bytes) : b.foldl putB (uniqS a) = uniqS (a ++ b) := by simp [uniqS]
theorem uniqS_fold2 (a b : List Bytes) : (uniqS b).foldl putB (uniqS a) = uniqS (a ++ b) := by
  rw [uniqS_fold]
  exact uniqS_congr (fun x => by simp [mem_uniqS])
theorem contains_uniqS (l : List Bytes) (v : Bytes) : (uniqS l).contains v = l.contains v := by
  rw [Bool.eq_iff_iff]
  simp [mem_uniqS]
/-! atoms, names, variables -/
def in1 (x : UInt8) : Bool := decide ((x.toNat : Int) ≥ 97) && decide ((x.toNat : Int) ≤ 122)
def in2 (x : UInt8) : Bool := decide ((x.toNat : Int) ≥ 48) && decide ((x.toNat : Int) ≤ 57)
def ab (x : UInt8) : Bool := in1 x || in2 x
def lenB (s : Bytes) : Bool := decide ((s.length : Int) ≥ 1) && decide ((s.length : Int) ≤ 8)
def atomB (s : Bytes) : Bool := s.all ab && lenB s
def headB : Bytes → Bool
  | [] => false
  | x :: _ => decide ((x.toNat : Int) ≥ 97)
def nameB (s : Bytes) : Bool := atomB s && headB s
def varB : Bytes → Bool
  | [] => false
  | x :: t => decide ((x.toNat : Int) = 63) && atomB t
def termB (s : Bytes) : Bool := atomB s || varB s
theorem var_not_atom {s : Bytes} (h : varB s = true) : atomB s = false := by
  cases s with
  | nil => cases h
  | cons x t =>
    simp only [varB, Bool.and_eq_true, decide_eq_true_eq] at h
    simp only [atomB, List.all_cons, ab, in1, in2]
    have : (x.toNat : Int) = 63 := h.1
    simp [this]
theorem wrapB (x : UInt8) : IntKind.i64.wrap ((x.toNat : Nat) : Int) = (x.toNat : Int) := wrap_in (InR.i64.2 (by have := x.toNat_lt; omega))
theorem wrap1 {n : Nat} (h : n ≤ 1099511627776) : IntKind.i64.wrap ((n : Int) + 1) = ((n + 1 : Nat) : Int) := by rw [wrap_in (InR.i64.2 (by omega))]; omega
theorem pcut1 {n : Nat} (h : 1 ≤ n) : pcut n (some (D.int .i64 1)) none = some (1, n) := by
  unfold pcut
  have : (0 : Int) ≤ 1 ∧ (1 : Int).toNat ≤ n := ⟨by decide, h⟩
  simp only [if_pos this]
  rfl
theorem in_eq (a b c : Int) : d_spec_l1In a b c = some (decide (a ≥ b) && decide (a ≤ c)) := by
  unfold d_spec_l1In
  cases decide (a ≥ b) <;> rfl
theorem sAtomL (a : Bytes) (k : Option Bool) (ha : a.length ≤ 1048576) : ∀ (rest pre : Bytes), a = pre ++ rest → ∀ n, rest.length < n → d_spec_IsAtom_L1 a k n (pre.length : Int) = bif rest.all ab then k else some false := by
  intro rest
  induction rest with
  | nil =>
    intro pre h n hn
    obtain ⟨m, rfl⟩ : ∃ m, n = m + 1 := ⟨n - 1, by simp at hn; omega⟩
    have e1 : decide ((pre.length : Int) < (a.length : Int)) = false := by simp [h]
    rw [d_spec_IsAtom_L1, e1]; rfl
  | cons x xs ih =>
    intro pre h n hn
    obtain ⟨m, rfl⟩ : ∃ m, n = m + 1 := ⟨n - 1, by simp at hn; omega⟩
    have hl : a.length = pre.length + (xs.length + 1) := by rw [h]; simp
    have e1 : decide ((pre.length : Int) < (a.length : Int)) = true := by rw [hl]; simp; omega
    have e4 : IntKind.i64.wrap ((pre.length : Int) + 1) = ((pre ++ [x]).length : Int) := by rw [wrap1 (by omega)]; simp
    have t := ih (pre ++ [x]) (by simp [h]) m (by simp at hn; omega)
    rw [d_spec_IsAtom_L1, e1, cond_true, atI_mid h, Option.bind_some, wrapB, in_eq, in_eq, Option.bind_some, Option.bind_some, e4, t, List.all_cons]
    show (bif !in1 x then (bif !in2 x then _ else _) else _) = bif (in1 x || in2 x) && xs.all ab then k else some false
    cases in1 x <;> cases in2 x <;> simp
theorem sAtom (a : Bytes) (ha : a.length ≤ 1048576) : d_spec_IsAtom a = some (atomB a) := by
  unfold d_spec_IsAtom
  refine (sAtomL a _ ha a [] rfl fuel (by unfold fuel; omega)).trans ?_
  rw [in_eq, Option.bind_some]
  show _ = some (a.all ab && lenB a)
  cases a.all ab <;> rfl
theorem iAtomL (a : Bytes) (k : Option Bool) (ha : a.length ≤ 1048576) : ∀ (rest pre : Bytes), a = pre ++ rest → ∀ n, rest.length < n → d_impl_IsAtom_L1 a k n (pre.length : Int) = bif rest.all ab then k else some false := by
  intro rest
  induction rest with
  | nil =>
    intro pre h n hn
    obtain ⟨m, rfl⟩ : ∃ m, n = m + 1 := ⟨n - 1, by simp at hn; omega⟩
    have e1 : decide ((pre.length : Int) < (a.length : Int)) = false := by simp [h]
    rw [d_impl_IsAtom_L1, e1]; rfl
  | cons x xs ih =>
    intro pre h n hn
    obtain ⟨m, rfl⟩ : ∃ m, n = m + 1 := ⟨n - 1, by simp at hn; omega⟩
    have hl : a.length = pre.length + (xs.length + 1) := by rw [h]; simp
    have e1 : decide ((pre.length : Int) < (a.length : Int)) = true := by rw [hl]; simp; omega
    have e4 : IntKind.i64.wrap ((pre.length : Int) + 1) = ((pre ++ [x]).length : Int) := by rw [wrap1 (by omega)]; simp
    have t := ih (pre ++ [x]) (by simp [h]) m (by simp at hn; omega)
    rw [d_impl_IsAtom_L1, e1, cond_true, atI_mid h, Option.bind_some, e4, t, List.all_cons]
    have c1 : decide ((x.toNat : Int) ≥ 97) = !decide ((x.toNat : Int) < 97) := by rw [Bool.eq_iff_iff]; simp
    have c2 : decide ((x.toNat : Int) ≤ 122) = !decide ((x.toNat : Int) > 122) := by rw [Bool.eq_iff_iff]; simp
    have c3 : decide ((x.toNat : Int) ≥ 48) = !decide ((x.toNat : Int) < 48) := by rw [Bool.eq_iff_iff]; simp
    have c4 : decide ((x.toNat : Int) ≤ 57) = !decide ((x.toNat : Int) > 57) := by rw [Bool.eq_iff_iff]; simp
    rw [ab, in1, in2, c1, c2, c3, c4]
    cases decide ((x.toNat : Int) < 97) <;> cases decide ((x.toNat : Int) > 122) <;> cases decide ((x.toNat : Int) < 48) <;> cases decide ((x.toNat : Int) > 57) <;> simp
theorem iAtom (a : Bytes) (ha : a.length ≤ 1048576) : d_impl_IsAtom a = some (atomB a) := by
  unfold d_impl_IsAtom
  rw [show d_impl_IsAtom_L1 a (some true) fuel 0 = _ from iAtomL a _ ha a [] rfl fuel (by unfold fuel; omega)]
  have c1 : decide ((a.length : Int) ≥ 1) = !decide ((a.length : Int) < 1) := by rw [Bool.eq_iff_iff]; simp
  have c2 : decide ((a.length : Int) ≤ 8) = !decide ((a.length : Int) > 8) := by rw [Bool.eq_iff_iff]; simp
  rw [atomB, lenB, c1, c2]
  cases decide ((a.length : Int) < 1) <;> cases decide ((a.length : Int) > 8) <;> cases a.all ab <;> rfl
theorem sName (a : Bytes) (ha : a.length ≤ 1048576) : d_spec_IsName a = some (nameB a) := by
  unfold d_spec_IsName
  rw [sAtom a ha, Option.bind_some, nameB]
  cases h : atomB a with
  | false => rfl
  | true =>
    cases a with
    | nil => simp [atomB, lenB] at h
    | cons x xs =>
      rw [show atI (x :: xs) 0 = some x from rfl]
      simp only [cond_true, Option.bind_some, wrapB, in_eq, Bool.true_and, Option.some.injEq, headB]
      simp only [atomB, List.all_cons, ab, in1, in2, Bool.and_eq_true, Bool.or_eq_true, decide_eq_true_eq] at h
      rw [Bool.eq_iff_iff]
      simp only [Bool.and_eq_true, decide_eq_true_eq]
      omega
theorem iName (a : Bytes) (ha : a.length ≤ 1048576) : d_impl_IsName a = some (nameB a) := by
  unfold d_impl_IsName
  rw [iAtom a ha, Option.bind_some, nameB]
  cases h : atomB a with
  | false => rfl
  | true =>
    cases a with
    | nil => simp [atomB, lenB] at h
    | cons x xs => rfl
theorem sVar (a : Bytes) (ha : a.length ≤ 1048576) : d_spec_IsVar a = some (varB a) := by
  unfold d_spec_IsVar
  cases a with
  | nil => rfl
  | cons x t =>
    simp only [List.length_cons] at ha
    rw [show atI (x :: t) 0 = some x from rfl, Option.bind_some, pcut1 (by simp), Option.bind_some]
    have e : (((x :: t).take ((x :: t).length)).drop 1) = t := by simp
    simp only [e, sAtom t (by omega), Option.bind_some, varB, beq_dec]
    cases t with
    | nil => cases decide ((x.toNat : Int) = 63) <;> rfl
    | cons y t =>
      have e2 : decide ((((x :: y :: t).length : Int) : Int) > 1) = true := by simp; omega
      rw [e2]
      cases decide ((x.toNat : Int) = 63) <;> simp
theorem iVar (a : Bytes) (ha : a.length ≤ 1048576) : d_impl_IsVar a = some (varB a) := by
  unfold d_impl_IsVar
  cases a with
  | nil => rfl
  | cons x t =>
    simp only [List.length_cons] at ha
    rw [show atI (x :: t) 0 = some x from rfl, Option.bind_some, pcut1 (by simp), Option.bind_some]
    have e : (((x :: t).take ((x :: t).length)).drop 1) = t := by simp
    simp only [e, iAtom t (by omega), Option.bind_some, varB, beq_dec]
    cases t with
    | nil => cases decide ((x.toNat : Int) = 63) <;> rfl
    | cons y t =>
      have e2 : decide ((((x :: y :: t).length : Int) : Int) > 1) = true := by simp; omega
      rw [e2]
      cases decide ((x.toNat : Int) = 63) <;> simp
theorem sTerm (a : Bytes) (ha : a.length ≤ 1048576) : d_spec_IsTerm a = some (termB a) := by
  unfold d_spec_IsTerm termB
  rw [sAtom a ha, sVar a ha]
  cases atomB a <;> simp
theorem iTerm (a : Bytes) (ha : a.length ≤ 1048576) : d_impl_IsTerm a = some (termB a) := by
  unfold d_impl_IsTerm termB
  rw [iAtom a ha, iVar a ha]
  cases atomB a <;> simp
theorem sTexts (l : List Bytes) (h : l.length ≤ 1099511627776) : d_spec_l1Texts l = some l := by
  unfold d_spec_l1Texts; rw [room0 h (by decide)]; rfl
theorem iTexts (l : List Bytes) (h : l.length ≤ 1099511627776) : d_impl_copyTexts l = some l := by
  unfold d_impl_copyTexts; rw [room0 h (by decide)]; rfl
theorem sSameT (a b : List Bytes) : d_spec_l1SameTexts a b = some (decide (a = b)) := by
  unfold d_spec_l1SameTexts
  exact eqL (c := tx) (f := fun x y => some (x == y)) (fun k => d_spec_l1SameTexts_L1 a b k) (fun _ _ => rfl) (fun _ _ _ _ => rfl) (fun x y => by rw [Option.some.injEq, Bool.eq_iff_iff]; simp)
theorem sHas (l : List Bytes) (v : Bytes) : d_spec_l1HasText l v = some (l.contains v) := by
  unfold d_spec_l1HasText
  have : ∀ (r : List Bytes) (i : Nat), d_spec_l1HasText_L1 l v (some false) r i = some (r.contains v) := by
    intro r
    induction r with
    | nil => intro i; rfl
    | cons x r ih =>
      intro i
      rw [d_spec_l1HasText_L1, ih, List.contains_cons]
      have : (x == v) = (v == x) := by rw [Bool.eq_iff_iff, beq_iff_eq, beq_iff_eq]; exact eq_comm
      rw [this]
      cases v == x <;> rfl
  exact this l 0
theorem iHas (l : List Bytes) (v : Bytes) : d_impl_hasText l v = some (l.contains v) := by
  unfold d_impl_hasText
  have : ∀ (r : List Bytes) (i : Nat), d_impl_hasText_L1 l v (some false) r i = some (r.contains v) := by
    intro r
    induction r with
    | nil => intro i; rfl
    | cons x r ih =>
      intro i
      rw [d_impl_hasText_L1, ih, List.contains_cons]
      have : (x == v) = (v == x) := by rw [Bool.eq_iff_iff, beq_iff_eq, beq_iff_eq]; exact eq_comm
      rw [this]
      cases v == x <;> rfl
  exact this l 0
theorem sPutL (a : List Bytes) (s : Bytes) (k : Bool → List Bytes → Option (List Bytes)) : ∀ (l : List Bytes) (i : Nat) (w : List Bytes), w.length + l.length < 1099511627776 →
    d_spec_l1Put_L1 a s k l i true w = k true (w ++ l) := by
  intro l
  induction l with
  | nil => intro i w _; simp [d_spec_l1Put_L1]
  | cons x xs ih =>
    intro i w h
    simp only [List.length_cons] at h
    rw [d_spec_l1Put_L1, Bool.not_true, cond_false, room1 (by omega) (by decide), cond_true, ih _ _ (by simp; omega)]
    simp
theorem sPutM (a : List Bytes) (s : Bytes) (k : Bool → List Bytes → Option (List Bytes)) (hk : ∀ w, w.length < 1099511627776 → k false w = some (w ++ [s])) (hk2 : ∀ w, k true w = some w) : ∀ (l : List Bytes) (i : Nat) (w : List Bytes), w.length + l.length + 1 < 1099511627776 →
    d_spec_l1Put_L1 a s k l i false w = some (w ++ putB l s) := by
  intro l
  induction l with
  | nil => intro i w h; rw [d_spec_l1Put_L1, hk w (by omega)]; rfl
  | cons x xs ih =>
    intro i w h
    simp only [List.length_cons] at h
    rw [d_spec_l1Put_L1, Bool.not_false, cond_true, putB]
    cases Op.bytesLess x s with
    | true =>
      simp only [Bool.not_true, cond_false, cond_true]
      rw [room1 (by omega) (by decide), cond_true, ih _ _ (by simp; omega)]
      simp
    | false =>
      simp only [Bool.not_false, cond_true, cond_false]
      cases x == s with
      | true =>
        simp only [Bool.not_true, cond_false, cond_true]
        rw [room1 (by omega) (by decide), cond_true, sPutL _ _ _ _ _ _ (by simp; omega), hk2]
        simp
      | false =>
        simp only [Bool.not_false, cond_true, cond_false]
        rw [room1 (by omega) (by decide), cond_true]
        have e : room (((w.map tx) ++ [[D.str s]]).length + ([[D.str x]]).length) 16 = true := roomK (by simp; omega) (by decide)
        rw [e, cond_true, sPutL _ _ _ _ _ _ (by simp; omega), hk2]
        simp
theorem sPut (l : List Bytes) (s : Bytes) (h : l.length + 1 < 1099511627776) : d_spec_l1Put l s = some (putB l s) := by
  unfold d_spec_l1Put
  rw [sPutM l s _ (fun w hw => by simp only [Bool.not_false, cond_true]; rw [room1 hw (by decide)]; rfl) (fun w => by simp) l 0 [] (by simpa using h)]
  rfl
def dd : Option Bytes → List Bytes → List Bytes
  | _, [] => []
  | p, x :: xs => if p = some x then dd (some x) xs else x :: dd (some x) xs
theorem dd_mem : ∀ {l : List Bytes} {p : Option Bytes} {y : Bytes}, y ∈ dd p l → y ∈ l
  | [], p, y, h => by cases h
  | x :: xs, p, y, h => by
    simp only [dd] at h
    split at h
    · exact List.mem_cons.2 (.inr (dd_mem h))
    · rcases List.mem_cons.1 h with rfl | h
      · simp
      · exact List.mem_cons.2 (.inr (dd_mem h))
theorem mem_dd : ∀ {l : List Bytes} {p : Option Bytes} {y : Bytes}, y ∈ l → p = some y ∨ y ∈ dd p l
  | x :: xs, p, y, h => by
    simp only [dd]
    rcases List.mem_cons.1 h with rfl | h
    · by_cases hp : p = some y
      · exact .inl hp
      · rw [if_neg hp]; exact .inr (by simp)
    · have := mem_dd (p := some x) h
      split
      · rename_i hp
        rcases this with e | e
        · exact .inl (hp.trans e)
        · exact .inr e
      · rcases this with e | e
        · cases e; exact .inr (by simp)
        · exact .inr (by simp [e])
theorem dd_ss : ∀ {l : List Bytes} {p : Option Bytes}, l.Pairwise (fun a b => Op.bytesLess b a = false) → (∀ q, p = some q → ∀ y ∈ l, Op.bytesLess y q = false) → SS (dd p l) ∧ ∀ q, p = some q → ∀ y ∈ dd p l, Op.bytesLess q y = true
  | [], p, _, _ => ⟨by simp [dd, SS], by simp [dd]⟩
  | x :: xs, p, h, hp => by
    obtain ⟨p1, p2⟩ := List.pairwise_cons.1 h
    obtain ⟨i1, i2⟩ := dd_ss (l := xs) (p := some x) p2 (fun q hq y hy => by cases hq; exact p1 y hy)
    simp only [dd]
    split
    · rename_i he
      exact ⟨i1, fun q hq y hy => by rw [he] at hq; cases hq; exact i2 x rfl y hy⟩
    · rename_i he
      refine ⟨List.pairwise_cons.2 ⟨fun y hy => i2 x rfl y hy, i1⟩, fun q hq y hy => ?_⟩
      have hqx : Op.bytesLess q x = true := by
        cases hc : Op.bytesLess q x with
        | true => rfl
        | false => exact absurd (by rw [hq, bl_tri hc (hp q hq x (by simp))]) he
      rcases List.mem_cons.1 hy with rfl | hy
      · exact hqx
      · exact bl_trans hqx (i2 x rfl y hy)
theorem sortB_eq (l : List Bytes) : sortB l = l.mergeSort (fun x y => !Op.bytesLess y x) := by
  unfold sortB
  congr 1
  funext x y
  rw [Go.Proofs.bytesLess_eq]
  rw [Bool.eq_iff_iff]
  simp [List.not_lt]
theorem sortB_sorted (l : List Bytes) : (sortB l).Pairwise (fun a b => Op.bytesLess b a = false) := by
  rw [sortB_eq]
  have := List.pairwise_mergeSort (le := fun x y => !Op.bytesLess y x) (fun a b c h1 h2 => by
    simp only [Bool.not_eq_true'] at h1 h2 ⊢
    cases hc : Op.bytesLess c a with
    | false => rfl
    | true =>
      cases hb : Op.bytesLess b a with
      | true => rw [h1] at hb; cases hb
      | false =>
        cases hb2 : Op.bytesLess a b with
        | true => have := bl_trans hc hb2; rw [h2] at this; cases this
        | false => have := bl_tri hb hb2; subst this; rw [h2] at hc; cases hc) (fun a b => by
    cases hc : Op.bytesLess b a with
    | false => simp
    | true => simp [bl_asymm hc]) l
  exact this.imp (fun h => by simpa using h)
theorem dd_uniq (l : List Bytes) : dd none (sortB l) = uniqS l := by
  refine SS_unique (dd_ss (sortB_sorted l) (by simp)).1 (ss_uniqS l) (fun x => ?_)
  rw [mem_uniqS]
  have hm : x ∈ sortB l ↔ x ∈ l := (sortB_perm l).mem_iff
  constructor
  · intro h; exact hm.1 (dd_mem h)
  · intro h
    rcases mem_dd (p := none) (hm.2 h) with h | h
    · cases h
    · exact h
theorem iSortedL (a : List Bytes) (k : List Bytes → Option (List Bytes)) (ha : a.length ≤ 1099511627775) : ∀ (rest pre : List Bytes) (w : List Bytes), sortB ([] ++ a) = pre ++ rest → w.length + rest.length ≤ 1099511627775 →
    d_impl_SortedTexts_L1 a k rest pre.length w = k (w ++ dd pre.getLast? rest) := by
  have hlen : (sortB ([] ++ a)).length = a.length := (sortB_perm _).length_eq
  intro rest
  induction rest with
  | nil => intro pre w _ _; simp [d_impl_SortedTexts_L1, dd]
  | cons x xs ih =>
    intro pre w h hw
    simp only [List.length_cons] at hw
    have hl : pre.length + (xs.length + 1) = a.length := by rw [← hlen, h]; simp
    have t := fun w' => ih (pre ++ [x]) w' (by rw [h]; simp)
    simp only [List.length_append, List.length_cons, List.length_nil, List.getLast?_concat] at t
    rw [d_impl_SortedTexts_L1]
    rcases List.eq_nil_or_concat pre with rfl | ⟨p, z, hpz⟩
    · have e0 : (((([] : List Bytes).length : Int) : Int) == 0) = true := rfl
      rw [e0, cond_true, room1 (by omega) (by decide), cond_true, t _ (by simp; omega)]
      simp [dd]
    · rw [List.concat_eq_append] at hpz
      subst hpz
      have e0 : (((((p ++ [z]).length : Int)) : Int) == 0) = false := by simp; omega
      have e1 : IntKind.i64.wrap ((((p ++ [z]).length : Int)) - 1) = (p.length : Int) := by
        rw [wrap_in (InR.i64.2 (by simp at hl ⊢; omega))]; simp
      have e2 : atI (sortB ([] ++ a)) (p.length : Int) = some z := atI_mid (xs := x :: xs) (by rw [h]; simp)
      rw [e0, cond_false, e1, e2, Option.bind_some]
      simp only [dd, List.getLast?_concat]
      by_cases hz : z = x
      · subst hz
        have e3 : ((z : Bytes) == z) = true := by simp
        rw [e3, Bool.not_true, cond_false, t _ (by omega), if_pos rfl]
      · have e3 : ((z : Bytes) == x) = false := by simpa using hz
        rw [e3, Bool.not_false, cond_true, room1 (by omega) (by decide), cond_true, t _ (by simp; omega), if_neg (by simpa using hz)]
        simp
theorem iSorted (l : List Bytes) (h : l.length < 1099511627775) : d_impl_SortedTexts l = some (uniqS l) := by
  have hlen : (sortB ([] ++ l)).length = l.length := (sortB_perm _).length_eq
  unfold d_impl_SortedTexts
  have e1 : decide ((([] : List Bytes) ++ l).length < 4611686018427387904) = true := by simp; omega
  rw [room0 (by omega) (by decide), cond_true, e1, cond_true, lenOk (by rw [hlen]; omega), cond_true]
  have := iSortedL l (fun q => some q) (by omega) (sortB ([] ++ l)) [] [] rfl (by rw [hlen]; simp; omega)
  rw [show ([] : List Bytes).length = 0 from rfl] at this
  rw [this, ← dd_uniq]
  simp
end Go.Cx
