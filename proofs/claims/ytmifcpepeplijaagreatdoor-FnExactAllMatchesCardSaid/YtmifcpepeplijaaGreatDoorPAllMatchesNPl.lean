/- What the laws' own helpers compute: sizes, copies, equality, marks. No condition. -/
import Derived.Test.YtmifcpepeplijaaGreatDoorNPlain
import Derived.Test.YtmifcpepeplijaaGreatDoorPAllMatchesNSz
import Derived.Test.YtmifcpepeplijaaGreatDoorPAllMatchesNTo
import Derived.Test.YtmifcpepeplijaaGreatDoorPAllMatchesNEq
import Derived.Test.YtmifcpepeplijaaGreatDoorPAllMatchesNHd
namespace Go.Cx
open Go.RowKit Go.Proofs
set_option linter.unusedVariables false
set_option linter.unusedSimpArgs false
theorem RdbL.sub {a b : List D} (h : RdbL a) (hs : ∀ d ∈ b, d ∈ a) : RdbL b := fun d hd => h d (hs d hd)
def mkL {α : Type} (w : α → Nat) (l : List α) : Nat := (l.map w).sum
theorem mkL_cons {α : Type} (w : α → Nat) (x : α) (l : List α) : mkL w (x :: l) = w x + mkL w l := by simp [mkL]
theorem mkL_le {α : Type} (m w : α → Nat) (l : List α) (h : ∀ x, m x ≤ 6 + 6 * w x) : mkL m l ≤ 6 * wtL w l := by
  induction l with
  | nil => simp [mkL]
  | cons x l ih => rw [mkL_cons, wtL_cons]; have := h x; omega
/-- marks from k on, n of them; and they are found again -/
def MkOk {α : Type} (n : Nat) (mark : Int → Option (α × Int)) (held : α → Int → Option Int) : Prop := ∀ k : Int, 1 ≤ k → k + (n : Int) ≤ 4611686018427387904 → ∃ x, mark k = some (x, k + (n : Int)) ∧ held x k = some (k + (n : Int))
theorem markTextL (K : Bytes → Option Bytes) : ∀ (n f : Nat) (k : Int) (v : Bytes), 0 ≤ k → k < 10 ^ n → n < f → ∃ s, d_laws_markText_L1 K f k v = (if v.length + n ≤ 1000 then K s else d_laws_markText_L1 K f k v) ∧ s.length ≤ v.length + n := by
  intro n
  induction n with
  | zero =>
    intro f k v h0 h1 hf
    obtain ⟨m, rfl⟩ : ∃ m, f = m + 1 := ⟨f - 1, by omega⟩
    have hk : k = 0 := by simp at h1; omega
    subst hk
    exact ⟨v, by split <;> simp [d_laws_markText_L1], by omega⟩
  | succ n ih =>
    intro f k v h0 h1 hf
    obtain ⟨m, rfl⟩ : ∃ m, f = m + 1 := ⟨f - 1, by omega⟩
    by_cases hk : k > 0
    · have hd : k / 10 < 10 ^ n := by
        have : (10 : Int) ^ (n + 1) = 10 ^ n * 10 := Int.pow_succ 10 n
        rw [this] at h1
        exact Int.ediv_lt_of_lt_mul (by omega) h1
      obtain ⟨s, e1, e2⟩ := ih m (k / 10) ([UInt8.ofNat (IntKind.u8.wrap (IntKind.i64.wrap ((48) + ((k : Int) % (10))))).toNat] ++ v) (by omega) hd (by omega)
      refine ⟨s, ?_, by simp at e2; omega⟩
      split
      · rename_i hv
        rw [if_pos (by simp; omega)] at e1
        have c1 : decide (k > 0) = true := by simp [hk]
        have c2 : (decide (0 ≤ k) && decide (0 < (10 : Int))) = true := by simp [h0]
        have c3 : decide (([UInt8.ofNat (IntKind.u8.wrap (IntKind.i64.wrap ((48) + ((k : Int) % (10))))).toNat] : Bytes).length + v.length ≤ maxLen) = true := by unfold maxLen; simp; omega
        rw [d_laws_markText_L1, c1, cond_true, c2, cond_true, c3, cond_true, cond_true]
        exact e1
      · rfl
    · have hk0 : k = 0 := by omega
      subst hk0
      exact ⟨v, by split <;> simp [d_laws_markText_L1], by omega⟩
theorem markText_ok (k : Int) (h0 : 1 ≤ k) (h1 : k ≤ 4611686018427387904) : ∃ s, d_laws_markText k = some s := by
  unfold d_laws_markText
  have c : decide ((k : Int) ≤ 0) = false := decide_eq_false (by omega)
  rw [c, cond_false]
  obtain ⟨s, e1, e2⟩ := markTextL (fun (z1_3 : Bytes) => (bif decide (([109] : Bytes).length + (z1_3 : Bytes).length ≤ maxLen) then (some (([109]) ++ (z1_3))) else none)) 20 fuel k [] (by omega) (by omega) (by decide)
  rw [if_pos (by simp)] at e1
  have c2 : decide (([109] : Bytes).length + s.length ≤ maxLen) = true := by unfold maxLen; simp at e2 ⊢; omega
  rw [e1, c2]
  exact ⟨_, rfl⟩
theorem szStringS_ok (l : List Bytes) (h : Rdb (.sl (l.map tx))) (v : Int) (h0 : 0 ≤ v) (h1 : v ≤ 1048576) : Szs (d_laws_szStringS l v) v (wtL tw l) := by
  unfold d_laws_szStringS
  exact szS h h0 h1 fun v' g0 g1 => szL (w := tw) (f := fun x v => some (IntKind.i64.wrap (v - (x.length : Int)))) (d_laws_szStringS_L1 l (fun z => some z)) (fun _ _ => rfl) (fun _ _ _ _ => by simp only [d_laws_szStringS_L1, Option.bind_some]) l (fun x hx v g0 g1 => ⟨_, rfl, by rw [wrapS ((RdbL.row h x hx (.str x) (by simp)).str) g0 g1]; omega, fun q => by rw [wrapS ((RdbL.row h x hx (.str x) (by simp)).str) g0 g1] at q ⊢; unfold tw; omega⟩) 0 v' g0 g1
theorem toStringS_ok (l : List Bytes) (h : wtL tw l ≤ 1048576) : d_laws_toStringS l = some l := by
  unfold d_laws_toStringS
  rw [roomB (by rw [List.length_map]; exact Nat.le_trans (wtL_len _ _) h) (by decide)]
  exact toL (c := tx) (f := (fun x => some x)) (d_laws_toStringS_L1 l (fun q => some q)) (fun _ _ => rfl) (fun _ _ _ _ => by simp only [d_laws_toStringS_L1, Option.bind_some]) (fun x hx => rfl)
theorem eqStringS_ok (a b : List Bytes) : d_laws_eqStringS a b = some (decide (a = b)) := by
  unfold d_laws_eqStringS
  exact eqL (c := tx) (f := (fun x y => some (x == y))) (fun k => d_laws_eqStringS_L1 a b k) (fun _ _ => rfl) (fun _ _ _ _ => rfl) (fun x y => by rw [Option.some.injEq, Bool.eq_iff_iff]; simp)
theorem mkStringS_ok (l : List Bytes) : MkOk (mkL (fun _ => 1) l) (d_laws_markStringS l) d_laws_heldStringS := by
  have key : ∀ (rest dn : List Bytes) (v : Int), 1 ≤ v → v + (mkL (fun _ => 1) rest : Int) ≤ 4611686018427387904 → ∃ rest' : List Bytes, (∀ k, d_laws_markStringS_L1 k rest dn v = k (dn ++ rest') (v + (mkL (fun _ => 1) rest : Int))) ∧ ∀ a k i, d_laws_heldStringS_L1 a k rest' i v = k (v + (mkL (fun _ => 1) rest : Int)) := by
    intro rest
    induction rest with
    | nil => intro dn v _ _; exact ⟨[], fun k => by simp [d_laws_markStringS_L1, mkL], fun a k i => by simp [d_laws_heldStringS_L1, mkL]⟩
    | cons x xs ih =>
      intro dn v h0 h1
      rw [mkL_cons] at h1 ⊢
      obtain ⟨s1, e1⟩ := markText_ok (v) (by omega) (by omega)
      obtain ⟨rest', p1, p2⟩ := ih (dn ++ [s1]) (v + 1) (by omega) (by omega)
      refine ⟨s1 :: rest', fun k => ?_, fun a k i => ?_⟩
      · rw [d_laws_markStringS_L1]
        simp (disch := omega) only [wrapK, Option.bind_some, e1]
        rw [p1]
        simp only [List.append_assoc, List.singleton_append]
        congr 1
        omega
      · rw [d_laws_heldStringS_L1]
        simp (disch := omega) only [wrapK, Option.bind_some, beq_self_eq_true, Bool.not_true, cond_false, bne_self_eq_false, e1]
        rw [p2]
        congr 1
        omega
  intro k h0 h1
  obtain ⟨l', p1, p2⟩ := key l [] k h0 h1
  exact ⟨l', by unfold d_laws_markStringS; rw [p1]; rfl, by unfold d_laws_heldStringS; rw [p2]⟩
def Fact.wt (x : Fact) : Nat := tw x.rel + wtL tw x.args
def Fact.mks (x : Fact) : Nat := 1 + mkL (fun _ => 1) x.args
theorem Fact.mks_le (x : Fact) : x.mks ≤ 6 + 6 * x.wt := by
  unfold Fact.mks Fact.wt
  have h0 := mkL_le (fun _ => 1) tw (x.args) (fun y => by omega)
  omega
theorem szFact_ok (x : Fact) (h : RdbL x.c) (v : Int) (h0 : 0 ≤ v) (h1 : v ≤ 1048576) : Szs (d_laws_szFact x v) v (Fact.wt x) := by
  unfold d_laws_szFact
  refine Szs.eq (n := (tw x.rel + (wtL tw x.args + (0)))) ?_ (by simp only [Fact.wt]; omega)
  refine Szs.str (m := (wtL tw x.args + (0))) ((h (.str x.rel) (by simp)).str) h0 h1 fun g1 e1 => ?_
  rw [e1]
  have l1 : v - (x.rel.length : Int) ≤ 1048576 := by omega
  refine (szStringS_ok x.args (h (.sl (x.args.map tx)) (by simp)) _ g1 l1).sub l1 g1 (m := 0) fun r2 g2 l2 => ?_
  exact Szs.fin
theorem toFact_ok (x : Fact) (h : Fact.wt x ≤ 1048576) : d_laws_toFact x = some x := by
  unfold d_laws_toFact
  simp only [toStringS_ok x.args (by simp only [Fact.wt] at h; omega), Option.bind_some]
theorem eqFact_ok (a b : Fact) : d_laws_eqFact a b = some (decide (a = b)) := by
  obtain ⟨a0, a1⟩ := a
  obtain ⟨b0, b1⟩ := b
  unfold d_laws_eqFact
  simp only [eqStringS_ok, Option.bind_some, beq_dec, bne]
  by_cases h0 : a0 = b0 <;> by_cases h1 : a1 = b1 <;> simp [h0, h1]
theorem szFactS_ok (l : List Fact) (h : Rdb (.sl (l.map Fact.c))) (v : Int) (h0 : 0 ≤ v) (h1 : v ≤ 1048576) : Szs (d_laws_szFactS l v) v (wtL Fact.wt l) := by
  unfold d_laws_szFactS
  exact szS h h0 h1 fun v' g0 g1 => szL (w := Fact.wt) (f := d_laws_szFact) (d_laws_szFactS_L1 l (fun z => some z)) (fun _ _ => rfl) (fun _ _ _ _ => rfl) l (fun x hx v g0 g1 => szFact_ok x (RdbL.row h x hx) v g0 g1) 0 v' g0 g1
theorem toFactS_ok (l : List Fact) (h : wtL Fact.wt l ≤ 1048576) : d_laws_toFactS l = some l := by
  unfold d_laws_toFactS
  rw [roomB (by rw [List.length_map]; exact Nat.le_trans (wtL_len _ _) h) (by decide)]
  exact toL (c := Fact.c) (f := d_laws_toFact) (d_laws_toFactS_L1 l (fun q => some q)) (fun _ _ => rfl) (fun _ _ _ _ => rfl) (fun x hx => toFact_ok x (by have := wtL_mem (w := Fact.wt) hx; omega))
theorem eqFactS_ok (a b : List Fact) : d_laws_eqFactS a b = some (decide (a = b)) := by
  unfold d_laws_eqFactS
  exact eqL (c := Fact.c) (f := d_laws_eqFact) (fun k => d_laws_eqFactS_L1 a b k) (fun _ _ => rfl) (fun _ _ _ _ => rfl) eqFact_ok
theorem mkFactS_ok (l : List Fact) : MkOk (mkL Fact.mks l) (d_laws_markFactS l) d_laws_heldFactS := by
  have key : ∀ (rest dn : List Fact) (v : Int), 1 ≤ v → v + (mkL Fact.mks rest : Int) ≤ 4611686018427387904 → ∃ rest' : List Fact, (∀ k, d_laws_markFactS_L1 k rest dn v = k (dn ++ rest') (v + (mkL Fact.mks rest : Int))) ∧ ∀ a k i, d_laws_heldFactS_L1 a k rest' i v = k (v + (mkL Fact.mks rest : Int)) := by
    intro rest
    induction rest with
    | nil => intro dn v _ _; exact ⟨[], fun k => by simp [d_laws_markFactS_L1, mkL], fun a k i => by simp [d_laws_heldFactS_L1, mkL]⟩
    | cons x xs ih =>
      intro dn v h0 h1
      rw [mkL_cons] at h1 ⊢
      simp only [Fact.mks] at h1 ⊢
      obtain ⟨s1, e1⟩ := markText_ok (v) (by omega) (by omega)
      obtain ⟨l2, e2, f2⟩ := mkStringS_ok x.args (v + 1) (by omega) (by omega)
      obtain ⟨rest', p1, p2⟩ := ih (dn ++ [(⟨(s1), (l2)⟩ : Fact)]) (v + 1 + (mkL (fun _ => 1) x.args : Int)) (by omega) (by omega)
      refine ⟨(⟨(s1), (l2)⟩ : Fact) :: rest', fun k => ?_, fun a k i => ?_⟩
      · rw [d_laws_markFactS_L1]
        simp (disch := omega) only [wrapK, Option.bind_some, e1, e2]
        rw [p1]
        simp only [List.append_assoc, List.singleton_append]
        congr 1
        omega
      · have g0 : decide (((v + 1 + (mkL (fun _ => 1) x.args : Int) : Int)) < 0) = false := decide_eq_false (by omega)
        rw [d_laws_heldFactS_L1]
        simp (disch := omega) only [wrapK, Option.bind_some, beq_self_eq_true, Bool.not_true, cond_false, bne_self_eq_false, e1, f2, g0]
        rw [p2]
        congr 1
        omega
  intro k h0 h1
  obtain ⟨l', p1, p2⟩ := key l [] k h0 h1
  exact ⟨l', by unfold d_laws_markFactS; rw [p1]; rfl, by unfold d_laws_heldFactS; rw [p2]⟩
theorem szPattern_ok (x : Fact) (h : RdbL x.c) (v : Int) (h0 : 0 ≤ v) (h1 : v ≤ 1048576) : Szs (d_laws_szPattern x v) v (Fact.wt x) := by
  unfold d_laws_szPattern
  refine Szs.eq (n := (tw x.rel + (wtL tw x.args + (0)))) ?_ (by simp only [Fact.wt]; omega)
  refine Szs.str (m := (wtL tw x.args + (0))) ((h (.str x.rel) (by simp)).str) h0 h1 fun g1 e1 => ?_
  rw [e1]
  have l1 : v - (x.rel.length : Int) ≤ 1048576 := by omega
  refine (szStringS_ok x.args (h (.sl (x.args.map tx)) (by simp)) _ g1 l1).sub l1 g1 (m := 0) fun r2 g2 l2 => ?_
  exact Szs.fin
theorem toPattern_ok (x : Fact) (h : Fact.wt x ≤ 1048576) : d_laws_toPattern x = some x := by
  unfold d_laws_toPattern
  simp only [toStringS_ok x.args (by simp only [Fact.wt] at h; omega), Option.bind_some]
theorem eqPattern_ok (a b : Fact) : d_laws_eqPattern a b = some (decide (a = b)) := by
  obtain ⟨a0, a1⟩ := a
  obtain ⟨b0, b1⟩ := b
  unfold d_laws_eqPattern
  simp only [eqStringS_ok, Option.bind_some, beq_dec, bne]
  by_cases h0 : a0 = b0 <;> by_cases h1 : a1 = b1 <;> simp [h0, h1]
def Pair.wt (x : Pair) : Nat := tw x.var + tw x.value
def Pair.mks (x : Pair) : Nat := 2
theorem Pair.mks_le (x : Pair) : x.mks ≤ 6 + 6 * x.wt := by
  unfold Pair.mks Pair.wt
  omega
theorem eqPair_ok (a b : Pair) : d_laws_eqPair a b = some (decide (a = b)) := by
  obtain ⟨a0, a1⟩ := a
  obtain ⟨b0, b1⟩ := b
  unfold d_laws_eqPair
  simp only [Option.bind_some, beq_dec, bne]
  by_cases h0 : a0 = b0 <;> by_cases h1 : a1 = b1 <;> simp [h0, h1]
theorem eqPairS_ok (a b : List Pair) : d_laws_eqPairS a b = some (decide (a = b)) := by
  unfold d_laws_eqPairS
  exact eqL (c := Pair.c) (f := d_laws_eqPair) (fun k => d_laws_eqPairS_L1 a b k) (fun _ _ => rfl) (fun _ _ _ _ => rfl) eqPair_ok
theorem mkPairS_ok (l : List Pair) : MkOk (mkL Pair.mks l) (d_laws_markPairS l) d_laws_heldPairS := by
  have key : ∀ (rest dn : List Pair) (v : Int), 1 ≤ v → v + (mkL Pair.mks rest : Int) ≤ 4611686018427387904 → ∃ rest' : List Pair, (∀ k, d_laws_markPairS_L1 k rest dn v = k (dn ++ rest') (v + (mkL Pair.mks rest : Int))) ∧ ∀ a k i, d_laws_heldPairS_L1 a k rest' i v = k (v + (mkL Pair.mks rest : Int)) := by
    intro rest
    induction rest with
    | nil => intro dn v _ _; exact ⟨[], fun k => by simp [d_laws_markPairS_L1, mkL], fun a k i => by simp [d_laws_heldPairS_L1, mkL]⟩
    | cons x xs ih =>
      intro dn v h0 h1
      rw [mkL_cons] at h1 ⊢
      simp only [Pair.mks] at h1 ⊢
      obtain ⟨s1, e1⟩ := markText_ok (v) (by omega) (by omega)
      obtain ⟨s2, e2⟩ := markText_ok (v + 1) (by omega) (by omega)
      obtain ⟨rest', p1, p2⟩ := ih (dn ++ [(⟨(s1), (s2)⟩ : Pair)]) (v + 1 + 1) (by omega) (by omega)
      refine ⟨(⟨(s1), (s2)⟩ : Pair) :: rest', fun k => ?_, fun a k i => ?_⟩
      · rw [d_laws_markPairS_L1]
        simp (disch := omega) only [wrapK, Option.bind_some, e1, e2]
        rw [p1]
        simp only [List.append_assoc, List.singleton_append]
        congr 1
        omega
      · rw [d_laws_heldPairS_L1]
        simp (disch := omega) only [wrapK, Option.bind_some, beq_self_eq_true, Bool.not_true, cond_false, bne_self_eq_false, e1, e2]
        rw [p2]
        congr 1
        omega
  intro k h0 h1
  obtain ⟨l', p1, p2⟩ := key l [] k h0 h1
  exact ⟨l', by unfold d_laws_markPairS; rw [p1]; rfl, by unfold d_laws_heldPairS; rw [p2]⟩
def Cond.wt (x : Cond) : Nat := tw x.pat.rel + wtL tw x.pat.args + tw x.left + tw x.right
def Cond.mks (x : Cond) : Nat := 4 + mkL (fun _ => 1) x.pat.args
theorem Cond.mks_le (x : Cond) : x.mks ≤ 6 + 6 * x.wt := by
  unfold Cond.mks Cond.wt
  have h0 := mkL_le (fun _ => 1) tw (x.pat.args) (fun y => by omega)
  omega
theorem szCond_ok (x : Cond) (h : RdbL x.c) (v : Int) (h0 : 0 ≤ v) (h1 : v ≤ 1048576) : Szs (d_laws_szCond x v) v (Cond.wt x) := by
  unfold d_laws_szCond
  refine Szs.eq (n := (Fact.wt x.pat + (tw x.left + (tw x.right + (0))))) ?_ (by simp only [Cond.wt, Fact.wt]; omega)
  refine (szPattern_ok x.pat (RdbL.sub h (by intro d hd; simp only [List.mem_cons, List.not_mem_nil, or_false] at hd ⊢; rcases hd with rfl | rfl <;> simp)) _ h0 h1).sub h1 h0 (m := (tw x.left + (tw x.right + (0)))) fun r1 g1 l1 => ?_
  refine Szs.str (m := (tw x.right + (0))) ((h (.str x.left) (by simp)).str) g1 l1 fun g2 e2 => ?_
  rw [e2]
  have l2 : r1 - (x.left.length : Int) ≤ 1048576 := by omega
  refine Szs.str (m := 0) ((h (.str x.right) (by simp)).str) g2 l2 fun g3 e3 => ?_
  rw [e3]
  have l3 : r1 - (x.left.length : Int) - (x.right.length : Int) ≤ 1048576 := by omega
  exact Szs.fin
theorem toCond_ok (x : Cond) (h : Cond.wt x ≤ 1048576) : d_laws_toCond x = some x := by
  unfold d_laws_toCond
  simp only [toPattern_ok x.pat (by simp only [Cond.wt, Fact.wt] at h ⊢; omega), Option.bind_some]
theorem eqCond_ok (a b : Cond) : d_laws_eqCond a b = some (decide (a = b)) := by
  obtain ⟨a0, a1, a2, a3⟩ := a
  obtain ⟨b0, b1, b2, b3⟩ := b
  unfold d_laws_eqCond
  simp only [eqPattern_ok, Option.bind_some, beq_dec, bne]
  by_cases h0 : a0 = b0 <;> by_cases h1 : a1 = b1 <;> by_cases h2 : a2 = b2 <;> by_cases h3 : a3 = b3 <;> simp [h0, h1, h2, h3]
theorem szCondS_ok (l : List Cond) (h : Rdb (.sl (l.map Cond.c))) (v : Int) (h0 : 0 ≤ v) (h1 : v ≤ 1048576) : Szs (d_laws_szCondS l v) v (wtL Cond.wt l) := by
  unfold d_laws_szCondS
  exact szS h h0 h1 fun v' g0 g1 => szL (w := Cond.wt) (f := d_laws_szCond) (d_laws_szCondS_L1 l (fun z => some z)) (fun _ _ => rfl) (fun _ _ _ _ => rfl) l (fun x hx v g0 g1 => szCond_ok x (RdbL.row h x hx) v g0 g1) 0 v' g0 g1
theorem toCondS_ok (l : List Cond) (h : wtL Cond.wt l ≤ 1048576) : d_laws_toCondS l = some l := by
  unfold d_laws_toCondS
  rw [roomB (by rw [List.length_map]; exact Nat.le_trans (wtL_len _ _) h) (by decide)]
  exact toL (c := Cond.c) (f := d_laws_toCond) (d_laws_toCondS_L1 l (fun q => some q)) (fun _ _ => rfl) (fun _ _ _ _ => rfl) (fun x hx => toCond_ok x (by have := wtL_mem (w := Cond.wt) hx; omega))
theorem eqCondS_ok (a b : List Cond) : d_laws_eqCondS a b = some (decide (a = b)) := by
  unfold d_laws_eqCondS
  exact eqL (c := Cond.c) (f := d_laws_eqCond) (fun k => d_laws_eqCondS_L1 a b k) (fun _ _ => rfl) (fun _ _ _ _ => rfl) eqCond_ok
theorem mkCondS_ok (l : List Cond) : MkOk (mkL Cond.mks l) (d_laws_markCondS l) (fun _ k => some (k + (mkL Cond.mks l : Int))) := by
  have key : ∀ (rest dn : List Cond) (v : Int), 1 ≤ v → v + (mkL Cond.mks rest : Int) ≤ 4611686018427387904 → ∃ rest' : List Cond, (∀ k, d_laws_markCondS_L1 k rest dn v = k (dn ++ rest') (v + (mkL Cond.mks rest : Int))) := by
    intro rest
    induction rest with
    | nil => intro dn v _ _; exact ⟨[], fun k => by simp [d_laws_markCondS_L1, mkL]⟩
    | cons x xs ih =>
      intro dn v h0 h1
      rw [mkL_cons] at h1 ⊢
      simp only [Cond.mks] at h1 ⊢
      obtain ⟨s2, e2⟩ := markText_ok (v + 1) (by omega) (by omega)
      obtain ⟨l3, e3, f3⟩ := mkStringS_ok x.pat.args (v + 1 + 1) (by omega) (by omega)
      obtain ⟨s4, e4⟩ := markText_ok (v + 1 + 1 + (mkL (fun _ => 1) x.pat.args : Int)) (by omega) (by omega)
      obtain ⟨s5, e5⟩ := markText_ok (v + 1 + 1 + (mkL (fun _ => 1) x.pat.args : Int) + 1) (by omega) (by omega)
      obtain ⟨rest', p1⟩ := ih (dn ++ [(⟨(v), (⟨(s2), (l3)⟩ : Fact), (s4), (s5)⟩ : Cond)]) (v + 1 + 1 + (mkL (fun _ => 1) x.pat.args : Int) + 1 + 1) (by omega) (by omega)
      refine ⟨(⟨(v), (⟨(s2), (l3)⟩ : Fact), (s4), (s5)⟩ : Cond) :: rest', fun k => ?_⟩
      · rw [d_laws_markCondS_L1]
        simp (disch := omega) only [wrapK, Option.bind_some, e2, e3, e4, e5]
        rw [p1]
        simp only [List.append_assoc, List.singleton_append]
        congr 1
        omega
  intro k h0 h1
  obtain ⟨l', p1⟩ := key l [] k h0 h1
  exact ⟨l', by unfold d_laws_markCondS; rw [p1]; rfl, rfl⟩
def Action.wt (x : Action) : Nat := tw x.pat.rel + wtL tw x.pat.args
def Action.mks (x : Action) : Nat := 2 + mkL (fun _ => 1) x.pat.args
theorem Action.mks_le (x : Action) : x.mks ≤ 6 + 6 * x.wt := by
  unfold Action.mks Action.wt
  have h0 := mkL_le (fun _ => 1) tw (x.pat.args) (fun y => by omega)
  omega
theorem szAction_ok (x : Action) (h : RdbL x.c) (v : Int) (h0 : 0 ≤ v) (h1 : v ≤ 1048576) : Szs (d_laws_szAction x v) v (Action.wt x) := by
  unfold d_laws_szAction
  refine Szs.eq (n := (Fact.wt x.pat + (0))) ?_ (by simp only [Action.wt, Fact.wt]; omega)
  refine (szPattern_ok x.pat (RdbL.sub h (by intro d hd; simp only [List.mem_cons, List.not_mem_nil, or_false] at hd ⊢; rcases hd with rfl | rfl <;> simp)) _ h0 h1).sub h1 h0 (m := 0) fun r1 g1 l1 => ?_
  exact Szs.fin
theorem toAction_ok (x : Action) (h : Action.wt x ≤ 1048576) : d_laws_toAction x = some x := by
  unfold d_laws_toAction
  simp only [toPattern_ok x.pat (by simp only [Action.wt, Fact.wt] at h ⊢; omega), Option.bind_some]
theorem eqAction_ok (a b : Action) : d_laws_eqAction a b = some (decide (a = b)) := by
  obtain ⟨a0, a1⟩ := a
  obtain ⟨b0, b1⟩ := b
  unfold d_laws_eqAction
  simp only [eqPattern_ok, Option.bind_some, beq_dec, bne]
  by_cases h0 : a0 = b0 <;> by_cases h1 : a1 = b1 <;> simp [h0, h1]
theorem szActionS_ok (l : List Action) (h : Rdb (.sl (l.map Action.c))) (v : Int) (h0 : 0 ≤ v) (h1 : v ≤ 1048576) : Szs (d_laws_szActionS l v) v (wtL Action.wt l) := by
  unfold d_laws_szActionS
  exact szS h h0 h1 fun v' g0 g1 => szL (w := Action.wt) (f := d_laws_szAction) (d_laws_szActionS_L1 l (fun z => some z)) (fun _ _ => rfl) (fun _ _ _ _ => rfl) l (fun x hx v g0 g1 => szAction_ok x (RdbL.row h x hx) v g0 g1) 0 v' g0 g1
theorem toActionS_ok (l : List Action) (h : wtL Action.wt l ≤ 1048576) : d_laws_toActionS l = some l := by
  unfold d_laws_toActionS
  rw [roomB (by rw [List.length_map]; exact Nat.le_trans (wtL_len _ _) h) (by decide)]
  exact toL (c := Action.c) (f := d_laws_toAction) (d_laws_toActionS_L1 l (fun q => some q)) (fun _ _ => rfl) (fun _ _ _ _ => rfl) (fun x hx => toAction_ok x (by have := wtL_mem (w := Action.wt) hx; omega))
theorem eqActionS_ok (a b : List Action) : d_laws_eqActionS a b = some (decide (a = b)) := by
  unfold d_laws_eqActionS
  exact eqL (c := Action.c) (f := d_laws_eqAction) (fun k => d_laws_eqActionS_L1 a b k) (fun _ _ => rfl) (fun _ _ _ _ => rfl) eqAction_ok
theorem mkActionS_ok (l : List Action) : MkOk (mkL Action.mks l) (d_laws_markActionS l) (fun _ k => some (k + (mkL Action.mks l : Int))) := by
  have key : ∀ (rest dn : List Action) (v : Int), 1 ≤ v → v + (mkL Action.mks rest : Int) ≤ 4611686018427387904 → ∃ rest' : List Action, (∀ k, d_laws_markActionS_L1 k rest dn v = k (dn ++ rest') (v + (mkL Action.mks rest : Int))) := by
    intro rest
    induction rest with
    | nil => intro dn v _ _; exact ⟨[], fun k => by simp [d_laws_markActionS_L1, mkL]⟩
    | cons x xs ih =>
      intro dn v h0 h1
      rw [mkL_cons] at h1 ⊢
      simp only [Action.mks] at h1 ⊢
      obtain ⟨s2, e2⟩ := markText_ok (v + 1) (by omega) (by omega)
      obtain ⟨l3, e3, f3⟩ := mkStringS_ok x.pat.args (v + 1 + 1) (by omega) (by omega)
      obtain ⟨rest', p1⟩ := ih (dn ++ [(⟨(v), (⟨(s2), (l3)⟩ : Fact)⟩ : Action)]) (v + 1 + 1 + (mkL (fun _ => 1) x.pat.args : Int)) (by omega) (by omega)
      refine ⟨(⟨(v), (⟨(s2), (l3)⟩ : Fact)⟩ : Action) :: rest', fun k => ?_⟩
      · rw [d_laws_markActionS_L1]
        simp (disch := omega) only [wrapK, Option.bind_some, e2, e3]
        rw [p1]
        simp only [List.append_assoc, List.singleton_append]
        congr 1
        omega
  intro k h0 h1
  obtain ⟨l', p1⟩ := key l [] k h0 h1
  exact ⟨l', by unfold d_laws_markActionS; rw [p1]; rfl, rfl⟩
def Rule.wt (x : Rule) : Nat := tw x.name + wtL Cond.wt x.conds + wtL Action.wt x.acts
def Rule.mks (x : Rule) : Nat := 2 + mkL Cond.mks x.conds + mkL Action.mks x.acts
theorem Rule.mks_le (x : Rule) : x.mks ≤ 6 + 6 * x.wt := by
  unfold Rule.mks Rule.wt
  have h0 := mkL_le Cond.mks Cond.wt (x.conds) (fun y => Cond.mks_le y)
  have h1 := mkL_le Action.mks Action.wt (x.acts) (fun y => Action.mks_le y)
  omega
theorem szRule_ok (x : Rule) (h : RdbL x.c) (v : Int) (h0 : 0 ≤ v) (h1 : v ≤ 1048576) : Szs (d_laws_szRule x v) v (Rule.wt x) := by
  unfold d_laws_szRule
  refine Szs.eq (n := (tw x.name + (wtL Cond.wt x.conds + (wtL Action.wt x.acts + (0))))) ?_ (by simp only [Rule.wt]; omega)
  refine Szs.str (m := (wtL Cond.wt x.conds + (wtL Action.wt x.acts + (0)))) ((h (.str x.name) (by simp)).str) h0 h1 fun g1 e1 => ?_
  rw [e1]
  have l1 : v - (x.name.length : Int) ≤ 1048576 := by omega
  refine (szCondS_ok x.conds (h (.sl (x.conds.map Cond.c)) (by simp)) _ g1 l1).sub l1 g1 (m := (wtL Action.wt x.acts + (0))) fun r2 g2 l2 => ?_
  refine (szActionS_ok x.acts (h (.sl (x.acts.map Action.c)) (by simp)) _ g2 l2).sub l2 g2 (m := 0) fun r3 g3 l3 => ?_
  exact Szs.fin
theorem toRule_ok (x : Rule) (h : Rule.wt x ≤ 1048576) : d_laws_toRule x = some x := by
  unfold d_laws_toRule
  simp only [toCondS_ok x.conds (by simp only [Rule.wt] at h; omega), toActionS_ok x.acts (by simp only [Rule.wt] at h; omega), Option.bind_some]
theorem eqRule_ok (a b : Rule) : d_laws_eqRule a b = some (decide (a = b)) := by
  obtain ⟨a0, a1, a2, a3⟩ := a
  obtain ⟨b0, b1, b2, b3⟩ := b
  unfold d_laws_eqRule
  simp only [eqActionS_ok, eqCondS_ok, Option.bind_some, beq_dec, bne]
  by_cases h0 : a0 = b0 <;> by_cases h1 : a1 = b1 <;> by_cases h2 : a2 = b2 <;> by_cases h3 : a3 = b3 <;> simp [h0, h1, h2, h3]
theorem szRuleS_ok (l : List Rule) (h : Rdb (.sl (l.map Rule.c))) (v : Int) (h0 : 0 ≤ v) (h1 : v ≤ 1048576) : Szs (d_laws_szRuleS l v) v (wtL Rule.wt l) := by
  unfold d_laws_szRuleS
  exact szS h h0 h1 fun v' g0 g1 => szL (w := Rule.wt) (f := d_laws_szRule) (d_laws_szRuleS_L1 l (fun z => some z)) (fun _ _ => rfl) (fun _ _ _ _ => rfl) l (fun x hx v g0 g1 => szRule_ok x (RdbL.row h x hx) v g0 g1) 0 v' g0 g1
theorem toRuleS_ok (l : List Rule) (h : wtL Rule.wt l ≤ 1048576) : d_laws_toRuleS l = some l := by
  unfold d_laws_toRuleS
  rw [roomB (by rw [List.length_map]; exact Nat.le_trans (wtL_len _ _) h) (by decide)]
  exact toL (c := Rule.c) (f := d_laws_toRule) (d_laws_toRuleS_L1 l (fun q => some q)) (fun _ _ => rfl) (fun _ _ _ _ => rfl) (fun x hx => toRule_ok x (by have := wtL_mem (w := Rule.wt) hx; omega))
theorem eqRuleS_ok (a b : List Rule) : d_laws_eqRuleS a b = some (decide (a = b)) := by
  unfold d_laws_eqRuleS
  exact eqL (c := Rule.c) (f := d_laws_eqRule) (fun k => d_laws_eqRuleS_L1 a b k) (fun _ _ => rfl) (fun _ _ _ _ => rfl) eqRule_ok
theorem mkRuleS_ok (l : List Rule) : MkOk (mkL Rule.mks l) (d_laws_markRuleS l) (fun _ k => some (k + (mkL Rule.mks l : Int))) := by
  have key : ∀ (rest dn : List Rule) (v : Int), 1 ≤ v → v + (mkL Rule.mks rest : Int) ≤ 4611686018427387904 → ∃ rest' : List Rule, (∀ k, d_laws_markRuleS_L1 k rest dn v = k (dn ++ rest') (v + (mkL Rule.mks rest : Int))) := by
    intro rest
    induction rest with
    | nil => intro dn v _ _; exact ⟨[], fun k => by simp [d_laws_markRuleS_L1, mkL]⟩
    | cons x xs ih =>
      intro dn v h0 h1
      rw [mkL_cons] at h1 ⊢
      simp only [Rule.mks] at h1 ⊢
      obtain ⟨s1, e1⟩ := markText_ok (v) (by omega) (by omega)
      obtain ⟨l3, e3, f3⟩ := mkCondS_ok x.conds (v + 1 + 1) (by omega) (by omega)
      obtain ⟨l4, e4, f4⟩ := mkActionS_ok x.acts (v + 1 + 1 + (mkL Cond.mks x.conds : Int)) (by omega) (by omega)
      obtain ⟨rest', p1⟩ := ih (dn ++ [(⟨(s1), (v + 1), (l3), (l4)⟩ : Rule)]) (v + 1 + 1 + (mkL Cond.mks x.conds : Int) + (mkL Action.mks x.acts : Int)) (by omega) (by omega)
      refine ⟨(⟨(s1), (v + 1), (l3), (l4)⟩ : Rule) :: rest', fun k => ?_⟩
      · rw [d_laws_markRuleS_L1]
        simp (disch := omega) only [wrapK, Option.bind_some, e1, e3, e4]
        rw [p1]
        simp only [List.append_assoc, List.singleton_append]
        congr 1
        omega
  intro k h0 h1
  obtain ⟨l', p1⟩ := key l [] k h0 h1
  exact ⟨l', by unfold d_laws_markRuleS; rw [p1]; rfl, rfl⟩
def Token.wt (x : Token) : Nat := wtL Fact.wt x.facts + wtL Pair.wt x.bind
def Token.mks (x : Token) : Nat := 0 + mkL Fact.mks x.facts + mkL Pair.mks x.bind
theorem Token.mks_le (x : Token) : x.mks ≤ 6 + 6 * x.wt := by
  unfold Token.mks Token.wt
  have h0 := mkL_le Fact.mks Fact.wt (x.facts) (fun y => Fact.mks_le y)
  have h1 := mkL_le Pair.mks Pair.wt (x.bind) (fun y => Pair.mks_le y)
  omega
def Match.wt (x : Match) : Nat := tw x.rule + wtL Fact.wt x.facts + wtL Pair.wt x.bind
def Match.mks (x : Match) : Nat := 1 + mkL Fact.mks x.facts + mkL Pair.mks x.bind
theorem Match.mks_le (x : Match) : x.mks ≤ 6 + 6 * x.wt := by
  unfold Match.mks Match.wt
  have h0 := mkL_le Fact.mks Fact.wt (x.facts) (fun y => Fact.mks_le y)
  have h1 := mkL_le Pair.mks Pair.wt (x.bind) (fun y => Pair.mks_le y)
  omega
theorem eqMatch_ok (a b : Match) : d_laws_eqMatch a b = some (decide (a = b)) := by
  obtain ⟨a0, a1, a2⟩ := a
  obtain ⟨b0, b1, b2⟩ := b
  unfold d_laws_eqMatch
  simp only [eqFactS_ok, eqPairS_ok, Option.bind_some, beq_dec, bne]
  by_cases h0 : a0 = b0 <;> by_cases h1 : a1 = b1 <;> by_cases h2 : a2 = b2 <;> simp [h0, h1, h2]
theorem eqMatchS_ok (a b : List Match) : d_laws_eqMatchS a b = some (decide (a = b)) := by
  unfold d_laws_eqMatchS
  exact eqL (c := Match.c) (f := d_laws_eqMatch) (fun k => d_laws_eqMatchS_L1 a b k) (fun _ _ => rfl) (fun _ _ _ _ => rfl) eqMatch_ok
theorem mkMatchS_ok (l : List Match) : MkOk (mkL Match.mks l) (d_laws_markMatchS l) d_laws_heldMatchS := by
  have key : ∀ (rest dn : List Match) (v : Int), 1 ≤ v → v + (mkL Match.mks rest : Int) ≤ 4611686018427387904 → ∃ rest' : List Match, (∀ k, d_laws_markMatchS_L1 k rest dn v = k (dn ++ rest') (v + (mkL Match.mks rest : Int))) ∧ ∀ a k i, d_laws_heldMatchS_L1 a k rest' i v = k (v + (mkL Match.mks rest : Int)) := by
    intro rest
    induction rest with
    | nil => intro dn v _ _; exact ⟨[], fun k => by simp [d_laws_markMatchS_L1, mkL], fun a k i => by simp [d_laws_heldMatchS_L1, mkL]⟩
    | cons x xs ih =>
      intro dn v h0 h1
      rw [mkL_cons] at h1 ⊢
      simp only [Match.mks] at h1 ⊢
      obtain ⟨s1, e1⟩ := markText_ok (v) (by omega) (by omega)
      obtain ⟨l2, e2, f2⟩ := mkFactS_ok x.facts (v + 1) (by omega) (by omega)
      obtain ⟨l3, e3, f3⟩ := mkPairS_ok x.bind (v + 1 + (mkL Fact.mks x.facts : Int)) (by omega) (by omega)
      obtain ⟨rest', p1, p2⟩ := ih (dn ++ [(⟨(s1), (l2), (l3)⟩ : Match)]) (v + 1 + (mkL Fact.mks x.facts : Int) + (mkL Pair.mks x.bind : Int)) (by omega) (by omega)
      refine ⟨(⟨(s1), (l2), (l3)⟩ : Match) :: rest', fun k => ?_, fun a k i => ?_⟩
      · rw [d_laws_markMatchS_L1]
        simp (disch := omega) only [wrapK, Option.bind_some, e1, e2, e3]
        rw [p1]
        simp only [List.append_assoc, List.singleton_append]
        congr 1
        omega
      · have g0 : decide (((v + 1 + (mkL Fact.mks x.facts : Int) : Int)) < 0) = false := decide_eq_false (by omega)
        have g1 : decide (((v + 1 + (mkL Fact.mks x.facts : Int) + (mkL Pair.mks x.bind : Int) : Int)) < 0) = false := decide_eq_false (by omega)
        rw [d_laws_heldMatchS_L1]
        simp (disch := omega) only [wrapK, Option.bind_some, beq_self_eq_true, Bool.not_true, cond_false, bne_self_eq_false, e1, f2, f3, g0, g1]
        rw [p2]
        congr 1
        omega
  intro k h0 h1
  obtain ⟨l', p1, p2⟩ := key l [] k h0 h1
  exact ⟨l', by unfold d_laws_markMatchS; rw [p1]; rfl, by unfold d_laws_heldMatchS; rw [p2]⟩
end Go.Cx
