/- What the laws' own helpers compute: sizes, copies, equality, marks. No condition. -/
import Derived.Test.YtocmmccbfnhfpaaNPlain
import Derived.Test.YtocmmccbfnhfpaaPTimesOfNSz
import Derived.Test.YtocmmccbfnhfpaaPTimesOfNTo
import Derived.Test.YtocmmccbfnhfpaaPTimesOfNEq
import Derived.Test.YtocmmccbfnhfpaaPTimesOfNHd
namespace Go.Cx
open Go.RowKit Go.Proofs
set_option linter.unusedVariables false
set_option linter.unusedSimpArgs false
theorem RdbL.sub {a b : List D} (h : RdbL a) (hs : ∀ d ∈ b, d ∈ a) : RdbL b := fun d hd => h d (hs d hd)
def mkL {α : Type} (w : α → Nat) (l : List α) : Nat := (l.map w).sum
theorem mkL_cons {α : Type} (w : α → Nat) (x : α) (l : List α) : mkL w (x :: l) = w x + mkL w l := by simp [mkL]
theorem mkL_le {α : Type} (m w : α → Nat) (l : List α) (h : ∀ x, m x ≤ 6 + 6 * w x) : mkL m l ≤ 6 * wtL w l := by
  induction l with
  | nil => simp [mkL]
  | cons x l ih => rw [mkL_cons, wtL_cons]; have := h x; omega
def zw (_ : Int) : Nat := 0
/-- marks from k on, n of them; and they are found again -/
def MkOk {α : Type} (n : Nat) (mark : Int → Option (α × Int)) (held : α → Int → Option Int) : Prop := ∀ k : Int, 1 ≤ k → k + (n : Int) ≤ 4611686018427387904 → ∃ x, mark k = some (x, k + (n : Int)) ∧ held x k = some (k + (n : Int))
theorem markTextL (K : Bytes → Option Bytes) : ∀ (n f : Nat) (k : Int) (v : Bytes), 0 ≤ k → k < 10 ^ n → n < f → ∃ s, d_laws_markText_L1 K f k v = (if v.length + n ≤ 1000 then K s else d_laws_markText_L1 K f k v) ∧ s.length ≤ v.length + n := by
  intro n
  induction n with
  | zero =>
    intro f k v h0 h1 hf
    obtain ⟨m, rfl⟩ : ∃ m, f = m + 1 := ⟨f - 1, by omega⟩
    have hk : k = 0 := by simp at h1; omega
    subst hk
    exact ⟨v, by split <;> simp [d_laws_markText_L1], by omega⟩
  | succ n ih =>
    intro f k v h0 h1 hf
    obtain ⟨m, rfl⟩ : ∃ m, f = m + 1 := ⟨f - 1, by omega⟩
    by_cases hk : k > 0
    · have hd : k / 10 < 10 ^ n := by
        have : (10 : Int) ^ (n + 1) = 10 ^ n * 10 := Int.pow_succ 10 n
        rw [this] at h1
        exact Int.ediv_lt_of_lt_mul (by omega) h1
      obtain ⟨s, e1, e2⟩ := ih m (k / 10) ([UInt8.ofNat (IntKind.u8.wrap (IntKind.i64.wrap ((48) + ((k : Int) % (10))))).toNat] ++ v) (by omega) hd (by omega)
      refine ⟨s, ?_, by simp at e2; omega⟩
      split
      · rename_i hv
        rw [if_pos (by simp; omega)] at e1
        have c1 : decide (k > 0) = true := by simp [hk]
        have c2 : (decide (0 ≤ k) && decide (0 < (10 : Int))) = true := by simp [h0]
        have c3 : decide (([UInt8.ofNat (IntKind.u8.wrap (IntKind.i64.wrap ((48) + ((k : Int) % (10))))).toNat] : Bytes).length + v.length ≤ maxLen) = true := by unfold maxLen; simp; omega
        rw [d_laws_markText_L1, c1, cond_true, c2, cond_true, c3, cond_true, cond_true]
        exact e1
      · rfl
    · have hk0 : k = 0 := by omega
      subst hk0
      exact ⟨v, by split <;> simp [d_laws_markText_L1], by omega⟩
theorem markText_ok (k : Int) (h0 : 1 ≤ k) (h1 : k ≤ 4611686018427387904) : ∃ s, d_laws_markText k = some s := by
  unfold d_laws_markText
  have c : decide ((k : Int) ≤ 0) = false := decide_eq_false (by omega)
  rw [c, cond_false]
  obtain ⟨s, e1, e2⟩ := markTextL (fun (z1_3 : Bytes) => (bif decide (([109] : Bytes).length + (z1_3 : Bytes).length ≤ maxLen) then (some (([109]) ++ (z1_3))) else none)) 20 fuel k [] (by omega) (by omega) (by decide)
  rw [if_pos (by simp)] at e1
  have c2 : decide (([109] : Bytes).length + s.length ≤ maxLen) = true := by unfold maxLen; simp at e2 ⊢; omega
  rw [e1, c2]
  exact ⟨_, rfl⟩
theorem szStringS_ok (l : List Bytes) (h : Rdb (.sl (l.map tx))) (v : Int) (h0 : 0 ≤ v) (h1 : v ≤ 1048576) : Szs (d_laws_szStringS l v) v (wtL tw l) := by
  unfold d_laws_szStringS
  exact szS h h0 h1 fun v' g0 g1 => szL (w := tw) (f := fun x v => some (IntKind.i64.wrap (v - (x.length : Int)))) (d_laws_szStringS_L1 l (fun z => some z)) (fun _ _ => rfl) (fun _ _ _ _ => by simp only [d_laws_szStringS_L1, Option.bind_some]) l (fun x hx v g0 g1 => ⟨_, rfl, by rw [wrapS ((RdbL.row h x hx (.str x) (by simp)).str) g0 g1]; omega, fun q => by rw [wrapS ((RdbL.row h x hx (.str x) (by simp)).str) g0 g1] at q ⊢; unfold tw; omega⟩) 0 v' g0 g1
theorem toStringS_ok (l : List Bytes) (h : wtL tw l ≤ 1048576) : d_laws_toStringS l = some l := by
  unfold d_laws_toStringS
  rw [roomB (by rw [List.length_map]; exact Nat.le_trans (wtL_len _ _) h) (by decide)]
  exact toL (c := tx) (f := (fun x => some x)) (d_laws_toStringS_L1 l (fun q => some q)) (fun _ _ => rfl) (fun _ _ _ _ => by simp only [d_laws_toStringS_L1, Option.bind_some]) (fun x hx => rfl)
theorem eqStringS_ok (a b : List Bytes) : d_laws_eqStringS a b = some (decide (a = b)) := by
  unfold d_laws_eqStringS
  exact eqL (c := tx) (f := (fun x y => some (x == y))) (fun k => d_laws_eqStringS_L1 a b k) (fun _ _ => rfl) (fun _ _ _ _ => rfl) (fun x y => by rw [Option.some.injEq, Bool.eq_iff_iff]; simp)
theorem mkStringS_ok (l : List Bytes) : MkOk (mkL (fun _ => 1) l) (d_laws_markStringS l) d_laws_heldStringS := by
  have key : ∀ (rest dn : List Bytes) (v : Int), 1 ≤ v → v + (mkL (fun _ => 1) rest : Int) ≤ 4611686018427387904 → ∃ rest' : List Bytes, (∀ k, d_laws_markStringS_L1 k rest dn v = k (dn ++ rest') (v + (mkL (fun _ => 1) rest : Int))) ∧ ∀ a k i, d_laws_heldStringS_L1 a k rest' i v = k (v + (mkL (fun _ => 1) rest : Int)) := by
    intro rest
    induction rest with
    | nil => intro dn v _ _; exact ⟨[], fun k => by simp [d_laws_markStringS_L1, mkL], fun a k i => by simp [d_laws_heldStringS_L1, mkL]⟩
    | cons x xs ih =>
      intro dn v h0 h1
      rw [mkL_cons] at h1 ⊢
      obtain ⟨s1, e1⟩ := markText_ok (v) (by omega) (by omega)
      obtain ⟨rest', p1, p2⟩ := ih (dn ++ [s1]) (v + 1) (by omega) (by omega)
      refine ⟨s1 :: rest', fun k => ?_, fun a k i => ?_⟩
      · rw [d_laws_markStringS_L1]
        simp (disch := omega) only [wrapK, Option.bind_some, e1]
        rw [p1]
        simp only [List.append_assoc, List.singleton_append]
        congr 1
        omega
      · rw [d_laws_heldStringS_L1]
        simp (disch := omega) only [wrapK, Option.bind_some, beq_self_eq_true, Bool.not_true, cond_false, bne_self_eq_false, e1]
        rw [p2]
        congr 1
        omega
  intro k h0 h1
  obtain ⟨l', p1, p2⟩ := key l [] k h0 h1
  exact ⟨l', by unfold d_laws_markStringS; rw [p1]; rfl, by unfold d_laws_heldStringS; rw [p2]⟩
theorem eqIntS_ok (a b : List Int) : d_laws_eqIntS a b = some (decide (a = b)) := by
  unfold d_laws_eqIntS
  exact eqL (c := ixx) (f := (fun x y => some (x == y))) (fun k => d_laws_eqIntS_L1 a b k) (fun _ _ => rfl) (fun _ _ _ _ => rfl) (fun x y => by rw [Option.some.injEq, Bool.eq_iff_iff]; simp)
theorem mkIntS_ok (l : List Int) : MkOk (mkL (fun _ => 1) l) (d_laws_markIntS l) d_laws_heldIntS := by
  have key : ∀ (rest dn : List Int) (v : Int), 1 ≤ v → v + (mkL (fun _ => 1) rest : Int) ≤ 4611686018427387904 → ∃ rest' : List Int, (∀ k, d_laws_markIntS_L1 k rest dn v = k (dn ++ rest') (v + (mkL (fun _ => 1) rest : Int))) ∧ ∀ a k i, d_laws_heldIntS_L1 a k rest' i v = k (v + (mkL (fun _ => 1) rest : Int)) := by
    intro rest
    induction rest with
    | nil => intro dn v _ _; exact ⟨[], fun k => by simp [d_laws_markIntS_L1, mkL], fun a k i => by simp [d_laws_heldIntS_L1, mkL]⟩
    | cons x xs ih =>
      intro dn v h0 h1
      rw [mkL_cons] at h1 ⊢
      obtain ⟨rest', p1, p2⟩ := ih (dn ++ [v]) (v + 1) (by omega) (by omega)
      refine ⟨v :: rest', fun k => ?_, fun a k i => ?_⟩
      · rw [d_laws_markIntS_L1]
        simp (disch := omega) only [wrapK, Option.bind_some]
        rw [p1]
        simp only [List.append_assoc, List.singleton_append]
        congr 1
        omega
      · rw [d_laws_heldIntS_L1]
        simp (disch := omega) only [wrapK, Option.bind_some, beq_self_eq_true, Bool.not_true, cond_false, bne_self_eq_false]
        rw [p2]
        congr 1
        omega
  intro k h0 h1
  obtain ⟨l', p1, p2⟩ := key l [] k h0 h1
  exact ⟨l', by unfold d_laws_markIntS; rw [p1]; rfl, by unfold d_laws_heldIntS; rw [p2]⟩
def Fact.wt (x : Fact) : Nat := tw x.rel + wtL tw x.args
def Fact.mks (x : Fact) : Nat := 1 + mkL (fun _ => 1) x.args
theorem Fact.mks_le (x : Fact) : x.mks ≤ 6 + 6 * x.wt := by
  unfold Fact.mks Fact.wt
  have h0 := mkL_le (fun _ => 1) tw (x.args) (fun y => by omega)
  omega
theorem szFact_ok (x : Fact) (h : RdbL x.c) (v : Int) (h0 : 0 ≤ v) (h1 : v ≤ 1048576) : Szs (d_laws_szFact x v) v (Fact.wt x) := by
  unfold d_laws_szFact
  refine Szs.eq (n := (tw x.rel + (wtL tw x.args + (0)))) ?_ (by simp only [Fact.wt]; omega)
  refine Szs.str (m := (wtL tw x.args + (0))) ((h (.str x.rel) (by simp)).str) h0 h1 fun g1 e1 => ?_
  rw [e1]
  have l1 : v - (x.rel.length : Int) ≤ 1048576 := by omega
  refine (szStringS_ok x.args (h (.sl (x.args.map tx)) (by simp)) _ g1 l1).sub l1 g1 (m := 0) fun r2 g2 l2 => ?_
  exact Szs.fin
theorem toFact_ok (x : Fact) (h : Fact.wt x ≤ 1048576) : d_laws_toFact x = some x := by
  unfold d_laws_toFact
  simp only [toStringS_ok x.args (by simp only [Fact.wt] at h; omega), Option.bind_some]
theorem eqFact_ok (a b : Fact) : d_laws_eqFact a b = some (decide (a = b)) := by
  obtain ⟨a0, a1⟩ := a
  obtain ⟨b0, b1⟩ := b
  unfold d_laws_eqFact
  simp only [eqStringS_ok, Option.bind_some, beq_dec, bne]
  by_cases h0 : a0 = b0 <;> by_cases h1 : a1 = b1 <;> simp [h0, h1]
theorem szFactS_ok (l : List Fact) (h : Rdb (.sl (l.map Fact.c))) (v : Int) (h0 : 0 ≤ v) (h1 : v ≤ 1048576) : Szs (d_laws_szFactS l v) v (wtL Fact.wt l) := by
  unfold d_laws_szFactS
  exact szS h h0 h1 fun v' g0 g1 => szL (w := Fact.wt) (f := d_laws_szFact) (d_laws_szFactS_L1 l (fun z => some z)) (fun _ _ => rfl) (fun _ _ _ _ => rfl) l (fun x hx v g0 g1 => szFact_ok x (RdbL.row h x hx) v g0 g1) 0 v' g0 g1
theorem toFactS_ok (l : List Fact) (h : wtL Fact.wt l ≤ 1048576) : d_laws_toFactS l = some l := by
  unfold d_laws_toFactS
  rw [roomB (by rw [List.length_map]; exact Nat.le_trans (wtL_len _ _) h) (by decide)]
  exact toL (c := Fact.c) (f := d_laws_toFact) (d_laws_toFactS_L1 l (fun q => some q)) (fun _ _ => rfl) (fun _ _ _ _ => rfl) (fun x hx => toFact_ok x (by have := wtL_mem (w := Fact.wt) hx; omega))
theorem eqFactS_ok (a b : List Fact) : d_laws_eqFactS a b = some (decide (a = b)) := by
  unfold d_laws_eqFactS
  exact eqL (c := Fact.c) (f := d_laws_eqFact) (fun k => d_laws_eqFactS_L1 a b k) (fun _ _ => rfl) (fun _ _ _ _ => rfl) eqFact_ok
theorem mkFactS_ok (l : List Fact) : MkOk (mkL Fact.mks l) (d_laws_markFactS l) d_laws_heldFactS := by
  have key : ∀ (rest dn : List Fact) (v : Int), 1 ≤ v → v + (mkL Fact.mks rest : Int) ≤ 4611686018427387904 → ∃ rest' : List Fact, (∀ k, d_laws_markFactS_L1 k rest dn v = k (dn ++ rest') (v + (mkL Fact.mks rest : Int))) ∧ ∀ a k i, d_laws_heldFactS_L1 a k rest' i v = k (v + (mkL Fact.mks rest : Int)) := by
    intro rest
    induction rest with
    | nil => intro dn v _ _; exact ⟨[], fun k => by simp [d_laws_markFactS_L1, mkL], fun a k i => by simp [d_laws_heldFactS_L1, mkL]⟩
    | cons x xs ih =>
      intro dn v h0 h1
      rw [mkL_cons] at h1 ⊢
      simp only [Fact.mks] at h1 ⊢
      obtain ⟨s1, e1⟩ := markText_ok (v) (by omega) (by omega)
      obtain ⟨l2, e2, f2⟩ := mkStringS_ok x.args (v + 1) (by omega) (by omega)
      obtain ⟨rest', p1, p2⟩ := ih (dn ++ [(⟨(s1), (l2)⟩ : Fact)]) (v + 1 + (mkL (fun _ => 1) x.args : Int)) (by omega) (by omega)
      refine ⟨(⟨(s1), (l2)⟩ : Fact) :: rest', fun k => ?_, fun a k i => ?_⟩
      · rw [d_laws_markFactS_L1]
        simp (disch := omega) only [wrapK, Option.bind_some, e1, e2]
        rw [p1]
        simp only [List.append_assoc, List.singleton_append]
        congr 1
        omega
      · have g0 : decide (((v + 1 + (mkL (fun _ => 1) x.args : Int) : Int)) < 0) = false := decide_eq_false (by omega)
        rw [d_laws_heldFactS_L1]
        simp (disch := omega) only [wrapK, Option.bind_some, beq_self_eq_true, Bool.not_true, cond_false, bne_self_eq_false, e1, f2, g0]
        rw [p2]
        congr 1
        omega
  intro k h0 h1
  obtain ⟨l', p1, p2⟩ := key l [] k h0 h1
  exact ⟨l', by unfold d_laws_markFactS; rw [p1]; rfl, by unfold d_laws_heldFactS; rw [p2]⟩
def Pair.wt (x : Pair) : Nat := tw x.var + tw x.value
def Pair.mks (x : Pair) : Nat := 2
theorem Pair.mks_le (x : Pair) : x.mks ≤ 6 + 6 * x.wt := by
  unfold Pair.mks Pair.wt
  omega
def Cond.wt (x : Cond) : Nat := tw x.pat.rel + wtL tw x.pat.args + tw x.left + tw x.right
def Cond.mks (x : Cond) : Nat := 4 + mkL (fun _ => 1) x.pat.args
theorem Cond.mks_le (x : Cond) : x.mks ≤ 6 + 6 * x.wt := by
  unfold Cond.mks Cond.wt
  have h0 := mkL_le (fun _ => 1) tw (x.pat.args) (fun y => by omega)
  omega
def Action.wt (x : Action) : Nat := tw x.pat.rel + wtL tw x.pat.args
def Action.mks (x : Action) : Nat := 2 + mkL (fun _ => 1) x.pat.args
theorem Action.mks_le (x : Action) : x.mks ≤ 6 + 6 * x.wt := by
  unfold Action.mks Action.wt
  have h0 := mkL_le (fun _ => 1) tw (x.pat.args) (fun y => by omega)
  omega
def Rule.wt (x : Rule) : Nat := tw x.name + wtL Cond.wt x.conds + wtL Action.wt x.acts
def Rule.mks (x : Rule) : Nat := 2 + mkL Cond.mks x.conds + mkL Action.mks x.acts
theorem Rule.mks_le (x : Rule) : x.mks ≤ 6 + 6 * x.wt := by
  unfold Rule.mks Rule.wt
  have h0 := mkL_le Cond.mks Cond.wt (x.conds) (fun y => Cond.mks_le y)
  have h1 := mkL_le Action.mks Action.wt (x.acts) (fun y => Action.mks_le y)
  omega
def Token.wt (x : Token) : Nat := wtL Fact.wt x.facts + wtL Pair.wt x.bind
def Token.mks (x : Token) : Nat := 0 + mkL Fact.mks x.facts + mkL Pair.mks x.bind
theorem Token.mks_le (x : Token) : x.mks ≤ 6 + 6 * x.wt := by
  unfold Token.mks Token.wt
  have h0 := mkL_le Fact.mks Fact.wt (x.facts) (fun y => Fact.mks_le y)
  have h1 := mkL_le Pair.mks Pair.wt (x.bind) (fun y => Pair.mks_le y)
  omega
def Alpha.wt (x : Alpha) : Nat := tw x.shape.rel + wtL tw x.shape.args + wtL Fact.wt x.facts
def Alpha.mks (x : Alpha) : Nat := 1 + mkL (fun _ => 1) x.shape.args + mkL Fact.mks x.facts
theorem Alpha.mks_le (x : Alpha) : x.mks ≤ 6 + 6 * x.wt := by
  unfold Alpha.mks Alpha.wt
  have h0 := mkL_le (fun _ => 1) tw (x.shape.args) (fun y => by omega)
  have h1 := mkL_le Fact.mks Fact.wt (x.facts) (fun y => Fact.mks_le y)
  omega
def Node.wt (x : Node) : Nat := tw x.cond.pat.rel + wtL tw x.cond.pat.args + tw x.cond.left + tw x.cond.right + wtL Token.wt x.tokens
def Node.mks (x : Node) : Nat := 6 + mkL (fun _ => 1) x.cond.pat.args + mkL Token.mks x.tokens
theorem Node.mks_le (x : Node) : x.mks ≤ 6 + 6 * x.wt := by
  unfold Node.mks Node.wt
  have h0 := mkL_le (fun _ => 1) tw (x.cond.pat.args) (fun y => by omega)
  have h1 := mkL_le Token.mks Token.wt (x.tokens) (fun y => Token.mks_le y)
  omega
def Network.wt (x : Network) : Nat := wtL Rule.wt x.rules + wtL zw x.ends + wtL Alpha.wt x.alphas + wtL Node.wt x.nodes + wtL Fact.wt x.facts
def Network.mks (x : Network) : Nat := 1 + mkL Rule.mks x.rules + mkL (fun _ => 1) x.ends + mkL Alpha.mks x.alphas + mkL Node.mks x.nodes + mkL Fact.mks x.facts
theorem Network.mks_le (x : Network) : x.mks ≤ 6 + 6 * x.wt := by
  unfold Network.mks Network.wt
  have h0 := mkL_le Rule.mks Rule.wt (x.rules) (fun y => Rule.mks_le y)
  have h1 := mkL_le (fun _ => 1) zw (x.ends) (fun y => by omega)
  have h2 := mkL_le Alpha.mks Alpha.wt (x.alphas) (fun y => Alpha.mks_le y)
  have h3 := mkL_le Node.mks Node.wt (x.nodes) (fun y => Node.mks_le y)
  have h4 := mkL_le Fact.mks Fact.wt (x.facts) (fun y => Fact.mks_le y)
  omega
def Stamp.wt (x : Stamp) : Nat := tw x.fact.rel + wtL tw x.fact.args
def Stamp.mks (x : Stamp) : Nat := 2 + mkL (fun _ => 1) x.fact.args
theorem Stamp.mks_le (x : Stamp) : x.mks ≤ 6 + 6 * x.wt := by
  unfold Stamp.mks Stamp.wt
  have h0 := mkL_le (fun _ => 1) tw (x.fact.args) (fun y => by omega)
  omega
theorem szStamp_ok (x : Stamp) (h : RdbL x.c) (v : Int) (h0 : 0 ≤ v) (h1 : v ≤ 1048576) : Szs (d_laws_szStamp x v) v (Stamp.wt x) := by
  unfold d_laws_szStamp
  refine Szs.eq (n := (Fact.wt x.fact + (0))) ?_ (by simp only [Stamp.wt, Fact.wt]; omega)
  refine (szFact_ok x.fact (RdbL.sub h (by intro d hd; simp only [List.mem_cons, List.not_mem_nil, or_false] at hd ⊢; rcases hd with rfl | rfl <;> simp)) _ h0 h1).sub h1 h0 (m := 0) fun r1 g1 l1 => ?_
  exact Szs.fin
theorem toStamp_ok (x : Stamp) (h : Stamp.wt x ≤ 1048576) : d_laws_toStamp x = some x := by
  unfold d_laws_toStamp
  simp only [toFact_ok x.fact (by simp only [Stamp.wt, Fact.wt] at h ⊢; omega), Option.bind_some]
theorem eqStamp_ok (a b : Stamp) : d_laws_eqStamp a b = some (decide (a = b)) := by
  obtain ⟨a0, a1⟩ := a
  obtain ⟨b0, b1⟩ := b
  unfold d_laws_eqStamp
  simp only [eqFact_ok, Option.bind_some, beq_dec, bne]
  by_cases h0 : a0 = b0 <;> by_cases h1 : a1 = b1 <;> simp [h0, h1]
theorem szStampS_ok (l : List Stamp) (h : Rdb (.sl (l.map Stamp.c))) (v : Int) (h0 : 0 ≤ v) (h1 : v ≤ 1048576) : Szs (d_laws_szStampS l v) v (wtL Stamp.wt l) := by
  unfold d_laws_szStampS
  exact szS h h0 h1 fun v' g0 g1 => szL (w := Stamp.wt) (f := d_laws_szStamp) (d_laws_szStampS_L1 l (fun z => some z)) (fun _ _ => rfl) (fun _ _ _ _ => rfl) l (fun x hx v g0 g1 => szStamp_ok x (RdbL.row h x hx) v g0 g1) 0 v' g0 g1
theorem toStampS_ok (l : List Stamp) (h : wtL Stamp.wt l ≤ 1048576) : d_laws_toStampS l = some l := by
  unfold d_laws_toStampS
  rw [roomB (by rw [List.length_map]; exact Nat.le_trans (wtL_len _ _) h) (by decide)]
  exact toL (c := Stamp.c) (f := d_laws_toStamp) (d_laws_toStampS_L1 l (fun q => some q)) (fun _ _ => rfl) (fun _ _ _ _ => rfl) (fun x hx => toStamp_ok x (by have := wtL_mem (w := Stamp.wt) hx; omega))
theorem eqStampS_ok (a b : List Stamp) : d_laws_eqStampS a b = some (decide (a = b)) := by
  unfold d_laws_eqStampS
  exact eqL (c := Stamp.c) (f := d_laws_eqStamp) (fun k => d_laws_eqStampS_L1 a b k) (fun _ _ => rfl) (fun _ _ _ _ => rfl) eqStamp_ok
theorem mkStampS_ok (l : List Stamp) : MkOk (mkL Stamp.mks l) (d_laws_markStampS l) (fun _ k => some (k + (mkL Stamp.mks l : Int))) := by
  have key : ∀ (rest dn : List Stamp) (v : Int), 1 ≤ v → v + (mkL Stamp.mks rest : Int) ≤ 4611686018427387904 → ∃ rest' : List Stamp, (∀ k, d_laws_markStampS_L1 k rest dn v = k (dn ++ rest') (v + (mkL Stamp.mks rest : Int))) := by
    intro rest
    induction rest with
    | nil => intro dn v _ _; exact ⟨[], fun k => by simp [d_laws_markStampS_L1, mkL]⟩
    | cons x xs ih =>
      intro dn v h0 h1
      rw [mkL_cons] at h1 ⊢
      simp only [Stamp.mks] at h1 ⊢
      obtain ⟨s1, e1⟩ := markText_ok (v) (by omega) (by omega)
      obtain ⟨l2, e2, f2⟩ := mkStringS_ok x.fact.args (v + 1) (by omega) (by omega)
      obtain ⟨rest', p1⟩ := ih (dn ++ [(⟨(⟨(s1), (l2)⟩ : Fact), (v + 1 + (mkL (fun _ => 1) x.fact.args : Int))⟩ : Stamp)]) (v + 1 + (mkL (fun _ => 1) x.fact.args : Int) + 1) (by omega) (by omega)
      refine ⟨(⟨(⟨(s1), (l2)⟩ : Fact), (v + 1 + (mkL (fun _ => 1) x.fact.args : Int))⟩ : Stamp) :: rest', fun k => ?_⟩
      · rw [d_laws_markStampS_L1]
        simp (disch := omega) only [wrapK, Option.bind_some, e1, e2]
        rw [p1]
        simp only [List.append_assoc, List.singleton_append]
        congr 1
        omega
  intro k h0 h1
  obtain ⟨l', p1⟩ := key l [] k h0 h1
  exact ⟨l', by unfold d_laws_markStampS; rw [p1]; rfl, rfl⟩
end Go.Cx
