/- What the laws' own helpers compute: sizes, copies, equality, marks. No condition. -/
import Derived.Test.YtoeenpcilfhjbaaDoorNPlain
import Derived.Test.YtoeenpcilfhjbaaDoorPChoiceLineNSz
import Derived.Test.YtoeenpcilfhjbaaDoorPChoiceLineNTo
import Derived.Test.YtoeenpcilfhjbaaDoorPChoiceLineNEq
import Derived.Test.YtoeenpcilfhjbaaDoorPChoiceLineNHd
namespace Go.Cx
open Go.RowKit Go.Proofs
set_option linter.unusedVariables false
set_option linter.unusedSimpArgs false
theorem RdbL.sub {a b : List D} (h : RdbL a) (hs : ∀ d ∈ b, d ∈ a) : RdbL b := fun d hd => h d (hs d hd)
def zw (_ : Int) : Nat := 0
theorem zw_sum (l : List Int) : (l.map zw).sum = 0 := by
  induction l with
  | nil => rfl
  | cons x l ih => simp only [List.map_cons, List.sum_cons, ih]; rfl
theorem szStringS_ok (l : List Bytes) (h : Rdb (.sl (l.map tx))) (v : Int) (h0 : 0 ≤ v) (h1 : v ≤ 1048576) : Szs (d_laws_szStringS l v) v (wtL tw l) := by
  unfold d_laws_szStringS
  exact szS h h0 h1 fun v' g0 g1 => szL (w := tw) (f := fun x v => some (IntKind.i64.wrap (v - (x.length : Int)))) (d_laws_szStringS_L1 l (fun z => some z)) (fun _ _ => rfl) (fun _ _ _ _ => by simp only [d_laws_szStringS_L1, Option.bind_some]) l (fun x hx v g0 g1 => ⟨_, rfl, by rw [wrapS ((RdbL.row h x hx (.str x) (by simp)).str) g0 g1]; omega, fun q => by rw [wrapS ((RdbL.row h x hx (.str x) (by simp)).str) g0 g1] at q ⊢; unfold tw; omega⟩) 0 v' g0 g1
theorem toStringS_ok (l : List Bytes) (h : wtL tw l ≤ 1048576) : d_laws_toStringS l = some l := by
  unfold d_laws_toStringS
  rw [roomB (by rw [List.length_map]; exact Nat.le_trans (wtL_len _ _) h) (by decide)]
  exact toL (c := tx) (f := (fun x => some x)) (d_laws_toStringS_L1 l (fun q => some q)) (fun _ _ => rfl) (fun _ _ _ _ => by simp only [d_laws_toStringS_L1, Option.bind_some]) (fun x hx => rfl)
theorem eqStringS_ok (a b : List Bytes) : d_laws_eqStringS a b = some (decide (a = b)) := by
  unfold d_laws_eqStringS
  exact eqL (c := tx) (f := (fun x y => some (x == y))) (fun k => d_laws_eqStringS_L1 a b k) (fun _ _ => rfl) (fun _ _ _ _ => rfl) (fun x y => by rw [Option.some.injEq, Bool.eq_iff_iff]; simp)
theorem szIntS_ok (l : List Int) (h : Rdb (.sl (l.map ixx))) (v : Int) (h0 : 0 ≤ v) (h1 : v ≤ 1048576) : Szs (d_laws_szIntS l v) v (wtL zw l) := by
  unfold d_laws_szIntS
  exact szS h h0 h1 fun v' g0 g1 => Szs.fin.eq (zw_sum l).symm
theorem toIntS_ok (l : List Int) (h : wtL zw l ≤ 1048576) : d_laws_toIntS l = some l := by
  unfold d_laws_toIntS
  rw [roomB (by rw [List.length_map]; exact Nat.le_trans (wtL_len _ _) h) (by decide)]
  exact toL (c := ixx) (f := (fun x => some x)) (d_laws_toIntS_L1 l (fun q => some q)) (fun _ _ => rfl) (fun _ _ _ _ => by simp only [d_laws_toIntS_L1, Option.bind_some]) (fun x hx => rfl)
theorem eqIntS_ok (a b : List Int) : d_laws_eqIntS a b = some (decide (a = b)) := by
  unfold d_laws_eqIntS
  exact eqL (c := ixx) (f := (fun x y => some (x == y))) (fun k => d_laws_eqIntS_L1 a b k) (fun _ _ => rfl) (fun _ _ _ _ => rfl) (fun x y => by rw [Option.some.injEq, Bool.eq_iff_iff]; simp)
def Fact.wt (x : Fact) : Nat := tw x.rel + wtL tw x.args
theorem szFact_ok (x : Fact) (h : RdbL x.c) (v : Int) (h0 : 0 ≤ v) (h1 : v ≤ 1048576) : Szs (d_laws_szFact x v) v (Fact.wt x) := by
  unfold d_laws_szFact
  refine Szs.eq (n := (tw x.rel + (wtL tw x.args + (0)))) ?_ (by simp only [Fact.wt]; omega)
  refine Szs.str (m := (wtL tw x.args + (0))) ((h (.str x.rel) (by simp)).str) h0 h1 fun g1 e1 => ?_
  rw [e1]
  have l1 : v - (x.rel.length : Int) ≤ 1048576 := by omega
  refine (szStringS_ok x.args (h (.sl (x.args.map tx)) (by simp)) _ g1 l1).sub l1 g1 (m := 0) fun r2 g2 l2 => ?_
  exact Szs.fin
theorem toFact_ok (x : Fact) (h : Fact.wt x ≤ 1048576) : d_laws_toFact x = some x := by
  unfold d_laws_toFact
  simp only [toStringS_ok x.args (by simp only [Fact.wt] at h; omega), Option.bind_some]
theorem eqFact_ok (a b : Fact) : d_laws_eqFact a b = some (decide (a = b)) := by
  obtain ⟨a0, a1⟩ := a
  obtain ⟨b0, b1⟩ := b
  unfold d_laws_eqFact
  simp only [eqStringS_ok, Option.bind_some, beq_dec, bne]
  by_cases h0 : a0 = b0 <;> by_cases h1 : a1 = b1 <;> simp [h0, h1]
theorem szFactS_ok (l : List Fact) (h : Rdb (.sl (l.map Fact.c))) (v : Int) (h0 : 0 ≤ v) (h1 : v ≤ 1048576) : Szs (d_laws_szFactS l v) v (wtL Fact.wt l) := by
  unfold d_laws_szFactS
  exact szS h h0 h1 fun v' g0 g1 => szL (w := Fact.wt) (f := d_laws_szFact) (d_laws_szFactS_L1 l (fun z => some z)) (fun _ _ => rfl) (fun _ _ _ _ => rfl) l (fun x hx v g0 g1 => szFact_ok x (RdbL.row h x hx) v g0 g1) 0 v' g0 g1
theorem toFactS_ok (l : List Fact) (h : wtL Fact.wt l ≤ 1048576) : d_laws_toFactS l = some l := by
  unfold d_laws_toFactS
  rw [roomB (by rw [List.length_map]; exact Nat.le_trans (wtL_len _ _) h) (by decide)]
  exact toL (c := Fact.c) (f := d_laws_toFact) (d_laws_toFactS_L1 l (fun q => some q)) (fun _ _ => rfl) (fun _ _ _ _ => rfl) (fun x hx => toFact_ok x (by have := wtL_mem (w := Fact.wt) hx; omega))
theorem eqFactS_ok (a b : List Fact) : d_laws_eqFactS a b = some (decide (a = b)) := by
  unfold d_laws_eqFactS
  exact eqL (c := Fact.c) (f := d_laws_eqFact) (fun k => d_laws_eqFactS_L1 a b k) (fun _ _ => rfl) (fun _ _ _ _ => rfl) eqFact_ok
def Pair.wt (x : Pair) : Nat := tw x.var + tw x.value
theorem szPair_ok (x : Pair) (h : RdbL x.c) (v : Int) (h0 : 0 ≤ v) (h1 : v ≤ 1048576) : Szs (d_laws_szPair x v) v (Pair.wt x) := by
  unfold d_laws_szPair
  refine Szs.eq (n := (tw x.var + (tw x.value + (0)))) ?_ (by simp only [Pair.wt]; omega)
  refine Szs.str (m := (tw x.value + (0))) ((h (.str x.var) (by simp)).str) h0 h1 fun g1 e1 => ?_
  rw [e1]
  have l1 : v - (x.var.length : Int) ≤ 1048576 := by omega
  refine Szs.str (m := 0) ((h (.str x.value) (by simp)).str) g1 l1 fun g2 e2 => ?_
  rw [e2]
  have l2 : v - (x.var.length : Int) - (x.value.length : Int) ≤ 1048576 := by omega
  exact Szs.fin
theorem toPair_ok (x : Pair) (h : Pair.wt x ≤ 1048576) : d_laws_toPair x = some x := by
  unfold d_laws_toPair
  rfl
theorem eqPair_ok (a b : Pair) : d_laws_eqPair a b = some (decide (a = b)) := by
  obtain ⟨a0, a1⟩ := a
  obtain ⟨b0, b1⟩ := b
  unfold d_laws_eqPair
  simp only [Option.bind_some, beq_dec, bne]
  by_cases h0 : a0 = b0 <;> by_cases h1 : a1 = b1 <;> simp [h0, h1]
theorem szPairS_ok (l : List Pair) (h : Rdb (.sl (l.map Pair.c))) (v : Int) (h0 : 0 ≤ v) (h1 : v ≤ 1048576) : Szs (d_laws_szPairS l v) v (wtL Pair.wt l) := by
  unfold d_laws_szPairS
  exact szS h h0 h1 fun v' g0 g1 => szL (w := Pair.wt) (f := d_laws_szPair) (d_laws_szPairS_L1 l (fun z => some z)) (fun _ _ => rfl) (fun _ _ _ _ => rfl) l (fun x hx v g0 g1 => szPair_ok x (RdbL.row h x hx) v g0 g1) 0 v' g0 g1
theorem toPairS_ok (l : List Pair) (h : wtL Pair.wt l ≤ 1048576) : d_laws_toPairS l = some l := by
  unfold d_laws_toPairS
  rw [roomB (by rw [List.length_map]; exact Nat.le_trans (wtL_len _ _) h) (by decide)]
  exact toL (c := Pair.c) (f := d_laws_toPair) (d_laws_toPairS_L1 l (fun q => some q)) (fun _ _ => rfl) (fun _ _ _ _ => rfl) (fun x hx => toPair_ok x (by have := wtL_mem (w := Pair.wt) hx; omega))
theorem eqPairS_ok (a b : List Pair) : d_laws_eqPairS a b = some (decide (a = b)) := by
  unfold d_laws_eqPairS
  exact eqL (c := Pair.c) (f := d_laws_eqPair) (fun k => d_laws_eqPairS_L1 a b k) (fun _ _ => rfl) (fun _ _ _ _ => rfl) eqPair_ok
def Match.wt (x : Match) : Nat := tw x.rule + wtL Fact.wt x.facts + wtL Pair.wt x.bind
theorem szMatch_ok (x : Match) (h : RdbL x.c) (v : Int) (h0 : 0 ≤ v) (h1 : v ≤ 1048576) : Szs (d_laws_szMatch x v) v (Match.wt x) := by
  unfold d_laws_szMatch
  refine Szs.eq (n := (tw x.rule + (wtL Fact.wt x.facts + (wtL Pair.wt x.bind + (0))))) ?_ (by simp only [Match.wt]; omega)
  refine Szs.str (m := (wtL Fact.wt x.facts + (wtL Pair.wt x.bind + (0)))) ((h (.str x.rule) (by simp)).str) h0 h1 fun g1 e1 => ?_
  rw [e1]
  have l1 : v - (x.rule.length : Int) ≤ 1048576 := by omega
  refine (szFactS_ok x.facts (h (.sl (x.facts.map Fact.c)) (by simp)) _ g1 l1).sub l1 g1 (m := (wtL Pair.wt x.bind + (0))) fun r2 g2 l2 => ?_
  refine (szPairS_ok x.bind (h (.sl (x.bind.map Pair.c)) (by simp)) _ g2 l2).sub l2 g2 (m := 0) fun r3 g3 l3 => ?_
  exact Szs.fin
theorem toMatch_ok (x : Match) (h : Match.wt x ≤ 1048576) : d_laws_toMatch x = some x := by
  unfold d_laws_toMatch
  simp only [toFactS_ok x.facts (by simp only [Match.wt] at h; omega), toPairS_ok x.bind (by simp only [Match.wt] at h; omega), Option.bind_some]
theorem eqMatch_ok (a b : Match) : d_laws_eqMatch a b = some (decide (a = b)) := by
  obtain ⟨a0, a1, a2⟩ := a
  obtain ⟨b0, b1, b2⟩ := b
  unfold d_laws_eqMatch
  simp only [eqFactS_ok, eqPairS_ok, Option.bind_some, beq_dec, bne]
  by_cases h0 : a0 = b0 <;> by_cases h1 : a1 = b1 <;> by_cases h2 : a2 = b2 <;> simp [h0, h1, h2]
def Choice.wt (x : Choice) : Nat := tw x.mtch.rule + wtL Fact.wt x.mtch.facts + wtL Pair.wt x.mtch.bind + wtL zw x.times
theorem szChoice_ok (x : Choice) (h : RdbL x.c) (v : Int) (h0 : 0 ≤ v) (h1 : v ≤ 1048576) : Szs (d_laws_szChoice x v) v (Choice.wt x) := by
  unfold d_laws_szChoice
  refine Szs.eq (n := (Match.wt x.mtch + (wtL zw x.times + (0)))) ?_ (by simp only [Choice.wt, Match.wt]; omega)
  refine (szMatch_ok x.mtch (RdbL.sub h (by intro d hd; simp only [List.mem_cons, List.not_mem_nil, or_false] at hd ⊢; rcases hd with rfl | rfl | rfl <;> simp)) _ h0 h1).sub h1 h0 (m := (wtL zw x.times + (0))) fun r1 g1 l1 => ?_
  refine (szIntS_ok x.times (h (.sl (x.times.map ixx)) (by simp)) _ g1 l1).sub l1 g1 (m := 0) fun r2 g2 l2 => ?_
  exact Szs.fin
theorem toChoice_ok (x : Choice) (h : Choice.wt x ≤ 1048576) : d_laws_toChoice x = some x := by
  unfold d_laws_toChoice
  simp only [toMatch_ok x.mtch (by simp only [Choice.wt, Match.wt] at h ⊢; omega), toIntS_ok x.times (by simp only [Choice.wt] at h; omega), Option.bind_some]
theorem eqChoice_ok (a b : Choice) : d_laws_eqChoice a b = some (decide (a = b)) := by
  obtain ⟨a0, a1, a2, a3, a4⟩ := a
  obtain ⟨b0, b1, b2, b3, b4⟩ := b
  unfold d_laws_eqChoice
  simp only [eqIntS_ok, eqMatch_ok, Option.bind_some, beq_dec, bne]
  by_cases h0 : a0 = b0 <;> by_cases h1 : a1 = b1 <;> by_cases h2 : a2 = b2 <;> by_cases h3 : a3 = b3 <;> by_cases h4 : a4 = b4 <;> simp [h0, h1, h2, h3, h4]
end Go.Cx
