/- What the laws' own helpers compute: sizes, copies, equality. No condition. -/
import Derived.Test.YthmnbfhkocgpiaaNPlain
import Derived.Test.YthmnbfhkocgpiaaNSz
import Derived.Test.YthmnbfhkocgpiaaNTo
import Derived.Test.YthmnbfhkocgpiaaNEq
namespace Go.Cx
open Go.RowKit Go.Proofs
set_option linter.unusedVariables false
set_option linter.unusedSimpArgs false
theorem RdbL.sub {a b : List D} (h : RdbL a) (hs : ∀ d ∈ b, d ∈ a) : RdbL b := fun d hd => h d (hs d hd)
theorem szStringS_ok (l : List Bytes) (h : Rdb (.sl (l.map tx))) (v : Int) (h0 : 0 ≤ v) (h1 : v ≤ 1048576) : Szs (d_laws_szStringS l v) v (Lb Sb l) := by
  unfold d_laws_szStringS
  exact szS h h0 h1 fun v' g0 g1 => szL (f := fun x v => some (IntKind.i64.wrap (v - (x.length : Int)))) (d_laws_szStringS_L1 l (fun z => some z)) (fun _ _ => rfl) (fun _ _ _ _ => by simp only [d_laws_szStringS_L1, Option.bind_some]) l (fun x hx v g0 g1 => ⟨_, rfl, by rw [wrapS ((RdbL.row h x hx (.str x) (by simp)).str) g0 g1]; omega, fun q => by rw [wrapS ((RdbL.row h x hx (.str x) (by simp)).str) g0 g1] at q; unfold Sb; omega⟩) 0 v' g0 g1
theorem toStringS_ok (l : List Bytes) (h : Lb Sb l) : d_laws_toStringS l = some l := by
  unfold d_laws_toStringS
  rw [roomB (by simpa using h.1) (by decide)]
  exact toL (c := tx) (f := (fun x => some x)) (d_laws_toStringS_L1 l (fun q => some q)) (fun _ _ => rfl) (fun _ _ _ _ => by simp only [d_laws_toStringS_L1, Option.bind_some]) (fun x hx => rfl)
theorem eqStringS_ok (a b : List Bytes) : d_laws_eqStringS a b = some (decide (a = b)) := by
  unfold d_laws_eqStringS
  exact eqL (c := tx) (f := (fun x y => some (x == y))) (fun k => d_laws_eqStringS_L1 a b k) (fun _ _ => rfl) (fun _ _ _ _ => rfl) (fun x y => by rw [Option.some.injEq, Bool.eq_iff_iff]; simp)
def Bd.Fact (x : Fact) : Prop := Sb x.rel ∧ Lb Sb x.args
theorem szFact_ok (x : Fact) (h : RdbL x.c) (v : Int) (h0 : 0 ≤ v) (h1 : v ≤ 1048576) : Szs (d_laws_szFact x v) v (Bd.Fact x) := by
  unfold d_laws_szFact
  refine Szs.str ((h (.str x.rel) (by simp)).str) h0 h1 fun g1 e1 => ?_
  rw [e1]
  have l1 : v - (x.rel.length : Int) ≤ 1048576 := by omega
  have s1 : Sb x.rel := by unfold Sb; omega
  refine (szStringS_ok x.args (h (.sl (x.args.map tx)) (by simp)) _ g1 l1).sub l1 g1 fun r2 g2 l2 q2 => ?_
  exact Szs.fin ⟨s1, q2⟩
theorem toFact_ok (x : Fact) (h : Bd.Fact x) : d_laws_toFact x = some x := by
  unfold d_laws_toFact
  simp only [toStringS_ok x.args h.2, Option.bind_some]
theorem eqFact_ok (a b : Fact) : d_laws_eqFact a b = some (decide (a = b)) := by
  obtain ⟨a0, a1⟩ := a
  obtain ⟨b0, b1⟩ := b
  unfold d_laws_eqFact
  simp only [eqStringS_ok, Option.bind_some, beq_dec, bne]
  by_cases h0 : a0 = b0 <;> by_cases h1 : a1 = b1 <;> simp [h0, h1]
theorem szFactS_ok (l : List Fact) (h : Rdb (.sl (l.map Fact.c))) (v : Int) (h0 : 0 ≤ v) (h1 : v ≤ 1048576) : Szs (d_laws_szFactS l v) v (Lb Bd.Fact l) := by
  unfold d_laws_szFactS
  exact szS h h0 h1 fun v' g0 g1 => szL (f := d_laws_szFact) (d_laws_szFactS_L1 l (fun z => some z)) (fun _ _ => rfl) (fun _ _ _ _ => rfl) l (fun x hx v g0 g1 => szFact_ok x (RdbL.row h x hx) v g0 g1) 0 v' g0 g1
theorem toFactS_ok (l : List Fact) (h : Lb Bd.Fact l) : d_laws_toFactS l = some l := by
  unfold d_laws_toFactS
  rw [roomB (by simpa using h.1) (by decide)]
  exact toL (c := Fact.c) (f := d_laws_toFact) (d_laws_toFactS_L1 l (fun q => some q)) (fun _ _ => rfl) (fun _ _ _ _ => rfl) (fun x hx => toFact_ok x (h.2 x hx))
theorem eqFactS_ok (a b : List Fact) : d_laws_eqFactS a b = some (decide (a = b)) := by
  unfold d_laws_eqFactS
  exact eqL (c := Fact.c) (f := d_laws_eqFact) (fun k => d_laws_eqFactS_L1 a b k) (fun _ _ => rfl) (fun _ _ _ _ => rfl) eqFact_ok
def Bd.Pair (x : Pair) : Prop := Sb x.var ∧ Sb x.value
theorem szPair_ok (x : Pair) (h : RdbL x.c) (v : Int) (h0 : 0 ≤ v) (h1 : v ≤ 1048576) : Szs (d_laws_szPair x v) v (Bd.Pair x) := by
  unfold d_laws_szPair
  refine Szs.str ((h (.str x.var) (by simp)).str) h0 h1 fun g1 e1 => ?_
  rw [e1]
  have l1 : v - (x.var.length : Int) ≤ 1048576 := by omega
  have s1 : Sb x.var := by unfold Sb; omega
  refine Szs.str ((h (.str x.value) (by simp)).str) g1 l1 fun g2 e2 => ?_
  rw [e2]
  have l2 : v - (x.var.length : Int) - (x.value.length : Int) ≤ 1048576 := by omega
  have s2 : Sb x.value := by unfold Sb; omega
  exact Szs.fin ⟨s1, s2⟩
theorem toPair_ok (x : Pair) (h : Bd.Pair x) : d_laws_toPair x = some x := by
  unfold d_laws_toPair
  rfl
theorem eqPair_ok (a b : Pair) : d_laws_eqPair a b = some (decide (a = b)) := by
  obtain ⟨a0, a1⟩ := a
  obtain ⟨b0, b1⟩ := b
  unfold d_laws_eqPair
  simp only [Option.bind_some, beq_dec, bne]
  by_cases h0 : a0 = b0 <;> by_cases h1 : a1 = b1 <;> simp [h0, h1]
theorem szPairS_ok (l : List Pair) (h : Rdb (.sl (l.map Pair.c))) (v : Int) (h0 : 0 ≤ v) (h1 : v ≤ 1048576) : Szs (d_laws_szPairS l v) v (Lb Bd.Pair l) := by
  unfold d_laws_szPairS
  exact szS h h0 h1 fun v' g0 g1 => szL (f := d_laws_szPair) (d_laws_szPairS_L1 l (fun z => some z)) (fun _ _ => rfl) (fun _ _ _ _ => rfl) l (fun x hx v g0 g1 => szPair_ok x (RdbL.row h x hx) v g0 g1) 0 v' g0 g1
theorem toPairS_ok (l : List Pair) (h : Lb Bd.Pair l) : d_laws_toPairS l = some l := by
  unfold d_laws_toPairS
  rw [roomB (by simpa using h.1) (by decide)]
  exact toL (c := Pair.c) (f := d_laws_toPair) (d_laws_toPairS_L1 l (fun q => some q)) (fun _ _ => rfl) (fun _ _ _ _ => rfl) (fun x hx => toPair_ok x (h.2 x hx))
theorem eqPairS_ok (a b : List Pair) : d_laws_eqPairS a b = some (decide (a = b)) := by
  unfold d_laws_eqPairS
  exact eqL (c := Pair.c) (f := d_laws_eqPair) (fun k => d_laws_eqPairS_L1 a b k) (fun _ _ => rfl) (fun _ _ _ _ => rfl) eqPair_ok
def Bd.Match (x : Match) : Prop := Sb x.rule ∧ Lb Bd.Fact x.facts ∧ Lb Bd.Pair x.bind
theorem szMatch_ok (x : Match) (h : RdbL x.c) (v : Int) (h0 : 0 ≤ v) (h1 : v ≤ 1048576) : Szs (d_laws_szMatch x v) v (Bd.Match x) := by
  unfold d_laws_szMatch
  refine Szs.str ((h (.str x.rule) (by simp)).str) h0 h1 fun g1 e1 => ?_
  rw [e1]
  have l1 : v - (x.rule.length : Int) ≤ 1048576 := by omega
  have s1 : Sb x.rule := by unfold Sb; omega
  refine (szFactS_ok x.facts (h (.sl (x.facts.map Fact.c)) (by simp)) _ g1 l1).sub l1 g1 fun r2 g2 l2 q2 => ?_
  refine (szPairS_ok x.bind (h (.sl (x.bind.map Pair.c)) (by simp)) _ g2 l2).sub l2 g2 fun r3 g3 l3 q3 => ?_
  exact Szs.fin ⟨s1, q2, q3⟩
theorem toMatch_ok (x : Match) (h : Bd.Match x) : d_laws_toMatch x = some x := by
  unfold d_laws_toMatch
  simp only [toFactS_ok x.facts h.2.1, toPairS_ok x.bind h.2.2, Option.bind_some]
theorem eqMatch_ok (a b : Match) : d_laws_eqMatch a b = some (decide (a = b)) := by
  obtain ⟨a0, a1, a2⟩ := a
  obtain ⟨b0, b1, b2⟩ := b
  unfold d_laws_eqMatch
  simp only [eqFactS_ok, eqPairS_ok, Option.bind_some, beq_dec, bne]
  by_cases h0 : a0 = b0 <;> by_cases h1 : a1 = b1 <;> by_cases h2 : a2 = b2 <;> simp [h0, h1, h2]
end Go.Cx
