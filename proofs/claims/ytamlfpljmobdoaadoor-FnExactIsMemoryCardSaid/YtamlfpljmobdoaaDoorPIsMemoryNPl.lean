/- What the laws' own helpers compute: sizes, copies, equality, marks. No condition. -/
import Derived.Test.YtamlfpljmobdoaaDoorNPlain
import Derived.Test.YtamlfpljmobdoaaDoorPIsMemoryNSz
import Derived.Test.YtamlfpljmobdoaaDoorPIsMemoryNTo
import Derived.Test.YtamlfpljmobdoaaDoorPIsMemoryNEq
import Derived.Test.YtamlfpljmobdoaaDoorPIsMemoryNHd
namespace Go.Cx
open Go.RowKit Go.Proofs
set_option linter.unusedVariables false
set_option linter.unusedSimpArgs false
theorem RdbL.sub {a b : List D} (h : RdbL a) (hs : ∀ d ∈ b, d ∈ a) : RdbL b := fun d hd => h d (hs d hd)
def zw (_ : Int) : Nat := 0
theorem szStringS_ok (l : List Bytes) (h : Rdb (.sl (l.map tx))) (v : Int) (h0 : 0 ≤ v) (h1 : v ≤ 1048576) : Szs (d_laws_szStringS l v) v (wtL tw l) := by
  unfold d_laws_szStringS
  exact szS h h0 h1 fun v' g0 g1 => szL (w := tw) (f := fun x v => some (IntKind.i64.wrap (v - (x.length : Int)))) (d_laws_szStringS_L1 l (fun z => some z)) (fun _ _ => rfl) (fun _ _ _ _ => by simp only [d_laws_szStringS_L1, Option.bind_some]) l (fun x hx v g0 g1 => ⟨_, rfl, by rw [wrapS ((RdbL.row h x hx (.str x) (by simp)).str) g0 g1]; omega, fun q => by rw [wrapS ((RdbL.row h x hx (.str x) (by simp)).str) g0 g1] at q ⊢; unfold tw; omega⟩) 0 v' g0 g1
theorem toStringS_ok (l : List Bytes) (h : wtL tw l ≤ 1048576) : d_laws_toStringS l = some l := by
  unfold d_laws_toStringS
  rw [roomB (by rw [List.length_map]; exact Nat.le_trans (wtL_len _ _) h) (by decide)]
  exact toL (c := tx) (f := (fun x => some x)) (d_laws_toStringS_L1 l (fun q => some q)) (fun _ _ => rfl) (fun _ _ _ _ => by simp only [d_laws_toStringS_L1, Option.bind_some]) (fun x hx => rfl)
theorem eqStringS_ok (a b : List Bytes) : d_laws_eqStringS a b = some (decide (a = b)) := by
  unfold d_laws_eqStringS
  exact eqL (c := tx) (f := (fun x y => some (x == y))) (fun k => d_laws_eqStringS_L1 a b k) (fun _ _ => rfl) (fun _ _ _ _ => rfl) (fun x y => by rw [Option.some.injEq, Bool.eq_iff_iff]; simp)
def Fact.wt (x : Fact) : Nat := tw x.rel + wtL tw x.args
theorem szFact_ok (x : Fact) (h : RdbL x.c) (v : Int) (h0 : 0 ≤ v) (h1 : v ≤ 1048576) : Szs (d_laws_szFact x v) v (Fact.wt x) := by
  unfold d_laws_szFact
  refine Szs.eq (n := (tw x.rel + (wtL tw x.args + (0)))) ?_ (by simp only [Fact.wt]; omega)
  refine Szs.str (m := (wtL tw x.args + (0))) ((h (.str x.rel) (by simp)).str) h0 h1 fun g1 e1 => ?_
  rw [e1]
  have l1 : v - (x.rel.length : Int) ≤ 1048576 := by omega
  refine (szStringS_ok x.args (h (.sl (x.args.map tx)) (by simp)) _ g1 l1).sub l1 g1 (m := 0) fun r2 g2 l2 => ?_
  exact Szs.fin
theorem toFact_ok (x : Fact) (h : Fact.wt x ≤ 1048576) : d_laws_toFact x = some x := by
  unfold d_laws_toFact
  simp only [toStringS_ok x.args (by simp only [Fact.wt] at h; omega), Option.bind_some]
theorem eqFact_ok (a b : Fact) : d_laws_eqFact a b = some (decide (a = b)) := by
  obtain ⟨a0, a1⟩ := a
  obtain ⟨b0, b1⟩ := b
  unfold d_laws_eqFact
  simp only [eqStringS_ok, Option.bind_some, beq_dec, bne]
  by_cases h0 : a0 = b0 <;> by_cases h1 : a1 = b1 <;> simp [h0, h1]
def Pair.wt (x : Pair) : Nat := tw x.var + tw x.value
def Cond.wt (x : Cond) : Nat := tw x.pat.rel + wtL tw x.pat.args + tw x.left + tw x.right
def Action.wt (x : Action) : Nat := tw x.pat.rel + wtL tw x.pat.args
def Rule.wt (x : Rule) : Nat := tw x.name + wtL Cond.wt x.conds + wtL Action.wt x.acts
def Token.wt (x : Token) : Nat := wtL Fact.wt x.facts + wtL Pair.wt x.bind
def Alpha.wt (x : Alpha) : Nat := tw x.shape.rel + wtL tw x.shape.args + wtL Fact.wt x.facts
def Node.wt (x : Node) : Nat := tw x.cond.pat.rel + wtL tw x.cond.pat.args + tw x.cond.left + tw x.cond.right + wtL Token.wt x.tokens
def Network.wt (x : Network) : Nat := wtL Rule.wt x.rules + wtL zw x.ends + wtL Alpha.wt x.alphas + wtL Node.wt x.nodes + wtL Fact.wt x.facts
def Stamp.wt (x : Stamp) : Nat := tw x.fact.rel + wtL tw x.fact.args
theorem szStamp_ok (x : Stamp) (h : RdbL x.c) (v : Int) (h0 : 0 ≤ v) (h1 : v ≤ 1048576) : Szs (d_laws_szStamp x v) v (Stamp.wt x) := by
  unfold d_laws_szStamp
  refine Szs.eq (n := (Fact.wt x.fact + (0))) ?_ (by simp only [Stamp.wt, Fact.wt]; omega)
  refine (szFact_ok x.fact (RdbL.sub h (by intro d hd; simp only [List.mem_cons, List.not_mem_nil, or_false] at hd ⊢; rcases hd with rfl | rfl <;> simp)) _ h0 h1).sub h1 h0 (m := 0) fun r1 g1 l1 => ?_
  exact Szs.fin
theorem toStamp_ok (x : Stamp) (h : Stamp.wt x ≤ 1048576) : d_laws_toStamp x = some x := by
  unfold d_laws_toStamp
  simp only [toFact_ok x.fact (by simp only [Stamp.wt, Fact.wt] at h ⊢; omega), Option.bind_some]
theorem eqStamp_ok (a b : Stamp) : d_laws_eqStamp a b = some (decide (a = b)) := by
  obtain ⟨a0, a1⟩ := a
  obtain ⟨b0, b1⟩ := b
  unfold d_laws_eqStamp
  simp only [eqFact_ok, Option.bind_some, beq_dec, bne]
  by_cases h0 : a0 = b0 <;> by_cases h1 : a1 = b1 <;> simp [h0, h1]
theorem szStampS_ok (l : List Stamp) (h : Rdb (.sl (l.map Stamp.c))) (v : Int) (h0 : 0 ≤ v) (h1 : v ≤ 1048576) : Szs (d_laws_szStampS l v) v (wtL Stamp.wt l) := by
  unfold d_laws_szStampS
  exact szS h h0 h1 fun v' g0 g1 => szL (w := Stamp.wt) (f := d_laws_szStamp) (d_laws_szStampS_L1 l (fun z => some z)) (fun _ _ => rfl) (fun _ _ _ _ => rfl) l (fun x hx v g0 g1 => szStamp_ok x (RdbL.row h x hx) v g0 g1) 0 v' g0 g1
theorem toStampS_ok (l : List Stamp) (h : wtL Stamp.wt l ≤ 1048576) : d_laws_toStampS l = some l := by
  unfold d_laws_toStampS
  rw [roomB (by rw [List.length_map]; exact Nat.le_trans (wtL_len _ _) h) (by decide)]
  exact toL (c := Stamp.c) (f := d_laws_toStamp) (d_laws_toStampS_L1 l (fun q => some q)) (fun _ _ => rfl) (fun _ _ _ _ => rfl) (fun x hx => toStamp_ok x (by have := wtL_mem (w := Stamp.wt) hx; omega))
theorem eqStampS_ok (a b : List Stamp) : d_laws_eqStampS a b = some (decide (a = b)) := by
  unfold d_laws_eqStampS
  exact eqL (c := Stamp.c) (f := d_laws_eqStamp) (fun k => d_laws_eqStampS_L1 a b k) (fun _ _ => rfl) (fun _ _ _ _ => rfl) eqStamp_ok
def Match.wt (x : Match) : Nat := tw x.rule + wtL Fact.wt x.facts + wtL Pair.wt x.bind
def Choice.wt (x : Choice) : Nat := tw x.mtch.rule + wtL Fact.wt x.mtch.facts + wtL Pair.wt x.mtch.bind + wtL zw x.times
end Go.Cx
