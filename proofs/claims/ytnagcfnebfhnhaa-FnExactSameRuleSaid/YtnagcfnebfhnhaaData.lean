/- The program's data as plain Lean structures, how they lie in cells, and how large they are. No condition; plain definitions and lemmas. -/
import Derived.Test.YtnagcfnebfhnhaaRun
namespace Go.Bx
open Go.RowKit

structure Fact where
  rel : Bytes
  args : List Bytes
  deriving DecidableEq
structure Pair where
  var : Bytes
  value : Bytes
  deriving DecidableEq
structure Cond where
  kind : Int
  pat : Fact
  left : Bytes
  right : Bytes
  deriving DecidableEq
structure Action where
  kind : Int
  pat : Fact
  deriving DecidableEq
structure Rule where
  name : Bytes
  prio : Int
  conds : List Cond
  acts : List Action
  deriving DecidableEq
structure Token where
  facts : List Fact
  bind : List Pair
  deriving DecidableEq
structure Match where
  rule : Bytes
  facts : List Fact
  bind : List Pair
  deriving DecidableEq
structure Alpha where
  shape : Fact
  facts : List Fact
  deriving DecidableEq
structure Node where
  parent : Int
  cond : Cond
  alpha : Int
  tokens : List Token
  deriving DecidableEq
structure Network where
  rules : List Rule
  ends : List Int
  alphas : List Alpha
  nodes : List Node
  facts : List Fact
  tries : Int
  deriving DecidableEq
structure Stamp where
  fact : Fact
  time : Int
  deriving DecidableEq
structure Firing where
  rule : Bytes
  times : List Int
  deriving DecidableEq
structure Choice where
  mtch : Match
  prio : Int
  times : List Int
  spec : Int
  order : Int
  deriving DecidableEq

abbrev tx (s : Bytes) : List D := [.str s]
abbrev ix (n : Int) : List D := [.int .i64 n]
abbrev dT (l : List Bytes) : D := .sl (l.map tx)
abbrev dI (l : List Int) : D := .sl (l.map ix)
abbrev Fact.c (x : Fact) : List D := [.str x.rel, dT x.args]
abbrev Pair.c (x : Pair) : List D := [.str x.var, .str x.value]
abbrev Cond.c (x : Cond) : List D := [.int .i64 x.kind, .str x.pat.rel, dT x.pat.args, .str x.left, .str x.right]
abbrev Action.c (x : Action) : List D := [.int .i64 x.kind, .str x.pat.rel, dT x.pat.args]
abbrev Rule.c (x : Rule) : List D := [.str x.name, .int .i64 x.prio, .sl (x.conds.map Cond.c), .sl (x.acts.map Action.c)]
abbrev Token.c (x : Token) : List D := [.sl (x.facts.map Fact.c), .sl (x.bind.map Pair.c)]
abbrev Match.c (x : Match) : List D := [.str x.rule, .sl (x.facts.map Fact.c), .sl (x.bind.map Pair.c)]
abbrev Alpha.c (x : Alpha) : List D := [.str x.shape.rel, dT x.shape.args, .sl (x.facts.map Fact.c)]
abbrev Node.c (x : Node) : List D := [.int .i64 x.parent, .int .i64 x.cond.kind, .str x.cond.pat.rel, dT x.cond.pat.args, .str x.cond.left, .str x.cond.right, .int .i64 x.alpha, .sl (x.tokens.map Token.c)]
abbrev Network.c (x : Network) : List D := [.sl (x.rules.map Rule.c), dI x.ends, .sl (x.alphas.map Alpha.c), .sl (x.nodes.map Node.c), .sl (x.facts.map Fact.c), .int .i64 x.tries]
abbrev Stamp.c (x : Stamp) : List D := [.str x.fact.rel, dT x.fact.args, .int .i64 x.time]
abbrev Firing.c (x : Firing) : List D := [.str x.rule, dI x.times]
abbrev Choice.c (x : Choice) : List D := [.str x.mtch.rule, .sl (x.mtch.facts.map Fact.c), .sl (x.mtch.bind.map Pair.c), .int .i64 x.prio, dI x.times, .int .i64 x.spec, .int .i64 x.order]

/-- how large a list is: one for each element, and what each counts -/
def lsz {α : Type} (f : α → Nat) (l : List α) : Nat := l.length + (l.map f).sum
def tsz' (s : Bytes) : Nat := s.length
def isz (_ : Int) : Nat := 0
def Fact.sz (x : Fact) : Nat := x.rel.length + lsz tsz' x.args
def Pair.sz (x : Pair) : Nat := x.var.length + x.value.length
def Cond.sz (x : Cond) : Nat := x.pat.sz + x.left.length + x.right.length
def Action.sz (x : Action) : Nat := x.pat.sz
def Rule.sz (x : Rule) : Nat := x.name.length + lsz Cond.sz x.conds + lsz Action.sz x.acts
def Token.sz (x : Token) : Nat := lsz Fact.sz x.facts + lsz Pair.sz x.bind
def Match.sz (x : Match) : Nat := x.rule.length + lsz Fact.sz x.facts + lsz Pair.sz x.bind
def Alpha.sz (x : Alpha) : Nat := x.shape.sz + lsz Fact.sz x.facts
def Node.sz (x : Node) : Nat := x.cond.sz + lsz Token.sz x.tokens
def Network.sz (x : Network) : Nat := lsz Rule.sz x.rules + x.ends.length + lsz Alpha.sz x.alphas + lsz Node.sz x.nodes + lsz Fact.sz x.facts
def Stamp.sz (x : Stamp) : Nat := x.fact.sz
def Firing.sz (x : Firing) : Nat := x.rule.length + x.times.length
def Choice.sz (x : Choice) : Nat := x.mtch.sz + x.times.length

def dec (left : Int) (n : Nat) : Int := if left < n then -1 else left - n
theorem dec_lo {left : Int} {n : Nat} (h : left < n) : dec left n = -1 := if_pos h
theorem dec_hi {left : Int} {n : Nat} (h : ¬ left < n) : dec left n = left - n := if_neg h

theorem lsz_take {α : Type} {f : α → Nat} {l : List α} {k : Nat} {x : α} (h : l[k]? = some x) : ((l.take (k + 1)).map f).sum = ((l.take k).map f).sum + f x := by
  obtain ⟨hlt, rfl⟩ := List.getElem?_eq_some_iff.1 h
  rw [List.take_succ_eq_append_getElem hlt, List.map_append, List.sum_append_nat]
  simp only [List.map_cons, List.map_nil, List.sum_cons, List.sum_nil, Nat.add_zero]
theorem sum_take_le {α : Type} (f : α → Nat) (l : List α) (k : Nat) : ((l.take k).map f).sum ≤ (l.map f).sum := by
  conv => rhs; rw [← List.take_append_drop k l, List.map_append, List.sum_append_nat]
  omega
theorem sum_take_all {α : Type} (f : α → Nat) (l : List α) : ((l.take l.length).map f).sum = (l.map f).sum := by simp

theorem wrap_succ {k n : Nat} (h : k < n) (hn : n ≤ maxLen) : IntKind.i64.wrap ((k : Int) + 1) = ((k + 1 : Nat) : Int) := by
  unfold maxLen at hn
  rw [wrap_in (InR.i64.2 (by omega))]; omega
theorem wrap_sub {n : Nat} {left : Int} (hn : n ≤ maxLen) (h0 : 0 ≤ left) (h1 : left ≤ 1048576) : IntKind.i64.wrap (left - (n : Int)) = left - (n : Int) := by
  unfold maxLen at hn
  exact wrap_in (InR.i64.2 (by omega))
theorem lt_true {k n : Nat} (h : k < n) : decide ((k : Int) < (n : Int)) = true := by simp [h]
theorem lt_false {k n : Nat} (h : n ≤ k) : decide ((k : Int) < (n : Int)) = false := by simp; omega
theorem take_snoc {α : Type} {l : List α} {k : Nat} {x : α} (h : l[k]? = some x) : l.take (k + 1) = l.take k ++ [x] := by
  obtain ⟨hlt, rfl⟩ := List.getElem?_eq_some_iff.1 h
  exact List.take_succ_eq_append_getElem hlt
theorem drop_cons {α : Type} {l : List α} {k : Nat} {x : α} (h : l[k]? = some x) : l.drop k = x :: l.drop (k + 1) := by
  obtain ⟨hlt, rfl⟩ := List.getElem?_eq_some_iff.1 h
  exact List.drop_eq_getElem_cons hlt
theorem getx {α : Type} {l : List α} {k : Nat} (h : k < l.length) : ∃ x, l[k]? = some x := ⟨_, List.getElem?_eq_getElem h⟩

theorem lsz_len {α : Type} {f : α → Nat} {l : List α} {n : Nat} (h : lsz f l ≤ n) : l.length ≤ n := by unfold lsz at h; omega
theorem lsz_el {α : Type} {f : α → Nat} {l : List α} {n k : Nat} {x : α} (h : lsz f l ≤ n) (hx : l[k]? = some x) : f x ≤ n := by
  have h1 := lsz_take (f := f) hx
  have h2 := sum_take_le f l (k + 1)
  unfold lsz at h
  omega
theorem isz_len (l : List Int) : lsz isz l = l.length := by
  unfold lsz
  have : (l.map isz).sum = 0 := by
    induction l with
    | nil => rfl
    | cons a l ih => simp only [List.map_cons, List.sum_cons, ih]; rfl
  omega
theorem getpad {α β : Type} {f : α → β} {l : List α} {k : Nat} {z : β} (h : k < l.length) : ((l.take k).map f ++ List.replicate (l.length - k) z)[k]? = some z := by
  have h1 : ((l.take k).map f).length = k := by simp; omega
  rw [List.getElem?_append_right (by omega), h1, Nat.sub_self, List.getElem?_replicate, if_pos (by omega)]
theorem setpad {α β : Type} {f : α → β} {l : List α} {k : Nat} {z : β} {x : α} (h : l[k]? = some x) : ((l.take k).map f ++ List.replicate (l.length - k) z).set k (f x) = (l.take (k + 1)).map f ++ List.replicate (l.length - (k + 1)) z := by
  have hlt := (List.getElem?_eq_some_iff.1 h).1
  rw [take_snoc h, List.map_append, List.append_assoc, List.set_append_right _ _ (by simp; omega)]
  congr 1
  have e : l.length - k = (l.length - (k + 1)) + 1 := by omega
  have e2 : k - ((l.take k).map f).length = 0 := by simp; omega
  rw [e, e2, List.replicate_succ, List.set_cons_zero]
  rfl

theorem Rdb.len {α : Type} {l : List α} {f : α → List D} (h : Rdb (.sl (l.map f))) : l.length ≤ maxLen := by
  have := h.sl.1
  simpa using this
theorem Rdb.el {α : Type} {l : List α} {f : α → List D} (h : Rdb (.sl (l.map f))) {x : α} {k : Nat} (hx : l[k]? = some x) : ∀ d ∈ f x, Rdb d :=
  h.sl.2 (f x) (List.mem_map.2 ⟨x, List.mem_of_getElem? hx, rfl⟩)
/-- the lemmas by which a walk computes, as one -/
theorem ssL :
    (type_of% @Option.isSome_some.{0}) ∧
    (type_of% @Int.toNat_natCast) ∧
    (type_of% @List.getElem?_map.{0, 0}) ∧
    (type_of% @List.getElem?_cons_zero.{0}) ∧
    (type_of% @List.getElem?_cons_succ.{0}) ∧
    (type_of% @List.getElem?_nil.{0}) ∧
    (type_of% @Option.map_some.{0, 0}) ∧
    (type_of% @Option.map_none.{0, 0}) ∧
    (type_of% @List.length_cons.{0}) ∧
    (type_of% @List.length_nil.{0}) ∧
    (type_of% @List.length_map.{0, 0}) ∧
    (type_of% @List.length_append.{0}) ∧
    (type_of% @List.map_cons.{0, 0}) ∧
    (type_of% @List.map_nil.{0, 0}) ∧
    (type_of% @List.drop_zero.{0}) ∧
    (type_of% @List.drop_succ_cons.{0}) ∧
    (type_of% @List.drop_nil.{0}) ∧
    (type_of% @List.take_succ_cons.{0}) ∧
    (type_of% @List.take_zero.{0}) ∧
    (type_of% @List.take_nil.{0}) ∧
    (type_of% @List.nil_append.{0}) ∧
    (type_of% @List.cons_append.{0}) ∧
    (type_of% @List.append_nil.{0}) ∧
    (type_of% @List.append_assoc.{0}) ∧
    (type_of% @List.set_cons_zero.{0}) ∧
    (type_of% @List.set_cons_succ.{0}) ∧
    (type_of% @Int.natCast_nonneg) ∧
    (type_of% @Int.natCast_zero) ∧
    (type_of% @Nat.zero_add) ∧
    (type_of% @Nat.add_zero) ∧
    (type_of% @cond_true.{1}) ∧
    (type_of% @cond_false.{1}) ∧
    (type_of% @Bool.not_true) ∧
    (type_of% @Bool.not_false) ∧
    (type_of% @Bool.false_eq_true) ∧
    (type_of% @if_true.{1}) ∧
    (type_of% @if_false.{1}) ∧
    (type_of% @ite_true.{1}) ∧
    (type_of% @ite_false.{1}) ∧
    (type_of% @and_self) ∧
    (type_of% @and_true) ∧
    (type_of% @true_and) ∧
    (type_of% @Nat.le_refl) ∧
    (type_of% @Int.le_refl) ∧
    (type_of% @decide_true) ∧
    (type_of% @decide_false) ∧
    (type_of% @beq_self_eq_true.{0}) ∧
    (type_of% @bne_self_eq_false.{0}) :=
  ⟨@Option.isSome_some.{0}, @Int.toNat_natCast, @List.getElem?_map.{0, 0}, @List.getElem?_cons_zero.{0}, @List.getElem?_cons_succ.{0}, @List.getElem?_nil.{0}, @Option.map_some.{0, 0}, @Option.map_none.{0, 0}, @List.length_cons.{0}, @List.length_nil.{0}, @List.length_map.{0, 0}, @List.length_append.{0}, @List.map_cons.{0, 0}, @List.map_nil.{0, 0}, @List.drop_zero.{0}, @List.drop_succ_cons.{0}, @List.drop_nil.{0}, @List.take_succ_cons.{0}, @List.take_zero.{0}, @List.take_nil.{0}, @List.nil_append.{0}, @List.cons_append.{0}, @List.append_nil.{0}, @List.append_assoc.{0}, @List.set_cons_zero.{0}, @List.set_cons_succ.{0}, @Int.natCast_nonneg, @Int.natCast_zero, @Nat.zero_add, @Nat.add_zero, @cond_true.{1}, @cond_false.{1}, @Bool.not_true, @Bool.not_false, @Bool.false_eq_true, @if_true.{1}, @if_false.{1}, @ite_true.{1}, @ite_false.{1}, @and_self, @and_true, @true_and, @Nat.le_refl, @Int.le_refl, @decide_true, @decide_false, @beq_self_eq_true.{0}, @bne_self_eq_false.{0}⟩
end Go.Bx
