/- The program's data as plain Lean structures, and how they lie in cells. No condition; plain definitions. -/
import Derived.Test.YtamlfpljmobdoaaDoorNGo
import Derived.Test.YtamlfpljmobdoaaDoorProg
import Derived.KernelRfl
namespace Go.Cx
open Go.RowKit Go.Proofs

structure Fact where
  rel : Bytes
  args : List Bytes
  deriving DecidableEq
structure Pair where
  var : Bytes
  value : Bytes
  deriving DecidableEq
structure Cond where
  kind : Int
  pat : Fact
  left : Bytes
  right : Bytes
  deriving DecidableEq
structure Action where
  kind : Int
  pat : Fact
  deriving DecidableEq
structure Rule where
  name : Bytes
  prio : Int
  conds : List Cond
  acts : List Action
  deriving DecidableEq
structure Token where
  facts : List Fact
  bind : List Pair
  deriving DecidableEq
structure Match where
  rule : Bytes
  facts : List Fact
  bind : List Pair
  deriving DecidableEq
structure Alpha where
  shape : Fact
  facts : List Fact
  deriving DecidableEq
structure Node where
  parent : Int
  cond : Cond
  alpha : Int
  tokens : List Token
  deriving DecidableEq
structure Network where
  rules : List Rule
  ends : List Int
  alphas : List Alpha
  nodes : List Node
  facts : List Fact
  tries : Int
  deriving DecidableEq
structure Stamp where
  fact : Fact
  time : Int
  deriving DecidableEq
structure Firing where
  rule : Bytes
  times : List Int
  deriving DecidableEq
structure Choice where
  mtch : Match
  prio : Int
  times : List Int
  spec : Int
  order : Int
  deriving DecidableEq

abbrev tx (s : Bytes) : List D := [.str s]
abbrev ixx (n : Int) : List D := [.int .i64 n]
abbrev bx (b : Bool) : List D := [.bool b]
abbrev yx (n : Int) : List D := [.int .u8 n]
abbrev dT (l : List Bytes) : D := .sl (l.map tx)
abbrev dI (l : List Int) : D := .sl (l.map ixx)
abbrev Fact.c (x : Fact) : List D := [.str x.rel, dT x.args]
abbrev Pair.c (x : Pair) : List D := [.str x.var, .str x.value]
abbrev Cond.c (x : Cond) : List D := [.int .i64 x.kind, .str x.pat.rel, dT x.pat.args, .str x.left, .str x.right]
abbrev Action.c (x : Action) : List D := [.int .i64 x.kind, .str x.pat.rel, dT x.pat.args]
abbrev Rule.c (x : Rule) : List D := [.str x.name, .int .i64 x.prio, .sl (x.conds.map Cond.c), .sl (x.acts.map Action.c)]
abbrev Token.c (x : Token) : List D := [.sl (x.facts.map Fact.c), .sl (x.bind.map Pair.c)]
abbrev Match.c (x : Match) : List D := [.str x.rule, .sl (x.facts.map Fact.c), .sl (x.bind.map Pair.c)]
abbrev Alpha.c (x : Alpha) : List D := [.str x.shape.rel, dT x.shape.args, .sl (x.facts.map Fact.c)]
abbrev Node.c (x : Node) : List D := [.int .i64 x.parent, .int .i64 x.cond.kind, .str x.cond.pat.rel, dT x.cond.pat.args, .str x.cond.left, .str x.cond.right, .int .i64 x.alpha, .sl (x.tokens.map Token.c)]
abbrev Network.c (x : Network) : List D := [.sl (x.rules.map Rule.c), dI x.ends, .sl (x.alphas.map Alpha.c), .sl (x.nodes.map Node.c), .sl (x.facts.map Fact.c), .int .i64 x.tries]
abbrev Stamp.c (x : Stamp) : List D := [.str x.fact.rel, dT x.fact.args, .int .i64 x.time]
abbrev Firing.c (x : Firing) : List D := [.str x.rule, dI x.times]
abbrev Choice.c (x : Choice) : List D := [.str x.mtch.rule, .sl (x.mtch.facts.map Fact.c), .sl (x.mtch.bind.map Pair.c), .int .i64 x.prio, dI x.times, .int .i64 x.spec, .int .i64 x.order]


def bodyOf (fn : Func) : Code := match fn.body with
  | some c => c
  | none => .skip

theorem mix : Tryd.prog.follows .mixedOrders = true := by kernel_rfl

theorem AW_N {P : Program} {Γ : Ctx} {Q : Exit → St → Prop} {N N' : Nat → St → Prop} {c : Code} {K K0 : List Fr} {st : St} (hd : depth K = depth K0) (hN : ∀ d, d < depth K0 → N' d = N d) (t : AW P Γ c (KQ P Γ N Q K) st) : AW P Γ c (KQ P Γ N' Q K) st := by
  rw [KQ_congr (N := N') (N' := N) K (fun d h => hN d (by omega))]; exact t
theorem AW_st {P : Program} {Γ : Ctx} {Q : Exit → St → Prop} {c : Code} {s s' : St} (h : s = s') (t : AW P Γ c Q s') : AW P Γ c Q s := by rw [h]; exact t
theorem flat_rows {α : Type} {c : α → List D} (hc : ∀ x, (c x).all D.flat = true) (l : List α) : (l.map c).flatten.all D.flat = true := by
  induction l with
  | nil => rfl
  | cons x l ih => rw [List.map_cons, List.flatten_cons, List.all_append, hc, ih]; rfl
end Go.Cx
