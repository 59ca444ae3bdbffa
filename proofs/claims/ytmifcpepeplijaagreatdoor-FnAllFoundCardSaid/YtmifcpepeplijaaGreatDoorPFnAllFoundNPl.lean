/- What the laws' own helpers compute: sizes, copies, equality, marks. No condition. -/
import Derived.Test.YtmifcpepeplijaaGreatDoorPFnAllFoundNPlain
import Derived.Test.YtmifcpepeplijaaGreatDoorPFnAllFoundNSz
import Derived.Test.YtmifcpepeplijaaGreatDoorPFnAllFoundNTo
import Derived.Test.YtmifcpepeplijaaGreatDoorPFnAllFoundNEq
import Derived.Test.YtmifcpepeplijaaGreatDoorPFnAllFoundNHd
namespace Go.Cx
open Go.RowKit Go.Proofs
set_option linter.unusedVariables false
set_option linter.unusedSimpArgs false
theorem RdbL.sub {a b : List D} (h : RdbL a) (hs : ∀ d ∈ b, d ∈ a) : RdbL b := fun d hd => h d (hs d hd)
def Fact.wt (x : Fact) : Nat := tw x.rel + wtL tw x.args
def Pair.wt (x : Pair) : Nat := tw x.var + tw x.value
def Cond.wt (x : Cond) : Nat := tw x.pat.rel + wtL tw x.pat.args + tw x.left + tw x.right
def Action.wt (x : Action) : Nat := tw x.pat.rel + wtL tw x.pat.args
def Rule.wt (x : Rule) : Nat := tw x.name + wtL Cond.wt x.conds + wtL Action.wt x.acts
def Token.wt (x : Token) : Nat := wtL Fact.wt x.facts + wtL Pair.wt x.bind
def Match.wt (x : Match) : Nat := tw x.rule + wtL Fact.wt x.facts + wtL Pair.wt x.bind
end Go.Cx
