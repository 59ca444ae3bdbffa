/- What the laws' own helpers compute: sizes, copies, equality, marks. No condition. -/
import Derived.Test.YtpglgncmlcpgdaaGreatDoorNPlain
import Derived.Test.YtpglgncmlcpgdaaGreatDoorPFnPlainNSz
import Derived.Test.YtpglgncmlcpgdaaGreatDoorPFnPlainNTo
import Derived.Test.YtpglgncmlcpgdaaGreatDoorPFnPlainNEq
import Derived.Test.YtpglgncmlcpgdaaGreatDoorPFnPlainNHd
namespace Go.Cx
open Go.RowKit Go.Proofs
set_option linter.unusedVariables false
set_option linter.unusedSimpArgs false
def Fact.wt (x : Fact) : Nat := tw x.rel + wtL tw x.args
def Pair.wt (x : Pair) : Nat := tw x.var + tw x.value
def Cond.wt (x : Cond) : Nat := tw x.pat.rel + wtL tw x.pat.args + tw x.left + tw x.right
def Action.wt (x : Action) : Nat := tw x.pat.rel + wtL tw x.pat.args
def Rule.wt (x : Rule) : Nat := tw x.name + wtL Cond.wt x.conds + wtL Action.wt x.acts
def Token.wt (x : Token) : Nat := wtL Fact.wt x.facts + wtL Pair.wt x.bind
def Match.wt (x : Match) : Nat := tw x.rule + wtL Fact.wt x.facts + wtL Pair.wt x.bind
end Go.Cx
