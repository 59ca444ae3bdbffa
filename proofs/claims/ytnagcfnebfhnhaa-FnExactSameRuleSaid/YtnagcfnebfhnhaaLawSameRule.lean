/- The statement FnExactSameRule: its walk. No condition. -/
import Derived.Test.YtnagcfnebfhnhaaSameRule
import Derived.Test.YtnagcfnebfhnhaaSzD
import Derived.Test.YtnagcfnebfhnhaaToD
import Derived.Test.YtnagcfnebfhnhaaEqD
namespace Go.Bx
open Go.RowKit Go.Proofs
namespace LawSameRule

set_option linter.unusedSimpArgs false in
set_option maxRecDepth 100000 in
set_option maxHeartbeats 4000000 in
theorem law_good (a : Rule) (b : Rule) : Good Try.prog 8 [.agg a.c, .agg b.c] (.bool true) := by
  refine Good.of Try.func8 rfl (by decide) (by simp [Try.f8]) ?_
  intro hr Γ hΓ
  have hΓ : Γ.nt = 45 := hΓ
  simp only [args0]
  rcases Int.lt_or_le (1048576) (((a.sz : Nat) : Int)) with c1 | c1
  · repeat' first
      | refine thenQ_normal ?_
      | refine thenQ_ret ?_
      | refine thenQ_exit ?_
      | refine blockQ_normal ?_
      | refine blockQ_ret ?_
      | refine blockQ_exit ?_
      | refine blockQ_pass rfl ?_
      | refine AW_seq ?_
      | refine AW_block ?_
      | refine AW_skip ?_
      | refine AW_ret ?_
      | refine AW_exit ?_
      | refine AW_region ?_
      | refine AO_nil ?_
      | refine C_nil ?_
      | (refine R_pv rfl rfl (by omega) (by simp only [Int.reduceLE, Int.reduceLT, Int.reduceNeg, Int.reduceAdd, Int.reduceSub, Int.reduceToNat, Nat.reduceEqDiff, Nat.reduceLeDiff, Nat.reduceLT, Nat.reduceAdd, Nat.reduceSub, Nat.reduceMul, reduceIte, reduceCtorEq, pv, pbin, peq, plen, pload, pcut, pfill, St.ev, St.set, lk, D.ofV, D.cellsOf, InR.i64, InR.u8, ssL, tx, ix, Fact.c, Pair.c, Cond.c, Action.c, Rule.c, Token.c, Match.c, Alpha.c, Node.c, Network.c, Stamp.c, Firing.c, Choice.c, tagg_65, tagg_71, tbool_4, tinf_71, tsz_65, tsz_71, tz_71] <;> rfl) ?_)
      | (refine C_pv rfl rfl (by omega) (by simp only [Int.reduceLE, Int.reduceLT, Int.reduceNeg, Int.reduceAdd, Int.reduceSub, Int.reduceToNat, Nat.reduceEqDiff, Nat.reduceLeDiff, Nat.reduceLT, Nat.reduceAdd, Nat.reduceSub, Nat.reduceMul, reduceIte, reduceCtorEq, pv, pbin, peq, plen, pload, pcut, pfill, St.ev, St.set, lk, D.ofV, D.cellsOf, InR.i64, InR.u8, ssL, tx, ix, Fact.c, Pair.c, Cond.c, Action.c, Rule.c, Token.c, Match.c, Alpha.c, Node.c, Network.c, Stamp.c, Firing.c, Choice.c, tagg_65, tagg_71, tbool_4, tinf_71, tsz_65, tsz_71, tz_71] <;> rfl) ?_)
      | (refine R_eff hΓ rfl (by simp only [peff, Int.reduceLE, Int.reduceLT, Int.reduceNeg, Int.reduceAdd, Int.reduceSub, Int.reduceToNat, Nat.reduceEqDiff, Nat.reduceLeDiff, Nat.reduceLT, Nat.reduceAdd, Nat.reduceSub, Nat.reduceMul, reduceIte, reduceCtorEq, pv, pbin, peq, plen, pload, pcut, pfill, St.ev, St.set, lk, D.ofV, D.cellsOf, InR.i64, InR.u8, ssL, tx, ix, Fact.c, Pair.c, Cond.c, Action.c, Rule.c, Token.c, Match.c, Alpha.c, Node.c, Network.c, Stamp.c, Firing.c, Choice.c, tagg_65, tagg_71, tbool_4, tinf_71, tsz_65, tsz_71, tz_71] <;> rfl) ?_)
      | (refine R_call rfl rfl rfl (by omega) (by simp only [Int.reduceLE, Int.reduceLT, Int.reduceNeg, Int.reduceAdd, Int.reduceSub, Int.reduceToNat, Nat.reduceEqDiff, Nat.reduceLeDiff, Nat.reduceLT, Nat.reduceAdd, Nat.reduceSub, Nat.reduceMul, reduceIte, reduceCtorEq, pv, pbin, peq, plen, pload, pcut, pfill, St.ev, St.set, lk, D.ofV, D.cellsOf, InR.i64, InR.u8, ssL, tx, ix, Fact.c, Pair.c, Cond.c, Action.c, Rule.c, Token.c, Match.c, Alpha.c, Node.c, Network.c, Stamp.c, Firing.c, Choice.c, tagg_65, tagg_71, tbool_4, tinf_71, tsz_65, tsz_71, tz_71] <;> rfl) (by rfl) (by exact szRule_lo a _ (by omega) (by omega) c1) (by rfl) ?_)
      | (refine C_call rfl rfl rfl (by omega) (by simp only [Int.reduceLE, Int.reduceLT, Int.reduceNeg, Int.reduceAdd, Int.reduceSub, Int.reduceToNat, Nat.reduceEqDiff, Nat.reduceLeDiff, Nat.reduceLT, Nat.reduceAdd, Nat.reduceSub, Nat.reduceMul, reduceIte, reduceCtorEq, pv, pbin, peq, plen, pload, pcut, pfill, St.ev, St.set, lk, D.ofV, D.cellsOf, InR.i64, InR.u8, ssL, tx, ix, Fact.c, Pair.c, Cond.c, Action.c, Rule.c, Token.c, Match.c, Alpha.c, Node.c, Network.c, Stamp.c, Firing.c, Choice.c, tagg_65, tagg_71, tbool_4, tinf_71, tsz_65, tsz_71, tz_71] <;> rfl) (by rfl) (by exact szRule_lo a _ (by omega) (by omega) c1) (by rfl) ?_)
    refine W_true (by simp only [Int.reduceLE, Int.reduceLT, Int.reduceNeg, Int.reduceAdd, Int.reduceSub, Int.reduceToNat, Nat.reduceEqDiff, Nat.reduceLeDiff, Nat.reduceLT, Nat.reduceAdd, Nat.reduceSub, Nat.reduceMul, reduceIte, reduceCtorEq, pv, pbin, peq, plen, pload, pcut, pfill, St.ev, St.set, lk, D.ofV, D.cellsOf, InR.i64, InR.u8, ssL, tx, ix, Fact.c, Pair.c, Cond.c, Action.c, Rule.c, Token.c, Match.c, Alpha.c, Node.c, Network.c, Stamp.c, Firing.c, Choice.c, tagg_65, tagg_71, tbool_4, tinf_71, tsz_65, tsz_71, tz_71] <;> rfl) ?_
    repeat' first
      | refine thenQ_normal ?_
      | refine thenQ_ret ?_
      | refine thenQ_exit ?_
      | refine blockQ_normal ?_
      | refine blockQ_ret ?_
      | refine blockQ_exit ?_
      | refine blockQ_pass rfl ?_
      | refine AW_seq ?_
      | refine AW_block ?_
      | refine AW_skip ?_
      | refine AW_ret ?_
      | refine AW_exit ?_
      | refine AW_region ?_
      | refine AO_nil ?_
      | refine C_nil ?_
      | (refine R_pv rfl rfl (by omega) (by simp only [Int.reduceLE, Int.reduceLT, Int.reduceNeg, Int.reduceAdd, Int.reduceSub, Int.reduceToNat, Nat.reduceEqDiff, Nat.reduceLeDiff, Nat.reduceLT, Nat.reduceAdd, Nat.reduceSub, Nat.reduceMul, reduceIte, reduceCtorEq, pv, pbin, peq, plen, pload, pcut, pfill, St.ev, St.set, lk, D.ofV, D.cellsOf, InR.i64, InR.u8, ssL, tx, ix, Fact.c, Pair.c, Cond.c, Action.c, Rule.c, Token.c, Match.c, Alpha.c, Node.c, Network.c, Stamp.c, Firing.c, Choice.c, tagg_65, tagg_71, tbool_4, tinf_71, tsz_65, tsz_71, tz_71] <;> rfl) ?_)
      | (refine C_pv rfl rfl (by omega) (by simp only [Int.reduceLE, Int.reduceLT, Int.reduceNeg, Int.reduceAdd, Int.reduceSub, Int.reduceToNat, Nat.reduceEqDiff, Nat.reduceLeDiff, Nat.reduceLT, Nat.reduceAdd, Nat.reduceSub, Nat.reduceMul, reduceIte, reduceCtorEq, pv, pbin, peq, plen, pload, pcut, pfill, St.ev, St.set, lk, D.ofV, D.cellsOf, InR.i64, InR.u8, ssL, tx, ix, Fact.c, Pair.c, Cond.c, Action.c, Rule.c, Token.c, Match.c, Alpha.c, Node.c, Network.c, Stamp.c, Firing.c, Choice.c, tagg_65, tagg_71, tbool_4, tinf_71, tsz_65, tsz_71, tz_71] <;> rfl) ?_)
      | (refine R_eff hΓ rfl (by simp only [peff, Int.reduceLE, Int.reduceLT, Int.reduceNeg, Int.reduceAdd, Int.reduceSub, Int.reduceToNat, Nat.reduceEqDiff, Nat.reduceLeDiff, Nat.reduceLT, Nat.reduceAdd, Nat.reduceSub, Nat.reduceMul, reduceIte, reduceCtorEq, pv, pbin, peq, plen, pload, pcut, pfill, St.ev, St.set, lk, D.ofV, D.cellsOf, InR.i64, InR.u8, ssL, tx, ix, Fact.c, Pair.c, Cond.c, Action.c, Rule.c, Token.c, Match.c, Alpha.c, Node.c, Network.c, Stamp.c, Firing.c, Choice.c, tagg_65, tagg_71, tbool_4, tinf_71, tsz_65, tsz_71, tz_71] <;> rfl) ?_)
    exact RetQ_ret (by simp only [Try.f8, resDs, resD, Int.reduceLE, Int.reduceLT, Int.reduceNeg, Int.reduceAdd, Int.reduceSub, Int.reduceToNat, Nat.reduceEqDiff, Nat.reduceLeDiff, Nat.reduceLT, Nat.reduceAdd, Nat.reduceSub, Nat.reduceMul, reduceIte, reduceCtorEq, pv, pbin, peq, plen, pload, pcut, pfill, St.ev, St.set, lk, D.ofV, D.cellsOf, InR.i64, InR.u8, ssL, tx, ix, Fact.c, Pair.c, Cond.c, Action.c, Rule.c, Token.c, Match.c, Alpha.c, Node.c, Network.c, Stamp.c, Firing.c, Choice.c, tagg_65, tagg_71, tbool_4, tinf_71, tsz_65, tsz_71, tz_71] <;> rfl) rfl rfl
  have d1 : decide (1048576 - ((a.sz : Nat) : Int) < 0) = false := decide_eq_false (by omega)
  repeat' first
    | refine thenQ_normal ?_
    | refine thenQ_ret ?_
    | refine thenQ_exit ?_
    | refine blockQ_normal ?_
    | refine blockQ_ret ?_
    | refine blockQ_exit ?_
    | refine blockQ_pass rfl ?_
    | refine AW_seq ?_
    | refine AW_block ?_
    | refine AW_skip ?_
    | refine AW_ret ?_
    | refine AW_exit ?_
    | refine AW_region ?_
    | refine AO_nil ?_
    | refine C_nil ?_
    | (refine R_pv rfl rfl (by omega) (by simp only [Int.reduceLE, Int.reduceLT, Int.reduceNeg, Int.reduceAdd, Int.reduceSub, Int.reduceToNat, Nat.reduceEqDiff, Nat.reduceLeDiff, Nat.reduceLT, Nat.reduceAdd, Nat.reduceSub, Nat.reduceMul, reduceIte, reduceCtorEq, pv, pbin, peq, plen, pload, pcut, pfill, St.ev, St.set, lk, D.ofV, D.cellsOf, InR.i64, InR.u8, ssL, tx, ix, Fact.c, Pair.c, Cond.c, Action.c, Rule.c, Token.c, Match.c, Alpha.c, Node.c, Network.c, Stamp.c, Firing.c, Choice.c, tagg_65, tagg_71, tbool_4, tinf_71, tsz_65, tsz_71, tz_71] <;> rfl) ?_)
    | (refine C_pv rfl rfl (by omega) (by simp only [Int.reduceLE, Int.reduceLT, Int.reduceNeg, Int.reduceAdd, Int.reduceSub, Int.reduceToNat, Nat.reduceEqDiff, Nat.reduceLeDiff, Nat.reduceLT, Nat.reduceAdd, Nat.reduceSub, Nat.reduceMul, reduceIte, reduceCtorEq, pv, pbin, peq, plen, pload, pcut, pfill, St.ev, St.set, lk, D.ofV, D.cellsOf, InR.i64, InR.u8, ssL, tx, ix, Fact.c, Pair.c, Cond.c, Action.c, Rule.c, Token.c, Match.c, Alpha.c, Node.c, Network.c, Stamp.c, Firing.c, Choice.c, tagg_65, tagg_71, tbool_4, tinf_71, tsz_65, tsz_71, tz_71] <;> rfl) ?_)
    | (refine R_eff hΓ rfl (by simp only [peff, Int.reduceLE, Int.reduceLT, Int.reduceNeg, Int.reduceAdd, Int.reduceSub, Int.reduceToNat, Nat.reduceEqDiff, Nat.reduceLeDiff, Nat.reduceLT, Nat.reduceAdd, Nat.reduceSub, Nat.reduceMul, reduceIte, reduceCtorEq, pv, pbin, peq, plen, pload, pcut, pfill, St.ev, St.set, lk, D.ofV, D.cellsOf, InR.i64, InR.u8, ssL, tx, ix, Fact.c, Pair.c, Cond.c, Action.c, Rule.c, Token.c, Match.c, Alpha.c, Node.c, Network.c, Stamp.c, Firing.c, Choice.c, tagg_65, tagg_71, tbool_4, tinf_71, tsz_65, tsz_71, tz_71] <;> rfl) ?_)
    | (refine R_call rfl rfl rfl (by omega) (by simp only [Int.reduceLE, Int.reduceLT, Int.reduceNeg, Int.reduceAdd, Int.reduceSub, Int.reduceToNat, Nat.reduceEqDiff, Nat.reduceLeDiff, Nat.reduceLT, Nat.reduceAdd, Nat.reduceSub, Nat.reduceMul, reduceIte, reduceCtorEq, pv, pbin, peq, plen, pload, pcut, pfill, St.ev, St.set, lk, D.ofV, D.cellsOf, InR.i64, InR.u8, ssL, tx, ix, Fact.c, Pair.c, Cond.c, Action.c, Rule.c, Token.c, Match.c, Alpha.c, Node.c, Network.c, Stamp.c, Firing.c, Choice.c, tagg_65, tagg_71, tbool_4, tinf_71, tsz_65, tsz_71, tz_71] <;> rfl) (by rfl) (by exact szRule_hi a _ (by omega) (by omega) c1) (by rfl) ?_)
    | (refine C_call rfl rfl rfl (by omega) (by simp only [Int.reduceLE, Int.reduceLT, Int.reduceNeg, Int.reduceAdd, Int.reduceSub, Int.reduceToNat, Nat.reduceEqDiff, Nat.reduceLeDiff, Nat.reduceLT, Nat.reduceAdd, Nat.reduceSub, Nat.reduceMul, reduceIte, reduceCtorEq, pv, pbin, peq, plen, pload, pcut, pfill, St.ev, St.set, lk, D.ofV, D.cellsOf, InR.i64, InR.u8, ssL, tx, ix, Fact.c, Pair.c, Cond.c, Action.c, Rule.c, Token.c, Match.c, Alpha.c, Node.c, Network.c, Stamp.c, Firing.c, Choice.c, tagg_65, tagg_71, tbool_4, tinf_71, tsz_65, tsz_71, tz_71] <;> rfl) (by rfl) (by exact szRule_hi a _ (by omega) (by omega) c1) (by rfl) ?_)
  refine W_false (by simp only [Int.reduceLE, Int.reduceLT, Int.reduceNeg, Int.reduceAdd, Int.reduceSub, Int.reduceToNat, Nat.reduceEqDiff, Nat.reduceLeDiff, Nat.reduceLT, Nat.reduceAdd, Nat.reduceSub, Nat.reduceMul, reduceIte, reduceCtorEq, pv, pbin, peq, plen, pload, pcut, pfill, St.ev, St.set, lk, D.ofV, D.cellsOf, InR.i64, InR.u8, ssL, tx, ix, Fact.c, Pair.c, Cond.c, Action.c, Rule.c, Token.c, Match.c, Alpha.c, Node.c, Network.c, Stamp.c, Firing.c, Choice.c, tagg_65, tagg_71, tbool_4, tinf_71, tsz_65, tsz_71, tz_71, d1] <;> rfl) ?_
  rcases Int.lt_or_le (1048576 - ((a.sz : Nat) : Int)) (((b.sz : Nat) : Int)) with c2 | c2
  · repeat' first
      | refine thenQ_normal ?_
      | refine thenQ_ret ?_
      | refine thenQ_exit ?_
      | refine blockQ_normal ?_
      | refine blockQ_ret ?_
      | refine blockQ_exit ?_
      | refine blockQ_pass rfl ?_
      | refine AW_seq ?_
      | refine AW_block ?_
      | refine AW_skip ?_
      | refine AW_ret ?_
      | refine AW_exit ?_
      | refine AW_region ?_
      | refine AO_nil ?_
      | refine C_nil ?_
      | (refine R_pv rfl rfl (by omega) (by simp only [Int.reduceLE, Int.reduceLT, Int.reduceNeg, Int.reduceAdd, Int.reduceSub, Int.reduceToNat, Nat.reduceEqDiff, Nat.reduceLeDiff, Nat.reduceLT, Nat.reduceAdd, Nat.reduceSub, Nat.reduceMul, reduceIte, reduceCtorEq, pv, pbin, peq, plen, pload, pcut, pfill, St.ev, St.set, lk, D.ofV, D.cellsOf, InR.i64, InR.u8, ssL, tx, ix, Fact.c, Pair.c, Cond.c, Action.c, Rule.c, Token.c, Match.c, Alpha.c, Node.c, Network.c, Stamp.c, Firing.c, Choice.c, tagg_65, tagg_71, tbool_4, tinf_71, tsz_65, tsz_71, tz_71] <;> rfl) ?_)
      | (refine C_pv rfl rfl (by omega) (by simp only [Int.reduceLE, Int.reduceLT, Int.reduceNeg, Int.reduceAdd, Int.reduceSub, Int.reduceToNat, Nat.reduceEqDiff, Nat.reduceLeDiff, Nat.reduceLT, Nat.reduceAdd, Nat.reduceSub, Nat.reduceMul, reduceIte, reduceCtorEq, pv, pbin, peq, plen, pload, pcut, pfill, St.ev, St.set, lk, D.ofV, D.cellsOf, InR.i64, InR.u8, ssL, tx, ix, Fact.c, Pair.c, Cond.c, Action.c, Rule.c, Token.c, Match.c, Alpha.c, Node.c, Network.c, Stamp.c, Firing.c, Choice.c, tagg_65, tagg_71, tbool_4, tinf_71, tsz_65, tsz_71, tz_71] <;> rfl) ?_)
      | (refine R_eff hΓ rfl (by simp only [peff, Int.reduceLE, Int.reduceLT, Int.reduceNeg, Int.reduceAdd, Int.reduceSub, Int.reduceToNat, Nat.reduceEqDiff, Nat.reduceLeDiff, Nat.reduceLT, Nat.reduceAdd, Nat.reduceSub, Nat.reduceMul, reduceIte, reduceCtorEq, pv, pbin, peq, plen, pload, pcut, pfill, St.ev, St.set, lk, D.ofV, D.cellsOf, InR.i64, InR.u8, ssL, tx, ix, Fact.c, Pair.c, Cond.c, Action.c, Rule.c, Token.c, Match.c, Alpha.c, Node.c, Network.c, Stamp.c, Firing.c, Choice.c, tagg_65, tagg_71, tbool_4, tinf_71, tsz_65, tsz_71, tz_71] <;> rfl) ?_)
      | (refine R_call rfl rfl rfl (by omega) (by simp only [Int.reduceLE, Int.reduceLT, Int.reduceNeg, Int.reduceAdd, Int.reduceSub, Int.reduceToNat, Nat.reduceEqDiff, Nat.reduceLeDiff, Nat.reduceLT, Nat.reduceAdd, Nat.reduceSub, Nat.reduceMul, reduceIte, reduceCtorEq, pv, pbin, peq, plen, pload, pcut, pfill, St.ev, St.set, lk, D.ofV, D.cellsOf, InR.i64, InR.u8, ssL, tx, ix, Fact.c, Pair.c, Cond.c, Action.c, Rule.c, Token.c, Match.c, Alpha.c, Node.c, Network.c, Stamp.c, Firing.c, Choice.c, tagg_65, tagg_71, tbool_4, tinf_71, tsz_65, tsz_71, tz_71] <;> rfl) (by rfl) (by exact szRule_lo b _ (by omega) (by omega) c2) (by rfl) ?_)
      | (refine C_call rfl rfl rfl (by omega) (by simp only [Int.reduceLE, Int.reduceLT, Int.reduceNeg, Int.reduceAdd, Int.reduceSub, Int.reduceToNat, Nat.reduceEqDiff, Nat.reduceLeDiff, Nat.reduceLT, Nat.reduceAdd, Nat.reduceSub, Nat.reduceMul, reduceIte, reduceCtorEq, pv, pbin, peq, plen, pload, pcut, pfill, St.ev, St.set, lk, D.ofV, D.cellsOf, InR.i64, InR.u8, ssL, tx, ix, Fact.c, Pair.c, Cond.c, Action.c, Rule.c, Token.c, Match.c, Alpha.c, Node.c, Network.c, Stamp.c, Firing.c, Choice.c, tagg_65, tagg_71, tbool_4, tinf_71, tsz_65, tsz_71, tz_71] <;> rfl) (by rfl) (by exact szRule_lo b _ (by omega) (by omega) c2) (by rfl) ?_)
    refine W_true (by simp only [Int.reduceLE, Int.reduceLT, Int.reduceNeg, Int.reduceAdd, Int.reduceSub, Int.reduceToNat, Nat.reduceEqDiff, Nat.reduceLeDiff, Nat.reduceLT, Nat.reduceAdd, Nat.reduceSub, Nat.reduceMul, reduceIte, reduceCtorEq, pv, pbin, peq, plen, pload, pcut, pfill, St.ev, St.set, lk, D.ofV, D.cellsOf, InR.i64, InR.u8, ssL, tx, ix, Fact.c, Pair.c, Cond.c, Action.c, Rule.c, Token.c, Match.c, Alpha.c, Node.c, Network.c, Stamp.c, Firing.c, Choice.c, tagg_65, tagg_71, tbool_4, tinf_71, tsz_65, tsz_71, tz_71] <;> rfl) ?_
    repeat' first
      | refine thenQ_normal ?_
      | refine thenQ_ret ?_
      | refine thenQ_exit ?_
      | refine blockQ_normal ?_
      | refine blockQ_ret ?_
      | refine blockQ_exit ?_
      | refine blockQ_pass rfl ?_
      | refine AW_seq ?_
      | refine AW_block ?_
      | refine AW_skip ?_
      | refine AW_ret ?_
      | refine AW_exit ?_
      | refine AW_region ?_
      | refine AO_nil ?_
      | refine C_nil ?_
      | (refine R_pv rfl rfl (by omega) (by simp only [Int.reduceLE, Int.reduceLT, Int.reduceNeg, Int.reduceAdd, Int.reduceSub, Int.reduceToNat, Nat.reduceEqDiff, Nat.reduceLeDiff, Nat.reduceLT, Nat.reduceAdd, Nat.reduceSub, Nat.reduceMul, reduceIte, reduceCtorEq, pv, pbin, peq, plen, pload, pcut, pfill, St.ev, St.set, lk, D.ofV, D.cellsOf, InR.i64, InR.u8, ssL, tx, ix, Fact.c, Pair.c, Cond.c, Action.c, Rule.c, Token.c, Match.c, Alpha.c, Node.c, Network.c, Stamp.c, Firing.c, Choice.c, tagg_65, tagg_71, tbool_4, tinf_71, tsz_65, tsz_71, tz_71] <;> rfl) ?_)
      | (refine C_pv rfl rfl (by omega) (by simp only [Int.reduceLE, Int.reduceLT, Int.reduceNeg, Int.reduceAdd, Int.reduceSub, Int.reduceToNat, Nat.reduceEqDiff, Nat.reduceLeDiff, Nat.reduceLT, Nat.reduceAdd, Nat.reduceSub, Nat.reduceMul, reduceIte, reduceCtorEq, pv, pbin, peq, plen, pload, pcut, pfill, St.ev, St.set, lk, D.ofV, D.cellsOf, InR.i64, InR.u8, ssL, tx, ix, Fact.c, Pair.c, Cond.c, Action.c, Rule.c, Token.c, Match.c, Alpha.c, Node.c, Network.c, Stamp.c, Firing.c, Choice.c, tagg_65, tagg_71, tbool_4, tinf_71, tsz_65, tsz_71, tz_71] <;> rfl) ?_)
      | (refine R_eff hΓ rfl (by simp only [peff, Int.reduceLE, Int.reduceLT, Int.reduceNeg, Int.reduceAdd, Int.reduceSub, Int.reduceToNat, Nat.reduceEqDiff, Nat.reduceLeDiff, Nat.reduceLT, Nat.reduceAdd, Nat.reduceSub, Nat.reduceMul, reduceIte, reduceCtorEq, pv, pbin, peq, plen, pload, pcut, pfill, St.ev, St.set, lk, D.ofV, D.cellsOf, InR.i64, InR.u8, ssL, tx, ix, Fact.c, Pair.c, Cond.c, Action.c, Rule.c, Token.c, Match.c, Alpha.c, Node.c, Network.c, Stamp.c, Firing.c, Choice.c, tagg_65, tagg_71, tbool_4, tinf_71, tsz_65, tsz_71, tz_71] <;> rfl) ?_)
    exact RetQ_ret (by simp only [Try.f8, resDs, resD, Int.reduceLE, Int.reduceLT, Int.reduceNeg, Int.reduceAdd, Int.reduceSub, Int.reduceToNat, Nat.reduceEqDiff, Nat.reduceLeDiff, Nat.reduceLT, Nat.reduceAdd, Nat.reduceSub, Nat.reduceMul, reduceIte, reduceCtorEq, pv, pbin, peq, plen, pload, pcut, pfill, St.ev, St.set, lk, D.ofV, D.cellsOf, InR.i64, InR.u8, ssL, tx, ix, Fact.c, Pair.c, Cond.c, Action.c, Rule.c, Token.c, Match.c, Alpha.c, Node.c, Network.c, Stamp.c, Firing.c, Choice.c, tagg_65, tagg_71, tbool_4, tinf_71, tsz_65, tsz_71, tz_71] <;> rfl) rfl rfl
  have d2 : decide (1048576 - ((a.sz : Nat) : Int) - ((b.sz : Nat) : Int) < 0) = false := decide_eq_false (by omega)
  repeat' first
    | refine thenQ_normal ?_
    | refine thenQ_ret ?_
    | refine thenQ_exit ?_
    | refine blockQ_normal ?_
    | refine blockQ_ret ?_
    | refine blockQ_exit ?_
    | refine blockQ_pass rfl ?_
    | refine AW_seq ?_
    | refine AW_block ?_
    | refine AW_skip ?_
    | refine AW_ret ?_
    | refine AW_exit ?_
    | refine AW_region ?_
    | refine AO_nil ?_
    | refine C_nil ?_
    | (refine R_pv rfl rfl (by omega) (by simp only [Int.reduceLE, Int.reduceLT, Int.reduceNeg, Int.reduceAdd, Int.reduceSub, Int.reduceToNat, Nat.reduceEqDiff, Nat.reduceLeDiff, Nat.reduceLT, Nat.reduceAdd, Nat.reduceSub, Nat.reduceMul, reduceIte, reduceCtorEq, pv, pbin, peq, plen, pload, pcut, pfill, St.ev, St.set, lk, D.ofV, D.cellsOf, InR.i64, InR.u8, ssL, tx, ix, Fact.c, Pair.c, Cond.c, Action.c, Rule.c, Token.c, Match.c, Alpha.c, Node.c, Network.c, Stamp.c, Firing.c, Choice.c, tagg_65, tagg_71, tbool_4, tinf_71, tsz_65, tsz_71, tz_71] <;> rfl) ?_)
    | (refine C_pv rfl rfl (by omega) (by simp only [Int.reduceLE, Int.reduceLT, Int.reduceNeg, Int.reduceAdd, Int.reduceSub, Int.reduceToNat, Nat.reduceEqDiff, Nat.reduceLeDiff, Nat.reduceLT, Nat.reduceAdd, Nat.reduceSub, Nat.reduceMul, reduceIte, reduceCtorEq, pv, pbin, peq, plen, pload, pcut, pfill, St.ev, St.set, lk, D.ofV, D.cellsOf, InR.i64, InR.u8, ssL, tx, ix, Fact.c, Pair.c, Cond.c, Action.c, Rule.c, Token.c, Match.c, Alpha.c, Node.c, Network.c, Stamp.c, Firing.c, Choice.c, tagg_65, tagg_71, tbool_4, tinf_71, tsz_65, tsz_71, tz_71] <;> rfl) ?_)
    | (refine R_eff hΓ rfl (by simp only [peff, Int.reduceLE, Int.reduceLT, Int.reduceNeg, Int.reduceAdd, Int.reduceSub, Int.reduceToNat, Nat.reduceEqDiff, Nat.reduceLeDiff, Nat.reduceLT, Nat.reduceAdd, Nat.reduceSub, Nat.reduceMul, reduceIte, reduceCtorEq, pv, pbin, peq, plen, pload, pcut, pfill, St.ev, St.set, lk, D.ofV, D.cellsOf, InR.i64, InR.u8, ssL, tx, ix, Fact.c, Pair.c, Cond.c, Action.c, Rule.c, Token.c, Match.c, Alpha.c, Node.c, Network.c, Stamp.c, Firing.c, Choice.c, tagg_65, tagg_71, tbool_4, tinf_71, tsz_65, tsz_71, tz_71] <;> rfl) ?_)
    | (refine R_call rfl rfl rfl (by omega) (by simp only [Int.reduceLE, Int.reduceLT, Int.reduceNeg, Int.reduceAdd, Int.reduceSub, Int.reduceToNat, Nat.reduceEqDiff, Nat.reduceLeDiff, Nat.reduceLT, Nat.reduceAdd, Nat.reduceSub, Nat.reduceMul, reduceIte, reduceCtorEq, pv, pbin, peq, plen, pload, pcut, pfill, St.ev, St.set, lk, D.ofV, D.cellsOf, InR.i64, InR.u8, ssL, tx, ix, Fact.c, Pair.c, Cond.c, Action.c, Rule.c, Token.c, Match.c, Alpha.c, Node.c, Network.c, Stamp.c, Firing.c, Choice.c, tagg_65, tagg_71, tbool_4, tinf_71, tsz_65, tsz_71, tz_71] <;> rfl) (by rfl) (by exact szRule_hi b _ (by omega) (by omega) c2) (by rfl) ?_)
    | (refine C_call rfl rfl rfl (by omega) (by simp only [Int.reduceLE, Int.reduceLT, Int.reduceNeg, Int.reduceAdd, Int.reduceSub, Int.reduceToNat, Nat.reduceEqDiff, Nat.reduceLeDiff, Nat.reduceLT, Nat.reduceAdd, Nat.reduceSub, Nat.reduceMul, reduceIte, reduceCtorEq, pv, pbin, peq, plen, pload, pcut, pfill, St.ev, St.set, lk, D.ofV, D.cellsOf, InR.i64, InR.u8, ssL, tx, ix, Fact.c, Pair.c, Cond.c, Action.c, Rule.c, Token.c, Match.c, Alpha.c, Node.c, Network.c, Stamp.c, Firing.c, Choice.c, tagg_65, tagg_71, tbool_4, tinf_71, tsz_65, tsz_71, tz_71] <;> rfl) (by rfl) (by exact szRule_hi b _ (by omega) (by omega) c2) (by rfl) ?_)
  refine W_false (by simp only [Int.reduceLE, Int.reduceLT, Int.reduceNeg, Int.reduceAdd, Int.reduceSub, Int.reduceToNat, Nat.reduceEqDiff, Nat.reduceLeDiff, Nat.reduceLT, Nat.reduceAdd, Nat.reduceSub, Nat.reduceMul, reduceIte, reduceCtorEq, pv, pbin, peq, plen, pload, pcut, pfill, St.ev, St.set, lk, D.ofV, D.cellsOf, InR.i64, InR.u8, ssL, tx, ix, Fact.c, Pair.c, Cond.c, Action.c, Rule.c, Token.c, Match.c, Alpha.c, Node.c, Network.c, Stamp.c, Firing.c, Choice.c, tagg_65, tagg_71, tbool_4, tinf_71, tsz_65, tsz_71, tz_71, d2] <;> rfl) ?_
  repeat' first
    | refine thenQ_normal ?_
    | refine thenQ_ret ?_
    | refine thenQ_exit ?_
    | refine blockQ_normal ?_
    | refine blockQ_ret ?_
    | refine blockQ_exit ?_
    | refine blockQ_pass rfl ?_
    | refine AW_seq ?_
    | refine AW_block ?_
    | refine AW_skip ?_
    | refine AW_ret ?_
    | refine AW_exit ?_
    | refine AW_region ?_
    | refine AO_nil ?_
    | refine C_nil ?_
    | (refine R_pv rfl rfl (by omega) (by simp only [Int.reduceLE, Int.reduceLT, Int.reduceNeg, Int.reduceAdd, Int.reduceSub, Int.reduceToNat, Nat.reduceEqDiff, Nat.reduceLeDiff, Nat.reduceLT, Nat.reduceAdd, Nat.reduceSub, Nat.reduceMul, reduceIte, reduceCtorEq, pv, pbin, peq, plen, pload, pcut, pfill, St.ev, St.set, lk, D.ofV, D.cellsOf, InR.i64, InR.u8, ssL, tx, ix, Fact.c, Pair.c, Cond.c, Action.c, Rule.c, Token.c, Match.c, Alpha.c, Node.c, Network.c, Stamp.c, Firing.c, Choice.c, tagg_65, tagg_71, tbool_4, tinf_71, tsz_65, tsz_71, tz_71] <;> rfl) ?_)
    | (refine C_pv rfl rfl (by omega) (by simp only [Int.reduceLE, Int.reduceLT, Int.reduceNeg, Int.reduceAdd, Int.reduceSub, Int.reduceToNat, Nat.reduceEqDiff, Nat.reduceLeDiff, Nat.reduceLT, Nat.reduceAdd, Nat.reduceSub, Nat.reduceMul, reduceIte, reduceCtorEq, pv, pbin, peq, plen, pload, pcut, pfill, St.ev, St.set, lk, D.ofV, D.cellsOf, InR.i64, InR.u8, ssL, tx, ix, Fact.c, Pair.c, Cond.c, Action.c, Rule.c, Token.c, Match.c, Alpha.c, Node.c, Network.c, Stamp.c, Firing.c, Choice.c, tagg_65, tagg_71, tbool_4, tinf_71, tsz_65, tsz_71, tz_71] <;> rfl) ?_)
    | (refine R_eff hΓ rfl (by simp only [peff, Int.reduceLE, Int.reduceLT, Int.reduceNeg, Int.reduceAdd, Int.reduceSub, Int.reduceToNat, Nat.reduceEqDiff, Nat.reduceLeDiff, Nat.reduceLT, Nat.reduceAdd, Nat.reduceSub, Nat.reduceMul, reduceIte, reduceCtorEq, pv, pbin, peq, plen, pload, pcut, pfill, St.ev, St.set, lk, D.ofV, D.cellsOf, InR.i64, InR.u8, ssL, tx, ix, Fact.c, Pair.c, Cond.c, Action.c, Rule.c, Token.c, Match.c, Alpha.c, Node.c, Network.c, Stamp.c, Firing.c, Choice.c, tagg_65, tagg_71, tbool_4, tinf_71, tsz_65, tsz_71, tz_71] <;> rfl) ?_)
  have t1 := toRule_good a (by omega)
  have e1 := eqRule_good a a
  rw [decide_eq_true rfl] at e1
  have t2 := toRule_good b (by omega)
  have e2 := eqRule_good b b
  rw [decide_eq_true rfl] at e2
  have s0 := SameRule.spec_good a b
  have i0 := SameRule.impl_good a b
  refine W_draw 3 (by kernel_rfl) (by kernel_rfl) rfl rfl ?_
  repeat' first
    | refine thenQ_normal ?_
    | refine thenQ_ret ?_
    | refine thenQ_exit ?_
    | refine blockQ_normal ?_
    | refine blockQ_ret ?_
    | refine blockQ_exit ?_
    | refine blockQ_pass rfl ?_
    | refine AW_seq ?_
    | refine AW_block ?_
    | refine AW_skip ?_
    | refine AW_ret ?_
    | refine AW_exit ?_
    | refine AW_region ?_
    | refine AO_nil ?_
    | refine C_nil ?_
    | (refine R_pv rfl rfl (by omega) (by simp only [Int.reduceLE, Int.reduceLT, Int.reduceNeg, Int.reduceAdd, Int.reduceSub, Int.reduceToNat, Nat.reduceEqDiff, Nat.reduceLeDiff, Nat.reduceLT, Nat.reduceAdd, Nat.reduceSub, Nat.reduceMul, reduceIte, reduceCtorEq, pv, pbin, peq, plen, pload, pcut, pfill, St.ev, St.set, lk, D.ofV, D.cellsOf, InR.i64, InR.u8, ssL, tx, ix, Fact.c, Pair.c, Cond.c, Action.c, Rule.c, Token.c, Match.c, Alpha.c, Node.c, Network.c, Stamp.c, Firing.c, Choice.c, tagg_65, tagg_71, tbool_4, tinf_71, tsz_65, tsz_71, tz_71] <;> rfl) ?_)
    | (refine C_pv rfl rfl (by omega) (by simp only [Int.reduceLE, Int.reduceLT, Int.reduceNeg, Int.reduceAdd, Int.reduceSub, Int.reduceToNat, Nat.reduceEqDiff, Nat.reduceLeDiff, Nat.reduceLT, Nat.reduceAdd, Nat.reduceSub, Nat.reduceMul, reduceIte, reduceCtorEq, pv, pbin, peq, plen, pload, pcut, pfill, St.ev, St.set, lk, D.ofV, D.cellsOf, InR.i64, InR.u8, ssL, tx, ix, Fact.c, Pair.c, Cond.c, Action.c, Rule.c, Token.c, Match.c, Alpha.c, Node.c, Network.c, Stamp.c, Firing.c, Choice.c, tagg_65, tagg_71, tbool_4, tinf_71, tsz_65, tsz_71, tz_71] <;> rfl) ?_)
    | (refine R_eff hΓ rfl (by simp only [peff, Int.reduceLE, Int.reduceLT, Int.reduceNeg, Int.reduceAdd, Int.reduceSub, Int.reduceToNat, Nat.reduceEqDiff, Nat.reduceLeDiff, Nat.reduceLT, Nat.reduceAdd, Nat.reduceSub, Nat.reduceMul, reduceIte, reduceCtorEq, pv, pbin, peq, plen, pload, pcut, pfill, St.ev, St.set, lk, D.ofV, D.cellsOf, InR.i64, InR.u8, ssL, tx, ix, Fact.c, Pair.c, Cond.c, Action.c, Rule.c, Token.c, Match.c, Alpha.c, Node.c, Network.c, Stamp.c, Firing.c, Choice.c, tagg_65, tagg_71, tbool_4, tinf_71, tsz_65, tsz_71, tz_71] <;> rfl) ?_)
    | (refine R_call rfl rfl rfl (by omega) (by simp only [Int.reduceLE, Int.reduceLT, Int.reduceNeg, Int.reduceAdd, Int.reduceSub, Int.reduceToNat, Nat.reduceEqDiff, Nat.reduceLeDiff, Nat.reduceLT, Nat.reduceAdd, Nat.reduceSub, Nat.reduceMul, reduceIte, reduceCtorEq, pv, pbin, peq, plen, pload, pcut, pfill, St.ev, St.set, lk, D.ofV, D.cellsOf, InR.i64, InR.u8, ssL, tx, ix, Fact.c, Pair.c, Cond.c, Action.c, Rule.c, Token.c, Match.c, Alpha.c, Node.c, Network.c, Stamp.c, Firing.c, Choice.c, tagg_65, tagg_71, tbool_4, tinf_71, tsz_65, tsz_71, tz_71] <;> rfl) (by rfl) (by first | exact t1 | exact e1 | exact t2 | exact e2 | exact s0 | exact i0) (by rfl) ?_)
    | (refine C_call rfl rfl rfl (by omega) (by simp only [Int.reduceLE, Int.reduceLT, Int.reduceNeg, Int.reduceAdd, Int.reduceSub, Int.reduceToNat, Nat.reduceEqDiff, Nat.reduceLeDiff, Nat.reduceLT, Nat.reduceAdd, Nat.reduceSub, Nat.reduceMul, reduceIte, reduceCtorEq, pv, pbin, peq, plen, pload, pcut, pfill, St.ev, St.set, lk, D.ofV, D.cellsOf, InR.i64, InR.u8, ssL, tx, ix, Fact.c, Pair.c, Cond.c, Action.c, Rule.c, Token.c, Match.c, Alpha.c, Node.c, Network.c, Stamp.c, Firing.c, Choice.c, tagg_65, tagg_71, tbool_4, tinf_71, tsz_65, tsz_71, tz_71] <;> rfl) (by rfl) (by first | exact t1 | exact e1 | exact t2 | exact e2 | exact s0 | exact i0) (by rfl) ?_)
  refine W_false (by simp only [Int.reduceLE, Int.reduceLT, Int.reduceNeg, Int.reduceAdd, Int.reduceSub, Int.reduceToNat, Nat.reduceEqDiff, Nat.reduceLeDiff, Nat.reduceLT, Nat.reduceAdd, Nat.reduceSub, Nat.reduceMul, reduceIte, reduceCtorEq, pv, pbin, peq, plen, pload, pcut, pfill, St.ev, St.set, lk, D.ofV, D.cellsOf, InR.i64, InR.u8, ssL, tx, ix, Fact.c, Pair.c, Cond.c, Action.c, Rule.c, Token.c, Match.c, Alpha.c, Node.c, Network.c, Stamp.c, Firing.c, Choice.c, tagg_65, tagg_71, tbool_4, tinf_71, tsz_65, tsz_71, tz_71] <;> rfl) ?_
  repeat' first
    | refine thenQ_normal ?_
    | refine thenQ_ret ?_
    | refine thenQ_exit ?_
    | refine blockQ_normal ?_
    | refine blockQ_ret ?_
    | refine blockQ_exit ?_
    | refine blockQ_pass rfl ?_
    | refine AW_seq ?_
    | refine AW_block ?_
    | refine AW_skip ?_
    | refine AW_ret ?_
    | refine AW_exit ?_
    | refine AW_region ?_
    | refine AO_nil ?_
    | refine C_nil ?_
    | (refine R_pv rfl rfl (by omega) (by simp only [Int.reduceLE, Int.reduceLT, Int.reduceNeg, Int.reduceAdd, Int.reduceSub, Int.reduceToNat, Nat.reduceEqDiff, Nat.reduceLeDiff, Nat.reduceLT, Nat.reduceAdd, Nat.reduceSub, Nat.reduceMul, reduceIte, reduceCtorEq, pv, pbin, peq, plen, pload, pcut, pfill, St.ev, St.set, lk, D.ofV, D.cellsOf, InR.i64, InR.u8, ssL, tx, ix, Fact.c, Pair.c, Cond.c, Action.c, Rule.c, Token.c, Match.c, Alpha.c, Node.c, Network.c, Stamp.c, Firing.c, Choice.c, tagg_65, tagg_71, tbool_4, tinf_71, tsz_65, tsz_71, tz_71] <;> rfl) ?_)
    | (refine C_pv rfl rfl (by omega) (by simp only [Int.reduceLE, Int.reduceLT, Int.reduceNeg, Int.reduceAdd, Int.reduceSub, Int.reduceToNat, Nat.reduceEqDiff, Nat.reduceLeDiff, Nat.reduceLT, Nat.reduceAdd, Nat.reduceSub, Nat.reduceMul, reduceIte, reduceCtorEq, pv, pbin, peq, plen, pload, pcut, pfill, St.ev, St.set, lk, D.ofV, D.cellsOf, InR.i64, InR.u8, ssL, tx, ix, Fact.c, Pair.c, Cond.c, Action.c, Rule.c, Token.c, Match.c, Alpha.c, Node.c, Network.c, Stamp.c, Firing.c, Choice.c, tagg_65, tagg_71, tbool_4, tinf_71, tsz_65, tsz_71, tz_71] <;> rfl) ?_)
    | (refine R_eff hΓ rfl (by simp only [peff, Int.reduceLE, Int.reduceLT, Int.reduceNeg, Int.reduceAdd, Int.reduceSub, Int.reduceToNat, Nat.reduceEqDiff, Nat.reduceLeDiff, Nat.reduceLT, Nat.reduceAdd, Nat.reduceSub, Nat.reduceMul, reduceIte, reduceCtorEq, pv, pbin, peq, plen, pload, pcut, pfill, St.ev, St.set, lk, D.ofV, D.cellsOf, InR.i64, InR.u8, ssL, tx, ix, Fact.c, Pair.c, Cond.c, Action.c, Rule.c, Token.c, Match.c, Alpha.c, Node.c, Network.c, Stamp.c, Firing.c, Choice.c, tagg_65, tagg_71, tbool_4, tinf_71, tsz_65, tsz_71, tz_71] <;> rfl) ?_)
    | (refine R_call rfl rfl rfl (by omega) (by simp only [Int.reduceLE, Int.reduceLT, Int.reduceNeg, Int.reduceAdd, Int.reduceSub, Int.reduceToNat, Nat.reduceEqDiff, Nat.reduceLeDiff, Nat.reduceLT, Nat.reduceAdd, Nat.reduceSub, Nat.reduceMul, reduceIte, reduceCtorEq, pv, pbin, peq, plen, pload, pcut, pfill, St.ev, St.set, lk, D.ofV, D.cellsOf, InR.i64, InR.u8, ssL, tx, ix, Fact.c, Pair.c, Cond.c, Action.c, Rule.c, Token.c, Match.c, Alpha.c, Node.c, Network.c, Stamp.c, Firing.c, Choice.c, tagg_65, tagg_71, tbool_4, tinf_71, tsz_65, tsz_71, tz_71] <;> rfl) (by rfl) (by first | exact t1 | exact e1 | exact t2 | exact e2 | exact s0 | exact i0) (by rfl) ?_)
    | (refine C_call rfl rfl rfl (by omega) (by simp only [Int.reduceLE, Int.reduceLT, Int.reduceNeg, Int.reduceAdd, Int.reduceSub, Int.reduceToNat, Nat.reduceEqDiff, Nat.reduceLeDiff, Nat.reduceLT, Nat.reduceAdd, Nat.reduceSub, Nat.reduceMul, reduceIte, reduceCtorEq, pv, pbin, peq, plen, pload, pcut, pfill, St.ev, St.set, lk, D.ofV, D.cellsOf, InR.i64, InR.u8, ssL, tx, ix, Fact.c, Pair.c, Cond.c, Action.c, Rule.c, Token.c, Match.c, Alpha.c, Node.c, Network.c, Stamp.c, Firing.c, Choice.c, tagg_65, tagg_71, tbool_4, tinf_71, tsz_65, tsz_71, tz_71] <;> rfl) (by rfl) (by first | exact t1 | exact e1 | exact t2 | exact e2 | exact s0 | exact i0) (by rfl) ?_)
  refine W_draw 3 (by kernel_rfl) (by kernel_rfl) rfl rfl ?_
  repeat' first
    | refine thenQ_normal ?_
    | refine thenQ_ret ?_
    | refine thenQ_exit ?_
    | refine blockQ_normal ?_
    | refine blockQ_ret ?_
    | refine blockQ_exit ?_
    | refine blockQ_pass rfl ?_
    | refine AW_seq ?_
    | refine AW_block ?_
    | refine AW_skip ?_
    | refine AW_ret ?_
    | refine AW_exit ?_
    | refine AW_region ?_
    | refine AO_nil ?_
    | refine C_nil ?_
    | (refine R_pv rfl rfl (by omega) (by simp only [Int.reduceLE, Int.reduceLT, Int.reduceNeg, Int.reduceAdd, Int.reduceSub, Int.reduceToNat, Nat.reduceEqDiff, Nat.reduceLeDiff, Nat.reduceLT, Nat.reduceAdd, Nat.reduceSub, Nat.reduceMul, reduceIte, reduceCtorEq, pv, pbin, peq, plen, pload, pcut, pfill, St.ev, St.set, lk, D.ofV, D.cellsOf, InR.i64, InR.u8, ssL, tx, ix, Fact.c, Pair.c, Cond.c, Action.c, Rule.c, Token.c, Match.c, Alpha.c, Node.c, Network.c, Stamp.c, Firing.c, Choice.c, tagg_65, tagg_71, tbool_4, tinf_71, tsz_65, tsz_71, tz_71] <;> rfl) ?_)
    | (refine C_pv rfl rfl (by omega) (by simp only [Int.reduceLE, Int.reduceLT, Int.reduceNeg, Int.reduceAdd, Int.reduceSub, Int.reduceToNat, Nat.reduceEqDiff, Nat.reduceLeDiff, Nat.reduceLT, Nat.reduceAdd, Nat.reduceSub, Nat.reduceMul, reduceIte, reduceCtorEq, pv, pbin, peq, plen, pload, pcut, pfill, St.ev, St.set, lk, D.ofV, D.cellsOf, InR.i64, InR.u8, ssL, tx, ix, Fact.c, Pair.c, Cond.c, Action.c, Rule.c, Token.c, Match.c, Alpha.c, Node.c, Network.c, Stamp.c, Firing.c, Choice.c, tagg_65, tagg_71, tbool_4, tinf_71, tsz_65, tsz_71, tz_71] <;> rfl) ?_)
    | (refine R_eff hΓ rfl (by simp only [peff, Int.reduceLE, Int.reduceLT, Int.reduceNeg, Int.reduceAdd, Int.reduceSub, Int.reduceToNat, Nat.reduceEqDiff, Nat.reduceLeDiff, Nat.reduceLT, Nat.reduceAdd, Nat.reduceSub, Nat.reduceMul, reduceIte, reduceCtorEq, pv, pbin, peq, plen, pload, pcut, pfill, St.ev, St.set, lk, D.ofV, D.cellsOf, InR.i64, InR.u8, ssL, tx, ix, Fact.c, Pair.c, Cond.c, Action.c, Rule.c, Token.c, Match.c, Alpha.c, Node.c, Network.c, Stamp.c, Firing.c, Choice.c, tagg_65, tagg_71, tbool_4, tinf_71, tsz_65, tsz_71, tz_71] <;> rfl) ?_)
    | (refine R_call rfl rfl rfl (by omega) (by simp only [Int.reduceLE, Int.reduceLT, Int.reduceNeg, Int.reduceAdd, Int.reduceSub, Int.reduceToNat, Nat.reduceEqDiff, Nat.reduceLeDiff, Nat.reduceLT, Nat.reduceAdd, Nat.reduceSub, Nat.reduceMul, reduceIte, reduceCtorEq, pv, pbin, peq, plen, pload, pcut, pfill, St.ev, St.set, lk, D.ofV, D.cellsOf, InR.i64, InR.u8, ssL, tx, ix, Fact.c, Pair.c, Cond.c, Action.c, Rule.c, Token.c, Match.c, Alpha.c, Node.c, Network.c, Stamp.c, Firing.c, Choice.c, tagg_65, tagg_71, tbool_4, tinf_71, tsz_65, tsz_71, tz_71] <;> rfl) (by rfl) (by first | exact t1 | exact e1 | exact t2 | exact e2 | exact s0 | exact i0) (by rfl) ?_)
    | (refine C_call rfl rfl rfl (by omega) (by simp only [Int.reduceLE, Int.reduceLT, Int.reduceNeg, Int.reduceAdd, Int.reduceSub, Int.reduceToNat, Nat.reduceEqDiff, Nat.reduceLeDiff, Nat.reduceLT, Nat.reduceAdd, Nat.reduceSub, Nat.reduceMul, reduceIte, reduceCtorEq, pv, pbin, peq, plen, pload, pcut, pfill, St.ev, St.set, lk, D.ofV, D.cellsOf, InR.i64, InR.u8, ssL, tx, ix, Fact.c, Pair.c, Cond.c, Action.c, Rule.c, Token.c, Match.c, Alpha.c, Node.c, Network.c, Stamp.c, Firing.c, Choice.c, tagg_65, tagg_71, tbool_4, tinf_71, tsz_65, tsz_71, tz_71] <;> rfl) (by rfl) (by first | exact t1 | exact e1 | exact t2 | exact e2 | exact s0 | exact i0) (by rfl) ?_)
  refine W_false (by simp only [Int.reduceLE, Int.reduceLT, Int.reduceNeg, Int.reduceAdd, Int.reduceSub, Int.reduceToNat, Nat.reduceEqDiff, Nat.reduceLeDiff, Nat.reduceLT, Nat.reduceAdd, Nat.reduceSub, Nat.reduceMul, reduceIte, reduceCtorEq, pv, pbin, peq, plen, pload, pcut, pfill, St.ev, St.set, lk, D.ofV, D.cellsOf, InR.i64, InR.u8, ssL, tx, ix, Fact.c, Pair.c, Cond.c, Action.c, Rule.c, Token.c, Match.c, Alpha.c, Node.c, Network.c, Stamp.c, Firing.c, Choice.c, tagg_65, tagg_71, tbool_4, tinf_71, tsz_65, tsz_71, tz_71] <;> rfl) ?_
  repeat' first
    | refine thenQ_normal ?_
    | refine thenQ_ret ?_
    | refine thenQ_exit ?_
    | refine blockQ_normal ?_
    | refine blockQ_ret ?_
    | refine blockQ_exit ?_
    | refine blockQ_pass rfl ?_
    | refine AW_seq ?_
    | refine AW_block ?_
    | refine AW_skip ?_
    | refine AW_ret ?_
    | refine AW_exit ?_
    | refine AW_region ?_
    | refine AO_nil ?_
    | refine C_nil ?_
    | (refine R_pv rfl rfl (by omega) (by simp only [Int.reduceLE, Int.reduceLT, Int.reduceNeg, Int.reduceAdd, Int.reduceSub, Int.reduceToNat, Nat.reduceEqDiff, Nat.reduceLeDiff, Nat.reduceLT, Nat.reduceAdd, Nat.reduceSub, Nat.reduceMul, reduceIte, reduceCtorEq, pv, pbin, peq, plen, pload, pcut, pfill, St.ev, St.set, lk, D.ofV, D.cellsOf, InR.i64, InR.u8, ssL, tx, ix, Fact.c, Pair.c, Cond.c, Action.c, Rule.c, Token.c, Match.c, Alpha.c, Node.c, Network.c, Stamp.c, Firing.c, Choice.c, tagg_65, tagg_71, tbool_4, tinf_71, tsz_65, tsz_71, tz_71] <;> rfl) ?_)
    | (refine C_pv rfl rfl (by omega) (by simp only [Int.reduceLE, Int.reduceLT, Int.reduceNeg, Int.reduceAdd, Int.reduceSub, Int.reduceToNat, Nat.reduceEqDiff, Nat.reduceLeDiff, Nat.reduceLT, Nat.reduceAdd, Nat.reduceSub, Nat.reduceMul, reduceIte, reduceCtorEq, pv, pbin, peq, plen, pload, pcut, pfill, St.ev, St.set, lk, D.ofV, D.cellsOf, InR.i64, InR.u8, ssL, tx, ix, Fact.c, Pair.c, Cond.c, Action.c, Rule.c, Token.c, Match.c, Alpha.c, Node.c, Network.c, Stamp.c, Firing.c, Choice.c, tagg_65, tagg_71, tbool_4, tinf_71, tsz_65, tsz_71, tz_71] <;> rfl) ?_)
    | (refine R_eff hΓ rfl (by simp only [peff, Int.reduceLE, Int.reduceLT, Int.reduceNeg, Int.reduceAdd, Int.reduceSub, Int.reduceToNat, Nat.reduceEqDiff, Nat.reduceLeDiff, Nat.reduceLT, Nat.reduceAdd, Nat.reduceSub, Nat.reduceMul, reduceIte, reduceCtorEq, pv, pbin, peq, plen, pload, pcut, pfill, St.ev, St.set, lk, D.ofV, D.cellsOf, InR.i64, InR.u8, ssL, tx, ix, Fact.c, Pair.c, Cond.c, Action.c, Rule.c, Token.c, Match.c, Alpha.c, Node.c, Network.c, Stamp.c, Firing.c, Choice.c, tagg_65, tagg_71, tbool_4, tinf_71, tsz_65, tsz_71, tz_71] <;> rfl) ?_)
    | (refine R_call rfl rfl rfl (by omega) (by simp only [Int.reduceLE, Int.reduceLT, Int.reduceNeg, Int.reduceAdd, Int.reduceSub, Int.reduceToNat, Nat.reduceEqDiff, Nat.reduceLeDiff, Nat.reduceLT, Nat.reduceAdd, Nat.reduceSub, Nat.reduceMul, reduceIte, reduceCtorEq, pv, pbin, peq, plen, pload, pcut, pfill, St.ev, St.set, lk, D.ofV, D.cellsOf, InR.i64, InR.u8, ssL, tx, ix, Fact.c, Pair.c, Cond.c, Action.c, Rule.c, Token.c, Match.c, Alpha.c, Node.c, Network.c, Stamp.c, Firing.c, Choice.c, tagg_65, tagg_71, tbool_4, tinf_71, tsz_65, tsz_71, tz_71] <;> rfl) (by rfl) (by first | exact t1 | exact e1 | exact t2 | exact e2 | exact s0 | exact i0) (by rfl) ?_)
    | (refine C_call rfl rfl rfl (by omega) (by simp only [Int.reduceLE, Int.reduceLT, Int.reduceNeg, Int.reduceAdd, Int.reduceSub, Int.reduceToNat, Nat.reduceEqDiff, Nat.reduceLeDiff, Nat.reduceLT, Nat.reduceAdd, Nat.reduceSub, Nat.reduceMul, reduceIte, reduceCtorEq, pv, pbin, peq, plen, pload, pcut, pfill, St.ev, St.set, lk, D.ofV, D.cellsOf, InR.i64, InR.u8, ssL, tx, ix, Fact.c, Pair.c, Cond.c, Action.c, Rule.c, Token.c, Match.c, Alpha.c, Node.c, Network.c, Stamp.c, Firing.c, Choice.c, tagg_65, tagg_71, tbool_4, tinf_71, tsz_65, tsz_71, tz_71] <;> rfl) (by rfl) (by first | exact t1 | exact e1 | exact t2 | exact e2 | exact s0 | exact i0) (by rfl) ?_)
  refine W_draw 3 (by kernel_rfl) (by kernel_rfl) rfl rfl ?_
  repeat' first
    | refine thenQ_normal ?_
    | refine thenQ_ret ?_
    | refine thenQ_exit ?_
    | refine blockQ_normal ?_
    | refine blockQ_ret ?_
    | refine blockQ_exit ?_
    | refine blockQ_pass rfl ?_
    | refine AW_seq ?_
    | refine AW_block ?_
    | refine AW_skip ?_
    | refine AW_ret ?_
    | refine AW_exit ?_
    | refine AW_region ?_
    | refine AO_nil ?_
    | refine C_nil ?_
    | (refine R_pv rfl rfl (by omega) (by simp only [Int.reduceLE, Int.reduceLT, Int.reduceNeg, Int.reduceAdd, Int.reduceSub, Int.reduceToNat, Nat.reduceEqDiff, Nat.reduceLeDiff, Nat.reduceLT, Nat.reduceAdd, Nat.reduceSub, Nat.reduceMul, reduceIte, reduceCtorEq, pv, pbin, peq, plen, pload, pcut, pfill, St.ev, St.set, lk, D.ofV, D.cellsOf, InR.i64, InR.u8, ssL, tx, ix, Fact.c, Pair.c, Cond.c, Action.c, Rule.c, Token.c, Match.c, Alpha.c, Node.c, Network.c, Stamp.c, Firing.c, Choice.c, tagg_65, tagg_71, tbool_4, tinf_71, tsz_65, tsz_71, tz_71] <;> rfl) ?_)
    | (refine C_pv rfl rfl (by omega) (by simp only [Int.reduceLE, Int.reduceLT, Int.reduceNeg, Int.reduceAdd, Int.reduceSub, Int.reduceToNat, Nat.reduceEqDiff, Nat.reduceLeDiff, Nat.reduceLT, Nat.reduceAdd, Nat.reduceSub, Nat.reduceMul, reduceIte, reduceCtorEq, pv, pbin, peq, plen, pload, pcut, pfill, St.ev, St.set, lk, D.ofV, D.cellsOf, InR.i64, InR.u8, ssL, tx, ix, Fact.c, Pair.c, Cond.c, Action.c, Rule.c, Token.c, Match.c, Alpha.c, Node.c, Network.c, Stamp.c, Firing.c, Choice.c, tagg_65, tagg_71, tbool_4, tinf_71, tsz_65, tsz_71, tz_71] <;> rfl) ?_)
    | (refine R_eff hΓ rfl (by simp only [peff, Int.reduceLE, Int.reduceLT, Int.reduceNeg, Int.reduceAdd, Int.reduceSub, Int.reduceToNat, Nat.reduceEqDiff, Nat.reduceLeDiff, Nat.reduceLT, Nat.reduceAdd, Nat.reduceSub, Nat.reduceMul, reduceIte, reduceCtorEq, pv, pbin, peq, plen, pload, pcut, pfill, St.ev, St.set, lk, D.ofV, D.cellsOf, InR.i64, InR.u8, ssL, tx, ix, Fact.c, Pair.c, Cond.c, Action.c, Rule.c, Token.c, Match.c, Alpha.c, Node.c, Network.c, Stamp.c, Firing.c, Choice.c, tagg_65, tagg_71, tbool_4, tinf_71, tsz_65, tsz_71, tz_71] <;> rfl) ?_)
    | (refine R_call rfl rfl rfl (by omega) (by simp only [Int.reduceLE, Int.reduceLT, Int.reduceNeg, Int.reduceAdd, Int.reduceSub, Int.reduceToNat, Nat.reduceEqDiff, Nat.reduceLeDiff, Nat.reduceLT, Nat.reduceAdd, Nat.reduceSub, Nat.reduceMul, reduceIte, reduceCtorEq, pv, pbin, peq, plen, pload, pcut, pfill, St.ev, St.set, lk, D.ofV, D.cellsOf, InR.i64, InR.u8, ssL, tx, ix, Fact.c, Pair.c, Cond.c, Action.c, Rule.c, Token.c, Match.c, Alpha.c, Node.c, Network.c, Stamp.c, Firing.c, Choice.c, tagg_65, tagg_71, tbool_4, tinf_71, tsz_65, tsz_71, tz_71] <;> rfl) (by rfl) (by first | exact t1 | exact e1 | exact t2 | exact e2 | exact s0 | exact i0) (by rfl) ?_)
    | (refine C_call rfl rfl rfl (by omega) (by simp only [Int.reduceLE, Int.reduceLT, Int.reduceNeg, Int.reduceAdd, Int.reduceSub, Int.reduceToNat, Nat.reduceEqDiff, Nat.reduceLeDiff, Nat.reduceLT, Nat.reduceAdd, Nat.reduceSub, Nat.reduceMul, reduceIte, reduceCtorEq, pv, pbin, peq, plen, pload, pcut, pfill, St.ev, St.set, lk, D.ofV, D.cellsOf, InR.i64, InR.u8, ssL, tx, ix, Fact.c, Pair.c, Cond.c, Action.c, Rule.c, Token.c, Match.c, Alpha.c, Node.c, Network.c, Stamp.c, Firing.c, Choice.c, tagg_65, tagg_71, tbool_4, tinf_71, tsz_65, tsz_71, tz_71] <;> rfl) (by rfl) (by first | exact t1 | exact e1 | exact t2 | exact e2 | exact s0 | exact i0) (by rfl) ?_)
  refine W_false (by simp only [Int.reduceLE, Int.reduceLT, Int.reduceNeg, Int.reduceAdd, Int.reduceSub, Int.reduceToNat, Nat.reduceEqDiff, Nat.reduceLeDiff, Nat.reduceLT, Nat.reduceAdd, Nat.reduceSub, Nat.reduceMul, reduceIte, reduceCtorEq, pv, pbin, peq, plen, pload, pcut, pfill, St.ev, St.set, lk, D.ofV, D.cellsOf, InR.i64, InR.u8, ssL, tx, ix, Fact.c, Pair.c, Cond.c, Action.c, Rule.c, Token.c, Match.c, Alpha.c, Node.c, Network.c, Stamp.c, Firing.c, Choice.c, tagg_65, tagg_71, tbool_4, tinf_71, tsz_65, tsz_71, tz_71] <;> rfl) ?_
  repeat' first
    | refine thenQ_normal ?_
    | refine thenQ_ret ?_
    | refine thenQ_exit ?_
    | refine blockQ_normal ?_
    | refine blockQ_ret ?_
    | refine blockQ_exit ?_
    | refine blockQ_pass rfl ?_
    | refine AW_seq ?_
    | refine AW_block ?_
    | refine AW_skip ?_
    | refine AW_ret ?_
    | refine AW_exit ?_
    | refine AW_region ?_
    | refine AO_nil ?_
    | refine C_nil ?_
    | (refine R_pv rfl rfl (by omega) (by simp only [Int.reduceLE, Int.reduceLT, Int.reduceNeg, Int.reduceAdd, Int.reduceSub, Int.reduceToNat, Nat.reduceEqDiff, Nat.reduceLeDiff, Nat.reduceLT, Nat.reduceAdd, Nat.reduceSub, Nat.reduceMul, reduceIte, reduceCtorEq, pv, pbin, peq, plen, pload, pcut, pfill, St.ev, St.set, lk, D.ofV, D.cellsOf, InR.i64, InR.u8, ssL, tx, ix, Fact.c, Pair.c, Cond.c, Action.c, Rule.c, Token.c, Match.c, Alpha.c, Node.c, Network.c, Stamp.c, Firing.c, Choice.c, tagg_65, tagg_71, tbool_4, tinf_71, tsz_65, tsz_71, tz_71] <;> rfl) ?_)
    | (refine C_pv rfl rfl (by omega) (by simp only [Int.reduceLE, Int.reduceLT, Int.reduceNeg, Int.reduceAdd, Int.reduceSub, Int.reduceToNat, Nat.reduceEqDiff, Nat.reduceLeDiff, Nat.reduceLT, Nat.reduceAdd, Nat.reduceSub, Nat.reduceMul, reduceIte, reduceCtorEq, pv, pbin, peq, plen, pload, pcut, pfill, St.ev, St.set, lk, D.ofV, D.cellsOf, InR.i64, InR.u8, ssL, tx, ix, Fact.c, Pair.c, Cond.c, Action.c, Rule.c, Token.c, Match.c, Alpha.c, Node.c, Network.c, Stamp.c, Firing.c, Choice.c, tagg_65, tagg_71, tbool_4, tinf_71, tsz_65, tsz_71, tz_71] <;> rfl) ?_)
    | (refine R_eff hΓ rfl (by simp only [peff, Int.reduceLE, Int.reduceLT, Int.reduceNeg, Int.reduceAdd, Int.reduceSub, Int.reduceToNat, Nat.reduceEqDiff, Nat.reduceLeDiff, Nat.reduceLT, Nat.reduceAdd, Nat.reduceSub, Nat.reduceMul, reduceIte, reduceCtorEq, pv, pbin, peq, plen, pload, pcut, pfill, St.ev, St.set, lk, D.ofV, D.cellsOf, InR.i64, InR.u8, ssL, tx, ix, Fact.c, Pair.c, Cond.c, Action.c, Rule.c, Token.c, Match.c, Alpha.c, Node.c, Network.c, Stamp.c, Firing.c, Choice.c, tagg_65, tagg_71, tbool_4, tinf_71, tsz_65, tsz_71, tz_71] <;> rfl) ?_)
    | (refine R_call rfl rfl rfl (by omega) (by simp only [Int.reduceLE, Int.reduceLT, Int.reduceNeg, Int.reduceAdd, Int.reduceSub, Int.reduceToNat, Nat.reduceEqDiff, Nat.reduceLeDiff, Nat.reduceLT, Nat.reduceAdd, Nat.reduceSub, Nat.reduceMul, reduceIte, reduceCtorEq, pv, pbin, peq, plen, pload, pcut, pfill, St.ev, St.set, lk, D.ofV, D.cellsOf, InR.i64, InR.u8, ssL, tx, ix, Fact.c, Pair.c, Cond.c, Action.c, Rule.c, Token.c, Match.c, Alpha.c, Node.c, Network.c, Stamp.c, Firing.c, Choice.c, tagg_65, tagg_71, tbool_4, tinf_71, tsz_65, tsz_71, tz_71] <;> rfl) (by rfl) (by first | exact t1 | exact e1 | exact t2 | exact e2 | exact s0 | exact i0) (by rfl) ?_)
    | (refine C_call rfl rfl rfl (by omega) (by simp only [Int.reduceLE, Int.reduceLT, Int.reduceNeg, Int.reduceAdd, Int.reduceSub, Int.reduceToNat, Nat.reduceEqDiff, Nat.reduceLeDiff, Nat.reduceLT, Nat.reduceAdd, Nat.reduceSub, Nat.reduceMul, reduceIte, reduceCtorEq, pv, pbin, peq, plen, pload, pcut, pfill, St.ev, St.set, lk, D.ofV, D.cellsOf, InR.i64, InR.u8, ssL, tx, ix, Fact.c, Pair.c, Cond.c, Action.c, Rule.c, Token.c, Match.c, Alpha.c, Node.c, Network.c, Stamp.c, Firing.c, Choice.c, tagg_65, tagg_71, tbool_4, tinf_71, tsz_65, tsz_71, tz_71] <;> rfl) (by rfl) (by first | exact t1 | exact e1 | exact t2 | exact e2 | exact s0 | exact i0) (by rfl) ?_)
  exact RetQ_ret (by simp only [Try.f8, resDs, resD, Int.reduceLE, Int.reduceLT, Int.reduceNeg, Int.reduceAdd, Int.reduceSub, Int.reduceToNat, Nat.reduceEqDiff, Nat.reduceLeDiff, Nat.reduceLT, Nat.reduceAdd, Nat.reduceSub, Nat.reduceMul, reduceIte, reduceCtorEq, pv, pbin, peq, plen, pload, pcut, pfill, St.ev, St.set, lk, D.ofV, D.cellsOf, InR.i64, InR.u8, ssL, tx, ix, Fact.c, Pair.c, Cond.c, Action.c, Rule.c, Token.c, Match.c, Alpha.c, Node.c, Network.c, Stamp.c, Firing.c, Choice.c, tagg_65, tagg_71, tbool_4, tinf_71, tsz_65, tsz_71, tz_71] <;> rfl) rfl rfl
end LawSameRule
end Go.Bx
