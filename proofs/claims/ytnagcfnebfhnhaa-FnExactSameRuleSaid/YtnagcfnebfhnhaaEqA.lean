/- The contracts of the eq functions: whether two data are equal. No condition. -/
import Derived.Test.YtnagcfnebfhnhaaData
import Derived.Test.YtnagcfnebfhnhaaTy
import Derived.KernelRfl
namespace Go.Bx
open Go.RowKit Go.Proofs
set_option linter.unusedSimpArgs false in
set_option maxRecDepth 100000 in
set_option maxHeartbeats 1000000 in
theorem eqStringS_good (l m : List Bytes) : Good Try.prog 58 [.sl (l.map tx), .sl (m.map tx)] (.bool (decide (l = m))) := by
  refine Good.of Try.func58 rfl (by decide) (by simp [Try.f58]) ?_
  intro hr Γ hΓ
  have hΓ : Γ.nt = 26 := hΓ
  simp only [args0]
  have hl : l.length ≤ maxLen := (hr (.sl (l.map tx)) (List.mem_cons_self ..)).len
  by_cases c1 : l.length = m.length
  case neg =>
    have d1 : ((l.length : Int) != (m.length : Int)) = true := by simp; omega
    repeat' first
      | refine thenQ_normal ?_
      | refine thenQ_ret ?_
      | refine thenQ_exit ?_
      | refine blockQ_normal ?_
      | refine blockQ_ret ?_
      | refine blockQ_exit ?_
      | refine blockQ_pass rfl ?_
      | refine AW_seq ?_
      | refine AW_block ?_
      | refine AW_skip ?_
      | refine AW_ret ?_
      | refine AW_exit ?_
      | refine AW_region ?_
      | refine AO_nil ?_
      | refine C_nil ?_
      | (refine R_pv rfl rfl (by omega) (by simp only [Int.reduceLE, Int.reduceLT, Int.reduceNeg, Int.reduceAdd, Int.reduceSub, Int.reduceToNat, Nat.reduceEqDiff, Nat.reduceLeDiff, Nat.reduceLT, Nat.reduceAdd, Nat.reduceSub, Nat.reduceMul, reduceIte, reduceCtorEq, pv, pbin, peq, plen, pload, pcut, pfill, St.ev, St.set, lk, D.ofV, D.cellsOf, InR.i64, InR.u8, ssL, tx, ix, Fact.c, Pair.c, Cond.c, Action.c, Rule.c, Token.c, Match.c, Alpha.c, Node.c, Network.c, Stamp.c, Firing.c, Choice.c, tagg_9, tel_23, tstr_23, tsz_9, d1] <;> rfl) ?_)
      | (refine C_pv rfl rfl (by omega) (by simp only [Int.reduceLE, Int.reduceLT, Int.reduceNeg, Int.reduceAdd, Int.reduceSub, Int.reduceToNat, Nat.reduceEqDiff, Nat.reduceLeDiff, Nat.reduceLT, Nat.reduceAdd, Nat.reduceSub, Nat.reduceMul, reduceIte, reduceCtorEq, pv, pbin, peq, plen, pload, pcut, pfill, St.ev, St.set, lk, D.ofV, D.cellsOf, InR.i64, InR.u8, ssL, tx, ix, Fact.c, Pair.c, Cond.c, Action.c, Rule.c, Token.c, Match.c, Alpha.c, Node.c, Network.c, Stamp.c, Firing.c, Choice.c, tagg_9, tel_23, tstr_23, tsz_9, d1] <;> rfl) ?_)
    refine W_true (by simp only [Int.reduceLE, Int.reduceLT, Int.reduceNeg, Int.reduceAdd, Int.reduceSub, Int.reduceToNat, Nat.reduceEqDiff, Nat.reduceLeDiff, Nat.reduceLT, Nat.reduceAdd, Nat.reduceSub, Nat.reduceMul, reduceIte, reduceCtorEq, pv, pbin, peq, plen, pload, pcut, pfill, St.ev, St.set, lk, D.ofV, D.cellsOf, InR.i64, InR.u8, ssL, tx, ix, Fact.c, Pair.c, Cond.c, Action.c, Rule.c, Token.c, Match.c, Alpha.c, Node.c, Network.c, Stamp.c, Firing.c, Choice.c, tagg_9, tel_23, tstr_23, tsz_9, d1] <;> rfl) ?_
    repeat' first
      | refine thenQ_normal ?_
      | refine thenQ_ret ?_
      | refine thenQ_exit ?_
      | refine blockQ_normal ?_
      | refine blockQ_ret ?_
      | refine blockQ_exit ?_
      | refine blockQ_pass rfl ?_
      | refine AW_seq ?_
      | refine AW_block ?_
      | refine AW_skip ?_
      | refine AW_ret ?_
      | refine AW_exit ?_
      | refine AW_region ?_
      | refine AO_nil ?_
      | refine C_nil ?_
      | (refine R_pv rfl rfl (by omega) (by simp only [Int.reduceLE, Int.reduceLT, Int.reduceNeg, Int.reduceAdd, Int.reduceSub, Int.reduceToNat, Nat.reduceEqDiff, Nat.reduceLeDiff, Nat.reduceLT, Nat.reduceAdd, Nat.reduceSub, Nat.reduceMul, reduceIte, reduceCtorEq, pv, pbin, peq, plen, pload, pcut, pfill, St.ev, St.set, lk, D.ofV, D.cellsOf, InR.i64, InR.u8, ssL, tx, ix, Fact.c, Pair.c, Cond.c, Action.c, Rule.c, Token.c, Match.c, Alpha.c, Node.c, Network.c, Stamp.c, Firing.c, Choice.c, tagg_9, tel_23, tstr_23, tsz_9] <;> rfl) ?_)
      | (refine C_pv rfl rfl (by omega) (by simp only [Int.reduceLE, Int.reduceLT, Int.reduceNeg, Int.reduceAdd, Int.reduceSub, Int.reduceToNat, Nat.reduceEqDiff, Nat.reduceLeDiff, Nat.reduceLT, Nat.reduceAdd, Nat.reduceSub, Nat.reduceMul, reduceIte, reduceCtorEq, pv, pbin, peq, plen, pload, pcut, pfill, St.ev, St.set, lk, D.ofV, D.cellsOf, InR.i64, InR.u8, ssL, tx, ix, Fact.c, Pair.c, Cond.c, Action.c, Rule.c, Token.c, Match.c, Alpha.c, Node.c, Network.c, Stamp.c, Firing.c, Choice.c, tagg_9, tel_23, tstr_23, tsz_9] <;> rfl) ?_)
    exact RetQ_ret (by simp only [Try.f58, resDs, resD, Int.reduceLE, Int.reduceLT, Int.reduceNeg, Int.reduceAdd, Int.reduceSub, Int.reduceToNat, Nat.reduceEqDiff, Nat.reduceLeDiff, Nat.reduceLT, Nat.reduceAdd, Nat.reduceSub, Nat.reduceMul, reduceIte, reduceCtorEq, pv, pbin, peq, plen, pload, pcut, pfill, St.ev, St.set, lk, D.ofV, D.cellsOf, InR.i64, InR.u8, ssL, tx, ix, Fact.c, Pair.c, Cond.c, Action.c, Rule.c, Token.c, Match.c, Alpha.c, Node.c, Network.c, Stamp.c, Firing.c, Choice.c, tagg_9, tel_23, tstr_23, tsz_9] <;> rfl) rfl (by simp only [packD]; rw [decide_eq_false (fun h => c1 (by rw [h]))])
  have d1 : ((l.length : Int) != (m.length : Int)) = false := by simp; omega
  repeat' first
    | refine thenQ_normal ?_
    | refine thenQ_ret ?_
    | refine thenQ_exit ?_
    | refine blockQ_normal ?_
    | refine blockQ_ret ?_
    | refine blockQ_exit ?_
    | refine blockQ_pass rfl ?_
    | refine AW_seq ?_
    | refine AW_block ?_
    | refine AW_skip ?_
    | refine AW_ret ?_
    | refine AW_exit ?_
    | refine AW_region ?_
    | refine AO_nil ?_
    | refine C_nil ?_
    | (refine R_pv rfl rfl (by omega) (by simp only [Int.reduceLE, Int.reduceLT, Int.reduceNeg, Int.reduceAdd, Int.reduceSub, Int.reduceToNat, Nat.reduceEqDiff, Nat.reduceLeDiff, Nat.reduceLT, Nat.reduceAdd, Nat.reduceSub, Nat.reduceMul, reduceIte, reduceCtorEq, pv, pbin, peq, plen, pload, pcut, pfill, St.ev, St.set, lk, D.ofV, D.cellsOf, InR.i64, InR.u8, ssL, tx, ix, Fact.c, Pair.c, Cond.c, Action.c, Rule.c, Token.c, Match.c, Alpha.c, Node.c, Network.c, Stamp.c, Firing.c, Choice.c, tagg_9, tel_23, tstr_23, tsz_9, d1] <;> rfl) ?_)
    | (refine C_pv rfl rfl (by omega) (by simp only [Int.reduceLE, Int.reduceLT, Int.reduceNeg, Int.reduceAdd, Int.reduceSub, Int.reduceToNat, Nat.reduceEqDiff, Nat.reduceLeDiff, Nat.reduceLT, Nat.reduceAdd, Nat.reduceSub, Nat.reduceMul, reduceIte, reduceCtorEq, pv, pbin, peq, plen, pload, pcut, pfill, St.ev, St.set, lk, D.ofV, D.cellsOf, InR.i64, InR.u8, ssL, tx, ix, Fact.c, Pair.c, Cond.c, Action.c, Rule.c, Token.c, Match.c, Alpha.c, Node.c, Network.c, Stamp.c, Firing.c, Choice.c, tagg_9, tel_23, tstr_23, tsz_9, d1] <;> rfl) ?_)
  refine W_false (by simp only [Int.reduceLE, Int.reduceLT, Int.reduceNeg, Int.reduceAdd, Int.reduceSub, Int.reduceToNat, Nat.reduceEqDiff, Nat.reduceLeDiff, Nat.reduceLT, Nat.reduceAdd, Nat.reduceSub, Nat.reduceMul, reduceIte, reduceCtorEq, pv, pbin, peq, plen, pload, pcut, pfill, St.ev, St.set, lk, D.ofV, D.cellsOf, InR.i64, InR.u8, ssL, tx, ix, Fact.c, Pair.c, Cond.c, Action.c, Rule.c, Token.c, Match.c, Alpha.c, Node.c, Network.c, Stamp.c, Firing.c, Choice.c, tagg_9, tel_23, tstr_23, tsz_9, d1] <;> rfl) ?_
  repeat' first
    | refine thenQ_normal ?_
    | refine thenQ_ret ?_
    | refine thenQ_exit ?_
    | refine blockQ_normal ?_
    | refine blockQ_ret ?_
    | refine blockQ_exit ?_
    | refine blockQ_pass rfl ?_
    | refine AW_seq ?_
    | refine AW_block ?_
    | refine AW_skip ?_
    | refine AW_ret ?_
    | refine AW_exit ?_
    | refine AW_region ?_
    | refine AO_nil ?_
    | refine C_nil ?_
    | (refine R_pv rfl rfl (by omega) (by simp only [Int.reduceLE, Int.reduceLT, Int.reduceNeg, Int.reduceAdd, Int.reduceSub, Int.reduceToNat, Nat.reduceEqDiff, Nat.reduceLeDiff, Nat.reduceLT, Nat.reduceAdd, Nat.reduceSub, Nat.reduceMul, reduceIte, reduceCtorEq, pv, pbin, peq, plen, pload, pcut, pfill, St.ev, St.set, lk, D.ofV, D.cellsOf, InR.i64, InR.u8, ssL, tx, ix, Fact.c, Pair.c, Cond.c, Action.c, Rule.c, Token.c, Match.c, Alpha.c, Node.c, Network.c, Stamp.c, Firing.c, Choice.c, tagg_9, tel_23, tstr_23, tsz_9] <;> rfl) ?_)
    | (refine C_pv rfl rfl (by omega) (by simp only [Int.reduceLE, Int.reduceLT, Int.reduceNeg, Int.reduceAdd, Int.reduceSub, Int.reduceToNat, Nat.reduceEqDiff, Nat.reduceLeDiff, Nat.reduceLT, Nat.reduceAdd, Nat.reduceSub, Nat.reduceMul, reduceIte, reduceCtorEq, pv, pbin, peq, plen, pload, pcut, pfill, St.ev, St.set, lk, D.ofV, D.cellsOf, InR.i64, InR.u8, ssL, tx, ix, Fact.c, Pair.c, Cond.c, Action.c, Rule.c, Token.c, Match.c, Alpha.c, Node.c, Network.c, Stamp.c, Firing.c, Choice.c, tagg_9, tel_23, tstr_23, tsz_9] <;> rfl) ?_)
  refine W_for [0, 1, 5] 0 (fun k => ⟨[(0, .sl (l.map tx)), (1, .sl (m.map tx)), (5, .int .i64 (k : Nat))], []⟩)
    (fun k => l.take k = m.take k) l.length rfl ?_ rfl ?_
  · simp only [St.trim, Int.reduceLE, Int.reduceLT, Int.reduceNeg, Int.reduceAdd, Int.reduceSub, Int.reduceToNat, Nat.reduceEqDiff, Nat.reduceLeDiff, Nat.reduceLT, Nat.reduceAdd, Nat.reduceSub, Nat.reduceMul, reduceIte, reduceCtorEq, pv, pbin, peq, plen, pload, pcut, pfill, St.ev, St.set, lk, D.ofV, D.cellsOf, InR.i64, InR.u8, ssL, tx, ix, Fact.c, Pair.c, Cond.c, Action.c, Rule.c, Token.c, Match.c, Alpha.c, Node.c, Network.c, Stamp.c, Firing.c, Choice.c, tagg_9, tel_23, tstr_23, tsz_9]
  · intro k hk hI
    rcases Nat.lt_or_ge k l.length with hlt | hge
    · obtain ⟨x, hx⟩ := getx hlt
      obtain ⟨y, hy⟩ := getx (l := m) (k := k) (by omega)
      have hd := lt_true hlt
      have wk := wrap_succ hlt hl
      by_cases c2 : x = y
      case neg =>
        have d2 : (!(x == y)) = true := by simp [c2]
        repeat' first
          | refine thenQ_normal ?_
          | refine thenQ_ret ?_
          | refine thenQ_exit ?_
          | refine blockQ_normal ?_
          | refine blockQ_ret ?_
          | refine blockQ_exit ?_
          | refine blockQ_pass rfl ?_
          | refine AW_seq ?_
          | refine AW_block ?_
          | refine AW_skip ?_
          | refine AW_ret ?_
          | refine AW_exit ?_
          | refine AW_region ?_
          | refine AO_nil ?_
          | refine C_nil ?_
          | (refine R_pv rfl rfl (by omega) (by simp only [Int.reduceLE, Int.reduceLT, Int.reduceNeg, Int.reduceAdd, Int.reduceSub, Int.reduceToNat, Nat.reduceEqDiff, Nat.reduceLeDiff, Nat.reduceLT, Nat.reduceAdd, Nat.reduceSub, Nat.reduceMul, reduceIte, reduceCtorEq, pv, pbin, peq, plen, pload, pcut, pfill, St.ev, St.set, lk, D.ofV, D.cellsOf, InR.i64, InR.u8, ssL, tx, ix, Fact.c, Pair.c, Cond.c, Action.c, Rule.c, Token.c, Match.c, Alpha.c, Node.c, Network.c, Stamp.c, Firing.c, Choice.c, tagg_9, tel_23, tstr_23, tsz_9, hd, hx, hy, wk, d2] <;> rfl) ?_)
          | (refine C_pv rfl rfl (by omega) (by simp only [Int.reduceLE, Int.reduceLT, Int.reduceNeg, Int.reduceAdd, Int.reduceSub, Int.reduceToNat, Nat.reduceEqDiff, Nat.reduceLeDiff, Nat.reduceLT, Nat.reduceAdd, Nat.reduceSub, Nat.reduceMul, reduceIte, reduceCtorEq, pv, pbin, peq, plen, pload, pcut, pfill, St.ev, St.set, lk, D.ofV, D.cellsOf, InR.i64, InR.u8, ssL, tx, ix, Fact.c, Pair.c, Cond.c, Action.c, Rule.c, Token.c, Match.c, Alpha.c, Node.c, Network.c, Stamp.c, Firing.c, Choice.c, tagg_9, tel_23, tstr_23, tsz_9, hd, hx, hy, wk, d2] <;> rfl) ?_)
        refine W_true (by simp only [Int.reduceLE, Int.reduceLT, Int.reduceNeg, Int.reduceAdd, Int.reduceSub, Int.reduceToNat, Nat.reduceEqDiff, Nat.reduceLeDiff, Nat.reduceLT, Nat.reduceAdd, Nat.reduceSub, Nat.reduceMul, reduceIte, reduceCtorEq, pv, pbin, peq, plen, pload, pcut, pfill, St.ev, St.set, lk, D.ofV, D.cellsOf, InR.i64, InR.u8, ssL, tx, ix, Fact.c, Pair.c, Cond.c, Action.c, Rule.c, Token.c, Match.c, Alpha.c, Node.c, Network.c, Stamp.c, Firing.c, Choice.c, tagg_9, tel_23, tstr_23, tsz_9, hd] <;> rfl) ?_
        repeat' first
          | refine thenQ_normal ?_
          | refine thenQ_ret ?_
          | refine thenQ_exit ?_
          | refine blockQ_normal ?_
          | refine blockQ_ret ?_
          | refine blockQ_exit ?_
          | refine blockQ_pass rfl ?_
          | refine AW_seq ?_
          | refine AW_block ?_
          | refine AW_skip ?_
          | refine AW_ret ?_
          | refine AW_exit ?_
          | refine AW_region ?_
          | refine AO_nil ?_
          | refine C_nil ?_
          | (refine R_pv rfl rfl (by omega) (by simp only [Int.reduceLE, Int.reduceLT, Int.reduceNeg, Int.reduceAdd, Int.reduceSub, Int.reduceToNat, Nat.reduceEqDiff, Nat.reduceLeDiff, Nat.reduceLT, Nat.reduceAdd, Nat.reduceSub, Nat.reduceMul, reduceIte, reduceCtorEq, pv, pbin, peq, plen, pload, pcut, pfill, St.ev, St.set, lk, D.ofV, D.cellsOf, InR.i64, InR.u8, ssL, tx, ix, Fact.c, Pair.c, Cond.c, Action.c, Rule.c, Token.c, Match.c, Alpha.c, Node.c, Network.c, Stamp.c, Firing.c, Choice.c, tagg_9, tel_23, tstr_23, tsz_9, hd, hx, hy, wk, d2] <;> rfl) ?_)
          | (refine C_pv rfl rfl (by omega) (by simp only [Int.reduceLE, Int.reduceLT, Int.reduceNeg, Int.reduceAdd, Int.reduceSub, Int.reduceToNat, Nat.reduceEqDiff, Nat.reduceLeDiff, Nat.reduceLT, Nat.reduceAdd, Nat.reduceSub, Nat.reduceMul, reduceIte, reduceCtorEq, pv, pbin, peq, plen, pload, pcut, pfill, St.ev, St.set, lk, D.ofV, D.cellsOf, InR.i64, InR.u8, ssL, tx, ix, Fact.c, Pair.c, Cond.c, Action.c, Rule.c, Token.c, Match.c, Alpha.c, Node.c, Network.c, Stamp.c, Firing.c, Choice.c, tagg_9, tel_23, tstr_23, tsz_9, hd, hx, hy, wk, d2] <;> rfl) ?_)
        refine W_draw 8 (by kernel_rfl) (by kernel_rfl) rfl rfl ?_
        repeat' first
          | refine thenQ_normal ?_
          | refine thenQ_ret ?_
          | refine thenQ_exit ?_
          | refine blockQ_normal ?_
          | refine blockQ_ret ?_
          | refine blockQ_exit ?_
          | refine blockQ_pass rfl ?_
          | refine AW_seq ?_
          | refine AW_block ?_
          | refine AW_skip ?_
          | refine AW_ret ?_
          | refine AW_exit ?_
          | refine AW_region ?_
          | refine AO_nil ?_
          | refine C_nil ?_
          | (refine R_pv rfl rfl (by omega) (by simp only [Int.reduceLE, Int.reduceLT, Int.reduceNeg, Int.reduceAdd, Int.reduceSub, Int.reduceToNat, Nat.reduceEqDiff, Nat.reduceLeDiff, Nat.reduceLT, Nat.reduceAdd, Nat.reduceSub, Nat.reduceMul, reduceIte, reduceCtorEq, pv, pbin, peq, plen, pload, pcut, pfill, St.ev, St.set, lk, D.ofV, D.cellsOf, InR.i64, InR.u8, ssL, tx, ix, Fact.c, Pair.c, Cond.c, Action.c, Rule.c, Token.c, Match.c, Alpha.c, Node.c, Network.c, Stamp.c, Firing.c, Choice.c, tagg_9, tel_23, tstr_23, tsz_9, hd, hx, hy, wk, d2] <;> rfl) ?_)
          | (refine C_pv rfl rfl (by omega) (by simp only [Int.reduceLE, Int.reduceLT, Int.reduceNeg, Int.reduceAdd, Int.reduceSub, Int.reduceToNat, Nat.reduceEqDiff, Nat.reduceLeDiff, Nat.reduceLT, Nat.reduceAdd, Nat.reduceSub, Nat.reduceMul, reduceIte, reduceCtorEq, pv, pbin, peq, plen, pload, pcut, pfill, St.ev, St.set, lk, D.ofV, D.cellsOf, InR.i64, InR.u8, ssL, tx, ix, Fact.c, Pair.c, Cond.c, Action.c, Rule.c, Token.c, Match.c, Alpha.c, Node.c, Network.c, Stamp.c, Firing.c, Choice.c, tagg_9, tel_23, tstr_23, tsz_9, hd, hx, hy, wk, d2] <;> rfl) ?_)
        refine W_true (by simp only [Int.reduceLE, Int.reduceLT, Int.reduceNeg, Int.reduceAdd, Int.reduceSub, Int.reduceToNat, Nat.reduceEqDiff, Nat.reduceLeDiff, Nat.reduceLT, Nat.reduceAdd, Nat.reduceSub, Nat.reduceMul, reduceIte, reduceCtorEq, pv, pbin, peq, plen, pload, pcut, pfill, St.ev, St.set, lk, D.ofV, D.cellsOf, InR.i64, InR.u8, ssL, tx, ix, Fact.c, Pair.c, Cond.c, Action.c, Rule.c, Token.c, Match.c, Alpha.c, Node.c, Network.c, Stamp.c, Firing.c, Choice.c, tagg_9, tel_23, tstr_23, tsz_9, d2] <;> rfl) ?_
        repeat' first
          | refine thenQ_normal ?_
          | refine thenQ_ret ?_
          | refine thenQ_exit ?_
          | refine blockQ_normal ?_
          | refine blockQ_ret ?_
          | refine blockQ_exit ?_
          | refine blockQ_pass rfl ?_
          | refine AW_seq ?_
          | refine AW_block ?_
          | refine AW_skip ?_
          | refine AW_ret ?_
          | refine AW_exit ?_
          | refine AW_region ?_
          | refine AO_nil ?_
          | refine C_nil ?_
          | (refine R_pv rfl rfl (by omega) (by simp only [Int.reduceLE, Int.reduceLT, Int.reduceNeg, Int.reduceAdd, Int.reduceSub, Int.reduceToNat, Nat.reduceEqDiff, Nat.reduceLeDiff, Nat.reduceLT, Nat.reduceAdd, Nat.reduceSub, Nat.reduceMul, reduceIte, reduceCtorEq, pv, pbin, peq, plen, pload, pcut, pfill, St.ev, St.set, lk, D.ofV, D.cellsOf, InR.i64, InR.u8, ssL, tx, ix, Fact.c, Pair.c, Cond.c, Action.c, Rule.c, Token.c, Match.c, Alpha.c, Node.c, Network.c, Stamp.c, Firing.c, Choice.c, tagg_9, tel_23, tstr_23, tsz_9] <;> rfl) ?_)
          | (refine C_pv rfl rfl (by omega) (by simp only [Int.reduceLE, Int.reduceLT, Int.reduceNeg, Int.reduceAdd, Int.reduceSub, Int.reduceToNat, Nat.reduceEqDiff, Nat.reduceLeDiff, Nat.reduceLT, Nat.reduceAdd, Nat.reduceSub, Nat.reduceMul, reduceIte, reduceCtorEq, pv, pbin, peq, plen, pload, pcut, pfill, St.ev, St.set, lk, D.ofV, D.cellsOf, InR.i64, InR.u8, ssL, tx, ix, Fact.c, Pair.c, Cond.c, Action.c, Rule.c, Token.c, Match.c, Alpha.c, Node.c, Network.c, Stamp.c, Firing.c, Choice.c, tagg_9, tel_23, tstr_23, tsz_9] <;> rfl) ?_)
        exact RetQ_ret (by simp only [Try.f58, resDs, resD, Int.reduceLE, Int.reduceLT, Int.reduceNeg, Int.reduceAdd, Int.reduceSub, Int.reduceToNat, Nat.reduceEqDiff, Nat.reduceLeDiff, Nat.reduceLT, Nat.reduceAdd, Nat.reduceSub, Nat.reduceMul, reduceIte, reduceCtorEq, pv, pbin, peq, plen, pload, pcut, pfill, St.ev, St.set, lk, D.ofV, D.cellsOf, InR.i64, InR.u8, ssL, tx, ix, Fact.c, Pair.c, Cond.c, Action.c, Rule.c, Token.c, Match.c, Alpha.c, Node.c, Network.c, Stamp.c, Firing.c, Choice.c, tagg_9, tel_23, tstr_23, tsz_9] <;> rfl) rfl (by simp only [packD]; rw [decide_eq_false (fun h => c2 (by rw [h, hy] at hx; exact (Option.some.inj hx).symm))])
      have d2 : (!(x == y)) = false := by simp [c2]
      repeat' first
        | refine thenQ_normal ?_
        | refine thenQ_ret ?_
        | refine thenQ_exit ?_
        | refine blockQ_normal ?_
        | refine blockQ_ret ?_
        | refine blockQ_exit ?_
        | refine blockQ_pass rfl ?_
        | refine AW_seq ?_
        | refine AW_block ?_
        | refine AW_skip ?_
        | refine AW_ret ?_
        | refine AW_exit ?_
        | refine AW_region ?_
        | refine AO_nil ?_
        | refine C_nil ?_
        | (refine R_pv rfl rfl (by omega) (by simp only [Int.reduceLE, Int.reduceLT, Int.reduceNeg, Int.reduceAdd, Int.reduceSub, Int.reduceToNat, Nat.reduceEqDiff, Nat.reduceLeDiff, Nat.reduceLT, Nat.reduceAdd, Nat.reduceSub, Nat.reduceMul, reduceIte, reduceCtorEq, pv, pbin, peq, plen, pload, pcut, pfill, St.ev, St.set, lk, D.ofV, D.cellsOf, InR.i64, InR.u8, ssL, tx, ix, Fact.c, Pair.c, Cond.c, Action.c, Rule.c, Token.c, Match.c, Alpha.c, Node.c, Network.c, Stamp.c, Firing.c, Choice.c, tagg_9, tel_23, tstr_23, tsz_9, hd, hx, hy, wk, d2] <;> rfl) ?_)
        | (refine C_pv rfl rfl (by omega) (by simp only [Int.reduceLE, Int.reduceLT, Int.reduceNeg, Int.reduceAdd, Int.reduceSub, Int.reduceToNat, Nat.reduceEqDiff, Nat.reduceLeDiff, Nat.reduceLT, Nat.reduceAdd, Nat.reduceSub, Nat.reduceMul, reduceIte, reduceCtorEq, pv, pbin, peq, plen, pload, pcut, pfill, St.ev, St.set, lk, D.ofV, D.cellsOf, InR.i64, InR.u8, ssL, tx, ix, Fact.c, Pair.c, Cond.c, Action.c, Rule.c, Token.c, Match.c, Alpha.c, Node.c, Network.c, Stamp.c, Firing.c, Choice.c, tagg_9, tel_23, tstr_23, tsz_9, hd, hx, hy, wk, d2] <;> rfl) ?_)
      refine W_true (by simp only [Int.reduceLE, Int.reduceLT, Int.reduceNeg, Int.reduceAdd, Int.reduceSub, Int.reduceToNat, Nat.reduceEqDiff, Nat.reduceLeDiff, Nat.reduceLT, Nat.reduceAdd, Nat.reduceSub, Nat.reduceMul, reduceIte, reduceCtorEq, pv, pbin, peq, plen, pload, pcut, pfill, St.ev, St.set, lk, D.ofV, D.cellsOf, InR.i64, InR.u8, ssL, tx, ix, Fact.c, Pair.c, Cond.c, Action.c, Rule.c, Token.c, Match.c, Alpha.c, Node.c, Network.c, Stamp.c, Firing.c, Choice.c, tagg_9, tel_23, tstr_23, tsz_9, hd] <;> rfl) ?_
      repeat' first
        | refine thenQ_normal ?_
        | refine thenQ_ret ?_
        | refine thenQ_exit ?_
        | refine blockQ_normal ?_
        | refine blockQ_ret ?_
        | refine blockQ_exit ?_
        | refine blockQ_pass rfl ?_
        | refine AW_seq ?_
        | refine AW_block ?_
        | refine AW_skip ?_
        | refine AW_ret ?_
        | refine AW_exit ?_
        | refine AW_region ?_
        | refine AO_nil ?_
        | refine C_nil ?_
        | (refine R_pv rfl rfl (by omega) (by simp only [Int.reduceLE, Int.reduceLT, Int.reduceNeg, Int.reduceAdd, Int.reduceSub, Int.reduceToNat, Nat.reduceEqDiff, Nat.reduceLeDiff, Nat.reduceLT, Nat.reduceAdd, Nat.reduceSub, Nat.reduceMul, reduceIte, reduceCtorEq, pv, pbin, peq, plen, pload, pcut, pfill, St.ev, St.set, lk, D.ofV, D.cellsOf, InR.i64, InR.u8, ssL, tx, ix, Fact.c, Pair.c, Cond.c, Action.c, Rule.c, Token.c, Match.c, Alpha.c, Node.c, Network.c, Stamp.c, Firing.c, Choice.c, tagg_9, tel_23, tstr_23, tsz_9, hd, hx, hy, wk, d2] <;> rfl) ?_)
        | (refine C_pv rfl rfl (by omega) (by simp only [Int.reduceLE, Int.reduceLT, Int.reduceNeg, Int.reduceAdd, Int.reduceSub, Int.reduceToNat, Nat.reduceEqDiff, Nat.reduceLeDiff, Nat.reduceLT, Nat.reduceAdd, Nat.reduceSub, Nat.reduceMul, reduceIte, reduceCtorEq, pv, pbin, peq, plen, pload, pcut, pfill, St.ev, St.set, lk, D.ofV, D.cellsOf, InR.i64, InR.u8, ssL, tx, ix, Fact.c, Pair.c, Cond.c, Action.c, Rule.c, Token.c, Match.c, Alpha.c, Node.c, Network.c, Stamp.c, Firing.c, Choice.c, tagg_9, tel_23, tstr_23, tsz_9, hd, hx, hy, wk, d2] <;> rfl) ?_)
      refine W_draw 8 (by kernel_rfl) (by kernel_rfl) rfl rfl ?_
      repeat' first
        | refine thenQ_normal ?_
        | refine thenQ_ret ?_
        | refine thenQ_exit ?_
        | refine blockQ_normal ?_
        | refine blockQ_ret ?_
        | refine blockQ_exit ?_
        | refine blockQ_pass rfl ?_
        | refine AW_seq ?_
        | refine AW_block ?_
        | refine AW_skip ?_
        | refine AW_ret ?_
        | refine AW_exit ?_
        | refine AW_region ?_
        | refine AO_nil ?_
        | refine C_nil ?_
        | (refine R_pv rfl rfl (by omega) (by simp only [Int.reduceLE, Int.reduceLT, Int.reduceNeg, Int.reduceAdd, Int.reduceSub, Int.reduceToNat, Nat.reduceEqDiff, Nat.reduceLeDiff, Nat.reduceLT, Nat.reduceAdd, Nat.reduceSub, Nat.reduceMul, reduceIte, reduceCtorEq, pv, pbin, peq, plen, pload, pcut, pfill, St.ev, St.set, lk, D.ofV, D.cellsOf, InR.i64, InR.u8, ssL, tx, ix, Fact.c, Pair.c, Cond.c, Action.c, Rule.c, Token.c, Match.c, Alpha.c, Node.c, Network.c, Stamp.c, Firing.c, Choice.c, tagg_9, tel_23, tstr_23, tsz_9, hd, hx, hy, wk, d2] <;> rfl) ?_)
        | (refine C_pv rfl rfl (by omega) (by simp only [Int.reduceLE, Int.reduceLT, Int.reduceNeg, Int.reduceAdd, Int.reduceSub, Int.reduceToNat, Nat.reduceEqDiff, Nat.reduceLeDiff, Nat.reduceLT, Nat.reduceAdd, Nat.reduceSub, Nat.reduceMul, reduceIte, reduceCtorEq, pv, pbin, peq, plen, pload, pcut, pfill, St.ev, St.set, lk, D.ofV, D.cellsOf, InR.i64, InR.u8, ssL, tx, ix, Fact.c, Pair.c, Cond.c, Action.c, Rule.c, Token.c, Match.c, Alpha.c, Node.c, Network.c, Stamp.c, Firing.c, Choice.c, tagg_9, tel_23, tstr_23, tsz_9, hd, hx, hy, wk, d2] <;> rfl) ?_)
      refine W_false (by simp only [Int.reduceLE, Int.reduceLT, Int.reduceNeg, Int.reduceAdd, Int.reduceSub, Int.reduceToNat, Nat.reduceEqDiff, Nat.reduceLeDiff, Nat.reduceLT, Nat.reduceAdd, Nat.reduceSub, Nat.reduceMul, reduceIte, reduceCtorEq, pv, pbin, peq, plen, pload, pcut, pfill, St.ev, St.set, lk, D.ofV, D.cellsOf, InR.i64, InR.u8, ssL, tx, ix, Fact.c, Pair.c, Cond.c, Action.c, Rule.c, Token.c, Match.c, Alpha.c, Node.c, Network.c, Stamp.c, Firing.c, Choice.c, tagg_9, tel_23, tstr_23, tsz_9, d2] <;> rfl) ?_
      repeat' first
        | refine thenQ_normal ?_
        | refine thenQ_ret ?_
        | refine thenQ_exit ?_
        | refine blockQ_normal ?_
        | refine blockQ_ret ?_
        | refine blockQ_exit ?_
        | refine blockQ_pass rfl ?_
        | refine AW_seq ?_
        | refine AW_block ?_
        | refine AW_skip ?_
        | refine AW_ret ?_
        | refine AW_exit ?_
        | refine AW_region ?_
        | refine AO_nil ?_
        | refine C_nil ?_
        | (refine R_pv rfl rfl (by omega) (by simp only [Int.reduceLE, Int.reduceLT, Int.reduceNeg, Int.reduceAdd, Int.reduceSub, Int.reduceToNat, Nat.reduceEqDiff, Nat.reduceLeDiff, Nat.reduceLT, Nat.reduceAdd, Nat.reduceSub, Nat.reduceMul, reduceIte, reduceCtorEq, pv, pbin, peq, plen, pload, pcut, pfill, St.ev, St.set, lk, D.ofV, D.cellsOf, InR.i64, InR.u8, ssL, tx, ix, Fact.c, Pair.c, Cond.c, Action.c, Rule.c, Token.c, Match.c, Alpha.c, Node.c, Network.c, Stamp.c, Firing.c, Choice.c, tagg_9, tel_23, tstr_23, tsz_9, wk] <;> rfl) ?_)
        | (refine C_pv rfl rfl (by omega) (by simp only [Int.reduceLE, Int.reduceLT, Int.reduceNeg, Int.reduceAdd, Int.reduceSub, Int.reduceToNat, Nat.reduceEqDiff, Nat.reduceLeDiff, Nat.reduceLT, Nat.reduceAdd, Nat.reduceSub, Nat.reduceMul, reduceIte, reduceCtorEq, pv, pbin, peq, plen, pload, pcut, pfill, St.ev, St.set, lk, D.ofV, D.cellsOf, InR.i64, InR.u8, ssL, tx, ix, Fact.c, Pair.c, Cond.c, Action.c, Rule.c, Token.c, Match.c, Alpha.c, Node.c, Network.c, Stamp.c, Firing.c, Choice.c, tagg_9, tel_23, tstr_23, tsz_9, wk] <;> rfl) ?_)
      refine ⟨hlt, rfl, ?_, by rw [take_snoc hx, take_snoc hy, hI, c2]⟩
      simp only [St.trim, Int.reduceLE, Int.reduceLT, Int.reduceNeg, Int.reduceAdd, Int.reduceSub, Int.reduceToNat, Nat.reduceEqDiff, Nat.reduceLeDiff, Nat.reduceLT, Nat.reduceAdd, Nat.reduceSub, Nat.reduceMul, reduceIte, reduceCtorEq, pv, pbin, peq, plen, pload, pcut, pfill, St.ev, St.set, lk, D.ofV, D.cellsOf, InR.i64, InR.u8, ssL, tx, ix, Fact.c, Pair.c, Cond.c, Action.c, Rule.c, Token.c, Match.c, Alpha.c, Node.c, Network.c, Stamp.c, Firing.c, Choice.c, tagg_9, tel_23, tstr_23, tsz_9]
    · have hd := lt_false hge
      have hkl : k = l.length := by omega
      subst hkl
      have hlm : l = m := by rw [List.take_length, c1, List.take_length] at hI; exact hI
      repeat' first
        | refine thenQ_normal ?_
        | refine thenQ_ret ?_
        | refine thenQ_exit ?_
        | refine blockQ_normal ?_
        | refine blockQ_ret ?_
        | refine blockQ_exit ?_
        | refine blockQ_pass rfl ?_
        | refine AW_seq ?_
        | refine AW_block ?_
        | refine AW_skip ?_
        | refine AW_ret ?_
        | refine AW_exit ?_
        | refine AW_region ?_
        | refine AO_nil ?_
        | refine C_nil ?_
        | (refine R_pv rfl rfl (by omega) (by simp only [Int.reduceLE, Int.reduceLT, Int.reduceNeg, Int.reduceAdd, Int.reduceSub, Int.reduceToNat, Nat.reduceEqDiff, Nat.reduceLeDiff, Nat.reduceLT, Nat.reduceAdd, Nat.reduceSub, Nat.reduceMul, reduceIte, reduceCtorEq, pv, pbin, peq, plen, pload, pcut, pfill, St.ev, St.set, lk, D.ofV, D.cellsOf, InR.i64, InR.u8, ssL, tx, ix, Fact.c, Pair.c, Cond.c, Action.c, Rule.c, Token.c, Match.c, Alpha.c, Node.c, Network.c, Stamp.c, Firing.c, Choice.c, tagg_9, tel_23, tstr_23, tsz_9, hd] <;> rfl) ?_)
        | (refine C_pv rfl rfl (by omega) (by simp only [Int.reduceLE, Int.reduceLT, Int.reduceNeg, Int.reduceAdd, Int.reduceSub, Int.reduceToNat, Nat.reduceEqDiff, Nat.reduceLeDiff, Nat.reduceLT, Nat.reduceAdd, Nat.reduceSub, Nat.reduceMul, reduceIte, reduceCtorEq, pv, pbin, peq, plen, pload, pcut, pfill, St.ev, St.set, lk, D.ofV, D.cellsOf, InR.i64, InR.u8, ssL, tx, ix, Fact.c, Pair.c, Cond.c, Action.c, Rule.c, Token.c, Match.c, Alpha.c, Node.c, Network.c, Stamp.c, Firing.c, Choice.c, tagg_9, tel_23, tstr_23, tsz_9, hd] <;> rfl) ?_)
      refine W_false (by simp only [Int.reduceLE, Int.reduceLT, Int.reduceNeg, Int.reduceAdd, Int.reduceSub, Int.reduceToNat, Nat.reduceEqDiff, Nat.reduceLeDiff, Nat.reduceLT, Nat.reduceAdd, Nat.reduceSub, Nat.reduceMul, reduceIte, reduceCtorEq, pv, pbin, peq, plen, pload, pcut, pfill, St.ev, St.set, lk, D.ofV, D.cellsOf, InR.i64, InR.u8, ssL, tx, ix, Fact.c, Pair.c, Cond.c, Action.c, Rule.c, Token.c, Match.c, Alpha.c, Node.c, Network.c, Stamp.c, Firing.c, Choice.c, tagg_9, tel_23, tstr_23, tsz_9, hd] <;> rfl) ?_
      repeat' first
        | refine thenQ_normal ?_
        | refine thenQ_ret ?_
        | refine thenQ_exit ?_
        | refine blockQ_normal ?_
        | refine blockQ_ret ?_
        | refine blockQ_exit ?_
        | refine blockQ_pass rfl ?_
        | refine AW_seq ?_
        | refine AW_block ?_
        | refine AW_skip ?_
        | refine AW_ret ?_
        | refine AW_exit ?_
        | refine AW_region ?_
        | refine AO_nil ?_
        | refine C_nil ?_
        | (refine R_pv rfl rfl (by omega) (by simp only [Int.reduceLE, Int.reduceLT, Int.reduceNeg, Int.reduceAdd, Int.reduceSub, Int.reduceToNat, Nat.reduceEqDiff, Nat.reduceLeDiff, Nat.reduceLT, Nat.reduceAdd, Nat.reduceSub, Nat.reduceMul, reduceIte, reduceCtorEq, pv, pbin, peq, plen, pload, pcut, pfill, St.ev, St.set, lk, D.ofV, D.cellsOf, InR.i64, InR.u8, ssL, tx, ix, Fact.c, Pair.c, Cond.c, Action.c, Rule.c, Token.c, Match.c, Alpha.c, Node.c, Network.c, Stamp.c, Firing.c, Choice.c, tagg_9, tel_23, tstr_23, tsz_9] <;> rfl) ?_)
        | (refine C_pv rfl rfl (by omega) (by simp only [Int.reduceLE, Int.reduceLT, Int.reduceNeg, Int.reduceAdd, Int.reduceSub, Int.reduceToNat, Nat.reduceEqDiff, Nat.reduceLeDiff, Nat.reduceLT, Nat.reduceAdd, Nat.reduceSub, Nat.reduceMul, reduceIte, reduceCtorEq, pv, pbin, peq, plen, pload, pcut, pfill, St.ev, St.set, lk, D.ofV, D.cellsOf, InR.i64, InR.u8, ssL, tx, ix, Fact.c, Pair.c, Cond.c, Action.c, Rule.c, Token.c, Match.c, Alpha.c, Node.c, Network.c, Stamp.c, Firing.c, Choice.c, tagg_9, tel_23, tstr_23, tsz_9] <;> rfl) ?_)
      exact RetQ_ret (by simp only [Try.f58, resDs, resD, Int.reduceLE, Int.reduceLT, Int.reduceNeg, Int.reduceAdd, Int.reduceSub, Int.reduceToNat, Nat.reduceEqDiff, Nat.reduceLeDiff, Nat.reduceLT, Nat.reduceAdd, Nat.reduceSub, Nat.reduceMul, reduceIte, reduceCtorEq, pv, pbin, peq, plen, pload, pcut, pfill, St.ev, St.set, lk, D.ofV, D.cellsOf, InR.i64, InR.u8, ssL, tx, ix, Fact.c, Pair.c, Cond.c, Action.c, Rule.c, Token.c, Match.c, Alpha.c, Node.c, Network.c, Stamp.c, Firing.c, Choice.c, tagg_9, tel_23, tstr_23, tsz_9] <;> rfl) rfl (by simp only [packD]; rw [decide_eq_true hlm])

set_option linter.unusedSimpArgs false in
set_option maxRecDepth 100000 in
set_option maxHeartbeats 1000000 in
theorem eqFact_good (x y : Fact) : Good Try.prog 17 [.agg x.c, .agg y.c] (.bool (decide (x = y))) := by
  refine Good.of Try.func17 rfl (by decide) (by simp [Try.f17]) ?_
  intro hr Γ hΓ
  have hΓ : Γ.nt = 16 := hΓ
  simp only [args0]
  by_cases c1 : x.rel = y.rel
  case neg =>
    have d1 : (!(x.rel == y.rel)) = true := by simp [c1]
    repeat' first
      | refine thenQ_normal ?_
      | refine thenQ_ret ?_
      | refine thenQ_exit ?_
      | refine blockQ_normal ?_
      | refine blockQ_ret ?_
      | refine blockQ_exit ?_
      | refine blockQ_pass rfl ?_
      | refine AW_seq ?_
      | refine AW_block ?_
      | refine AW_skip ?_
      | refine AW_ret ?_
      | refine AW_exit ?_
      | refine AW_region ?_
      | refine AO_nil ?_
      | refine C_nil ?_
      | (refine R_pv rfl rfl (by omega) (by simp only [Int.reduceLE, Int.reduceLT, Int.reduceNeg, Int.reduceAdd, Int.reduceSub, Int.reduceToNat, Nat.reduceEqDiff, Nat.reduceLeDiff, Nat.reduceLT, Nat.reduceAdd, Nat.reduceSub, Nat.reduceMul, reduceIte, reduceCtorEq, pv, pbin, peq, plen, pload, pcut, pfill, St.ev, St.set, lk, D.ofV, D.cellsOf, InR.i64, InR.u8, ssL, tx, ix, Fact.c, Pair.c, Cond.c, Action.c, Rule.c, Token.c, Match.c, Alpha.c, Node.c, Network.c, Stamp.c, Firing.c, Choice.c, tagg_23, tagg_9, tfo_31_0, tfo_31_1, tsz_23, tsz_9, d1] <;> rfl) ?_)
      | (refine R_eff hΓ rfl (by simp only [peff, Int.reduceLE, Int.reduceLT, Int.reduceNeg, Int.reduceAdd, Int.reduceSub, Int.reduceToNat, Nat.reduceEqDiff, Nat.reduceLeDiff, Nat.reduceLT, Nat.reduceAdd, Nat.reduceSub, Nat.reduceMul, reduceIte, reduceCtorEq, pv, pbin, peq, plen, pload, pcut, pfill, St.ev, St.set, lk, D.ofV, D.cellsOf, InR.i64, InR.u8, ssL, tx, ix, Fact.c, Pair.c, Cond.c, Action.c, Rule.c, Token.c, Match.c, Alpha.c, Node.c, Network.c, Stamp.c, Firing.c, Choice.c, tagg_23, tagg_9, tfo_31_0, tfo_31_1, tsz_23, tsz_9, d1] <;> rfl) ?_)
    refine W_true (by simp only [Int.reduceLE, Int.reduceLT, Int.reduceNeg, Int.reduceAdd, Int.reduceSub, Int.reduceToNat, Nat.reduceEqDiff, Nat.reduceLeDiff, Nat.reduceLT, Nat.reduceAdd, Nat.reduceSub, Nat.reduceMul, reduceIte, reduceCtorEq, pv, pbin, peq, plen, pload, pcut, pfill, St.ev, St.set, lk, D.ofV, D.cellsOf, InR.i64, InR.u8, ssL, tx, ix, Fact.c, Pair.c, Cond.c, Action.c, Rule.c, Token.c, Match.c, Alpha.c, Node.c, Network.c, Stamp.c, Firing.c, Choice.c, tagg_23, tagg_9, tfo_31_0, tfo_31_1, tsz_23, tsz_9, d1] <;> rfl) ?_
    repeat' first
      | refine thenQ_normal ?_
      | refine thenQ_ret ?_
      | refine thenQ_exit ?_
      | refine blockQ_normal ?_
      | refine blockQ_ret ?_
      | refine blockQ_exit ?_
      | refine blockQ_pass rfl ?_
      | refine AW_seq ?_
      | refine AW_block ?_
      | refine AW_skip ?_
      | refine AW_ret ?_
      | refine AW_exit ?_
      | refine AW_region ?_
      | refine AO_nil ?_
      | refine C_nil ?_
      | (refine R_pv rfl rfl (by omega) (by simp only [Int.reduceLE, Int.reduceLT, Int.reduceNeg, Int.reduceAdd, Int.reduceSub, Int.reduceToNat, Nat.reduceEqDiff, Nat.reduceLeDiff, Nat.reduceLT, Nat.reduceAdd, Nat.reduceSub, Nat.reduceMul, reduceIte, reduceCtorEq, pv, pbin, peq, plen, pload, pcut, pfill, St.ev, St.set, lk, D.ofV, D.cellsOf, InR.i64, InR.u8, ssL, tx, ix, Fact.c, Pair.c, Cond.c, Action.c, Rule.c, Token.c, Match.c, Alpha.c, Node.c, Network.c, Stamp.c, Firing.c, Choice.c, tagg_23, tagg_9, tfo_31_0, tfo_31_1, tsz_23, tsz_9] <;> rfl) ?_)
      | (refine R_eff hΓ rfl (by simp only [peff, Int.reduceLE, Int.reduceLT, Int.reduceNeg, Int.reduceAdd, Int.reduceSub, Int.reduceToNat, Nat.reduceEqDiff, Nat.reduceLeDiff, Nat.reduceLT, Nat.reduceAdd, Nat.reduceSub, Nat.reduceMul, reduceIte, reduceCtorEq, pv, pbin, peq, plen, pload, pcut, pfill, St.ev, St.set, lk, D.ofV, D.cellsOf, InR.i64, InR.u8, ssL, tx, ix, Fact.c, Pair.c, Cond.c, Action.c, Rule.c, Token.c, Match.c, Alpha.c, Node.c, Network.c, Stamp.c, Firing.c, Choice.c, tagg_23, tagg_9, tfo_31_0, tfo_31_1, tsz_23, tsz_9] <;> rfl) ?_)
    exact RetQ_ret (by simp only [Try.f17, resDs, resD, Int.reduceLE, Int.reduceLT, Int.reduceNeg, Int.reduceAdd, Int.reduceSub, Int.reduceToNat, Nat.reduceEqDiff, Nat.reduceLeDiff, Nat.reduceLT, Nat.reduceAdd, Nat.reduceSub, Nat.reduceMul, reduceIte, reduceCtorEq, pv, pbin, peq, plen, pload, pcut, pfill, St.ev, St.set, lk, D.ofV, D.cellsOf, InR.i64, InR.u8, ssL, tx, ix, Fact.c, Pair.c, Cond.c, Action.c, Rule.c, Token.c, Match.c, Alpha.c, Node.c, Network.c, Stamp.c, Firing.c, Choice.c, tagg_23, tagg_9, tfo_31_0, tfo_31_1, tsz_23, tsz_9] <;> rfl) rfl (by simp only [packD]; rw [decide_eq_false (fun h => c1 (by rw [h]))])
  have d1 : (!(x.rel == y.rel)) = false := by simp [c1]
  repeat' first
    | refine thenQ_normal ?_
    | refine thenQ_ret ?_
    | refine thenQ_exit ?_
    | refine blockQ_normal ?_
    | refine blockQ_ret ?_
    | refine blockQ_exit ?_
    | refine blockQ_pass rfl ?_
    | refine AW_seq ?_
    | refine AW_block ?_
    | refine AW_skip ?_
    | refine AW_ret ?_
    | refine AW_exit ?_
    | refine AW_region ?_
    | refine AO_nil ?_
    | refine C_nil ?_
    | (refine R_pv rfl rfl (by omega) (by simp only [Int.reduceLE, Int.reduceLT, Int.reduceNeg, Int.reduceAdd, Int.reduceSub, Int.reduceToNat, Nat.reduceEqDiff, Nat.reduceLeDiff, Nat.reduceLT, Nat.reduceAdd, Nat.reduceSub, Nat.reduceMul, reduceIte, reduceCtorEq, pv, pbin, peq, plen, pload, pcut, pfill, St.ev, St.set, lk, D.ofV, D.cellsOf, InR.i64, InR.u8, ssL, tx, ix, Fact.c, Pair.c, Cond.c, Action.c, Rule.c, Token.c, Match.c, Alpha.c, Node.c, Network.c, Stamp.c, Firing.c, Choice.c, tagg_23, tagg_9, tfo_31_0, tfo_31_1, tsz_23, tsz_9, d1] <;> rfl) ?_)
    | (refine R_eff hΓ rfl (by simp only [peff, Int.reduceLE, Int.reduceLT, Int.reduceNeg, Int.reduceAdd, Int.reduceSub, Int.reduceToNat, Nat.reduceEqDiff, Nat.reduceLeDiff, Nat.reduceLT, Nat.reduceAdd, Nat.reduceSub, Nat.reduceMul, reduceIte, reduceCtorEq, pv, pbin, peq, plen, pload, pcut, pfill, St.ev, St.set, lk, D.ofV, D.cellsOf, InR.i64, InR.u8, ssL, tx, ix, Fact.c, Pair.c, Cond.c, Action.c, Rule.c, Token.c, Match.c, Alpha.c, Node.c, Network.c, Stamp.c, Firing.c, Choice.c, tagg_23, tagg_9, tfo_31_0, tfo_31_1, tsz_23, tsz_9, d1] <;> rfl) ?_)
  refine W_false (by simp only [Int.reduceLE, Int.reduceLT, Int.reduceNeg, Int.reduceAdd, Int.reduceSub, Int.reduceToNat, Nat.reduceEqDiff, Nat.reduceLeDiff, Nat.reduceLT, Nat.reduceAdd, Nat.reduceSub, Nat.reduceMul, reduceIte, reduceCtorEq, pv, pbin, peq, plen, pload, pcut, pfill, St.ev, St.set, lk, D.ofV, D.cellsOf, InR.i64, InR.u8, ssL, tx, ix, Fact.c, Pair.c, Cond.c, Action.c, Rule.c, Token.c, Match.c, Alpha.c, Node.c, Network.c, Stamp.c, Firing.c, Choice.c, tagg_23, tagg_9, tfo_31_0, tfo_31_1, tsz_23, tsz_9, d1] <;> rfl) ?_
  by_cases c2 : x.args = y.args
  case neg =>
    have hc := eqStringS_good x.args y.args
    rw [decide_eq_false c2] at hc
    repeat' first
      | refine thenQ_normal ?_
      | refine thenQ_ret ?_
      | refine thenQ_exit ?_
      | refine blockQ_normal ?_
      | refine blockQ_ret ?_
      | refine blockQ_exit ?_
      | refine blockQ_pass rfl ?_
      | refine AW_seq ?_
      | refine AW_block ?_
      | refine AW_skip ?_
      | refine AW_ret ?_
      | refine AW_exit ?_
      | refine AW_region ?_
      | refine AO_nil ?_
      | refine C_nil ?_
      | (refine R_pv rfl rfl (by omega) (by simp only [Int.reduceLE, Int.reduceLT, Int.reduceNeg, Int.reduceAdd, Int.reduceSub, Int.reduceToNat, Nat.reduceEqDiff, Nat.reduceLeDiff, Nat.reduceLT, Nat.reduceAdd, Nat.reduceSub, Nat.reduceMul, reduceIte, reduceCtorEq, pv, pbin, peq, plen, pload, pcut, pfill, St.ev, St.set, lk, D.ofV, D.cellsOf, InR.i64, InR.u8, ssL, tx, ix, Fact.c, Pair.c, Cond.c, Action.c, Rule.c, Token.c, Match.c, Alpha.c, Node.c, Network.c, Stamp.c, Firing.c, Choice.c, tagg_23, tagg_9, tfo_31_0, tfo_31_1, tsz_23, tsz_9] <;> rfl) ?_)
      | (refine R_eff hΓ rfl (by simp only [peff, Int.reduceLE, Int.reduceLT, Int.reduceNeg, Int.reduceAdd, Int.reduceSub, Int.reduceToNat, Nat.reduceEqDiff, Nat.reduceLeDiff, Nat.reduceLT, Nat.reduceAdd, Nat.reduceSub, Nat.reduceMul, reduceIte, reduceCtorEq, pv, pbin, peq, plen, pload, pcut, pfill, St.ev, St.set, lk, D.ofV, D.cellsOf, InR.i64, InR.u8, ssL, tx, ix, Fact.c, Pair.c, Cond.c, Action.c, Rule.c, Token.c, Match.c, Alpha.c, Node.c, Network.c, Stamp.c, Firing.c, Choice.c, tagg_23, tagg_9, tfo_31_0, tfo_31_1, tsz_23, tsz_9] <;> rfl) ?_)
      | (refine R_call rfl rfl rfl (by omega) (by simp only [Int.reduceLE, Int.reduceLT, Int.reduceNeg, Int.reduceAdd, Int.reduceSub, Int.reduceToNat, Nat.reduceEqDiff, Nat.reduceLeDiff, Nat.reduceLT, Nat.reduceAdd, Nat.reduceSub, Nat.reduceMul, reduceIte, reduceCtorEq, pv, pbin, peq, plen, pload, pcut, pfill, St.ev, St.set, lk, D.ofV, D.cellsOf, InR.i64, InR.u8, ssL, tx, ix, Fact.c, Pair.c, Cond.c, Action.c, Rule.c, Token.c, Match.c, Alpha.c, Node.c, Network.c, Stamp.c, Firing.c, Choice.c, tagg_23, tagg_9, tfo_31_0, tfo_31_1, tsz_23, tsz_9] <;> rfl) (by rfl) (by exact hc) (by rfl) ?_)
    refine W_true (by simp only [Int.reduceLE, Int.reduceLT, Int.reduceNeg, Int.reduceAdd, Int.reduceSub, Int.reduceToNat, Nat.reduceEqDiff, Nat.reduceLeDiff, Nat.reduceLT, Nat.reduceAdd, Nat.reduceSub, Nat.reduceMul, reduceIte, reduceCtorEq, pv, pbin, peq, plen, pload, pcut, pfill, St.ev, St.set, lk, D.ofV, D.cellsOf, InR.i64, InR.u8, ssL, tx, ix, Fact.c, Pair.c, Cond.c, Action.c, Rule.c, Token.c, Match.c, Alpha.c, Node.c, Network.c, Stamp.c, Firing.c, Choice.c, tagg_23, tagg_9, tfo_31_0, tfo_31_1, tsz_23, tsz_9] <;> rfl) ?_
    repeat' first
      | refine thenQ_normal ?_
      | refine thenQ_ret ?_
      | refine thenQ_exit ?_
      | refine blockQ_normal ?_
      | refine blockQ_ret ?_
      | refine blockQ_exit ?_
      | refine blockQ_pass rfl ?_
      | refine AW_seq ?_
      | refine AW_block ?_
      | refine AW_skip ?_
      | refine AW_ret ?_
      | refine AW_exit ?_
      | refine AW_region ?_
      | refine AO_nil ?_
      | refine C_nil ?_
      | (refine R_pv rfl rfl (by omega) (by simp only [Int.reduceLE, Int.reduceLT, Int.reduceNeg, Int.reduceAdd, Int.reduceSub, Int.reduceToNat, Nat.reduceEqDiff, Nat.reduceLeDiff, Nat.reduceLT, Nat.reduceAdd, Nat.reduceSub, Nat.reduceMul, reduceIte, reduceCtorEq, pv, pbin, peq, plen, pload, pcut, pfill, St.ev, St.set, lk, D.ofV, D.cellsOf, InR.i64, InR.u8, ssL, tx, ix, Fact.c, Pair.c, Cond.c, Action.c, Rule.c, Token.c, Match.c, Alpha.c, Node.c, Network.c, Stamp.c, Firing.c, Choice.c, tagg_23, tagg_9, tfo_31_0, tfo_31_1, tsz_23, tsz_9] <;> rfl) ?_)
      | (refine R_eff hΓ rfl (by simp only [peff, Int.reduceLE, Int.reduceLT, Int.reduceNeg, Int.reduceAdd, Int.reduceSub, Int.reduceToNat, Nat.reduceEqDiff, Nat.reduceLeDiff, Nat.reduceLT, Nat.reduceAdd, Nat.reduceSub, Nat.reduceMul, reduceIte, reduceCtorEq, pv, pbin, peq, plen, pload, pcut, pfill, St.ev, St.set, lk, D.ofV, D.cellsOf, InR.i64, InR.u8, ssL, tx, ix, Fact.c, Pair.c, Cond.c, Action.c, Rule.c, Token.c, Match.c, Alpha.c, Node.c, Network.c, Stamp.c, Firing.c, Choice.c, tagg_23, tagg_9, tfo_31_0, tfo_31_1, tsz_23, tsz_9] <;> rfl) ?_)
    exact RetQ_ret (by simp only [Try.f17, resDs, resD, Int.reduceLE, Int.reduceLT, Int.reduceNeg, Int.reduceAdd, Int.reduceSub, Int.reduceToNat, Nat.reduceEqDiff, Nat.reduceLeDiff, Nat.reduceLT, Nat.reduceAdd, Nat.reduceSub, Nat.reduceMul, reduceIte, reduceCtorEq, pv, pbin, peq, plen, pload, pcut, pfill, St.ev, St.set, lk, D.ofV, D.cellsOf, InR.i64, InR.u8, ssL, tx, ix, Fact.c, Pair.c, Cond.c, Action.c, Rule.c, Token.c, Match.c, Alpha.c, Node.c, Network.c, Stamp.c, Firing.c, Choice.c, tagg_23, tagg_9, tfo_31_0, tfo_31_1, tsz_23, tsz_9] <;> rfl) rfl (by simp only [packD]; rw [decide_eq_false (fun h => c2 (by rw [h]))])
  have hc2 := eqStringS_good x.args y.args
  rw [decide_eq_true c2] at hc2
  repeat' first
    | refine thenQ_normal ?_
    | refine thenQ_ret ?_
    | refine thenQ_exit ?_
    | refine blockQ_normal ?_
    | refine blockQ_ret ?_
    | refine blockQ_exit ?_
    | refine blockQ_pass rfl ?_
    | refine AW_seq ?_
    | refine AW_block ?_
    | refine AW_skip ?_
    | refine AW_ret ?_
    | refine AW_exit ?_
    | refine AW_region ?_
    | refine AO_nil ?_
    | refine C_nil ?_
    | (refine R_pv rfl rfl (by omega) (by simp only [Int.reduceLE, Int.reduceLT, Int.reduceNeg, Int.reduceAdd, Int.reduceSub, Int.reduceToNat, Nat.reduceEqDiff, Nat.reduceLeDiff, Nat.reduceLT, Nat.reduceAdd, Nat.reduceSub, Nat.reduceMul, reduceIte, reduceCtorEq, pv, pbin, peq, plen, pload, pcut, pfill, St.ev, St.set, lk, D.ofV, D.cellsOf, InR.i64, InR.u8, ssL, tx, ix, Fact.c, Pair.c, Cond.c, Action.c, Rule.c, Token.c, Match.c, Alpha.c, Node.c, Network.c, Stamp.c, Firing.c, Choice.c, tagg_23, tagg_9, tfo_31_0, tfo_31_1, tsz_23, tsz_9] <;> rfl) ?_)
    | (refine R_eff hΓ rfl (by simp only [peff, Int.reduceLE, Int.reduceLT, Int.reduceNeg, Int.reduceAdd, Int.reduceSub, Int.reduceToNat, Nat.reduceEqDiff, Nat.reduceLeDiff, Nat.reduceLT, Nat.reduceAdd, Nat.reduceSub, Nat.reduceMul, reduceIte, reduceCtorEq, pv, pbin, peq, plen, pload, pcut, pfill, St.ev, St.set, lk, D.ofV, D.cellsOf, InR.i64, InR.u8, ssL, tx, ix, Fact.c, Pair.c, Cond.c, Action.c, Rule.c, Token.c, Match.c, Alpha.c, Node.c, Network.c, Stamp.c, Firing.c, Choice.c, tagg_23, tagg_9, tfo_31_0, tfo_31_1, tsz_23, tsz_9] <;> rfl) ?_)
    | (refine R_call rfl rfl rfl (by omega) (by simp only [Int.reduceLE, Int.reduceLT, Int.reduceNeg, Int.reduceAdd, Int.reduceSub, Int.reduceToNat, Nat.reduceEqDiff, Nat.reduceLeDiff, Nat.reduceLT, Nat.reduceAdd, Nat.reduceSub, Nat.reduceMul, reduceIte, reduceCtorEq, pv, pbin, peq, plen, pload, pcut, pfill, St.ev, St.set, lk, D.ofV, D.cellsOf, InR.i64, InR.u8, ssL, tx, ix, Fact.c, Pair.c, Cond.c, Action.c, Rule.c, Token.c, Match.c, Alpha.c, Node.c, Network.c, Stamp.c, Firing.c, Choice.c, tagg_23, tagg_9, tfo_31_0, tfo_31_1, tsz_23, tsz_9] <;> rfl) (by rfl) (by exact hc2) (by rfl) ?_)
  refine W_false (by simp only [Int.reduceLE, Int.reduceLT, Int.reduceNeg, Int.reduceAdd, Int.reduceSub, Int.reduceToNat, Nat.reduceEqDiff, Nat.reduceLeDiff, Nat.reduceLT, Nat.reduceAdd, Nat.reduceSub, Nat.reduceMul, reduceIte, reduceCtorEq, pv, pbin, peq, plen, pload, pcut, pfill, St.ev, St.set, lk, D.ofV, D.cellsOf, InR.i64, InR.u8, ssL, tx, ix, Fact.c, Pair.c, Cond.c, Action.c, Rule.c, Token.c, Match.c, Alpha.c, Node.c, Network.c, Stamp.c, Firing.c, Choice.c, tagg_23, tagg_9, tfo_31_0, tfo_31_1, tsz_23, tsz_9] <;> rfl) ?_
  repeat' first
    | refine thenQ_normal ?_
    | refine thenQ_ret ?_
    | refine thenQ_exit ?_
    | refine blockQ_normal ?_
    | refine blockQ_ret ?_
    | refine blockQ_exit ?_
    | refine blockQ_pass rfl ?_
    | refine AW_seq ?_
    | refine AW_block ?_
    | refine AW_skip ?_
    | refine AW_ret ?_
    | refine AW_exit ?_
    | refine AW_region ?_
    | refine AO_nil ?_
    | refine C_nil ?_
    | (refine R_pv rfl rfl (by omega) (by simp only [Int.reduceLE, Int.reduceLT, Int.reduceNeg, Int.reduceAdd, Int.reduceSub, Int.reduceToNat, Nat.reduceEqDiff, Nat.reduceLeDiff, Nat.reduceLT, Nat.reduceAdd, Nat.reduceSub, Nat.reduceMul, reduceIte, reduceCtorEq, pv, pbin, peq, plen, pload, pcut, pfill, St.ev, St.set, lk, D.ofV, D.cellsOf, InR.i64, InR.u8, ssL, tx, ix, Fact.c, Pair.c, Cond.c, Action.c, Rule.c, Token.c, Match.c, Alpha.c, Node.c, Network.c, Stamp.c, Firing.c, Choice.c, tagg_23, tagg_9, tfo_31_0, tfo_31_1, tsz_23, tsz_9] <;> rfl) ?_)
    | (refine R_eff hΓ rfl (by simp only [peff, Int.reduceLE, Int.reduceLT, Int.reduceNeg, Int.reduceAdd, Int.reduceSub, Int.reduceToNat, Nat.reduceEqDiff, Nat.reduceLeDiff, Nat.reduceLT, Nat.reduceAdd, Nat.reduceSub, Nat.reduceMul, reduceIte, reduceCtorEq, pv, pbin, peq, plen, pload, pcut, pfill, St.ev, St.set, lk, D.ofV, D.cellsOf, InR.i64, InR.u8, ssL, tx, ix, Fact.c, Pair.c, Cond.c, Action.c, Rule.c, Token.c, Match.c, Alpha.c, Node.c, Network.c, Stamp.c, Firing.c, Choice.c, tagg_23, tagg_9, tfo_31_0, tfo_31_1, tsz_23, tsz_9] <;> rfl) ?_)
  have hxy : x = y := by cases x; cases y; simp_all
  exact RetQ_ret (by simp only [Try.f17, resDs, resD, Int.reduceLE, Int.reduceLT, Int.reduceNeg, Int.reduceAdd, Int.reduceSub, Int.reduceToNat, Nat.reduceEqDiff, Nat.reduceLeDiff, Nat.reduceLT, Nat.reduceAdd, Nat.reduceSub, Nat.reduceMul, reduceIte, reduceCtorEq, pv, pbin, peq, plen, pload, pcut, pfill, St.ev, St.set, lk, D.ofV, D.cellsOf, InR.i64, InR.u8, ssL, tx, ix, Fact.c, Pair.c, Cond.c, Action.c, Rule.c, Token.c, Match.c, Alpha.c, Node.c, Network.c, Stamp.c, Firing.c, Choice.c, tagg_23, tagg_9, tfo_31_0, tfo_31_1, tsz_23, tsz_9] <;> rfl) rfl (by simp only [packD]; rw [decide_eq_true hxy])

set_option linter.unusedSimpArgs false in
set_option maxRecDepth 100000 in
set_option maxHeartbeats 1000000 in
theorem eqStamp_good (x y : Stamp) : Good Try.prog 57 [.agg x.c, .agg y.c] (.bool (decide (x = y))) := by
  refine Good.of Try.func57 rfl (by decide) (by simp [Try.f57]) ?_
  intro hr Γ hΓ
  have hΓ : Γ.nt = 16 := hΓ
  simp only [args0]
  by_cases c1 : x.fact = y.fact
  case neg =>
    have hc := eqFact_good x.fact y.fact
    rw [decide_eq_false c1] at hc
    repeat' first
      | refine thenQ_normal ?_
      | refine thenQ_ret ?_
      | refine thenQ_exit ?_
      | refine blockQ_normal ?_
      | refine blockQ_ret ?_
      | refine blockQ_exit ?_
      | refine blockQ_pass rfl ?_
      | refine AW_seq ?_
      | refine AW_block ?_
      | refine AW_skip ?_
      | refine AW_ret ?_
      | refine AW_exit ?_
      | refine AW_region ?_
      | refine AO_nil ?_
      | refine C_nil ?_
      | (refine R_pv rfl rfl (by omega) (by simp only [Int.reduceLE, Int.reduceLT, Int.reduceNeg, Int.reduceAdd, Int.reduceSub, Int.reduceToNat, Nat.reduceEqDiff, Nat.reduceLeDiff, Nat.reduceLT, Nat.reduceAdd, Nat.reduceSub, Nat.reduceMul, reduceIte, reduceCtorEq, pv, pbin, peq, plen, pload, pcut, pfill, St.ev, St.set, lk, D.ofV, D.cellsOf, InR.i64, InR.u8, ssL, tx, ix, Fact.c, Pair.c, Cond.c, Action.c, Rule.c, Token.c, Match.c, Alpha.c, Node.c, Network.c, Stamp.c, Firing.c, Choice.c, tagg_3, tagg_31, tfo_93_0, tfo_93_1, tsz_3, tsz_31] <;> rfl) ?_)
      | (refine R_eff hΓ rfl (by simp only [peff, Int.reduceLE, Int.reduceLT, Int.reduceNeg, Int.reduceAdd, Int.reduceSub, Int.reduceToNat, Nat.reduceEqDiff, Nat.reduceLeDiff, Nat.reduceLT, Nat.reduceAdd, Nat.reduceSub, Nat.reduceMul, reduceIte, reduceCtorEq, pv, pbin, peq, plen, pload, pcut, pfill, St.ev, St.set, lk, D.ofV, D.cellsOf, InR.i64, InR.u8, ssL, tx, ix, Fact.c, Pair.c, Cond.c, Action.c, Rule.c, Token.c, Match.c, Alpha.c, Node.c, Network.c, Stamp.c, Firing.c, Choice.c, tagg_3, tagg_31, tfo_93_0, tfo_93_1, tsz_3, tsz_31] <;> rfl) ?_)
      | (refine R_call rfl rfl rfl (by omega) (by simp only [Int.reduceLE, Int.reduceLT, Int.reduceNeg, Int.reduceAdd, Int.reduceSub, Int.reduceToNat, Nat.reduceEqDiff, Nat.reduceLeDiff, Nat.reduceLT, Nat.reduceAdd, Nat.reduceSub, Nat.reduceMul, reduceIte, reduceCtorEq, pv, pbin, peq, plen, pload, pcut, pfill, St.ev, St.set, lk, D.ofV, D.cellsOf, InR.i64, InR.u8, ssL, tx, ix, Fact.c, Pair.c, Cond.c, Action.c, Rule.c, Token.c, Match.c, Alpha.c, Node.c, Network.c, Stamp.c, Firing.c, Choice.c, tagg_3, tagg_31, tfo_93_0, tfo_93_1, tsz_3, tsz_31] <;> rfl) (by rfl) (by exact hc) (by rfl) ?_)
    refine W_true (by simp only [Int.reduceLE, Int.reduceLT, Int.reduceNeg, Int.reduceAdd, Int.reduceSub, Int.reduceToNat, Nat.reduceEqDiff, Nat.reduceLeDiff, Nat.reduceLT, Nat.reduceAdd, Nat.reduceSub, Nat.reduceMul, reduceIte, reduceCtorEq, pv, pbin, peq, plen, pload, pcut, pfill, St.ev, St.set, lk, D.ofV, D.cellsOf, InR.i64, InR.u8, ssL, tx, ix, Fact.c, Pair.c, Cond.c, Action.c, Rule.c, Token.c, Match.c, Alpha.c, Node.c, Network.c, Stamp.c, Firing.c, Choice.c, tagg_3, tagg_31, tfo_93_0, tfo_93_1, tsz_3, tsz_31] <;> rfl) ?_
    repeat' first
      | refine thenQ_normal ?_
      | refine thenQ_ret ?_
      | refine thenQ_exit ?_
      | refine blockQ_normal ?_
      | refine blockQ_ret ?_
      | refine blockQ_exit ?_
      | refine blockQ_pass rfl ?_
      | refine AW_seq ?_
      | refine AW_block ?_
      | refine AW_skip ?_
      | refine AW_ret ?_
      | refine AW_exit ?_
      | refine AW_region ?_
      | refine AO_nil ?_
      | refine C_nil ?_
      | (refine R_pv rfl rfl (by omega) (by simp only [Int.reduceLE, Int.reduceLT, Int.reduceNeg, Int.reduceAdd, Int.reduceSub, Int.reduceToNat, Nat.reduceEqDiff, Nat.reduceLeDiff, Nat.reduceLT, Nat.reduceAdd, Nat.reduceSub, Nat.reduceMul, reduceIte, reduceCtorEq, pv, pbin, peq, plen, pload, pcut, pfill, St.ev, St.set, lk, D.ofV, D.cellsOf, InR.i64, InR.u8, ssL, tx, ix, Fact.c, Pair.c, Cond.c, Action.c, Rule.c, Token.c, Match.c, Alpha.c, Node.c, Network.c, Stamp.c, Firing.c, Choice.c, tagg_3, tagg_31, tfo_93_0, tfo_93_1, tsz_3, tsz_31] <;> rfl) ?_)
      | (refine R_eff hΓ rfl (by simp only [peff, Int.reduceLE, Int.reduceLT, Int.reduceNeg, Int.reduceAdd, Int.reduceSub, Int.reduceToNat, Nat.reduceEqDiff, Nat.reduceLeDiff, Nat.reduceLT, Nat.reduceAdd, Nat.reduceSub, Nat.reduceMul, reduceIte, reduceCtorEq, pv, pbin, peq, plen, pload, pcut, pfill, St.ev, St.set, lk, D.ofV, D.cellsOf, InR.i64, InR.u8, ssL, tx, ix, Fact.c, Pair.c, Cond.c, Action.c, Rule.c, Token.c, Match.c, Alpha.c, Node.c, Network.c, Stamp.c, Firing.c, Choice.c, tagg_3, tagg_31, tfo_93_0, tfo_93_1, tsz_3, tsz_31] <;> rfl) ?_)
    exact RetQ_ret (by simp only [Try.f57, resDs, resD, Int.reduceLE, Int.reduceLT, Int.reduceNeg, Int.reduceAdd, Int.reduceSub, Int.reduceToNat, Nat.reduceEqDiff, Nat.reduceLeDiff, Nat.reduceLT, Nat.reduceAdd, Nat.reduceSub, Nat.reduceMul, reduceIte, reduceCtorEq, pv, pbin, peq, plen, pload, pcut, pfill, St.ev, St.set, lk, D.ofV, D.cellsOf, InR.i64, InR.u8, ssL, tx, ix, Fact.c, Pair.c, Cond.c, Action.c, Rule.c, Token.c, Match.c, Alpha.c, Node.c, Network.c, Stamp.c, Firing.c, Choice.c, tagg_3, tagg_31, tfo_93_0, tfo_93_1, tsz_3, tsz_31] <;> rfl) rfl (by simp only [packD]; rw [decide_eq_false (fun h => c1 (by rw [h]))])
  have hc1 := eqFact_good x.fact y.fact
  rw [decide_eq_true c1] at hc1
  repeat' first
    | refine thenQ_normal ?_
    | refine thenQ_ret ?_
    | refine thenQ_exit ?_
    | refine blockQ_normal ?_
    | refine blockQ_ret ?_
    | refine blockQ_exit ?_
    | refine blockQ_pass rfl ?_
    | refine AW_seq ?_
    | refine AW_block ?_
    | refine AW_skip ?_
    | refine AW_ret ?_
    | refine AW_exit ?_
    | refine AW_region ?_
    | refine AO_nil ?_
    | refine C_nil ?_
    | (refine R_pv rfl rfl (by omega) (by simp only [Int.reduceLE, Int.reduceLT, Int.reduceNeg, Int.reduceAdd, Int.reduceSub, Int.reduceToNat, Nat.reduceEqDiff, Nat.reduceLeDiff, Nat.reduceLT, Nat.reduceAdd, Nat.reduceSub, Nat.reduceMul, reduceIte, reduceCtorEq, pv, pbin, peq, plen, pload, pcut, pfill, St.ev, St.set, lk, D.ofV, D.cellsOf, InR.i64, InR.u8, ssL, tx, ix, Fact.c, Pair.c, Cond.c, Action.c, Rule.c, Token.c, Match.c, Alpha.c, Node.c, Network.c, Stamp.c, Firing.c, Choice.c, tagg_3, tagg_31, tfo_93_0, tfo_93_1, tsz_3, tsz_31] <;> rfl) ?_)
    | (refine R_eff hΓ rfl (by simp only [peff, Int.reduceLE, Int.reduceLT, Int.reduceNeg, Int.reduceAdd, Int.reduceSub, Int.reduceToNat, Nat.reduceEqDiff, Nat.reduceLeDiff, Nat.reduceLT, Nat.reduceAdd, Nat.reduceSub, Nat.reduceMul, reduceIte, reduceCtorEq, pv, pbin, peq, plen, pload, pcut, pfill, St.ev, St.set, lk, D.ofV, D.cellsOf, InR.i64, InR.u8, ssL, tx, ix, Fact.c, Pair.c, Cond.c, Action.c, Rule.c, Token.c, Match.c, Alpha.c, Node.c, Network.c, Stamp.c, Firing.c, Choice.c, tagg_3, tagg_31, tfo_93_0, tfo_93_1, tsz_3, tsz_31] <;> rfl) ?_)
    | (refine R_call rfl rfl rfl (by omega) (by simp only [Int.reduceLE, Int.reduceLT, Int.reduceNeg, Int.reduceAdd, Int.reduceSub, Int.reduceToNat, Nat.reduceEqDiff, Nat.reduceLeDiff, Nat.reduceLT, Nat.reduceAdd, Nat.reduceSub, Nat.reduceMul, reduceIte, reduceCtorEq, pv, pbin, peq, plen, pload, pcut, pfill, St.ev, St.set, lk, D.ofV, D.cellsOf, InR.i64, InR.u8, ssL, tx, ix, Fact.c, Pair.c, Cond.c, Action.c, Rule.c, Token.c, Match.c, Alpha.c, Node.c, Network.c, Stamp.c, Firing.c, Choice.c, tagg_3, tagg_31, tfo_93_0, tfo_93_1, tsz_3, tsz_31] <;> rfl) (by rfl) (by exact hc1) (by rfl) ?_)
  refine W_false (by simp only [Int.reduceLE, Int.reduceLT, Int.reduceNeg, Int.reduceAdd, Int.reduceSub, Int.reduceToNat, Nat.reduceEqDiff, Nat.reduceLeDiff, Nat.reduceLT, Nat.reduceAdd, Nat.reduceSub, Nat.reduceMul, reduceIte, reduceCtorEq, pv, pbin, peq, plen, pload, pcut, pfill, St.ev, St.set, lk, D.ofV, D.cellsOf, InR.i64, InR.u8, ssL, tx, ix, Fact.c, Pair.c, Cond.c, Action.c, Rule.c, Token.c, Match.c, Alpha.c, Node.c, Network.c, Stamp.c, Firing.c, Choice.c, tagg_3, tagg_31, tfo_93_0, tfo_93_1, tsz_3, tsz_31] <;> rfl) ?_
  by_cases c2 : x.time = y.time
  case neg =>
    have d2 : (x.time != y.time) = true := by simp [c2]
    repeat' first
      | refine thenQ_normal ?_
      | refine thenQ_ret ?_
      | refine thenQ_exit ?_
      | refine blockQ_normal ?_
      | refine blockQ_ret ?_
      | refine blockQ_exit ?_
      | refine blockQ_pass rfl ?_
      | refine AW_seq ?_
      | refine AW_block ?_
      | refine AW_skip ?_
      | refine AW_ret ?_
      | refine AW_exit ?_
      | refine AW_region ?_
      | refine AO_nil ?_
      | refine C_nil ?_
      | (refine R_pv rfl rfl (by omega) (by simp only [Int.reduceLE, Int.reduceLT, Int.reduceNeg, Int.reduceAdd, Int.reduceSub, Int.reduceToNat, Nat.reduceEqDiff, Nat.reduceLeDiff, Nat.reduceLT, Nat.reduceAdd, Nat.reduceSub, Nat.reduceMul, reduceIte, reduceCtorEq, pv, pbin, peq, plen, pload, pcut, pfill, St.ev, St.set, lk, D.ofV, D.cellsOf, InR.i64, InR.u8, ssL, tx, ix, Fact.c, Pair.c, Cond.c, Action.c, Rule.c, Token.c, Match.c, Alpha.c, Node.c, Network.c, Stamp.c, Firing.c, Choice.c, tagg_3, tagg_31, tfo_93_0, tfo_93_1, tsz_3, tsz_31, d2] <;> rfl) ?_)
      | (refine R_eff hΓ rfl (by simp only [peff, Int.reduceLE, Int.reduceLT, Int.reduceNeg, Int.reduceAdd, Int.reduceSub, Int.reduceToNat, Nat.reduceEqDiff, Nat.reduceLeDiff, Nat.reduceLT, Nat.reduceAdd, Nat.reduceSub, Nat.reduceMul, reduceIte, reduceCtorEq, pv, pbin, peq, plen, pload, pcut, pfill, St.ev, St.set, lk, D.ofV, D.cellsOf, InR.i64, InR.u8, ssL, tx, ix, Fact.c, Pair.c, Cond.c, Action.c, Rule.c, Token.c, Match.c, Alpha.c, Node.c, Network.c, Stamp.c, Firing.c, Choice.c, tagg_3, tagg_31, tfo_93_0, tfo_93_1, tsz_3, tsz_31, d2] <;> rfl) ?_)
    refine W_true (by simp only [Int.reduceLE, Int.reduceLT, Int.reduceNeg, Int.reduceAdd, Int.reduceSub, Int.reduceToNat, Nat.reduceEqDiff, Nat.reduceLeDiff, Nat.reduceLT, Nat.reduceAdd, Nat.reduceSub, Nat.reduceMul, reduceIte, reduceCtorEq, pv, pbin, peq, plen, pload, pcut, pfill, St.ev, St.set, lk, D.ofV, D.cellsOf, InR.i64, InR.u8, ssL, tx, ix, Fact.c, Pair.c, Cond.c, Action.c, Rule.c, Token.c, Match.c, Alpha.c, Node.c, Network.c, Stamp.c, Firing.c, Choice.c, tagg_3, tagg_31, tfo_93_0, tfo_93_1, tsz_3, tsz_31, d2] <;> rfl) ?_
    repeat' first
      | refine thenQ_normal ?_
      | refine thenQ_ret ?_
      | refine thenQ_exit ?_
      | refine blockQ_normal ?_
      | refine blockQ_ret ?_
      | refine blockQ_exit ?_
      | refine blockQ_pass rfl ?_
      | refine AW_seq ?_
      | refine AW_block ?_
      | refine AW_skip ?_
      | refine AW_ret ?_
      | refine AW_exit ?_
      | refine AW_region ?_
      | refine AO_nil ?_
      | refine C_nil ?_
      | (refine R_pv rfl rfl (by omega) (by simp only [Int.reduceLE, Int.reduceLT, Int.reduceNeg, Int.reduceAdd, Int.reduceSub, Int.reduceToNat, Nat.reduceEqDiff, Nat.reduceLeDiff, Nat.reduceLT, Nat.reduceAdd, Nat.reduceSub, Nat.reduceMul, reduceIte, reduceCtorEq, pv, pbin, peq, plen, pload, pcut, pfill, St.ev, St.set, lk, D.ofV, D.cellsOf, InR.i64, InR.u8, ssL, tx, ix, Fact.c, Pair.c, Cond.c, Action.c, Rule.c, Token.c, Match.c, Alpha.c, Node.c, Network.c, Stamp.c, Firing.c, Choice.c, tagg_3, tagg_31, tfo_93_0, tfo_93_1, tsz_3, tsz_31] <;> rfl) ?_)
      | (refine R_eff hΓ rfl (by simp only [peff, Int.reduceLE, Int.reduceLT, Int.reduceNeg, Int.reduceAdd, Int.reduceSub, Int.reduceToNat, Nat.reduceEqDiff, Nat.reduceLeDiff, Nat.reduceLT, Nat.reduceAdd, Nat.reduceSub, Nat.reduceMul, reduceIte, reduceCtorEq, pv, pbin, peq, plen, pload, pcut, pfill, St.ev, St.set, lk, D.ofV, D.cellsOf, InR.i64, InR.u8, ssL, tx, ix, Fact.c, Pair.c, Cond.c, Action.c, Rule.c, Token.c, Match.c, Alpha.c, Node.c, Network.c, Stamp.c, Firing.c, Choice.c, tagg_3, tagg_31, tfo_93_0, tfo_93_1, tsz_3, tsz_31] <;> rfl) ?_)
    exact RetQ_ret (by simp only [Try.f57, resDs, resD, Int.reduceLE, Int.reduceLT, Int.reduceNeg, Int.reduceAdd, Int.reduceSub, Int.reduceToNat, Nat.reduceEqDiff, Nat.reduceLeDiff, Nat.reduceLT, Nat.reduceAdd, Nat.reduceSub, Nat.reduceMul, reduceIte, reduceCtorEq, pv, pbin, peq, plen, pload, pcut, pfill, St.ev, St.set, lk, D.ofV, D.cellsOf, InR.i64, InR.u8, ssL, tx, ix, Fact.c, Pair.c, Cond.c, Action.c, Rule.c, Token.c, Match.c, Alpha.c, Node.c, Network.c, Stamp.c, Firing.c, Choice.c, tagg_3, tagg_31, tfo_93_0, tfo_93_1, tsz_3, tsz_31] <;> rfl) rfl (by simp only [packD]; rw [decide_eq_false (fun h => c2 (by rw [h]))])
  have d2 : (x.time != y.time) = false := by simp [c2]
  repeat' first
    | refine thenQ_normal ?_
    | refine thenQ_ret ?_
    | refine thenQ_exit ?_
    | refine blockQ_normal ?_
    | refine blockQ_ret ?_
    | refine blockQ_exit ?_
    | refine blockQ_pass rfl ?_
    | refine AW_seq ?_
    | refine AW_block ?_
    | refine AW_skip ?_
    | refine AW_ret ?_
    | refine AW_exit ?_
    | refine AW_region ?_
    | refine AO_nil ?_
    | refine C_nil ?_
    | (refine R_pv rfl rfl (by omega) (by simp only [Int.reduceLE, Int.reduceLT, Int.reduceNeg, Int.reduceAdd, Int.reduceSub, Int.reduceToNat, Nat.reduceEqDiff, Nat.reduceLeDiff, Nat.reduceLT, Nat.reduceAdd, Nat.reduceSub, Nat.reduceMul, reduceIte, reduceCtorEq, pv, pbin, peq, plen, pload, pcut, pfill, St.ev, St.set, lk, D.ofV, D.cellsOf, InR.i64, InR.u8, ssL, tx, ix, Fact.c, Pair.c, Cond.c, Action.c, Rule.c, Token.c, Match.c, Alpha.c, Node.c, Network.c, Stamp.c, Firing.c, Choice.c, tagg_3, tagg_31, tfo_93_0, tfo_93_1, tsz_3, tsz_31, d2] <;> rfl) ?_)
    | (refine R_eff hΓ rfl (by simp only [peff, Int.reduceLE, Int.reduceLT, Int.reduceNeg, Int.reduceAdd, Int.reduceSub, Int.reduceToNat, Nat.reduceEqDiff, Nat.reduceLeDiff, Nat.reduceLT, Nat.reduceAdd, Nat.reduceSub, Nat.reduceMul, reduceIte, reduceCtorEq, pv, pbin, peq, plen, pload, pcut, pfill, St.ev, St.set, lk, D.ofV, D.cellsOf, InR.i64, InR.u8, ssL, tx, ix, Fact.c, Pair.c, Cond.c, Action.c, Rule.c, Token.c, Match.c, Alpha.c, Node.c, Network.c, Stamp.c, Firing.c, Choice.c, tagg_3, tagg_31, tfo_93_0, tfo_93_1, tsz_3, tsz_31, d2] <;> rfl) ?_)
  refine W_false (by simp only [Int.reduceLE, Int.reduceLT, Int.reduceNeg, Int.reduceAdd, Int.reduceSub, Int.reduceToNat, Nat.reduceEqDiff, Nat.reduceLeDiff, Nat.reduceLT, Nat.reduceAdd, Nat.reduceSub, Nat.reduceMul, reduceIte, reduceCtorEq, pv, pbin, peq, plen, pload, pcut, pfill, St.ev, St.set, lk, D.ofV, D.cellsOf, InR.i64, InR.u8, ssL, tx, ix, Fact.c, Pair.c, Cond.c, Action.c, Rule.c, Token.c, Match.c, Alpha.c, Node.c, Network.c, Stamp.c, Firing.c, Choice.c, tagg_3, tagg_31, tfo_93_0, tfo_93_1, tsz_3, tsz_31, d2] <;> rfl) ?_
  repeat' first
    | refine thenQ_normal ?_
    | refine thenQ_ret ?_
    | refine thenQ_exit ?_
    | refine blockQ_normal ?_
    | refine blockQ_ret ?_
    | refine blockQ_exit ?_
    | refine blockQ_pass rfl ?_
    | refine AW_seq ?_
    | refine AW_block ?_
    | refine AW_skip ?_
    | refine AW_ret ?_
    | refine AW_exit ?_
    | refine AW_region ?_
    | refine AO_nil ?_
    | refine C_nil ?_
    | (refine R_pv rfl rfl (by omega) (by simp only [Int.reduceLE, Int.reduceLT, Int.reduceNeg, Int.reduceAdd, Int.reduceSub, Int.reduceToNat, Nat.reduceEqDiff, Nat.reduceLeDiff, Nat.reduceLT, Nat.reduceAdd, Nat.reduceSub, Nat.reduceMul, reduceIte, reduceCtorEq, pv, pbin, peq, plen, pload, pcut, pfill, St.ev, St.set, lk, D.ofV, D.cellsOf, InR.i64, InR.u8, ssL, tx, ix, Fact.c, Pair.c, Cond.c, Action.c, Rule.c, Token.c, Match.c, Alpha.c, Node.c, Network.c, Stamp.c, Firing.c, Choice.c, tagg_3, tagg_31, tfo_93_0, tfo_93_1, tsz_3, tsz_31] <;> rfl) ?_)
    | (refine R_eff hΓ rfl (by simp only [peff, Int.reduceLE, Int.reduceLT, Int.reduceNeg, Int.reduceAdd, Int.reduceSub, Int.reduceToNat, Nat.reduceEqDiff, Nat.reduceLeDiff, Nat.reduceLT, Nat.reduceAdd, Nat.reduceSub, Nat.reduceMul, reduceIte, reduceCtorEq, pv, pbin, peq, plen, pload, pcut, pfill, St.ev, St.set, lk, D.ofV, D.cellsOf, InR.i64, InR.u8, ssL, tx, ix, Fact.c, Pair.c, Cond.c, Action.c, Rule.c, Token.c, Match.c, Alpha.c, Node.c, Network.c, Stamp.c, Firing.c, Choice.c, tagg_3, tagg_31, tfo_93_0, tfo_93_1, tsz_3, tsz_31] <;> rfl) ?_)
  have hxy : x = y := by cases x; cases y; simp_all
  exact RetQ_ret (by simp only [Try.f57, resDs, resD, Int.reduceLE, Int.reduceLT, Int.reduceNeg, Int.reduceAdd, Int.reduceSub, Int.reduceToNat, Nat.reduceEqDiff, Nat.reduceLeDiff, Nat.reduceLT, Nat.reduceAdd, Nat.reduceSub, Nat.reduceMul, reduceIte, reduceCtorEq, pv, pbin, peq, plen, pload, pcut, pfill, St.ev, St.set, lk, D.ofV, D.cellsOf, InR.i64, InR.u8, ssL, tx, ix, Fact.c, Pair.c, Cond.c, Action.c, Rule.c, Token.c, Match.c, Alpha.c, Node.c, Network.c, Stamp.c, Firing.c, Choice.c, tagg_3, tagg_31, tfo_93_0, tfo_93_1, tsz_3, tsz_31] <;> rfl) rfl (by simp only [packD]; rw [decide_eq_true hxy])

set_option linter.unusedSimpArgs false in
set_option maxRecDepth 100000 in
set_option maxHeartbeats 1000000 in
theorem eqStampS_good (l m : List Stamp) : Good Try.prog 16 [.sl (l.map Stamp.c), .sl (m.map Stamp.c)] (.bool (decide (l = m))) := by
  refine Good.of Try.func16 rfl (by decide) (by simp [Try.f16]) ?_
  intro hr Γ hΓ
  have hΓ : Γ.nt = 27 := hΓ
  simp only [args0]
  have hl : l.length ≤ maxLen := (hr (.sl (l.map Stamp.c)) (List.mem_cons_self ..)).len
  by_cases c1 : l.length = m.length
  case neg =>
    have d1 : ((l.length : Int) != (m.length : Int)) = true := by simp; omega
    repeat' first
      | refine thenQ_normal ?_
      | refine thenQ_ret ?_
      | refine thenQ_exit ?_
      | refine blockQ_normal ?_
      | refine blockQ_ret ?_
      | refine blockQ_exit ?_
      | refine blockQ_pass rfl ?_
      | refine AW_seq ?_
      | refine AW_block ?_
      | refine AW_skip ?_
      | refine AW_ret ?_
      | refine AW_exit ?_
      | refine AW_region ?_
      | refine AO_nil ?_
      | refine C_nil ?_
      | (refine R_pv rfl rfl (by omega) (by simp only [Int.reduceLE, Int.reduceLT, Int.reduceNeg, Int.reduceAdd, Int.reduceSub, Int.reduceToNat, Nat.reduceEqDiff, Nat.reduceLeDiff, Nat.reduceLT, Nat.reduceAdd, Nat.reduceSub, Nat.reduceMul, reduceIte, reduceCtorEq, pv, pbin, peq, plen, pload, pcut, pfill, St.ev, St.set, lk, D.ofV, D.cellsOf, InR.i64, InR.u8, ssL, tx, ix, Fact.c, Pair.c, Cond.c, Action.c, Rule.c, Token.c, Match.c, Alpha.c, Node.c, Network.c, Stamp.c, Firing.c, Choice.c, tagg_93, tel_29, tstr_29, tsz_93, d1] <;> rfl) ?_)
      | (refine C_pv rfl rfl (by omega) (by simp only [Int.reduceLE, Int.reduceLT, Int.reduceNeg, Int.reduceAdd, Int.reduceSub, Int.reduceToNat, Nat.reduceEqDiff, Nat.reduceLeDiff, Nat.reduceLT, Nat.reduceAdd, Nat.reduceSub, Nat.reduceMul, reduceIte, reduceCtorEq, pv, pbin, peq, plen, pload, pcut, pfill, St.ev, St.set, lk, D.ofV, D.cellsOf, InR.i64, InR.u8, ssL, tx, ix, Fact.c, Pair.c, Cond.c, Action.c, Rule.c, Token.c, Match.c, Alpha.c, Node.c, Network.c, Stamp.c, Firing.c, Choice.c, tagg_93, tel_29, tstr_29, tsz_93, d1] <;> rfl) ?_)
    refine W_true (by simp only [Int.reduceLE, Int.reduceLT, Int.reduceNeg, Int.reduceAdd, Int.reduceSub, Int.reduceToNat, Nat.reduceEqDiff, Nat.reduceLeDiff, Nat.reduceLT, Nat.reduceAdd, Nat.reduceSub, Nat.reduceMul, reduceIte, reduceCtorEq, pv, pbin, peq, plen, pload, pcut, pfill, St.ev, St.set, lk, D.ofV, D.cellsOf, InR.i64, InR.u8, ssL, tx, ix, Fact.c, Pair.c, Cond.c, Action.c, Rule.c, Token.c, Match.c, Alpha.c, Node.c, Network.c, Stamp.c, Firing.c, Choice.c, tagg_93, tel_29, tstr_29, tsz_93, d1] <;> rfl) ?_
    repeat' first
      | refine thenQ_normal ?_
      | refine thenQ_ret ?_
      | refine thenQ_exit ?_
      | refine blockQ_normal ?_
      | refine blockQ_ret ?_
      | refine blockQ_exit ?_
      | refine blockQ_pass rfl ?_
      | refine AW_seq ?_
      | refine AW_block ?_
      | refine AW_skip ?_
      | refine AW_ret ?_
      | refine AW_exit ?_
      | refine AW_region ?_
      | refine AO_nil ?_
      | refine C_nil ?_
      | (refine R_pv rfl rfl (by omega) (by simp only [Int.reduceLE, Int.reduceLT, Int.reduceNeg, Int.reduceAdd, Int.reduceSub, Int.reduceToNat, Nat.reduceEqDiff, Nat.reduceLeDiff, Nat.reduceLT, Nat.reduceAdd, Nat.reduceSub, Nat.reduceMul, reduceIte, reduceCtorEq, pv, pbin, peq, plen, pload, pcut, pfill, St.ev, St.set, lk, D.ofV, D.cellsOf, InR.i64, InR.u8, ssL, tx, ix, Fact.c, Pair.c, Cond.c, Action.c, Rule.c, Token.c, Match.c, Alpha.c, Node.c, Network.c, Stamp.c, Firing.c, Choice.c, tagg_93, tel_29, tstr_29, tsz_93] <;> rfl) ?_)
      | (refine C_pv rfl rfl (by omega) (by simp only [Int.reduceLE, Int.reduceLT, Int.reduceNeg, Int.reduceAdd, Int.reduceSub, Int.reduceToNat, Nat.reduceEqDiff, Nat.reduceLeDiff, Nat.reduceLT, Nat.reduceAdd, Nat.reduceSub, Nat.reduceMul, reduceIte, reduceCtorEq, pv, pbin, peq, plen, pload, pcut, pfill, St.ev, St.set, lk, D.ofV, D.cellsOf, InR.i64, InR.u8, ssL, tx, ix, Fact.c, Pair.c, Cond.c, Action.c, Rule.c, Token.c, Match.c, Alpha.c, Node.c, Network.c, Stamp.c, Firing.c, Choice.c, tagg_93, tel_29, tstr_29, tsz_93] <;> rfl) ?_)
    exact RetQ_ret (by simp only [Try.f16, resDs, resD, Int.reduceLE, Int.reduceLT, Int.reduceNeg, Int.reduceAdd, Int.reduceSub, Int.reduceToNat, Nat.reduceEqDiff, Nat.reduceLeDiff, Nat.reduceLT, Nat.reduceAdd, Nat.reduceSub, Nat.reduceMul, reduceIte, reduceCtorEq, pv, pbin, peq, plen, pload, pcut, pfill, St.ev, St.set, lk, D.ofV, D.cellsOf, InR.i64, InR.u8, ssL, tx, ix, Fact.c, Pair.c, Cond.c, Action.c, Rule.c, Token.c, Match.c, Alpha.c, Node.c, Network.c, Stamp.c, Firing.c, Choice.c, tagg_93, tel_29, tstr_29, tsz_93] <;> rfl) rfl (by simp only [packD]; rw [decide_eq_false (fun h => c1 (by rw [h]))])
  have d1 : ((l.length : Int) != (m.length : Int)) = false := by simp; omega
  repeat' first
    | refine thenQ_normal ?_
    | refine thenQ_ret ?_
    | refine thenQ_exit ?_
    | refine blockQ_normal ?_
    | refine blockQ_ret ?_
    | refine blockQ_exit ?_
    | refine blockQ_pass rfl ?_
    | refine AW_seq ?_
    | refine AW_block ?_
    | refine AW_skip ?_
    | refine AW_ret ?_
    | refine AW_exit ?_
    | refine AW_region ?_
    | refine AO_nil ?_
    | refine C_nil ?_
    | (refine R_pv rfl rfl (by omega) (by simp only [Int.reduceLE, Int.reduceLT, Int.reduceNeg, Int.reduceAdd, Int.reduceSub, Int.reduceToNat, Nat.reduceEqDiff, Nat.reduceLeDiff, Nat.reduceLT, Nat.reduceAdd, Nat.reduceSub, Nat.reduceMul, reduceIte, reduceCtorEq, pv, pbin, peq, plen, pload, pcut, pfill, St.ev, St.set, lk, D.ofV, D.cellsOf, InR.i64, InR.u8, ssL, tx, ix, Fact.c, Pair.c, Cond.c, Action.c, Rule.c, Token.c, Match.c, Alpha.c, Node.c, Network.c, Stamp.c, Firing.c, Choice.c, tagg_93, tel_29, tstr_29, tsz_93, d1] <;> rfl) ?_)
    | (refine C_pv rfl rfl (by omega) (by simp only [Int.reduceLE, Int.reduceLT, Int.reduceNeg, Int.reduceAdd, Int.reduceSub, Int.reduceToNat, Nat.reduceEqDiff, Nat.reduceLeDiff, Nat.reduceLT, Nat.reduceAdd, Nat.reduceSub, Nat.reduceMul, reduceIte, reduceCtorEq, pv, pbin, peq, plen, pload, pcut, pfill, St.ev, St.set, lk, D.ofV, D.cellsOf, InR.i64, InR.u8, ssL, tx, ix, Fact.c, Pair.c, Cond.c, Action.c, Rule.c, Token.c, Match.c, Alpha.c, Node.c, Network.c, Stamp.c, Firing.c, Choice.c, tagg_93, tel_29, tstr_29, tsz_93, d1] <;> rfl) ?_)
  refine W_false (by simp only [Int.reduceLE, Int.reduceLT, Int.reduceNeg, Int.reduceAdd, Int.reduceSub, Int.reduceToNat, Nat.reduceEqDiff, Nat.reduceLeDiff, Nat.reduceLT, Nat.reduceAdd, Nat.reduceSub, Nat.reduceMul, reduceIte, reduceCtorEq, pv, pbin, peq, plen, pload, pcut, pfill, St.ev, St.set, lk, D.ofV, D.cellsOf, InR.i64, InR.u8, ssL, tx, ix, Fact.c, Pair.c, Cond.c, Action.c, Rule.c, Token.c, Match.c, Alpha.c, Node.c, Network.c, Stamp.c, Firing.c, Choice.c, tagg_93, tel_29, tstr_29, tsz_93, d1] <;> rfl) ?_
  repeat' first
    | refine thenQ_normal ?_
    | refine thenQ_ret ?_
    | refine thenQ_exit ?_
    | refine blockQ_normal ?_
    | refine blockQ_ret ?_
    | refine blockQ_exit ?_
    | refine blockQ_pass rfl ?_
    | refine AW_seq ?_
    | refine AW_block ?_
    | refine AW_skip ?_
    | refine AW_ret ?_
    | refine AW_exit ?_
    | refine AW_region ?_
    | refine AO_nil ?_
    | refine C_nil ?_
    | (refine R_pv rfl rfl (by omega) (by simp only [Int.reduceLE, Int.reduceLT, Int.reduceNeg, Int.reduceAdd, Int.reduceSub, Int.reduceToNat, Nat.reduceEqDiff, Nat.reduceLeDiff, Nat.reduceLT, Nat.reduceAdd, Nat.reduceSub, Nat.reduceMul, reduceIte, reduceCtorEq, pv, pbin, peq, plen, pload, pcut, pfill, St.ev, St.set, lk, D.ofV, D.cellsOf, InR.i64, InR.u8, ssL, tx, ix, Fact.c, Pair.c, Cond.c, Action.c, Rule.c, Token.c, Match.c, Alpha.c, Node.c, Network.c, Stamp.c, Firing.c, Choice.c, tagg_93, tel_29, tstr_29, tsz_93] <;> rfl) ?_)
    | (refine C_pv rfl rfl (by omega) (by simp only [Int.reduceLE, Int.reduceLT, Int.reduceNeg, Int.reduceAdd, Int.reduceSub, Int.reduceToNat, Nat.reduceEqDiff, Nat.reduceLeDiff, Nat.reduceLT, Nat.reduceAdd, Nat.reduceSub, Nat.reduceMul, reduceIte, reduceCtorEq, pv, pbin, peq, plen, pload, pcut, pfill, St.ev, St.set, lk, D.ofV, D.cellsOf, InR.i64, InR.u8, ssL, tx, ix, Fact.c, Pair.c, Cond.c, Action.c, Rule.c, Token.c, Match.c, Alpha.c, Node.c, Network.c, Stamp.c, Firing.c, Choice.c, tagg_93, tel_29, tstr_29, tsz_93] <;> rfl) ?_)
  refine W_for [0, 1, 5] 0 (fun k => ⟨[(0, .sl (l.map Stamp.c)), (1, .sl (m.map Stamp.c)), (5, .int .i64 (k : Nat))], []⟩)
    (fun k => l.take k = m.take k) l.length rfl ?_ rfl ?_
  · simp only [St.trim, Int.reduceLE, Int.reduceLT, Int.reduceNeg, Int.reduceAdd, Int.reduceSub, Int.reduceToNat, Nat.reduceEqDiff, Nat.reduceLeDiff, Nat.reduceLT, Nat.reduceAdd, Nat.reduceSub, Nat.reduceMul, reduceIte, reduceCtorEq, pv, pbin, peq, plen, pload, pcut, pfill, St.ev, St.set, lk, D.ofV, D.cellsOf, InR.i64, InR.u8, ssL, tx, ix, Fact.c, Pair.c, Cond.c, Action.c, Rule.c, Token.c, Match.c, Alpha.c, Node.c, Network.c, Stamp.c, Firing.c, Choice.c, tagg_93, tel_29, tstr_29, tsz_93]
  · intro k hk hI
    rcases Nat.lt_or_ge k l.length with hlt | hge
    · obtain ⟨x, hx⟩ := getx hlt
      obtain ⟨y, hy⟩ := getx (l := m) (k := k) (by omega)
      have hd := lt_true hlt
      have wk := wrap_succ hlt hl
      by_cases c2 : x = y
      case neg =>
        have hc := eqStamp_good x y
        rw [decide_eq_false c2] at hc
        repeat' first
          | refine thenQ_normal ?_
          | refine thenQ_ret ?_
          | refine thenQ_exit ?_
          | refine blockQ_normal ?_
          | refine blockQ_ret ?_
          | refine blockQ_exit ?_
          | refine blockQ_pass rfl ?_
          | refine AW_seq ?_
          | refine AW_block ?_
          | refine AW_skip ?_
          | refine AW_ret ?_
          | refine AW_exit ?_
          | refine AW_region ?_
          | refine AO_nil ?_
          | refine C_nil ?_
          | (refine R_pv rfl rfl (by omega) (by simp only [Int.reduceLE, Int.reduceLT, Int.reduceNeg, Int.reduceAdd, Int.reduceSub, Int.reduceToNat, Nat.reduceEqDiff, Nat.reduceLeDiff, Nat.reduceLT, Nat.reduceAdd, Nat.reduceSub, Nat.reduceMul, reduceIte, reduceCtorEq, pv, pbin, peq, plen, pload, pcut, pfill, St.ev, St.set, lk, D.ofV, D.cellsOf, InR.i64, InR.u8, ssL, tx, ix, Fact.c, Pair.c, Cond.c, Action.c, Rule.c, Token.c, Match.c, Alpha.c, Node.c, Network.c, Stamp.c, Firing.c, Choice.c, tagg_93, tel_29, tstr_29, tsz_93, hd, hx, hy, wk] <;> rfl) ?_)
          | (refine C_pv rfl rfl (by omega) (by simp only [Int.reduceLE, Int.reduceLT, Int.reduceNeg, Int.reduceAdd, Int.reduceSub, Int.reduceToNat, Nat.reduceEqDiff, Nat.reduceLeDiff, Nat.reduceLT, Nat.reduceAdd, Nat.reduceSub, Nat.reduceMul, reduceIte, reduceCtorEq, pv, pbin, peq, plen, pload, pcut, pfill, St.ev, St.set, lk, D.ofV, D.cellsOf, InR.i64, InR.u8, ssL, tx, ix, Fact.c, Pair.c, Cond.c, Action.c, Rule.c, Token.c, Match.c, Alpha.c, Node.c, Network.c, Stamp.c, Firing.c, Choice.c, tagg_93, tel_29, tstr_29, tsz_93, hd, hx, hy, wk] <;> rfl) ?_)
        refine W_true (by simp only [Int.reduceLE, Int.reduceLT, Int.reduceNeg, Int.reduceAdd, Int.reduceSub, Int.reduceToNat, Nat.reduceEqDiff, Nat.reduceLeDiff, Nat.reduceLT, Nat.reduceAdd, Nat.reduceSub, Nat.reduceMul, reduceIte, reduceCtorEq, pv, pbin, peq, plen, pload, pcut, pfill, St.ev, St.set, lk, D.ofV, D.cellsOf, InR.i64, InR.u8, ssL, tx, ix, Fact.c, Pair.c, Cond.c, Action.c, Rule.c, Token.c, Match.c, Alpha.c, Node.c, Network.c, Stamp.c, Firing.c, Choice.c, tagg_93, tel_29, tstr_29, tsz_93, hd] <;> rfl) ?_
        repeat' first
          | refine thenQ_normal ?_
          | refine thenQ_ret ?_
          | refine thenQ_exit ?_
          | refine blockQ_normal ?_
          | refine blockQ_ret ?_
          | refine blockQ_exit ?_
          | refine blockQ_pass rfl ?_
          | refine AW_seq ?_
          | refine AW_block ?_
          | refine AW_skip ?_
          | refine AW_ret ?_
          | refine AW_exit ?_
          | refine AW_region ?_
          | refine AO_nil ?_
          | refine C_nil ?_
          | (refine R_pv rfl rfl (by omega) (by simp only [Int.reduceLE, Int.reduceLT, Int.reduceNeg, Int.reduceAdd, Int.reduceSub, Int.reduceToNat, Nat.reduceEqDiff, Nat.reduceLeDiff, Nat.reduceLT, Nat.reduceAdd, Nat.reduceSub, Nat.reduceMul, reduceIte, reduceCtorEq, pv, pbin, peq, plen, pload, pcut, pfill, St.ev, St.set, lk, D.ofV, D.cellsOf, InR.i64, InR.u8, ssL, tx, ix, Fact.c, Pair.c, Cond.c, Action.c, Rule.c, Token.c, Match.c, Alpha.c, Node.c, Network.c, Stamp.c, Firing.c, Choice.c, tagg_93, tel_29, tstr_29, tsz_93, hd, hx, hy, wk] <;> rfl) ?_)
          | (refine C_pv rfl rfl (by omega) (by simp only [Int.reduceLE, Int.reduceLT, Int.reduceNeg, Int.reduceAdd, Int.reduceSub, Int.reduceToNat, Nat.reduceEqDiff, Nat.reduceLeDiff, Nat.reduceLT, Nat.reduceAdd, Nat.reduceSub, Nat.reduceMul, reduceIte, reduceCtorEq, pv, pbin, peq, plen, pload, pcut, pfill, St.ev, St.set, lk, D.ofV, D.cellsOf, InR.i64, InR.u8, ssL, tx, ix, Fact.c, Pair.c, Cond.c, Action.c, Rule.c, Token.c, Match.c, Alpha.c, Node.c, Network.c, Stamp.c, Firing.c, Choice.c, tagg_93, tel_29, tstr_29, tsz_93, hd, hx, hy, wk] <;> rfl) ?_)
        refine W_draw 8 (by kernel_rfl) (by kernel_rfl) rfl rfl ?_
        repeat' first
          | refine thenQ_normal ?_
          | refine thenQ_ret ?_
          | refine thenQ_exit ?_
          | refine blockQ_normal ?_
          | refine blockQ_ret ?_
          | refine blockQ_exit ?_
          | refine blockQ_pass rfl ?_
          | refine AW_seq ?_
          | refine AW_block ?_
          | refine AW_skip ?_
          | refine AW_ret ?_
          | refine AW_exit ?_
          | refine AW_region ?_
          | refine AO_nil ?_
          | refine C_nil ?_
          | (refine R_pv rfl rfl (by omega) (by simp only [Int.reduceLE, Int.reduceLT, Int.reduceNeg, Int.reduceAdd, Int.reduceSub, Int.reduceToNat, Nat.reduceEqDiff, Nat.reduceLeDiff, Nat.reduceLT, Nat.reduceAdd, Nat.reduceSub, Nat.reduceMul, reduceIte, reduceCtorEq, pv, pbin, peq, plen, pload, pcut, pfill, St.ev, St.set, lk, D.ofV, D.cellsOf, InR.i64, InR.u8, ssL, tx, ix, Fact.c, Pair.c, Cond.c, Action.c, Rule.c, Token.c, Match.c, Alpha.c, Node.c, Network.c, Stamp.c, Firing.c, Choice.c, tagg_93, tel_29, tstr_29, tsz_93, hd, hx, hy, wk] <;> rfl) ?_)
          | (refine C_pv rfl rfl (by omega) (by simp only [Int.reduceLE, Int.reduceLT, Int.reduceNeg, Int.reduceAdd, Int.reduceSub, Int.reduceToNat, Nat.reduceEqDiff, Nat.reduceLeDiff, Nat.reduceLT, Nat.reduceAdd, Nat.reduceSub, Nat.reduceMul, reduceIte, reduceCtorEq, pv, pbin, peq, plen, pload, pcut, pfill, St.ev, St.set, lk, D.ofV, D.cellsOf, InR.i64, InR.u8, ssL, tx, ix, Fact.c, Pair.c, Cond.c, Action.c, Rule.c, Token.c, Match.c, Alpha.c, Node.c, Network.c, Stamp.c, Firing.c, Choice.c, tagg_93, tel_29, tstr_29, tsz_93, hd, hx, hy, wk] <;> rfl) ?_)
          | (refine R_call rfl rfl rfl (by omega) (by simp only [Int.reduceLE, Int.reduceLT, Int.reduceNeg, Int.reduceAdd, Int.reduceSub, Int.reduceToNat, Nat.reduceEqDiff, Nat.reduceLeDiff, Nat.reduceLT, Nat.reduceAdd, Nat.reduceSub, Nat.reduceMul, reduceIte, reduceCtorEq, pv, pbin, peq, plen, pload, pcut, pfill, St.ev, St.set, lk, D.ofV, D.cellsOf, InR.i64, InR.u8, ssL, tx, ix, Fact.c, Pair.c, Cond.c, Action.c, Rule.c, Token.c, Match.c, Alpha.c, Node.c, Network.c, Stamp.c, Firing.c, Choice.c, tagg_93, tel_29, tstr_29, tsz_93, hd, hx, hy, wk] <;> rfl) (by rfl) (by exact hc) (by rfl) ?_)
          | (refine C_call rfl rfl rfl (by omega) (by simp only [Int.reduceLE, Int.reduceLT, Int.reduceNeg, Int.reduceAdd, Int.reduceSub, Int.reduceToNat, Nat.reduceEqDiff, Nat.reduceLeDiff, Nat.reduceLT, Nat.reduceAdd, Nat.reduceSub, Nat.reduceMul, reduceIte, reduceCtorEq, pv, pbin, peq, plen, pload, pcut, pfill, St.ev, St.set, lk, D.ofV, D.cellsOf, InR.i64, InR.u8, ssL, tx, ix, Fact.c, Pair.c, Cond.c, Action.c, Rule.c, Token.c, Match.c, Alpha.c, Node.c, Network.c, Stamp.c, Firing.c, Choice.c, tagg_93, tel_29, tstr_29, tsz_93, hd, hx, hy, wk] <;> rfl) (by rfl) (by exact hc) (by rfl) ?_)
        refine W_true (by simp only [Int.reduceLE, Int.reduceLT, Int.reduceNeg, Int.reduceAdd, Int.reduceSub, Int.reduceToNat, Nat.reduceEqDiff, Nat.reduceLeDiff, Nat.reduceLT, Nat.reduceAdd, Nat.reduceSub, Nat.reduceMul, reduceIte, reduceCtorEq, pv, pbin, peq, plen, pload, pcut, pfill, St.ev, St.set, lk, D.ofV, D.cellsOf, InR.i64, InR.u8, ssL, tx, ix, Fact.c, Pair.c, Cond.c, Action.c, Rule.c, Token.c, Match.c, Alpha.c, Node.c, Network.c, Stamp.c, Firing.c, Choice.c, tagg_93, tel_29, tstr_29, tsz_93] <;> rfl) ?_
        repeat' first
          | refine thenQ_normal ?_
          | refine thenQ_ret ?_
          | refine thenQ_exit ?_
          | refine blockQ_normal ?_
          | refine blockQ_ret ?_
          | refine blockQ_exit ?_
          | refine blockQ_pass rfl ?_
          | refine AW_seq ?_
          | refine AW_block ?_
          | refine AW_skip ?_
          | refine AW_ret ?_
          | refine AW_exit ?_
          | refine AW_region ?_
          | refine AO_nil ?_
          | refine C_nil ?_
          | (refine R_pv rfl rfl (by omega) (by simp only [Int.reduceLE, Int.reduceLT, Int.reduceNeg, Int.reduceAdd, Int.reduceSub, Int.reduceToNat, Nat.reduceEqDiff, Nat.reduceLeDiff, Nat.reduceLT, Nat.reduceAdd, Nat.reduceSub, Nat.reduceMul, reduceIte, reduceCtorEq, pv, pbin, peq, plen, pload, pcut, pfill, St.ev, St.set, lk, D.ofV, D.cellsOf, InR.i64, InR.u8, ssL, tx, ix, Fact.c, Pair.c, Cond.c, Action.c, Rule.c, Token.c, Match.c, Alpha.c, Node.c, Network.c, Stamp.c, Firing.c, Choice.c, tagg_93, tel_29, tstr_29, tsz_93] <;> rfl) ?_)
          | (refine C_pv rfl rfl (by omega) (by simp only [Int.reduceLE, Int.reduceLT, Int.reduceNeg, Int.reduceAdd, Int.reduceSub, Int.reduceToNat, Nat.reduceEqDiff, Nat.reduceLeDiff, Nat.reduceLT, Nat.reduceAdd, Nat.reduceSub, Nat.reduceMul, reduceIte, reduceCtorEq, pv, pbin, peq, plen, pload, pcut, pfill, St.ev, St.set, lk, D.ofV, D.cellsOf, InR.i64, InR.u8, ssL, tx, ix, Fact.c, Pair.c, Cond.c, Action.c, Rule.c, Token.c, Match.c, Alpha.c, Node.c, Network.c, Stamp.c, Firing.c, Choice.c, tagg_93, tel_29, tstr_29, tsz_93] <;> rfl) ?_)
        exact RetQ_ret (by simp only [Try.f16, resDs, resD, Int.reduceLE, Int.reduceLT, Int.reduceNeg, Int.reduceAdd, Int.reduceSub, Int.reduceToNat, Nat.reduceEqDiff, Nat.reduceLeDiff, Nat.reduceLT, Nat.reduceAdd, Nat.reduceSub, Nat.reduceMul, reduceIte, reduceCtorEq, pv, pbin, peq, plen, pload, pcut, pfill, St.ev, St.set, lk, D.ofV, D.cellsOf, InR.i64, InR.u8, ssL, tx, ix, Fact.c, Pair.c, Cond.c, Action.c, Rule.c, Token.c, Match.c, Alpha.c, Node.c, Network.c, Stamp.c, Firing.c, Choice.c, tagg_93, tel_29, tstr_29, tsz_93] <;> rfl) rfl (by simp only [packD]; rw [decide_eq_false (fun h => c2 (by rw [h, hy] at hx; exact (Option.some.inj hx).symm))])
      have hc := eqStamp_good x y
      rw [decide_eq_true c2] at hc
      repeat' first
        | refine thenQ_normal ?_
        | refine thenQ_ret ?_
        | refine thenQ_exit ?_
        | refine blockQ_normal ?_
        | refine blockQ_ret ?_
        | refine blockQ_exit ?_
        | refine blockQ_pass rfl ?_
        | refine AW_seq ?_
        | refine AW_block ?_
        | refine AW_skip ?_
        | refine AW_ret ?_
        | refine AW_exit ?_
        | refine AW_region ?_
        | refine AO_nil ?_
        | refine C_nil ?_
        | (refine R_pv rfl rfl (by omega) (by simp only [Int.reduceLE, Int.reduceLT, Int.reduceNeg, Int.reduceAdd, Int.reduceSub, Int.reduceToNat, Nat.reduceEqDiff, Nat.reduceLeDiff, Nat.reduceLT, Nat.reduceAdd, Nat.reduceSub, Nat.reduceMul, reduceIte, reduceCtorEq, pv, pbin, peq, plen, pload, pcut, pfill, St.ev, St.set, lk, D.ofV, D.cellsOf, InR.i64, InR.u8, ssL, tx, ix, Fact.c, Pair.c, Cond.c, Action.c, Rule.c, Token.c, Match.c, Alpha.c, Node.c, Network.c, Stamp.c, Firing.c, Choice.c, tagg_93, tel_29, tstr_29, tsz_93, hd, hx, hy, wk] <;> rfl) ?_)
        | (refine C_pv rfl rfl (by omega) (by simp only [Int.reduceLE, Int.reduceLT, Int.reduceNeg, Int.reduceAdd, Int.reduceSub, Int.reduceToNat, Nat.reduceEqDiff, Nat.reduceLeDiff, Nat.reduceLT, Nat.reduceAdd, Nat.reduceSub, Nat.reduceMul, reduceIte, reduceCtorEq, pv, pbin, peq, plen, pload, pcut, pfill, St.ev, St.set, lk, D.ofV, D.cellsOf, InR.i64, InR.u8, ssL, tx, ix, Fact.c, Pair.c, Cond.c, Action.c, Rule.c, Token.c, Match.c, Alpha.c, Node.c, Network.c, Stamp.c, Firing.c, Choice.c, tagg_93, tel_29, tstr_29, tsz_93, hd, hx, hy, wk] <;> rfl) ?_)
      refine W_true (by simp only [Int.reduceLE, Int.reduceLT, Int.reduceNeg, Int.reduceAdd, Int.reduceSub, Int.reduceToNat, Nat.reduceEqDiff, Nat.reduceLeDiff, Nat.reduceLT, Nat.reduceAdd, Nat.reduceSub, Nat.reduceMul, reduceIte, reduceCtorEq, pv, pbin, peq, plen, pload, pcut, pfill, St.ev, St.set, lk, D.ofV, D.cellsOf, InR.i64, InR.u8, ssL, tx, ix, Fact.c, Pair.c, Cond.c, Action.c, Rule.c, Token.c, Match.c, Alpha.c, Node.c, Network.c, Stamp.c, Firing.c, Choice.c, tagg_93, tel_29, tstr_29, tsz_93, hd] <;> rfl) ?_
      repeat' first
        | refine thenQ_normal ?_
        | refine thenQ_ret ?_
        | refine thenQ_exit ?_
        | refine blockQ_normal ?_
        | refine blockQ_ret ?_
        | refine blockQ_exit ?_
        | refine blockQ_pass rfl ?_
        | refine AW_seq ?_
        | refine AW_block ?_
        | refine AW_skip ?_
        | refine AW_ret ?_
        | refine AW_exit ?_
        | refine AW_region ?_
        | refine AO_nil ?_
        | refine C_nil ?_
        | (refine R_pv rfl rfl (by omega) (by simp only [Int.reduceLE, Int.reduceLT, Int.reduceNeg, Int.reduceAdd, Int.reduceSub, Int.reduceToNat, Nat.reduceEqDiff, Nat.reduceLeDiff, Nat.reduceLT, Nat.reduceAdd, Nat.reduceSub, Nat.reduceMul, reduceIte, reduceCtorEq, pv, pbin, peq, plen, pload, pcut, pfill, St.ev, St.set, lk, D.ofV, D.cellsOf, InR.i64, InR.u8, ssL, tx, ix, Fact.c, Pair.c, Cond.c, Action.c, Rule.c, Token.c, Match.c, Alpha.c, Node.c, Network.c, Stamp.c, Firing.c, Choice.c, tagg_93, tel_29, tstr_29, tsz_93, hd, hx, hy, wk] <;> rfl) ?_)
        | (refine C_pv rfl rfl (by omega) (by simp only [Int.reduceLE, Int.reduceLT, Int.reduceNeg, Int.reduceAdd, Int.reduceSub, Int.reduceToNat, Nat.reduceEqDiff, Nat.reduceLeDiff, Nat.reduceLT, Nat.reduceAdd, Nat.reduceSub, Nat.reduceMul, reduceIte, reduceCtorEq, pv, pbin, peq, plen, pload, pcut, pfill, St.ev, St.set, lk, D.ofV, D.cellsOf, InR.i64, InR.u8, ssL, tx, ix, Fact.c, Pair.c, Cond.c, Action.c, Rule.c, Token.c, Match.c, Alpha.c, Node.c, Network.c, Stamp.c, Firing.c, Choice.c, tagg_93, tel_29, tstr_29, tsz_93, hd, hx, hy, wk] <;> rfl) ?_)
      refine W_draw 8 (by kernel_rfl) (by kernel_rfl) rfl rfl ?_
      repeat' first
        | refine thenQ_normal ?_
        | refine thenQ_ret ?_
        | refine thenQ_exit ?_
        | refine blockQ_normal ?_
        | refine blockQ_ret ?_
        | refine blockQ_exit ?_
        | refine blockQ_pass rfl ?_
        | refine AW_seq ?_
        | refine AW_block ?_
        | refine AW_skip ?_
        | refine AW_ret ?_
        | refine AW_exit ?_
        | refine AW_region ?_
        | refine AO_nil ?_
        | refine C_nil ?_
        | (refine R_pv rfl rfl (by omega) (by simp only [Int.reduceLE, Int.reduceLT, Int.reduceNeg, Int.reduceAdd, Int.reduceSub, Int.reduceToNat, Nat.reduceEqDiff, Nat.reduceLeDiff, Nat.reduceLT, Nat.reduceAdd, Nat.reduceSub, Nat.reduceMul, reduceIte, reduceCtorEq, pv, pbin, peq, plen, pload, pcut, pfill, St.ev, St.set, lk, D.ofV, D.cellsOf, InR.i64, InR.u8, ssL, tx, ix, Fact.c, Pair.c, Cond.c, Action.c, Rule.c, Token.c, Match.c, Alpha.c, Node.c, Network.c, Stamp.c, Firing.c, Choice.c, tagg_93, tel_29, tstr_29, tsz_93, hd, hx, hy, wk] <;> rfl) ?_)
        | (refine C_pv rfl rfl (by omega) (by simp only [Int.reduceLE, Int.reduceLT, Int.reduceNeg, Int.reduceAdd, Int.reduceSub, Int.reduceToNat, Nat.reduceEqDiff, Nat.reduceLeDiff, Nat.reduceLT, Nat.reduceAdd, Nat.reduceSub, Nat.reduceMul, reduceIte, reduceCtorEq, pv, pbin, peq, plen, pload, pcut, pfill, St.ev, St.set, lk, D.ofV, D.cellsOf, InR.i64, InR.u8, ssL, tx, ix, Fact.c, Pair.c, Cond.c, Action.c, Rule.c, Token.c, Match.c, Alpha.c, Node.c, Network.c, Stamp.c, Firing.c, Choice.c, tagg_93, tel_29, tstr_29, tsz_93, hd, hx, hy, wk] <;> rfl) ?_)
        | (refine R_call rfl rfl rfl (by omega) (by simp only [Int.reduceLE, Int.reduceLT, Int.reduceNeg, Int.reduceAdd, Int.reduceSub, Int.reduceToNat, Nat.reduceEqDiff, Nat.reduceLeDiff, Nat.reduceLT, Nat.reduceAdd, Nat.reduceSub, Nat.reduceMul, reduceIte, reduceCtorEq, pv, pbin, peq, plen, pload, pcut, pfill, St.ev, St.set, lk, D.ofV, D.cellsOf, InR.i64, InR.u8, ssL, tx, ix, Fact.c, Pair.c, Cond.c, Action.c, Rule.c, Token.c, Match.c, Alpha.c, Node.c, Network.c, Stamp.c, Firing.c, Choice.c, tagg_93, tel_29, tstr_29, tsz_93, hd, hx, hy, wk] <;> rfl) (by rfl) (by exact hc) (by rfl) ?_)
        | (refine C_call rfl rfl rfl (by omega) (by simp only [Int.reduceLE, Int.reduceLT, Int.reduceNeg, Int.reduceAdd, Int.reduceSub, Int.reduceToNat, Nat.reduceEqDiff, Nat.reduceLeDiff, Nat.reduceLT, Nat.reduceAdd, Nat.reduceSub, Nat.reduceMul, reduceIte, reduceCtorEq, pv, pbin, peq, plen, pload, pcut, pfill, St.ev, St.set, lk, D.ofV, D.cellsOf, InR.i64, InR.u8, ssL, tx, ix, Fact.c, Pair.c, Cond.c, Action.c, Rule.c, Token.c, Match.c, Alpha.c, Node.c, Network.c, Stamp.c, Firing.c, Choice.c, tagg_93, tel_29, tstr_29, tsz_93, hd, hx, hy, wk] <;> rfl) (by rfl) (by exact hc) (by rfl) ?_)
      refine W_false (by simp only [Int.reduceLE, Int.reduceLT, Int.reduceNeg, Int.reduceAdd, Int.reduceSub, Int.reduceToNat, Nat.reduceEqDiff, Nat.reduceLeDiff, Nat.reduceLT, Nat.reduceAdd, Nat.reduceSub, Nat.reduceMul, reduceIte, reduceCtorEq, pv, pbin, peq, plen, pload, pcut, pfill, St.ev, St.set, lk, D.ofV, D.cellsOf, InR.i64, InR.u8, ssL, tx, ix, Fact.c, Pair.c, Cond.c, Action.c, Rule.c, Token.c, Match.c, Alpha.c, Node.c, Network.c, Stamp.c, Firing.c, Choice.c, tagg_93, tel_29, tstr_29, tsz_93] <;> rfl) ?_
      repeat' first
        | refine thenQ_normal ?_
        | refine thenQ_ret ?_
        | refine thenQ_exit ?_
        | refine blockQ_normal ?_
        | refine blockQ_ret ?_
        | refine blockQ_exit ?_
        | refine blockQ_pass rfl ?_
        | refine AW_seq ?_
        | refine AW_block ?_
        | refine AW_skip ?_
        | refine AW_ret ?_
        | refine AW_exit ?_
        | refine AW_region ?_
        | refine AO_nil ?_
        | refine C_nil ?_
        | (refine R_pv rfl rfl (by omega) (by simp only [Int.reduceLE, Int.reduceLT, Int.reduceNeg, Int.reduceAdd, Int.reduceSub, Int.reduceToNat, Nat.reduceEqDiff, Nat.reduceLeDiff, Nat.reduceLT, Nat.reduceAdd, Nat.reduceSub, Nat.reduceMul, reduceIte, reduceCtorEq, pv, pbin, peq, plen, pload, pcut, pfill, St.ev, St.set, lk, D.ofV, D.cellsOf, InR.i64, InR.u8, ssL, tx, ix, Fact.c, Pair.c, Cond.c, Action.c, Rule.c, Token.c, Match.c, Alpha.c, Node.c, Network.c, Stamp.c, Firing.c, Choice.c, tagg_93, tel_29, tstr_29, tsz_93, wk] <;> rfl) ?_)
        | (refine C_pv rfl rfl (by omega) (by simp only [Int.reduceLE, Int.reduceLT, Int.reduceNeg, Int.reduceAdd, Int.reduceSub, Int.reduceToNat, Nat.reduceEqDiff, Nat.reduceLeDiff, Nat.reduceLT, Nat.reduceAdd, Nat.reduceSub, Nat.reduceMul, reduceIte, reduceCtorEq, pv, pbin, peq, plen, pload, pcut, pfill, St.ev, St.set, lk, D.ofV, D.cellsOf, InR.i64, InR.u8, ssL, tx, ix, Fact.c, Pair.c, Cond.c, Action.c, Rule.c, Token.c, Match.c, Alpha.c, Node.c, Network.c, Stamp.c, Firing.c, Choice.c, tagg_93, tel_29, tstr_29, tsz_93, wk] <;> rfl) ?_)
      refine ⟨hlt, rfl, ?_, by rw [take_snoc hx, take_snoc hy, hI, c2]⟩
      simp only [St.trim, Int.reduceLE, Int.reduceLT, Int.reduceNeg, Int.reduceAdd, Int.reduceSub, Int.reduceToNat, Nat.reduceEqDiff, Nat.reduceLeDiff, Nat.reduceLT, Nat.reduceAdd, Nat.reduceSub, Nat.reduceMul, reduceIte, reduceCtorEq, pv, pbin, peq, plen, pload, pcut, pfill, St.ev, St.set, lk, D.ofV, D.cellsOf, InR.i64, InR.u8, ssL, tx, ix, Fact.c, Pair.c, Cond.c, Action.c, Rule.c, Token.c, Match.c, Alpha.c, Node.c, Network.c, Stamp.c, Firing.c, Choice.c, tagg_93, tel_29, tstr_29, tsz_93]
    · have hd := lt_false hge
      have hkl : k = l.length := by omega
      subst hkl
      have hlm : l = m := by rw [List.take_length, c1, List.take_length] at hI; exact hI
      repeat' first
        | refine thenQ_normal ?_
        | refine thenQ_ret ?_
        | refine thenQ_exit ?_
        | refine blockQ_normal ?_
        | refine blockQ_ret ?_
        | refine blockQ_exit ?_
        | refine blockQ_pass rfl ?_
        | refine AW_seq ?_
        | refine AW_block ?_
        | refine AW_skip ?_
        | refine AW_ret ?_
        | refine AW_exit ?_
        | refine AW_region ?_
        | refine AO_nil ?_
        | refine C_nil ?_
        | (refine R_pv rfl rfl (by omega) (by simp only [Int.reduceLE, Int.reduceLT, Int.reduceNeg, Int.reduceAdd, Int.reduceSub, Int.reduceToNat, Nat.reduceEqDiff, Nat.reduceLeDiff, Nat.reduceLT, Nat.reduceAdd, Nat.reduceSub, Nat.reduceMul, reduceIte, reduceCtorEq, pv, pbin, peq, plen, pload, pcut, pfill, St.ev, St.set, lk, D.ofV, D.cellsOf, InR.i64, InR.u8, ssL, tx, ix, Fact.c, Pair.c, Cond.c, Action.c, Rule.c, Token.c, Match.c, Alpha.c, Node.c, Network.c, Stamp.c, Firing.c, Choice.c, tagg_93, tel_29, tstr_29, tsz_93, hd] <;> rfl) ?_)
        | (refine C_pv rfl rfl (by omega) (by simp only [Int.reduceLE, Int.reduceLT, Int.reduceNeg, Int.reduceAdd, Int.reduceSub, Int.reduceToNat, Nat.reduceEqDiff, Nat.reduceLeDiff, Nat.reduceLT, Nat.reduceAdd, Nat.reduceSub, Nat.reduceMul, reduceIte, reduceCtorEq, pv, pbin, peq, plen, pload, pcut, pfill, St.ev, St.set, lk, D.ofV, D.cellsOf, InR.i64, InR.u8, ssL, tx, ix, Fact.c, Pair.c, Cond.c, Action.c, Rule.c, Token.c, Match.c, Alpha.c, Node.c, Network.c, Stamp.c, Firing.c, Choice.c, tagg_93, tel_29, tstr_29, tsz_93, hd] <;> rfl) ?_)
      refine W_false (by simp only [Int.reduceLE, Int.reduceLT, Int.reduceNeg, Int.reduceAdd, Int.reduceSub, Int.reduceToNat, Nat.reduceEqDiff, Nat.reduceLeDiff, Nat.reduceLT, Nat.reduceAdd, Nat.reduceSub, Nat.reduceMul, reduceIte, reduceCtorEq, pv, pbin, peq, plen, pload, pcut, pfill, St.ev, St.set, lk, D.ofV, D.cellsOf, InR.i64, InR.u8, ssL, tx, ix, Fact.c, Pair.c, Cond.c, Action.c, Rule.c, Token.c, Match.c, Alpha.c, Node.c, Network.c, Stamp.c, Firing.c, Choice.c, tagg_93, tel_29, tstr_29, tsz_93, hd] <;> rfl) ?_
      repeat' first
        | refine thenQ_normal ?_
        | refine thenQ_ret ?_
        | refine thenQ_exit ?_
        | refine blockQ_normal ?_
        | refine blockQ_ret ?_
        | refine blockQ_exit ?_
        | refine blockQ_pass rfl ?_
        | refine AW_seq ?_
        | refine AW_block ?_
        | refine AW_skip ?_
        | refine AW_ret ?_
        | refine AW_exit ?_
        | refine AW_region ?_
        | refine AO_nil ?_
        | refine C_nil ?_
        | (refine R_pv rfl rfl (by omega) (by simp only [Int.reduceLE, Int.reduceLT, Int.reduceNeg, Int.reduceAdd, Int.reduceSub, Int.reduceToNat, Nat.reduceEqDiff, Nat.reduceLeDiff, Nat.reduceLT, Nat.reduceAdd, Nat.reduceSub, Nat.reduceMul, reduceIte, reduceCtorEq, pv, pbin, peq, plen, pload, pcut, pfill, St.ev, St.set, lk, D.ofV, D.cellsOf, InR.i64, InR.u8, ssL, tx, ix, Fact.c, Pair.c, Cond.c, Action.c, Rule.c, Token.c, Match.c, Alpha.c, Node.c, Network.c, Stamp.c, Firing.c, Choice.c, tagg_93, tel_29, tstr_29, tsz_93] <;> rfl) ?_)
        | (refine C_pv rfl rfl (by omega) (by simp only [Int.reduceLE, Int.reduceLT, Int.reduceNeg, Int.reduceAdd, Int.reduceSub, Int.reduceToNat, Nat.reduceEqDiff, Nat.reduceLeDiff, Nat.reduceLT, Nat.reduceAdd, Nat.reduceSub, Nat.reduceMul, reduceIte, reduceCtorEq, pv, pbin, peq, plen, pload, pcut, pfill, St.ev, St.set, lk, D.ofV, D.cellsOf, InR.i64, InR.u8, ssL, tx, ix, Fact.c, Pair.c, Cond.c, Action.c, Rule.c, Token.c, Match.c, Alpha.c, Node.c, Network.c, Stamp.c, Firing.c, Choice.c, tagg_93, tel_29, tstr_29, tsz_93] <;> rfl) ?_)
      exact RetQ_ret (by simp only [Try.f16, resDs, resD, Int.reduceLE, Int.reduceLT, Int.reduceNeg, Int.reduceAdd, Int.reduceSub, Int.reduceToNat, Nat.reduceEqDiff, Nat.reduceLeDiff, Nat.reduceLT, Nat.reduceAdd, Nat.reduceSub, Nat.reduceMul, reduceIte, reduceCtorEq, pv, pbin, peq, plen, pload, pcut, pfill, St.ev, St.set, lk, D.ofV, D.cellsOf, InR.i64, InR.u8, ssL, tx, ix, Fact.c, Pair.c, Cond.c, Action.c, Rule.c, Token.c, Match.c, Alpha.c, Node.c, Network.c, Stamp.c, Firing.c, Choice.c, tagg_93, tel_29, tstr_29, tsz_93] <;> rfl) rfl (by simp only [packD]; rw [decide_eq_true hlm])

end Go.Bx
