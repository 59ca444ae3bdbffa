/- Equality of texts and facts, in the program and in the reference. No condition. -/
import Derived.Test.YtnagcfnebfhnhaaData
import Derived.Test.YtnagcfnebfhnhaaTy
import Derived.KernelRfl
namespace Go.Bx
open Go.RowKit Go.Proofs
set_option linter.unusedSimpArgs false in
set_option maxRecDepth 100000 in
set_option maxHeartbeats 1000000 in
theorem l1SameTexts_good (l m : List Bytes) : Good Try.prog 90 [.sl (l.map tx), .sl (m.map tx)] (.bool (decide (l = m))) := by
  refine Good.of Try.func90 rfl (by decide) (by simp [Try.f90]) ?_
  intro hr Γ hΓ
  have hΓ : Γ.nt = 26 := hΓ
  simp only [args0]
  have hl : l.length ≤ maxLen := (hr (.sl (l.map tx)) (List.mem_cons_self ..)).len
  by_cases c1 : l.length = m.length
  case neg =>
    have d1 : ((l.length : Int) != (m.length : Int)) = true := by simp; omega
    repeat' first
      | refine thenQ_normal ?_
      | refine thenQ_ret ?_
      | refine thenQ_exit ?_
      | refine blockQ_normal ?_
      | refine blockQ_ret ?_
      | refine blockQ_exit ?_
      | refine blockQ_pass rfl ?_
      | refine AW_seq ?_
      | refine AW_block ?_
      | refine AW_skip ?_
      | refine AW_ret ?_
      | refine AW_exit ?_
      | refine AW_region ?_
      | refine AO_nil ?_
      | refine C_nil ?_
      | (refine R_pv rfl rfl (by omega) (by simp only [Int.reduceLE, Int.reduceLT, Int.reduceNeg, Int.reduceAdd, Int.reduceSub, Int.reduceToNat, Nat.reduceEqDiff, Nat.reduceLeDiff, Nat.reduceLT, Nat.reduceAdd, Nat.reduceSub, Nat.reduceMul, reduceIte, reduceCtorEq, pv, pbin, peq, plen, pload, pcut, pfill, St.ev, St.set, lk, D.ofV, D.cellsOf, InR.i64, InR.u8, ssL, tx, ix, Fact.c, Pair.c, Cond.c, Action.c, Rule.c, Token.c, Match.c, Alpha.c, Node.c, Network.c, Stamp.c, Firing.c, Choice.c, tagg_9, tel_23, tstr_23, tsz_9, d1] <;> rfl) ?_)
      | (refine C_pv rfl rfl (by omega) (by simp only [Int.reduceLE, Int.reduceLT, Int.reduceNeg, Int.reduceAdd, Int.reduceSub, Int.reduceToNat, Nat.reduceEqDiff, Nat.reduceLeDiff, Nat.reduceLT, Nat.reduceAdd, Nat.reduceSub, Nat.reduceMul, reduceIte, reduceCtorEq, pv, pbin, peq, plen, pload, pcut, pfill, St.ev, St.set, lk, D.ofV, D.cellsOf, InR.i64, InR.u8, ssL, tx, ix, Fact.c, Pair.c, Cond.c, Action.c, Rule.c, Token.c, Match.c, Alpha.c, Node.c, Network.c, Stamp.c, Firing.c, Choice.c, tagg_9, tel_23, tstr_23, tsz_9, d1] <;> rfl) ?_)
    refine W_true (by simp only [Int.reduceLE, Int.reduceLT, Int.reduceNeg, Int.reduceAdd, Int.reduceSub, Int.reduceToNat, Nat.reduceEqDiff, Nat.reduceLeDiff, Nat.reduceLT, Nat.reduceAdd, Nat.reduceSub, Nat.reduceMul, reduceIte, reduceCtorEq, pv, pbin, peq, plen, pload, pcut, pfill, St.ev, St.set, lk, D.ofV, D.cellsOf, InR.i64, InR.u8, ssL, tx, ix, Fact.c, Pair.c, Cond.c, Action.c, Rule.c, Token.c, Match.c, Alpha.c, Node.c, Network.c, Stamp.c, Firing.c, Choice.c, tagg_9, tel_23, tstr_23, tsz_9, d1] <;> rfl) ?_
    repeat' first
      | refine thenQ_normal ?_
      | refine thenQ_ret ?_
      | refine thenQ_exit ?_
      | refine blockQ_normal ?_
      | refine blockQ_ret ?_
      | refine blockQ_exit ?_
      | refine blockQ_pass rfl ?_
      | refine AW_seq ?_
      | refine AW_block ?_
      | refine AW_skip ?_
      | refine AW_ret ?_
      | refine AW_exit ?_
      | refine AW_region ?_
      | refine AO_nil ?_
      | refine C_nil ?_
      | (refine R_pv rfl rfl (by omega) (by simp only [Int.reduceLE, Int.reduceLT, Int.reduceNeg, Int.reduceAdd, Int.reduceSub, Int.reduceToNat, Nat.reduceEqDiff, Nat.reduceLeDiff, Nat.reduceLT, Nat.reduceAdd, Nat.reduceSub, Nat.reduceMul, reduceIte, reduceCtorEq, pv, pbin, peq, plen, pload, pcut, pfill, St.ev, St.set, lk, D.ofV, D.cellsOf, InR.i64, InR.u8, ssL, tx, ix, Fact.c, Pair.c, Cond.c, Action.c, Rule.c, Token.c, Match.c, Alpha.c, Node.c, Network.c, Stamp.c, Firing.c, Choice.c, tagg_9, tel_23, tstr_23, tsz_9] <;> rfl) ?_)
      | (refine C_pv rfl rfl (by omega) (by simp only [Int.reduceLE, Int.reduceLT, Int.reduceNeg, Int.reduceAdd, Int.reduceSub, Int.reduceToNat, Nat.reduceEqDiff, Nat.reduceLeDiff, Nat.reduceLT, Nat.reduceAdd, Nat.reduceSub, Nat.reduceMul, reduceIte, reduceCtorEq, pv, pbin, peq, plen, pload, pcut, pfill, St.ev, St.set, lk, D.ofV, D.cellsOf, InR.i64, InR.u8, ssL, tx, ix, Fact.c, Pair.c, Cond.c, Action.c, Rule.c, Token.c, Match.c, Alpha.c, Node.c, Network.c, Stamp.c, Firing.c, Choice.c, tagg_9, tel_23, tstr_23, tsz_9] <;> rfl) ?_)
    exact RetQ_ret (by simp only [Try.f90, resDs, resD, Int.reduceLE, Int.reduceLT, Int.reduceNeg, Int.reduceAdd, Int.reduceSub, Int.reduceToNat, Nat.reduceEqDiff, Nat.reduceLeDiff, Nat.reduceLT, Nat.reduceAdd, Nat.reduceSub, Nat.reduceMul, reduceIte, reduceCtorEq, pv, pbin, peq, plen, pload, pcut, pfill, St.ev, St.set, lk, D.ofV, D.cellsOf, InR.i64, InR.u8, ssL, tx, ix, Fact.c, Pair.c, Cond.c, Action.c, Rule.c, Token.c, Match.c, Alpha.c, Node.c, Network.c, Stamp.c, Firing.c, Choice.c, tagg_9, tel_23, tstr_23, tsz_9] <;> rfl) rfl (by simp only [packD]; rw [decide_eq_false (fun h => c1 (by rw [h]))])
  have d1 : ((l.length : Int) != (m.length : Int)) = false := by simp; omega
  repeat' first
    | refine thenQ_normal ?_
    | refine thenQ_ret ?_
    | refine thenQ_exit ?_
    | refine blockQ_normal ?_
    | refine blockQ_ret ?_
    | refine blockQ_exit ?_
    | refine blockQ_pass rfl ?_
    | refine AW_seq ?_
    | refine AW_block ?_
    | refine AW_skip ?_
    | refine AW_ret ?_
    | refine AW_exit ?_
    | refine AW_region ?_
    | refine AO_nil ?_
    | refine C_nil ?_
    | (refine R_pv rfl rfl (by omega) (by simp only [Int.reduceLE, Int.reduceLT, Int.reduceNeg, Int.reduceAdd, Int.reduceSub, Int.reduceToNat, Nat.reduceEqDiff, Nat.reduceLeDiff, Nat.reduceLT, Nat.reduceAdd, Nat.reduceSub, Nat.reduceMul, reduceIte, reduceCtorEq, pv, pbin, peq, plen, pload, pcut, pfill, St.ev, St.set, lk, D.ofV, D.cellsOf, InR.i64, InR.u8, ssL, tx, ix, Fact.c, Pair.c, Cond.c, Action.c, Rule.c, Token.c, Match.c, Alpha.c, Node.c, Network.c, Stamp.c, Firing.c, Choice.c, tagg_9, tel_23, tstr_23, tsz_9, d1] <;> rfl) ?_)
    | (refine C_pv rfl rfl (by omega) (by simp only [Int.reduceLE, Int.reduceLT, Int.reduceNeg, Int.reduceAdd, Int.reduceSub, Int.reduceToNat, Nat.reduceEqDiff, Nat.reduceLeDiff, Nat.reduceLT, Nat.reduceAdd, Nat.reduceSub, Nat.reduceMul, reduceIte, reduceCtorEq, pv, pbin, peq, plen, pload, pcut, pfill, St.ev, St.set, lk, D.ofV, D.cellsOf, InR.i64, InR.u8, ssL, tx, ix, Fact.c, Pair.c, Cond.c, Action.c, Rule.c, Token.c, Match.c, Alpha.c, Node.c, Network.c, Stamp.c, Firing.c, Choice.c, tagg_9, tel_23, tstr_23, tsz_9, d1] <;> rfl) ?_)
  refine W_false (by simp only [Int.reduceLE, Int.reduceLT, Int.reduceNeg, Int.reduceAdd, Int.reduceSub, Int.reduceToNat, Nat.reduceEqDiff, Nat.reduceLeDiff, Nat.reduceLT, Nat.reduceAdd, Nat.reduceSub, Nat.reduceMul, reduceIte, reduceCtorEq, pv, pbin, peq, plen, pload, pcut, pfill, St.ev, St.set, lk, D.ofV, D.cellsOf, InR.i64, InR.u8, ssL, tx, ix, Fact.c, Pair.c, Cond.c, Action.c, Rule.c, Token.c, Match.c, Alpha.c, Node.c, Network.c, Stamp.c, Firing.c, Choice.c, tagg_9, tel_23, tstr_23, tsz_9, d1] <;> rfl) ?_
  repeat' first
    | refine thenQ_normal ?_
    | refine thenQ_ret ?_
    | refine thenQ_exit ?_
    | refine blockQ_normal ?_
    | refine blockQ_ret ?_
    | refine blockQ_exit ?_
    | refine blockQ_pass rfl ?_
    | refine AW_seq ?_
    | refine AW_block ?_
    | refine AW_skip ?_
    | refine AW_ret ?_
    | refine AW_exit ?_
    | refine AW_region ?_
    | refine AO_nil ?_
    | refine C_nil ?_
    | (refine R_pv rfl rfl (by omega) (by simp only [Int.reduceLE, Int.reduceLT, Int.reduceNeg, Int.reduceAdd, Int.reduceSub, Int.reduceToNat, Nat.reduceEqDiff, Nat.reduceLeDiff, Nat.reduceLT, Nat.reduceAdd, Nat.reduceSub, Nat.reduceMul, reduceIte, reduceCtorEq, pv, pbin, peq, plen, pload, pcut, pfill, St.ev, St.set, lk, D.ofV, D.cellsOf, InR.i64, InR.u8, ssL, tx, ix, Fact.c, Pair.c, Cond.c, Action.c, Rule.c, Token.c, Match.c, Alpha.c, Node.c, Network.c, Stamp.c, Firing.c, Choice.c, tagg_9, tel_23, tstr_23, tsz_9] <;> rfl) ?_)
    | (refine C_pv rfl rfl (by omega) (by simp only [Int.reduceLE, Int.reduceLT, Int.reduceNeg, Int.reduceAdd, Int.reduceSub, Int.reduceToNat, Nat.reduceEqDiff, Nat.reduceLeDiff, Nat.reduceLT, Nat.reduceAdd, Nat.reduceSub, Nat.reduceMul, reduceIte, reduceCtorEq, pv, pbin, peq, plen, pload, pcut, pfill, St.ev, St.set, lk, D.ofV, D.cellsOf, InR.i64, InR.u8, ssL, tx, ix, Fact.c, Pair.c, Cond.c, Action.c, Rule.c, Token.c, Match.c, Alpha.c, Node.c, Network.c, Stamp.c, Firing.c, Choice.c, tagg_9, tel_23, tstr_23, tsz_9] <;> rfl) ?_)
  refine W_for [0, 1, 5] 0 (fun k => ⟨[(0, .sl (l.map tx)), (1, .sl (m.map tx)), (5, .int .i64 (k : Nat))], []⟩)
    (fun k => l.take k = m.take k) l.length rfl ?_ rfl ?_
  · simp only [St.trim, Int.reduceLE, Int.reduceLT, Int.reduceNeg, Int.reduceAdd, Int.reduceSub, Int.reduceToNat, Nat.reduceEqDiff, Nat.reduceLeDiff, Nat.reduceLT, Nat.reduceAdd, Nat.reduceSub, Nat.reduceMul, reduceIte, reduceCtorEq, pv, pbin, peq, plen, pload, pcut, pfill, St.ev, St.set, lk, D.ofV, D.cellsOf, InR.i64, InR.u8, ssL, tx, ix, Fact.c, Pair.c, Cond.c, Action.c, Rule.c, Token.c, Match.c, Alpha.c, Node.c, Network.c, Stamp.c, Firing.c, Choice.c, tagg_9, tel_23, tstr_23, tsz_9]
  · intro k hk hI
    rcases Nat.lt_or_ge k l.length with hlt | hge
    · obtain ⟨x, hx⟩ := getx hlt
      obtain ⟨y, hy⟩ := getx (l := m) (k := k) (by omega)
      have hd := lt_true hlt
      have wk := wrap_succ hlt hl
      by_cases c2 : x = y
      case neg =>
        have d2 : (!(x == y)) = true := by simp [c2]
        repeat' first
          | refine thenQ_normal ?_
          | refine thenQ_ret ?_
          | refine thenQ_exit ?_
          | refine blockQ_normal ?_
          | refine blockQ_ret ?_
          | refine blockQ_exit ?_
          | refine blockQ_pass rfl ?_
          | refine AW_seq ?_
          | refine AW_block ?_
          | refine AW_skip ?_
          | refine AW_ret ?_
          | refine AW_exit ?_
          | refine AW_region ?_
          | refine AO_nil ?_
          | refine C_nil ?_
          | (refine R_pv rfl rfl (by omega) (by simp only [Int.reduceLE, Int.reduceLT, Int.reduceNeg, Int.reduceAdd, Int.reduceSub, Int.reduceToNat, Nat.reduceEqDiff, Nat.reduceLeDiff, Nat.reduceLT, Nat.reduceAdd, Nat.reduceSub, Nat.reduceMul, reduceIte, reduceCtorEq, pv, pbin, peq, plen, pload, pcut, pfill, St.ev, St.set, lk, D.ofV, D.cellsOf, InR.i64, InR.u8, ssL, tx, ix, Fact.c, Pair.c, Cond.c, Action.c, Rule.c, Token.c, Match.c, Alpha.c, Node.c, Network.c, Stamp.c, Firing.c, Choice.c, tagg_9, tel_23, tstr_23, tsz_9, hd, hx, hy, wk, d2] <;> rfl) ?_)
          | (refine C_pv rfl rfl (by omega) (by simp only [Int.reduceLE, Int.reduceLT, Int.reduceNeg, Int.reduceAdd, Int.reduceSub, Int.reduceToNat, Nat.reduceEqDiff, Nat.reduceLeDiff, Nat.reduceLT, Nat.reduceAdd, Nat.reduceSub, Nat.reduceMul, reduceIte, reduceCtorEq, pv, pbin, peq, plen, pload, pcut, pfill, St.ev, St.set, lk, D.ofV, D.cellsOf, InR.i64, InR.u8, ssL, tx, ix, Fact.c, Pair.c, Cond.c, Action.c, Rule.c, Token.c, Match.c, Alpha.c, Node.c, Network.c, Stamp.c, Firing.c, Choice.c, tagg_9, tel_23, tstr_23, tsz_9, hd, hx, hy, wk, d2] <;> rfl) ?_)
        refine W_true (by simp only [Int.reduceLE, Int.reduceLT, Int.reduceNeg, Int.reduceAdd, Int.reduceSub, Int.reduceToNat, Nat.reduceEqDiff, Nat.reduceLeDiff, Nat.reduceLT, Nat.reduceAdd, Nat.reduceSub, Nat.reduceMul, reduceIte, reduceCtorEq, pv, pbin, peq, plen, pload, pcut, pfill, St.ev, St.set, lk, D.ofV, D.cellsOf, InR.i64, InR.u8, ssL, tx, ix, Fact.c, Pair.c, Cond.c, Action.c, Rule.c, Token.c, Match.c, Alpha.c, Node.c, Network.c, Stamp.c, Firing.c, Choice.c, tagg_9, tel_23, tstr_23, tsz_9, hd] <;> rfl) ?_
        repeat' first
          | refine thenQ_normal ?_
          | refine thenQ_ret ?_
          | refine thenQ_exit ?_
          | refine blockQ_normal ?_
          | refine blockQ_ret ?_
          | refine blockQ_exit ?_
          | refine blockQ_pass rfl ?_
          | refine AW_seq ?_
          | refine AW_block ?_
          | refine AW_skip ?_
          | refine AW_ret ?_
          | refine AW_exit ?_
          | refine AW_region ?_
          | refine AO_nil ?_
          | refine C_nil ?_
          | (refine R_pv rfl rfl (by omega) (by simp only [Int.reduceLE, Int.reduceLT, Int.reduceNeg, Int.reduceAdd, Int.reduceSub, Int.reduceToNat, Nat.reduceEqDiff, Nat.reduceLeDiff, Nat.reduceLT, Nat.reduceAdd, Nat.reduceSub, Nat.reduceMul, reduceIte, reduceCtorEq, pv, pbin, peq, plen, pload, pcut, pfill, St.ev, St.set, lk, D.ofV, D.cellsOf, InR.i64, InR.u8, ssL, tx, ix, Fact.c, Pair.c, Cond.c, Action.c, Rule.c, Token.c, Match.c, Alpha.c, Node.c, Network.c, Stamp.c, Firing.c, Choice.c, tagg_9, tel_23, tstr_23, tsz_9, hd, hx, hy, wk, d2] <;> rfl) ?_)
          | (refine C_pv rfl rfl (by omega) (by simp only [Int.reduceLE, Int.reduceLT, Int.reduceNeg, Int.reduceAdd, Int.reduceSub, Int.reduceToNat, Nat.reduceEqDiff, Nat.reduceLeDiff, Nat.reduceLT, Nat.reduceAdd, Nat.reduceSub, Nat.reduceMul, reduceIte, reduceCtorEq, pv, pbin, peq, plen, pload, pcut, pfill, St.ev, St.set, lk, D.ofV, D.cellsOf, InR.i64, InR.u8, ssL, tx, ix, Fact.c, Pair.c, Cond.c, Action.c, Rule.c, Token.c, Match.c, Alpha.c, Node.c, Network.c, Stamp.c, Firing.c, Choice.c, tagg_9, tel_23, tstr_23, tsz_9, hd, hx, hy, wk, d2] <;> rfl) ?_)
        refine W_draw 8 (by kernel_rfl) (by kernel_rfl) rfl rfl ?_
        repeat' first
          | refine thenQ_normal ?_
          | refine thenQ_ret ?_
          | refine thenQ_exit ?_
          | refine blockQ_normal ?_
          | refine blockQ_ret ?_
          | refine blockQ_exit ?_
          | refine blockQ_pass rfl ?_
          | refine AW_seq ?_
          | refine AW_block ?_
          | refine AW_skip ?_
          | refine AW_ret ?_
          | refine AW_exit ?_
          | refine AW_region ?_
          | refine AO_nil ?_
          | refine C_nil ?_
          | (refine R_pv rfl rfl (by omega) (by simp only [Int.reduceLE, Int.reduceLT, Int.reduceNeg, Int.reduceAdd, Int.reduceSub, Int.reduceToNat, Nat.reduceEqDiff, Nat.reduceLeDiff, Nat.reduceLT, Nat.reduceAdd, Nat.reduceSub, Nat.reduceMul, reduceIte, reduceCtorEq, pv, pbin, peq, plen, pload, pcut, pfill, St.ev, St.set, lk, D.ofV, D.cellsOf, InR.i64, InR.u8, ssL, tx, ix, Fact.c, Pair.c, Cond.c, Action.c, Rule.c, Token.c, Match.c, Alpha.c, Node.c, Network.c, Stamp.c, Firing.c, Choice.c, tagg_9, tel_23, tstr_23, tsz_9, hd, hx, hy, wk, d2] <;> rfl) ?_)
          | (refine C_pv rfl rfl (by omega) (by simp only [Int.reduceLE, Int.reduceLT, Int.reduceNeg, Int.reduceAdd, Int.reduceSub, Int.reduceToNat, Nat.reduceEqDiff, Nat.reduceLeDiff, Nat.reduceLT, Nat.reduceAdd, Nat.reduceSub, Nat.reduceMul, reduceIte, reduceCtorEq, pv, pbin, peq, plen, pload, pcut, pfill, St.ev, St.set, lk, D.ofV, D.cellsOf, InR.i64, InR.u8, ssL, tx, ix, Fact.c, Pair.c, Cond.c, Action.c, Rule.c, Token.c, Match.c, Alpha.c, Node.c, Network.c, Stamp.c, Firing.c, Choice.c, tagg_9, tel_23, tstr_23, tsz_9, hd, hx, hy, wk, d2] <;> rfl) ?_)
        refine W_true (by simp only [Int.reduceLE, Int.reduceLT, Int.reduceNeg, Int.reduceAdd, Int.reduceSub, Int.reduceToNat, Nat.reduceEqDiff, Nat.reduceLeDiff, Nat.reduceLT, Nat.reduceAdd, Nat.reduceSub, Nat.reduceMul, reduceIte, reduceCtorEq, pv, pbin, peq, plen, pload, pcut, pfill, St.ev, St.set, lk, D.ofV, D.cellsOf, InR.i64, InR.u8, ssL, tx, ix, Fact.c, Pair.c, Cond.c, Action.c, Rule.c, Token.c, Match.c, Alpha.c, Node.c, Network.c, Stamp.c, Firing.c, Choice.c, tagg_9, tel_23, tstr_23, tsz_9, d2] <;> rfl) ?_
        repeat' first
          | refine thenQ_normal ?_
          | refine thenQ_ret ?_
          | refine thenQ_exit ?_
          | refine blockQ_normal ?_
          | refine blockQ_ret ?_
          | refine blockQ_exit ?_
          | refine blockQ_pass rfl ?_
          | refine AW_seq ?_
          | refine AW_block ?_
          | refine AW_skip ?_
          | refine AW_ret ?_
          | refine AW_exit ?_
          | refine AW_region ?_
          | refine AO_nil ?_
          | refine C_nil ?_
          | (refine R_pv rfl rfl (by omega) (by simp only [Int.reduceLE, Int.reduceLT, Int.reduceNeg, Int.reduceAdd, Int.reduceSub, Int.reduceToNat, Nat.reduceEqDiff, Nat.reduceLeDiff, Nat.reduceLT, Nat.reduceAdd, Nat.reduceSub, Nat.reduceMul, reduceIte, reduceCtorEq, pv, pbin, peq, plen, pload, pcut, pfill, St.ev, St.set, lk, D.ofV, D.cellsOf, InR.i64, InR.u8, ssL, tx, ix, Fact.c, Pair.c, Cond.c, Action.c, Rule.c, Token.c, Match.c, Alpha.c, Node.c, Network.c, Stamp.c, Firing.c, Choice.c, tagg_9, tel_23, tstr_23, tsz_9] <;> rfl) ?_)
          | (refine C_pv rfl rfl (by omega) (by simp only [Int.reduceLE, Int.reduceLT, Int.reduceNeg, Int.reduceAdd, Int.reduceSub, Int.reduceToNat, Nat.reduceEqDiff, Nat.reduceLeDiff, Nat.reduceLT, Nat.reduceAdd, Nat.reduceSub, Nat.reduceMul, reduceIte, reduceCtorEq, pv, pbin, peq, plen, pload, pcut, pfill, St.ev, St.set, lk, D.ofV, D.cellsOf, InR.i64, InR.u8, ssL, tx, ix, Fact.c, Pair.c, Cond.c, Action.c, Rule.c, Token.c, Match.c, Alpha.c, Node.c, Network.c, Stamp.c, Firing.c, Choice.c, tagg_9, tel_23, tstr_23, tsz_9] <;> rfl) ?_)
        exact RetQ_ret (by simp only [Try.f90, resDs, resD, Int.reduceLE, Int.reduceLT, Int.reduceNeg, Int.reduceAdd, Int.reduceSub, Int.reduceToNat, Nat.reduceEqDiff, Nat.reduceLeDiff, Nat.reduceLT, Nat.reduceAdd, Nat.reduceSub, Nat.reduceMul, reduceIte, reduceCtorEq, pv, pbin, peq, plen, pload, pcut, pfill, St.ev, St.set, lk, D.ofV, D.cellsOf, InR.i64, InR.u8, ssL, tx, ix, Fact.c, Pair.c, Cond.c, Action.c, Rule.c, Token.c, Match.c, Alpha.c, Node.c, Network.c, Stamp.c, Firing.c, Choice.c, tagg_9, tel_23, tstr_23, tsz_9] <;> rfl) rfl (by simp only [packD]; rw [decide_eq_false (fun h => c2 (by rw [h, hy] at hx; exact (Option.some.inj hx).symm))])
      have d2 : (!(x == y)) = false := by simp [c2]
      repeat' first
        | refine thenQ_normal ?_
        | refine thenQ_ret ?_
        | refine thenQ_exit ?_
        | refine blockQ_normal ?_
        | refine blockQ_ret ?_
        | refine blockQ_exit ?_
        | refine blockQ_pass rfl ?_
        | refine AW_seq ?_
        | refine AW_block ?_
        | refine AW_skip ?_
        | refine AW_ret ?_
        | refine AW_exit ?_
        | refine AW_region ?_
        | refine AO_nil ?_
        | refine C_nil ?_
        | (refine R_pv rfl rfl (by omega) (by simp only [Int.reduceLE, Int.reduceLT, Int.reduceNeg, Int.reduceAdd, Int.reduceSub, Int.reduceToNat, Nat.reduceEqDiff, Nat.reduceLeDiff, Nat.reduceLT, Nat.reduceAdd, Nat.reduceSub, Nat.reduceMul, reduceIte, reduceCtorEq, pv, pbin, peq, plen, pload, pcut, pfill, St.ev, St.set, lk, D.ofV, D.cellsOf, InR.i64, InR.u8, ssL, tx, ix, Fact.c, Pair.c, Cond.c, Action.c, Rule.c, Token.c, Match.c, Alpha.c, Node.c, Network.c, Stamp.c, Firing.c, Choice.c, tagg_9, tel_23, tstr_23, tsz_9, hd, hx, hy, wk, d2] <;> rfl) ?_)
        | (refine C_pv rfl rfl (by omega) (by simp only [Int.reduceLE, Int.reduceLT, Int.reduceNeg, Int.reduceAdd, Int.reduceSub, Int.reduceToNat, Nat.reduceEqDiff, Nat.reduceLeDiff, Nat.reduceLT, Nat.reduceAdd, Nat.reduceSub, Nat.reduceMul, reduceIte, reduceCtorEq, pv, pbin, peq, plen, pload, pcut, pfill, St.ev, St.set, lk, D.ofV, D.cellsOf, InR.i64, InR.u8, ssL, tx, ix, Fact.c, Pair.c, Cond.c, Action.c, Rule.c, Token.c, Match.c, Alpha.c, Node.c, Network.c, Stamp.c, Firing.c, Choice.c, tagg_9, tel_23, tstr_23, tsz_9, hd, hx, hy, wk, d2] <;> rfl) ?_)
      refine W_true (by simp only [Int.reduceLE, Int.reduceLT, Int.reduceNeg, Int.reduceAdd, Int.reduceSub, Int.reduceToNat, Nat.reduceEqDiff, Nat.reduceLeDiff, Nat.reduceLT, Nat.reduceAdd, Nat.reduceSub, Nat.reduceMul, reduceIte, reduceCtorEq, pv, pbin, peq, plen, pload, pcut, pfill, St.ev, St.set, lk, D.ofV, D.cellsOf, InR.i64, InR.u8, ssL, tx, ix, Fact.c, Pair.c, Cond.c, Action.c, Rule.c, Token.c, Match.c, Alpha.c, Node.c, Network.c, Stamp.c, Firing.c, Choice.c, tagg_9, tel_23, tstr_23, tsz_9, hd] <;> rfl) ?_
      repeat' first
        | refine thenQ_normal ?_
        | refine thenQ_ret ?_
        | refine thenQ_exit ?_
        | refine blockQ_normal ?_
        | refine blockQ_ret ?_
        | refine blockQ_exit ?_
        | refine blockQ_pass rfl ?_
        | refine AW_seq ?_
        | refine AW_block ?_
        | refine AW_skip ?_
        | refine AW_ret ?_
        | refine AW_exit ?_
        | refine AW_region ?_
        | refine AO_nil ?_
        | refine C_nil ?_
        | (refine R_pv rfl rfl (by omega) (by simp only [Int.reduceLE, Int.reduceLT, Int.reduceNeg, Int.reduceAdd, Int.reduceSub, Int.reduceToNat, Nat.reduceEqDiff, Nat.reduceLeDiff, Nat.reduceLT, Nat.reduceAdd, Nat.reduceSub, Nat.reduceMul, reduceIte, reduceCtorEq, pv, pbin, peq, plen, pload, pcut, pfill, St.ev, St.set, lk, D.ofV, D.cellsOf, InR.i64, InR.u8, ssL, tx, ix, Fact.c, Pair.c, Cond.c, Action.c, Rule.c, Token.c, Match.c, Alpha.c, Node.c, Network.c, Stamp.c, Firing.c, Choice.c, tagg_9, tel_23, tstr_23, tsz_9, hd, hx, hy, wk, d2] <;> rfl) ?_)
        | (refine C_pv rfl rfl (by omega) (by simp only [Int.reduceLE, Int.reduceLT, Int.reduceNeg, Int.reduceAdd, Int.reduceSub, Int.reduceToNat, Nat.reduceEqDiff, Nat.reduceLeDiff, Nat.reduceLT, Nat.reduceAdd, Nat.reduceSub, Nat.reduceMul, reduceIte, reduceCtorEq, pv, pbin, peq, plen, pload, pcut, pfill, St.ev, St.set, lk, D.ofV, D.cellsOf, InR.i64, InR.u8, ssL, tx, ix, Fact.c, Pair.c, Cond.c, Action.c, Rule.c, Token.c, Match.c, Alpha.c, Node.c, Network.c, Stamp.c, Firing.c, Choice.c, tagg_9, tel_23, tstr_23, tsz_9, hd, hx, hy, wk, d2] <;> rfl) ?_)
      refine W_draw 8 (by kernel_rfl) (by kernel_rfl) rfl rfl ?_
      repeat' first
        | refine thenQ_normal ?_
        | refine thenQ_ret ?_
        | refine thenQ_exit ?_
        | refine blockQ_normal ?_
        | refine blockQ_ret ?_
        | refine blockQ_exit ?_
        | refine blockQ_pass rfl ?_
        | refine AW_seq ?_
        | refine AW_block ?_
        | refine AW_skip ?_
        | refine AW_ret ?_
        | refine AW_exit ?_
        | refine AW_region ?_
        | refine AO_nil ?_
        | refine C_nil ?_
        | (refine R_pv rfl rfl (by omega) (by simp only [Int.reduceLE, Int.reduceLT, Int.reduceNeg, Int.reduceAdd, Int.reduceSub, Int.reduceToNat, Nat.reduceEqDiff, Nat.reduceLeDiff, Nat.reduceLT, Nat.reduceAdd, Nat.reduceSub, Nat.reduceMul, reduceIte, reduceCtorEq, pv, pbin, peq, plen, pload, pcut, pfill, St.ev, St.set, lk, D.ofV, D.cellsOf, InR.i64, InR.u8, ssL, tx, ix, Fact.c, Pair.c, Cond.c, Action.c, Rule.c, Token.c, Match.c, Alpha.c, Node.c, Network.c, Stamp.c, Firing.c, Choice.c, tagg_9, tel_23, tstr_23, tsz_9, hd, hx, hy, wk, d2] <;> rfl) ?_)
        | (refine C_pv rfl rfl (by omega) (by simp only [Int.reduceLE, Int.reduceLT, Int.reduceNeg, Int.reduceAdd, Int.reduceSub, Int.reduceToNat, Nat.reduceEqDiff, Nat.reduceLeDiff, Nat.reduceLT, Nat.reduceAdd, Nat.reduceSub, Nat.reduceMul, reduceIte, reduceCtorEq, pv, pbin, peq, plen, pload, pcut, pfill, St.ev, St.set, lk, D.ofV, D.cellsOf, InR.i64, InR.u8, ssL, tx, ix, Fact.c, Pair.c, Cond.c, Action.c, Rule.c, Token.c, Match.c, Alpha.c, Node.c, Network.c, Stamp.c, Firing.c, Choice.c, tagg_9, tel_23, tstr_23, tsz_9, hd, hx, hy, wk, d2] <;> rfl) ?_)
      refine W_false (by simp only [Int.reduceLE, Int.reduceLT, Int.reduceNeg, Int.reduceAdd, Int.reduceSub, Int.reduceToNat, Nat.reduceEqDiff, Nat.reduceLeDiff, Nat.reduceLT, Nat.reduceAdd, Nat.reduceSub, Nat.reduceMul, reduceIte, reduceCtorEq, pv, pbin, peq, plen, pload, pcut, pfill, St.ev, St.set, lk, D.ofV, D.cellsOf, InR.i64, InR.u8, ssL, tx, ix, Fact.c, Pair.c, Cond.c, Action.c, Rule.c, Token.c, Match.c, Alpha.c, Node.c, Network.c, Stamp.c, Firing.c, Choice.c, tagg_9, tel_23, tstr_23, tsz_9, d2] <;> rfl) ?_
      repeat' first
        | refine thenQ_normal ?_
        | refine thenQ_ret ?_
        | refine thenQ_exit ?_
        | refine blockQ_normal ?_
        | refine blockQ_ret ?_
        | refine blockQ_exit ?_
        | refine blockQ_pass rfl ?_
        | refine AW_seq ?_
        | refine AW_block ?_
        | refine AW_skip ?_
        | refine AW_ret ?_
        | refine AW_exit ?_
        | refine AW_region ?_
        | refine AO_nil ?_
        | refine C_nil ?_
        | (refine R_pv rfl rfl (by omega) (by simp only [Int.reduceLE, Int.reduceLT, Int.reduceNeg, Int.reduceAdd, Int.reduceSub, Int.reduceToNat, Nat.reduceEqDiff, Nat.reduceLeDiff, Nat.reduceLT, Nat.reduceAdd, Nat.reduceSub, Nat.reduceMul, reduceIte, reduceCtorEq, pv, pbin, peq, plen, pload, pcut, pfill, St.ev, St.set, lk, D.ofV, D.cellsOf, InR.i64, InR.u8, ssL, tx, ix, Fact.c, Pair.c, Cond.c, Action.c, Rule.c, Token.c, Match.c, Alpha.c, Node.c, Network.c, Stamp.c, Firing.c, Choice.c, tagg_9, tel_23, tstr_23, tsz_9, wk] <;> rfl) ?_)
        | (refine C_pv rfl rfl (by omega) (by simp only [Int.reduceLE, Int.reduceLT, Int.reduceNeg, Int.reduceAdd, Int.reduceSub, Int.reduceToNat, Nat.reduceEqDiff, Nat.reduceLeDiff, Nat.reduceLT, Nat.reduceAdd, Nat.reduceSub, Nat.reduceMul, reduceIte, reduceCtorEq, pv, pbin, peq, plen, pload, pcut, pfill, St.ev, St.set, lk, D.ofV, D.cellsOf, InR.i64, InR.u8, ssL, tx, ix, Fact.c, Pair.c, Cond.c, Action.c, Rule.c, Token.c, Match.c, Alpha.c, Node.c, Network.c, Stamp.c, Firing.c, Choice.c, tagg_9, tel_23, tstr_23, tsz_9, wk] <;> rfl) ?_)
      refine ⟨hlt, rfl, ?_, by rw [take_snoc hx, take_snoc hy, hI, c2]⟩
      simp only [St.trim, Int.reduceLE, Int.reduceLT, Int.reduceNeg, Int.reduceAdd, Int.reduceSub, Int.reduceToNat, Nat.reduceEqDiff, Nat.reduceLeDiff, Nat.reduceLT, Nat.reduceAdd, Nat.reduceSub, Nat.reduceMul, reduceIte, reduceCtorEq, pv, pbin, peq, plen, pload, pcut, pfill, St.ev, St.set, lk, D.ofV, D.cellsOf, InR.i64, InR.u8, ssL, tx, ix, Fact.c, Pair.c, Cond.c, Action.c, Rule.c, Token.c, Match.c, Alpha.c, Node.c, Network.c, Stamp.c, Firing.c, Choice.c, tagg_9, tel_23, tstr_23, tsz_9]
    · have hd := lt_false hge
      have hkl : k = l.length := by omega
      subst hkl
      have hlm : l = m := by rw [List.take_length, c1, List.take_length] at hI; exact hI
      repeat' first
        | refine thenQ_normal ?_
        | refine thenQ_ret ?_
        | refine thenQ_exit ?_
        | refine blockQ_normal ?_
        | refine blockQ_ret ?_
        | refine blockQ_exit ?_
        | refine blockQ_pass rfl ?_
        | refine AW_seq ?_
        | refine AW_block ?_
        | refine AW_skip ?_
        | refine AW_ret ?_
        | refine AW_exit ?_
        | refine AW_region ?_
        | refine AO_nil ?_
        | refine C_nil ?_
        | (refine R_pv rfl rfl (by omega) (by simp only [Int.reduceLE, Int.reduceLT, Int.reduceNeg, Int.reduceAdd, Int.reduceSub, Int.reduceToNat, Nat.reduceEqDiff, Nat.reduceLeDiff, Nat.reduceLT, Nat.reduceAdd, Nat.reduceSub, Nat.reduceMul, reduceIte, reduceCtorEq, pv, pbin, peq, plen, pload, pcut, pfill, St.ev, St.set, lk, D.ofV, D.cellsOf, InR.i64, InR.u8, ssL, tx, ix, Fact.c, Pair.c, Cond.c, Action.c, Rule.c, Token.c, Match.c, Alpha.c, Node.c, Network.c, Stamp.c, Firing.c, Choice.c, tagg_9, tel_23, tstr_23, tsz_9, hd] <;> rfl) ?_)
        | (refine C_pv rfl rfl (by omega) (by simp only [Int.reduceLE, Int.reduceLT, Int.reduceNeg, Int.reduceAdd, Int.reduceSub, Int.reduceToNat, Nat.reduceEqDiff, Nat.reduceLeDiff, Nat.reduceLT, Nat.reduceAdd, Nat.reduceSub, Nat.reduceMul, reduceIte, reduceCtorEq, pv, pbin, peq, plen, pload, pcut, pfill, St.ev, St.set, lk, D.ofV, D.cellsOf, InR.i64, InR.u8, ssL, tx, ix, Fact.c, Pair.c, Cond.c, Action.c, Rule.c, Token.c, Match.c, Alpha.c, Node.c, Network.c, Stamp.c, Firing.c, Choice.c, tagg_9, tel_23, tstr_23, tsz_9, hd] <;> rfl) ?_)
      refine W_false (by simp only [Int.reduceLE, Int.reduceLT, Int.reduceNeg, Int.reduceAdd, Int.reduceSub, Int.reduceToNat, Nat.reduceEqDiff, Nat.reduceLeDiff, Nat.reduceLT, Nat.reduceAdd, Nat.reduceSub, Nat.reduceMul, reduceIte, reduceCtorEq, pv, pbin, peq, plen, pload, pcut, pfill, St.ev, St.set, lk, D.ofV, D.cellsOf, InR.i64, InR.u8, ssL, tx, ix, Fact.c, Pair.c, Cond.c, Action.c, Rule.c, Token.c, Match.c, Alpha.c, Node.c, Network.c, Stamp.c, Firing.c, Choice.c, tagg_9, tel_23, tstr_23, tsz_9, hd] <;> rfl) ?_
      repeat' first
        | refine thenQ_normal ?_
        | refine thenQ_ret ?_
        | refine thenQ_exit ?_
        | refine blockQ_normal ?_
        | refine blockQ_ret ?_
        | refine blockQ_exit ?_
        | refine blockQ_pass rfl ?_
        | refine AW_seq ?_
        | refine AW_block ?_
        | refine AW_skip ?_
        | refine AW_ret ?_
        | refine AW_exit ?_
        | refine AW_region ?_
        | refine AO_nil ?_
        | refine C_nil ?_
        | (refine R_pv rfl rfl (by omega) (by simp only [Int.reduceLE, Int.reduceLT, Int.reduceNeg, Int.reduceAdd, Int.reduceSub, Int.reduceToNat, Nat.reduceEqDiff, Nat.reduceLeDiff, Nat.reduceLT, Nat.reduceAdd, Nat.reduceSub, Nat.reduceMul, reduceIte, reduceCtorEq, pv, pbin, peq, plen, pload, pcut, pfill, St.ev, St.set, lk, D.ofV, D.cellsOf, InR.i64, InR.u8, ssL, tx, ix, Fact.c, Pair.c, Cond.c, Action.c, Rule.c, Token.c, Match.c, Alpha.c, Node.c, Network.c, Stamp.c, Firing.c, Choice.c, tagg_9, tel_23, tstr_23, tsz_9] <;> rfl) ?_)
        | (refine C_pv rfl rfl (by omega) (by simp only [Int.reduceLE, Int.reduceLT, Int.reduceNeg, Int.reduceAdd, Int.reduceSub, Int.reduceToNat, Nat.reduceEqDiff, Nat.reduceLeDiff, Nat.reduceLT, Nat.reduceAdd, Nat.reduceSub, Nat.reduceMul, reduceIte, reduceCtorEq, pv, pbin, peq, plen, pload, pcut, pfill, St.ev, St.set, lk, D.ofV, D.cellsOf, InR.i64, InR.u8, ssL, tx, ix, Fact.c, Pair.c, Cond.c, Action.c, Rule.c, Token.c, Match.c, Alpha.c, Node.c, Network.c, Stamp.c, Firing.c, Choice.c, tagg_9, tel_23, tstr_23, tsz_9] <;> rfl) ?_)
      exact RetQ_ret (by simp only [Try.f90, resDs, resD, Int.reduceLE, Int.reduceLT, Int.reduceNeg, Int.reduceAdd, Int.reduceSub, Int.reduceToNat, Nat.reduceEqDiff, Nat.reduceLeDiff, Nat.reduceLT, Nat.reduceAdd, Nat.reduceSub, Nat.reduceMul, reduceIte, reduceCtorEq, pv, pbin, peq, plen, pload, pcut, pfill, St.ev, St.set, lk, D.ofV, D.cellsOf, InR.i64, InR.u8, ssL, tx, ix, Fact.c, Pair.c, Cond.c, Action.c, Rule.c, Token.c, Match.c, Alpha.c, Node.c, Network.c, Stamp.c, Firing.c, Choice.c, tagg_9, tel_23, tstr_23, tsz_9] <;> rfl) rfl (by simp only [packD]; rw [decide_eq_true hlm])

set_option linter.unusedSimpArgs false in
set_option maxRecDepth 100000 in
set_option maxHeartbeats 1000000 in
theorem sameTexts_good (l m : List Bytes) : Good Try.prog 91 [.sl (l.map tx), .sl (m.map tx)] (.bool (decide (l = m))) := by
  refine Good.of Try.func91 rfl (by decide) (by simp [Try.f91]) ?_
  intro hr Γ hΓ
  have hΓ : Γ.nt = 26 := hΓ
  simp only [args0]
  have hl : l.length ≤ maxLen := (hr (.sl (l.map tx)) (List.mem_cons_self ..)).len
  by_cases c1 : l.length = m.length
  case neg =>
    have d1 : ((l.length : Int) != (m.length : Int)) = true := by simp; omega
    repeat' first
      | refine thenQ_normal ?_
      | refine thenQ_ret ?_
      | refine thenQ_exit ?_
      | refine blockQ_normal ?_
      | refine blockQ_ret ?_
      | refine blockQ_exit ?_
      | refine blockQ_pass rfl ?_
      | refine AW_seq ?_
      | refine AW_block ?_
      | refine AW_skip ?_
      | refine AW_ret ?_
      | refine AW_exit ?_
      | refine AW_region ?_
      | refine AO_nil ?_
      | refine C_nil ?_
      | (refine R_pv rfl rfl (by omega) (by simp only [Int.reduceLE, Int.reduceLT, Int.reduceNeg, Int.reduceAdd, Int.reduceSub, Int.reduceToNat, Nat.reduceEqDiff, Nat.reduceLeDiff, Nat.reduceLT, Nat.reduceAdd, Nat.reduceSub, Nat.reduceMul, reduceIte, reduceCtorEq, pv, pbin, peq, plen, pload, pcut, pfill, St.ev, St.set, lk, D.ofV, D.cellsOf, InR.i64, InR.u8, ssL, tx, ix, Fact.c, Pair.c, Cond.c, Action.c, Rule.c, Token.c, Match.c, Alpha.c, Node.c, Network.c, Stamp.c, Firing.c, Choice.c, tagg_9, tel_23, tstr_23, tsz_9, d1] <;> rfl) ?_)
      | (refine C_pv rfl rfl (by omega) (by simp only [Int.reduceLE, Int.reduceLT, Int.reduceNeg, Int.reduceAdd, Int.reduceSub, Int.reduceToNat, Nat.reduceEqDiff, Nat.reduceLeDiff, Nat.reduceLT, Nat.reduceAdd, Nat.reduceSub, Nat.reduceMul, reduceIte, reduceCtorEq, pv, pbin, peq, plen, pload, pcut, pfill, St.ev, St.set, lk, D.ofV, D.cellsOf, InR.i64, InR.u8, ssL, tx, ix, Fact.c, Pair.c, Cond.c, Action.c, Rule.c, Token.c, Match.c, Alpha.c, Node.c, Network.c, Stamp.c, Firing.c, Choice.c, tagg_9, tel_23, tstr_23, tsz_9, d1] <;> rfl) ?_)
    refine W_true (by simp only [Int.reduceLE, Int.reduceLT, Int.reduceNeg, Int.reduceAdd, Int.reduceSub, Int.reduceToNat, Nat.reduceEqDiff, Nat.reduceLeDiff, Nat.reduceLT, Nat.reduceAdd, Nat.reduceSub, Nat.reduceMul, reduceIte, reduceCtorEq, pv, pbin, peq, plen, pload, pcut, pfill, St.ev, St.set, lk, D.ofV, D.cellsOf, InR.i64, InR.u8, ssL, tx, ix, Fact.c, Pair.c, Cond.c, Action.c, Rule.c, Token.c, Match.c, Alpha.c, Node.c, Network.c, Stamp.c, Firing.c, Choice.c, tagg_9, tel_23, tstr_23, tsz_9, d1] <;> rfl) ?_
    repeat' first
      | refine thenQ_normal ?_
      | refine thenQ_ret ?_
      | refine thenQ_exit ?_
      | refine blockQ_normal ?_
      | refine blockQ_ret ?_
      | refine blockQ_exit ?_
      | refine blockQ_pass rfl ?_
      | refine AW_seq ?_
      | refine AW_block ?_
      | refine AW_skip ?_
      | refine AW_ret ?_
      | refine AW_exit ?_
      | refine AW_region ?_
      | refine AO_nil ?_
      | refine C_nil ?_
      | (refine R_pv rfl rfl (by omega) (by simp only [Int.reduceLE, Int.reduceLT, Int.reduceNeg, Int.reduceAdd, Int.reduceSub, Int.reduceToNat, Nat.reduceEqDiff, Nat.reduceLeDiff, Nat.reduceLT, Nat.reduceAdd, Nat.reduceSub, Nat.reduceMul, reduceIte, reduceCtorEq, pv, pbin, peq, plen, pload, pcut, pfill, St.ev, St.set, lk, D.ofV, D.cellsOf, InR.i64, InR.u8, ssL, tx, ix, Fact.c, Pair.c, Cond.c, Action.c, Rule.c, Token.c, Match.c, Alpha.c, Node.c, Network.c, Stamp.c, Firing.c, Choice.c, tagg_9, tel_23, tstr_23, tsz_9] <;> rfl) ?_)
      | (refine C_pv rfl rfl (by omega) (by simp only [Int.reduceLE, Int.reduceLT, Int.reduceNeg, Int.reduceAdd, Int.reduceSub, Int.reduceToNat, Nat.reduceEqDiff, Nat.reduceLeDiff, Nat.reduceLT, Nat.reduceAdd, Nat.reduceSub, Nat.reduceMul, reduceIte, reduceCtorEq, pv, pbin, peq, plen, pload, pcut, pfill, St.ev, St.set, lk, D.ofV, D.cellsOf, InR.i64, InR.u8, ssL, tx, ix, Fact.c, Pair.c, Cond.c, Action.c, Rule.c, Token.c, Match.c, Alpha.c, Node.c, Network.c, Stamp.c, Firing.c, Choice.c, tagg_9, tel_23, tstr_23, tsz_9] <;> rfl) ?_)
    exact RetQ_ret (by simp only [Try.f91, resDs, resD, Int.reduceLE, Int.reduceLT, Int.reduceNeg, Int.reduceAdd, Int.reduceSub, Int.reduceToNat, Nat.reduceEqDiff, Nat.reduceLeDiff, Nat.reduceLT, Nat.reduceAdd, Nat.reduceSub, Nat.reduceMul, reduceIte, reduceCtorEq, pv, pbin, peq, plen, pload, pcut, pfill, St.ev, St.set, lk, D.ofV, D.cellsOf, InR.i64, InR.u8, ssL, tx, ix, Fact.c, Pair.c, Cond.c, Action.c, Rule.c, Token.c, Match.c, Alpha.c, Node.c, Network.c, Stamp.c, Firing.c, Choice.c, tagg_9, tel_23, tstr_23, tsz_9] <;> rfl) rfl (by simp only [packD]; rw [decide_eq_false (fun h => c1 (by rw [h]))])
  have d1 : ((l.length : Int) != (m.length : Int)) = false := by simp; omega
  repeat' first
    | refine thenQ_normal ?_
    | refine thenQ_ret ?_
    | refine thenQ_exit ?_
    | refine blockQ_normal ?_
    | refine blockQ_ret ?_
    | refine blockQ_exit ?_
    | refine blockQ_pass rfl ?_
    | refine AW_seq ?_
    | refine AW_block ?_
    | refine AW_skip ?_
    | refine AW_ret ?_
    | refine AW_exit ?_
    | refine AW_region ?_
    | refine AO_nil ?_
    | refine C_nil ?_
    | (refine R_pv rfl rfl (by omega) (by simp only [Int.reduceLE, Int.reduceLT, Int.reduceNeg, Int.reduceAdd, Int.reduceSub, Int.reduceToNat, Nat.reduceEqDiff, Nat.reduceLeDiff, Nat.reduceLT, Nat.reduceAdd, Nat.reduceSub, Nat.reduceMul, reduceIte, reduceCtorEq, pv, pbin, peq, plen, pload, pcut, pfill, St.ev, St.set, lk, D.ofV, D.cellsOf, InR.i64, InR.u8, ssL, tx, ix, Fact.c, Pair.c, Cond.c, Action.c, Rule.c, Token.c, Match.c, Alpha.c, Node.c, Network.c, Stamp.c, Firing.c, Choice.c, tagg_9, tel_23, tstr_23, tsz_9, d1] <;> rfl) ?_)
    | (refine C_pv rfl rfl (by omega) (by simp only [Int.reduceLE, Int.reduceLT, Int.reduceNeg, Int.reduceAdd, Int.reduceSub, Int.reduceToNat, Nat.reduceEqDiff, Nat.reduceLeDiff, Nat.reduceLT, Nat.reduceAdd, Nat.reduceSub, Nat.reduceMul, reduceIte, reduceCtorEq, pv, pbin, peq, plen, pload, pcut, pfill, St.ev, St.set, lk, D.ofV, D.cellsOf, InR.i64, InR.u8, ssL, tx, ix, Fact.c, Pair.c, Cond.c, Action.c, Rule.c, Token.c, Match.c, Alpha.c, Node.c, Network.c, Stamp.c, Firing.c, Choice.c, tagg_9, tel_23, tstr_23, tsz_9, d1] <;> rfl) ?_)
  refine W_false (by simp only [Int.reduceLE, Int.reduceLT, Int.reduceNeg, Int.reduceAdd, Int.reduceSub, Int.reduceToNat, Nat.reduceEqDiff, Nat.reduceLeDiff, Nat.reduceLT, Nat.reduceAdd, Nat.reduceSub, Nat.reduceMul, reduceIte, reduceCtorEq, pv, pbin, peq, plen, pload, pcut, pfill, St.ev, St.set, lk, D.ofV, D.cellsOf, InR.i64, InR.u8, ssL, tx, ix, Fact.c, Pair.c, Cond.c, Action.c, Rule.c, Token.c, Match.c, Alpha.c, Node.c, Network.c, Stamp.c, Firing.c, Choice.c, tagg_9, tel_23, tstr_23, tsz_9, d1] <;> rfl) ?_
  repeat' first
    | refine thenQ_normal ?_
    | refine thenQ_ret ?_
    | refine thenQ_exit ?_
    | refine blockQ_normal ?_
    | refine blockQ_ret ?_
    | refine blockQ_exit ?_
    | refine blockQ_pass rfl ?_
    | refine AW_seq ?_
    | refine AW_block ?_
    | refine AW_skip ?_
    | refine AW_ret ?_
    | refine AW_exit ?_
    | refine AW_region ?_
    | refine AO_nil ?_
    | refine C_nil ?_
    | (refine R_pv rfl rfl (by omega) (by simp only [Int.reduceLE, Int.reduceLT, Int.reduceNeg, Int.reduceAdd, Int.reduceSub, Int.reduceToNat, Nat.reduceEqDiff, Nat.reduceLeDiff, Nat.reduceLT, Nat.reduceAdd, Nat.reduceSub, Nat.reduceMul, reduceIte, reduceCtorEq, pv, pbin, peq, plen, pload, pcut, pfill, St.ev, St.set, lk, D.ofV, D.cellsOf, InR.i64, InR.u8, ssL, tx, ix, Fact.c, Pair.c, Cond.c, Action.c, Rule.c, Token.c, Match.c, Alpha.c, Node.c, Network.c, Stamp.c, Firing.c, Choice.c, tagg_9, tel_23, tstr_23, tsz_9] <;> rfl) ?_)
    | (refine C_pv rfl rfl (by omega) (by simp only [Int.reduceLE, Int.reduceLT, Int.reduceNeg, Int.reduceAdd, Int.reduceSub, Int.reduceToNat, Nat.reduceEqDiff, Nat.reduceLeDiff, Nat.reduceLT, Nat.reduceAdd, Nat.reduceSub, Nat.reduceMul, reduceIte, reduceCtorEq, pv, pbin, peq, plen, pload, pcut, pfill, St.ev, St.set, lk, D.ofV, D.cellsOf, InR.i64, InR.u8, ssL, tx, ix, Fact.c, Pair.c, Cond.c, Action.c, Rule.c, Token.c, Match.c, Alpha.c, Node.c, Network.c, Stamp.c, Firing.c, Choice.c, tagg_9, tel_23, tstr_23, tsz_9] <;> rfl) ?_)
  refine W_for [0, 1, 12, 13] 0 (fun k => ⟨[(0, .sl (l.map tx)), (1, .sl (m.map tx)), (12, .int .i64 (l.length : Nat)), (13, .int .i64 (k : Nat))], []⟩)
    (fun k => l.take k = m.take k) l.length rfl ?_ rfl ?_
  · simp only [St.trim, Int.reduceLE, Int.reduceLT, Int.reduceNeg, Int.reduceAdd, Int.reduceSub, Int.reduceToNat, Nat.reduceEqDiff, Nat.reduceLeDiff, Nat.reduceLT, Nat.reduceAdd, Nat.reduceSub, Nat.reduceMul, reduceIte, reduceCtorEq, pv, pbin, peq, plen, pload, pcut, pfill, St.ev, St.set, lk, D.ofV, D.cellsOf, InR.i64, InR.u8, ssL, tx, ix, Fact.c, Pair.c, Cond.c, Action.c, Rule.c, Token.c, Match.c, Alpha.c, Node.c, Network.c, Stamp.c, Firing.c, Choice.c, tagg_9, tel_23, tstr_23, tsz_9]
  · intro k hk hI
    rcases Nat.lt_or_ge k l.length with hlt | hge
    · obtain ⟨x, hx⟩ := getx hlt
      obtain ⟨y, hy⟩ := getx (l := m) (k := k) (by omega)
      have hd := lt_true hlt
      have wk := wrap_succ hlt hl
      by_cases c2 : x = y
      case neg =>
        have d2 : (!(x == y)) = true := by simp [c2]
        repeat' first
          | refine thenQ_normal ?_
          | refine thenQ_ret ?_
          | refine thenQ_exit ?_
          | refine blockQ_normal ?_
          | refine blockQ_ret ?_
          | refine blockQ_exit ?_
          | refine blockQ_pass rfl ?_
          | refine AW_seq ?_
          | refine AW_block ?_
          | refine AW_skip ?_
          | refine AW_ret ?_
          | refine AW_exit ?_
          | refine AW_region ?_
          | refine AO_nil ?_
          | refine C_nil ?_
          | (refine R_pv rfl rfl (by omega) (by simp only [Int.reduceLE, Int.reduceLT, Int.reduceNeg, Int.reduceAdd, Int.reduceSub, Int.reduceToNat, Nat.reduceEqDiff, Nat.reduceLeDiff, Nat.reduceLT, Nat.reduceAdd, Nat.reduceSub, Nat.reduceMul, reduceIte, reduceCtorEq, pv, pbin, peq, plen, pload, pcut, pfill, St.ev, St.set, lk, D.ofV, D.cellsOf, InR.i64, InR.u8, ssL, tx, ix, Fact.c, Pair.c, Cond.c, Action.c, Rule.c, Token.c, Match.c, Alpha.c, Node.c, Network.c, Stamp.c, Firing.c, Choice.c, tagg_9, tel_23, tstr_23, tsz_9, hd, hx, hy, wk, d2] <;> rfl) ?_)
          | (refine C_pv rfl rfl (by omega) (by simp only [Int.reduceLE, Int.reduceLT, Int.reduceNeg, Int.reduceAdd, Int.reduceSub, Int.reduceToNat, Nat.reduceEqDiff, Nat.reduceLeDiff, Nat.reduceLT, Nat.reduceAdd, Nat.reduceSub, Nat.reduceMul, reduceIte, reduceCtorEq, pv, pbin, peq, plen, pload, pcut, pfill, St.ev, St.set, lk, D.ofV, D.cellsOf, InR.i64, InR.u8, ssL, tx, ix, Fact.c, Pair.c, Cond.c, Action.c, Rule.c, Token.c, Match.c, Alpha.c, Node.c, Network.c, Stamp.c, Firing.c, Choice.c, tagg_9, tel_23, tstr_23, tsz_9, hd, hx, hy, wk, d2] <;> rfl) ?_)
        refine W_true (by simp only [Int.reduceLE, Int.reduceLT, Int.reduceNeg, Int.reduceAdd, Int.reduceSub, Int.reduceToNat, Nat.reduceEqDiff, Nat.reduceLeDiff, Nat.reduceLT, Nat.reduceAdd, Nat.reduceSub, Nat.reduceMul, reduceIte, reduceCtorEq, pv, pbin, peq, plen, pload, pcut, pfill, St.ev, St.set, lk, D.ofV, D.cellsOf, InR.i64, InR.u8, ssL, tx, ix, Fact.c, Pair.c, Cond.c, Action.c, Rule.c, Token.c, Match.c, Alpha.c, Node.c, Network.c, Stamp.c, Firing.c, Choice.c, tagg_9, tel_23, tstr_23, tsz_9, hd] <;> rfl) ?_
        repeat' first
          | refine thenQ_normal ?_
          | refine thenQ_ret ?_
          | refine thenQ_exit ?_
          | refine blockQ_normal ?_
          | refine blockQ_ret ?_
          | refine blockQ_exit ?_
          | refine blockQ_pass rfl ?_
          | refine AW_seq ?_
          | refine AW_block ?_
          | refine AW_skip ?_
          | refine AW_ret ?_
          | refine AW_exit ?_
          | refine AW_region ?_
          | refine AO_nil ?_
          | refine C_nil ?_
          | (refine R_pv rfl rfl (by omega) (by simp only [Int.reduceLE, Int.reduceLT, Int.reduceNeg, Int.reduceAdd, Int.reduceSub, Int.reduceToNat, Nat.reduceEqDiff, Nat.reduceLeDiff, Nat.reduceLT, Nat.reduceAdd, Nat.reduceSub, Nat.reduceMul, reduceIte, reduceCtorEq, pv, pbin, peq, plen, pload, pcut, pfill, St.ev, St.set, lk, D.ofV, D.cellsOf, InR.i64, InR.u8, ssL, tx, ix, Fact.c, Pair.c, Cond.c, Action.c, Rule.c, Token.c, Match.c, Alpha.c, Node.c, Network.c, Stamp.c, Firing.c, Choice.c, tagg_9, tel_23, tstr_23, tsz_9, hd, hx, hy, wk, d2] <;> rfl) ?_)
          | (refine C_pv rfl rfl (by omega) (by simp only [Int.reduceLE, Int.reduceLT, Int.reduceNeg, Int.reduceAdd, Int.reduceSub, Int.reduceToNat, Nat.reduceEqDiff, Nat.reduceLeDiff, Nat.reduceLT, Nat.reduceAdd, Nat.reduceSub, Nat.reduceMul, reduceIte, reduceCtorEq, pv, pbin, peq, plen, pload, pcut, pfill, St.ev, St.set, lk, D.ofV, D.cellsOf, InR.i64, InR.u8, ssL, tx, ix, Fact.c, Pair.c, Cond.c, Action.c, Rule.c, Token.c, Match.c, Alpha.c, Node.c, Network.c, Stamp.c, Firing.c, Choice.c, tagg_9, tel_23, tstr_23, tsz_9, hd, hx, hy, wk, d2] <;> rfl) ?_)
        refine W_draw 8 (by kernel_rfl) (by kernel_rfl) rfl rfl ?_
        repeat' first
          | refine thenQ_normal ?_
          | refine thenQ_ret ?_
          | refine thenQ_exit ?_
          | refine blockQ_normal ?_
          | refine blockQ_ret ?_
          | refine blockQ_exit ?_
          | refine blockQ_pass rfl ?_
          | refine AW_seq ?_
          | refine AW_block ?_
          | refine AW_skip ?_
          | refine AW_ret ?_
          | refine AW_exit ?_
          | refine AW_region ?_
          | refine AO_nil ?_
          | refine C_nil ?_
          | (refine R_pv rfl rfl (by omega) (by simp only [Int.reduceLE, Int.reduceLT, Int.reduceNeg, Int.reduceAdd, Int.reduceSub, Int.reduceToNat, Nat.reduceEqDiff, Nat.reduceLeDiff, Nat.reduceLT, Nat.reduceAdd, Nat.reduceSub, Nat.reduceMul, reduceIte, reduceCtorEq, pv, pbin, peq, plen, pload, pcut, pfill, St.ev, St.set, lk, D.ofV, D.cellsOf, InR.i64, InR.u8, ssL, tx, ix, Fact.c, Pair.c, Cond.c, Action.c, Rule.c, Token.c, Match.c, Alpha.c, Node.c, Network.c, Stamp.c, Firing.c, Choice.c, tagg_9, tel_23, tstr_23, tsz_9, hd, hx, hy, wk, d2] <;> rfl) ?_)
          | (refine C_pv rfl rfl (by omega) (by simp only [Int.reduceLE, Int.reduceLT, Int.reduceNeg, Int.reduceAdd, Int.reduceSub, Int.reduceToNat, Nat.reduceEqDiff, Nat.reduceLeDiff, Nat.reduceLT, Nat.reduceAdd, Nat.reduceSub, Nat.reduceMul, reduceIte, reduceCtorEq, pv, pbin, peq, plen, pload, pcut, pfill, St.ev, St.set, lk, D.ofV, D.cellsOf, InR.i64, InR.u8, ssL, tx, ix, Fact.c, Pair.c, Cond.c, Action.c, Rule.c, Token.c, Match.c, Alpha.c, Node.c, Network.c, Stamp.c, Firing.c, Choice.c, tagg_9, tel_23, tstr_23, tsz_9, hd, hx, hy, wk, d2] <;> rfl) ?_)
        refine W_true (by simp only [Int.reduceLE, Int.reduceLT, Int.reduceNeg, Int.reduceAdd, Int.reduceSub, Int.reduceToNat, Nat.reduceEqDiff, Nat.reduceLeDiff, Nat.reduceLT, Nat.reduceAdd, Nat.reduceSub, Nat.reduceMul, reduceIte, reduceCtorEq, pv, pbin, peq, plen, pload, pcut, pfill, St.ev, St.set, lk, D.ofV, D.cellsOf, InR.i64, InR.u8, ssL, tx, ix, Fact.c, Pair.c, Cond.c, Action.c, Rule.c, Token.c, Match.c, Alpha.c, Node.c, Network.c, Stamp.c, Firing.c, Choice.c, tagg_9, tel_23, tstr_23, tsz_9, d2] <;> rfl) ?_
        repeat' first
          | refine thenQ_normal ?_
          | refine thenQ_ret ?_
          | refine thenQ_exit ?_
          | refine blockQ_normal ?_
          | refine blockQ_ret ?_
          | refine blockQ_exit ?_
          | refine blockQ_pass rfl ?_
          | refine AW_seq ?_
          | refine AW_block ?_
          | refine AW_skip ?_
          | refine AW_ret ?_
          | refine AW_exit ?_
          | refine AW_region ?_
          | refine AO_nil ?_
          | refine C_nil ?_
          | (refine R_pv rfl rfl (by omega) (by simp only [Int.reduceLE, Int.reduceLT, Int.reduceNeg, Int.reduceAdd, Int.reduceSub, Int.reduceToNat, Nat.reduceEqDiff, Nat.reduceLeDiff, Nat.reduceLT, Nat.reduceAdd, Nat.reduceSub, Nat.reduceMul, reduceIte, reduceCtorEq, pv, pbin, peq, plen, pload, pcut, pfill, St.ev, St.set, lk, D.ofV, D.cellsOf, InR.i64, InR.u8, ssL, tx, ix, Fact.c, Pair.c, Cond.c, Action.c, Rule.c, Token.c, Match.c, Alpha.c, Node.c, Network.c, Stamp.c, Firing.c, Choice.c, tagg_9, tel_23, tstr_23, tsz_9] <;> rfl) ?_)
          | (refine C_pv rfl rfl (by omega) (by simp only [Int.reduceLE, Int.reduceLT, Int.reduceNeg, Int.reduceAdd, Int.reduceSub, Int.reduceToNat, Nat.reduceEqDiff, Nat.reduceLeDiff, Nat.reduceLT, Nat.reduceAdd, Nat.reduceSub, Nat.reduceMul, reduceIte, reduceCtorEq, pv, pbin, peq, plen, pload, pcut, pfill, St.ev, St.set, lk, D.ofV, D.cellsOf, InR.i64, InR.u8, ssL, tx, ix, Fact.c, Pair.c, Cond.c, Action.c, Rule.c, Token.c, Match.c, Alpha.c, Node.c, Network.c, Stamp.c, Firing.c, Choice.c, tagg_9, tel_23, tstr_23, tsz_9] <;> rfl) ?_)
        exact RetQ_ret (by simp only [Try.f91, resDs, resD, Int.reduceLE, Int.reduceLT, Int.reduceNeg, Int.reduceAdd, Int.reduceSub, Int.reduceToNat, Nat.reduceEqDiff, Nat.reduceLeDiff, Nat.reduceLT, Nat.reduceAdd, Nat.reduceSub, Nat.reduceMul, reduceIte, reduceCtorEq, pv, pbin, peq, plen, pload, pcut, pfill, St.ev, St.set, lk, D.ofV, D.cellsOf, InR.i64, InR.u8, ssL, tx, ix, Fact.c, Pair.c, Cond.c, Action.c, Rule.c, Token.c, Match.c, Alpha.c, Node.c, Network.c, Stamp.c, Firing.c, Choice.c, tagg_9, tel_23, tstr_23, tsz_9] <;> rfl) rfl (by simp only [packD]; rw [decide_eq_false (fun h => c2 (by rw [h, hy] at hx; exact (Option.some.inj hx).symm))])
      have d2 : (!(x == y)) = false := by simp [c2]
      repeat' first
        | refine thenQ_normal ?_
        | refine thenQ_ret ?_
        | refine thenQ_exit ?_
        | refine blockQ_normal ?_
        | refine blockQ_ret ?_
        | refine blockQ_exit ?_
        | refine blockQ_pass rfl ?_
        | refine AW_seq ?_
        | refine AW_block ?_
        | refine AW_skip ?_
        | refine AW_ret ?_
        | refine AW_exit ?_
        | refine AW_region ?_
        | refine AO_nil ?_
        | refine C_nil ?_
        | (refine R_pv rfl rfl (by omega) (by simp only [Int.reduceLE, Int.reduceLT, Int.reduceNeg, Int.reduceAdd, Int.reduceSub, Int.reduceToNat, Nat.reduceEqDiff, Nat.reduceLeDiff, Nat.reduceLT, Nat.reduceAdd, Nat.reduceSub, Nat.reduceMul, reduceIte, reduceCtorEq, pv, pbin, peq, plen, pload, pcut, pfill, St.ev, St.set, lk, D.ofV, D.cellsOf, InR.i64, InR.u8, ssL, tx, ix, Fact.c, Pair.c, Cond.c, Action.c, Rule.c, Token.c, Match.c, Alpha.c, Node.c, Network.c, Stamp.c, Firing.c, Choice.c, tagg_9, tel_23, tstr_23, tsz_9, hd, hx, hy, wk, d2] <;> rfl) ?_)
        | (refine C_pv rfl rfl (by omega) (by simp only [Int.reduceLE, Int.reduceLT, Int.reduceNeg, Int.reduceAdd, Int.reduceSub, Int.reduceToNat, Nat.reduceEqDiff, Nat.reduceLeDiff, Nat.reduceLT, Nat.reduceAdd, Nat.reduceSub, Nat.reduceMul, reduceIte, reduceCtorEq, pv, pbin, peq, plen, pload, pcut, pfill, St.ev, St.set, lk, D.ofV, D.cellsOf, InR.i64, InR.u8, ssL, tx, ix, Fact.c, Pair.c, Cond.c, Action.c, Rule.c, Token.c, Match.c, Alpha.c, Node.c, Network.c, Stamp.c, Firing.c, Choice.c, tagg_9, tel_23, tstr_23, tsz_9, hd, hx, hy, wk, d2] <;> rfl) ?_)
      refine W_true (by simp only [Int.reduceLE, Int.reduceLT, Int.reduceNeg, Int.reduceAdd, Int.reduceSub, Int.reduceToNat, Nat.reduceEqDiff, Nat.reduceLeDiff, Nat.reduceLT, Nat.reduceAdd, Nat.reduceSub, Nat.reduceMul, reduceIte, reduceCtorEq, pv, pbin, peq, plen, pload, pcut, pfill, St.ev, St.set, lk, D.ofV, D.cellsOf, InR.i64, InR.u8, ssL, tx, ix, Fact.c, Pair.c, Cond.c, Action.c, Rule.c, Token.c, Match.c, Alpha.c, Node.c, Network.c, Stamp.c, Firing.c, Choice.c, tagg_9, tel_23, tstr_23, tsz_9, hd] <;> rfl) ?_
      repeat' first
        | refine thenQ_normal ?_
        | refine thenQ_ret ?_
        | refine thenQ_exit ?_
        | refine blockQ_normal ?_
        | refine blockQ_ret ?_
        | refine blockQ_exit ?_
        | refine blockQ_pass rfl ?_
        | refine AW_seq ?_
        | refine AW_block ?_
        | refine AW_skip ?_
        | refine AW_ret ?_
        | refine AW_exit ?_
        | refine AW_region ?_
        | refine AO_nil ?_
        | refine C_nil ?_
        | (refine R_pv rfl rfl (by omega) (by simp only [Int.reduceLE, Int.reduceLT, Int.reduceNeg, Int.reduceAdd, Int.reduceSub, Int.reduceToNat, Nat.reduceEqDiff, Nat.reduceLeDiff, Nat.reduceLT, Nat.reduceAdd, Nat.reduceSub, Nat.reduceMul, reduceIte, reduceCtorEq, pv, pbin, peq, plen, pload, pcut, pfill, St.ev, St.set, lk, D.ofV, D.cellsOf, InR.i64, InR.u8, ssL, tx, ix, Fact.c, Pair.c, Cond.c, Action.c, Rule.c, Token.c, Match.c, Alpha.c, Node.c, Network.c, Stamp.c, Firing.c, Choice.c, tagg_9, tel_23, tstr_23, tsz_9, hd, hx, hy, wk, d2] <;> rfl) ?_)
        | (refine C_pv rfl rfl (by omega) (by simp only [Int.reduceLE, Int.reduceLT, Int.reduceNeg, Int.reduceAdd, Int.reduceSub, Int.reduceToNat, Nat.reduceEqDiff, Nat.reduceLeDiff, Nat.reduceLT, Nat.reduceAdd, Nat.reduceSub, Nat.reduceMul, reduceIte, reduceCtorEq, pv, pbin, peq, plen, pload, pcut, pfill, St.ev, St.set, lk, D.ofV, D.cellsOf, InR.i64, InR.u8, ssL, tx, ix, Fact.c, Pair.c, Cond.c, Action.c, Rule.c, Token.c, Match.c, Alpha.c, Node.c, Network.c, Stamp.c, Firing.c, Choice.c, tagg_9, tel_23, tstr_23, tsz_9, hd, hx, hy, wk, d2] <;> rfl) ?_)
      refine W_draw 8 (by kernel_rfl) (by kernel_rfl) rfl rfl ?_
      repeat' first
        | refine thenQ_normal ?_
        | refine thenQ_ret ?_
        | refine thenQ_exit ?_
        | refine blockQ_normal ?_
        | refine blockQ_ret ?_
        | refine blockQ_exit ?_
        | refine blockQ_pass rfl ?_
        | refine AW_seq ?_
        | refine AW_block ?_
        | refine AW_skip ?_
        | refine AW_ret ?_
        | refine AW_exit ?_
        | refine AW_region ?_
        | refine AO_nil ?_
        | refine C_nil ?_
        | (refine R_pv rfl rfl (by omega) (by simp only [Int.reduceLE, Int.reduceLT, Int.reduceNeg, Int.reduceAdd, Int.reduceSub, Int.reduceToNat, Nat.reduceEqDiff, Nat.reduceLeDiff, Nat.reduceLT, Nat.reduceAdd, Nat.reduceSub, Nat.reduceMul, reduceIte, reduceCtorEq, pv, pbin, peq, plen, pload, pcut, pfill, St.ev, St.set, lk, D.ofV, D.cellsOf, InR.i64, InR.u8, ssL, tx, ix, Fact.c, Pair.c, Cond.c, Action.c, Rule.c, Token.c, Match.c, Alpha.c, Node.c, Network.c, Stamp.c, Firing.c, Choice.c, tagg_9, tel_23, tstr_23, tsz_9, hd, hx, hy, wk, d2] <;> rfl) ?_)
        | (refine C_pv rfl rfl (by omega) (by simp only [Int.reduceLE, Int.reduceLT, Int.reduceNeg, Int.reduceAdd, Int.reduceSub, Int.reduceToNat, Nat.reduceEqDiff, Nat.reduceLeDiff, Nat.reduceLT, Nat.reduceAdd, Nat.reduceSub, Nat.reduceMul, reduceIte, reduceCtorEq, pv, pbin, peq, plen, pload, pcut, pfill, St.ev, St.set, lk, D.ofV, D.cellsOf, InR.i64, InR.u8, ssL, tx, ix, Fact.c, Pair.c, Cond.c, Action.c, Rule.c, Token.c, Match.c, Alpha.c, Node.c, Network.c, Stamp.c, Firing.c, Choice.c, tagg_9, tel_23, tstr_23, tsz_9, hd, hx, hy, wk, d2] <;> rfl) ?_)
      refine W_false (by simp only [Int.reduceLE, Int.reduceLT, Int.reduceNeg, Int.reduceAdd, Int.reduceSub, Int.reduceToNat, Nat.reduceEqDiff, Nat.reduceLeDiff, Nat.reduceLT, Nat.reduceAdd, Nat.reduceSub, Nat.reduceMul, reduceIte, reduceCtorEq, pv, pbin, peq, plen, pload, pcut, pfill, St.ev, St.set, lk, D.ofV, D.cellsOf, InR.i64, InR.u8, ssL, tx, ix, Fact.c, Pair.c, Cond.c, Action.c, Rule.c, Token.c, Match.c, Alpha.c, Node.c, Network.c, Stamp.c, Firing.c, Choice.c, tagg_9, tel_23, tstr_23, tsz_9, d2] <;> rfl) ?_
      repeat' first
        | refine thenQ_normal ?_
        | refine thenQ_ret ?_
        | refine thenQ_exit ?_
        | refine blockQ_normal ?_
        | refine blockQ_ret ?_
        | refine blockQ_exit ?_
        | refine blockQ_pass rfl ?_
        | refine AW_seq ?_
        | refine AW_block ?_
        | refine AW_skip ?_
        | refine AW_ret ?_
        | refine AW_exit ?_
        | refine AW_region ?_
        | refine AO_nil ?_
        | refine C_nil ?_
        | (refine R_pv rfl rfl (by omega) (by simp only [Int.reduceLE, Int.reduceLT, Int.reduceNeg, Int.reduceAdd, Int.reduceSub, Int.reduceToNat, Nat.reduceEqDiff, Nat.reduceLeDiff, Nat.reduceLT, Nat.reduceAdd, Nat.reduceSub, Nat.reduceMul, reduceIte, reduceCtorEq, pv, pbin, peq, plen, pload, pcut, pfill, St.ev, St.set, lk, D.ofV, D.cellsOf, InR.i64, InR.u8, ssL, tx, ix, Fact.c, Pair.c, Cond.c, Action.c, Rule.c, Token.c, Match.c, Alpha.c, Node.c, Network.c, Stamp.c, Firing.c, Choice.c, tagg_9, tel_23, tstr_23, tsz_9, wk] <;> rfl) ?_)
        | (refine C_pv rfl rfl (by omega) (by simp only [Int.reduceLE, Int.reduceLT, Int.reduceNeg, Int.reduceAdd, Int.reduceSub, Int.reduceToNat, Nat.reduceEqDiff, Nat.reduceLeDiff, Nat.reduceLT, Nat.reduceAdd, Nat.reduceSub, Nat.reduceMul, reduceIte, reduceCtorEq, pv, pbin, peq, plen, pload, pcut, pfill, St.ev, St.set, lk, D.ofV, D.cellsOf, InR.i64, InR.u8, ssL, tx, ix, Fact.c, Pair.c, Cond.c, Action.c, Rule.c, Token.c, Match.c, Alpha.c, Node.c, Network.c, Stamp.c, Firing.c, Choice.c, tagg_9, tel_23, tstr_23, tsz_9, wk] <;> rfl) ?_)
      refine ⟨hlt, rfl, ?_, by rw [take_snoc hx, take_snoc hy, hI, c2]⟩
      simp only [St.trim, Int.reduceLE, Int.reduceLT, Int.reduceNeg, Int.reduceAdd, Int.reduceSub, Int.reduceToNat, Nat.reduceEqDiff, Nat.reduceLeDiff, Nat.reduceLT, Nat.reduceAdd, Nat.reduceSub, Nat.reduceMul, reduceIte, reduceCtorEq, pv, pbin, peq, plen, pload, pcut, pfill, St.ev, St.set, lk, D.ofV, D.cellsOf, InR.i64, InR.u8, ssL, tx, ix, Fact.c, Pair.c, Cond.c, Action.c, Rule.c, Token.c, Match.c, Alpha.c, Node.c, Network.c, Stamp.c, Firing.c, Choice.c, tagg_9, tel_23, tstr_23, tsz_9]
    · have hd := lt_false hge
      have hkl : k = l.length := by omega
      subst hkl
      have hlm : l = m := by rw [List.take_length, c1, List.take_length] at hI; exact hI
      repeat' first
        | refine thenQ_normal ?_
        | refine thenQ_ret ?_
        | refine thenQ_exit ?_
        | refine blockQ_normal ?_
        | refine blockQ_ret ?_
        | refine blockQ_exit ?_
        | refine blockQ_pass rfl ?_
        | refine AW_seq ?_
        | refine AW_block ?_
        | refine AW_skip ?_
        | refine AW_ret ?_
        | refine AW_exit ?_
        | refine AW_region ?_
        | refine AO_nil ?_
        | refine C_nil ?_
        | (refine R_pv rfl rfl (by omega) (by simp only [Int.reduceLE, Int.reduceLT, Int.reduceNeg, Int.reduceAdd, Int.reduceSub, Int.reduceToNat, Nat.reduceEqDiff, Nat.reduceLeDiff, Nat.reduceLT, Nat.reduceAdd, Nat.reduceSub, Nat.reduceMul, reduceIte, reduceCtorEq, pv, pbin, peq, plen, pload, pcut, pfill, St.ev, St.set, lk, D.ofV, D.cellsOf, InR.i64, InR.u8, ssL, tx, ix, Fact.c, Pair.c, Cond.c, Action.c, Rule.c, Token.c, Match.c, Alpha.c, Node.c, Network.c, Stamp.c, Firing.c, Choice.c, tagg_9, tel_23, tstr_23, tsz_9, hd] <;> rfl) ?_)
        | (refine C_pv rfl rfl (by omega) (by simp only [Int.reduceLE, Int.reduceLT, Int.reduceNeg, Int.reduceAdd, Int.reduceSub, Int.reduceToNat, Nat.reduceEqDiff, Nat.reduceLeDiff, Nat.reduceLT, Nat.reduceAdd, Nat.reduceSub, Nat.reduceMul, reduceIte, reduceCtorEq, pv, pbin, peq, plen, pload, pcut, pfill, St.ev, St.set, lk, D.ofV, D.cellsOf, InR.i64, InR.u8, ssL, tx, ix, Fact.c, Pair.c, Cond.c, Action.c, Rule.c, Token.c, Match.c, Alpha.c, Node.c, Network.c, Stamp.c, Firing.c, Choice.c, tagg_9, tel_23, tstr_23, tsz_9, hd] <;> rfl) ?_)
      refine W_false (by simp only [Int.reduceLE, Int.reduceLT, Int.reduceNeg, Int.reduceAdd, Int.reduceSub, Int.reduceToNat, Nat.reduceEqDiff, Nat.reduceLeDiff, Nat.reduceLT, Nat.reduceAdd, Nat.reduceSub, Nat.reduceMul, reduceIte, reduceCtorEq, pv, pbin, peq, plen, pload, pcut, pfill, St.ev, St.set, lk, D.ofV, D.cellsOf, InR.i64, InR.u8, ssL, tx, ix, Fact.c, Pair.c, Cond.c, Action.c, Rule.c, Token.c, Match.c, Alpha.c, Node.c, Network.c, Stamp.c, Firing.c, Choice.c, tagg_9, tel_23, tstr_23, tsz_9, hd] <;> rfl) ?_
      repeat' first
        | refine thenQ_normal ?_
        | refine thenQ_ret ?_
        | refine thenQ_exit ?_
        | refine blockQ_normal ?_
        | refine blockQ_ret ?_
        | refine blockQ_exit ?_
        | refine blockQ_pass rfl ?_
        | refine AW_seq ?_
        | refine AW_block ?_
        | refine AW_skip ?_
        | refine AW_ret ?_
        | refine AW_exit ?_
        | refine AW_region ?_
        | refine AO_nil ?_
        | refine C_nil ?_
        | (refine R_pv rfl rfl (by omega) (by simp only [Int.reduceLE, Int.reduceLT, Int.reduceNeg, Int.reduceAdd, Int.reduceSub, Int.reduceToNat, Nat.reduceEqDiff, Nat.reduceLeDiff, Nat.reduceLT, Nat.reduceAdd, Nat.reduceSub, Nat.reduceMul, reduceIte, reduceCtorEq, pv, pbin, peq, plen, pload, pcut, pfill, St.ev, St.set, lk, D.ofV, D.cellsOf, InR.i64, InR.u8, ssL, tx, ix, Fact.c, Pair.c, Cond.c, Action.c, Rule.c, Token.c, Match.c, Alpha.c, Node.c, Network.c, Stamp.c, Firing.c, Choice.c, tagg_9, tel_23, tstr_23, tsz_9] <;> rfl) ?_)
        | (refine C_pv rfl rfl (by omega) (by simp only [Int.reduceLE, Int.reduceLT, Int.reduceNeg, Int.reduceAdd, Int.reduceSub, Int.reduceToNat, Nat.reduceEqDiff, Nat.reduceLeDiff, Nat.reduceLT, Nat.reduceAdd, Nat.reduceSub, Nat.reduceMul, reduceIte, reduceCtorEq, pv, pbin, peq, plen, pload, pcut, pfill, St.ev, St.set, lk, D.ofV, D.cellsOf, InR.i64, InR.u8, ssL, tx, ix, Fact.c, Pair.c, Cond.c, Action.c, Rule.c, Token.c, Match.c, Alpha.c, Node.c, Network.c, Stamp.c, Firing.c, Choice.c, tagg_9, tel_23, tstr_23, tsz_9] <;> rfl) ?_)
      exact RetQ_ret (by simp only [Try.f91, resDs, resD, Int.reduceLE, Int.reduceLT, Int.reduceNeg, Int.reduceAdd, Int.reduceSub, Int.reduceToNat, Nat.reduceEqDiff, Nat.reduceLeDiff, Nat.reduceLT, Nat.reduceAdd, Nat.reduceSub, Nat.reduceMul, reduceIte, reduceCtorEq, pv, pbin, peq, plen, pload, pcut, pfill, St.ev, St.set, lk, D.ofV, D.cellsOf, InR.i64, InR.u8, ssL, tx, ix, Fact.c, Pair.c, Cond.c, Action.c, Rule.c, Token.c, Match.c, Alpha.c, Node.c, Network.c, Stamp.c, Firing.c, Choice.c, tagg_9, tel_23, tstr_23, tsz_9] <;> rfl) rfl (by simp only [packD]; rw [decide_eq_true hlm])

set_option linter.unusedSimpArgs false in
set_option maxRecDepth 100000 in
set_option maxHeartbeats 1000000 in
theorem l2Same_good (x y : Fact) : Good Try.prog 53 [.agg x.c, .agg y.c] (.bool (decide (x = y))) := by
  refine Good.of Try.func53 rfl (by decide) (by simp [Try.f53]) ?_
  intro hr Γ hΓ
  have hΓ : Γ.nt = 17 := hΓ
  simp only [args0]
  by_cases c1 : x.rel = y.rel
  case neg =>
    have d1 : (x.rel == y.rel) = false := by simp [c1]
    repeat' first
      | refine thenQ_normal ?_
      | refine thenQ_ret ?_
      | refine thenQ_exit ?_
      | refine blockQ_normal ?_
      | refine blockQ_ret ?_
      | refine blockQ_exit ?_
      | refine blockQ_pass rfl ?_
      | refine AW_seq ?_
      | refine AW_block ?_
      | refine AW_skip ?_
      | refine AW_ret ?_
      | refine AW_exit ?_
      | refine AW_region ?_
      | refine AO_nil ?_
      | refine C_nil ?_
      | (refine R_pv rfl rfl (by omega) (by simp only [Int.reduceLE, Int.reduceLT, Int.reduceNeg, Int.reduceAdd, Int.reduceSub, Int.reduceToNat, Nat.reduceEqDiff, Nat.reduceLeDiff, Nat.reduceLT, Nat.reduceAdd, Nat.reduceSub, Nat.reduceMul, reduceIte, reduceCtorEq, pv, pbin, peq, plen, pload, pcut, pfill, St.ev, St.set, lk, D.ofV, D.cellsOf, InR.i64, InR.u8, ssL, tx, ix, Fact.c, Pair.c, Cond.c, Action.c, Rule.c, Token.c, Match.c, Alpha.c, Node.c, Network.c, Stamp.c, Firing.c, Choice.c, tagg_23, tagg_9, tfo_31_0, tfo_31_1, tsz_23, tsz_9, d1] <;> rfl) ?_)
      | (refine R_yes rfl rfl ?_ ?_; focus (simp only [Int.reduceLE, Int.reduceLT, Int.reduceNeg, Int.reduceAdd, Int.reduceSub, Int.reduceToNat, Nat.reduceEqDiff, Nat.reduceLeDiff, Nat.reduceLT, Nat.reduceAdd, Nat.reduceSub, Nat.reduceMul, reduceIte, reduceCtorEq, pv, pbin, peq, plen, pload, pcut, pfill, St.ev, St.set, lk, D.ofV, D.cellsOf, InR.i64, InR.u8, ssL, tx, ix, Fact.c, Pair.c, Cond.c, Action.c, Rule.c, Token.c, Match.c, Alpha.c, Node.c, Network.c, Stamp.c, Firing.c, Choice.c, tagg_23, tagg_9, tfo_31_0, tfo_31_1, tsz_23, tsz_9, d1]; done))
      | (refine R_no rfl rfl rfl (by omega) (by simp only [Int.reduceLE, Int.reduceLT, Int.reduceNeg, Int.reduceAdd, Int.reduceSub, Int.reduceToNat, Nat.reduceEqDiff, Nat.reduceLeDiff, Nat.reduceLT, Nat.reduceAdd, Nat.reduceSub, Nat.reduceMul, reduceIte, reduceCtorEq, pv, pbin, peq, plen, pload, pcut, pfill, St.ev, St.set, lk, D.ofV, D.cellsOf, InR.i64, InR.u8, ssL, tx, ix, Fact.c, Pair.c, Cond.c, Action.c, Rule.c, Token.c, Match.c, Alpha.c, Node.c, Network.c, Stamp.c, Firing.c, Choice.c, tagg_23, tagg_9, tfo_31_0, tfo_31_1, tsz_23, tsz_9, d1] <;> rfl) rfl ?_)
      | (refine R_eff hΓ rfl (by simp only [peff, Int.reduceLE, Int.reduceLT, Int.reduceNeg, Int.reduceAdd, Int.reduceSub, Int.reduceToNat, Nat.reduceEqDiff, Nat.reduceLeDiff, Nat.reduceLT, Nat.reduceAdd, Nat.reduceSub, Nat.reduceMul, reduceIte, reduceCtorEq, pv, pbin, peq, plen, pload, pcut, pfill, St.ev, St.set, lk, D.ofV, D.cellsOf, InR.i64, InR.u8, ssL, tx, ix, Fact.c, Pair.c, Cond.c, Action.c, Rule.c, Token.c, Match.c, Alpha.c, Node.c, Network.c, Stamp.c, Firing.c, Choice.c, tagg_23, tagg_9, tfo_31_0, tfo_31_1, tsz_23, tsz_9, d1] <;> rfl) ?_)
    exact RetQ_ret (by simp only [Try.f53, resDs, resD, Int.reduceLE, Int.reduceLT, Int.reduceNeg, Int.reduceAdd, Int.reduceSub, Int.reduceToNat, Nat.reduceEqDiff, Nat.reduceLeDiff, Nat.reduceLT, Nat.reduceAdd, Nat.reduceSub, Nat.reduceMul, reduceIte, reduceCtorEq, pv, pbin, peq, plen, pload, pcut, pfill, St.ev, St.set, lk, D.ofV, D.cellsOf, InR.i64, InR.u8, ssL, tx, ix, Fact.c, Pair.c, Cond.c, Action.c, Rule.c, Token.c, Match.c, Alpha.c, Node.c, Network.c, Stamp.c, Firing.c, Choice.c, tagg_23, tagg_9, tfo_31_0, tfo_31_1, tsz_23, tsz_9] <;> rfl) rfl (by simp only [packD]; rw [decide_eq_false (fun h => c1 (by rw [h]))])
  have d1 : (x.rel == y.rel) = true := by simp [c1]
  by_cases c2 : x.args = y.args
  case neg =>
    have hc2 := l1SameTexts_good x.args y.args
    rw [decide_eq_false c2] at hc2
    repeat' first
      | refine thenQ_normal ?_
      | refine thenQ_ret ?_
      | refine thenQ_exit ?_
      | refine blockQ_normal ?_
      | refine blockQ_ret ?_
      | refine blockQ_exit ?_
      | refine blockQ_pass rfl ?_
      | refine AW_seq ?_
      | refine AW_block ?_
      | refine AW_skip ?_
      | refine AW_ret ?_
      | refine AW_exit ?_
      | refine AW_region ?_
      | refine AO_nil ?_
      | refine C_nil ?_
      | (refine R_pv rfl rfl (by omega) (by simp only [Int.reduceLE, Int.reduceLT, Int.reduceNeg, Int.reduceAdd, Int.reduceSub, Int.reduceToNat, Nat.reduceEqDiff, Nat.reduceLeDiff, Nat.reduceLT, Nat.reduceAdd, Nat.reduceSub, Nat.reduceMul, reduceIte, reduceCtorEq, pv, pbin, peq, plen, pload, pcut, pfill, St.ev, St.set, lk, D.ofV, D.cellsOf, InR.i64, InR.u8, ssL, tx, ix, Fact.c, Pair.c, Cond.c, Action.c, Rule.c, Token.c, Match.c, Alpha.c, Node.c, Network.c, Stamp.c, Firing.c, Choice.c, tagg_23, tagg_9, tfo_31_0, tfo_31_1, tsz_23, tsz_9, d1] <;> rfl) ?_)
      | (refine R_yes rfl rfl ?_ ?_; focus (simp only [Int.reduceLE, Int.reduceLT, Int.reduceNeg, Int.reduceAdd, Int.reduceSub, Int.reduceToNat, Nat.reduceEqDiff, Nat.reduceLeDiff, Nat.reduceLT, Nat.reduceAdd, Nat.reduceSub, Nat.reduceMul, reduceIte, reduceCtorEq, pv, pbin, peq, plen, pload, pcut, pfill, St.ev, St.set, lk, D.ofV, D.cellsOf, InR.i64, InR.u8, ssL, tx, ix, Fact.c, Pair.c, Cond.c, Action.c, Rule.c, Token.c, Match.c, Alpha.c, Node.c, Network.c, Stamp.c, Firing.c, Choice.c, tagg_23, tagg_9, tfo_31_0, tfo_31_1, tsz_23, tsz_9, d1]; done))
      | (refine R_no rfl rfl rfl (by omega) (by simp only [Int.reduceLE, Int.reduceLT, Int.reduceNeg, Int.reduceAdd, Int.reduceSub, Int.reduceToNat, Nat.reduceEqDiff, Nat.reduceLeDiff, Nat.reduceLT, Nat.reduceAdd, Nat.reduceSub, Nat.reduceMul, reduceIte, reduceCtorEq, pv, pbin, peq, plen, pload, pcut, pfill, St.ev, St.set, lk, D.ofV, D.cellsOf, InR.i64, InR.u8, ssL, tx, ix, Fact.c, Pair.c, Cond.c, Action.c, Rule.c, Token.c, Match.c, Alpha.c, Node.c, Network.c, Stamp.c, Firing.c, Choice.c, tagg_23, tagg_9, tfo_31_0, tfo_31_1, tsz_23, tsz_9, d1] <;> rfl) rfl ?_)
      | (refine R_eff hΓ rfl (by simp only [peff, Int.reduceLE, Int.reduceLT, Int.reduceNeg, Int.reduceAdd, Int.reduceSub, Int.reduceToNat, Nat.reduceEqDiff, Nat.reduceLeDiff, Nat.reduceLT, Nat.reduceAdd, Nat.reduceSub, Nat.reduceMul, reduceIte, reduceCtorEq, pv, pbin, peq, plen, pload, pcut, pfill, St.ev, St.set, lk, D.ofV, D.cellsOf, InR.i64, InR.u8, ssL, tx, ix, Fact.c, Pair.c, Cond.c, Action.c, Rule.c, Token.c, Match.c, Alpha.c, Node.c, Network.c, Stamp.c, Firing.c, Choice.c, tagg_23, tagg_9, tfo_31_0, tfo_31_1, tsz_23, tsz_9, d1] <;> rfl) ?_)
      | (refine R_call rfl rfl rfl (by omega) (by simp only [Int.reduceLE, Int.reduceLT, Int.reduceNeg, Int.reduceAdd, Int.reduceSub, Int.reduceToNat, Nat.reduceEqDiff, Nat.reduceLeDiff, Nat.reduceLT, Nat.reduceAdd, Nat.reduceSub, Nat.reduceMul, reduceIte, reduceCtorEq, pv, pbin, peq, plen, pload, pcut, pfill, St.ev, St.set, lk, D.ofV, D.cellsOf, InR.i64, InR.u8, ssL, tx, ix, Fact.c, Pair.c, Cond.c, Action.c, Rule.c, Token.c, Match.c, Alpha.c, Node.c, Network.c, Stamp.c, Firing.c, Choice.c, tagg_23, tagg_9, tfo_31_0, tfo_31_1, tsz_23, tsz_9, d1] <;> rfl) (by rfl) (by exact hc2) (by rfl) ?_)
    exact RetQ_ret (by simp only [Try.f53, resDs, resD, Int.reduceLE, Int.reduceLT, Int.reduceNeg, Int.reduceAdd, Int.reduceSub, Int.reduceToNat, Nat.reduceEqDiff, Nat.reduceLeDiff, Nat.reduceLT, Nat.reduceAdd, Nat.reduceSub, Nat.reduceMul, reduceIte, reduceCtorEq, pv, pbin, peq, plen, pload, pcut, pfill, St.ev, St.set, lk, D.ofV, D.cellsOf, InR.i64, InR.u8, ssL, tx, ix, Fact.c, Pair.c, Cond.c, Action.c, Rule.c, Token.c, Match.c, Alpha.c, Node.c, Network.c, Stamp.c, Firing.c, Choice.c, tagg_23, tagg_9, tfo_31_0, tfo_31_1, tsz_23, tsz_9] <;> rfl) rfl (by simp only [packD]; rw [decide_eq_false (fun h => c2 (by rw [h]))])
  have hc2 := l1SameTexts_good x.args y.args
  rw [decide_eq_true c2] at hc2
  have hxy : x = y := by cases x; cases y; simp_all
  repeat' first
    | refine thenQ_normal ?_
    | refine thenQ_ret ?_
    | refine thenQ_exit ?_
    | refine blockQ_normal ?_
    | refine blockQ_ret ?_
    | refine blockQ_exit ?_
    | refine blockQ_pass rfl ?_
    | refine AW_seq ?_
    | refine AW_block ?_
    | refine AW_skip ?_
    | refine AW_ret ?_
    | refine AW_exit ?_
    | refine AW_region ?_
    | refine AO_nil ?_
    | refine C_nil ?_
    | (refine R_pv rfl rfl (by omega) (by simp only [Int.reduceLE, Int.reduceLT, Int.reduceNeg, Int.reduceAdd, Int.reduceSub, Int.reduceToNat, Nat.reduceEqDiff, Nat.reduceLeDiff, Nat.reduceLT, Nat.reduceAdd, Nat.reduceSub, Nat.reduceMul, reduceIte, reduceCtorEq, pv, pbin, peq, plen, pload, pcut, pfill, St.ev, St.set, lk, D.ofV, D.cellsOf, InR.i64, InR.u8, ssL, tx, ix, Fact.c, Pair.c, Cond.c, Action.c, Rule.c, Token.c, Match.c, Alpha.c, Node.c, Network.c, Stamp.c, Firing.c, Choice.c, tagg_23, tagg_9, tfo_31_0, tfo_31_1, tsz_23, tsz_9, d1] <;> rfl) ?_)
    | (refine R_yes rfl rfl ?_ ?_; focus (simp only [Int.reduceLE, Int.reduceLT, Int.reduceNeg, Int.reduceAdd, Int.reduceSub, Int.reduceToNat, Nat.reduceEqDiff, Nat.reduceLeDiff, Nat.reduceLT, Nat.reduceAdd, Nat.reduceSub, Nat.reduceMul, reduceIte, reduceCtorEq, pv, pbin, peq, plen, pload, pcut, pfill, St.ev, St.set, lk, D.ofV, D.cellsOf, InR.i64, InR.u8, ssL, tx, ix, Fact.c, Pair.c, Cond.c, Action.c, Rule.c, Token.c, Match.c, Alpha.c, Node.c, Network.c, Stamp.c, Firing.c, Choice.c, tagg_23, tagg_9, tfo_31_0, tfo_31_1, tsz_23, tsz_9, d1]; done))
    | (refine R_no rfl rfl rfl (by omega) (by simp only [Int.reduceLE, Int.reduceLT, Int.reduceNeg, Int.reduceAdd, Int.reduceSub, Int.reduceToNat, Nat.reduceEqDiff, Nat.reduceLeDiff, Nat.reduceLT, Nat.reduceAdd, Nat.reduceSub, Nat.reduceMul, reduceIte, reduceCtorEq, pv, pbin, peq, plen, pload, pcut, pfill, St.ev, St.set, lk, D.ofV, D.cellsOf, InR.i64, InR.u8, ssL, tx, ix, Fact.c, Pair.c, Cond.c, Action.c, Rule.c, Token.c, Match.c, Alpha.c, Node.c, Network.c, Stamp.c, Firing.c, Choice.c, tagg_23, tagg_9, tfo_31_0, tfo_31_1, tsz_23, tsz_9, d1] <;> rfl) rfl ?_)
    | (refine R_eff hΓ rfl (by simp only [peff, Int.reduceLE, Int.reduceLT, Int.reduceNeg, Int.reduceAdd, Int.reduceSub, Int.reduceToNat, Nat.reduceEqDiff, Nat.reduceLeDiff, Nat.reduceLT, Nat.reduceAdd, Nat.reduceSub, Nat.reduceMul, reduceIte, reduceCtorEq, pv, pbin, peq, plen, pload, pcut, pfill, St.ev, St.set, lk, D.ofV, D.cellsOf, InR.i64, InR.u8, ssL, tx, ix, Fact.c, Pair.c, Cond.c, Action.c, Rule.c, Token.c, Match.c, Alpha.c, Node.c, Network.c, Stamp.c, Firing.c, Choice.c, tagg_23, tagg_9, tfo_31_0, tfo_31_1, tsz_23, tsz_9, d1] <;> rfl) ?_)
    | (refine R_call rfl rfl rfl (by omega) (by simp only [Int.reduceLE, Int.reduceLT, Int.reduceNeg, Int.reduceAdd, Int.reduceSub, Int.reduceToNat, Nat.reduceEqDiff, Nat.reduceLeDiff, Nat.reduceLT, Nat.reduceAdd, Nat.reduceSub, Nat.reduceMul, reduceIte, reduceCtorEq, pv, pbin, peq, plen, pload, pcut, pfill, St.ev, St.set, lk, D.ofV, D.cellsOf, InR.i64, InR.u8, ssL, tx, ix, Fact.c, Pair.c, Cond.c, Action.c, Rule.c, Token.c, Match.c, Alpha.c, Node.c, Network.c, Stamp.c, Firing.c, Choice.c, tagg_23, tagg_9, tfo_31_0, tfo_31_1, tsz_23, tsz_9, d1] <;> rfl) (by rfl) (by exact hc2) (by rfl) ?_)
  exact RetQ_ret (by simp only [Try.f53, resDs, resD, Int.reduceLE, Int.reduceLT, Int.reduceNeg, Int.reduceAdd, Int.reduceSub, Int.reduceToNat, Nat.reduceEqDiff, Nat.reduceLeDiff, Nat.reduceLT, Nat.reduceAdd, Nat.reduceSub, Nat.reduceMul, reduceIte, reduceCtorEq, pv, pbin, peq, plen, pload, pcut, pfill, St.ev, St.set, lk, D.ofV, D.cellsOf, InR.i64, InR.u8, ssL, tx, ix, Fact.c, Pair.c, Cond.c, Action.c, Rule.c, Token.c, Match.c, Alpha.c, Node.c, Network.c, Stamp.c, Firing.c, Choice.c, tagg_23, tagg_9, tfo_31_0, tfo_31_1, tsz_23, tsz_9] <;> rfl) rfl (by simp only [packD]; rw [decide_eq_true hxy])

set_option linter.unusedSimpArgs false in
set_option maxRecDepth 100000 in
set_option maxHeartbeats 1000000 in
theorem sameFact_good (x y : Fact) : Good Try.prog 56 [.agg x.c, .agg y.c] (.bool (decide (x = y))) := by
  refine Good.of Try.func56 rfl (by decide) (by simp [Try.f56]) ?_
  intro hr Γ hΓ
  have hΓ : Γ.nt = 17 := hΓ
  simp only [args0]
  by_cases c1 : x.rel = y.rel
  case neg =>
    have d1 : (x.rel == y.rel) = false := by simp [c1]
    repeat' first
      | refine thenQ_normal ?_
      | refine thenQ_ret ?_
      | refine thenQ_exit ?_
      | refine blockQ_normal ?_
      | refine blockQ_ret ?_
      | refine blockQ_exit ?_
      | refine blockQ_pass rfl ?_
      | refine AW_seq ?_
      | refine AW_block ?_
      | refine AW_skip ?_
      | refine AW_ret ?_
      | refine AW_exit ?_
      | refine AW_region ?_
      | refine AO_nil ?_
      | refine C_nil ?_
      | (refine R_pv rfl rfl (by omega) (by simp only [Int.reduceLE, Int.reduceLT, Int.reduceNeg, Int.reduceAdd, Int.reduceSub, Int.reduceToNat, Nat.reduceEqDiff, Nat.reduceLeDiff, Nat.reduceLT, Nat.reduceAdd, Nat.reduceSub, Nat.reduceMul, reduceIte, reduceCtorEq, pv, pbin, peq, plen, pload, pcut, pfill, St.ev, St.set, lk, D.ofV, D.cellsOf, InR.i64, InR.u8, ssL, tx, ix, Fact.c, Pair.c, Cond.c, Action.c, Rule.c, Token.c, Match.c, Alpha.c, Node.c, Network.c, Stamp.c, Firing.c, Choice.c, tagg_23, tagg_9, tfo_31_0, tfo_31_1, tsz_23, tsz_9, d1] <;> rfl) ?_)
      | (refine R_yes rfl rfl ?_ ?_; focus (simp only [Int.reduceLE, Int.reduceLT, Int.reduceNeg, Int.reduceAdd, Int.reduceSub, Int.reduceToNat, Nat.reduceEqDiff, Nat.reduceLeDiff, Nat.reduceLT, Nat.reduceAdd, Nat.reduceSub, Nat.reduceMul, reduceIte, reduceCtorEq, pv, pbin, peq, plen, pload, pcut, pfill, St.ev, St.set, lk, D.ofV, D.cellsOf, InR.i64, InR.u8, ssL, tx, ix, Fact.c, Pair.c, Cond.c, Action.c, Rule.c, Token.c, Match.c, Alpha.c, Node.c, Network.c, Stamp.c, Firing.c, Choice.c, tagg_23, tagg_9, tfo_31_0, tfo_31_1, tsz_23, tsz_9, d1]; done))
      | (refine R_no rfl rfl rfl (by omega) (by simp only [Int.reduceLE, Int.reduceLT, Int.reduceNeg, Int.reduceAdd, Int.reduceSub, Int.reduceToNat, Nat.reduceEqDiff, Nat.reduceLeDiff, Nat.reduceLT, Nat.reduceAdd, Nat.reduceSub, Nat.reduceMul, reduceIte, reduceCtorEq, pv, pbin, peq, plen, pload, pcut, pfill, St.ev, St.set, lk, D.ofV, D.cellsOf, InR.i64, InR.u8, ssL, tx, ix, Fact.c, Pair.c, Cond.c, Action.c, Rule.c, Token.c, Match.c, Alpha.c, Node.c, Network.c, Stamp.c, Firing.c, Choice.c, tagg_23, tagg_9, tfo_31_0, tfo_31_1, tsz_23, tsz_9, d1] <;> rfl) rfl ?_)
      | (refine R_eff hΓ rfl (by simp only [peff, Int.reduceLE, Int.reduceLT, Int.reduceNeg, Int.reduceAdd, Int.reduceSub, Int.reduceToNat, Nat.reduceEqDiff, Nat.reduceLeDiff, Nat.reduceLT, Nat.reduceAdd, Nat.reduceSub, Nat.reduceMul, reduceIte, reduceCtorEq, pv, pbin, peq, plen, pload, pcut, pfill, St.ev, St.set, lk, D.ofV, D.cellsOf, InR.i64, InR.u8, ssL, tx, ix, Fact.c, Pair.c, Cond.c, Action.c, Rule.c, Token.c, Match.c, Alpha.c, Node.c, Network.c, Stamp.c, Firing.c, Choice.c, tagg_23, tagg_9, tfo_31_0, tfo_31_1, tsz_23, tsz_9, d1] <;> rfl) ?_)
    exact RetQ_ret (by simp only [Try.f56, resDs, resD, Int.reduceLE, Int.reduceLT, Int.reduceNeg, Int.reduceAdd, Int.reduceSub, Int.reduceToNat, Nat.reduceEqDiff, Nat.reduceLeDiff, Nat.reduceLT, Nat.reduceAdd, Nat.reduceSub, Nat.reduceMul, reduceIte, reduceCtorEq, pv, pbin, peq, plen, pload, pcut, pfill, St.ev, St.set, lk, D.ofV, D.cellsOf, InR.i64, InR.u8, ssL, tx, ix, Fact.c, Pair.c, Cond.c, Action.c, Rule.c, Token.c, Match.c, Alpha.c, Node.c, Network.c, Stamp.c, Firing.c, Choice.c, tagg_23, tagg_9, tfo_31_0, tfo_31_1, tsz_23, tsz_9] <;> rfl) rfl (by simp only [packD]; rw [decide_eq_false (fun h => c1 (by rw [h]))])
  have d1 : (x.rel == y.rel) = true := by simp [c1]
  by_cases c2 : x.args = y.args
  case neg =>
    have hc2 := sameTexts_good x.args y.args
    rw [decide_eq_false c2] at hc2
    repeat' first
      | refine thenQ_normal ?_
      | refine thenQ_ret ?_
      | refine thenQ_exit ?_
      | refine blockQ_normal ?_
      | refine blockQ_ret ?_
      | refine blockQ_exit ?_
      | refine blockQ_pass rfl ?_
      | refine AW_seq ?_
      | refine AW_block ?_
      | refine AW_skip ?_
      | refine AW_ret ?_
      | refine AW_exit ?_
      | refine AW_region ?_
      | refine AO_nil ?_
      | refine C_nil ?_
      | (refine R_pv rfl rfl (by omega) (by simp only [Int.reduceLE, Int.reduceLT, Int.reduceNeg, Int.reduceAdd, Int.reduceSub, Int.reduceToNat, Nat.reduceEqDiff, Nat.reduceLeDiff, Nat.reduceLT, Nat.reduceAdd, Nat.reduceSub, Nat.reduceMul, reduceIte, reduceCtorEq, pv, pbin, peq, plen, pload, pcut, pfill, St.ev, St.set, lk, D.ofV, D.cellsOf, InR.i64, InR.u8, ssL, tx, ix, Fact.c, Pair.c, Cond.c, Action.c, Rule.c, Token.c, Match.c, Alpha.c, Node.c, Network.c, Stamp.c, Firing.c, Choice.c, tagg_23, tagg_9, tfo_31_0, tfo_31_1, tsz_23, tsz_9, d1] <;> rfl) ?_)
      | (refine R_yes rfl rfl ?_ ?_; focus (simp only [Int.reduceLE, Int.reduceLT, Int.reduceNeg, Int.reduceAdd, Int.reduceSub, Int.reduceToNat, Nat.reduceEqDiff, Nat.reduceLeDiff, Nat.reduceLT, Nat.reduceAdd, Nat.reduceSub, Nat.reduceMul, reduceIte, reduceCtorEq, pv, pbin, peq, plen, pload, pcut, pfill, St.ev, St.set, lk, D.ofV, D.cellsOf, InR.i64, InR.u8, ssL, tx, ix, Fact.c, Pair.c, Cond.c, Action.c, Rule.c, Token.c, Match.c, Alpha.c, Node.c, Network.c, Stamp.c, Firing.c, Choice.c, tagg_23, tagg_9, tfo_31_0, tfo_31_1, tsz_23, tsz_9, d1]; done))
      | (refine R_no rfl rfl rfl (by omega) (by simp only [Int.reduceLE, Int.reduceLT, Int.reduceNeg, Int.reduceAdd, Int.reduceSub, Int.reduceToNat, Nat.reduceEqDiff, Nat.reduceLeDiff, Nat.reduceLT, Nat.reduceAdd, Nat.reduceSub, Nat.reduceMul, reduceIte, reduceCtorEq, pv, pbin, peq, plen, pload, pcut, pfill, St.ev, St.set, lk, D.ofV, D.cellsOf, InR.i64, InR.u8, ssL, tx, ix, Fact.c, Pair.c, Cond.c, Action.c, Rule.c, Token.c, Match.c, Alpha.c, Node.c, Network.c, Stamp.c, Firing.c, Choice.c, tagg_23, tagg_9, tfo_31_0, tfo_31_1, tsz_23, tsz_9, d1] <;> rfl) rfl ?_)
      | (refine R_eff hΓ rfl (by simp only [peff, Int.reduceLE, Int.reduceLT, Int.reduceNeg, Int.reduceAdd, Int.reduceSub, Int.reduceToNat, Nat.reduceEqDiff, Nat.reduceLeDiff, Nat.reduceLT, Nat.reduceAdd, Nat.reduceSub, Nat.reduceMul, reduceIte, reduceCtorEq, pv, pbin, peq, plen, pload, pcut, pfill, St.ev, St.set, lk, D.ofV, D.cellsOf, InR.i64, InR.u8, ssL, tx, ix, Fact.c, Pair.c, Cond.c, Action.c, Rule.c, Token.c, Match.c, Alpha.c, Node.c, Network.c, Stamp.c, Firing.c, Choice.c, tagg_23, tagg_9, tfo_31_0, tfo_31_1, tsz_23, tsz_9, d1] <;> rfl) ?_)
      | (refine R_call rfl rfl rfl (by omega) (by simp only [Int.reduceLE, Int.reduceLT, Int.reduceNeg, Int.reduceAdd, Int.reduceSub, Int.reduceToNat, Nat.reduceEqDiff, Nat.reduceLeDiff, Nat.reduceLT, Nat.reduceAdd, Nat.reduceSub, Nat.reduceMul, reduceIte, reduceCtorEq, pv, pbin, peq, plen, pload, pcut, pfill, St.ev, St.set, lk, D.ofV, D.cellsOf, InR.i64, InR.u8, ssL, tx, ix, Fact.c, Pair.c, Cond.c, Action.c, Rule.c, Token.c, Match.c, Alpha.c, Node.c, Network.c, Stamp.c, Firing.c, Choice.c, tagg_23, tagg_9, tfo_31_0, tfo_31_1, tsz_23, tsz_9, d1] <;> rfl) (by rfl) (by exact hc2) (by rfl) ?_)
    exact RetQ_ret (by simp only [Try.f56, resDs, resD, Int.reduceLE, Int.reduceLT, Int.reduceNeg, Int.reduceAdd, Int.reduceSub, Int.reduceToNat, Nat.reduceEqDiff, Nat.reduceLeDiff, Nat.reduceLT, Nat.reduceAdd, Nat.reduceSub, Nat.reduceMul, reduceIte, reduceCtorEq, pv, pbin, peq, plen, pload, pcut, pfill, St.ev, St.set, lk, D.ofV, D.cellsOf, InR.i64, InR.u8, ssL, tx, ix, Fact.c, Pair.c, Cond.c, Action.c, Rule.c, Token.c, Match.c, Alpha.c, Node.c, Network.c, Stamp.c, Firing.c, Choice.c, tagg_23, tagg_9, tfo_31_0, tfo_31_1, tsz_23, tsz_9] <;> rfl) rfl (by simp only [packD]; rw [decide_eq_false (fun h => c2 (by rw [h]))])
  have hc2 := sameTexts_good x.args y.args
  rw [decide_eq_true c2] at hc2
  have hxy : x = y := by cases x; cases y; simp_all
  repeat' first
    | refine thenQ_normal ?_
    | refine thenQ_ret ?_
    | refine thenQ_exit ?_
    | refine blockQ_normal ?_
    | refine blockQ_ret ?_
    | refine blockQ_exit ?_
    | refine blockQ_pass rfl ?_
    | refine AW_seq ?_
    | refine AW_block ?_
    | refine AW_skip ?_
    | refine AW_ret ?_
    | refine AW_exit ?_
    | refine AW_region ?_
    | refine AO_nil ?_
    | refine C_nil ?_
    | (refine R_pv rfl rfl (by omega) (by simp only [Int.reduceLE, Int.reduceLT, Int.reduceNeg, Int.reduceAdd, Int.reduceSub, Int.reduceToNat, Nat.reduceEqDiff, Nat.reduceLeDiff, Nat.reduceLT, Nat.reduceAdd, Nat.reduceSub, Nat.reduceMul, reduceIte, reduceCtorEq, pv, pbin, peq, plen, pload, pcut, pfill, St.ev, St.set, lk, D.ofV, D.cellsOf, InR.i64, InR.u8, ssL, tx, ix, Fact.c, Pair.c, Cond.c, Action.c, Rule.c, Token.c, Match.c, Alpha.c, Node.c, Network.c, Stamp.c, Firing.c, Choice.c, tagg_23, tagg_9, tfo_31_0, tfo_31_1, tsz_23, tsz_9, d1] <;> rfl) ?_)
    | (refine R_yes rfl rfl ?_ ?_; focus (simp only [Int.reduceLE, Int.reduceLT, Int.reduceNeg, Int.reduceAdd, Int.reduceSub, Int.reduceToNat, Nat.reduceEqDiff, Nat.reduceLeDiff, Nat.reduceLT, Nat.reduceAdd, Nat.reduceSub, Nat.reduceMul, reduceIte, reduceCtorEq, pv, pbin, peq, plen, pload, pcut, pfill, St.ev, St.set, lk, D.ofV, D.cellsOf, InR.i64, InR.u8, ssL, tx, ix, Fact.c, Pair.c, Cond.c, Action.c, Rule.c, Token.c, Match.c, Alpha.c, Node.c, Network.c, Stamp.c, Firing.c, Choice.c, tagg_23, tagg_9, tfo_31_0, tfo_31_1, tsz_23, tsz_9, d1]; done))
    | (refine R_no rfl rfl rfl (by omega) (by simp only [Int.reduceLE, Int.reduceLT, Int.reduceNeg, Int.reduceAdd, Int.reduceSub, Int.reduceToNat, Nat.reduceEqDiff, Nat.reduceLeDiff, Nat.reduceLT, Nat.reduceAdd, Nat.reduceSub, Nat.reduceMul, reduceIte, reduceCtorEq, pv, pbin, peq, plen, pload, pcut, pfill, St.ev, St.set, lk, D.ofV, D.cellsOf, InR.i64, InR.u8, ssL, tx, ix, Fact.c, Pair.c, Cond.c, Action.c, Rule.c, Token.c, Match.c, Alpha.c, Node.c, Network.c, Stamp.c, Firing.c, Choice.c, tagg_23, tagg_9, tfo_31_0, tfo_31_1, tsz_23, tsz_9, d1] <;> rfl) rfl ?_)
    | (refine R_eff hΓ rfl (by simp only [peff, Int.reduceLE, Int.reduceLT, Int.reduceNeg, Int.reduceAdd, Int.reduceSub, Int.reduceToNat, Nat.reduceEqDiff, Nat.reduceLeDiff, Nat.reduceLT, Nat.reduceAdd, Nat.reduceSub, Nat.reduceMul, reduceIte, reduceCtorEq, pv, pbin, peq, plen, pload, pcut, pfill, St.ev, St.set, lk, D.ofV, D.cellsOf, InR.i64, InR.u8, ssL, tx, ix, Fact.c, Pair.c, Cond.c, Action.c, Rule.c, Token.c, Match.c, Alpha.c, Node.c, Network.c, Stamp.c, Firing.c, Choice.c, tagg_23, tagg_9, tfo_31_0, tfo_31_1, tsz_23, tsz_9, d1] <;> rfl) ?_)
    | (refine R_call rfl rfl rfl (by omega) (by simp only [Int.reduceLE, Int.reduceLT, Int.reduceNeg, Int.reduceAdd, Int.reduceSub, Int.reduceToNat, Nat.reduceEqDiff, Nat.reduceLeDiff, Nat.reduceLT, Nat.reduceAdd, Nat.reduceSub, Nat.reduceMul, reduceIte, reduceCtorEq, pv, pbin, peq, plen, pload, pcut, pfill, St.ev, St.set, lk, D.ofV, D.cellsOf, InR.i64, InR.u8, ssL, tx, ix, Fact.c, Pair.c, Cond.c, Action.c, Rule.c, Token.c, Match.c, Alpha.c, Node.c, Network.c, Stamp.c, Firing.c, Choice.c, tagg_23, tagg_9, tfo_31_0, tfo_31_1, tsz_23, tsz_9, d1] <;> rfl) (by rfl) (by exact hc2) (by rfl) ?_)
  exact RetQ_ret (by simp only [Try.f56, resDs, resD, Int.reduceLE, Int.reduceLT, Int.reduceNeg, Int.reduceAdd, Int.reduceSub, Int.reduceToNat, Nat.reduceEqDiff, Nat.reduceLeDiff, Nat.reduceLT, Nat.reduceAdd, Nat.reduceSub, Nat.reduceMul, reduceIte, reduceCtorEq, pv, pbin, peq, plen, pload, pcut, pfill, St.ev, St.set, lk, D.ofV, D.cellsOf, InR.i64, InR.u8, ssL, tx, ix, Fact.c, Pair.c, Cond.c, Action.c, Rule.c, Token.c, Match.c, Alpha.c, Node.c, Network.c, Stamp.c, Firing.c, Choice.c, tagg_23, tagg_9, tfo_31_0, tfo_31_1, tsz_23, tsz_9] <;> rfl) rfl (by simp only [packD]; rw [decide_eq_true hxy])

end Go.Bx
