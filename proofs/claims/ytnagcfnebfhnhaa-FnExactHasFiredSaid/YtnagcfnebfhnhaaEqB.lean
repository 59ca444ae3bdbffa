/- The laws' own comparisons. No condition. -/
import Derived.Test.YtnagcfnebfhnhaaEqA
import Derived.Test.YtnagcfnebfhnhaaTy
import Derived.KernelRfl
namespace Go.Bx
open Go.RowKit Go.Proofs
set_option linter.unusedSimpArgs false in
set_option maxRecDepth 100000 in
set_option maxHeartbeats 1000000 in
theorem eqFactS_good (l m : List Fact) : Good Try.prog 20 [.sl (l.map Fact.c), .sl (m.map Fact.c)] (.bool (decide (l = m))) := by
  refine Good.of Try.func20 rfl (by decide) (by simp [Try.f20]) ?_
  intro hr Γ hΓ
  have hΓ : Γ.nt = 27 := hΓ
  simp only [args0]
  have hl : l.length ≤ maxLen := (hr (.sl (l.map Fact.c)) (List.mem_cons_self ..)).len
  by_cases c1 : l.length = m.length
  case neg =>
    have d1 : ((l.length : Int) != (m.length : Int)) = true := by simp; omega
    repeat' first
      | refine thenQ_normal ?_
      | refine thenQ_ret ?_
      | refine thenQ_exit ?_
      | refine blockQ_normal ?_
      | refine blockQ_ret ?_
      | refine blockQ_exit ?_
      | refine blockQ_pass rfl ?_
      | refine AW_seq ?_
      | refine AW_block ?_
      | refine AW_skip ?_
      | refine AW_ret ?_
      | refine AW_exit ?_
      | refine AW_region ?_
      | refine AO_nil ?_
      | refine C_nil ?_
      | (refine R_pv rfl rfl (by omega) (by simp only [Int.reduceLE, Int.reduceLT, Int.reduceNeg, Int.reduceAdd, Int.reduceSub, Int.reduceToNat, Nat.reduceEqDiff, Nat.reduceLeDiff, Nat.reduceLT, Nat.reduceAdd, Nat.reduceSub, Nat.reduceMul, reduceIte, reduceCtorEq, pv, pbin, peq, plen, pload, pcut, pfill, St.ev, St.set, lk, D.ofV, D.cellsOf, InR.i64, InR.u8, ssL, tx, ix, Fact.c, Pair.c, Cond.c, Action.c, Rule.c, Token.c, Match.c, Alpha.c, Node.c, Network.c, Stamp.c, Firing.c, Choice.c, tagg_31, tel_36, tstr_36, tsz_31, d1] <;> rfl) ?_)
      | (refine C_pv rfl rfl (by omega) (by simp only [Int.reduceLE, Int.reduceLT, Int.reduceNeg, Int.reduceAdd, Int.reduceSub, Int.reduceToNat, Nat.reduceEqDiff, Nat.reduceLeDiff, Nat.reduceLT, Nat.reduceAdd, Nat.reduceSub, Nat.reduceMul, reduceIte, reduceCtorEq, pv, pbin, peq, plen, pload, pcut, pfill, St.ev, St.set, lk, D.ofV, D.cellsOf, InR.i64, InR.u8, ssL, tx, ix, Fact.c, Pair.c, Cond.c, Action.c, Rule.c, Token.c, Match.c, Alpha.c, Node.c, Network.c, Stamp.c, Firing.c, Choice.c, tagg_31, tel_36, tstr_36, tsz_31, d1] <;> rfl) ?_)
    refine W_true (by simp only [Int.reduceLE, Int.reduceLT, Int.reduceNeg, Int.reduceAdd, Int.reduceSub, Int.reduceToNat, Nat.reduceEqDiff, Nat.reduceLeDiff, Nat.reduceLT, Nat.reduceAdd, Nat.reduceSub, Nat.reduceMul, reduceIte, reduceCtorEq, pv, pbin, peq, plen, pload, pcut, pfill, St.ev, St.set, lk, D.ofV, D.cellsOf, InR.i64, InR.u8, ssL, tx, ix, Fact.c, Pair.c, Cond.c, Action.c, Rule.c, Token.c, Match.c, Alpha.c, Node.c, Network.c, Stamp.c, Firing.c, Choice.c, tagg_31, tel_36, tstr_36, tsz_31, d1] <;> rfl) ?_
    repeat' first
      | refine thenQ_normal ?_
      | refine thenQ_ret ?_
      | refine thenQ_exit ?_
      | refine blockQ_normal ?_
      | refine blockQ_ret ?_
      | refine blockQ_exit ?_
      | refine blockQ_pass rfl ?_
      | refine AW_seq ?_
      | refine AW_block ?_
      | refine AW_skip ?_
      | refine AW_ret ?_
      | refine AW_exit ?_
      | refine AW_region ?_
      | refine AO_nil ?_
      | refine C_nil ?_
      | (refine R_pv rfl rfl (by omega) (by simp only [Int.reduceLE, Int.reduceLT, Int.reduceNeg, Int.reduceAdd, Int.reduceSub, Int.reduceToNat, Nat.reduceEqDiff, Nat.reduceLeDiff, Nat.reduceLT, Nat.reduceAdd, Nat.reduceSub, Nat.reduceMul, reduceIte, reduceCtorEq, pv, pbin, peq, plen, pload, pcut, pfill, St.ev, St.set, lk, D.ofV, D.cellsOf, InR.i64, InR.u8, ssL, tx, ix, Fact.c, Pair.c, Cond.c, Action.c, Rule.c, Token.c, Match.c, Alpha.c, Node.c, Network.c, Stamp.c, Firing.c, Choice.c, tagg_31, tel_36, tstr_36, tsz_31] <;> rfl) ?_)
      | (refine C_pv rfl rfl (by omega) (by simp only [Int.reduceLE, Int.reduceLT, Int.reduceNeg, Int.reduceAdd, Int.reduceSub, Int.reduceToNat, Nat.reduceEqDiff, Nat.reduceLeDiff, Nat.reduceLT, Nat.reduceAdd, Nat.reduceSub, Nat.reduceMul, reduceIte, reduceCtorEq, pv, pbin, peq, plen, pload, pcut, pfill, St.ev, St.set, lk, D.ofV, D.cellsOf, InR.i64, InR.u8, ssL, tx, ix, Fact.c, Pair.c, Cond.c, Action.c, Rule.c, Token.c, Match.c, Alpha.c, Node.c, Network.c, Stamp.c, Firing.c, Choice.c, tagg_31, tel_36, tstr_36, tsz_31] <;> rfl) ?_)
    exact RetQ_ret (by simp only [Try.f20, resDs, resD, Int.reduceLE, Int.reduceLT, Int.reduceNeg, Int.reduceAdd, Int.reduceSub, Int.reduceToNat, Nat.reduceEqDiff, Nat.reduceLeDiff, Nat.reduceLT, Nat.reduceAdd, Nat.reduceSub, Nat.reduceMul, reduceIte, reduceCtorEq, pv, pbin, peq, plen, pload, pcut, pfill, St.ev, St.set, lk, D.ofV, D.cellsOf, InR.i64, InR.u8, ssL, tx, ix, Fact.c, Pair.c, Cond.c, Action.c, Rule.c, Token.c, Match.c, Alpha.c, Node.c, Network.c, Stamp.c, Firing.c, Choice.c, tagg_31, tel_36, tstr_36, tsz_31] <;> rfl) rfl (by simp only [packD]; rw [decide_eq_false (fun h => c1 (by rw [h]))])
  have d1 : ((l.length : Int) != (m.length : Int)) = false := by simp; omega
  repeat' first
    | refine thenQ_normal ?_
    | refine thenQ_ret ?_
    | refine thenQ_exit ?_
    | refine blockQ_normal ?_
    | refine blockQ_ret ?_
    | refine blockQ_exit ?_
    | refine blockQ_pass rfl ?_
    | refine AW_seq ?_
    | refine AW_block ?_
    | refine AW_skip ?_
    | refine AW_ret ?_
    | refine AW_exit ?_
    | refine AW_region ?_
    | refine AO_nil ?_
    | refine C_nil ?_
    | (refine R_pv rfl rfl (by omega) (by simp only [Int.reduceLE, Int.reduceLT, Int.reduceNeg, Int.reduceAdd, Int.reduceSub, Int.reduceToNat, Nat.reduceEqDiff, Nat.reduceLeDiff, Nat.reduceLT, Nat.reduceAdd, Nat.reduceSub, Nat.reduceMul, reduceIte, reduceCtorEq, pv, pbin, peq, plen, pload, pcut, pfill, St.ev, St.set, lk, D.ofV, D.cellsOf, InR.i64, InR.u8, ssL, tx, ix, Fact.c, Pair.c, Cond.c, Action.c, Rule.c, Token.c, Match.c, Alpha.c, Node.c, Network.c, Stamp.c, Firing.c, Choice.c, tagg_31, tel_36, tstr_36, tsz_31, d1] <;> rfl) ?_)
    | (refine C_pv rfl rfl (by omega) (by simp only [Int.reduceLE, Int.reduceLT, Int.reduceNeg, Int.reduceAdd, Int.reduceSub, Int.reduceToNat, Nat.reduceEqDiff, Nat.reduceLeDiff, Nat.reduceLT, Nat.reduceAdd, Nat.reduceSub, Nat.reduceMul, reduceIte, reduceCtorEq, pv, pbin, peq, plen, pload, pcut, pfill, St.ev, St.set, lk, D.ofV, D.cellsOf, InR.i64, InR.u8, ssL, tx, ix, Fact.c, Pair.c, Cond.c, Action.c, Rule.c, Token.c, Match.c, Alpha.c, Node.c, Network.c, Stamp.c, Firing.c, Choice.c, tagg_31, tel_36, tstr_36, tsz_31, d1] <;> rfl) ?_)
  refine W_false (by simp only [Int.reduceLE, Int.reduceLT, Int.reduceNeg, Int.reduceAdd, Int.reduceSub, Int.reduceToNat, Nat.reduceEqDiff, Nat.reduceLeDiff, Nat.reduceLT, Nat.reduceAdd, Nat.reduceSub, Nat.reduceMul, reduceIte, reduceCtorEq, pv, pbin, peq, plen, pload, pcut, pfill, St.ev, St.set, lk, D.ofV, D.cellsOf, InR.i64, InR.u8, ssL, tx, ix, Fact.c, Pair.c, Cond.c, Action.c, Rule.c, Token.c, Match.c, Alpha.c, Node.c, Network.c, Stamp.c, Firing.c, Choice.c, tagg_31, tel_36, tstr_36, tsz_31, d1] <;> rfl) ?_
  repeat' first
    | refine thenQ_normal ?_
    | refine thenQ_ret ?_
    | refine thenQ_exit ?_
    | refine blockQ_normal ?_
    | refine blockQ_ret ?_
    | refine blockQ_exit ?_
    | refine blockQ_pass rfl ?_
    | refine AW_seq ?_
    | refine AW_block ?_
    | refine AW_skip ?_
    | refine AW_ret ?_
    | refine AW_exit ?_
    | refine AW_region ?_
    | refine AO_nil ?_
    | refine C_nil ?_
    | (refine R_pv rfl rfl (by omega) (by simp only [Int.reduceLE, Int.reduceLT, Int.reduceNeg, Int.reduceAdd, Int.reduceSub, Int.reduceToNat, Nat.reduceEqDiff, Nat.reduceLeDiff, Nat.reduceLT, Nat.reduceAdd, Nat.reduceSub, Nat.reduceMul, reduceIte, reduceCtorEq, pv, pbin, peq, plen, pload, pcut, pfill, St.ev, St.set, lk, D.ofV, D.cellsOf, InR.i64, InR.u8, ssL, tx, ix, Fact.c, Pair.c, Cond.c, Action.c, Rule.c, Token.c, Match.c, Alpha.c, Node.c, Network.c, Stamp.c, Firing.c, Choice.c, tagg_31, tel_36, tstr_36, tsz_31] <;> rfl) ?_)
    | (refine C_pv rfl rfl (by omega) (by simp only [Int.reduceLE, Int.reduceLT, Int.reduceNeg, Int.reduceAdd, Int.reduceSub, Int.reduceToNat, Nat.reduceEqDiff, Nat.reduceLeDiff, Nat.reduceLT, Nat.reduceAdd, Nat.reduceSub, Nat.reduceMul, reduceIte, reduceCtorEq, pv, pbin, peq, plen, pload, pcut, pfill, St.ev, St.set, lk, D.ofV, D.cellsOf, InR.i64, InR.u8, ssL, tx, ix, Fact.c, Pair.c, Cond.c, Action.c, Rule.c, Token.c, Match.c, Alpha.c, Node.c, Network.c, Stamp.c, Firing.c, Choice.c, tagg_31, tel_36, tstr_36, tsz_31] <;> rfl) ?_)
  refine W_for [0, 1, 5] 0 (fun k => ⟨[(0, .sl (l.map Fact.c)), (1, .sl (m.map Fact.c)), (5, .int .i64 (k : Nat))], []⟩)
    (fun k => l.take k = m.take k) l.length rfl ?_ rfl ?_
  · simp only [St.trim, Int.reduceLE, Int.reduceLT, Int.reduceNeg, Int.reduceAdd, Int.reduceSub, Int.reduceToNat, Nat.reduceEqDiff, Nat.reduceLeDiff, Nat.reduceLT, Nat.reduceAdd, Nat.reduceSub, Nat.reduceMul, reduceIte, reduceCtorEq, pv, pbin, peq, plen, pload, pcut, pfill, St.ev, St.set, lk, D.ofV, D.cellsOf, InR.i64, InR.u8, ssL, tx, ix, Fact.c, Pair.c, Cond.c, Action.c, Rule.c, Token.c, Match.c, Alpha.c, Node.c, Network.c, Stamp.c, Firing.c, Choice.c, tagg_31, tel_36, tstr_36, tsz_31]
  · intro k hk hI
    rcases Nat.lt_or_ge k l.length with hlt | hge
    · obtain ⟨x, hx⟩ := getx hlt
      obtain ⟨y, hy⟩ := getx (l := m) (k := k) (by omega)
      have hd := lt_true hlt
      have wk := wrap_succ hlt hl
      by_cases c2 : x = y
      case neg =>
        have hc := eqFact_good x y
        rw [decide_eq_false c2] at hc
        repeat' first
          | refine thenQ_normal ?_
          | refine thenQ_ret ?_
          | refine thenQ_exit ?_
          | refine blockQ_normal ?_
          | refine blockQ_ret ?_
          | refine blockQ_exit ?_
          | refine blockQ_pass rfl ?_
          | refine AW_seq ?_
          | refine AW_block ?_
          | refine AW_skip ?_
          | refine AW_ret ?_
          | refine AW_exit ?_
          | refine AW_region ?_
          | refine AO_nil ?_
          | refine C_nil ?_
          | (refine R_pv rfl rfl (by omega) (by simp only [Int.reduceLE, Int.reduceLT, Int.reduceNeg, Int.reduceAdd, Int.reduceSub, Int.reduceToNat, Nat.reduceEqDiff, Nat.reduceLeDiff, Nat.reduceLT, Nat.reduceAdd, Nat.reduceSub, Nat.reduceMul, reduceIte, reduceCtorEq, pv, pbin, peq, plen, pload, pcut, pfill, St.ev, St.set, lk, D.ofV, D.cellsOf, InR.i64, InR.u8, ssL, tx, ix, Fact.c, Pair.c, Cond.c, Action.c, Rule.c, Token.c, Match.c, Alpha.c, Node.c, Network.c, Stamp.c, Firing.c, Choice.c, tagg_31, tel_36, tstr_36, tsz_31, hd, hx, hy, wk] <;> rfl) ?_)
          | (refine C_pv rfl rfl (by omega) (by simp only [Int.reduceLE, Int.reduceLT, Int.reduceNeg, Int.reduceAdd, Int.reduceSub, Int.reduceToNat, Nat.reduceEqDiff, Nat.reduceLeDiff, Nat.reduceLT, Nat.reduceAdd, Nat.reduceSub, Nat.reduceMul, reduceIte, reduceCtorEq, pv, pbin, peq, plen, pload, pcut, pfill, St.ev, St.set, lk, D.ofV, D.cellsOf, InR.i64, InR.u8, ssL, tx, ix, Fact.c, Pair.c, Cond.c, Action.c, Rule.c, Token.c, Match.c, Alpha.c, Node.c, Network.c, Stamp.c, Firing.c, Choice.c, tagg_31, tel_36, tstr_36, tsz_31, hd, hx, hy, wk] <;> rfl) ?_)
        refine W_true (by simp only [Int.reduceLE, Int.reduceLT, Int.reduceNeg, Int.reduceAdd, Int.reduceSub, Int.reduceToNat, Nat.reduceEqDiff, Nat.reduceLeDiff, Nat.reduceLT, Nat.reduceAdd, Nat.reduceSub, Nat.reduceMul, reduceIte, reduceCtorEq, pv, pbin, peq, plen, pload, pcut, pfill, St.ev, St.set, lk, D.ofV, D.cellsOf, InR.i64, InR.u8, ssL, tx, ix, Fact.c, Pair.c, Cond.c, Action.c, Rule.c, Token.c, Match.c, Alpha.c, Node.c, Network.c, Stamp.c, Firing.c, Choice.c, tagg_31, tel_36, tstr_36, tsz_31, hd] <;> rfl) ?_
        repeat' first
          | refine thenQ_normal ?_
          | refine thenQ_ret ?_
          | refine thenQ_exit ?_
          | refine blockQ_normal ?_
          | refine blockQ_ret ?_
          | refine blockQ_exit ?_
          | refine blockQ_pass rfl ?_
          | refine AW_seq ?_
          | refine AW_block ?_
          | refine AW_skip ?_
          | refine AW_ret ?_
          | refine AW_exit ?_
          | refine AW_region ?_
          | refine AO_nil ?_
          | refine C_nil ?_
          | (refine R_pv rfl rfl (by omega) (by simp only [Int.reduceLE, Int.reduceLT, Int.reduceNeg, Int.reduceAdd, Int.reduceSub, Int.reduceToNat, Nat.reduceEqDiff, Nat.reduceLeDiff, Nat.reduceLT, Nat.reduceAdd, Nat.reduceSub, Nat.reduceMul, reduceIte, reduceCtorEq, pv, pbin, peq, plen, pload, pcut, pfill, St.ev, St.set, lk, D.ofV, D.cellsOf, InR.i64, InR.u8, ssL, tx, ix, Fact.c, Pair.c, Cond.c, Action.c, Rule.c, Token.c, Match.c, Alpha.c, Node.c, Network.c, Stamp.c, Firing.c, Choice.c, tagg_31, tel_36, tstr_36, tsz_31, hd, hx, hy, wk] <;> rfl) ?_)
          | (refine C_pv rfl rfl (by omega) (by simp only [Int.reduceLE, Int.reduceLT, Int.reduceNeg, Int.reduceAdd, Int.reduceSub, Int.reduceToNat, Nat.reduceEqDiff, Nat.reduceLeDiff, Nat.reduceLT, Nat.reduceAdd, Nat.reduceSub, Nat.reduceMul, reduceIte, reduceCtorEq, pv, pbin, peq, plen, pload, pcut, pfill, St.ev, St.set, lk, D.ofV, D.cellsOf, InR.i64, InR.u8, ssL, tx, ix, Fact.c, Pair.c, Cond.c, Action.c, Rule.c, Token.c, Match.c, Alpha.c, Node.c, Network.c, Stamp.c, Firing.c, Choice.c, tagg_31, tel_36, tstr_36, tsz_31, hd, hx, hy, wk] <;> rfl) ?_)
        refine W_draw 8 (by kernel_rfl) (by kernel_rfl) rfl rfl ?_
        repeat' first
          | refine thenQ_normal ?_
          | refine thenQ_ret ?_
          | refine thenQ_exit ?_
          | refine blockQ_normal ?_
          | refine blockQ_ret ?_
          | refine blockQ_exit ?_
          | refine blockQ_pass rfl ?_
          | refine AW_seq ?_
          | refine AW_block ?_
          | refine AW_skip ?_
          | refine AW_ret ?_
          | refine AW_exit ?_
          | refine AW_region ?_
          | refine AO_nil ?_
          | refine C_nil ?_
          | (refine R_pv rfl rfl (by omega) (by simp only [Int.reduceLE, Int.reduceLT, Int.reduceNeg, Int.reduceAdd, Int.reduceSub, Int.reduceToNat, Nat.reduceEqDiff, Nat.reduceLeDiff, Nat.reduceLT, Nat.reduceAdd, Nat.reduceSub, Nat.reduceMul, reduceIte, reduceCtorEq, pv, pbin, peq, plen, pload, pcut, pfill, St.ev, St.set, lk, D.ofV, D.cellsOf, InR.i64, InR.u8, ssL, tx, ix, Fact.c, Pair.c, Cond.c, Action.c, Rule.c, Token.c, Match.c, Alpha.c, Node.c, Network.c, Stamp.c, Firing.c, Choice.c, tagg_31, tel_36, tstr_36, tsz_31, hd, hx, hy, wk] <;> rfl) ?_)
          | (refine C_pv rfl rfl (by omega) (by simp only [Int.reduceLE, Int.reduceLT, Int.reduceNeg, Int.reduceAdd, Int.reduceSub, Int.reduceToNat, Nat.reduceEqDiff, Nat.reduceLeDiff, Nat.reduceLT, Nat.reduceAdd, Nat.reduceSub, Nat.reduceMul, reduceIte, reduceCtorEq, pv, pbin, peq, plen, pload, pcut, pfill, St.ev, St.set, lk, D.ofV, D.cellsOf, InR.i64, InR.u8, ssL, tx, ix, Fact.c, Pair.c, Cond.c, Action.c, Rule.c, Token.c, Match.c, Alpha.c, Node.c, Network.c, Stamp.c, Firing.c, Choice.c, tagg_31, tel_36, tstr_36, tsz_31, hd, hx, hy, wk] <;> rfl) ?_)
          | (refine R_call rfl rfl rfl (by omega) (by simp only [Int.reduceLE, Int.reduceLT, Int.reduceNeg, Int.reduceAdd, Int.reduceSub, Int.reduceToNat, Nat.reduceEqDiff, Nat.reduceLeDiff, Nat.reduceLT, Nat.reduceAdd, Nat.reduceSub, Nat.reduceMul, reduceIte, reduceCtorEq, pv, pbin, peq, plen, pload, pcut, pfill, St.ev, St.set, lk, D.ofV, D.cellsOf, InR.i64, InR.u8, ssL, tx, ix, Fact.c, Pair.c, Cond.c, Action.c, Rule.c, Token.c, Match.c, Alpha.c, Node.c, Network.c, Stamp.c, Firing.c, Choice.c, tagg_31, tel_36, tstr_36, tsz_31, hd, hx, hy, wk] <;> rfl) (by rfl) (by exact hc) (by rfl) ?_)
          | (refine C_call rfl rfl rfl (by omega) (by simp only [Int.reduceLE, Int.reduceLT, Int.reduceNeg, Int.reduceAdd, Int.reduceSub, Int.reduceToNat, Nat.reduceEqDiff, Nat.reduceLeDiff, Nat.reduceLT, Nat.reduceAdd, Nat.reduceSub, Nat.reduceMul, reduceIte, reduceCtorEq, pv, pbin, peq, plen, pload, pcut, pfill, St.ev, St.set, lk, D.ofV, D.cellsOf, InR.i64, InR.u8, ssL, tx, ix, Fact.c, Pair.c, Cond.c, Action.c, Rule.c, Token.c, Match.c, Alpha.c, Node.c, Network.c, Stamp.c, Firing.c, Choice.c, tagg_31, tel_36, tstr_36, tsz_31, hd, hx, hy, wk] <;> rfl) (by rfl) (by exact hc) (by rfl) ?_)
        refine W_true (by simp only [Int.reduceLE, Int.reduceLT, Int.reduceNeg, Int.reduceAdd, Int.reduceSub, Int.reduceToNat, Nat.reduceEqDiff, Nat.reduceLeDiff, Nat.reduceLT, Nat.reduceAdd, Nat.reduceSub, Nat.reduceMul, reduceIte, reduceCtorEq, pv, pbin, peq, plen, pload, pcut, pfill, St.ev, St.set, lk, D.ofV, D.cellsOf, InR.i64, InR.u8, ssL, tx, ix, Fact.c, Pair.c, Cond.c, Action.c, Rule.c, Token.c, Match.c, Alpha.c, Node.c, Network.c, Stamp.c, Firing.c, Choice.c, tagg_31, tel_36, tstr_36, tsz_31] <;> rfl) ?_
        repeat' first
          | refine thenQ_normal ?_
          | refine thenQ_ret ?_
          | refine thenQ_exit ?_
          | refine blockQ_normal ?_
          | refine blockQ_ret ?_
          | refine blockQ_exit ?_
          | refine blockQ_pass rfl ?_
          | refine AW_seq ?_
          | refine AW_block ?_
          | refine AW_skip ?_
          | refine AW_ret ?_
          | refine AW_exit ?_
          | refine AW_region ?_
          | refine AO_nil ?_
          | refine C_nil ?_
          | (refine R_pv rfl rfl (by omega) (by simp only [Int.reduceLE, Int.reduceLT, Int.reduceNeg, Int.reduceAdd, Int.reduceSub, Int.reduceToNat, Nat.reduceEqDiff, Nat.reduceLeDiff, Nat.reduceLT, Nat.reduceAdd, Nat.reduceSub, Nat.reduceMul, reduceIte, reduceCtorEq, pv, pbin, peq, plen, pload, pcut, pfill, St.ev, St.set, lk, D.ofV, D.cellsOf, InR.i64, InR.u8, ssL, tx, ix, Fact.c, Pair.c, Cond.c, Action.c, Rule.c, Token.c, Match.c, Alpha.c, Node.c, Network.c, Stamp.c, Firing.c, Choice.c, tagg_31, tel_36, tstr_36, tsz_31] <;> rfl) ?_)
          | (refine C_pv rfl rfl (by omega) (by simp only [Int.reduceLE, Int.reduceLT, Int.reduceNeg, Int.reduceAdd, Int.reduceSub, Int.reduceToNat, Nat.reduceEqDiff, Nat.reduceLeDiff, Nat.reduceLT, Nat.reduceAdd, Nat.reduceSub, Nat.reduceMul, reduceIte, reduceCtorEq, pv, pbin, peq, plen, pload, pcut, pfill, St.ev, St.set, lk, D.ofV, D.cellsOf, InR.i64, InR.u8, ssL, tx, ix, Fact.c, Pair.c, Cond.c, Action.c, Rule.c, Token.c, Match.c, Alpha.c, Node.c, Network.c, Stamp.c, Firing.c, Choice.c, tagg_31, tel_36, tstr_36, tsz_31] <;> rfl) ?_)
        exact RetQ_ret (by simp only [Try.f20, resDs, resD, Int.reduceLE, Int.reduceLT, Int.reduceNeg, Int.reduceAdd, Int.reduceSub, Int.reduceToNat, Nat.reduceEqDiff, Nat.reduceLeDiff, Nat.reduceLT, Nat.reduceAdd, Nat.reduceSub, Nat.reduceMul, reduceIte, reduceCtorEq, pv, pbin, peq, plen, pload, pcut, pfill, St.ev, St.set, lk, D.ofV, D.cellsOf, InR.i64, InR.u8, ssL, tx, ix, Fact.c, Pair.c, Cond.c, Action.c, Rule.c, Token.c, Match.c, Alpha.c, Node.c, Network.c, Stamp.c, Firing.c, Choice.c, tagg_31, tel_36, tstr_36, tsz_31] <;> rfl) rfl (by simp only [packD]; rw [decide_eq_false (fun h => c2 (by rw [h, hy] at hx; exact (Option.some.inj hx).symm))])
      have hc := eqFact_good x y
      rw [decide_eq_true c2] at hc
      repeat' first
        | refine thenQ_normal ?_
        | refine thenQ_ret ?_
        | refine thenQ_exit ?_
        | refine blockQ_normal ?_
        | refine blockQ_ret ?_
        | refine blockQ_exit ?_
        | refine blockQ_pass rfl ?_
        | refine AW_seq ?_
        | refine AW_block ?_
        | refine AW_skip ?_
        | refine AW_ret ?_
        | refine AW_exit ?_
        | refine AW_region ?_
        | refine AO_nil ?_
        | refine C_nil ?_
        | (refine R_pv rfl rfl (by omega) (by simp only [Int.reduceLE, Int.reduceLT, Int.reduceNeg, Int.reduceAdd, Int.reduceSub, Int.reduceToNat, Nat.reduceEqDiff, Nat.reduceLeDiff, Nat.reduceLT, Nat.reduceAdd, Nat.reduceSub, Nat.reduceMul, reduceIte, reduceCtorEq, pv, pbin, peq, plen, pload, pcut, pfill, St.ev, St.set, lk, D.ofV, D.cellsOf, InR.i64, InR.u8, ssL, tx, ix, Fact.c, Pair.c, Cond.c, Action.c, Rule.c, Token.c, Match.c, Alpha.c, Node.c, Network.c, Stamp.c, Firing.c, Choice.c, tagg_31, tel_36, tstr_36, tsz_31, hd, hx, hy, wk] <;> rfl) ?_)
        | (refine C_pv rfl rfl (by omega) (by simp only [Int.reduceLE, Int.reduceLT, Int.reduceNeg, Int.reduceAdd, Int.reduceSub, Int.reduceToNat, Nat.reduceEqDiff, Nat.reduceLeDiff, Nat.reduceLT, Nat.reduceAdd, Nat.reduceSub, Nat.reduceMul, reduceIte, reduceCtorEq, pv, pbin, peq, plen, pload, pcut, pfill, St.ev, St.set, lk, D.ofV, D.cellsOf, InR.i64, InR.u8, ssL, tx, ix, Fact.c, Pair.c, Cond.c, Action.c, Rule.c, Token.c, Match.c, Alpha.c, Node.c, Network.c, Stamp.c, Firing.c, Choice.c, tagg_31, tel_36, tstr_36, tsz_31, hd, hx, hy, wk] <;> rfl) ?_)
      refine W_true (by simp only [Int.reduceLE, Int.reduceLT, Int.reduceNeg, Int.reduceAdd, Int.reduceSub, Int.reduceToNat, Nat.reduceEqDiff, Nat.reduceLeDiff, Nat.reduceLT, Nat.reduceAdd, Nat.reduceSub, Nat.reduceMul, reduceIte, reduceCtorEq, pv, pbin, peq, plen, pload, pcut, pfill, St.ev, St.set, lk, D.ofV, D.cellsOf, InR.i64, InR.u8, ssL, tx, ix, Fact.c, Pair.c, Cond.c, Action.c, Rule.c, Token.c, Match.c, Alpha.c, Node.c, Network.c, Stamp.c, Firing.c, Choice.c, tagg_31, tel_36, tstr_36, tsz_31, hd] <;> rfl) ?_
      repeat' first
        | refine thenQ_normal ?_
        | refine thenQ_ret ?_
        | refine thenQ_exit ?_
        | refine blockQ_normal ?_
        | refine blockQ_ret ?_
        | refine blockQ_exit ?_
        | refine blockQ_pass rfl ?_
        | refine AW_seq ?_
        | refine AW_block ?_
        | refine AW_skip ?_
        | refine AW_ret ?_
        | refine AW_exit ?_
        | refine AW_region ?_
        | refine AO_nil ?_
        | refine C_nil ?_
        | (refine R_pv rfl rfl (by omega) (by simp only [Int.reduceLE, Int.reduceLT, Int.reduceNeg, Int.reduceAdd, Int.reduceSub, Int.reduceToNat, Nat.reduceEqDiff, Nat.reduceLeDiff, Nat.reduceLT, Nat.reduceAdd, Nat.reduceSub, Nat.reduceMul, reduceIte, reduceCtorEq, pv, pbin, peq, plen, pload, pcut, pfill, St.ev, St.set, lk, D.ofV, D.cellsOf, InR.i64, InR.u8, ssL, tx, ix, Fact.c, Pair.c, Cond.c, Action.c, Rule.c, Token.c, Match.c, Alpha.c, Node.c, Network.c, Stamp.c, Firing.c, Choice.c, tagg_31, tel_36, tstr_36, tsz_31, hd, hx, hy, wk] <;> rfl) ?_)
        | (refine C_pv rfl rfl (by omega) (by simp only [Int.reduceLE, Int.reduceLT, Int.reduceNeg, Int.reduceAdd, Int.reduceSub, Int.reduceToNat, Nat.reduceEqDiff, Nat.reduceLeDiff, Nat.reduceLT, Nat.reduceAdd, Nat.reduceSub, Nat.reduceMul, reduceIte, reduceCtorEq, pv, pbin, peq, plen, pload, pcut, pfill, St.ev, St.set, lk, D.ofV, D.cellsOf, InR.i64, InR.u8, ssL, tx, ix, Fact.c, Pair.c, Cond.c, Action.c, Rule.c, Token.c, Match.c, Alpha.c, Node.c, Network.c, Stamp.c, Firing.c, Choice.c, tagg_31, tel_36, tstr_36, tsz_31, hd, hx, hy, wk] <;> rfl) ?_)
      refine W_draw 8 (by kernel_rfl) (by kernel_rfl) rfl rfl ?_
      repeat' first
        | refine thenQ_normal ?_
        | refine thenQ_ret ?_
        | refine thenQ_exit ?_
        | refine blockQ_normal ?_
        | refine blockQ_ret ?_
        | refine blockQ_exit ?_
        | refine blockQ_pass rfl ?_
        | refine AW_seq ?_
        | refine AW_block ?_
        | refine AW_skip ?_
        | refine AW_ret ?_
        | refine AW_exit ?_
        | refine AW_region ?_
        | refine AO_nil ?_
        | refine C_nil ?_
        | (refine R_pv rfl rfl (by omega) (by simp only [Int.reduceLE, Int.reduceLT, Int.reduceNeg, Int.reduceAdd, Int.reduceSub, Int.reduceToNat, Nat.reduceEqDiff, Nat.reduceLeDiff, Nat.reduceLT, Nat.reduceAdd, Nat.reduceSub, Nat.reduceMul, reduceIte, reduceCtorEq, pv, pbin, peq, plen, pload, pcut, pfill, St.ev, St.set, lk, D.ofV, D.cellsOf, InR.i64, InR.u8, ssL, tx, ix, Fact.c, Pair.c, Cond.c, Action.c, Rule.c, Token.c, Match.c, Alpha.c, Node.c, Network.c, Stamp.c, Firing.c, Choice.c, tagg_31, tel_36, tstr_36, tsz_31, hd, hx, hy, wk] <;> rfl) ?_)
        | (refine C_pv rfl rfl (by omega) (by simp only [Int.reduceLE, Int.reduceLT, Int.reduceNeg, Int.reduceAdd, Int.reduceSub, Int.reduceToNat, Nat.reduceEqDiff, Nat.reduceLeDiff, Nat.reduceLT, Nat.reduceAdd, Nat.reduceSub, Nat.reduceMul, reduceIte, reduceCtorEq, pv, pbin, peq, plen, pload, pcut, pfill, St.ev, St.set, lk, D.ofV, D.cellsOf, InR.i64, InR.u8, ssL, tx, ix, Fact.c, Pair.c, Cond.c, Action.c, Rule.c, Token.c, Match.c, Alpha.c, Node.c, Network.c, Stamp.c, Firing.c, Choice.c, tagg_31, tel_36, tstr_36, tsz_31, hd, hx, hy, wk] <;> rfl) ?_)
        | (refine R_call rfl rfl rfl (by omega) (by simp only [Int.reduceLE, Int.reduceLT, Int.reduceNeg, Int.reduceAdd, Int.reduceSub, Int.reduceToNat, Nat.reduceEqDiff, Nat.reduceLeDiff, Nat.reduceLT, Nat.reduceAdd, Nat.reduceSub, Nat.reduceMul, reduceIte, reduceCtorEq, pv, pbin, peq, plen, pload, pcut, pfill, St.ev, St.set, lk, D.ofV, D.cellsOf, InR.i64, InR.u8, ssL, tx, ix, Fact.c, Pair.c, Cond.c, Action.c, Rule.c, Token.c, Match.c, Alpha.c, Node.c, Network.c, Stamp.c, Firing.c, Choice.c, tagg_31, tel_36, tstr_36, tsz_31, hd, hx, hy, wk] <;> rfl) (by rfl) (by exact hc) (by rfl) ?_)
        | (refine C_call rfl rfl rfl (by omega) (by simp only [Int.reduceLE, Int.reduceLT, Int.reduceNeg, Int.reduceAdd, Int.reduceSub, Int.reduceToNat, Nat.reduceEqDiff, Nat.reduceLeDiff, Nat.reduceLT, Nat.reduceAdd, Nat.reduceSub, Nat.reduceMul, reduceIte, reduceCtorEq, pv, pbin, peq, plen, pload, pcut, pfill, St.ev, St.set, lk, D.ofV, D.cellsOf, InR.i64, InR.u8, ssL, tx, ix, Fact.c, Pair.c, Cond.c, Action.c, Rule.c, Token.c, Match.c, Alpha.c, Node.c, Network.c, Stamp.c, Firing.c, Choice.c, tagg_31, tel_36, tstr_36, tsz_31, hd, hx, hy, wk] <;> rfl) (by rfl) (by exact hc) (by rfl) ?_)
      refine W_false (by simp only [Int.reduceLE, Int.reduceLT, Int.reduceNeg, Int.reduceAdd, Int.reduceSub, Int.reduceToNat, Nat.reduceEqDiff, Nat.reduceLeDiff, Nat.reduceLT, Nat.reduceAdd, Nat.reduceSub, Nat.reduceMul, reduceIte, reduceCtorEq, pv, pbin, peq, plen, pload, pcut, pfill, St.ev, St.set, lk, D.ofV, D.cellsOf, InR.i64, InR.u8, ssL, tx, ix, Fact.c, Pair.c, Cond.c, Action.c, Rule.c, Token.c, Match.c, Alpha.c, Node.c, Network.c, Stamp.c, Firing.c, Choice.c, tagg_31, tel_36, tstr_36, tsz_31] <;> rfl) ?_
      repeat' first
        | refine thenQ_normal ?_
        | refine thenQ_ret ?_
        | refine thenQ_exit ?_
        | refine blockQ_normal ?_
        | refine blockQ_ret ?_
        | refine blockQ_exit ?_
        | refine blockQ_pass rfl ?_
        | refine AW_seq ?_
        | refine AW_block ?_
        | refine AW_skip ?_
        | refine AW_ret ?_
        | refine AW_exit ?_
        | refine AW_region ?_
        | refine AO_nil ?_
        | refine C_nil ?_
        | (refine R_pv rfl rfl (by omega) (by simp only [Int.reduceLE, Int.reduceLT, Int.reduceNeg, Int.reduceAdd, Int.reduceSub, Int.reduceToNat, Nat.reduceEqDiff, Nat.reduceLeDiff, Nat.reduceLT, Nat.reduceAdd, Nat.reduceSub, Nat.reduceMul, reduceIte, reduceCtorEq, pv, pbin, peq, plen, pload, pcut, pfill, St.ev, St.set, lk, D.ofV, D.cellsOf, InR.i64, InR.u8, ssL, tx, ix, Fact.c, Pair.c, Cond.c, Action.c, Rule.c, Token.c, Match.c, Alpha.c, Node.c, Network.c, Stamp.c, Firing.c, Choice.c, tagg_31, tel_36, tstr_36, tsz_31, wk] <;> rfl) ?_)
        | (refine C_pv rfl rfl (by omega) (by simp only [Int.reduceLE, Int.reduceLT, Int.reduceNeg, Int.reduceAdd, Int.reduceSub, Int.reduceToNat, Nat.reduceEqDiff, Nat.reduceLeDiff, Nat.reduceLT, Nat.reduceAdd, Nat.reduceSub, Nat.reduceMul, reduceIte, reduceCtorEq, pv, pbin, peq, plen, pload, pcut, pfill, St.ev, St.set, lk, D.ofV, D.cellsOf, InR.i64, InR.u8, ssL, tx, ix, Fact.c, Pair.c, Cond.c, Action.c, Rule.c, Token.c, Match.c, Alpha.c, Node.c, Network.c, Stamp.c, Firing.c, Choice.c, tagg_31, tel_36, tstr_36, tsz_31, wk] <;> rfl) ?_)
      refine ⟨hlt, rfl, ?_, by rw [take_snoc hx, take_snoc hy, hI, c2]⟩
      simp only [St.trim, Int.reduceLE, Int.reduceLT, Int.reduceNeg, Int.reduceAdd, Int.reduceSub, Int.reduceToNat, Nat.reduceEqDiff, Nat.reduceLeDiff, Nat.reduceLT, Nat.reduceAdd, Nat.reduceSub, Nat.reduceMul, reduceIte, reduceCtorEq, pv, pbin, peq, plen, pload, pcut, pfill, St.ev, St.set, lk, D.ofV, D.cellsOf, InR.i64, InR.u8, ssL, tx, ix, Fact.c, Pair.c, Cond.c, Action.c, Rule.c, Token.c, Match.c, Alpha.c, Node.c, Network.c, Stamp.c, Firing.c, Choice.c, tagg_31, tel_36, tstr_36, tsz_31]
    · have hd := lt_false hge
      have hkl : k = l.length := by omega
      subst hkl
      have hlm : l = m := by rw [List.take_length, c1, List.take_length] at hI; exact hI
      repeat' first
        | refine thenQ_normal ?_
        | refine thenQ_ret ?_
        | refine thenQ_exit ?_
        | refine blockQ_normal ?_
        | refine blockQ_ret ?_
        | refine blockQ_exit ?_
        | refine blockQ_pass rfl ?_
        | refine AW_seq ?_
        | refine AW_block ?_
        | refine AW_skip ?_
        | refine AW_ret ?_
        | refine AW_exit ?_
        | refine AW_region ?_
        | refine AO_nil ?_
        | refine C_nil ?_
        | (refine R_pv rfl rfl (by omega) (by simp only [Int.reduceLE, Int.reduceLT, Int.reduceNeg, Int.reduceAdd, Int.reduceSub, Int.reduceToNat, Nat.reduceEqDiff, Nat.reduceLeDiff, Nat.reduceLT, Nat.reduceAdd, Nat.reduceSub, Nat.reduceMul, reduceIte, reduceCtorEq, pv, pbin, peq, plen, pload, pcut, pfill, St.ev, St.set, lk, D.ofV, D.cellsOf, InR.i64, InR.u8, ssL, tx, ix, Fact.c, Pair.c, Cond.c, Action.c, Rule.c, Token.c, Match.c, Alpha.c, Node.c, Network.c, Stamp.c, Firing.c, Choice.c, tagg_31, tel_36, tstr_36, tsz_31, hd] <;> rfl) ?_)
        | (refine C_pv rfl rfl (by omega) (by simp only [Int.reduceLE, Int.reduceLT, Int.reduceNeg, Int.reduceAdd, Int.reduceSub, Int.reduceToNat, Nat.reduceEqDiff, Nat.reduceLeDiff, Nat.reduceLT, Nat.reduceAdd, Nat.reduceSub, Nat.reduceMul, reduceIte, reduceCtorEq, pv, pbin, peq, plen, pload, pcut, pfill, St.ev, St.set, lk, D.ofV, D.cellsOf, InR.i64, InR.u8, ssL, tx, ix, Fact.c, Pair.c, Cond.c, Action.c, Rule.c, Token.c, Match.c, Alpha.c, Node.c, Network.c, Stamp.c, Firing.c, Choice.c, tagg_31, tel_36, tstr_36, tsz_31, hd] <;> rfl) ?_)
      refine W_false (by simp only [Int.reduceLE, Int.reduceLT, Int.reduceNeg, Int.reduceAdd, Int.reduceSub, Int.reduceToNat, Nat.reduceEqDiff, Nat.reduceLeDiff, Nat.reduceLT, Nat.reduceAdd, Nat.reduceSub, Nat.reduceMul, reduceIte, reduceCtorEq, pv, pbin, peq, plen, pload, pcut, pfill, St.ev, St.set, lk, D.ofV, D.cellsOf, InR.i64, InR.u8, ssL, tx, ix, Fact.c, Pair.c, Cond.c, Action.c, Rule.c, Token.c, Match.c, Alpha.c, Node.c, Network.c, Stamp.c, Firing.c, Choice.c, tagg_31, tel_36, tstr_36, tsz_31, hd] <;> rfl) ?_
      repeat' first
        | refine thenQ_normal ?_
        | refine thenQ_ret ?_
        | refine thenQ_exit ?_
        | refine blockQ_normal ?_
        | refine blockQ_ret ?_
        | refine blockQ_exit ?_
        | refine blockQ_pass rfl ?_
        | refine AW_seq ?_
        | refine AW_block ?_
        | refine AW_skip ?_
        | refine AW_ret ?_
        | refine AW_exit ?_
        | refine AW_region ?_
        | refine AO_nil ?_
        | refine C_nil ?_
        | (refine R_pv rfl rfl (by omega) (by simp only [Int.reduceLE, Int.reduceLT, Int.reduceNeg, Int.reduceAdd, Int.reduceSub, Int.reduceToNat, Nat.reduceEqDiff, Nat.reduceLeDiff, Nat.reduceLT, Nat.reduceAdd, Nat.reduceSub, Nat.reduceMul, reduceIte, reduceCtorEq, pv, pbin, peq, plen, pload, pcut, pfill, St.ev, St.set, lk, D.ofV, D.cellsOf, InR.i64, InR.u8, ssL, tx, ix, Fact.c, Pair.c, Cond.c, Action.c, Rule.c, Token.c, Match.c, Alpha.c, Node.c, Network.c, Stamp.c, Firing.c, Choice.c, tagg_31, tel_36, tstr_36, tsz_31] <;> rfl) ?_)
        | (refine C_pv rfl rfl (by omega) (by simp only [Int.reduceLE, Int.reduceLT, Int.reduceNeg, Int.reduceAdd, Int.reduceSub, Int.reduceToNat, Nat.reduceEqDiff, Nat.reduceLeDiff, Nat.reduceLT, Nat.reduceAdd, Nat.reduceSub, Nat.reduceMul, reduceIte, reduceCtorEq, pv, pbin, peq, plen, pload, pcut, pfill, St.ev, St.set, lk, D.ofV, D.cellsOf, InR.i64, InR.u8, ssL, tx, ix, Fact.c, Pair.c, Cond.c, Action.c, Rule.c, Token.c, Match.c, Alpha.c, Node.c, Network.c, Stamp.c, Firing.c, Choice.c, tagg_31, tel_36, tstr_36, tsz_31] <;> rfl) ?_)
      exact RetQ_ret (by simp only [Try.f20, resDs, resD, Int.reduceLE, Int.reduceLT, Int.reduceNeg, Int.reduceAdd, Int.reduceSub, Int.reduceToNat, Nat.reduceEqDiff, Nat.reduceLeDiff, Nat.reduceLT, Nat.reduceAdd, Nat.reduceSub, Nat.reduceMul, reduceIte, reduceCtorEq, pv, pbin, peq, plen, pload, pcut, pfill, St.ev, St.set, lk, D.ofV, D.cellsOf, InR.i64, InR.u8, ssL, tx, ix, Fact.c, Pair.c, Cond.c, Action.c, Rule.c, Token.c, Match.c, Alpha.c, Node.c, Network.c, Stamp.c, Firing.c, Choice.c, tagg_31, tel_36, tstr_36, tsz_31] <;> rfl) rfl (by simp only [packD]; rw [decide_eq_true hlm])

set_option linter.unusedSimpArgs false in
set_option maxRecDepth 100000 in
set_option maxHeartbeats 1000000 in
theorem eqPair_good (x y : Pair) : Good Try.prog 96 [.agg x.c, .agg y.c] (.bool (decide (x = y))) := by
  refine Good.of Try.func96 rfl (by decide) (by simp [Try.f96]) ?_
  intro hr Γ hΓ
  have hΓ : Γ.nt = 15 := hΓ
  simp only [args0]
  by_cases c1 : x.var = y.var
  case neg =>
    have d1 : (!(x.var == y.var)) = true := by simp [c1]
    repeat' first
      | refine thenQ_normal ?_
      | refine thenQ_ret ?_
      | refine thenQ_exit ?_
      | refine blockQ_normal ?_
      | refine blockQ_ret ?_
      | refine blockQ_exit ?_
      | refine blockQ_pass rfl ?_
      | refine AW_seq ?_
      | refine AW_block ?_
      | refine AW_skip ?_
      | refine AW_ret ?_
      | refine AW_exit ?_
      | refine AW_region ?_
      | refine AO_nil ?_
      | refine C_nil ?_
      | (refine R_pv rfl rfl (by omega) (by simp only [Int.reduceLE, Int.reduceLT, Int.reduceNeg, Int.reduceAdd, Int.reduceSub, Int.reduceToNat, Nat.reduceEqDiff, Nat.reduceLeDiff, Nat.reduceLT, Nat.reduceAdd, Nat.reduceSub, Nat.reduceMul, reduceIte, reduceCtorEq, pv, pbin, peq, plen, pload, pcut, pfill, St.ev, St.set, lk, D.ofV, D.cellsOf, InR.i64, InR.u8, ssL, tx, ix, Fact.c, Pair.c, Cond.c, Action.c, Rule.c, Token.c, Match.c, Alpha.c, Node.c, Network.c, Stamp.c, Firing.c, Choice.c, tagg_9, tfo_128_0, tfo_128_1, tsz_9, d1] <;> rfl) ?_)
      | (refine R_eff hΓ rfl (by simp only [peff, Int.reduceLE, Int.reduceLT, Int.reduceNeg, Int.reduceAdd, Int.reduceSub, Int.reduceToNat, Nat.reduceEqDiff, Nat.reduceLeDiff, Nat.reduceLT, Nat.reduceAdd, Nat.reduceSub, Nat.reduceMul, reduceIte, reduceCtorEq, pv, pbin, peq, plen, pload, pcut, pfill, St.ev, St.set, lk, D.ofV, D.cellsOf, InR.i64, InR.u8, ssL, tx, ix, Fact.c, Pair.c, Cond.c, Action.c, Rule.c, Token.c, Match.c, Alpha.c, Node.c, Network.c, Stamp.c, Firing.c, Choice.c, tagg_9, tfo_128_0, tfo_128_1, tsz_9, d1] <;> rfl) ?_)
    refine W_true (by simp only [Int.reduceLE, Int.reduceLT, Int.reduceNeg, Int.reduceAdd, Int.reduceSub, Int.reduceToNat, Nat.reduceEqDiff, Nat.reduceLeDiff, Nat.reduceLT, Nat.reduceAdd, Nat.reduceSub, Nat.reduceMul, reduceIte, reduceCtorEq, pv, pbin, peq, plen, pload, pcut, pfill, St.ev, St.set, lk, D.ofV, D.cellsOf, InR.i64, InR.u8, ssL, tx, ix, Fact.c, Pair.c, Cond.c, Action.c, Rule.c, Token.c, Match.c, Alpha.c, Node.c, Network.c, Stamp.c, Firing.c, Choice.c, tagg_9, tfo_128_0, tfo_128_1, tsz_9, d1] <;> rfl) ?_
    repeat' first
      | refine thenQ_normal ?_
      | refine thenQ_ret ?_
      | refine thenQ_exit ?_
      | refine blockQ_normal ?_
      | refine blockQ_ret ?_
      | refine blockQ_exit ?_
      | refine blockQ_pass rfl ?_
      | refine AW_seq ?_
      | refine AW_block ?_
      | refine AW_skip ?_
      | refine AW_ret ?_
      | refine AW_exit ?_
      | refine AW_region ?_
      | refine AO_nil ?_
      | refine C_nil ?_
      | (refine R_pv rfl rfl (by omega) (by simp only [Int.reduceLE, Int.reduceLT, Int.reduceNeg, Int.reduceAdd, Int.reduceSub, Int.reduceToNat, Nat.reduceEqDiff, Nat.reduceLeDiff, Nat.reduceLT, Nat.reduceAdd, Nat.reduceSub, Nat.reduceMul, reduceIte, reduceCtorEq, pv, pbin, peq, plen, pload, pcut, pfill, St.ev, St.set, lk, D.ofV, D.cellsOf, InR.i64, InR.u8, ssL, tx, ix, Fact.c, Pair.c, Cond.c, Action.c, Rule.c, Token.c, Match.c, Alpha.c, Node.c, Network.c, Stamp.c, Firing.c, Choice.c, tagg_9, tfo_128_0, tfo_128_1, tsz_9] <;> rfl) ?_)
      | (refine R_eff hΓ rfl (by simp only [peff, Int.reduceLE, Int.reduceLT, Int.reduceNeg, Int.reduceAdd, Int.reduceSub, Int.reduceToNat, Nat.reduceEqDiff, Nat.reduceLeDiff, Nat.reduceLT, Nat.reduceAdd, Nat.reduceSub, Nat.reduceMul, reduceIte, reduceCtorEq, pv, pbin, peq, plen, pload, pcut, pfill, St.ev, St.set, lk, D.ofV, D.cellsOf, InR.i64, InR.u8, ssL, tx, ix, Fact.c, Pair.c, Cond.c, Action.c, Rule.c, Token.c, Match.c, Alpha.c, Node.c, Network.c, Stamp.c, Firing.c, Choice.c, tagg_9, tfo_128_0, tfo_128_1, tsz_9] <;> rfl) ?_)
    exact RetQ_ret (by simp only [Try.f96, resDs, resD, Int.reduceLE, Int.reduceLT, Int.reduceNeg, Int.reduceAdd, Int.reduceSub, Int.reduceToNat, Nat.reduceEqDiff, Nat.reduceLeDiff, Nat.reduceLT, Nat.reduceAdd, Nat.reduceSub, Nat.reduceMul, reduceIte, reduceCtorEq, pv, pbin, peq, plen, pload, pcut, pfill, St.ev, St.set, lk, D.ofV, D.cellsOf, InR.i64, InR.u8, ssL, tx, ix, Fact.c, Pair.c, Cond.c, Action.c, Rule.c, Token.c, Match.c, Alpha.c, Node.c, Network.c, Stamp.c, Firing.c, Choice.c, tagg_9, tfo_128_0, tfo_128_1, tsz_9] <;> rfl) rfl (by simp only [packD]; rw [decide_eq_false (fun h => c1 (by rw [h]))])
  have d1 : (!(x.var == y.var)) = false := by simp [c1]
  repeat' first
    | refine thenQ_normal ?_
    | refine thenQ_ret ?_
    | refine thenQ_exit ?_
    | refine blockQ_normal ?_
    | refine blockQ_ret ?_
    | refine blockQ_exit ?_
    | refine blockQ_pass rfl ?_
    | refine AW_seq ?_
    | refine AW_block ?_
    | refine AW_skip ?_
    | refine AW_ret ?_
    | refine AW_exit ?_
    | refine AW_region ?_
    | refine AO_nil ?_
    | refine C_nil ?_
    | (refine R_pv rfl rfl (by omega) (by simp only [Int.reduceLE, Int.reduceLT, Int.reduceNeg, Int.reduceAdd, Int.reduceSub, Int.reduceToNat, Nat.reduceEqDiff, Nat.reduceLeDiff, Nat.reduceLT, Nat.reduceAdd, Nat.reduceSub, Nat.reduceMul, reduceIte, reduceCtorEq, pv, pbin, peq, plen, pload, pcut, pfill, St.ev, St.set, lk, D.ofV, D.cellsOf, InR.i64, InR.u8, ssL, tx, ix, Fact.c, Pair.c, Cond.c, Action.c, Rule.c, Token.c, Match.c, Alpha.c, Node.c, Network.c, Stamp.c, Firing.c, Choice.c, tagg_9, tfo_128_0, tfo_128_1, tsz_9, d1] <;> rfl) ?_)
    | (refine R_eff hΓ rfl (by simp only [peff, Int.reduceLE, Int.reduceLT, Int.reduceNeg, Int.reduceAdd, Int.reduceSub, Int.reduceToNat, Nat.reduceEqDiff, Nat.reduceLeDiff, Nat.reduceLT, Nat.reduceAdd, Nat.reduceSub, Nat.reduceMul, reduceIte, reduceCtorEq, pv, pbin, peq, plen, pload, pcut, pfill, St.ev, St.set, lk, D.ofV, D.cellsOf, InR.i64, InR.u8, ssL, tx, ix, Fact.c, Pair.c, Cond.c, Action.c, Rule.c, Token.c, Match.c, Alpha.c, Node.c, Network.c, Stamp.c, Firing.c, Choice.c, tagg_9, tfo_128_0, tfo_128_1, tsz_9, d1] <;> rfl) ?_)
  refine W_false (by simp only [Int.reduceLE, Int.reduceLT, Int.reduceNeg, Int.reduceAdd, Int.reduceSub, Int.reduceToNat, Nat.reduceEqDiff, Nat.reduceLeDiff, Nat.reduceLT, Nat.reduceAdd, Nat.reduceSub, Nat.reduceMul, reduceIte, reduceCtorEq, pv, pbin, peq, plen, pload, pcut, pfill, St.ev, St.set, lk, D.ofV, D.cellsOf, InR.i64, InR.u8, ssL, tx, ix, Fact.c, Pair.c, Cond.c, Action.c, Rule.c, Token.c, Match.c, Alpha.c, Node.c, Network.c, Stamp.c, Firing.c, Choice.c, tagg_9, tfo_128_0, tfo_128_1, tsz_9, d1] <;> rfl) ?_
  by_cases c2 : x.value = y.value
  case neg =>
    have d2 : (!(x.value == y.value)) = true := by simp [c2]
    repeat' first
      | refine thenQ_normal ?_
      | refine thenQ_ret ?_
      | refine thenQ_exit ?_
      | refine blockQ_normal ?_
      | refine blockQ_ret ?_
      | refine blockQ_exit ?_
      | refine blockQ_pass rfl ?_
      | refine AW_seq ?_
      | refine AW_block ?_
      | refine AW_skip ?_
      | refine AW_ret ?_
      | refine AW_exit ?_
      | refine AW_region ?_
      | refine AO_nil ?_
      | refine C_nil ?_
      | (refine R_pv rfl rfl (by omega) (by simp only [Int.reduceLE, Int.reduceLT, Int.reduceNeg, Int.reduceAdd, Int.reduceSub, Int.reduceToNat, Nat.reduceEqDiff, Nat.reduceLeDiff, Nat.reduceLT, Nat.reduceAdd, Nat.reduceSub, Nat.reduceMul, reduceIte, reduceCtorEq, pv, pbin, peq, plen, pload, pcut, pfill, St.ev, St.set, lk, D.ofV, D.cellsOf, InR.i64, InR.u8, ssL, tx, ix, Fact.c, Pair.c, Cond.c, Action.c, Rule.c, Token.c, Match.c, Alpha.c, Node.c, Network.c, Stamp.c, Firing.c, Choice.c, tagg_9, tfo_128_0, tfo_128_1, tsz_9, d2] <;> rfl) ?_)
      | (refine R_eff hΓ rfl (by simp only [peff, Int.reduceLE, Int.reduceLT, Int.reduceNeg, Int.reduceAdd, Int.reduceSub, Int.reduceToNat, Nat.reduceEqDiff, Nat.reduceLeDiff, Nat.reduceLT, Nat.reduceAdd, Nat.reduceSub, Nat.reduceMul, reduceIte, reduceCtorEq, pv, pbin, peq, plen, pload, pcut, pfill, St.ev, St.set, lk, D.ofV, D.cellsOf, InR.i64, InR.u8, ssL, tx, ix, Fact.c, Pair.c, Cond.c, Action.c, Rule.c, Token.c, Match.c, Alpha.c, Node.c, Network.c, Stamp.c, Firing.c, Choice.c, tagg_9, tfo_128_0, tfo_128_1, tsz_9, d2] <;> rfl) ?_)
    refine W_true (by simp only [Int.reduceLE, Int.reduceLT, Int.reduceNeg, Int.reduceAdd, Int.reduceSub, Int.reduceToNat, Nat.reduceEqDiff, Nat.reduceLeDiff, Nat.reduceLT, Nat.reduceAdd, Nat.reduceSub, Nat.reduceMul, reduceIte, reduceCtorEq, pv, pbin, peq, plen, pload, pcut, pfill, St.ev, St.set, lk, D.ofV, D.cellsOf, InR.i64, InR.u8, ssL, tx, ix, Fact.c, Pair.c, Cond.c, Action.c, Rule.c, Token.c, Match.c, Alpha.c, Node.c, Network.c, Stamp.c, Firing.c, Choice.c, tagg_9, tfo_128_0, tfo_128_1, tsz_9, d2] <;> rfl) ?_
    repeat' first
      | refine thenQ_normal ?_
      | refine thenQ_ret ?_
      | refine thenQ_exit ?_
      | refine blockQ_normal ?_
      | refine blockQ_ret ?_
      | refine blockQ_exit ?_
      | refine blockQ_pass rfl ?_
      | refine AW_seq ?_
      | refine AW_block ?_
      | refine AW_skip ?_
      | refine AW_ret ?_
      | refine AW_exit ?_
      | refine AW_region ?_
      | refine AO_nil ?_
      | refine C_nil ?_
      | (refine R_pv rfl rfl (by omega) (by simp only [Int.reduceLE, Int.reduceLT, Int.reduceNeg, Int.reduceAdd, Int.reduceSub, Int.reduceToNat, Nat.reduceEqDiff, Nat.reduceLeDiff, Nat.reduceLT, Nat.reduceAdd, Nat.reduceSub, Nat.reduceMul, reduceIte, reduceCtorEq, pv, pbin, peq, plen, pload, pcut, pfill, St.ev, St.set, lk, D.ofV, D.cellsOf, InR.i64, InR.u8, ssL, tx, ix, Fact.c, Pair.c, Cond.c, Action.c, Rule.c, Token.c, Match.c, Alpha.c, Node.c, Network.c, Stamp.c, Firing.c, Choice.c, tagg_9, tfo_128_0, tfo_128_1, tsz_9] <;> rfl) ?_)
      | (refine R_eff hΓ rfl (by simp only [peff, Int.reduceLE, Int.reduceLT, Int.reduceNeg, Int.reduceAdd, Int.reduceSub, Int.reduceToNat, Nat.reduceEqDiff, Nat.reduceLeDiff, Nat.reduceLT, Nat.reduceAdd, Nat.reduceSub, Nat.reduceMul, reduceIte, reduceCtorEq, pv, pbin, peq, plen, pload, pcut, pfill, St.ev, St.set, lk, D.ofV, D.cellsOf, InR.i64, InR.u8, ssL, tx, ix, Fact.c, Pair.c, Cond.c, Action.c, Rule.c, Token.c, Match.c, Alpha.c, Node.c, Network.c, Stamp.c, Firing.c, Choice.c, tagg_9, tfo_128_0, tfo_128_1, tsz_9] <;> rfl) ?_)
    exact RetQ_ret (by simp only [Try.f96, resDs, resD, Int.reduceLE, Int.reduceLT, Int.reduceNeg, Int.reduceAdd, Int.reduceSub, Int.reduceToNat, Nat.reduceEqDiff, Nat.reduceLeDiff, Nat.reduceLT, Nat.reduceAdd, Nat.reduceSub, Nat.reduceMul, reduceIte, reduceCtorEq, pv, pbin, peq, plen, pload, pcut, pfill, St.ev, St.set, lk, D.ofV, D.cellsOf, InR.i64, InR.u8, ssL, tx, ix, Fact.c, Pair.c, Cond.c, Action.c, Rule.c, Token.c, Match.c, Alpha.c, Node.c, Network.c, Stamp.c, Firing.c, Choice.c, tagg_9, tfo_128_0, tfo_128_1, tsz_9] <;> rfl) rfl (by simp only [packD]; rw [decide_eq_false (fun h => c2 (by rw [h]))])
  have d2 : (!(x.value == y.value)) = false := by simp [c2]
  repeat' first
    | refine thenQ_normal ?_
    | refine thenQ_ret ?_
    | refine thenQ_exit ?_
    | refine blockQ_normal ?_
    | refine blockQ_ret ?_
    | refine blockQ_exit ?_
    | refine blockQ_pass rfl ?_
    | refine AW_seq ?_
    | refine AW_block ?_
    | refine AW_skip ?_
    | refine AW_ret ?_
    | refine AW_exit ?_
    | refine AW_region ?_
    | refine AO_nil ?_
    | refine C_nil ?_
    | (refine R_pv rfl rfl (by omega) (by simp only [Int.reduceLE, Int.reduceLT, Int.reduceNeg, Int.reduceAdd, Int.reduceSub, Int.reduceToNat, Nat.reduceEqDiff, Nat.reduceLeDiff, Nat.reduceLT, Nat.reduceAdd, Nat.reduceSub, Nat.reduceMul, reduceIte, reduceCtorEq, pv, pbin, peq, plen, pload, pcut, pfill, St.ev, St.set, lk, D.ofV, D.cellsOf, InR.i64, InR.u8, ssL, tx, ix, Fact.c, Pair.c, Cond.c, Action.c, Rule.c, Token.c, Match.c, Alpha.c, Node.c, Network.c, Stamp.c, Firing.c, Choice.c, tagg_9, tfo_128_0, tfo_128_1, tsz_9, d2] <;> rfl) ?_)
    | (refine R_eff hΓ rfl (by simp only [peff, Int.reduceLE, Int.reduceLT, Int.reduceNeg, Int.reduceAdd, Int.reduceSub, Int.reduceToNat, Nat.reduceEqDiff, Nat.reduceLeDiff, Nat.reduceLT, Nat.reduceAdd, Nat.reduceSub, Nat.reduceMul, reduceIte, reduceCtorEq, pv, pbin, peq, plen, pload, pcut, pfill, St.ev, St.set, lk, D.ofV, D.cellsOf, InR.i64, InR.u8, ssL, tx, ix, Fact.c, Pair.c, Cond.c, Action.c, Rule.c, Token.c, Match.c, Alpha.c, Node.c, Network.c, Stamp.c, Firing.c, Choice.c, tagg_9, tfo_128_0, tfo_128_1, tsz_9, d2] <;> rfl) ?_)
  refine W_false (by simp only [Int.reduceLE, Int.reduceLT, Int.reduceNeg, Int.reduceAdd, Int.reduceSub, Int.reduceToNat, Nat.reduceEqDiff, Nat.reduceLeDiff, Nat.reduceLT, Nat.reduceAdd, Nat.reduceSub, Nat.reduceMul, reduceIte, reduceCtorEq, pv, pbin, peq, plen, pload, pcut, pfill, St.ev, St.set, lk, D.ofV, D.cellsOf, InR.i64, InR.u8, ssL, tx, ix, Fact.c, Pair.c, Cond.c, Action.c, Rule.c, Token.c, Match.c, Alpha.c, Node.c, Network.c, Stamp.c, Firing.c, Choice.c, tagg_9, tfo_128_0, tfo_128_1, tsz_9, d2] <;> rfl) ?_
  repeat' first
    | refine thenQ_normal ?_
    | refine thenQ_ret ?_
    | refine thenQ_exit ?_
    | refine blockQ_normal ?_
    | refine blockQ_ret ?_
    | refine blockQ_exit ?_
    | refine blockQ_pass rfl ?_
    | refine AW_seq ?_
    | refine AW_block ?_
    | refine AW_skip ?_
    | refine AW_ret ?_
    | refine AW_exit ?_
    | refine AW_region ?_
    | refine AO_nil ?_
    | refine C_nil ?_
    | (refine R_pv rfl rfl (by omega) (by simp only [Int.reduceLE, Int.reduceLT, Int.reduceNeg, Int.reduceAdd, Int.reduceSub, Int.reduceToNat, Nat.reduceEqDiff, Nat.reduceLeDiff, Nat.reduceLT, Nat.reduceAdd, Nat.reduceSub, Nat.reduceMul, reduceIte, reduceCtorEq, pv, pbin, peq, plen, pload, pcut, pfill, St.ev, St.set, lk, D.ofV, D.cellsOf, InR.i64, InR.u8, ssL, tx, ix, Fact.c, Pair.c, Cond.c, Action.c, Rule.c, Token.c, Match.c, Alpha.c, Node.c, Network.c, Stamp.c, Firing.c, Choice.c, tagg_9, tfo_128_0, tfo_128_1, tsz_9] <;> rfl) ?_)
    | (refine R_eff hΓ rfl (by simp only [peff, Int.reduceLE, Int.reduceLT, Int.reduceNeg, Int.reduceAdd, Int.reduceSub, Int.reduceToNat, Nat.reduceEqDiff, Nat.reduceLeDiff, Nat.reduceLT, Nat.reduceAdd, Nat.reduceSub, Nat.reduceMul, reduceIte, reduceCtorEq, pv, pbin, peq, plen, pload, pcut, pfill, St.ev, St.set, lk, D.ofV, D.cellsOf, InR.i64, InR.u8, ssL, tx, ix, Fact.c, Pair.c, Cond.c, Action.c, Rule.c, Token.c, Match.c, Alpha.c, Node.c, Network.c, Stamp.c, Firing.c, Choice.c, tagg_9, tfo_128_0, tfo_128_1, tsz_9] <;> rfl) ?_)
  have hxy : x = y := by cases x; cases y; simp_all
  exact RetQ_ret (by simp only [Try.f96, resDs, resD, Int.reduceLE, Int.reduceLT, Int.reduceNeg, Int.reduceAdd, Int.reduceSub, Int.reduceToNat, Nat.reduceEqDiff, Nat.reduceLeDiff, Nat.reduceLT, Nat.reduceAdd, Nat.reduceSub, Nat.reduceMul, reduceIte, reduceCtorEq, pv, pbin, peq, plen, pload, pcut, pfill, St.ev, St.set, lk, D.ofV, D.cellsOf, InR.i64, InR.u8, ssL, tx, ix, Fact.c, Pair.c, Cond.c, Action.c, Rule.c, Token.c, Match.c, Alpha.c, Node.c, Network.c, Stamp.c, Firing.c, Choice.c, tagg_9, tfo_128_0, tfo_128_1, tsz_9] <;> rfl) rfl (by simp only [packD]; rw [decide_eq_true hxy])

set_option linter.unusedSimpArgs false in
set_option maxRecDepth 100000 in
set_option maxHeartbeats 1000000 in
theorem eqPairS_good (l m : List Pair) : Good Try.prog 68 [.sl (l.map Pair.c), .sl (m.map Pair.c)] (.bool (decide (l = m))) := by
  refine Good.of Try.func68 rfl (by decide) (by simp [Try.f68]) ?_
  intro hr Γ hΓ
  have hΓ : Γ.nt = 27 := hΓ
  simp only [args0]
  have hl : l.length ≤ maxLen := (hr (.sl (l.map Pair.c)) (List.mem_cons_self ..)).len
  by_cases c1 : l.length = m.length
  case neg =>
    have d1 : ((l.length : Int) != (m.length : Int)) = true := by simp; omega
    repeat' first
      | refine thenQ_normal ?_
      | refine thenQ_ret ?_
      | refine thenQ_exit ?_
      | refine blockQ_normal ?_
      | refine blockQ_ret ?_
      | refine blockQ_exit ?_
      | refine blockQ_pass rfl ?_
      | refine AW_seq ?_
      | refine AW_block ?_
      | refine AW_skip ?_
      | refine AW_ret ?_
      | refine AW_exit ?_
      | refine AW_region ?_
      | refine AO_nil ?_
      | refine C_nil ?_
      | (refine R_pv rfl rfl (by omega) (by simp only [Int.reduceLE, Int.reduceLT, Int.reduceNeg, Int.reduceAdd, Int.reduceSub, Int.reduceToNat, Nat.reduceEqDiff, Nat.reduceLeDiff, Nat.reduceLT, Nat.reduceAdd, Nat.reduceSub, Nat.reduceMul, reduceIte, reduceCtorEq, pv, pbin, peq, plen, pload, pcut, pfill, St.ev, St.set, lk, D.ofV, D.cellsOf, InR.i64, InR.u8, ssL, tx, ix, Fact.c, Pair.c, Cond.c, Action.c, Rule.c, Token.c, Match.c, Alpha.c, Node.c, Network.c, Stamp.c, Firing.c, Choice.c, tagg_128, tel_48, tstr_48, tsz_128, d1] <;> rfl) ?_)
      | (refine C_pv rfl rfl (by omega) (by simp only [Int.reduceLE, Int.reduceLT, Int.reduceNeg, Int.reduceAdd, Int.reduceSub, Int.reduceToNat, Nat.reduceEqDiff, Nat.reduceLeDiff, Nat.reduceLT, Nat.reduceAdd, Nat.reduceSub, Nat.reduceMul, reduceIte, reduceCtorEq, pv, pbin, peq, plen, pload, pcut, pfill, St.ev, St.set, lk, D.ofV, D.cellsOf, InR.i64, InR.u8, ssL, tx, ix, Fact.c, Pair.c, Cond.c, Action.c, Rule.c, Token.c, Match.c, Alpha.c, Node.c, Network.c, Stamp.c, Firing.c, Choice.c, tagg_128, tel_48, tstr_48, tsz_128, d1] <;> rfl) ?_)
    refine W_true (by simp only [Int.reduceLE, Int.reduceLT, Int.reduceNeg, Int.reduceAdd, Int.reduceSub, Int.reduceToNat, Nat.reduceEqDiff, Nat.reduceLeDiff, Nat.reduceLT, Nat.reduceAdd, Nat.reduceSub, Nat.reduceMul, reduceIte, reduceCtorEq, pv, pbin, peq, plen, pload, pcut, pfill, St.ev, St.set, lk, D.ofV, D.cellsOf, InR.i64, InR.u8, ssL, tx, ix, Fact.c, Pair.c, Cond.c, Action.c, Rule.c, Token.c, Match.c, Alpha.c, Node.c, Network.c, Stamp.c, Firing.c, Choice.c, tagg_128, tel_48, tstr_48, tsz_128, d1] <;> rfl) ?_
    repeat' first
      | refine thenQ_normal ?_
      | refine thenQ_ret ?_
      | refine thenQ_exit ?_
      | refine blockQ_normal ?_
      | refine blockQ_ret ?_
      | refine blockQ_exit ?_
      | refine blockQ_pass rfl ?_
      | refine AW_seq ?_
      | refine AW_block ?_
      | refine AW_skip ?_
      | refine AW_ret ?_
      | refine AW_exit ?_
      | refine AW_region ?_
      | refine AO_nil ?_
      | refine C_nil ?_
      | (refine R_pv rfl rfl (by omega) (by simp only [Int.reduceLE, Int.reduceLT, Int.reduceNeg, Int.reduceAdd, Int.reduceSub, Int.reduceToNat, Nat.reduceEqDiff, Nat.reduceLeDiff, Nat.reduceLT, Nat.reduceAdd, Nat.reduceSub, Nat.reduceMul, reduceIte, reduceCtorEq, pv, pbin, peq, plen, pload, pcut, pfill, St.ev, St.set, lk, D.ofV, D.cellsOf, InR.i64, InR.u8, ssL, tx, ix, Fact.c, Pair.c, Cond.c, Action.c, Rule.c, Token.c, Match.c, Alpha.c, Node.c, Network.c, Stamp.c, Firing.c, Choice.c, tagg_128, tel_48, tstr_48, tsz_128] <;> rfl) ?_)
      | (refine C_pv rfl rfl (by omega) (by simp only [Int.reduceLE, Int.reduceLT, Int.reduceNeg, Int.reduceAdd, Int.reduceSub, Int.reduceToNat, Nat.reduceEqDiff, Nat.reduceLeDiff, Nat.reduceLT, Nat.reduceAdd, Nat.reduceSub, Nat.reduceMul, reduceIte, reduceCtorEq, pv, pbin, peq, plen, pload, pcut, pfill, St.ev, St.set, lk, D.ofV, D.cellsOf, InR.i64, InR.u8, ssL, tx, ix, Fact.c, Pair.c, Cond.c, Action.c, Rule.c, Token.c, Match.c, Alpha.c, Node.c, Network.c, Stamp.c, Firing.c, Choice.c, tagg_128, tel_48, tstr_48, tsz_128] <;> rfl) ?_)
    exact RetQ_ret (by simp only [Try.f68, resDs, resD, Int.reduceLE, Int.reduceLT, Int.reduceNeg, Int.reduceAdd, Int.reduceSub, Int.reduceToNat, Nat.reduceEqDiff, Nat.reduceLeDiff, Nat.reduceLT, Nat.reduceAdd, Nat.reduceSub, Nat.reduceMul, reduceIte, reduceCtorEq, pv, pbin, peq, plen, pload, pcut, pfill, St.ev, St.set, lk, D.ofV, D.cellsOf, InR.i64, InR.u8, ssL, tx, ix, Fact.c, Pair.c, Cond.c, Action.c, Rule.c, Token.c, Match.c, Alpha.c, Node.c, Network.c, Stamp.c, Firing.c, Choice.c, tagg_128, tel_48, tstr_48, tsz_128] <;> rfl) rfl (by simp only [packD]; rw [decide_eq_false (fun h => c1 (by rw [h]))])
  have d1 : ((l.length : Int) != (m.length : Int)) = false := by simp; omega
  repeat' first
    | refine thenQ_normal ?_
    | refine thenQ_ret ?_
    | refine thenQ_exit ?_
    | refine blockQ_normal ?_
    | refine blockQ_ret ?_
    | refine blockQ_exit ?_
    | refine blockQ_pass rfl ?_
    | refine AW_seq ?_
    | refine AW_block ?_
    | refine AW_skip ?_
    | refine AW_ret ?_
    | refine AW_exit ?_
    | refine AW_region ?_
    | refine AO_nil ?_
    | refine C_nil ?_
    | (refine R_pv rfl rfl (by omega) (by simp only [Int.reduceLE, Int.reduceLT, Int.reduceNeg, Int.reduceAdd, Int.reduceSub, Int.reduceToNat, Nat.reduceEqDiff, Nat.reduceLeDiff, Nat.reduceLT, Nat.reduceAdd, Nat.reduceSub, Nat.reduceMul, reduceIte, reduceCtorEq, pv, pbin, peq, plen, pload, pcut, pfill, St.ev, St.set, lk, D.ofV, D.cellsOf, InR.i64, InR.u8, ssL, tx, ix, Fact.c, Pair.c, Cond.c, Action.c, Rule.c, Token.c, Match.c, Alpha.c, Node.c, Network.c, Stamp.c, Firing.c, Choice.c, tagg_128, tel_48, tstr_48, tsz_128, d1] <;> rfl) ?_)
    | (refine C_pv rfl rfl (by omega) (by simp only [Int.reduceLE, Int.reduceLT, Int.reduceNeg, Int.reduceAdd, Int.reduceSub, Int.reduceToNat, Nat.reduceEqDiff, Nat.reduceLeDiff, Nat.reduceLT, Nat.reduceAdd, Nat.reduceSub, Nat.reduceMul, reduceIte, reduceCtorEq, pv, pbin, peq, plen, pload, pcut, pfill, St.ev, St.set, lk, D.ofV, D.cellsOf, InR.i64, InR.u8, ssL, tx, ix, Fact.c, Pair.c, Cond.c, Action.c, Rule.c, Token.c, Match.c, Alpha.c, Node.c, Network.c, Stamp.c, Firing.c, Choice.c, tagg_128, tel_48, tstr_48, tsz_128, d1] <;> rfl) ?_)
  refine W_false (by simp only [Int.reduceLE, Int.reduceLT, Int.reduceNeg, Int.reduceAdd, Int.reduceSub, Int.reduceToNat, Nat.reduceEqDiff, Nat.reduceLeDiff, Nat.reduceLT, Nat.reduceAdd, Nat.reduceSub, Nat.reduceMul, reduceIte, reduceCtorEq, pv, pbin, peq, plen, pload, pcut, pfill, St.ev, St.set, lk, D.ofV, D.cellsOf, InR.i64, InR.u8, ssL, tx, ix, Fact.c, Pair.c, Cond.c, Action.c, Rule.c, Token.c, Match.c, Alpha.c, Node.c, Network.c, Stamp.c, Firing.c, Choice.c, tagg_128, tel_48, tstr_48, tsz_128, d1] <;> rfl) ?_
  repeat' first
    | refine thenQ_normal ?_
    | refine thenQ_ret ?_
    | refine thenQ_exit ?_
    | refine blockQ_normal ?_
    | refine blockQ_ret ?_
    | refine blockQ_exit ?_
    | refine blockQ_pass rfl ?_
    | refine AW_seq ?_
    | refine AW_block ?_
    | refine AW_skip ?_
    | refine AW_ret ?_
    | refine AW_exit ?_
    | refine AW_region ?_
    | refine AO_nil ?_
    | refine C_nil ?_
    | (refine R_pv rfl rfl (by omega) (by simp only [Int.reduceLE, Int.reduceLT, Int.reduceNeg, Int.reduceAdd, Int.reduceSub, Int.reduceToNat, Nat.reduceEqDiff, Nat.reduceLeDiff, Nat.reduceLT, Nat.reduceAdd, Nat.reduceSub, Nat.reduceMul, reduceIte, reduceCtorEq, pv, pbin, peq, plen, pload, pcut, pfill, St.ev, St.set, lk, D.ofV, D.cellsOf, InR.i64, InR.u8, ssL, tx, ix, Fact.c, Pair.c, Cond.c, Action.c, Rule.c, Token.c, Match.c, Alpha.c, Node.c, Network.c, Stamp.c, Firing.c, Choice.c, tagg_128, tel_48, tstr_48, tsz_128] <;> rfl) ?_)
    | (refine C_pv rfl rfl (by omega) (by simp only [Int.reduceLE, Int.reduceLT, Int.reduceNeg, Int.reduceAdd, Int.reduceSub, Int.reduceToNat, Nat.reduceEqDiff, Nat.reduceLeDiff, Nat.reduceLT, Nat.reduceAdd, Nat.reduceSub, Nat.reduceMul, reduceIte, reduceCtorEq, pv, pbin, peq, plen, pload, pcut, pfill, St.ev, St.set, lk, D.ofV, D.cellsOf, InR.i64, InR.u8, ssL, tx, ix, Fact.c, Pair.c, Cond.c, Action.c, Rule.c, Token.c, Match.c, Alpha.c, Node.c, Network.c, Stamp.c, Firing.c, Choice.c, tagg_128, tel_48, tstr_48, tsz_128] <;> rfl) ?_)
  refine W_for [0, 1, 5] 0 (fun k => ⟨[(0, .sl (l.map Pair.c)), (1, .sl (m.map Pair.c)), (5, .int .i64 (k : Nat))], []⟩)
    (fun k => l.take k = m.take k) l.length rfl ?_ rfl ?_
  · simp only [St.trim, Int.reduceLE, Int.reduceLT, Int.reduceNeg, Int.reduceAdd, Int.reduceSub, Int.reduceToNat, Nat.reduceEqDiff, Nat.reduceLeDiff, Nat.reduceLT, Nat.reduceAdd, Nat.reduceSub, Nat.reduceMul, reduceIte, reduceCtorEq, pv, pbin, peq, plen, pload, pcut, pfill, St.ev, St.set, lk, D.ofV, D.cellsOf, InR.i64, InR.u8, ssL, tx, ix, Fact.c, Pair.c, Cond.c, Action.c, Rule.c, Token.c, Match.c, Alpha.c, Node.c, Network.c, Stamp.c, Firing.c, Choice.c, tagg_128, tel_48, tstr_48, tsz_128]
  · intro k hk hI
    rcases Nat.lt_or_ge k l.length with hlt | hge
    · obtain ⟨x, hx⟩ := getx hlt
      obtain ⟨y, hy⟩ := getx (l := m) (k := k) (by omega)
      have hd := lt_true hlt
      have wk := wrap_succ hlt hl
      by_cases c2 : x = y
      case neg =>
        have hc := eqPair_good x y
        rw [decide_eq_false c2] at hc
        repeat' first
          | refine thenQ_normal ?_
          | refine thenQ_ret ?_
          | refine thenQ_exit ?_
          | refine blockQ_normal ?_
          | refine blockQ_ret ?_
          | refine blockQ_exit ?_
          | refine blockQ_pass rfl ?_
          | refine AW_seq ?_
          | refine AW_block ?_
          | refine AW_skip ?_
          | refine AW_ret ?_
          | refine AW_exit ?_
          | refine AW_region ?_
          | refine AO_nil ?_
          | refine C_nil ?_
          | (refine R_pv rfl rfl (by omega) (by simp only [Int.reduceLE, Int.reduceLT, Int.reduceNeg, Int.reduceAdd, Int.reduceSub, Int.reduceToNat, Nat.reduceEqDiff, Nat.reduceLeDiff, Nat.reduceLT, Nat.reduceAdd, Nat.reduceSub, Nat.reduceMul, reduceIte, reduceCtorEq, pv, pbin, peq, plen, pload, pcut, pfill, St.ev, St.set, lk, D.ofV, D.cellsOf, InR.i64, InR.u8, ssL, tx, ix, Fact.c, Pair.c, Cond.c, Action.c, Rule.c, Token.c, Match.c, Alpha.c, Node.c, Network.c, Stamp.c, Firing.c, Choice.c, tagg_128, tel_48, tstr_48, tsz_128, hd, hx, hy, wk] <;> rfl) ?_)
          | (refine C_pv rfl rfl (by omega) (by simp only [Int.reduceLE, Int.reduceLT, Int.reduceNeg, Int.reduceAdd, Int.reduceSub, Int.reduceToNat, Nat.reduceEqDiff, Nat.reduceLeDiff, Nat.reduceLT, Nat.reduceAdd, Nat.reduceSub, Nat.reduceMul, reduceIte, reduceCtorEq, pv, pbin, peq, plen, pload, pcut, pfill, St.ev, St.set, lk, D.ofV, D.cellsOf, InR.i64, InR.u8, ssL, tx, ix, Fact.c, Pair.c, Cond.c, Action.c, Rule.c, Token.c, Match.c, Alpha.c, Node.c, Network.c, Stamp.c, Firing.c, Choice.c, tagg_128, tel_48, tstr_48, tsz_128, hd, hx, hy, wk] <;> rfl) ?_)
        refine W_true (by simp only [Int.reduceLE, Int.reduceLT, Int.reduceNeg, Int.reduceAdd, Int.reduceSub, Int.reduceToNat, Nat.reduceEqDiff, Nat.reduceLeDiff, Nat.reduceLT, Nat.reduceAdd, Nat.reduceSub, Nat.reduceMul, reduceIte, reduceCtorEq, pv, pbin, peq, plen, pload, pcut, pfill, St.ev, St.set, lk, D.ofV, D.cellsOf, InR.i64, InR.u8, ssL, tx, ix, Fact.c, Pair.c, Cond.c, Action.c, Rule.c, Token.c, Match.c, Alpha.c, Node.c, Network.c, Stamp.c, Firing.c, Choice.c, tagg_128, tel_48, tstr_48, tsz_128, hd] <;> rfl) ?_
        repeat' first
          | refine thenQ_normal ?_
          | refine thenQ_ret ?_
          | refine thenQ_exit ?_
          | refine blockQ_normal ?_
          | refine blockQ_ret ?_
          | refine blockQ_exit ?_
          | refine blockQ_pass rfl ?_
          | refine AW_seq ?_
          | refine AW_block ?_
          | refine AW_skip ?_
          | refine AW_ret ?_
          | refine AW_exit ?_
          | refine AW_region ?_
          | refine AO_nil ?_
          | refine C_nil ?_
          | (refine R_pv rfl rfl (by omega) (by simp only [Int.reduceLE, Int.reduceLT, Int.reduceNeg, Int.reduceAdd, Int.reduceSub, Int.reduceToNat, Nat.reduceEqDiff, Nat.reduceLeDiff, Nat.reduceLT, Nat.reduceAdd, Nat.reduceSub, Nat.reduceMul, reduceIte, reduceCtorEq, pv, pbin, peq, plen, pload, pcut, pfill, St.ev, St.set, lk, D.ofV, D.cellsOf, InR.i64, InR.u8, ssL, tx, ix, Fact.c, Pair.c, Cond.c, Action.c, Rule.c, Token.c, Match.c, Alpha.c, Node.c, Network.c, Stamp.c, Firing.c, Choice.c, tagg_128, tel_48, tstr_48, tsz_128, hd, hx, hy, wk] <;> rfl) ?_)
          | (refine C_pv rfl rfl (by omega) (by simp only [Int.reduceLE, Int.reduceLT, Int.reduceNeg, Int.reduceAdd, Int.reduceSub, Int.reduceToNat, Nat.reduceEqDiff, Nat.reduceLeDiff, Nat.reduceLT, Nat.reduceAdd, Nat.reduceSub, Nat.reduceMul, reduceIte, reduceCtorEq, pv, pbin, peq, plen, pload, pcut, pfill, St.ev, St.set, lk, D.ofV, D.cellsOf, InR.i64, InR.u8, ssL, tx, ix, Fact.c, Pair.c, Cond.c, Action.c, Rule.c, Token.c, Match.c, Alpha.c, Node.c, Network.c, Stamp.c, Firing.c, Choice.c, tagg_128, tel_48, tstr_48, tsz_128, hd, hx, hy, wk] <;> rfl) ?_)
        refine W_draw 8 (by kernel_rfl) (by kernel_rfl) rfl rfl ?_
        repeat' first
          | refine thenQ_normal ?_
          | refine thenQ_ret ?_
          | refine thenQ_exit ?_
          | refine blockQ_normal ?_
          | refine blockQ_ret ?_
          | refine blockQ_exit ?_
          | refine blockQ_pass rfl ?_
          | refine AW_seq ?_
          | refine AW_block ?_
          | refine AW_skip ?_
          | refine AW_ret ?_
          | refine AW_exit ?_
          | refine AW_region ?_
          | refine AO_nil ?_
          | refine C_nil ?_
          | (refine R_pv rfl rfl (by omega) (by simp only [Int.reduceLE, Int.reduceLT, Int.reduceNeg, Int.reduceAdd, Int.reduceSub, Int.reduceToNat, Nat.reduceEqDiff, Nat.reduceLeDiff, Nat.reduceLT, Nat.reduceAdd, Nat.reduceSub, Nat.reduceMul, reduceIte, reduceCtorEq, pv, pbin, peq, plen, pload, pcut, pfill, St.ev, St.set, lk, D.ofV, D.cellsOf, InR.i64, InR.u8, ssL, tx, ix, Fact.c, Pair.c, Cond.c, Action.c, Rule.c, Token.c, Match.c, Alpha.c, Node.c, Network.c, Stamp.c, Firing.c, Choice.c, tagg_128, tel_48, tstr_48, tsz_128, hd, hx, hy, wk] <;> rfl) ?_)
          | (refine C_pv rfl rfl (by omega) (by simp only [Int.reduceLE, Int.reduceLT, Int.reduceNeg, Int.reduceAdd, Int.reduceSub, Int.reduceToNat, Nat.reduceEqDiff, Nat.reduceLeDiff, Nat.reduceLT, Nat.reduceAdd, Nat.reduceSub, Nat.reduceMul, reduceIte, reduceCtorEq, pv, pbin, peq, plen, pload, pcut, pfill, St.ev, St.set, lk, D.ofV, D.cellsOf, InR.i64, InR.u8, ssL, tx, ix, Fact.c, Pair.c, Cond.c, Action.c, Rule.c, Token.c, Match.c, Alpha.c, Node.c, Network.c, Stamp.c, Firing.c, Choice.c, tagg_128, tel_48, tstr_48, tsz_128, hd, hx, hy, wk] <;> rfl) ?_)
          | (refine R_call rfl rfl rfl (by omega) (by simp only [Int.reduceLE, Int.reduceLT, Int.reduceNeg, Int.reduceAdd, Int.reduceSub, Int.reduceToNat, Nat.reduceEqDiff, Nat.reduceLeDiff, Nat.reduceLT, Nat.reduceAdd, Nat.reduceSub, Nat.reduceMul, reduceIte, reduceCtorEq, pv, pbin, peq, plen, pload, pcut, pfill, St.ev, St.set, lk, D.ofV, D.cellsOf, InR.i64, InR.u8, ssL, tx, ix, Fact.c, Pair.c, Cond.c, Action.c, Rule.c, Token.c, Match.c, Alpha.c, Node.c, Network.c, Stamp.c, Firing.c, Choice.c, tagg_128, tel_48, tstr_48, tsz_128, hd, hx, hy, wk] <;> rfl) (by rfl) (by exact hc) (by rfl) ?_)
          | (refine C_call rfl rfl rfl (by omega) (by simp only [Int.reduceLE, Int.reduceLT, Int.reduceNeg, Int.reduceAdd, Int.reduceSub, Int.reduceToNat, Nat.reduceEqDiff, Nat.reduceLeDiff, Nat.reduceLT, Nat.reduceAdd, Nat.reduceSub, Nat.reduceMul, reduceIte, reduceCtorEq, pv, pbin, peq, plen, pload, pcut, pfill, St.ev, St.set, lk, D.ofV, D.cellsOf, InR.i64, InR.u8, ssL, tx, ix, Fact.c, Pair.c, Cond.c, Action.c, Rule.c, Token.c, Match.c, Alpha.c, Node.c, Network.c, Stamp.c, Firing.c, Choice.c, tagg_128, tel_48, tstr_48, tsz_128, hd, hx, hy, wk] <;> rfl) (by rfl) (by exact hc) (by rfl) ?_)
        refine W_true (by simp only [Int.reduceLE, Int.reduceLT, Int.reduceNeg, Int.reduceAdd, Int.reduceSub, Int.reduceToNat, Nat.reduceEqDiff, Nat.reduceLeDiff, Nat.reduceLT, Nat.reduceAdd, Nat.reduceSub, Nat.reduceMul, reduceIte, reduceCtorEq, pv, pbin, peq, plen, pload, pcut, pfill, St.ev, St.set, lk, D.ofV, D.cellsOf, InR.i64, InR.u8, ssL, tx, ix, Fact.c, Pair.c, Cond.c, Action.c, Rule.c, Token.c, Match.c, Alpha.c, Node.c, Network.c, Stamp.c, Firing.c, Choice.c, tagg_128, tel_48, tstr_48, tsz_128] <;> rfl) ?_
        repeat' first
          | refine thenQ_normal ?_
          | refine thenQ_ret ?_
          | refine thenQ_exit ?_
          | refine blockQ_normal ?_
          | refine blockQ_ret ?_
          | refine blockQ_exit ?_
          | refine blockQ_pass rfl ?_
          | refine AW_seq ?_
          | refine AW_block ?_
          | refine AW_skip ?_
          | refine AW_ret ?_
          | refine AW_exit ?_
          | refine AW_region ?_
          | refine AO_nil ?_
          | refine C_nil ?_
          | (refine R_pv rfl rfl (by omega) (by simp only [Int.reduceLE, Int.reduceLT, Int.reduceNeg, Int.reduceAdd, Int.reduceSub, Int.reduceToNat, Nat.reduceEqDiff, Nat.reduceLeDiff, Nat.reduceLT, Nat.reduceAdd, Nat.reduceSub, Nat.reduceMul, reduceIte, reduceCtorEq, pv, pbin, peq, plen, pload, pcut, pfill, St.ev, St.set, lk, D.ofV, D.cellsOf, InR.i64, InR.u8, ssL, tx, ix, Fact.c, Pair.c, Cond.c, Action.c, Rule.c, Token.c, Match.c, Alpha.c, Node.c, Network.c, Stamp.c, Firing.c, Choice.c, tagg_128, tel_48, tstr_48, tsz_128] <;> rfl) ?_)
          | (refine C_pv rfl rfl (by omega) (by simp only [Int.reduceLE, Int.reduceLT, Int.reduceNeg, Int.reduceAdd, Int.reduceSub, Int.reduceToNat, Nat.reduceEqDiff, Nat.reduceLeDiff, Nat.reduceLT, Nat.reduceAdd, Nat.reduceSub, Nat.reduceMul, reduceIte, reduceCtorEq, pv, pbin, peq, plen, pload, pcut, pfill, St.ev, St.set, lk, D.ofV, D.cellsOf, InR.i64, InR.u8, ssL, tx, ix, Fact.c, Pair.c, Cond.c, Action.c, Rule.c, Token.c, Match.c, Alpha.c, Node.c, Network.c, Stamp.c, Firing.c, Choice.c, tagg_128, tel_48, tstr_48, tsz_128] <;> rfl) ?_)
        exact RetQ_ret (by simp only [Try.f68, resDs, resD, Int.reduceLE, Int.reduceLT, Int.reduceNeg, Int.reduceAdd, Int.reduceSub, Int.reduceToNat, Nat.reduceEqDiff, Nat.reduceLeDiff, Nat.reduceLT, Nat.reduceAdd, Nat.reduceSub, Nat.reduceMul, reduceIte, reduceCtorEq, pv, pbin, peq, plen, pload, pcut, pfill, St.ev, St.set, lk, D.ofV, D.cellsOf, InR.i64, InR.u8, ssL, tx, ix, Fact.c, Pair.c, Cond.c, Action.c, Rule.c, Token.c, Match.c, Alpha.c, Node.c, Network.c, Stamp.c, Firing.c, Choice.c, tagg_128, tel_48, tstr_48, tsz_128] <;> rfl) rfl (by simp only [packD]; rw [decide_eq_false (fun h => c2 (by rw [h, hy] at hx; exact (Option.some.inj hx).symm))])
      have hc := eqPair_good x y
      rw [decide_eq_true c2] at hc
      repeat' first
        | refine thenQ_normal ?_
        | refine thenQ_ret ?_
        | refine thenQ_exit ?_
        | refine blockQ_normal ?_
        | refine blockQ_ret ?_
        | refine blockQ_exit ?_
        | refine blockQ_pass rfl ?_
        | refine AW_seq ?_
        | refine AW_block ?_
        | refine AW_skip ?_
        | refine AW_ret ?_
        | refine AW_exit ?_
        | refine AW_region ?_
        | refine AO_nil ?_
        | refine C_nil ?_
        | (refine R_pv rfl rfl (by omega) (by simp only [Int.reduceLE, Int.reduceLT, Int.reduceNeg, Int.reduceAdd, Int.reduceSub, Int.reduceToNat, Nat.reduceEqDiff, Nat.reduceLeDiff, Nat.reduceLT, Nat.reduceAdd, Nat.reduceSub, Nat.reduceMul, reduceIte, reduceCtorEq, pv, pbin, peq, plen, pload, pcut, pfill, St.ev, St.set, lk, D.ofV, D.cellsOf, InR.i64, InR.u8, ssL, tx, ix, Fact.c, Pair.c, Cond.c, Action.c, Rule.c, Token.c, Match.c, Alpha.c, Node.c, Network.c, Stamp.c, Firing.c, Choice.c, tagg_128, tel_48, tstr_48, tsz_128, hd, hx, hy, wk] <;> rfl) ?_)
        | (refine C_pv rfl rfl (by omega) (by simp only [Int.reduceLE, Int.reduceLT, Int.reduceNeg, Int.reduceAdd, Int.reduceSub, Int.reduceToNat, Nat.reduceEqDiff, Nat.reduceLeDiff, Nat.reduceLT, Nat.reduceAdd, Nat.reduceSub, Nat.reduceMul, reduceIte, reduceCtorEq, pv, pbin, peq, plen, pload, pcut, pfill, St.ev, St.set, lk, D.ofV, D.cellsOf, InR.i64, InR.u8, ssL, tx, ix, Fact.c, Pair.c, Cond.c, Action.c, Rule.c, Token.c, Match.c, Alpha.c, Node.c, Network.c, Stamp.c, Firing.c, Choice.c, tagg_128, tel_48, tstr_48, tsz_128, hd, hx, hy, wk] <;> rfl) ?_)
      refine W_true (by simp only [Int.reduceLE, Int.reduceLT, Int.reduceNeg, Int.reduceAdd, Int.reduceSub, Int.reduceToNat, Nat.reduceEqDiff, Nat.reduceLeDiff, Nat.reduceLT, Nat.reduceAdd, Nat.reduceSub, Nat.reduceMul, reduceIte, reduceCtorEq, pv, pbin, peq, plen, pload, pcut, pfill, St.ev, St.set, lk, D.ofV, D.cellsOf, InR.i64, InR.u8, ssL, tx, ix, Fact.c, Pair.c, Cond.c, Action.c, Rule.c, Token.c, Match.c, Alpha.c, Node.c, Network.c, Stamp.c, Firing.c, Choice.c, tagg_128, tel_48, tstr_48, tsz_128, hd] <;> rfl) ?_
      repeat' first
        | refine thenQ_normal ?_
        | refine thenQ_ret ?_
        | refine thenQ_exit ?_
        | refine blockQ_normal ?_
        | refine blockQ_ret ?_
        | refine blockQ_exit ?_
        | refine blockQ_pass rfl ?_
        | refine AW_seq ?_
        | refine AW_block ?_
        | refine AW_skip ?_
        | refine AW_ret ?_
        | refine AW_exit ?_
        | refine AW_region ?_
        | refine AO_nil ?_
        | refine C_nil ?_
        | (refine R_pv rfl rfl (by omega) (by simp only [Int.reduceLE, Int.reduceLT, Int.reduceNeg, Int.reduceAdd, Int.reduceSub, Int.reduceToNat, Nat.reduceEqDiff, Nat.reduceLeDiff, Nat.reduceLT, Nat.reduceAdd, Nat.reduceSub, Nat.reduceMul, reduceIte, reduceCtorEq, pv, pbin, peq, plen, pload, pcut, pfill, St.ev, St.set, lk, D.ofV, D.cellsOf, InR.i64, InR.u8, ssL, tx, ix, Fact.c, Pair.c, Cond.c, Action.c, Rule.c, Token.c, Match.c, Alpha.c, Node.c, Network.c, Stamp.c, Firing.c, Choice.c, tagg_128, tel_48, tstr_48, tsz_128, hd, hx, hy, wk] <;> rfl) ?_)
        | (refine C_pv rfl rfl (by omega) (by simp only [Int.reduceLE, Int.reduceLT, Int.reduceNeg, Int.reduceAdd, Int.reduceSub, Int.reduceToNat, Nat.reduceEqDiff, Nat.reduceLeDiff, Nat.reduceLT, Nat.reduceAdd, Nat.reduceSub, Nat.reduceMul, reduceIte, reduceCtorEq, pv, pbin, peq, plen, pload, pcut, pfill, St.ev, St.set, lk, D.ofV, D.cellsOf, InR.i64, InR.u8, ssL, tx, ix, Fact.c, Pair.c, Cond.c, Action.c, Rule.c, Token.c, Match.c, Alpha.c, Node.c, Network.c, Stamp.c, Firing.c, Choice.c, tagg_128, tel_48, tstr_48, tsz_128, hd, hx, hy, wk] <;> rfl) ?_)
      refine W_draw 8 (by kernel_rfl) (by kernel_rfl) rfl rfl ?_
      repeat' first
        | refine thenQ_normal ?_
        | refine thenQ_ret ?_
        | refine thenQ_exit ?_
        | refine blockQ_normal ?_
        | refine blockQ_ret ?_
        | refine blockQ_exit ?_
        | refine blockQ_pass rfl ?_
        | refine AW_seq ?_
        | refine AW_block ?_
        | refine AW_skip ?_
        | refine AW_ret ?_
        | refine AW_exit ?_
        | refine AW_region ?_
        | refine AO_nil ?_
        | refine C_nil ?_
        | (refine R_pv rfl rfl (by omega) (by simp only [Int.reduceLE, Int.reduceLT, Int.reduceNeg, Int.reduceAdd, Int.reduceSub, Int.reduceToNat, Nat.reduceEqDiff, Nat.reduceLeDiff, Nat.reduceLT, Nat.reduceAdd, Nat.reduceSub, Nat.reduceMul, reduceIte, reduceCtorEq, pv, pbin, peq, plen, pload, pcut, pfill, St.ev, St.set, lk, D.ofV, D.cellsOf, InR.i64, InR.u8, ssL, tx, ix, Fact.c, Pair.c, Cond.c, Action.c, Rule.c, Token.c, Match.c, Alpha.c, Node.c, Network.c, Stamp.c, Firing.c, Choice.c, tagg_128, tel_48, tstr_48, tsz_128, hd, hx, hy, wk] <;> rfl) ?_)
        | (refine C_pv rfl rfl (by omega) (by simp only [Int.reduceLE, Int.reduceLT, Int.reduceNeg, Int.reduceAdd, Int.reduceSub, Int.reduceToNat, Nat.reduceEqDiff, Nat.reduceLeDiff, Nat.reduceLT, Nat.reduceAdd, Nat.reduceSub, Nat.reduceMul, reduceIte, reduceCtorEq, pv, pbin, peq, plen, pload, pcut, pfill, St.ev, St.set, lk, D.ofV, D.cellsOf, InR.i64, InR.u8, ssL, tx, ix, Fact.c, Pair.c, Cond.c, Action.c, Rule.c, Token.c, Match.c, Alpha.c, Node.c, Network.c, Stamp.c, Firing.c, Choice.c, tagg_128, tel_48, tstr_48, tsz_128, hd, hx, hy, wk] <;> rfl) ?_)
        | (refine R_call rfl rfl rfl (by omega) (by simp only [Int.reduceLE, Int.reduceLT, Int.reduceNeg, Int.reduceAdd, Int.reduceSub, Int.reduceToNat, Nat.reduceEqDiff, Nat.reduceLeDiff, Nat.reduceLT, Nat.reduceAdd, Nat.reduceSub, Nat.reduceMul, reduceIte, reduceCtorEq, pv, pbin, peq, plen, pload, pcut, pfill, St.ev, St.set, lk, D.ofV, D.cellsOf, InR.i64, InR.u8, ssL, tx, ix, Fact.c, Pair.c, Cond.c, Action.c, Rule.c, Token.c, Match.c, Alpha.c, Node.c, Network.c, Stamp.c, Firing.c, Choice.c, tagg_128, tel_48, tstr_48, tsz_128, hd, hx, hy, wk] <;> rfl) (by rfl) (by exact hc) (by rfl) ?_)
        | (refine C_call rfl rfl rfl (by omega) (by simp only [Int.reduceLE, Int.reduceLT, Int.reduceNeg, Int.reduceAdd, Int.reduceSub, Int.reduceToNat, Nat.reduceEqDiff, Nat.reduceLeDiff, Nat.reduceLT, Nat.reduceAdd, Nat.reduceSub, Nat.reduceMul, reduceIte, reduceCtorEq, pv, pbin, peq, plen, pload, pcut, pfill, St.ev, St.set, lk, D.ofV, D.cellsOf, InR.i64, InR.u8, ssL, tx, ix, Fact.c, Pair.c, Cond.c, Action.c, Rule.c, Token.c, Match.c, Alpha.c, Node.c, Network.c, Stamp.c, Firing.c, Choice.c, tagg_128, tel_48, tstr_48, tsz_128, hd, hx, hy, wk] <;> rfl) (by rfl) (by exact hc) (by rfl) ?_)
      refine W_false (by simp only [Int.reduceLE, Int.reduceLT, Int.reduceNeg, Int.reduceAdd, Int.reduceSub, Int.reduceToNat, Nat.reduceEqDiff, Nat.reduceLeDiff, Nat.reduceLT, Nat.reduceAdd, Nat.reduceSub, Nat.reduceMul, reduceIte, reduceCtorEq, pv, pbin, peq, plen, pload, pcut, pfill, St.ev, St.set, lk, D.ofV, D.cellsOf, InR.i64, InR.u8, ssL, tx, ix, Fact.c, Pair.c, Cond.c, Action.c, Rule.c, Token.c, Match.c, Alpha.c, Node.c, Network.c, Stamp.c, Firing.c, Choice.c, tagg_128, tel_48, tstr_48, tsz_128] <;> rfl) ?_
      repeat' first
        | refine thenQ_normal ?_
        | refine thenQ_ret ?_
        | refine thenQ_exit ?_
        | refine blockQ_normal ?_
        | refine blockQ_ret ?_
        | refine blockQ_exit ?_
        | refine blockQ_pass rfl ?_
        | refine AW_seq ?_
        | refine AW_block ?_
        | refine AW_skip ?_
        | refine AW_ret ?_
        | refine AW_exit ?_
        | refine AW_region ?_
        | refine AO_nil ?_
        | refine C_nil ?_
        | (refine R_pv rfl rfl (by omega) (by simp only [Int.reduceLE, Int.reduceLT, Int.reduceNeg, Int.reduceAdd, Int.reduceSub, Int.reduceToNat, Nat.reduceEqDiff, Nat.reduceLeDiff, Nat.reduceLT, Nat.reduceAdd, Nat.reduceSub, Nat.reduceMul, reduceIte, reduceCtorEq, pv, pbin, peq, plen, pload, pcut, pfill, St.ev, St.set, lk, D.ofV, D.cellsOf, InR.i64, InR.u8, ssL, tx, ix, Fact.c, Pair.c, Cond.c, Action.c, Rule.c, Token.c, Match.c, Alpha.c, Node.c, Network.c, Stamp.c, Firing.c, Choice.c, tagg_128, tel_48, tstr_48, tsz_128, wk] <;> rfl) ?_)
        | (refine C_pv rfl rfl (by omega) (by simp only [Int.reduceLE, Int.reduceLT, Int.reduceNeg, Int.reduceAdd, Int.reduceSub, Int.reduceToNat, Nat.reduceEqDiff, Nat.reduceLeDiff, Nat.reduceLT, Nat.reduceAdd, Nat.reduceSub, Nat.reduceMul, reduceIte, reduceCtorEq, pv, pbin, peq, plen, pload, pcut, pfill, St.ev, St.set, lk, D.ofV, D.cellsOf, InR.i64, InR.u8, ssL, tx, ix, Fact.c, Pair.c, Cond.c, Action.c, Rule.c, Token.c, Match.c, Alpha.c, Node.c, Network.c, Stamp.c, Firing.c, Choice.c, tagg_128, tel_48, tstr_48, tsz_128, wk] <;> rfl) ?_)
      refine ⟨hlt, rfl, ?_, by rw [take_snoc hx, take_snoc hy, hI, c2]⟩
      simp only [St.trim, Int.reduceLE, Int.reduceLT, Int.reduceNeg, Int.reduceAdd, Int.reduceSub, Int.reduceToNat, Nat.reduceEqDiff, Nat.reduceLeDiff, Nat.reduceLT, Nat.reduceAdd, Nat.reduceSub, Nat.reduceMul, reduceIte, reduceCtorEq, pv, pbin, peq, plen, pload, pcut, pfill, St.ev, St.set, lk, D.ofV, D.cellsOf, InR.i64, InR.u8, ssL, tx, ix, Fact.c, Pair.c, Cond.c, Action.c, Rule.c, Token.c, Match.c, Alpha.c, Node.c, Network.c, Stamp.c, Firing.c, Choice.c, tagg_128, tel_48, tstr_48, tsz_128]
    · have hd := lt_false hge
      have hkl : k = l.length := by omega
      subst hkl
      have hlm : l = m := by rw [List.take_length, c1, List.take_length] at hI; exact hI
      repeat' first
        | refine thenQ_normal ?_
        | refine thenQ_ret ?_
        | refine thenQ_exit ?_
        | refine blockQ_normal ?_
        | refine blockQ_ret ?_
        | refine blockQ_exit ?_
        | refine blockQ_pass rfl ?_
        | refine AW_seq ?_
        | refine AW_block ?_
        | refine AW_skip ?_
        | refine AW_ret ?_
        | refine AW_exit ?_
        | refine AW_region ?_
        | refine AO_nil ?_
        | refine C_nil ?_
        | (refine R_pv rfl rfl (by omega) (by simp only [Int.reduceLE, Int.reduceLT, Int.reduceNeg, Int.reduceAdd, Int.reduceSub, Int.reduceToNat, Nat.reduceEqDiff, Nat.reduceLeDiff, Nat.reduceLT, Nat.reduceAdd, Nat.reduceSub, Nat.reduceMul, reduceIte, reduceCtorEq, pv, pbin, peq, plen, pload, pcut, pfill, St.ev, St.set, lk, D.ofV, D.cellsOf, InR.i64, InR.u8, ssL, tx, ix, Fact.c, Pair.c, Cond.c, Action.c, Rule.c, Token.c, Match.c, Alpha.c, Node.c, Network.c, Stamp.c, Firing.c, Choice.c, tagg_128, tel_48, tstr_48, tsz_128, hd] <;> rfl) ?_)
        | (refine C_pv rfl rfl (by omega) (by simp only [Int.reduceLE, Int.reduceLT, Int.reduceNeg, Int.reduceAdd, Int.reduceSub, Int.reduceToNat, Nat.reduceEqDiff, Nat.reduceLeDiff, Nat.reduceLT, Nat.reduceAdd, Nat.reduceSub, Nat.reduceMul, reduceIte, reduceCtorEq, pv, pbin, peq, plen, pload, pcut, pfill, St.ev, St.set, lk, D.ofV, D.cellsOf, InR.i64, InR.u8, ssL, tx, ix, Fact.c, Pair.c, Cond.c, Action.c, Rule.c, Token.c, Match.c, Alpha.c, Node.c, Network.c, Stamp.c, Firing.c, Choice.c, tagg_128, tel_48, tstr_48, tsz_128, hd] <;> rfl) ?_)
      refine W_false (by simp only [Int.reduceLE, Int.reduceLT, Int.reduceNeg, Int.reduceAdd, Int.reduceSub, Int.reduceToNat, Nat.reduceEqDiff, Nat.reduceLeDiff, Nat.reduceLT, Nat.reduceAdd, Nat.reduceSub, Nat.reduceMul, reduceIte, reduceCtorEq, pv, pbin, peq, plen, pload, pcut, pfill, St.ev, St.set, lk, D.ofV, D.cellsOf, InR.i64, InR.u8, ssL, tx, ix, Fact.c, Pair.c, Cond.c, Action.c, Rule.c, Token.c, Match.c, Alpha.c, Node.c, Network.c, Stamp.c, Firing.c, Choice.c, tagg_128, tel_48, tstr_48, tsz_128, hd] <;> rfl) ?_
      repeat' first
        | refine thenQ_normal ?_
        | refine thenQ_ret ?_
        | refine thenQ_exit ?_
        | refine blockQ_normal ?_
        | refine blockQ_ret ?_
        | refine blockQ_exit ?_
        | refine blockQ_pass rfl ?_
        | refine AW_seq ?_
        | refine AW_block ?_
        | refine AW_skip ?_
        | refine AW_ret ?_
        | refine AW_exit ?_
        | refine AW_region ?_
        | refine AO_nil ?_
        | refine C_nil ?_
        | (refine R_pv rfl rfl (by omega) (by simp only [Int.reduceLE, Int.reduceLT, Int.reduceNeg, Int.reduceAdd, Int.reduceSub, Int.reduceToNat, Nat.reduceEqDiff, Nat.reduceLeDiff, Nat.reduceLT, Nat.reduceAdd, Nat.reduceSub, Nat.reduceMul, reduceIte, reduceCtorEq, pv, pbin, peq, plen, pload, pcut, pfill, St.ev, St.set, lk, D.ofV, D.cellsOf, InR.i64, InR.u8, ssL, tx, ix, Fact.c, Pair.c, Cond.c, Action.c, Rule.c, Token.c, Match.c, Alpha.c, Node.c, Network.c, Stamp.c, Firing.c, Choice.c, tagg_128, tel_48, tstr_48, tsz_128] <;> rfl) ?_)
        | (refine C_pv rfl rfl (by omega) (by simp only [Int.reduceLE, Int.reduceLT, Int.reduceNeg, Int.reduceAdd, Int.reduceSub, Int.reduceToNat, Nat.reduceEqDiff, Nat.reduceLeDiff, Nat.reduceLT, Nat.reduceAdd, Nat.reduceSub, Nat.reduceMul, reduceIte, reduceCtorEq, pv, pbin, peq, plen, pload, pcut, pfill, St.ev, St.set, lk, D.ofV, D.cellsOf, InR.i64, InR.u8, ssL, tx, ix, Fact.c, Pair.c, Cond.c, Action.c, Rule.c, Token.c, Match.c, Alpha.c, Node.c, Network.c, Stamp.c, Firing.c, Choice.c, tagg_128, tel_48, tstr_48, tsz_128] <;> rfl) ?_)
      exact RetQ_ret (by simp only [Try.f68, resDs, resD, Int.reduceLE, Int.reduceLT, Int.reduceNeg, Int.reduceAdd, Int.reduceSub, Int.reduceToNat, Nat.reduceEqDiff, Nat.reduceLeDiff, Nat.reduceLT, Nat.reduceAdd, Nat.reduceSub, Nat.reduceMul, reduceIte, reduceCtorEq, pv, pbin, peq, plen, pload, pcut, pfill, St.ev, St.set, lk, D.ofV, D.cellsOf, InR.i64, InR.u8, ssL, tx, ix, Fact.c, Pair.c, Cond.c, Action.c, Rule.c, Token.c, Match.c, Alpha.c, Node.c, Network.c, Stamp.c, Firing.c, Choice.c, tagg_128, tel_48, tstr_48, tsz_128] <;> rfl) rfl (by simp only [packD]; rw [decide_eq_true hlm])

set_option linter.unusedSimpArgs false in
set_option maxRecDepth 100000 in
set_option maxHeartbeats 1000000 in
theorem eqMatch_good (x y : Match) : Good Try.prog 28 [.agg x.c, .agg y.c] (.bool (decide (x = y))) := by
  refine Good.of Try.func28 rfl (by decide) (by simp [Try.f28]) ?_
  intro hr Γ hΓ
  have hΓ : Γ.nt = 22 := hΓ
  simp only [args0]
  by_cases c1 : x.rule = y.rule
  case neg =>
    have d1 : (!(x.rule == y.rule)) = true := by simp [c1]
    repeat' first
      | refine thenQ_normal ?_
      | refine thenQ_ret ?_
      | refine thenQ_exit ?_
      | refine blockQ_normal ?_
      | refine blockQ_ret ?_
      | refine blockQ_exit ?_
      | refine blockQ_pass rfl ?_
      | refine AW_seq ?_
      | refine AW_block ?_
      | refine AW_skip ?_
      | refine AW_ret ?_
      | refine AW_exit ?_
      | refine AW_region ?_
      | refine AO_nil ?_
      | refine C_nil ?_
      | (refine R_pv rfl rfl (by omega) (by simp only [Int.reduceLE, Int.reduceLT, Int.reduceNeg, Int.reduceAdd, Int.reduceSub, Int.reduceToNat, Nat.reduceEqDiff, Nat.reduceLeDiff, Nat.reduceLT, Nat.reduceAdd, Nat.reduceSub, Nat.reduceMul, reduceIte, reduceCtorEq, pv, pbin, peq, plen, pload, pcut, pfill, St.ev, St.set, lk, D.ofV, D.cellsOf, InR.i64, InR.u8, ssL, tx, ix, Fact.c, Pair.c, Cond.c, Action.c, Rule.c, Token.c, Match.c, Alpha.c, Node.c, Network.c, Stamp.c, Firing.c, Choice.c, tagg_36, tagg_48, tagg_9, tfo_50_0, tfo_50_1, tfo_50_2, tsz_36, tsz_48, tsz_9, d1] <;> rfl) ?_)
      | (refine R_eff hΓ rfl (by simp only [peff, Int.reduceLE, Int.reduceLT, Int.reduceNeg, Int.reduceAdd, Int.reduceSub, Int.reduceToNat, Nat.reduceEqDiff, Nat.reduceLeDiff, Nat.reduceLT, Nat.reduceAdd, Nat.reduceSub, Nat.reduceMul, reduceIte, reduceCtorEq, pv, pbin, peq, plen, pload, pcut, pfill, St.ev, St.set, lk, D.ofV, D.cellsOf, InR.i64, InR.u8, ssL, tx, ix, Fact.c, Pair.c, Cond.c, Action.c, Rule.c, Token.c, Match.c, Alpha.c, Node.c, Network.c, Stamp.c, Firing.c, Choice.c, tagg_36, tagg_48, tagg_9, tfo_50_0, tfo_50_1, tfo_50_2, tsz_36, tsz_48, tsz_9, d1] <;> rfl) ?_)
    refine W_true (by simp only [Int.reduceLE, Int.reduceLT, Int.reduceNeg, Int.reduceAdd, Int.reduceSub, Int.reduceToNat, Nat.reduceEqDiff, Nat.reduceLeDiff, Nat.reduceLT, Nat.reduceAdd, Nat.reduceSub, Nat.reduceMul, reduceIte, reduceCtorEq, pv, pbin, peq, plen, pload, pcut, pfill, St.ev, St.set, lk, D.ofV, D.cellsOf, InR.i64, InR.u8, ssL, tx, ix, Fact.c, Pair.c, Cond.c, Action.c, Rule.c, Token.c, Match.c, Alpha.c, Node.c, Network.c, Stamp.c, Firing.c, Choice.c, tagg_36, tagg_48, tagg_9, tfo_50_0, tfo_50_1, tfo_50_2, tsz_36, tsz_48, tsz_9, d1] <;> rfl) ?_
    repeat' first
      | refine thenQ_normal ?_
      | refine thenQ_ret ?_
      | refine thenQ_exit ?_
      | refine blockQ_normal ?_
      | refine blockQ_ret ?_
      | refine blockQ_exit ?_
      | refine blockQ_pass rfl ?_
      | refine AW_seq ?_
      | refine AW_block ?_
      | refine AW_skip ?_
      | refine AW_ret ?_
      | refine AW_exit ?_
      | refine AW_region ?_
      | refine AO_nil ?_
      | refine C_nil ?_
      | (refine R_pv rfl rfl (by omega) (by simp only [Int.reduceLE, Int.reduceLT, Int.reduceNeg, Int.reduceAdd, Int.reduceSub, Int.reduceToNat, Nat.reduceEqDiff, Nat.reduceLeDiff, Nat.reduceLT, Nat.reduceAdd, Nat.reduceSub, Nat.reduceMul, reduceIte, reduceCtorEq, pv, pbin, peq, plen, pload, pcut, pfill, St.ev, St.set, lk, D.ofV, D.cellsOf, InR.i64, InR.u8, ssL, tx, ix, Fact.c, Pair.c, Cond.c, Action.c, Rule.c, Token.c, Match.c, Alpha.c, Node.c, Network.c, Stamp.c, Firing.c, Choice.c, tagg_36, tagg_48, tagg_9, tfo_50_0, tfo_50_1, tfo_50_2, tsz_36, tsz_48, tsz_9] <;> rfl) ?_)
      | (refine R_eff hΓ rfl (by simp only [peff, Int.reduceLE, Int.reduceLT, Int.reduceNeg, Int.reduceAdd, Int.reduceSub, Int.reduceToNat, Nat.reduceEqDiff, Nat.reduceLeDiff, Nat.reduceLT, Nat.reduceAdd, Nat.reduceSub, Nat.reduceMul, reduceIte, reduceCtorEq, pv, pbin, peq, plen, pload, pcut, pfill, St.ev, St.set, lk, D.ofV, D.cellsOf, InR.i64, InR.u8, ssL, tx, ix, Fact.c, Pair.c, Cond.c, Action.c, Rule.c, Token.c, Match.c, Alpha.c, Node.c, Network.c, Stamp.c, Firing.c, Choice.c, tagg_36, tagg_48, tagg_9, tfo_50_0, tfo_50_1, tfo_50_2, tsz_36, tsz_48, tsz_9] <;> rfl) ?_)
    exact RetQ_ret (by simp only [Try.f28, resDs, resD, Int.reduceLE, Int.reduceLT, Int.reduceNeg, Int.reduceAdd, Int.reduceSub, Int.reduceToNat, Nat.reduceEqDiff, Nat.reduceLeDiff, Nat.reduceLT, Nat.reduceAdd, Nat.reduceSub, Nat.reduceMul, reduceIte, reduceCtorEq, pv, pbin, peq, plen, pload, pcut, pfill, St.ev, St.set, lk, D.ofV, D.cellsOf, InR.i64, InR.u8, ssL, tx, ix, Fact.c, Pair.c, Cond.c, Action.c, Rule.c, Token.c, Match.c, Alpha.c, Node.c, Network.c, Stamp.c, Firing.c, Choice.c, tagg_36, tagg_48, tagg_9, tfo_50_0, tfo_50_1, tfo_50_2, tsz_36, tsz_48, tsz_9] <;> rfl) rfl (by simp only [packD]; rw [decide_eq_false (fun h => c1 (by rw [h]))])
  have d1 : (!(x.rule == y.rule)) = false := by simp [c1]
  repeat' first
    | refine thenQ_normal ?_
    | refine thenQ_ret ?_
    | refine thenQ_exit ?_
    | refine blockQ_normal ?_
    | refine blockQ_ret ?_
    | refine blockQ_exit ?_
    | refine blockQ_pass rfl ?_
    | refine AW_seq ?_
    | refine AW_block ?_
    | refine AW_skip ?_
    | refine AW_ret ?_
    | refine AW_exit ?_
    | refine AW_region ?_
    | refine AO_nil ?_
    | refine C_nil ?_
    | (refine R_pv rfl rfl (by omega) (by simp only [Int.reduceLE, Int.reduceLT, Int.reduceNeg, Int.reduceAdd, Int.reduceSub, Int.reduceToNat, Nat.reduceEqDiff, Nat.reduceLeDiff, Nat.reduceLT, Nat.reduceAdd, Nat.reduceSub, Nat.reduceMul, reduceIte, reduceCtorEq, pv, pbin, peq, plen, pload, pcut, pfill, St.ev, St.set, lk, D.ofV, D.cellsOf, InR.i64, InR.u8, ssL, tx, ix, Fact.c, Pair.c, Cond.c, Action.c, Rule.c, Token.c, Match.c, Alpha.c, Node.c, Network.c, Stamp.c, Firing.c, Choice.c, tagg_36, tagg_48, tagg_9, tfo_50_0, tfo_50_1, tfo_50_2, tsz_36, tsz_48, tsz_9, d1] <;> rfl) ?_)
    | (refine R_eff hΓ rfl (by simp only [peff, Int.reduceLE, Int.reduceLT, Int.reduceNeg, Int.reduceAdd, Int.reduceSub, Int.reduceToNat, Nat.reduceEqDiff, Nat.reduceLeDiff, Nat.reduceLT, Nat.reduceAdd, Nat.reduceSub, Nat.reduceMul, reduceIte, reduceCtorEq, pv, pbin, peq, plen, pload, pcut, pfill, St.ev, St.set, lk, D.ofV, D.cellsOf, InR.i64, InR.u8, ssL, tx, ix, Fact.c, Pair.c, Cond.c, Action.c, Rule.c, Token.c, Match.c, Alpha.c, Node.c, Network.c, Stamp.c, Firing.c, Choice.c, tagg_36, tagg_48, tagg_9, tfo_50_0, tfo_50_1, tfo_50_2, tsz_36, tsz_48, tsz_9, d1] <;> rfl) ?_)
  refine W_false (by simp only [Int.reduceLE, Int.reduceLT, Int.reduceNeg, Int.reduceAdd, Int.reduceSub, Int.reduceToNat, Nat.reduceEqDiff, Nat.reduceLeDiff, Nat.reduceLT, Nat.reduceAdd, Nat.reduceSub, Nat.reduceMul, reduceIte, reduceCtorEq, pv, pbin, peq, plen, pload, pcut, pfill, St.ev, St.set, lk, D.ofV, D.cellsOf, InR.i64, InR.u8, ssL, tx, ix, Fact.c, Pair.c, Cond.c, Action.c, Rule.c, Token.c, Match.c, Alpha.c, Node.c, Network.c, Stamp.c, Firing.c, Choice.c, tagg_36, tagg_48, tagg_9, tfo_50_0, tfo_50_1, tfo_50_2, tsz_36, tsz_48, tsz_9, d1] <;> rfl) ?_
  by_cases c2 : x.facts = y.facts
  case neg =>
    have hc := eqFactS_good x.facts y.facts
    rw [decide_eq_false c2] at hc
    repeat' first
      | refine thenQ_normal ?_
      | refine thenQ_ret ?_
      | refine thenQ_exit ?_
      | refine blockQ_normal ?_
      | refine blockQ_ret ?_
      | refine blockQ_exit ?_
      | refine blockQ_pass rfl ?_
      | refine AW_seq ?_
      | refine AW_block ?_
      | refine AW_skip ?_
      | refine AW_ret ?_
      | refine AW_exit ?_
      | refine AW_region ?_
      | refine AO_nil ?_
      | refine C_nil ?_
      | (refine R_pv rfl rfl (by omega) (by simp only [Int.reduceLE, Int.reduceLT, Int.reduceNeg, Int.reduceAdd, Int.reduceSub, Int.reduceToNat, Nat.reduceEqDiff, Nat.reduceLeDiff, Nat.reduceLT, Nat.reduceAdd, Nat.reduceSub, Nat.reduceMul, reduceIte, reduceCtorEq, pv, pbin, peq, plen, pload, pcut, pfill, St.ev, St.set, lk, D.ofV, D.cellsOf, InR.i64, InR.u8, ssL, tx, ix, Fact.c, Pair.c, Cond.c, Action.c, Rule.c, Token.c, Match.c, Alpha.c, Node.c, Network.c, Stamp.c, Firing.c, Choice.c, tagg_36, tagg_48, tagg_9, tfo_50_0, tfo_50_1, tfo_50_2, tsz_36, tsz_48, tsz_9] <;> rfl) ?_)
      | (refine R_eff hΓ rfl (by simp only [peff, Int.reduceLE, Int.reduceLT, Int.reduceNeg, Int.reduceAdd, Int.reduceSub, Int.reduceToNat, Nat.reduceEqDiff, Nat.reduceLeDiff, Nat.reduceLT, Nat.reduceAdd, Nat.reduceSub, Nat.reduceMul, reduceIte, reduceCtorEq, pv, pbin, peq, plen, pload, pcut, pfill, St.ev, St.set, lk, D.ofV, D.cellsOf, InR.i64, InR.u8, ssL, tx, ix, Fact.c, Pair.c, Cond.c, Action.c, Rule.c, Token.c, Match.c, Alpha.c, Node.c, Network.c, Stamp.c, Firing.c, Choice.c, tagg_36, tagg_48, tagg_9, tfo_50_0, tfo_50_1, tfo_50_2, tsz_36, tsz_48, tsz_9] <;> rfl) ?_)
      | (refine R_call rfl rfl rfl (by omega) (by simp only [Int.reduceLE, Int.reduceLT, Int.reduceNeg, Int.reduceAdd, Int.reduceSub, Int.reduceToNat, Nat.reduceEqDiff, Nat.reduceLeDiff, Nat.reduceLT, Nat.reduceAdd, Nat.reduceSub, Nat.reduceMul, reduceIte, reduceCtorEq, pv, pbin, peq, plen, pload, pcut, pfill, St.ev, St.set, lk, D.ofV, D.cellsOf, InR.i64, InR.u8, ssL, tx, ix, Fact.c, Pair.c, Cond.c, Action.c, Rule.c, Token.c, Match.c, Alpha.c, Node.c, Network.c, Stamp.c, Firing.c, Choice.c, tagg_36, tagg_48, tagg_9, tfo_50_0, tfo_50_1, tfo_50_2, tsz_36, tsz_48, tsz_9] <;> rfl) (by rfl) (by exact hc) (by rfl) ?_)
    refine W_true (by simp only [Int.reduceLE, Int.reduceLT, Int.reduceNeg, Int.reduceAdd, Int.reduceSub, Int.reduceToNat, Nat.reduceEqDiff, Nat.reduceLeDiff, Nat.reduceLT, Nat.reduceAdd, Nat.reduceSub, Nat.reduceMul, reduceIte, reduceCtorEq, pv, pbin, peq, plen, pload, pcut, pfill, St.ev, St.set, lk, D.ofV, D.cellsOf, InR.i64, InR.u8, ssL, tx, ix, Fact.c, Pair.c, Cond.c, Action.c, Rule.c, Token.c, Match.c, Alpha.c, Node.c, Network.c, Stamp.c, Firing.c, Choice.c, tagg_36, tagg_48, tagg_9, tfo_50_0, tfo_50_1, tfo_50_2, tsz_36, tsz_48, tsz_9] <;> rfl) ?_
    repeat' first
      | refine thenQ_normal ?_
      | refine thenQ_ret ?_
      | refine thenQ_exit ?_
      | refine blockQ_normal ?_
      | refine blockQ_ret ?_
      | refine blockQ_exit ?_
      | refine blockQ_pass rfl ?_
      | refine AW_seq ?_
      | refine AW_block ?_
      | refine AW_skip ?_
      | refine AW_ret ?_
      | refine AW_exit ?_
      | refine AW_region ?_
      | refine AO_nil ?_
      | refine C_nil ?_
      | (refine R_pv rfl rfl (by omega) (by simp only [Int.reduceLE, Int.reduceLT, Int.reduceNeg, Int.reduceAdd, Int.reduceSub, Int.reduceToNat, Nat.reduceEqDiff, Nat.reduceLeDiff, Nat.reduceLT, Nat.reduceAdd, Nat.reduceSub, Nat.reduceMul, reduceIte, reduceCtorEq, pv, pbin, peq, plen, pload, pcut, pfill, St.ev, St.set, lk, D.ofV, D.cellsOf, InR.i64, InR.u8, ssL, tx, ix, Fact.c, Pair.c, Cond.c, Action.c, Rule.c, Token.c, Match.c, Alpha.c, Node.c, Network.c, Stamp.c, Firing.c, Choice.c, tagg_36, tagg_48, tagg_9, tfo_50_0, tfo_50_1, tfo_50_2, tsz_36, tsz_48, tsz_9] <;> rfl) ?_)
      | (refine R_eff hΓ rfl (by simp only [peff, Int.reduceLE, Int.reduceLT, Int.reduceNeg, Int.reduceAdd, Int.reduceSub, Int.reduceToNat, Nat.reduceEqDiff, Nat.reduceLeDiff, Nat.reduceLT, Nat.reduceAdd, Nat.reduceSub, Nat.reduceMul, reduceIte, reduceCtorEq, pv, pbin, peq, plen, pload, pcut, pfill, St.ev, St.set, lk, D.ofV, D.cellsOf, InR.i64, InR.u8, ssL, tx, ix, Fact.c, Pair.c, Cond.c, Action.c, Rule.c, Token.c, Match.c, Alpha.c, Node.c, Network.c, Stamp.c, Firing.c, Choice.c, tagg_36, tagg_48, tagg_9, tfo_50_0, tfo_50_1, tfo_50_2, tsz_36, tsz_48, tsz_9] <;> rfl) ?_)
    exact RetQ_ret (by simp only [Try.f28, resDs, resD, Int.reduceLE, Int.reduceLT, Int.reduceNeg, Int.reduceAdd, Int.reduceSub, Int.reduceToNat, Nat.reduceEqDiff, Nat.reduceLeDiff, Nat.reduceLT, Nat.reduceAdd, Nat.reduceSub, Nat.reduceMul, reduceIte, reduceCtorEq, pv, pbin, peq, plen, pload, pcut, pfill, St.ev, St.set, lk, D.ofV, D.cellsOf, InR.i64, InR.u8, ssL, tx, ix, Fact.c, Pair.c, Cond.c, Action.c, Rule.c, Token.c, Match.c, Alpha.c, Node.c, Network.c, Stamp.c, Firing.c, Choice.c, tagg_36, tagg_48, tagg_9, tfo_50_0, tfo_50_1, tfo_50_2, tsz_36, tsz_48, tsz_9] <;> rfl) rfl (by simp only [packD]; rw [decide_eq_false (fun h => c2 (by rw [h]))])
  have hc2 := eqFactS_good x.facts y.facts
  rw [decide_eq_true c2] at hc2
  repeat' first
    | refine thenQ_normal ?_
    | refine thenQ_ret ?_
    | refine thenQ_exit ?_
    | refine blockQ_normal ?_
    | refine blockQ_ret ?_
    | refine blockQ_exit ?_
    | refine blockQ_pass rfl ?_
    | refine AW_seq ?_
    | refine AW_block ?_
    | refine AW_skip ?_
    | refine AW_ret ?_
    | refine AW_exit ?_
    | refine AW_region ?_
    | refine AO_nil ?_
    | refine C_nil ?_
    | (refine R_pv rfl rfl (by omega) (by simp only [Int.reduceLE, Int.reduceLT, Int.reduceNeg, Int.reduceAdd, Int.reduceSub, Int.reduceToNat, Nat.reduceEqDiff, Nat.reduceLeDiff, Nat.reduceLT, Nat.reduceAdd, Nat.reduceSub, Nat.reduceMul, reduceIte, reduceCtorEq, pv, pbin, peq, plen, pload, pcut, pfill, St.ev, St.set, lk, D.ofV, D.cellsOf, InR.i64, InR.u8, ssL, tx, ix, Fact.c, Pair.c, Cond.c, Action.c, Rule.c, Token.c, Match.c, Alpha.c, Node.c, Network.c, Stamp.c, Firing.c, Choice.c, tagg_36, tagg_48, tagg_9, tfo_50_0, tfo_50_1, tfo_50_2, tsz_36, tsz_48, tsz_9] <;> rfl) ?_)
    | (refine R_eff hΓ rfl (by simp only [peff, Int.reduceLE, Int.reduceLT, Int.reduceNeg, Int.reduceAdd, Int.reduceSub, Int.reduceToNat, Nat.reduceEqDiff, Nat.reduceLeDiff, Nat.reduceLT, Nat.reduceAdd, Nat.reduceSub, Nat.reduceMul, reduceIte, reduceCtorEq, pv, pbin, peq, plen, pload, pcut, pfill, St.ev, St.set, lk, D.ofV, D.cellsOf, InR.i64, InR.u8, ssL, tx, ix, Fact.c, Pair.c, Cond.c, Action.c, Rule.c, Token.c, Match.c, Alpha.c, Node.c, Network.c, Stamp.c, Firing.c, Choice.c, tagg_36, tagg_48, tagg_9, tfo_50_0, tfo_50_1, tfo_50_2, tsz_36, tsz_48, tsz_9] <;> rfl) ?_)
    | (refine R_call rfl rfl rfl (by omega) (by simp only [Int.reduceLE, Int.reduceLT, Int.reduceNeg, Int.reduceAdd, Int.reduceSub, Int.reduceToNat, Nat.reduceEqDiff, Nat.reduceLeDiff, Nat.reduceLT, Nat.reduceAdd, Nat.reduceSub, Nat.reduceMul, reduceIte, reduceCtorEq, pv, pbin, peq, plen, pload, pcut, pfill, St.ev, St.set, lk, D.ofV, D.cellsOf, InR.i64, InR.u8, ssL, tx, ix, Fact.c, Pair.c, Cond.c, Action.c, Rule.c, Token.c, Match.c, Alpha.c, Node.c, Network.c, Stamp.c, Firing.c, Choice.c, tagg_36, tagg_48, tagg_9, tfo_50_0, tfo_50_1, tfo_50_2, tsz_36, tsz_48, tsz_9] <;> rfl) (by rfl) (by exact hc2) (by rfl) ?_)
  refine W_false (by simp only [Int.reduceLE, Int.reduceLT, Int.reduceNeg, Int.reduceAdd, Int.reduceSub, Int.reduceToNat, Nat.reduceEqDiff, Nat.reduceLeDiff, Nat.reduceLT, Nat.reduceAdd, Nat.reduceSub, Nat.reduceMul, reduceIte, reduceCtorEq, pv, pbin, peq, plen, pload, pcut, pfill, St.ev, St.set, lk, D.ofV, D.cellsOf, InR.i64, InR.u8, ssL, tx, ix, Fact.c, Pair.c, Cond.c, Action.c, Rule.c, Token.c, Match.c, Alpha.c, Node.c, Network.c, Stamp.c, Firing.c, Choice.c, tagg_36, tagg_48, tagg_9, tfo_50_0, tfo_50_1, tfo_50_2, tsz_36, tsz_48, tsz_9] <;> rfl) ?_
  by_cases c3 : x.bind = y.bind
  case neg =>
    have hc := eqPairS_good x.bind y.bind
    rw [decide_eq_false c3] at hc
    repeat' first
      | refine thenQ_normal ?_
      | refine thenQ_ret ?_
      | refine thenQ_exit ?_
      | refine blockQ_normal ?_
      | refine blockQ_ret ?_
      | refine blockQ_exit ?_
      | refine blockQ_pass rfl ?_
      | refine AW_seq ?_
      | refine AW_block ?_
      | refine AW_skip ?_
      | refine AW_ret ?_
      | refine AW_exit ?_
      | refine AW_region ?_
      | refine AO_nil ?_
      | refine C_nil ?_
      | (refine R_pv rfl rfl (by omega) (by simp only [Int.reduceLE, Int.reduceLT, Int.reduceNeg, Int.reduceAdd, Int.reduceSub, Int.reduceToNat, Nat.reduceEqDiff, Nat.reduceLeDiff, Nat.reduceLT, Nat.reduceAdd, Nat.reduceSub, Nat.reduceMul, reduceIte, reduceCtorEq, pv, pbin, peq, plen, pload, pcut, pfill, St.ev, St.set, lk, D.ofV, D.cellsOf, InR.i64, InR.u8, ssL, tx, ix, Fact.c, Pair.c, Cond.c, Action.c, Rule.c, Token.c, Match.c, Alpha.c, Node.c, Network.c, Stamp.c, Firing.c, Choice.c, tagg_36, tagg_48, tagg_9, tfo_50_0, tfo_50_1, tfo_50_2, tsz_36, tsz_48, tsz_9] <;> rfl) ?_)
      | (refine R_eff hΓ rfl (by simp only [peff, Int.reduceLE, Int.reduceLT, Int.reduceNeg, Int.reduceAdd, Int.reduceSub, Int.reduceToNat, Nat.reduceEqDiff, Nat.reduceLeDiff, Nat.reduceLT, Nat.reduceAdd, Nat.reduceSub, Nat.reduceMul, reduceIte, reduceCtorEq, pv, pbin, peq, plen, pload, pcut, pfill, St.ev, St.set, lk, D.ofV, D.cellsOf, InR.i64, InR.u8, ssL, tx, ix, Fact.c, Pair.c, Cond.c, Action.c, Rule.c, Token.c, Match.c, Alpha.c, Node.c, Network.c, Stamp.c, Firing.c, Choice.c, tagg_36, tagg_48, tagg_9, tfo_50_0, tfo_50_1, tfo_50_2, tsz_36, tsz_48, tsz_9] <;> rfl) ?_)
      | (refine R_call rfl rfl rfl (by omega) (by simp only [Int.reduceLE, Int.reduceLT, Int.reduceNeg, Int.reduceAdd, Int.reduceSub, Int.reduceToNat, Nat.reduceEqDiff, Nat.reduceLeDiff, Nat.reduceLT, Nat.reduceAdd, Nat.reduceSub, Nat.reduceMul, reduceIte, reduceCtorEq, pv, pbin, peq, plen, pload, pcut, pfill, St.ev, St.set, lk, D.ofV, D.cellsOf, InR.i64, InR.u8, ssL, tx, ix, Fact.c, Pair.c, Cond.c, Action.c, Rule.c, Token.c, Match.c, Alpha.c, Node.c, Network.c, Stamp.c, Firing.c, Choice.c, tagg_36, tagg_48, tagg_9, tfo_50_0, tfo_50_1, tfo_50_2, tsz_36, tsz_48, tsz_9] <;> rfl) (by rfl) (by exact hc) (by rfl) ?_)
    refine W_true (by simp only [Int.reduceLE, Int.reduceLT, Int.reduceNeg, Int.reduceAdd, Int.reduceSub, Int.reduceToNat, Nat.reduceEqDiff, Nat.reduceLeDiff, Nat.reduceLT, Nat.reduceAdd, Nat.reduceSub, Nat.reduceMul, reduceIte, reduceCtorEq, pv, pbin, peq, plen, pload, pcut, pfill, St.ev, St.set, lk, D.ofV, D.cellsOf, InR.i64, InR.u8, ssL, tx, ix, Fact.c, Pair.c, Cond.c, Action.c, Rule.c, Token.c, Match.c, Alpha.c, Node.c, Network.c, Stamp.c, Firing.c, Choice.c, tagg_36, tagg_48, tagg_9, tfo_50_0, tfo_50_1, tfo_50_2, tsz_36, tsz_48, tsz_9] <;> rfl) ?_
    repeat' first
      | refine thenQ_normal ?_
      | refine thenQ_ret ?_
      | refine thenQ_exit ?_
      | refine blockQ_normal ?_
      | refine blockQ_ret ?_
      | refine blockQ_exit ?_
      | refine blockQ_pass rfl ?_
      | refine AW_seq ?_
      | refine AW_block ?_
      | refine AW_skip ?_
      | refine AW_ret ?_
      | refine AW_exit ?_
      | refine AW_region ?_
      | refine AO_nil ?_
      | refine C_nil ?_
      | (refine R_pv rfl rfl (by omega) (by simp only [Int.reduceLE, Int.reduceLT, Int.reduceNeg, Int.reduceAdd, Int.reduceSub, Int.reduceToNat, Nat.reduceEqDiff, Nat.reduceLeDiff, Nat.reduceLT, Nat.reduceAdd, Nat.reduceSub, Nat.reduceMul, reduceIte, reduceCtorEq, pv, pbin, peq, plen, pload, pcut, pfill, St.ev, St.set, lk, D.ofV, D.cellsOf, InR.i64, InR.u8, ssL, tx, ix, Fact.c, Pair.c, Cond.c, Action.c, Rule.c, Token.c, Match.c, Alpha.c, Node.c, Network.c, Stamp.c, Firing.c, Choice.c, tagg_36, tagg_48, tagg_9, tfo_50_0, tfo_50_1, tfo_50_2, tsz_36, tsz_48, tsz_9] <;> rfl) ?_)
      | (refine R_eff hΓ rfl (by simp only [peff, Int.reduceLE, Int.reduceLT, Int.reduceNeg, Int.reduceAdd, Int.reduceSub, Int.reduceToNat, Nat.reduceEqDiff, Nat.reduceLeDiff, Nat.reduceLT, Nat.reduceAdd, Nat.reduceSub, Nat.reduceMul, reduceIte, reduceCtorEq, pv, pbin, peq, plen, pload, pcut, pfill, St.ev, St.set, lk, D.ofV, D.cellsOf, InR.i64, InR.u8, ssL, tx, ix, Fact.c, Pair.c, Cond.c, Action.c, Rule.c, Token.c, Match.c, Alpha.c, Node.c, Network.c, Stamp.c, Firing.c, Choice.c, tagg_36, tagg_48, tagg_9, tfo_50_0, tfo_50_1, tfo_50_2, tsz_36, tsz_48, tsz_9] <;> rfl) ?_)
    exact RetQ_ret (by simp only [Try.f28, resDs, resD, Int.reduceLE, Int.reduceLT, Int.reduceNeg, Int.reduceAdd, Int.reduceSub, Int.reduceToNat, Nat.reduceEqDiff, Nat.reduceLeDiff, Nat.reduceLT, Nat.reduceAdd, Nat.reduceSub, Nat.reduceMul, reduceIte, reduceCtorEq, pv, pbin, peq, plen, pload, pcut, pfill, St.ev, St.set, lk, D.ofV, D.cellsOf, InR.i64, InR.u8, ssL, tx, ix, Fact.c, Pair.c, Cond.c, Action.c, Rule.c, Token.c, Match.c, Alpha.c, Node.c, Network.c, Stamp.c, Firing.c, Choice.c, tagg_36, tagg_48, tagg_9, tfo_50_0, tfo_50_1, tfo_50_2, tsz_36, tsz_48, tsz_9] <;> rfl) rfl (by simp only [packD]; rw [decide_eq_false (fun h => c3 (by rw [h]))])
  have hc3 := eqPairS_good x.bind y.bind
  rw [decide_eq_true c3] at hc3
  repeat' first
    | refine thenQ_normal ?_
    | refine thenQ_ret ?_
    | refine thenQ_exit ?_
    | refine blockQ_normal ?_
    | refine blockQ_ret ?_
    | refine blockQ_exit ?_
    | refine blockQ_pass rfl ?_
    | refine AW_seq ?_
    | refine AW_block ?_
    | refine AW_skip ?_
    | refine AW_ret ?_
    | refine AW_exit ?_
    | refine AW_region ?_
    | refine AO_nil ?_
    | refine C_nil ?_
    | (refine R_pv rfl rfl (by omega) (by simp only [Int.reduceLE, Int.reduceLT, Int.reduceNeg, Int.reduceAdd, Int.reduceSub, Int.reduceToNat, Nat.reduceEqDiff, Nat.reduceLeDiff, Nat.reduceLT, Nat.reduceAdd, Nat.reduceSub, Nat.reduceMul, reduceIte, reduceCtorEq, pv, pbin, peq, plen, pload, pcut, pfill, St.ev, St.set, lk, D.ofV, D.cellsOf, InR.i64, InR.u8, ssL, tx, ix, Fact.c, Pair.c, Cond.c, Action.c, Rule.c, Token.c, Match.c, Alpha.c, Node.c, Network.c, Stamp.c, Firing.c, Choice.c, tagg_36, tagg_48, tagg_9, tfo_50_0, tfo_50_1, tfo_50_2, tsz_36, tsz_48, tsz_9] <;> rfl) ?_)
    | (refine R_eff hΓ rfl (by simp only [peff, Int.reduceLE, Int.reduceLT, Int.reduceNeg, Int.reduceAdd, Int.reduceSub, Int.reduceToNat, Nat.reduceEqDiff, Nat.reduceLeDiff, Nat.reduceLT, Nat.reduceAdd, Nat.reduceSub, Nat.reduceMul, reduceIte, reduceCtorEq, pv, pbin, peq, plen, pload, pcut, pfill, St.ev, St.set, lk, D.ofV, D.cellsOf, InR.i64, InR.u8, ssL, tx, ix, Fact.c, Pair.c, Cond.c, Action.c, Rule.c, Token.c, Match.c, Alpha.c, Node.c, Network.c, Stamp.c, Firing.c, Choice.c, tagg_36, tagg_48, tagg_9, tfo_50_0, tfo_50_1, tfo_50_2, tsz_36, tsz_48, tsz_9] <;> rfl) ?_)
    | (refine R_call rfl rfl rfl (by omega) (by simp only [Int.reduceLE, Int.reduceLT, Int.reduceNeg, Int.reduceAdd, Int.reduceSub, Int.reduceToNat, Nat.reduceEqDiff, Nat.reduceLeDiff, Nat.reduceLT, Nat.reduceAdd, Nat.reduceSub, Nat.reduceMul, reduceIte, reduceCtorEq, pv, pbin, peq, plen, pload, pcut, pfill, St.ev, St.set, lk, D.ofV, D.cellsOf, InR.i64, InR.u8, ssL, tx, ix, Fact.c, Pair.c, Cond.c, Action.c, Rule.c, Token.c, Match.c, Alpha.c, Node.c, Network.c, Stamp.c, Firing.c, Choice.c, tagg_36, tagg_48, tagg_9, tfo_50_0, tfo_50_1, tfo_50_2, tsz_36, tsz_48, tsz_9] <;> rfl) (by rfl) (by exact hc3) (by rfl) ?_)
  refine W_false (by simp only [Int.reduceLE, Int.reduceLT, Int.reduceNeg, Int.reduceAdd, Int.reduceSub, Int.reduceToNat, Nat.reduceEqDiff, Nat.reduceLeDiff, Nat.reduceLT, Nat.reduceAdd, Nat.reduceSub, Nat.reduceMul, reduceIte, reduceCtorEq, pv, pbin, peq, plen, pload, pcut, pfill, St.ev, St.set, lk, D.ofV, D.cellsOf, InR.i64, InR.u8, ssL, tx, ix, Fact.c, Pair.c, Cond.c, Action.c, Rule.c, Token.c, Match.c, Alpha.c, Node.c, Network.c, Stamp.c, Firing.c, Choice.c, tagg_36, tagg_48, tagg_9, tfo_50_0, tfo_50_1, tfo_50_2, tsz_36, tsz_48, tsz_9] <;> rfl) ?_
  repeat' first
    | refine thenQ_normal ?_
    | refine thenQ_ret ?_
    | refine thenQ_exit ?_
    | refine blockQ_normal ?_
    | refine blockQ_ret ?_
    | refine blockQ_exit ?_
    | refine blockQ_pass rfl ?_
    | refine AW_seq ?_
    | refine AW_block ?_
    | refine AW_skip ?_
    | refine AW_ret ?_
    | refine AW_exit ?_
    | refine AW_region ?_
    | refine AO_nil ?_
    | refine C_nil ?_
    | (refine R_pv rfl rfl (by omega) (by simp only [Int.reduceLE, Int.reduceLT, Int.reduceNeg, Int.reduceAdd, Int.reduceSub, Int.reduceToNat, Nat.reduceEqDiff, Nat.reduceLeDiff, Nat.reduceLT, Nat.reduceAdd, Nat.reduceSub, Nat.reduceMul, reduceIte, reduceCtorEq, pv, pbin, peq, plen, pload, pcut, pfill, St.ev, St.set, lk, D.ofV, D.cellsOf, InR.i64, InR.u8, ssL, tx, ix, Fact.c, Pair.c, Cond.c, Action.c, Rule.c, Token.c, Match.c, Alpha.c, Node.c, Network.c, Stamp.c, Firing.c, Choice.c, tagg_36, tagg_48, tagg_9, tfo_50_0, tfo_50_1, tfo_50_2, tsz_36, tsz_48, tsz_9] <;> rfl) ?_)
    | (refine R_eff hΓ rfl (by simp only [peff, Int.reduceLE, Int.reduceLT, Int.reduceNeg, Int.reduceAdd, Int.reduceSub, Int.reduceToNat, Nat.reduceEqDiff, Nat.reduceLeDiff, Nat.reduceLT, Nat.reduceAdd, Nat.reduceSub, Nat.reduceMul, reduceIte, reduceCtorEq, pv, pbin, peq, plen, pload, pcut, pfill, St.ev, St.set, lk, D.ofV, D.cellsOf, InR.i64, InR.u8, ssL, tx, ix, Fact.c, Pair.c, Cond.c, Action.c, Rule.c, Token.c, Match.c, Alpha.c, Node.c, Network.c, Stamp.c, Firing.c, Choice.c, tagg_36, tagg_48, tagg_9, tfo_50_0, tfo_50_1, tfo_50_2, tsz_36, tsz_48, tsz_9] <;> rfl) ?_)
  have hxy : x = y := by cases x; cases y; simp_all
  exact RetQ_ret (by simp only [Try.f28, resDs, resD, Int.reduceLE, Int.reduceLT, Int.reduceNeg, Int.reduceAdd, Int.reduceSub, Int.reduceToNat, Nat.reduceEqDiff, Nat.reduceLeDiff, Nat.reduceLT, Nat.reduceAdd, Nat.reduceSub, Nat.reduceMul, reduceIte, reduceCtorEq, pv, pbin, peq, plen, pload, pcut, pfill, St.ev, St.set, lk, D.ofV, D.cellsOf, InR.i64, InR.u8, ssL, tx, ix, Fact.c, Pair.c, Cond.c, Action.c, Rule.c, Token.c, Match.c, Alpha.c, Node.c, Network.c, Stamp.c, Firing.c, Choice.c, tagg_36, tagg_48, tagg_9, tfo_50_0, tfo_50_1, tfo_50_2, tsz_36, tsz_48, tsz_9] <;> rfl) rfl (by simp only [packD]; rw [decide_eq_true hxy])

end Go.Bx
