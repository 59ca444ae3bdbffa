/- The law's own comparisons of HasFired's arguments. No condition. -/
import Derived.Test.YtnagcfnebfhnhaaEqB
import Derived.Test.YtnagcfnebfhnhaaTy
import Derived.KernelRfl
namespace Go.Bx
open Go.RowKit Go.Proofs
set_option linter.unusedSimpArgs false in
set_option maxRecDepth 100000 in
set_option maxHeartbeats 1000000 in
theorem eqIntS_good (l m : List Int) : Good Try.prog 35 [.sl (l.map ix), .sl (m.map ix)] (.bool (decide (l = m))) := by
  refine Good.of Try.func35 rfl (by decide) (by simp [Try.f35]) ?_
  intro hr Γ hΓ
  have hΓ : Γ.nt = 26 := hΓ
  simp only [args0]
  have hl : l.length ≤ maxLen := (hr (.sl (l.map ix)) (List.mem_cons_self ..)).len
  by_cases c1 : l.length = m.length
  case neg =>
    have d1 : ((l.length : Int) != (m.length : Int)) = true := by simp; omega
    repeat' first
      | refine thenQ_normal ?_
      | refine thenQ_ret ?_
      | refine thenQ_exit ?_
      | refine blockQ_normal ?_
      | refine blockQ_ret ?_
      | refine blockQ_exit ?_
      | refine blockQ_pass rfl ?_
      | refine AW_seq ?_
      | refine AW_block ?_
      | refine AW_skip ?_
      | refine AW_ret ?_
      | refine AW_exit ?_
      | refine AW_region ?_
      | refine AO_nil ?_
      | refine C_nil ?_
      | (refine R_pv rfl rfl (by omega) (by simp only [Int.reduceLE, Int.reduceLT, Int.reduceNeg, Int.reduceAdd, Int.reduceSub, Int.reduceToNat, Nat.reduceEqDiff, Nat.reduceLeDiff, Nat.reduceLT, Nat.reduceAdd, Nat.reduceSub, Nat.reduceMul, reduceIte, reduceCtorEq, pv, pbin, peq, plen, pload, pcut, pfill, St.ev, St.set, lk, D.ofV, D.cellsOf, InR.i64, InR.u8, ssL, tx, ix, Fact.c, Pair.c, Cond.c, Action.c, Rule.c, Token.c, Match.c, Alpha.c, Node.c, Network.c, Stamp.c, Firing.c, Choice.c, tagg_3, tel_56, tstr_56, tsz_3, d1] <;> rfl) ?_)
      | (refine C_pv rfl rfl (by omega) (by simp only [Int.reduceLE, Int.reduceLT, Int.reduceNeg, Int.reduceAdd, Int.reduceSub, Int.reduceToNat, Nat.reduceEqDiff, Nat.reduceLeDiff, Nat.reduceLT, Nat.reduceAdd, Nat.reduceSub, Nat.reduceMul, reduceIte, reduceCtorEq, pv, pbin, peq, plen, pload, pcut, pfill, St.ev, St.set, lk, D.ofV, D.cellsOf, InR.i64, InR.u8, ssL, tx, ix, Fact.c, Pair.c, Cond.c, Action.c, Rule.c, Token.c, Match.c, Alpha.c, Node.c, Network.c, Stamp.c, Firing.c, Choice.c, tagg_3, tel_56, tstr_56, tsz_3, d1] <;> rfl) ?_)
    refine W_true (by simp only [Int.reduceLE, Int.reduceLT, Int.reduceNeg, Int.reduceAdd, Int.reduceSub, Int.reduceToNat, Nat.reduceEqDiff, Nat.reduceLeDiff, Nat.reduceLT, Nat.reduceAdd, Nat.reduceSub, Nat.reduceMul, reduceIte, reduceCtorEq, pv, pbin, peq, plen, pload, pcut, pfill, St.ev, St.set, lk, D.ofV, D.cellsOf, InR.i64, InR.u8, ssL, tx, ix, Fact.c, Pair.c, Cond.c, Action.c, Rule.c, Token.c, Match.c, Alpha.c, Node.c, Network.c, Stamp.c, Firing.c, Choice.c, tagg_3, tel_56, tstr_56, tsz_3, d1] <;> rfl) ?_
    repeat' first
      | refine thenQ_normal ?_
      | refine thenQ_ret ?_
      | refine thenQ_exit ?_
      | refine blockQ_normal ?_
      | refine blockQ_ret ?_
      | refine blockQ_exit ?_
      | refine blockQ_pass rfl ?_
      | refine AW_seq ?_
      | refine AW_block ?_
      | refine AW_skip ?_
      | refine AW_ret ?_
      | refine AW_exit ?_
      | refine AW_region ?_
      | refine AO_nil ?_
      | refine C_nil ?_
      | (refine R_pv rfl rfl (by omega) (by simp only [Int.reduceLE, Int.reduceLT, Int.reduceNeg, Int.reduceAdd, Int.reduceSub, Int.reduceToNat, Nat.reduceEqDiff, Nat.reduceLeDiff, Nat.reduceLT, Nat.reduceAdd, Nat.reduceSub, Nat.reduceMul, reduceIte, reduceCtorEq, pv, pbin, peq, plen, pload, pcut, pfill, St.ev, St.set, lk, D.ofV, D.cellsOf, InR.i64, InR.u8, ssL, tx, ix, Fact.c, Pair.c, Cond.c, Action.c, Rule.c, Token.c, Match.c, Alpha.c, Node.c, Network.c, Stamp.c, Firing.c, Choice.c, tagg_3, tel_56, tstr_56, tsz_3] <;> rfl) ?_)
      | (refine C_pv rfl rfl (by omega) (by simp only [Int.reduceLE, Int.reduceLT, Int.reduceNeg, Int.reduceAdd, Int.reduceSub, Int.reduceToNat, Nat.reduceEqDiff, Nat.reduceLeDiff, Nat.reduceLT, Nat.reduceAdd, Nat.reduceSub, Nat.reduceMul, reduceIte, reduceCtorEq, pv, pbin, peq, plen, pload, pcut, pfill, St.ev, St.set, lk, D.ofV, D.cellsOf, InR.i64, InR.u8, ssL, tx, ix, Fact.c, Pair.c, Cond.c, Action.c, Rule.c, Token.c, Match.c, Alpha.c, Node.c, Network.c, Stamp.c, Firing.c, Choice.c, tagg_3, tel_56, tstr_56, tsz_3] <;> rfl) ?_)
    exact RetQ_ret (by simp only [Try.f35, resDs, resD, Int.reduceLE, Int.reduceLT, Int.reduceNeg, Int.reduceAdd, Int.reduceSub, Int.reduceToNat, Nat.reduceEqDiff, Nat.reduceLeDiff, Nat.reduceLT, Nat.reduceAdd, Nat.reduceSub, Nat.reduceMul, reduceIte, reduceCtorEq, pv, pbin, peq, plen, pload, pcut, pfill, St.ev, St.set, lk, D.ofV, D.cellsOf, InR.i64, InR.u8, ssL, tx, ix, Fact.c, Pair.c, Cond.c, Action.c, Rule.c, Token.c, Match.c, Alpha.c, Node.c, Network.c, Stamp.c, Firing.c, Choice.c, tagg_3, tel_56, tstr_56, tsz_3] <;> rfl) rfl (by simp only [packD]; rw [decide_eq_false (fun h => c1 (by rw [h]))])
  have d1 : ((l.length : Int) != (m.length : Int)) = false := by simp; omega
  repeat' first
    | refine thenQ_normal ?_
    | refine thenQ_ret ?_
    | refine thenQ_exit ?_
    | refine blockQ_normal ?_
    | refine blockQ_ret ?_
    | refine blockQ_exit ?_
    | refine blockQ_pass rfl ?_
    | refine AW_seq ?_
    | refine AW_block ?_
    | refine AW_skip ?_
    | refine AW_ret ?_
    | refine AW_exit ?_
    | refine AW_region ?_
    | refine AO_nil ?_
    | refine C_nil ?_
    | (refine R_pv rfl rfl (by omega) (by simp only [Int.reduceLE, Int.reduceLT, Int.reduceNeg, Int.reduceAdd, Int.reduceSub, Int.reduceToNat, Nat.reduceEqDiff, Nat.reduceLeDiff, Nat.reduceLT, Nat.reduceAdd, Nat.reduceSub, Nat.reduceMul, reduceIte, reduceCtorEq, pv, pbin, peq, plen, pload, pcut, pfill, St.ev, St.set, lk, D.ofV, D.cellsOf, InR.i64, InR.u8, ssL, tx, ix, Fact.c, Pair.c, Cond.c, Action.c, Rule.c, Token.c, Match.c, Alpha.c, Node.c, Network.c, Stamp.c, Firing.c, Choice.c, tagg_3, tel_56, tstr_56, tsz_3, d1] <;> rfl) ?_)
    | (refine C_pv rfl rfl (by omega) (by simp only [Int.reduceLE, Int.reduceLT, Int.reduceNeg, Int.reduceAdd, Int.reduceSub, Int.reduceToNat, Nat.reduceEqDiff, Nat.reduceLeDiff, Nat.reduceLT, Nat.reduceAdd, Nat.reduceSub, Nat.reduceMul, reduceIte, reduceCtorEq, pv, pbin, peq, plen, pload, pcut, pfill, St.ev, St.set, lk, D.ofV, D.cellsOf, InR.i64, InR.u8, ssL, tx, ix, Fact.c, Pair.c, Cond.c, Action.c, Rule.c, Token.c, Match.c, Alpha.c, Node.c, Network.c, Stamp.c, Firing.c, Choice.c, tagg_3, tel_56, tstr_56, tsz_3, d1] <;> rfl) ?_)
  refine W_false (by simp only [Int.reduceLE, Int.reduceLT, Int.reduceNeg, Int.reduceAdd, Int.reduceSub, Int.reduceToNat, Nat.reduceEqDiff, Nat.reduceLeDiff, Nat.reduceLT, Nat.reduceAdd, Nat.reduceSub, Nat.reduceMul, reduceIte, reduceCtorEq, pv, pbin, peq, plen, pload, pcut, pfill, St.ev, St.set, lk, D.ofV, D.cellsOf, InR.i64, InR.u8, ssL, tx, ix, Fact.c, Pair.c, Cond.c, Action.c, Rule.c, Token.c, Match.c, Alpha.c, Node.c, Network.c, Stamp.c, Firing.c, Choice.c, tagg_3, tel_56, tstr_56, tsz_3, d1] <;> rfl) ?_
  repeat' first
    | refine thenQ_normal ?_
    | refine thenQ_ret ?_
    | refine thenQ_exit ?_
    | refine blockQ_normal ?_
    | refine blockQ_ret ?_
    | refine blockQ_exit ?_
    | refine blockQ_pass rfl ?_
    | refine AW_seq ?_
    | refine AW_block ?_
    | refine AW_skip ?_
    | refine AW_ret ?_
    | refine AW_exit ?_
    | refine AW_region ?_
    | refine AO_nil ?_
    | refine C_nil ?_
    | (refine R_pv rfl rfl (by omega) (by simp only [Int.reduceLE, Int.reduceLT, Int.reduceNeg, Int.reduceAdd, Int.reduceSub, Int.reduceToNat, Nat.reduceEqDiff, Nat.reduceLeDiff, Nat.reduceLT, Nat.reduceAdd, Nat.reduceSub, Nat.reduceMul, reduceIte, reduceCtorEq, pv, pbin, peq, plen, pload, pcut, pfill, St.ev, St.set, lk, D.ofV, D.cellsOf, InR.i64, InR.u8, ssL, tx, ix, Fact.c, Pair.c, Cond.c, Action.c, Rule.c, Token.c, Match.c, Alpha.c, Node.c, Network.c, Stamp.c, Firing.c, Choice.c, tagg_3, tel_56, tstr_56, tsz_3] <;> rfl) ?_)
    | (refine C_pv rfl rfl (by omega) (by simp only [Int.reduceLE, Int.reduceLT, Int.reduceNeg, Int.reduceAdd, Int.reduceSub, Int.reduceToNat, Nat.reduceEqDiff, Nat.reduceLeDiff, Nat.reduceLT, Nat.reduceAdd, Nat.reduceSub, Nat.reduceMul, reduceIte, reduceCtorEq, pv, pbin, peq, plen, pload, pcut, pfill, St.ev, St.set, lk, D.ofV, D.cellsOf, InR.i64, InR.u8, ssL, tx, ix, Fact.c, Pair.c, Cond.c, Action.c, Rule.c, Token.c, Match.c, Alpha.c, Node.c, Network.c, Stamp.c, Firing.c, Choice.c, tagg_3, tel_56, tstr_56, tsz_3] <;> rfl) ?_)
  refine W_for [0, 1, 5] 0 (fun k => ⟨[(0, .sl (l.map ix)), (1, .sl (m.map ix)), (5, .int .i64 (k : Nat))], []⟩)
    (fun k => l.take k = m.take k) l.length rfl ?_ rfl ?_
  · simp only [St.trim, Int.reduceLE, Int.reduceLT, Int.reduceNeg, Int.reduceAdd, Int.reduceSub, Int.reduceToNat, Nat.reduceEqDiff, Nat.reduceLeDiff, Nat.reduceLT, Nat.reduceAdd, Nat.reduceSub, Nat.reduceMul, reduceIte, reduceCtorEq, pv, pbin, peq, plen, pload, pcut, pfill, St.ev, St.set, lk, D.ofV, D.cellsOf, InR.i64, InR.u8, ssL, tx, ix, Fact.c, Pair.c, Cond.c, Action.c, Rule.c, Token.c, Match.c, Alpha.c, Node.c, Network.c, Stamp.c, Firing.c, Choice.c, tagg_3, tel_56, tstr_56, tsz_3]
  · intro k hk hI
    rcases Nat.lt_or_ge k l.length with hlt | hge
    · obtain ⟨x, hx⟩ := getx hlt
      obtain ⟨y, hy⟩ := getx (l := m) (k := k) (by omega)
      have hd := lt_true hlt
      have wk := wrap_succ hlt hl
      by_cases c2 : x = y
      case neg =>
        have d2 : (x != y) = true := by simp [c2]
        repeat' first
          | refine thenQ_normal ?_
          | refine thenQ_ret ?_
          | refine thenQ_exit ?_
          | refine blockQ_normal ?_
          | refine blockQ_ret ?_
          | refine blockQ_exit ?_
          | refine blockQ_pass rfl ?_
          | refine AW_seq ?_
          | refine AW_block ?_
          | refine AW_skip ?_
          | refine AW_ret ?_
          | refine AW_exit ?_
          | refine AW_region ?_
          | refine AO_nil ?_
          | refine C_nil ?_
          | (refine R_pv rfl rfl (by omega) (by simp only [Int.reduceLE, Int.reduceLT, Int.reduceNeg, Int.reduceAdd, Int.reduceSub, Int.reduceToNat, Nat.reduceEqDiff, Nat.reduceLeDiff, Nat.reduceLT, Nat.reduceAdd, Nat.reduceSub, Nat.reduceMul, reduceIte, reduceCtorEq, pv, pbin, peq, plen, pload, pcut, pfill, St.ev, St.set, lk, D.ofV, D.cellsOf, InR.i64, InR.u8, ssL, tx, ix, Fact.c, Pair.c, Cond.c, Action.c, Rule.c, Token.c, Match.c, Alpha.c, Node.c, Network.c, Stamp.c, Firing.c, Choice.c, tagg_3, tel_56, tstr_56, tsz_3, hd, hx, hy, wk, d2] <;> rfl) ?_)
          | (refine C_pv rfl rfl (by omega) (by simp only [Int.reduceLE, Int.reduceLT, Int.reduceNeg, Int.reduceAdd, Int.reduceSub, Int.reduceToNat, Nat.reduceEqDiff, Nat.reduceLeDiff, Nat.reduceLT, Nat.reduceAdd, Nat.reduceSub, Nat.reduceMul, reduceIte, reduceCtorEq, pv, pbin, peq, plen, pload, pcut, pfill, St.ev, St.set, lk, D.ofV, D.cellsOf, InR.i64, InR.u8, ssL, tx, ix, Fact.c, Pair.c, Cond.c, Action.c, Rule.c, Token.c, Match.c, Alpha.c, Node.c, Network.c, Stamp.c, Firing.c, Choice.c, tagg_3, tel_56, tstr_56, tsz_3, hd, hx, hy, wk, d2] <;> rfl) ?_)
        refine W_true (by simp only [Int.reduceLE, Int.reduceLT, Int.reduceNeg, Int.reduceAdd, Int.reduceSub, Int.reduceToNat, Nat.reduceEqDiff, Nat.reduceLeDiff, Nat.reduceLT, Nat.reduceAdd, Nat.reduceSub, Nat.reduceMul, reduceIte, reduceCtorEq, pv, pbin, peq, plen, pload, pcut, pfill, St.ev, St.set, lk, D.ofV, D.cellsOf, InR.i64, InR.u8, ssL, tx, ix, Fact.c, Pair.c, Cond.c, Action.c, Rule.c, Token.c, Match.c, Alpha.c, Node.c, Network.c, Stamp.c, Firing.c, Choice.c, tagg_3, tel_56, tstr_56, tsz_3, hd] <;> rfl) ?_
        repeat' first
          | refine thenQ_normal ?_
          | refine thenQ_ret ?_
          | refine thenQ_exit ?_
          | refine blockQ_normal ?_
          | refine blockQ_ret ?_
          | refine blockQ_exit ?_
          | refine blockQ_pass rfl ?_
          | refine AW_seq ?_
          | refine AW_block ?_
          | refine AW_skip ?_
          | refine AW_ret ?_
          | refine AW_exit ?_
          | refine AW_region ?_
          | refine AO_nil ?_
          | refine C_nil ?_
          | (refine R_pv rfl rfl (by omega) (by simp only [Int.reduceLE, Int.reduceLT, Int.reduceNeg, Int.reduceAdd, Int.reduceSub, Int.reduceToNat, Nat.reduceEqDiff, Nat.reduceLeDiff, Nat.reduceLT, Nat.reduceAdd, Nat.reduceSub, Nat.reduceMul, reduceIte, reduceCtorEq, pv, pbin, peq, plen, pload, pcut, pfill, St.ev, St.set, lk, D.ofV, D.cellsOf, InR.i64, InR.u8, ssL, tx, ix, Fact.c, Pair.c, Cond.c, Action.c, Rule.c, Token.c, Match.c, Alpha.c, Node.c, Network.c, Stamp.c, Firing.c, Choice.c, tagg_3, tel_56, tstr_56, tsz_3, hd, hx, hy, wk, d2] <;> rfl) ?_)
          | (refine C_pv rfl rfl (by omega) (by simp only [Int.reduceLE, Int.reduceLT, Int.reduceNeg, Int.reduceAdd, Int.reduceSub, Int.reduceToNat, Nat.reduceEqDiff, Nat.reduceLeDiff, Nat.reduceLT, Nat.reduceAdd, Nat.reduceSub, Nat.reduceMul, reduceIte, reduceCtorEq, pv, pbin, peq, plen, pload, pcut, pfill, St.ev, St.set, lk, D.ofV, D.cellsOf, InR.i64, InR.u8, ssL, tx, ix, Fact.c, Pair.c, Cond.c, Action.c, Rule.c, Token.c, Match.c, Alpha.c, Node.c, Network.c, Stamp.c, Firing.c, Choice.c, tagg_3, tel_56, tstr_56, tsz_3, hd, hx, hy, wk, d2] <;> rfl) ?_)
        refine W_draw 8 (by kernel_rfl) (by kernel_rfl) rfl rfl ?_
        repeat' first
          | refine thenQ_normal ?_
          | refine thenQ_ret ?_
          | refine thenQ_exit ?_
          | refine blockQ_normal ?_
          | refine blockQ_ret ?_
          | refine blockQ_exit ?_
          | refine blockQ_pass rfl ?_
          | refine AW_seq ?_
          | refine AW_block ?_
          | refine AW_skip ?_
          | refine AW_ret ?_
          | refine AW_exit ?_
          | refine AW_region ?_
          | refine AO_nil ?_
          | refine C_nil ?_
          | (refine R_pv rfl rfl (by omega) (by simp only [Int.reduceLE, Int.reduceLT, Int.reduceNeg, Int.reduceAdd, Int.reduceSub, Int.reduceToNat, Nat.reduceEqDiff, Nat.reduceLeDiff, Nat.reduceLT, Nat.reduceAdd, Nat.reduceSub, Nat.reduceMul, reduceIte, reduceCtorEq, pv, pbin, peq, plen, pload, pcut, pfill, St.ev, St.set, lk, D.ofV, D.cellsOf, InR.i64, InR.u8, ssL, tx, ix, Fact.c, Pair.c, Cond.c, Action.c, Rule.c, Token.c, Match.c, Alpha.c, Node.c, Network.c, Stamp.c, Firing.c, Choice.c, tagg_3, tel_56, tstr_56, tsz_3, hd, hx, hy, wk, d2] <;> rfl) ?_)
          | (refine C_pv rfl rfl (by omega) (by simp only [Int.reduceLE, Int.reduceLT, Int.reduceNeg, Int.reduceAdd, Int.reduceSub, Int.reduceToNat, Nat.reduceEqDiff, Nat.reduceLeDiff, Nat.reduceLT, Nat.reduceAdd, Nat.reduceSub, Nat.reduceMul, reduceIte, reduceCtorEq, pv, pbin, peq, plen, pload, pcut, pfill, St.ev, St.set, lk, D.ofV, D.cellsOf, InR.i64, InR.u8, ssL, tx, ix, Fact.c, Pair.c, Cond.c, Action.c, Rule.c, Token.c, Match.c, Alpha.c, Node.c, Network.c, Stamp.c, Firing.c, Choice.c, tagg_3, tel_56, tstr_56, tsz_3, hd, hx, hy, wk, d2] <;> rfl) ?_)
        refine W_true (by simp only [Int.reduceLE, Int.reduceLT, Int.reduceNeg, Int.reduceAdd, Int.reduceSub, Int.reduceToNat, Nat.reduceEqDiff, Nat.reduceLeDiff, Nat.reduceLT, Nat.reduceAdd, Nat.reduceSub, Nat.reduceMul, reduceIte, reduceCtorEq, pv, pbin, peq, plen, pload, pcut, pfill, St.ev, St.set, lk, D.ofV, D.cellsOf, InR.i64, InR.u8, ssL, tx, ix, Fact.c, Pair.c, Cond.c, Action.c, Rule.c, Token.c, Match.c, Alpha.c, Node.c, Network.c, Stamp.c, Firing.c, Choice.c, tagg_3, tel_56, tstr_56, tsz_3, d2] <;> rfl) ?_
        repeat' first
          | refine thenQ_normal ?_
          | refine thenQ_ret ?_
          | refine thenQ_exit ?_
          | refine blockQ_normal ?_
          | refine blockQ_ret ?_
          | refine blockQ_exit ?_
          | refine blockQ_pass rfl ?_
          | refine AW_seq ?_
          | refine AW_block ?_
          | refine AW_skip ?_
          | refine AW_ret ?_
          | refine AW_exit ?_
          | refine AW_region ?_
          | refine AO_nil ?_
          | refine C_nil ?_
          | (refine R_pv rfl rfl (by omega) (by simp only [Int.reduceLE, Int.reduceLT, Int.reduceNeg, Int.reduceAdd, Int.reduceSub, Int.reduceToNat, Nat.reduceEqDiff, Nat.reduceLeDiff, Nat.reduceLT, Nat.reduceAdd, Nat.reduceSub, Nat.reduceMul, reduceIte, reduceCtorEq, pv, pbin, peq, plen, pload, pcut, pfill, St.ev, St.set, lk, D.ofV, D.cellsOf, InR.i64, InR.u8, ssL, tx, ix, Fact.c, Pair.c, Cond.c, Action.c, Rule.c, Token.c, Match.c, Alpha.c, Node.c, Network.c, Stamp.c, Firing.c, Choice.c, tagg_3, tel_56, tstr_56, tsz_3] <;> rfl) ?_)
          | (refine C_pv rfl rfl (by omega) (by simp only [Int.reduceLE, Int.reduceLT, Int.reduceNeg, Int.reduceAdd, Int.reduceSub, Int.reduceToNat, Nat.reduceEqDiff, Nat.reduceLeDiff, Nat.reduceLT, Nat.reduceAdd, Nat.reduceSub, Nat.reduceMul, reduceIte, reduceCtorEq, pv, pbin, peq, plen, pload, pcut, pfill, St.ev, St.set, lk, D.ofV, D.cellsOf, InR.i64, InR.u8, ssL, tx, ix, Fact.c, Pair.c, Cond.c, Action.c, Rule.c, Token.c, Match.c, Alpha.c, Node.c, Network.c, Stamp.c, Firing.c, Choice.c, tagg_3, tel_56, tstr_56, tsz_3] <;> rfl) ?_)
        exact RetQ_ret (by simp only [Try.f35, resDs, resD, Int.reduceLE, Int.reduceLT, Int.reduceNeg, Int.reduceAdd, Int.reduceSub, Int.reduceToNat, Nat.reduceEqDiff, Nat.reduceLeDiff, Nat.reduceLT, Nat.reduceAdd, Nat.reduceSub, Nat.reduceMul, reduceIte, reduceCtorEq, pv, pbin, peq, plen, pload, pcut, pfill, St.ev, St.set, lk, D.ofV, D.cellsOf, InR.i64, InR.u8, ssL, tx, ix, Fact.c, Pair.c, Cond.c, Action.c, Rule.c, Token.c, Match.c, Alpha.c, Node.c, Network.c, Stamp.c, Firing.c, Choice.c, tagg_3, tel_56, tstr_56, tsz_3] <;> rfl) rfl (by simp only [packD]; rw [decide_eq_false (fun h => c2 (by rw [h, hy] at hx; exact (Option.some.inj hx).symm))])
      have d2 : (x != y) = false := by simp [c2]
      repeat' first
        | refine thenQ_normal ?_
        | refine thenQ_ret ?_
        | refine thenQ_exit ?_
        | refine blockQ_normal ?_
        | refine blockQ_ret ?_
        | refine blockQ_exit ?_
        | refine blockQ_pass rfl ?_
        | refine AW_seq ?_
        | refine AW_block ?_
        | refine AW_skip ?_
        | refine AW_ret ?_
        | refine AW_exit ?_
        | refine AW_region ?_
        | refine AO_nil ?_
        | refine C_nil ?_
        | (refine R_pv rfl rfl (by omega) (by simp only [Int.reduceLE, Int.reduceLT, Int.reduceNeg, Int.reduceAdd, Int.reduceSub, Int.reduceToNat, Nat.reduceEqDiff, Nat.reduceLeDiff, Nat.reduceLT, Nat.reduceAdd, Nat.reduceSub, Nat.reduceMul, reduceIte, reduceCtorEq, pv, pbin, peq, plen, pload, pcut, pfill, St.ev, St.set, lk, D.ofV, D.cellsOf, InR.i64, InR.u8, ssL, tx, ix, Fact.c, Pair.c, Cond.c, Action.c, Rule.c, Token.c, Match.c, Alpha.c, Node.c, Network.c, Stamp.c, Firing.c, Choice.c, tagg_3, tel_56, tstr_56, tsz_3, hd, hx, hy, wk, d2] <;> rfl) ?_)
        | (refine C_pv rfl rfl (by omega) (by simp only [Int.reduceLE, Int.reduceLT, Int.reduceNeg, Int.reduceAdd, Int.reduceSub, Int.reduceToNat, Nat.reduceEqDiff, Nat.reduceLeDiff, Nat.reduceLT, Nat.reduceAdd, Nat.reduceSub, Nat.reduceMul, reduceIte, reduceCtorEq, pv, pbin, peq, plen, pload, pcut, pfill, St.ev, St.set, lk, D.ofV, D.cellsOf, InR.i64, InR.u8, ssL, tx, ix, Fact.c, Pair.c, Cond.c, Action.c, Rule.c, Token.c, Match.c, Alpha.c, Node.c, Network.c, Stamp.c, Firing.c, Choice.c, tagg_3, tel_56, tstr_56, tsz_3, hd, hx, hy, wk, d2] <;> rfl) ?_)
      refine W_true (by simp only [Int.reduceLE, Int.reduceLT, Int.reduceNeg, Int.reduceAdd, Int.reduceSub, Int.reduceToNat, Nat.reduceEqDiff, Nat.reduceLeDiff, Nat.reduceLT, Nat.reduceAdd, Nat.reduceSub, Nat.reduceMul, reduceIte, reduceCtorEq, pv, pbin, peq, plen, pload, pcut, pfill, St.ev, St.set, lk, D.ofV, D.cellsOf, InR.i64, InR.u8, ssL, tx, ix, Fact.c, Pair.c, Cond.c, Action.c, Rule.c, Token.c, Match.c, Alpha.c, Node.c, Network.c, Stamp.c, Firing.c, Choice.c, tagg_3, tel_56, tstr_56, tsz_3, hd] <;> rfl) ?_
      repeat' first
        | refine thenQ_normal ?_
        | refine thenQ_ret ?_
        | refine thenQ_exit ?_
        | refine blockQ_normal ?_
        | refine blockQ_ret ?_
        | refine blockQ_exit ?_
        | refine blockQ_pass rfl ?_
        | refine AW_seq ?_
        | refine AW_block ?_
        | refine AW_skip ?_
        | refine AW_ret ?_
        | refine AW_exit ?_
        | refine AW_region ?_
        | refine AO_nil ?_
        | refine C_nil ?_
        | (refine R_pv rfl rfl (by omega) (by simp only [Int.reduceLE, Int.reduceLT, Int.reduceNeg, Int.reduceAdd, Int.reduceSub, Int.reduceToNat, Nat.reduceEqDiff, Nat.reduceLeDiff, Nat.reduceLT, Nat.reduceAdd, Nat.reduceSub, Nat.reduceMul, reduceIte, reduceCtorEq, pv, pbin, peq, plen, pload, pcut, pfill, St.ev, St.set, lk, D.ofV, D.cellsOf, InR.i64, InR.u8, ssL, tx, ix, Fact.c, Pair.c, Cond.c, Action.c, Rule.c, Token.c, Match.c, Alpha.c, Node.c, Network.c, Stamp.c, Firing.c, Choice.c, tagg_3, tel_56, tstr_56, tsz_3, hd, hx, hy, wk, d2] <;> rfl) ?_)
        | (refine C_pv rfl rfl (by omega) (by simp only [Int.reduceLE, Int.reduceLT, Int.reduceNeg, Int.reduceAdd, Int.reduceSub, Int.reduceToNat, Nat.reduceEqDiff, Nat.reduceLeDiff, Nat.reduceLT, Nat.reduceAdd, Nat.reduceSub, Nat.reduceMul, reduceIte, reduceCtorEq, pv, pbin, peq, plen, pload, pcut, pfill, St.ev, St.set, lk, D.ofV, D.cellsOf, InR.i64, InR.u8, ssL, tx, ix, Fact.c, Pair.c, Cond.c, Action.c, Rule.c, Token.c, Match.c, Alpha.c, Node.c, Network.c, Stamp.c, Firing.c, Choice.c, tagg_3, tel_56, tstr_56, tsz_3, hd, hx, hy, wk, d2] <;> rfl) ?_)
      refine W_draw 8 (by kernel_rfl) (by kernel_rfl) rfl rfl ?_
      repeat' first
        | refine thenQ_normal ?_
        | refine thenQ_ret ?_
        | refine thenQ_exit ?_
        | refine blockQ_normal ?_
        | refine blockQ_ret ?_
        | refine blockQ_exit ?_
        | refine blockQ_pass rfl ?_
        | refine AW_seq ?_
        | refine AW_block ?_
        | refine AW_skip ?_
        | refine AW_ret ?_
        | refine AW_exit ?_
        | refine AW_region ?_
        | refine AO_nil ?_
        | refine C_nil ?_
        | (refine R_pv rfl rfl (by omega) (by simp only [Int.reduceLE, Int.reduceLT, Int.reduceNeg, Int.reduceAdd, Int.reduceSub, Int.reduceToNat, Nat.reduceEqDiff, Nat.reduceLeDiff, Nat.reduceLT, Nat.reduceAdd, Nat.reduceSub, Nat.reduceMul, reduceIte, reduceCtorEq, pv, pbin, peq, plen, pload, pcut, pfill, St.ev, St.set, lk, D.ofV, D.cellsOf, InR.i64, InR.u8, ssL, tx, ix, Fact.c, Pair.c, Cond.c, Action.c, Rule.c, Token.c, Match.c, Alpha.c, Node.c, Network.c, Stamp.c, Firing.c, Choice.c, tagg_3, tel_56, tstr_56, tsz_3, hd, hx, hy, wk, d2] <;> rfl) ?_)
        | (refine C_pv rfl rfl (by omega) (by simp only [Int.reduceLE, Int.reduceLT, Int.reduceNeg, Int.reduceAdd, Int.reduceSub, Int.reduceToNat, Nat.reduceEqDiff, Nat.reduceLeDiff, Nat.reduceLT, Nat.reduceAdd, Nat.reduceSub, Nat.reduceMul, reduceIte, reduceCtorEq, pv, pbin, peq, plen, pload, pcut, pfill, St.ev, St.set, lk, D.ofV, D.cellsOf, InR.i64, InR.u8, ssL, tx, ix, Fact.c, Pair.c, Cond.c, Action.c, Rule.c, Token.c, Match.c, Alpha.c, Node.c, Network.c, Stamp.c, Firing.c, Choice.c, tagg_3, tel_56, tstr_56, tsz_3, hd, hx, hy, wk, d2] <;> rfl) ?_)
      refine W_false (by simp only [Int.reduceLE, Int.reduceLT, Int.reduceNeg, Int.reduceAdd, Int.reduceSub, Int.reduceToNat, Nat.reduceEqDiff, Nat.reduceLeDiff, Nat.reduceLT, Nat.reduceAdd, Nat.reduceSub, Nat.reduceMul, reduceIte, reduceCtorEq, pv, pbin, peq, plen, pload, pcut, pfill, St.ev, St.set, lk, D.ofV, D.cellsOf, InR.i64, InR.u8, ssL, tx, ix, Fact.c, Pair.c, Cond.c, Action.c, Rule.c, Token.c, Match.c, Alpha.c, Node.c, Network.c, Stamp.c, Firing.c, Choice.c, tagg_3, tel_56, tstr_56, tsz_3, d2] <;> rfl) ?_
      repeat' first
        | refine thenQ_normal ?_
        | refine thenQ_ret ?_
        | refine thenQ_exit ?_
        | refine blockQ_normal ?_
        | refine blockQ_ret ?_
        | refine blockQ_exit ?_
        | refine blockQ_pass rfl ?_
        | refine AW_seq ?_
        | refine AW_block ?_
        | refine AW_skip ?_
        | refine AW_ret ?_
        | refine AW_exit ?_
        | refine AW_region ?_
        | refine AO_nil ?_
        | refine C_nil ?_
        | (refine R_pv rfl rfl (by omega) (by simp only [Int.reduceLE, Int.reduceLT, Int.reduceNeg, Int.reduceAdd, Int.reduceSub, Int.reduceToNat, Nat.reduceEqDiff, Nat.reduceLeDiff, Nat.reduceLT, Nat.reduceAdd, Nat.reduceSub, Nat.reduceMul, reduceIte, reduceCtorEq, pv, pbin, peq, plen, pload, pcut, pfill, St.ev, St.set, lk, D.ofV, D.cellsOf, InR.i64, InR.u8, ssL, tx, ix, Fact.c, Pair.c, Cond.c, Action.c, Rule.c, Token.c, Match.c, Alpha.c, Node.c, Network.c, Stamp.c, Firing.c, Choice.c, tagg_3, tel_56, tstr_56, tsz_3, wk] <;> rfl) ?_)
        | (refine C_pv rfl rfl (by omega) (by simp only [Int.reduceLE, Int.reduceLT, Int.reduceNeg, Int.reduceAdd, Int.reduceSub, Int.reduceToNat, Nat.reduceEqDiff, Nat.reduceLeDiff, Nat.reduceLT, Nat.reduceAdd, Nat.reduceSub, Nat.reduceMul, reduceIte, reduceCtorEq, pv, pbin, peq, plen, pload, pcut, pfill, St.ev, St.set, lk, D.ofV, D.cellsOf, InR.i64, InR.u8, ssL, tx, ix, Fact.c, Pair.c, Cond.c, Action.c, Rule.c, Token.c, Match.c, Alpha.c, Node.c, Network.c, Stamp.c, Firing.c, Choice.c, tagg_3, tel_56, tstr_56, tsz_3, wk] <;> rfl) ?_)
      refine ⟨hlt, rfl, ?_, by rw [take_snoc hx, take_snoc hy, hI, c2]⟩
      simp only [St.trim, Int.reduceLE, Int.reduceLT, Int.reduceNeg, Int.reduceAdd, Int.reduceSub, Int.reduceToNat, Nat.reduceEqDiff, Nat.reduceLeDiff, Nat.reduceLT, Nat.reduceAdd, Nat.reduceSub, Nat.reduceMul, reduceIte, reduceCtorEq, pv, pbin, peq, plen, pload, pcut, pfill, St.ev, St.set, lk, D.ofV, D.cellsOf, InR.i64, InR.u8, ssL, tx, ix, Fact.c, Pair.c, Cond.c, Action.c, Rule.c, Token.c, Match.c, Alpha.c, Node.c, Network.c, Stamp.c, Firing.c, Choice.c, tagg_3, tel_56, tstr_56, tsz_3]
    · have hd := lt_false hge
      have hkl : k = l.length := by omega
      subst hkl
      have hlm : l = m := by rw [List.take_length, c1, List.take_length] at hI; exact hI
      repeat' first
        | refine thenQ_normal ?_
        | refine thenQ_ret ?_
        | refine thenQ_exit ?_
        | refine blockQ_normal ?_
        | refine blockQ_ret ?_
        | refine blockQ_exit ?_
        | refine blockQ_pass rfl ?_
        | refine AW_seq ?_
        | refine AW_block ?_
        | refine AW_skip ?_
        | refine AW_ret ?_
        | refine AW_exit ?_
        | refine AW_region ?_
        | refine AO_nil ?_
        | refine C_nil ?_
        | (refine R_pv rfl rfl (by omega) (by simp only [Int.reduceLE, Int.reduceLT, Int.reduceNeg, Int.reduceAdd, Int.reduceSub, Int.reduceToNat, Nat.reduceEqDiff, Nat.reduceLeDiff, Nat.reduceLT, Nat.reduceAdd, Nat.reduceSub, Nat.reduceMul, reduceIte, reduceCtorEq, pv, pbin, peq, plen, pload, pcut, pfill, St.ev, St.set, lk, D.ofV, D.cellsOf, InR.i64, InR.u8, ssL, tx, ix, Fact.c, Pair.c, Cond.c, Action.c, Rule.c, Token.c, Match.c, Alpha.c, Node.c, Network.c, Stamp.c, Firing.c, Choice.c, tagg_3, tel_56, tstr_56, tsz_3, hd] <;> rfl) ?_)
        | (refine C_pv rfl rfl (by omega) (by simp only [Int.reduceLE, Int.reduceLT, Int.reduceNeg, Int.reduceAdd, Int.reduceSub, Int.reduceToNat, Nat.reduceEqDiff, Nat.reduceLeDiff, Nat.reduceLT, Nat.reduceAdd, Nat.reduceSub, Nat.reduceMul, reduceIte, reduceCtorEq, pv, pbin, peq, plen, pload, pcut, pfill, St.ev, St.set, lk, D.ofV, D.cellsOf, InR.i64, InR.u8, ssL, tx, ix, Fact.c, Pair.c, Cond.c, Action.c, Rule.c, Token.c, Match.c, Alpha.c, Node.c, Network.c, Stamp.c, Firing.c, Choice.c, tagg_3, tel_56, tstr_56, tsz_3, hd] <;> rfl) ?_)
      refine W_false (by simp only [Int.reduceLE, Int.reduceLT, Int.reduceNeg, Int.reduceAdd, Int.reduceSub, Int.reduceToNat, Nat.reduceEqDiff, Nat.reduceLeDiff, Nat.reduceLT, Nat.reduceAdd, Nat.reduceSub, Nat.reduceMul, reduceIte, reduceCtorEq, pv, pbin, peq, plen, pload, pcut, pfill, St.ev, St.set, lk, D.ofV, D.cellsOf, InR.i64, InR.u8, ssL, tx, ix, Fact.c, Pair.c, Cond.c, Action.c, Rule.c, Token.c, Match.c, Alpha.c, Node.c, Network.c, Stamp.c, Firing.c, Choice.c, tagg_3, tel_56, tstr_56, tsz_3, hd] <;> rfl) ?_
      repeat' first
        | refine thenQ_normal ?_
        | refine thenQ_ret ?_
        | refine thenQ_exit ?_
        | refine blockQ_normal ?_
        | refine blockQ_ret ?_
        | refine blockQ_exit ?_
        | refine blockQ_pass rfl ?_
        | refine AW_seq ?_
        | refine AW_block ?_
        | refine AW_skip ?_
        | refine AW_ret ?_
        | refine AW_exit ?_
        | refine AW_region ?_
        | refine AO_nil ?_
        | refine C_nil ?_
        | (refine R_pv rfl rfl (by omega) (by simp only [Int.reduceLE, Int.reduceLT, Int.reduceNeg, Int.reduceAdd, Int.reduceSub, Int.reduceToNat, Nat.reduceEqDiff, Nat.reduceLeDiff, Nat.reduceLT, Nat.reduceAdd, Nat.reduceSub, Nat.reduceMul, reduceIte, reduceCtorEq, pv, pbin, peq, plen, pload, pcut, pfill, St.ev, St.set, lk, D.ofV, D.cellsOf, InR.i64, InR.u8, ssL, tx, ix, Fact.c, Pair.c, Cond.c, Action.c, Rule.c, Token.c, Match.c, Alpha.c, Node.c, Network.c, Stamp.c, Firing.c, Choice.c, tagg_3, tel_56, tstr_56, tsz_3] <;> rfl) ?_)
        | (refine C_pv rfl rfl (by omega) (by simp only [Int.reduceLE, Int.reduceLT, Int.reduceNeg, Int.reduceAdd, Int.reduceSub, Int.reduceToNat, Nat.reduceEqDiff, Nat.reduceLeDiff, Nat.reduceLT, Nat.reduceAdd, Nat.reduceSub, Nat.reduceMul, reduceIte, reduceCtorEq, pv, pbin, peq, plen, pload, pcut, pfill, St.ev, St.set, lk, D.ofV, D.cellsOf, InR.i64, InR.u8, ssL, tx, ix, Fact.c, Pair.c, Cond.c, Action.c, Rule.c, Token.c, Match.c, Alpha.c, Node.c, Network.c, Stamp.c, Firing.c, Choice.c, tagg_3, tel_56, tstr_56, tsz_3] <;> rfl) ?_)
      exact RetQ_ret (by simp only [Try.f35, resDs, resD, Int.reduceLE, Int.reduceLT, Int.reduceNeg, Int.reduceAdd, Int.reduceSub, Int.reduceToNat, Nat.reduceEqDiff, Nat.reduceLeDiff, Nat.reduceLT, Nat.reduceAdd, Nat.reduceSub, Nat.reduceMul, reduceIte, reduceCtorEq, pv, pbin, peq, plen, pload, pcut, pfill, St.ev, St.set, lk, D.ofV, D.cellsOf, InR.i64, InR.u8, ssL, tx, ix, Fact.c, Pair.c, Cond.c, Action.c, Rule.c, Token.c, Match.c, Alpha.c, Node.c, Network.c, Stamp.c, Firing.c, Choice.c, tagg_3, tel_56, tstr_56, tsz_3] <;> rfl) rfl (by simp only [packD]; rw [decide_eq_true hlm])

set_option linter.unusedSimpArgs false in
set_option maxRecDepth 100000 in
set_option maxHeartbeats 1000000 in
theorem eqFiring_good (x y : Firing) : Good Try.prog 89 [.agg x.c, .agg y.c] (.bool (decide (x = y))) := by
  refine Good.of Try.func89 rfl (by decide) (by simp [Try.f89]) ?_
  intro hr Γ hΓ
  have hΓ : Γ.nt = 16 := hΓ
  simp only [args0]
  by_cases c1 : x.rule = y.rule
  case neg =>
    have d1 : (!(x.rule == y.rule)) = true := by simp [c1]
    repeat' first
      | refine thenQ_normal ?_
      | refine thenQ_ret ?_
      | refine thenQ_exit ?_
      | refine blockQ_normal ?_
      | refine blockQ_ret ?_
      | refine blockQ_exit ?_
      | refine blockQ_pass rfl ?_
      | refine AW_seq ?_
      | refine AW_block ?_
      | refine AW_skip ?_
      | refine AW_ret ?_
      | refine AW_exit ?_
      | refine AW_region ?_
      | refine AO_nil ?_
      | refine C_nil ?_
      | (refine R_pv rfl rfl (by omega) (by simp only [Int.reduceLE, Int.reduceLT, Int.reduceNeg, Int.reduceAdd, Int.reduceSub, Int.reduceToNat, Nat.reduceEqDiff, Nat.reduceLeDiff, Nat.reduceLT, Nat.reduceAdd, Nat.reduceSub, Nat.reduceMul, reduceIte, reduceCtorEq, pv, pbin, peq, plen, pload, pcut, pfill, St.ev, St.set, lk, D.ofV, D.cellsOf, InR.i64, InR.u8, ssL, tx, ix, Fact.c, Pair.c, Cond.c, Action.c, Rule.c, Token.c, Match.c, Alpha.c, Node.c, Network.c, Stamp.c, Firing.c, Choice.c, tagg_56, tagg_9, tfo_120_0, tfo_120_1, tsz_56, tsz_9, d1] <;> rfl) ?_)
      | (refine R_eff hΓ rfl (by simp only [peff, Int.reduceLE, Int.reduceLT, Int.reduceNeg, Int.reduceAdd, Int.reduceSub, Int.reduceToNat, Nat.reduceEqDiff, Nat.reduceLeDiff, Nat.reduceLT, Nat.reduceAdd, Nat.reduceSub, Nat.reduceMul, reduceIte, reduceCtorEq, pv, pbin, peq, plen, pload, pcut, pfill, St.ev, St.set, lk, D.ofV, D.cellsOf, InR.i64, InR.u8, ssL, tx, ix, Fact.c, Pair.c, Cond.c, Action.c, Rule.c, Token.c, Match.c, Alpha.c, Node.c, Network.c, Stamp.c, Firing.c, Choice.c, tagg_56, tagg_9, tfo_120_0, tfo_120_1, tsz_56, tsz_9, d1] <;> rfl) ?_)
    refine W_true (by simp only [Int.reduceLE, Int.reduceLT, Int.reduceNeg, Int.reduceAdd, Int.reduceSub, Int.reduceToNat, Nat.reduceEqDiff, Nat.reduceLeDiff, Nat.reduceLT, Nat.reduceAdd, Nat.reduceSub, Nat.reduceMul, reduceIte, reduceCtorEq, pv, pbin, peq, plen, pload, pcut, pfill, St.ev, St.set, lk, D.ofV, D.cellsOf, InR.i64, InR.u8, ssL, tx, ix, Fact.c, Pair.c, Cond.c, Action.c, Rule.c, Token.c, Match.c, Alpha.c, Node.c, Network.c, Stamp.c, Firing.c, Choice.c, tagg_56, tagg_9, tfo_120_0, tfo_120_1, tsz_56, tsz_9, d1] <;> rfl) ?_
    repeat' first
      | refine thenQ_normal ?_
      | refine thenQ_ret ?_
      | refine thenQ_exit ?_
      | refine blockQ_normal ?_
      | refine blockQ_ret ?_
      | refine blockQ_exit ?_
      | refine blockQ_pass rfl ?_
      | refine AW_seq ?_
      | refine AW_block ?_
      | refine AW_skip ?_
      | refine AW_ret ?_
      | refine AW_exit ?_
      | refine AW_region ?_
      | refine AO_nil ?_
      | refine C_nil ?_
      | (refine R_pv rfl rfl (by omega) (by simp only [Int.reduceLE, Int.reduceLT, Int.reduceNeg, Int.reduceAdd, Int.reduceSub, Int.reduceToNat, Nat.reduceEqDiff, Nat.reduceLeDiff, Nat.reduceLT, Nat.reduceAdd, Nat.reduceSub, Nat.reduceMul, reduceIte, reduceCtorEq, pv, pbin, peq, plen, pload, pcut, pfill, St.ev, St.set, lk, D.ofV, D.cellsOf, InR.i64, InR.u8, ssL, tx, ix, Fact.c, Pair.c, Cond.c, Action.c, Rule.c, Token.c, Match.c, Alpha.c, Node.c, Network.c, Stamp.c, Firing.c, Choice.c, tagg_56, tagg_9, tfo_120_0, tfo_120_1, tsz_56, tsz_9] <;> rfl) ?_)
      | (refine R_eff hΓ rfl (by simp only [peff, Int.reduceLE, Int.reduceLT, Int.reduceNeg, Int.reduceAdd, Int.reduceSub, Int.reduceToNat, Nat.reduceEqDiff, Nat.reduceLeDiff, Nat.reduceLT, Nat.reduceAdd, Nat.reduceSub, Nat.reduceMul, reduceIte, reduceCtorEq, pv, pbin, peq, plen, pload, pcut, pfill, St.ev, St.set, lk, D.ofV, D.cellsOf, InR.i64, InR.u8, ssL, tx, ix, Fact.c, Pair.c, Cond.c, Action.c, Rule.c, Token.c, Match.c, Alpha.c, Node.c, Network.c, Stamp.c, Firing.c, Choice.c, tagg_56, tagg_9, tfo_120_0, tfo_120_1, tsz_56, tsz_9] <;> rfl) ?_)
    exact RetQ_ret (by simp only [Try.f89, resDs, resD, Int.reduceLE, Int.reduceLT, Int.reduceNeg, Int.reduceAdd, Int.reduceSub, Int.reduceToNat, Nat.reduceEqDiff, Nat.reduceLeDiff, Nat.reduceLT, Nat.reduceAdd, Nat.reduceSub, Nat.reduceMul, reduceIte, reduceCtorEq, pv, pbin, peq, plen, pload, pcut, pfill, St.ev, St.set, lk, D.ofV, D.cellsOf, InR.i64, InR.u8, ssL, tx, ix, Fact.c, Pair.c, Cond.c, Action.c, Rule.c, Token.c, Match.c, Alpha.c, Node.c, Network.c, Stamp.c, Firing.c, Choice.c, tagg_56, tagg_9, tfo_120_0, tfo_120_1, tsz_56, tsz_9] <;> rfl) rfl (by simp only [packD]; rw [decide_eq_false (fun h => c1 (by rw [h]))])
  have d1 : (!(x.rule == y.rule)) = false := by simp [c1]
  repeat' first
    | refine thenQ_normal ?_
    | refine thenQ_ret ?_
    | refine thenQ_exit ?_
    | refine blockQ_normal ?_
    | refine blockQ_ret ?_
    | refine blockQ_exit ?_
    | refine blockQ_pass rfl ?_
    | refine AW_seq ?_
    | refine AW_block ?_
    | refine AW_skip ?_
    | refine AW_ret ?_
    | refine AW_exit ?_
    | refine AW_region ?_
    | refine AO_nil ?_
    | refine C_nil ?_
    | (refine R_pv rfl rfl (by omega) (by simp only [Int.reduceLE, Int.reduceLT, Int.reduceNeg, Int.reduceAdd, Int.reduceSub, Int.reduceToNat, Nat.reduceEqDiff, Nat.reduceLeDiff, Nat.reduceLT, Nat.reduceAdd, Nat.reduceSub, Nat.reduceMul, reduceIte, reduceCtorEq, pv, pbin, peq, plen, pload, pcut, pfill, St.ev, St.set, lk, D.ofV, D.cellsOf, InR.i64, InR.u8, ssL, tx, ix, Fact.c, Pair.c, Cond.c, Action.c, Rule.c, Token.c, Match.c, Alpha.c, Node.c, Network.c, Stamp.c, Firing.c, Choice.c, tagg_56, tagg_9, tfo_120_0, tfo_120_1, tsz_56, tsz_9, d1] <;> rfl) ?_)
    | (refine R_eff hΓ rfl (by simp only [peff, Int.reduceLE, Int.reduceLT, Int.reduceNeg, Int.reduceAdd, Int.reduceSub, Int.reduceToNat, Nat.reduceEqDiff, Nat.reduceLeDiff, Nat.reduceLT, Nat.reduceAdd, Nat.reduceSub, Nat.reduceMul, reduceIte, reduceCtorEq, pv, pbin, peq, plen, pload, pcut, pfill, St.ev, St.set, lk, D.ofV, D.cellsOf, InR.i64, InR.u8, ssL, tx, ix, Fact.c, Pair.c, Cond.c, Action.c, Rule.c, Token.c, Match.c, Alpha.c, Node.c, Network.c, Stamp.c, Firing.c, Choice.c, tagg_56, tagg_9, tfo_120_0, tfo_120_1, tsz_56, tsz_9, d1] <;> rfl) ?_)
  refine W_false (by simp only [Int.reduceLE, Int.reduceLT, Int.reduceNeg, Int.reduceAdd, Int.reduceSub, Int.reduceToNat, Nat.reduceEqDiff, Nat.reduceLeDiff, Nat.reduceLT, Nat.reduceAdd, Nat.reduceSub, Nat.reduceMul, reduceIte, reduceCtorEq, pv, pbin, peq, plen, pload, pcut, pfill, St.ev, St.set, lk, D.ofV, D.cellsOf, InR.i64, InR.u8, ssL, tx, ix, Fact.c, Pair.c, Cond.c, Action.c, Rule.c, Token.c, Match.c, Alpha.c, Node.c, Network.c, Stamp.c, Firing.c, Choice.c, tagg_56, tagg_9, tfo_120_0, tfo_120_1, tsz_56, tsz_9, d1] <;> rfl) ?_
  by_cases c2 : x.times = y.times
  case neg =>
    have hc := eqIntS_good x.times y.times
    rw [decide_eq_false c2] at hc
    repeat' first
      | refine thenQ_normal ?_
      | refine thenQ_ret ?_
      | refine thenQ_exit ?_
      | refine blockQ_normal ?_
      | refine blockQ_ret ?_
      | refine blockQ_exit ?_
      | refine blockQ_pass rfl ?_
      | refine AW_seq ?_
      | refine AW_block ?_
      | refine AW_skip ?_
      | refine AW_ret ?_
      | refine AW_exit ?_
      | refine AW_region ?_
      | refine AO_nil ?_
      | refine C_nil ?_
      | (refine R_pv rfl rfl (by omega) (by simp only [Int.reduceLE, Int.reduceLT, Int.reduceNeg, Int.reduceAdd, Int.reduceSub, Int.reduceToNat, Nat.reduceEqDiff, Nat.reduceLeDiff, Nat.reduceLT, Nat.reduceAdd, Nat.reduceSub, Nat.reduceMul, reduceIte, reduceCtorEq, pv, pbin, peq, plen, pload, pcut, pfill, St.ev, St.set, lk, D.ofV, D.cellsOf, InR.i64, InR.u8, ssL, tx, ix, Fact.c, Pair.c, Cond.c, Action.c, Rule.c, Token.c, Match.c, Alpha.c, Node.c, Network.c, Stamp.c, Firing.c, Choice.c, tagg_56, tagg_9, tfo_120_0, tfo_120_1, tsz_56, tsz_9] <;> rfl) ?_)
      | (refine R_eff hΓ rfl (by simp only [peff, Int.reduceLE, Int.reduceLT, Int.reduceNeg, Int.reduceAdd, Int.reduceSub, Int.reduceToNat, Nat.reduceEqDiff, Nat.reduceLeDiff, Nat.reduceLT, Nat.reduceAdd, Nat.reduceSub, Nat.reduceMul, reduceIte, reduceCtorEq, pv, pbin, peq, plen, pload, pcut, pfill, St.ev, St.set, lk, D.ofV, D.cellsOf, InR.i64, InR.u8, ssL, tx, ix, Fact.c, Pair.c, Cond.c, Action.c, Rule.c, Token.c, Match.c, Alpha.c, Node.c, Network.c, Stamp.c, Firing.c, Choice.c, tagg_56, tagg_9, tfo_120_0, tfo_120_1, tsz_56, tsz_9] <;> rfl) ?_)
      | (refine R_call rfl rfl rfl (by omega) (by simp only [Int.reduceLE, Int.reduceLT, Int.reduceNeg, Int.reduceAdd, Int.reduceSub, Int.reduceToNat, Nat.reduceEqDiff, Nat.reduceLeDiff, Nat.reduceLT, Nat.reduceAdd, Nat.reduceSub, Nat.reduceMul, reduceIte, reduceCtorEq, pv, pbin, peq, plen, pload, pcut, pfill, St.ev, St.set, lk, D.ofV, D.cellsOf, InR.i64, InR.u8, ssL, tx, ix, Fact.c, Pair.c, Cond.c, Action.c, Rule.c, Token.c, Match.c, Alpha.c, Node.c, Network.c, Stamp.c, Firing.c, Choice.c, tagg_56, tagg_9, tfo_120_0, tfo_120_1, tsz_56, tsz_9] <;> rfl) (by rfl) (by exact hc) (by rfl) ?_)
    refine W_true (by simp only [Int.reduceLE, Int.reduceLT, Int.reduceNeg, Int.reduceAdd, Int.reduceSub, Int.reduceToNat, Nat.reduceEqDiff, Nat.reduceLeDiff, Nat.reduceLT, Nat.reduceAdd, Nat.reduceSub, Nat.reduceMul, reduceIte, reduceCtorEq, pv, pbin, peq, plen, pload, pcut, pfill, St.ev, St.set, lk, D.ofV, D.cellsOf, InR.i64, InR.u8, ssL, tx, ix, Fact.c, Pair.c, Cond.c, Action.c, Rule.c, Token.c, Match.c, Alpha.c, Node.c, Network.c, Stamp.c, Firing.c, Choice.c, tagg_56, tagg_9, tfo_120_0, tfo_120_1, tsz_56, tsz_9] <;> rfl) ?_
    repeat' first
      | refine thenQ_normal ?_
      | refine thenQ_ret ?_
      | refine thenQ_exit ?_
      | refine blockQ_normal ?_
      | refine blockQ_ret ?_
      | refine blockQ_exit ?_
      | refine blockQ_pass rfl ?_
      | refine AW_seq ?_
      | refine AW_block ?_
      | refine AW_skip ?_
      | refine AW_ret ?_
      | refine AW_exit ?_
      | refine AW_region ?_
      | refine AO_nil ?_
      | refine C_nil ?_
      | (refine R_pv rfl rfl (by omega) (by simp only [Int.reduceLE, Int.reduceLT, Int.reduceNeg, Int.reduceAdd, Int.reduceSub, Int.reduceToNat, Nat.reduceEqDiff, Nat.reduceLeDiff, Nat.reduceLT, Nat.reduceAdd, Nat.reduceSub, Nat.reduceMul, reduceIte, reduceCtorEq, pv, pbin, peq, plen, pload, pcut, pfill, St.ev, St.set, lk, D.ofV, D.cellsOf, InR.i64, InR.u8, ssL, tx, ix, Fact.c, Pair.c, Cond.c, Action.c, Rule.c, Token.c, Match.c, Alpha.c, Node.c, Network.c, Stamp.c, Firing.c, Choice.c, tagg_56, tagg_9, tfo_120_0, tfo_120_1, tsz_56, tsz_9] <;> rfl) ?_)
      | (refine R_eff hΓ rfl (by simp only [peff, Int.reduceLE, Int.reduceLT, Int.reduceNeg, Int.reduceAdd, Int.reduceSub, Int.reduceToNat, Nat.reduceEqDiff, Nat.reduceLeDiff, Nat.reduceLT, Nat.reduceAdd, Nat.reduceSub, Nat.reduceMul, reduceIte, reduceCtorEq, pv, pbin, peq, plen, pload, pcut, pfill, St.ev, St.set, lk, D.ofV, D.cellsOf, InR.i64, InR.u8, ssL, tx, ix, Fact.c, Pair.c, Cond.c, Action.c, Rule.c, Token.c, Match.c, Alpha.c, Node.c, Network.c, Stamp.c, Firing.c, Choice.c, tagg_56, tagg_9, tfo_120_0, tfo_120_1, tsz_56, tsz_9] <;> rfl) ?_)
    exact RetQ_ret (by simp only [Try.f89, resDs, resD, Int.reduceLE, Int.reduceLT, Int.reduceNeg, Int.reduceAdd, Int.reduceSub, Int.reduceToNat, Nat.reduceEqDiff, Nat.reduceLeDiff, Nat.reduceLT, Nat.reduceAdd, Nat.reduceSub, Nat.reduceMul, reduceIte, reduceCtorEq, pv, pbin, peq, plen, pload, pcut, pfill, St.ev, St.set, lk, D.ofV, D.cellsOf, InR.i64, InR.u8, ssL, tx, ix, Fact.c, Pair.c, Cond.c, Action.c, Rule.c, Token.c, Match.c, Alpha.c, Node.c, Network.c, Stamp.c, Firing.c, Choice.c, tagg_56, tagg_9, tfo_120_0, tfo_120_1, tsz_56, tsz_9] <;> rfl) rfl (by simp only [packD]; rw [decide_eq_false (fun h => c2 (by rw [h]))])
  have hc2 := eqIntS_good x.times y.times
  rw [decide_eq_true c2] at hc2
  repeat' first
    | refine thenQ_normal ?_
    | refine thenQ_ret ?_
    | refine thenQ_exit ?_
    | refine blockQ_normal ?_
    | refine blockQ_ret ?_
    | refine blockQ_exit ?_
    | refine blockQ_pass rfl ?_
    | refine AW_seq ?_
    | refine AW_block ?_
    | refine AW_skip ?_
    | refine AW_ret ?_
    | refine AW_exit ?_
    | refine AW_region ?_
    | refine AO_nil ?_
    | refine C_nil ?_
    | (refine R_pv rfl rfl (by omega) (by simp only [Int.reduceLE, Int.reduceLT, Int.reduceNeg, Int.reduceAdd, Int.reduceSub, Int.reduceToNat, Nat.reduceEqDiff, Nat.reduceLeDiff, Nat.reduceLT, Nat.reduceAdd, Nat.reduceSub, Nat.reduceMul, reduceIte, reduceCtorEq, pv, pbin, peq, plen, pload, pcut, pfill, St.ev, St.set, lk, D.ofV, D.cellsOf, InR.i64, InR.u8, ssL, tx, ix, Fact.c, Pair.c, Cond.c, Action.c, Rule.c, Token.c, Match.c, Alpha.c, Node.c, Network.c, Stamp.c, Firing.c, Choice.c, tagg_56, tagg_9, tfo_120_0, tfo_120_1, tsz_56, tsz_9] <;> rfl) ?_)
    | (refine R_eff hΓ rfl (by simp only [peff, Int.reduceLE, Int.reduceLT, Int.reduceNeg, Int.reduceAdd, Int.reduceSub, Int.reduceToNat, Nat.reduceEqDiff, Nat.reduceLeDiff, Nat.reduceLT, Nat.reduceAdd, Nat.reduceSub, Nat.reduceMul, reduceIte, reduceCtorEq, pv, pbin, peq, plen, pload, pcut, pfill, St.ev, St.set, lk, D.ofV, D.cellsOf, InR.i64, InR.u8, ssL, tx, ix, Fact.c, Pair.c, Cond.c, Action.c, Rule.c, Token.c, Match.c, Alpha.c, Node.c, Network.c, Stamp.c, Firing.c, Choice.c, tagg_56, tagg_9, tfo_120_0, tfo_120_1, tsz_56, tsz_9] <;> rfl) ?_)
    | (refine R_call rfl rfl rfl (by omega) (by simp only [Int.reduceLE, Int.reduceLT, Int.reduceNeg, Int.reduceAdd, Int.reduceSub, Int.reduceToNat, Nat.reduceEqDiff, Nat.reduceLeDiff, Nat.reduceLT, Nat.reduceAdd, Nat.reduceSub, Nat.reduceMul, reduceIte, reduceCtorEq, pv, pbin, peq, plen, pload, pcut, pfill, St.ev, St.set, lk, D.ofV, D.cellsOf, InR.i64, InR.u8, ssL, tx, ix, Fact.c, Pair.c, Cond.c, Action.c, Rule.c, Token.c, Match.c, Alpha.c, Node.c, Network.c, Stamp.c, Firing.c, Choice.c, tagg_56, tagg_9, tfo_120_0, tfo_120_1, tsz_56, tsz_9] <;> rfl) (by rfl) (by exact hc2) (by rfl) ?_)
  refine W_false (by simp only [Int.reduceLE, Int.reduceLT, Int.reduceNeg, Int.reduceAdd, Int.reduceSub, Int.reduceToNat, Nat.reduceEqDiff, Nat.reduceLeDiff, Nat.reduceLT, Nat.reduceAdd, Nat.reduceSub, Nat.reduceMul, reduceIte, reduceCtorEq, pv, pbin, peq, plen, pload, pcut, pfill, St.ev, St.set, lk, D.ofV, D.cellsOf, InR.i64, InR.u8, ssL, tx, ix, Fact.c, Pair.c, Cond.c, Action.c, Rule.c, Token.c, Match.c, Alpha.c, Node.c, Network.c, Stamp.c, Firing.c, Choice.c, tagg_56, tagg_9, tfo_120_0, tfo_120_1, tsz_56, tsz_9] <;> rfl) ?_
  repeat' first
    | refine thenQ_normal ?_
    | refine thenQ_ret ?_
    | refine thenQ_exit ?_
    | refine blockQ_normal ?_
    | refine blockQ_ret ?_
    | refine blockQ_exit ?_
    | refine blockQ_pass rfl ?_
    | refine AW_seq ?_
    | refine AW_block ?_
    | refine AW_skip ?_
    | refine AW_ret ?_
    | refine AW_exit ?_
    | refine AW_region ?_
    | refine AO_nil ?_
    | refine C_nil ?_
    | (refine R_pv rfl rfl (by omega) (by simp only [Int.reduceLE, Int.reduceLT, Int.reduceNeg, Int.reduceAdd, Int.reduceSub, Int.reduceToNat, Nat.reduceEqDiff, Nat.reduceLeDiff, Nat.reduceLT, Nat.reduceAdd, Nat.reduceSub, Nat.reduceMul, reduceIte, reduceCtorEq, pv, pbin, peq, plen, pload, pcut, pfill, St.ev, St.set, lk, D.ofV, D.cellsOf, InR.i64, InR.u8, ssL, tx, ix, Fact.c, Pair.c, Cond.c, Action.c, Rule.c, Token.c, Match.c, Alpha.c, Node.c, Network.c, Stamp.c, Firing.c, Choice.c, tagg_56, tagg_9, tfo_120_0, tfo_120_1, tsz_56, tsz_9] <;> rfl) ?_)
    | (refine R_eff hΓ rfl (by simp only [peff, Int.reduceLE, Int.reduceLT, Int.reduceNeg, Int.reduceAdd, Int.reduceSub, Int.reduceToNat, Nat.reduceEqDiff, Nat.reduceLeDiff, Nat.reduceLT, Nat.reduceAdd, Nat.reduceSub, Nat.reduceMul, reduceIte, reduceCtorEq, pv, pbin, peq, plen, pload, pcut, pfill, St.ev, St.set, lk, D.ofV, D.cellsOf, InR.i64, InR.u8, ssL, tx, ix, Fact.c, Pair.c, Cond.c, Action.c, Rule.c, Token.c, Match.c, Alpha.c, Node.c, Network.c, Stamp.c, Firing.c, Choice.c, tagg_56, tagg_9, tfo_120_0, tfo_120_1, tsz_56, tsz_9] <;> rfl) ?_)
  have hxy : x = y := by cases x; cases y; simp_all
  exact RetQ_ret (by simp only [Try.f89, resDs, resD, Int.reduceLE, Int.reduceLT, Int.reduceNeg, Int.reduceAdd, Int.reduceSub, Int.reduceToNat, Nat.reduceEqDiff, Nat.reduceLeDiff, Nat.reduceLT, Nat.reduceAdd, Nat.reduceSub, Nat.reduceMul, reduceIte, reduceCtorEq, pv, pbin, peq, plen, pload, pcut, pfill, St.ev, St.set, lk, D.ofV, D.cellsOf, InR.i64, InR.u8, ssL, tx, ix, Fact.c, Pair.c, Cond.c, Action.c, Rule.c, Token.c, Match.c, Alpha.c, Node.c, Network.c, Stamp.c, Firing.c, Choice.c, tagg_56, tagg_9, tfo_120_0, tfo_120_1, tsz_56, tsz_9] <;> rfl) rfl (by simp only [packD]; rw [decide_eq_true hxy])

set_option linter.unusedSimpArgs false in
set_option maxRecDepth 100000 in
set_option maxHeartbeats 1000000 in
theorem eqFiringS_good (l m : List Firing) : Good Try.prog 49 [.sl (l.map Firing.c), .sl (m.map Firing.c)] (.bool (decide (l = m))) := by
  refine Good.of Try.func49 rfl (by decide) (by simp [Try.f49]) ?_
  intro hr Γ hΓ
  have hΓ : Γ.nt = 27 := hΓ
  simp only [args0]
  have hl : l.length ≤ maxLen := (hr (.sl (l.map Firing.c)) (List.mem_cons_self ..)).len
  by_cases c1 : l.length = m.length
  case neg =>
    have d1 : ((l.length : Int) != (m.length : Int)) = true := by simp; omega
    repeat' first
      | refine thenQ_normal ?_
      | refine thenQ_ret ?_
      | refine thenQ_exit ?_
      | refine blockQ_normal ?_
      | refine blockQ_ret ?_
      | refine blockQ_exit ?_
      | refine blockQ_pass rfl ?_
      | refine AW_seq ?_
      | refine AW_block ?_
      | refine AW_skip ?_
      | refine AW_ret ?_
      | refine AW_exit ?_
      | refine AW_region ?_
      | refine AO_nil ?_
      | refine C_nil ?_
      | (refine R_pv rfl rfl (by omega) (by simp only [Int.reduceLE, Int.reduceLT, Int.reduceNeg, Int.reduceAdd, Int.reduceSub, Int.reduceToNat, Nat.reduceEqDiff, Nat.reduceLeDiff, Nat.reduceLT, Nat.reduceAdd, Nat.reduceSub, Nat.reduceMul, reduceIte, reduceCtorEq, pv, pbin, peq, plen, pload, pcut, pfill, St.ev, St.set, lk, D.ofV, D.cellsOf, InR.i64, InR.u8, ssL, tx, ix, Fact.c, Pair.c, Cond.c, Action.c, Rule.c, Token.c, Match.c, Alpha.c, Node.c, Network.c, Stamp.c, Firing.c, Choice.c, tagg_120, tel_80, tstr_80, tsz_120, d1] <;> rfl) ?_)
      | (refine C_pv rfl rfl (by omega) (by simp only [Int.reduceLE, Int.reduceLT, Int.reduceNeg, Int.reduceAdd, Int.reduceSub, Int.reduceToNat, Nat.reduceEqDiff, Nat.reduceLeDiff, Nat.reduceLT, Nat.reduceAdd, Nat.reduceSub, Nat.reduceMul, reduceIte, reduceCtorEq, pv, pbin, peq, plen, pload, pcut, pfill, St.ev, St.set, lk, D.ofV, D.cellsOf, InR.i64, InR.u8, ssL, tx, ix, Fact.c, Pair.c, Cond.c, Action.c, Rule.c, Token.c, Match.c, Alpha.c, Node.c, Network.c, Stamp.c, Firing.c, Choice.c, tagg_120, tel_80, tstr_80, tsz_120, d1] <;> rfl) ?_)
    refine W_true (by simp only [Int.reduceLE, Int.reduceLT, Int.reduceNeg, Int.reduceAdd, Int.reduceSub, Int.reduceToNat, Nat.reduceEqDiff, Nat.reduceLeDiff, Nat.reduceLT, Nat.reduceAdd, Nat.reduceSub, Nat.reduceMul, reduceIte, reduceCtorEq, pv, pbin, peq, plen, pload, pcut, pfill, St.ev, St.set, lk, D.ofV, D.cellsOf, InR.i64, InR.u8, ssL, tx, ix, Fact.c, Pair.c, Cond.c, Action.c, Rule.c, Token.c, Match.c, Alpha.c, Node.c, Network.c, Stamp.c, Firing.c, Choice.c, tagg_120, tel_80, tstr_80, tsz_120, d1] <;> rfl) ?_
    repeat' first
      | refine thenQ_normal ?_
      | refine thenQ_ret ?_
      | refine thenQ_exit ?_
      | refine blockQ_normal ?_
      | refine blockQ_ret ?_
      | refine blockQ_exit ?_
      | refine blockQ_pass rfl ?_
      | refine AW_seq ?_
      | refine AW_block ?_
      | refine AW_skip ?_
      | refine AW_ret ?_
      | refine AW_exit ?_
      | refine AW_region ?_
      | refine AO_nil ?_
      | refine C_nil ?_
      | (refine R_pv rfl rfl (by omega) (by simp only [Int.reduceLE, Int.reduceLT, Int.reduceNeg, Int.reduceAdd, Int.reduceSub, Int.reduceToNat, Nat.reduceEqDiff, Nat.reduceLeDiff, Nat.reduceLT, Nat.reduceAdd, Nat.reduceSub, Nat.reduceMul, reduceIte, reduceCtorEq, pv, pbin, peq, plen, pload, pcut, pfill, St.ev, St.set, lk, D.ofV, D.cellsOf, InR.i64, InR.u8, ssL, tx, ix, Fact.c, Pair.c, Cond.c, Action.c, Rule.c, Token.c, Match.c, Alpha.c, Node.c, Network.c, Stamp.c, Firing.c, Choice.c, tagg_120, tel_80, tstr_80, tsz_120] <;> rfl) ?_)
      | (refine C_pv rfl rfl (by omega) (by simp only [Int.reduceLE, Int.reduceLT, Int.reduceNeg, Int.reduceAdd, Int.reduceSub, Int.reduceToNat, Nat.reduceEqDiff, Nat.reduceLeDiff, Nat.reduceLT, Nat.reduceAdd, Nat.reduceSub, Nat.reduceMul, reduceIte, reduceCtorEq, pv, pbin, peq, plen, pload, pcut, pfill, St.ev, St.set, lk, D.ofV, D.cellsOf, InR.i64, InR.u8, ssL, tx, ix, Fact.c, Pair.c, Cond.c, Action.c, Rule.c, Token.c, Match.c, Alpha.c, Node.c, Network.c, Stamp.c, Firing.c, Choice.c, tagg_120, tel_80, tstr_80, tsz_120] <;> rfl) ?_)
    exact RetQ_ret (by simp only [Try.f49, resDs, resD, Int.reduceLE, Int.reduceLT, Int.reduceNeg, Int.reduceAdd, Int.reduceSub, Int.reduceToNat, Nat.reduceEqDiff, Nat.reduceLeDiff, Nat.reduceLT, Nat.reduceAdd, Nat.reduceSub, Nat.reduceMul, reduceIte, reduceCtorEq, pv, pbin, peq, plen, pload, pcut, pfill, St.ev, St.set, lk, D.ofV, D.cellsOf, InR.i64, InR.u8, ssL, tx, ix, Fact.c, Pair.c, Cond.c, Action.c, Rule.c, Token.c, Match.c, Alpha.c, Node.c, Network.c, Stamp.c, Firing.c, Choice.c, tagg_120, tel_80, tstr_80, tsz_120] <;> rfl) rfl (by simp only [packD]; rw [decide_eq_false (fun h => c1 (by rw [h]))])
  have d1 : ((l.length : Int) != (m.length : Int)) = false := by simp; omega
  repeat' first
    | refine thenQ_normal ?_
    | refine thenQ_ret ?_
    | refine thenQ_exit ?_
    | refine blockQ_normal ?_
    | refine blockQ_ret ?_
    | refine blockQ_exit ?_
    | refine blockQ_pass rfl ?_
    | refine AW_seq ?_
    | refine AW_block ?_
    | refine AW_skip ?_
    | refine AW_ret ?_
    | refine AW_exit ?_
    | refine AW_region ?_
    | refine AO_nil ?_
    | refine C_nil ?_
    | (refine R_pv rfl rfl (by omega) (by simp only [Int.reduceLE, Int.reduceLT, Int.reduceNeg, Int.reduceAdd, Int.reduceSub, Int.reduceToNat, Nat.reduceEqDiff, Nat.reduceLeDiff, Nat.reduceLT, Nat.reduceAdd, Nat.reduceSub, Nat.reduceMul, reduceIte, reduceCtorEq, pv, pbin, peq, plen, pload, pcut, pfill, St.ev, St.set, lk, D.ofV, D.cellsOf, InR.i64, InR.u8, ssL, tx, ix, Fact.c, Pair.c, Cond.c, Action.c, Rule.c, Token.c, Match.c, Alpha.c, Node.c, Network.c, Stamp.c, Firing.c, Choice.c, tagg_120, tel_80, tstr_80, tsz_120, d1] <;> rfl) ?_)
    | (refine C_pv rfl rfl (by omega) (by simp only [Int.reduceLE, Int.reduceLT, Int.reduceNeg, Int.reduceAdd, Int.reduceSub, Int.reduceToNat, Nat.reduceEqDiff, Nat.reduceLeDiff, Nat.reduceLT, Nat.reduceAdd, Nat.reduceSub, Nat.reduceMul, reduceIte, reduceCtorEq, pv, pbin, peq, plen, pload, pcut, pfill, St.ev, St.set, lk, D.ofV, D.cellsOf, InR.i64, InR.u8, ssL, tx, ix, Fact.c, Pair.c, Cond.c, Action.c, Rule.c, Token.c, Match.c, Alpha.c, Node.c, Network.c, Stamp.c, Firing.c, Choice.c, tagg_120, tel_80, tstr_80, tsz_120, d1] <;> rfl) ?_)
  refine W_false (by simp only [Int.reduceLE, Int.reduceLT, Int.reduceNeg, Int.reduceAdd, Int.reduceSub, Int.reduceToNat, Nat.reduceEqDiff, Nat.reduceLeDiff, Nat.reduceLT, Nat.reduceAdd, Nat.reduceSub, Nat.reduceMul, reduceIte, reduceCtorEq, pv, pbin, peq, plen, pload, pcut, pfill, St.ev, St.set, lk, D.ofV, D.cellsOf, InR.i64, InR.u8, ssL, tx, ix, Fact.c, Pair.c, Cond.c, Action.c, Rule.c, Token.c, Match.c, Alpha.c, Node.c, Network.c, Stamp.c, Firing.c, Choice.c, tagg_120, tel_80, tstr_80, tsz_120, d1] <;> rfl) ?_
  repeat' first
    | refine thenQ_normal ?_
    | refine thenQ_ret ?_
    | refine thenQ_exit ?_
    | refine blockQ_normal ?_
    | refine blockQ_ret ?_
    | refine blockQ_exit ?_
    | refine blockQ_pass rfl ?_
    | refine AW_seq ?_
    | refine AW_block ?_
    | refine AW_skip ?_
    | refine AW_ret ?_
    | refine AW_exit ?_
    | refine AW_region ?_
    | refine AO_nil ?_
    | refine C_nil ?_
    | (refine R_pv rfl rfl (by omega) (by simp only [Int.reduceLE, Int.reduceLT, Int.reduceNeg, Int.reduceAdd, Int.reduceSub, Int.reduceToNat, Nat.reduceEqDiff, Nat.reduceLeDiff, Nat.reduceLT, Nat.reduceAdd, Nat.reduceSub, Nat.reduceMul, reduceIte, reduceCtorEq, pv, pbin, peq, plen, pload, pcut, pfill, St.ev, St.set, lk, D.ofV, D.cellsOf, InR.i64, InR.u8, ssL, tx, ix, Fact.c, Pair.c, Cond.c, Action.c, Rule.c, Token.c, Match.c, Alpha.c, Node.c, Network.c, Stamp.c, Firing.c, Choice.c, tagg_120, tel_80, tstr_80, tsz_120] <;> rfl) ?_)
    | (refine C_pv rfl rfl (by omega) (by simp only [Int.reduceLE, Int.reduceLT, Int.reduceNeg, Int.reduceAdd, Int.reduceSub, Int.reduceToNat, Nat.reduceEqDiff, Nat.reduceLeDiff, Nat.reduceLT, Nat.reduceAdd, Nat.reduceSub, Nat.reduceMul, reduceIte, reduceCtorEq, pv, pbin, peq, plen, pload, pcut, pfill, St.ev, St.set, lk, D.ofV, D.cellsOf, InR.i64, InR.u8, ssL, tx, ix, Fact.c, Pair.c, Cond.c, Action.c, Rule.c, Token.c, Match.c, Alpha.c, Node.c, Network.c, Stamp.c, Firing.c, Choice.c, tagg_120, tel_80, tstr_80, tsz_120] <;> rfl) ?_)
  refine W_for [0, 1, 5] 0 (fun k => ⟨[(0, .sl (l.map Firing.c)), (1, .sl (m.map Firing.c)), (5, .int .i64 (k : Nat))], []⟩)
    (fun k => l.take k = m.take k) l.length rfl ?_ rfl ?_
  · simp only [St.trim, Int.reduceLE, Int.reduceLT, Int.reduceNeg, Int.reduceAdd, Int.reduceSub, Int.reduceToNat, Nat.reduceEqDiff, Nat.reduceLeDiff, Nat.reduceLT, Nat.reduceAdd, Nat.reduceSub, Nat.reduceMul, reduceIte, reduceCtorEq, pv, pbin, peq, plen, pload, pcut, pfill, St.ev, St.set, lk, D.ofV, D.cellsOf, InR.i64, InR.u8, ssL, tx, ix, Fact.c, Pair.c, Cond.c, Action.c, Rule.c, Token.c, Match.c, Alpha.c, Node.c, Network.c, Stamp.c, Firing.c, Choice.c, tagg_120, tel_80, tstr_80, tsz_120]
  · intro k hk hI
    rcases Nat.lt_or_ge k l.length with hlt | hge
    · obtain ⟨x, hx⟩ := getx hlt
      obtain ⟨y, hy⟩ := getx (l := m) (k := k) (by omega)
      have hd := lt_true hlt
      have wk := wrap_succ hlt hl
      by_cases c2 : x = y
      case neg =>
        have hc := eqFiring_good x y
        rw [decide_eq_false c2] at hc
        repeat' first
          | refine thenQ_normal ?_
          | refine thenQ_ret ?_
          | refine thenQ_exit ?_
          | refine blockQ_normal ?_
          | refine blockQ_ret ?_
          | refine blockQ_exit ?_
          | refine blockQ_pass rfl ?_
          | refine AW_seq ?_
          | refine AW_block ?_
          | refine AW_skip ?_
          | refine AW_ret ?_
          | refine AW_exit ?_
          | refine AW_region ?_
          | refine AO_nil ?_
          | refine C_nil ?_
          | (refine R_pv rfl rfl (by omega) (by simp only [Int.reduceLE, Int.reduceLT, Int.reduceNeg, Int.reduceAdd, Int.reduceSub, Int.reduceToNat, Nat.reduceEqDiff, Nat.reduceLeDiff, Nat.reduceLT, Nat.reduceAdd, Nat.reduceSub, Nat.reduceMul, reduceIte, reduceCtorEq, pv, pbin, peq, plen, pload, pcut, pfill, St.ev, St.set, lk, D.ofV, D.cellsOf, InR.i64, InR.u8, ssL, tx, ix, Fact.c, Pair.c, Cond.c, Action.c, Rule.c, Token.c, Match.c, Alpha.c, Node.c, Network.c, Stamp.c, Firing.c, Choice.c, tagg_120, tel_80, tstr_80, tsz_120, hd, hx, hy, wk] <;> rfl) ?_)
          | (refine C_pv rfl rfl (by omega) (by simp only [Int.reduceLE, Int.reduceLT, Int.reduceNeg, Int.reduceAdd, Int.reduceSub, Int.reduceToNat, Nat.reduceEqDiff, Nat.reduceLeDiff, Nat.reduceLT, Nat.reduceAdd, Nat.reduceSub, Nat.reduceMul, reduceIte, reduceCtorEq, pv, pbin, peq, plen, pload, pcut, pfill, St.ev, St.set, lk, D.ofV, D.cellsOf, InR.i64, InR.u8, ssL, tx, ix, Fact.c, Pair.c, Cond.c, Action.c, Rule.c, Token.c, Match.c, Alpha.c, Node.c, Network.c, Stamp.c, Firing.c, Choice.c, tagg_120, tel_80, tstr_80, tsz_120, hd, hx, hy, wk] <;> rfl) ?_)
        refine W_true (by simp only [Int.reduceLE, Int.reduceLT, Int.reduceNeg, Int.reduceAdd, Int.reduceSub, Int.reduceToNat, Nat.reduceEqDiff, Nat.reduceLeDiff, Nat.reduceLT, Nat.reduceAdd, Nat.reduceSub, Nat.reduceMul, reduceIte, reduceCtorEq, pv, pbin, peq, plen, pload, pcut, pfill, St.ev, St.set, lk, D.ofV, D.cellsOf, InR.i64, InR.u8, ssL, tx, ix, Fact.c, Pair.c, Cond.c, Action.c, Rule.c, Token.c, Match.c, Alpha.c, Node.c, Network.c, Stamp.c, Firing.c, Choice.c, tagg_120, tel_80, tstr_80, tsz_120, hd] <;> rfl) ?_
        repeat' first
          | refine thenQ_normal ?_
          | refine thenQ_ret ?_
          | refine thenQ_exit ?_
          | refine blockQ_normal ?_
          | refine blockQ_ret ?_
          | refine blockQ_exit ?_
          | refine blockQ_pass rfl ?_
          | refine AW_seq ?_
          | refine AW_block ?_
          | refine AW_skip ?_
          | refine AW_ret ?_
          | refine AW_exit ?_
          | refine AW_region ?_
          | refine AO_nil ?_
          | refine C_nil ?_
          | (refine R_pv rfl rfl (by omega) (by simp only [Int.reduceLE, Int.reduceLT, Int.reduceNeg, Int.reduceAdd, Int.reduceSub, Int.reduceToNat, Nat.reduceEqDiff, Nat.reduceLeDiff, Nat.reduceLT, Nat.reduceAdd, Nat.reduceSub, Nat.reduceMul, reduceIte, reduceCtorEq, pv, pbin, peq, plen, pload, pcut, pfill, St.ev, St.set, lk, D.ofV, D.cellsOf, InR.i64, InR.u8, ssL, tx, ix, Fact.c, Pair.c, Cond.c, Action.c, Rule.c, Token.c, Match.c, Alpha.c, Node.c, Network.c, Stamp.c, Firing.c, Choice.c, tagg_120, tel_80, tstr_80, tsz_120, hd, hx, hy, wk] <;> rfl) ?_)
          | (refine C_pv rfl rfl (by omega) (by simp only [Int.reduceLE, Int.reduceLT, Int.reduceNeg, Int.reduceAdd, Int.reduceSub, Int.reduceToNat, Nat.reduceEqDiff, Nat.reduceLeDiff, Nat.reduceLT, Nat.reduceAdd, Nat.reduceSub, Nat.reduceMul, reduceIte, reduceCtorEq, pv, pbin, peq, plen, pload, pcut, pfill, St.ev, St.set, lk, D.ofV, D.cellsOf, InR.i64, InR.u8, ssL, tx, ix, Fact.c, Pair.c, Cond.c, Action.c, Rule.c, Token.c, Match.c, Alpha.c, Node.c, Network.c, Stamp.c, Firing.c, Choice.c, tagg_120, tel_80, tstr_80, tsz_120, hd, hx, hy, wk] <;> rfl) ?_)
        refine W_draw 8 (by kernel_rfl) (by kernel_rfl) rfl rfl ?_
        repeat' first
          | refine thenQ_normal ?_
          | refine thenQ_ret ?_
          | refine thenQ_exit ?_
          | refine blockQ_normal ?_
          | refine blockQ_ret ?_
          | refine blockQ_exit ?_
          | refine blockQ_pass rfl ?_
          | refine AW_seq ?_
          | refine AW_block ?_
          | refine AW_skip ?_
          | refine AW_ret ?_
          | refine AW_exit ?_
          | refine AW_region ?_
          | refine AO_nil ?_
          | refine C_nil ?_
          | (refine R_pv rfl rfl (by omega) (by simp only [Int.reduceLE, Int.reduceLT, Int.reduceNeg, Int.reduceAdd, Int.reduceSub, Int.reduceToNat, Nat.reduceEqDiff, Nat.reduceLeDiff, Nat.reduceLT, Nat.reduceAdd, Nat.reduceSub, Nat.reduceMul, reduceIte, reduceCtorEq, pv, pbin, peq, plen, pload, pcut, pfill, St.ev, St.set, lk, D.ofV, D.cellsOf, InR.i64, InR.u8, ssL, tx, ix, Fact.c, Pair.c, Cond.c, Action.c, Rule.c, Token.c, Match.c, Alpha.c, Node.c, Network.c, Stamp.c, Firing.c, Choice.c, tagg_120, tel_80, tstr_80, tsz_120, hd, hx, hy, wk] <;> rfl) ?_)
          | (refine C_pv rfl rfl (by omega) (by simp only [Int.reduceLE, Int.reduceLT, Int.reduceNeg, Int.reduceAdd, Int.reduceSub, Int.reduceToNat, Nat.reduceEqDiff, Nat.reduceLeDiff, Nat.reduceLT, Nat.reduceAdd, Nat.reduceSub, Nat.reduceMul, reduceIte, reduceCtorEq, pv, pbin, peq, plen, pload, pcut, pfill, St.ev, St.set, lk, D.ofV, D.cellsOf, InR.i64, InR.u8, ssL, tx, ix, Fact.c, Pair.c, Cond.c, Action.c, Rule.c, Token.c, Match.c, Alpha.c, Node.c, Network.c, Stamp.c, Firing.c, Choice.c, tagg_120, tel_80, tstr_80, tsz_120, hd, hx, hy, wk] <;> rfl) ?_)
          | (refine R_call rfl rfl rfl (by omega) (by simp only [Int.reduceLE, Int.reduceLT, Int.reduceNeg, Int.reduceAdd, Int.reduceSub, Int.reduceToNat, Nat.reduceEqDiff, Nat.reduceLeDiff, Nat.reduceLT, Nat.reduceAdd, Nat.reduceSub, Nat.reduceMul, reduceIte, reduceCtorEq, pv, pbin, peq, plen, pload, pcut, pfill, St.ev, St.set, lk, D.ofV, D.cellsOf, InR.i64, InR.u8, ssL, tx, ix, Fact.c, Pair.c, Cond.c, Action.c, Rule.c, Token.c, Match.c, Alpha.c, Node.c, Network.c, Stamp.c, Firing.c, Choice.c, tagg_120, tel_80, tstr_80, tsz_120, hd, hx, hy, wk] <;> rfl) (by rfl) (by exact hc) (by rfl) ?_)
          | (refine C_call rfl rfl rfl (by omega) (by simp only [Int.reduceLE, Int.reduceLT, Int.reduceNeg, Int.reduceAdd, Int.reduceSub, Int.reduceToNat, Nat.reduceEqDiff, Nat.reduceLeDiff, Nat.reduceLT, Nat.reduceAdd, Nat.reduceSub, Nat.reduceMul, reduceIte, reduceCtorEq, pv, pbin, peq, plen, pload, pcut, pfill, St.ev, St.set, lk, D.ofV, D.cellsOf, InR.i64, InR.u8, ssL, tx, ix, Fact.c, Pair.c, Cond.c, Action.c, Rule.c, Token.c, Match.c, Alpha.c, Node.c, Network.c, Stamp.c, Firing.c, Choice.c, tagg_120, tel_80, tstr_80, tsz_120, hd, hx, hy, wk] <;> rfl) (by rfl) (by exact hc) (by rfl) ?_)
        refine W_true (by simp only [Int.reduceLE, Int.reduceLT, Int.reduceNeg, Int.reduceAdd, Int.reduceSub, Int.reduceToNat, Nat.reduceEqDiff, Nat.reduceLeDiff, Nat.reduceLT, Nat.reduceAdd, Nat.reduceSub, Nat.reduceMul, reduceIte, reduceCtorEq, pv, pbin, peq, plen, pload, pcut, pfill, St.ev, St.set, lk, D.ofV, D.cellsOf, InR.i64, InR.u8, ssL, tx, ix, Fact.c, Pair.c, Cond.c, Action.c, Rule.c, Token.c, Match.c, Alpha.c, Node.c, Network.c, Stamp.c, Firing.c, Choice.c, tagg_120, tel_80, tstr_80, tsz_120] <;> rfl) ?_
        repeat' first
          | refine thenQ_normal ?_
          | refine thenQ_ret ?_
          | refine thenQ_exit ?_
          | refine blockQ_normal ?_
          | refine blockQ_ret ?_
          | refine blockQ_exit ?_
          | refine blockQ_pass rfl ?_
          | refine AW_seq ?_
          | refine AW_block ?_
          | refine AW_skip ?_
          | refine AW_ret ?_
          | refine AW_exit ?_
          | refine AW_region ?_
          | refine AO_nil ?_
          | refine C_nil ?_
          | (refine R_pv rfl rfl (by omega) (by simp only [Int.reduceLE, Int.reduceLT, Int.reduceNeg, Int.reduceAdd, Int.reduceSub, Int.reduceToNat, Nat.reduceEqDiff, Nat.reduceLeDiff, Nat.reduceLT, Nat.reduceAdd, Nat.reduceSub, Nat.reduceMul, reduceIte, reduceCtorEq, pv, pbin, peq, plen, pload, pcut, pfill, St.ev, St.set, lk, D.ofV, D.cellsOf, InR.i64, InR.u8, ssL, tx, ix, Fact.c, Pair.c, Cond.c, Action.c, Rule.c, Token.c, Match.c, Alpha.c, Node.c, Network.c, Stamp.c, Firing.c, Choice.c, tagg_120, tel_80, tstr_80, tsz_120] <;> rfl) ?_)
          | (refine C_pv rfl rfl (by omega) (by simp only [Int.reduceLE, Int.reduceLT, Int.reduceNeg, Int.reduceAdd, Int.reduceSub, Int.reduceToNat, Nat.reduceEqDiff, Nat.reduceLeDiff, Nat.reduceLT, Nat.reduceAdd, Nat.reduceSub, Nat.reduceMul, reduceIte, reduceCtorEq, pv, pbin, peq, plen, pload, pcut, pfill, St.ev, St.set, lk, D.ofV, D.cellsOf, InR.i64, InR.u8, ssL, tx, ix, Fact.c, Pair.c, Cond.c, Action.c, Rule.c, Token.c, Match.c, Alpha.c, Node.c, Network.c, Stamp.c, Firing.c, Choice.c, tagg_120, tel_80, tstr_80, tsz_120] <;> rfl) ?_)
        exact RetQ_ret (by simp only [Try.f49, resDs, resD, Int.reduceLE, Int.reduceLT, Int.reduceNeg, Int.reduceAdd, Int.reduceSub, Int.reduceToNat, Nat.reduceEqDiff, Nat.reduceLeDiff, Nat.reduceLT, Nat.reduceAdd, Nat.reduceSub, Nat.reduceMul, reduceIte, reduceCtorEq, pv, pbin, peq, plen, pload, pcut, pfill, St.ev, St.set, lk, D.ofV, D.cellsOf, InR.i64, InR.u8, ssL, tx, ix, Fact.c, Pair.c, Cond.c, Action.c, Rule.c, Token.c, Match.c, Alpha.c, Node.c, Network.c, Stamp.c, Firing.c, Choice.c, tagg_120, tel_80, tstr_80, tsz_120] <;> rfl) rfl (by simp only [packD]; rw [decide_eq_false (fun h => c2 (by rw [h, hy] at hx; exact (Option.some.inj hx).symm))])
      have hc := eqFiring_good x y
      rw [decide_eq_true c2] at hc
      repeat' first
        | refine thenQ_normal ?_
        | refine thenQ_ret ?_
        | refine thenQ_exit ?_
        | refine blockQ_normal ?_
        | refine blockQ_ret ?_
        | refine blockQ_exit ?_
        | refine blockQ_pass rfl ?_
        | refine AW_seq ?_
        | refine AW_block ?_
        | refine AW_skip ?_
        | refine AW_ret ?_
        | refine AW_exit ?_
        | refine AW_region ?_
        | refine AO_nil ?_
        | refine C_nil ?_
        | (refine R_pv rfl rfl (by omega) (by simp only [Int.reduceLE, Int.reduceLT, Int.reduceNeg, Int.reduceAdd, Int.reduceSub, Int.reduceToNat, Nat.reduceEqDiff, Nat.reduceLeDiff, Nat.reduceLT, Nat.reduceAdd, Nat.reduceSub, Nat.reduceMul, reduceIte, reduceCtorEq, pv, pbin, peq, plen, pload, pcut, pfill, St.ev, St.set, lk, D.ofV, D.cellsOf, InR.i64, InR.u8, ssL, tx, ix, Fact.c, Pair.c, Cond.c, Action.c, Rule.c, Token.c, Match.c, Alpha.c, Node.c, Network.c, Stamp.c, Firing.c, Choice.c, tagg_120, tel_80, tstr_80, tsz_120, hd, hx, hy, wk] <;> rfl) ?_)
        | (refine C_pv rfl rfl (by omega) (by simp only [Int.reduceLE, Int.reduceLT, Int.reduceNeg, Int.reduceAdd, Int.reduceSub, Int.reduceToNat, Nat.reduceEqDiff, Nat.reduceLeDiff, Nat.reduceLT, Nat.reduceAdd, Nat.reduceSub, Nat.reduceMul, reduceIte, reduceCtorEq, pv, pbin, peq, plen, pload, pcut, pfill, St.ev, St.set, lk, D.ofV, D.cellsOf, InR.i64, InR.u8, ssL, tx, ix, Fact.c, Pair.c, Cond.c, Action.c, Rule.c, Token.c, Match.c, Alpha.c, Node.c, Network.c, Stamp.c, Firing.c, Choice.c, tagg_120, tel_80, tstr_80, tsz_120, hd, hx, hy, wk] <;> rfl) ?_)
      refine W_true (by simp only [Int.reduceLE, Int.reduceLT, Int.reduceNeg, Int.reduceAdd, Int.reduceSub, Int.reduceToNat, Nat.reduceEqDiff, Nat.reduceLeDiff, Nat.reduceLT, Nat.reduceAdd, Nat.reduceSub, Nat.reduceMul, reduceIte, reduceCtorEq, pv, pbin, peq, plen, pload, pcut, pfill, St.ev, St.set, lk, D.ofV, D.cellsOf, InR.i64, InR.u8, ssL, tx, ix, Fact.c, Pair.c, Cond.c, Action.c, Rule.c, Token.c, Match.c, Alpha.c, Node.c, Network.c, Stamp.c, Firing.c, Choice.c, tagg_120, tel_80, tstr_80, tsz_120, hd] <;> rfl) ?_
      repeat' first
        | refine thenQ_normal ?_
        | refine thenQ_ret ?_
        | refine thenQ_exit ?_
        | refine blockQ_normal ?_
        | refine blockQ_ret ?_
        | refine blockQ_exit ?_
        | refine blockQ_pass rfl ?_
        | refine AW_seq ?_
        | refine AW_block ?_
        | refine AW_skip ?_
        | refine AW_ret ?_
        | refine AW_exit ?_
        | refine AW_region ?_
        | refine AO_nil ?_
        | refine C_nil ?_
        | (refine R_pv rfl rfl (by omega) (by simp only [Int.reduceLE, Int.reduceLT, Int.reduceNeg, Int.reduceAdd, Int.reduceSub, Int.reduceToNat, Nat.reduceEqDiff, Nat.reduceLeDiff, Nat.reduceLT, Nat.reduceAdd, Nat.reduceSub, Nat.reduceMul, reduceIte, reduceCtorEq, pv, pbin, peq, plen, pload, pcut, pfill, St.ev, St.set, lk, D.ofV, D.cellsOf, InR.i64, InR.u8, ssL, tx, ix, Fact.c, Pair.c, Cond.c, Action.c, Rule.c, Token.c, Match.c, Alpha.c, Node.c, Network.c, Stamp.c, Firing.c, Choice.c, tagg_120, tel_80, tstr_80, tsz_120, hd, hx, hy, wk] <;> rfl) ?_)
        | (refine C_pv rfl rfl (by omega) (by simp only [Int.reduceLE, Int.reduceLT, Int.reduceNeg, Int.reduceAdd, Int.reduceSub, Int.reduceToNat, Nat.reduceEqDiff, Nat.reduceLeDiff, Nat.reduceLT, Nat.reduceAdd, Nat.reduceSub, Nat.reduceMul, reduceIte, reduceCtorEq, pv, pbin, peq, plen, pload, pcut, pfill, St.ev, St.set, lk, D.ofV, D.cellsOf, InR.i64, InR.u8, ssL, tx, ix, Fact.c, Pair.c, Cond.c, Action.c, Rule.c, Token.c, Match.c, Alpha.c, Node.c, Network.c, Stamp.c, Firing.c, Choice.c, tagg_120, tel_80, tstr_80, tsz_120, hd, hx, hy, wk] <;> rfl) ?_)
      refine W_draw 8 (by kernel_rfl) (by kernel_rfl) rfl rfl ?_
      repeat' first
        | refine thenQ_normal ?_
        | refine thenQ_ret ?_
        | refine thenQ_exit ?_
        | refine blockQ_normal ?_
        | refine blockQ_ret ?_
        | refine blockQ_exit ?_
        | refine blockQ_pass rfl ?_
        | refine AW_seq ?_
        | refine AW_block ?_
        | refine AW_skip ?_
        | refine AW_ret ?_
        | refine AW_exit ?_
        | refine AW_region ?_
        | refine AO_nil ?_
        | refine C_nil ?_
        | (refine R_pv rfl rfl (by omega) (by simp only [Int.reduceLE, Int.reduceLT, Int.reduceNeg, Int.reduceAdd, Int.reduceSub, Int.reduceToNat, Nat.reduceEqDiff, Nat.reduceLeDiff, Nat.reduceLT, Nat.reduceAdd, Nat.reduceSub, Nat.reduceMul, reduceIte, reduceCtorEq, pv, pbin, peq, plen, pload, pcut, pfill, St.ev, St.set, lk, D.ofV, D.cellsOf, InR.i64, InR.u8, ssL, tx, ix, Fact.c, Pair.c, Cond.c, Action.c, Rule.c, Token.c, Match.c, Alpha.c, Node.c, Network.c, Stamp.c, Firing.c, Choice.c, tagg_120, tel_80, tstr_80, tsz_120, hd, hx, hy, wk] <;> rfl) ?_)
        | (refine C_pv rfl rfl (by omega) (by simp only [Int.reduceLE, Int.reduceLT, Int.reduceNeg, Int.reduceAdd, Int.reduceSub, Int.reduceToNat, Nat.reduceEqDiff, Nat.reduceLeDiff, Nat.reduceLT, Nat.reduceAdd, Nat.reduceSub, Nat.reduceMul, reduceIte, reduceCtorEq, pv, pbin, peq, plen, pload, pcut, pfill, St.ev, St.set, lk, D.ofV, D.cellsOf, InR.i64, InR.u8, ssL, tx, ix, Fact.c, Pair.c, Cond.c, Action.c, Rule.c, Token.c, Match.c, Alpha.c, Node.c, Network.c, Stamp.c, Firing.c, Choice.c, tagg_120, tel_80, tstr_80, tsz_120, hd, hx, hy, wk] <;> rfl) ?_)
        | (refine R_call rfl rfl rfl (by omega) (by simp only [Int.reduceLE, Int.reduceLT, Int.reduceNeg, Int.reduceAdd, Int.reduceSub, Int.reduceToNat, Nat.reduceEqDiff, Nat.reduceLeDiff, Nat.reduceLT, Nat.reduceAdd, Nat.reduceSub, Nat.reduceMul, reduceIte, reduceCtorEq, pv, pbin, peq, plen, pload, pcut, pfill, St.ev, St.set, lk, D.ofV, D.cellsOf, InR.i64, InR.u8, ssL, tx, ix, Fact.c, Pair.c, Cond.c, Action.c, Rule.c, Token.c, Match.c, Alpha.c, Node.c, Network.c, Stamp.c, Firing.c, Choice.c, tagg_120, tel_80, tstr_80, tsz_120, hd, hx, hy, wk] <;> rfl) (by rfl) (by exact hc) (by rfl) ?_)
        | (refine C_call rfl rfl rfl (by omega) (by simp only [Int.reduceLE, Int.reduceLT, Int.reduceNeg, Int.reduceAdd, Int.reduceSub, Int.reduceToNat, Nat.reduceEqDiff, Nat.reduceLeDiff, Nat.reduceLT, Nat.reduceAdd, Nat.reduceSub, Nat.reduceMul, reduceIte, reduceCtorEq, pv, pbin, peq, plen, pload, pcut, pfill, St.ev, St.set, lk, D.ofV, D.cellsOf, InR.i64, InR.u8, ssL, tx, ix, Fact.c, Pair.c, Cond.c, Action.c, Rule.c, Token.c, Match.c, Alpha.c, Node.c, Network.c, Stamp.c, Firing.c, Choice.c, tagg_120, tel_80, tstr_80, tsz_120, hd, hx, hy, wk] <;> rfl) (by rfl) (by exact hc) (by rfl) ?_)
      refine W_false (by simp only [Int.reduceLE, Int.reduceLT, Int.reduceNeg, Int.reduceAdd, Int.reduceSub, Int.reduceToNat, Nat.reduceEqDiff, Nat.reduceLeDiff, Nat.reduceLT, Nat.reduceAdd, Nat.reduceSub, Nat.reduceMul, reduceIte, reduceCtorEq, pv, pbin, peq, plen, pload, pcut, pfill, St.ev, St.set, lk, D.ofV, D.cellsOf, InR.i64, InR.u8, ssL, tx, ix, Fact.c, Pair.c, Cond.c, Action.c, Rule.c, Token.c, Match.c, Alpha.c, Node.c, Network.c, Stamp.c, Firing.c, Choice.c, tagg_120, tel_80, tstr_80, tsz_120] <;> rfl) ?_
      repeat' first
        | refine thenQ_normal ?_
        | refine thenQ_ret ?_
        | refine thenQ_exit ?_
        | refine blockQ_normal ?_
        | refine blockQ_ret ?_
        | refine blockQ_exit ?_
        | refine blockQ_pass rfl ?_
        | refine AW_seq ?_
        | refine AW_block ?_
        | refine AW_skip ?_
        | refine AW_ret ?_
        | refine AW_exit ?_
        | refine AW_region ?_
        | refine AO_nil ?_
        | refine C_nil ?_
        | (refine R_pv rfl rfl (by omega) (by simp only [Int.reduceLE, Int.reduceLT, Int.reduceNeg, Int.reduceAdd, Int.reduceSub, Int.reduceToNat, Nat.reduceEqDiff, Nat.reduceLeDiff, Nat.reduceLT, Nat.reduceAdd, Nat.reduceSub, Nat.reduceMul, reduceIte, reduceCtorEq, pv, pbin, peq, plen, pload, pcut, pfill, St.ev, St.set, lk, D.ofV, D.cellsOf, InR.i64, InR.u8, ssL, tx, ix, Fact.c, Pair.c, Cond.c, Action.c, Rule.c, Token.c, Match.c, Alpha.c, Node.c, Network.c, Stamp.c, Firing.c, Choice.c, tagg_120, tel_80, tstr_80, tsz_120, wk] <;> rfl) ?_)
        | (refine C_pv rfl rfl (by omega) (by simp only [Int.reduceLE, Int.reduceLT, Int.reduceNeg, Int.reduceAdd, Int.reduceSub, Int.reduceToNat, Nat.reduceEqDiff, Nat.reduceLeDiff, Nat.reduceLT, Nat.reduceAdd, Nat.reduceSub, Nat.reduceMul, reduceIte, reduceCtorEq, pv, pbin, peq, plen, pload, pcut, pfill, St.ev, St.set, lk, D.ofV, D.cellsOf, InR.i64, InR.u8, ssL, tx, ix, Fact.c, Pair.c, Cond.c, Action.c, Rule.c, Token.c, Match.c, Alpha.c, Node.c, Network.c, Stamp.c, Firing.c, Choice.c, tagg_120, tel_80, tstr_80, tsz_120, wk] <;> rfl) ?_)
      refine ⟨hlt, rfl, ?_, by rw [take_snoc hx, take_snoc hy, hI, c2]⟩
      simp only [St.trim, Int.reduceLE, Int.reduceLT, Int.reduceNeg, Int.reduceAdd, Int.reduceSub, Int.reduceToNat, Nat.reduceEqDiff, Nat.reduceLeDiff, Nat.reduceLT, Nat.reduceAdd, Nat.reduceSub, Nat.reduceMul, reduceIte, reduceCtorEq, pv, pbin, peq, plen, pload, pcut, pfill, St.ev, St.set, lk, D.ofV, D.cellsOf, InR.i64, InR.u8, ssL, tx, ix, Fact.c, Pair.c, Cond.c, Action.c, Rule.c, Token.c, Match.c, Alpha.c, Node.c, Network.c, Stamp.c, Firing.c, Choice.c, tagg_120, tel_80, tstr_80, tsz_120]
    · have hd := lt_false hge
      have hkl : k = l.length := by omega
      subst hkl
      have hlm : l = m := by rw [List.take_length, c1, List.take_length] at hI; exact hI
      repeat' first
        | refine thenQ_normal ?_
        | refine thenQ_ret ?_
        | refine thenQ_exit ?_
        | refine blockQ_normal ?_
        | refine blockQ_ret ?_
        | refine blockQ_exit ?_
        | refine blockQ_pass rfl ?_
        | refine AW_seq ?_
        | refine AW_block ?_
        | refine AW_skip ?_
        | refine AW_ret ?_
        | refine AW_exit ?_
        | refine AW_region ?_
        | refine AO_nil ?_
        | refine C_nil ?_
        | (refine R_pv rfl rfl (by omega) (by simp only [Int.reduceLE, Int.reduceLT, Int.reduceNeg, Int.reduceAdd, Int.reduceSub, Int.reduceToNat, Nat.reduceEqDiff, Nat.reduceLeDiff, Nat.reduceLT, Nat.reduceAdd, Nat.reduceSub, Nat.reduceMul, reduceIte, reduceCtorEq, pv, pbin, peq, plen, pload, pcut, pfill, St.ev, St.set, lk, D.ofV, D.cellsOf, InR.i64, InR.u8, ssL, tx, ix, Fact.c, Pair.c, Cond.c, Action.c, Rule.c, Token.c, Match.c, Alpha.c, Node.c, Network.c, Stamp.c, Firing.c, Choice.c, tagg_120, tel_80, tstr_80, tsz_120, hd] <;> rfl) ?_)
        | (refine C_pv rfl rfl (by omega) (by simp only [Int.reduceLE, Int.reduceLT, Int.reduceNeg, Int.reduceAdd, Int.reduceSub, Int.reduceToNat, Nat.reduceEqDiff, Nat.reduceLeDiff, Nat.reduceLT, Nat.reduceAdd, Nat.reduceSub, Nat.reduceMul, reduceIte, reduceCtorEq, pv, pbin, peq, plen, pload, pcut, pfill, St.ev, St.set, lk, D.ofV, D.cellsOf, InR.i64, InR.u8, ssL, tx, ix, Fact.c, Pair.c, Cond.c, Action.c, Rule.c, Token.c, Match.c, Alpha.c, Node.c, Network.c, Stamp.c, Firing.c, Choice.c, tagg_120, tel_80, tstr_80, tsz_120, hd] <;> rfl) ?_)
      refine W_false (by simp only [Int.reduceLE, Int.reduceLT, Int.reduceNeg, Int.reduceAdd, Int.reduceSub, Int.reduceToNat, Nat.reduceEqDiff, Nat.reduceLeDiff, Nat.reduceLT, Nat.reduceAdd, Nat.reduceSub, Nat.reduceMul, reduceIte, reduceCtorEq, pv, pbin, peq, plen, pload, pcut, pfill, St.ev, St.set, lk, D.ofV, D.cellsOf, InR.i64, InR.u8, ssL, tx, ix, Fact.c, Pair.c, Cond.c, Action.c, Rule.c, Token.c, Match.c, Alpha.c, Node.c, Network.c, Stamp.c, Firing.c, Choice.c, tagg_120, tel_80, tstr_80, tsz_120, hd] <;> rfl) ?_
      repeat' first
        | refine thenQ_normal ?_
        | refine thenQ_ret ?_
        | refine thenQ_exit ?_
        | refine blockQ_normal ?_
        | refine blockQ_ret ?_
        | refine blockQ_exit ?_
        | refine blockQ_pass rfl ?_
        | refine AW_seq ?_
        | refine AW_block ?_
        | refine AW_skip ?_
        | refine AW_ret ?_
        | refine AW_exit ?_
        | refine AW_region ?_
        | refine AO_nil ?_
        | refine C_nil ?_
        | (refine R_pv rfl rfl (by omega) (by simp only [Int.reduceLE, Int.reduceLT, Int.reduceNeg, Int.reduceAdd, Int.reduceSub, Int.reduceToNat, Nat.reduceEqDiff, Nat.reduceLeDiff, Nat.reduceLT, Nat.reduceAdd, Nat.reduceSub, Nat.reduceMul, reduceIte, reduceCtorEq, pv, pbin, peq, plen, pload, pcut, pfill, St.ev, St.set, lk, D.ofV, D.cellsOf, InR.i64, InR.u8, ssL, tx, ix, Fact.c, Pair.c, Cond.c, Action.c, Rule.c, Token.c, Match.c, Alpha.c, Node.c, Network.c, Stamp.c, Firing.c, Choice.c, tagg_120, tel_80, tstr_80, tsz_120] <;> rfl) ?_)
        | (refine C_pv rfl rfl (by omega) (by simp only [Int.reduceLE, Int.reduceLT, Int.reduceNeg, Int.reduceAdd, Int.reduceSub, Int.reduceToNat, Nat.reduceEqDiff, Nat.reduceLeDiff, Nat.reduceLT, Nat.reduceAdd, Nat.reduceSub, Nat.reduceMul, reduceIte, reduceCtorEq, pv, pbin, peq, plen, pload, pcut, pfill, St.ev, St.set, lk, D.ofV, D.cellsOf, InR.i64, InR.u8, ssL, tx, ix, Fact.c, Pair.c, Cond.c, Action.c, Rule.c, Token.c, Match.c, Alpha.c, Node.c, Network.c, Stamp.c, Firing.c, Choice.c, tagg_120, tel_80, tstr_80, tsz_120] <;> rfl) ?_)
      exact RetQ_ret (by simp only [Try.f49, resDs, resD, Int.reduceLE, Int.reduceLT, Int.reduceNeg, Int.reduceAdd, Int.reduceSub, Int.reduceToNat, Nat.reduceEqDiff, Nat.reduceLeDiff, Nat.reduceLT, Nat.reduceAdd, Nat.reduceSub, Nat.reduceMul, reduceIte, reduceCtorEq, pv, pbin, peq, plen, pload, pcut, pfill, St.ev, St.set, lk, D.ofV, D.cellsOf, InR.i64, InR.u8, ssL, tx, ix, Fact.c, Pair.c, Cond.c, Action.c, Rule.c, Token.c, Match.c, Alpha.c, Node.c, Network.c, Stamp.c, Firing.c, Choice.c, tagg_120, tel_80, tstr_80, tsz_120] <;> rfl) rfl (by simp only [packD]; rw [decide_eq_true hlm])

set_option linter.unusedSimpArgs false in
set_option maxRecDepth 100000 in
set_option maxHeartbeats 1000000 in
theorem eqChoice_good (x y : Choice) : Good Try.prog 50 [.agg x.c, .agg y.c] (.bool (decide (x = y))) := by
  refine Good.of Try.func50 rfl (by decide) (by simp [Try.f50]) ?_
  intro hr Γ hΓ
  have hΓ : Γ.nt = 32 := hΓ
  simp only [args0]
  by_cases c1 : x.mtch = y.mtch
  case neg =>
    have hc := eqMatch_good x.mtch y.mtch
    rw [decide_eq_false c1] at hc
    repeat' first
      | refine thenQ_normal ?_
      | refine thenQ_ret ?_
      | refine thenQ_exit ?_
      | refine blockQ_normal ?_
      | refine blockQ_ret ?_
      | refine blockQ_exit ?_
      | refine blockQ_pass rfl ?_
      | refine AW_seq ?_
      | refine AW_block ?_
      | refine AW_skip ?_
      | refine AW_ret ?_
      | refine AW_exit ?_
      | refine AW_region ?_
      | refine AO_nil ?_
      | refine C_nil ?_
      | (refine R_pv rfl rfl (by omega) (by simp only [Int.reduceLE, Int.reduceLT, Int.reduceNeg, Int.reduceAdd, Int.reduceSub, Int.reduceToNat, Nat.reduceEqDiff, Nat.reduceLeDiff, Nat.reduceLT, Nat.reduceAdd, Nat.reduceSub, Nat.reduceMul, reduceIte, reduceCtorEq, pv, pbin, peq, plen, pload, pcut, pfill, St.ev, St.set, lk, D.ofV, D.cellsOf, InR.i64, InR.u8, ssL, tx, ix, Fact.c, Pair.c, Cond.c, Action.c, Rule.c, Token.c, Match.c, Alpha.c, Node.c, Network.c, Stamp.c, Firing.c, Choice.c, tagg_3, tagg_50, tagg_56, tfo_83_0, tfo_83_1, tfo_83_2, tfo_83_3, tfo_83_4, tsz_3, tsz_50, tsz_56] <;> rfl) ?_)
      | (refine R_eff hΓ rfl (by simp only [peff, Int.reduceLE, Int.reduceLT, Int.reduceNeg, Int.reduceAdd, Int.reduceSub, Int.reduceToNat, Nat.reduceEqDiff, Nat.reduceLeDiff, Nat.reduceLT, Nat.reduceAdd, Nat.reduceSub, Nat.reduceMul, reduceIte, reduceCtorEq, pv, pbin, peq, plen, pload, pcut, pfill, St.ev, St.set, lk, D.ofV, D.cellsOf, InR.i64, InR.u8, ssL, tx, ix, Fact.c, Pair.c, Cond.c, Action.c, Rule.c, Token.c, Match.c, Alpha.c, Node.c, Network.c, Stamp.c, Firing.c, Choice.c, tagg_3, tagg_50, tagg_56, tfo_83_0, tfo_83_1, tfo_83_2, tfo_83_3, tfo_83_4, tsz_3, tsz_50, tsz_56] <;> rfl) ?_)
      | (refine R_call rfl rfl rfl (by omega) (by simp only [Int.reduceLE, Int.reduceLT, Int.reduceNeg, Int.reduceAdd, Int.reduceSub, Int.reduceToNat, Nat.reduceEqDiff, Nat.reduceLeDiff, Nat.reduceLT, Nat.reduceAdd, Nat.reduceSub, Nat.reduceMul, reduceIte, reduceCtorEq, pv, pbin, peq, plen, pload, pcut, pfill, St.ev, St.set, lk, D.ofV, D.cellsOf, InR.i64, InR.u8, ssL, tx, ix, Fact.c, Pair.c, Cond.c, Action.c, Rule.c, Token.c, Match.c, Alpha.c, Node.c, Network.c, Stamp.c, Firing.c, Choice.c, tagg_3, tagg_50, tagg_56, tfo_83_0, tfo_83_1, tfo_83_2, tfo_83_3, tfo_83_4, tsz_3, tsz_50, tsz_56] <;> rfl) (by rfl) (by exact hc) (by rfl) ?_)
    refine W_true (by simp only [Int.reduceLE, Int.reduceLT, Int.reduceNeg, Int.reduceAdd, Int.reduceSub, Int.reduceToNat, Nat.reduceEqDiff, Nat.reduceLeDiff, Nat.reduceLT, Nat.reduceAdd, Nat.reduceSub, Nat.reduceMul, reduceIte, reduceCtorEq, pv, pbin, peq, plen, pload, pcut, pfill, St.ev, St.set, lk, D.ofV, D.cellsOf, InR.i64, InR.u8, ssL, tx, ix, Fact.c, Pair.c, Cond.c, Action.c, Rule.c, Token.c, Match.c, Alpha.c, Node.c, Network.c, Stamp.c, Firing.c, Choice.c, tagg_3, tagg_50, tagg_56, tfo_83_0, tfo_83_1, tfo_83_2, tfo_83_3, tfo_83_4, tsz_3, tsz_50, tsz_56] <;> rfl) ?_
    repeat' first
      | refine thenQ_normal ?_
      | refine thenQ_ret ?_
      | refine thenQ_exit ?_
      | refine blockQ_normal ?_
      | refine blockQ_ret ?_
      | refine blockQ_exit ?_
      | refine blockQ_pass rfl ?_
      | refine AW_seq ?_
      | refine AW_block ?_
      | refine AW_skip ?_
      | refine AW_ret ?_
      | refine AW_exit ?_
      | refine AW_region ?_
      | refine AO_nil ?_
      | refine C_nil ?_
      | (refine R_pv rfl rfl (by omega) (by simp only [Int.reduceLE, Int.reduceLT, Int.reduceNeg, Int.reduceAdd, Int.reduceSub, Int.reduceToNat, Nat.reduceEqDiff, Nat.reduceLeDiff, Nat.reduceLT, Nat.reduceAdd, Nat.reduceSub, Nat.reduceMul, reduceIte, reduceCtorEq, pv, pbin, peq, plen, pload, pcut, pfill, St.ev, St.set, lk, D.ofV, D.cellsOf, InR.i64, InR.u8, ssL, tx, ix, Fact.c, Pair.c, Cond.c, Action.c, Rule.c, Token.c, Match.c, Alpha.c, Node.c, Network.c, Stamp.c, Firing.c, Choice.c, tagg_3, tagg_50, tagg_56, tfo_83_0, tfo_83_1, tfo_83_2, tfo_83_3, tfo_83_4, tsz_3, tsz_50, tsz_56] <;> rfl) ?_)
      | (refine R_eff hΓ rfl (by simp only [peff, Int.reduceLE, Int.reduceLT, Int.reduceNeg, Int.reduceAdd, Int.reduceSub, Int.reduceToNat, Nat.reduceEqDiff, Nat.reduceLeDiff, Nat.reduceLT, Nat.reduceAdd, Nat.reduceSub, Nat.reduceMul, reduceIte, reduceCtorEq, pv, pbin, peq, plen, pload, pcut, pfill, St.ev, St.set, lk, D.ofV, D.cellsOf, InR.i64, InR.u8, ssL, tx, ix, Fact.c, Pair.c, Cond.c, Action.c, Rule.c, Token.c, Match.c, Alpha.c, Node.c, Network.c, Stamp.c, Firing.c, Choice.c, tagg_3, tagg_50, tagg_56, tfo_83_0, tfo_83_1, tfo_83_2, tfo_83_3, tfo_83_4, tsz_3, tsz_50, tsz_56] <;> rfl) ?_)
    exact RetQ_ret (by simp only [Try.f50, resDs, resD, Int.reduceLE, Int.reduceLT, Int.reduceNeg, Int.reduceAdd, Int.reduceSub, Int.reduceToNat, Nat.reduceEqDiff, Nat.reduceLeDiff, Nat.reduceLT, Nat.reduceAdd, Nat.reduceSub, Nat.reduceMul, reduceIte, reduceCtorEq, pv, pbin, peq, plen, pload, pcut, pfill, St.ev, St.set, lk, D.ofV, D.cellsOf, InR.i64, InR.u8, ssL, tx, ix, Fact.c, Pair.c, Cond.c, Action.c, Rule.c, Token.c, Match.c, Alpha.c, Node.c, Network.c, Stamp.c, Firing.c, Choice.c, tagg_3, tagg_50, tagg_56, tfo_83_0, tfo_83_1, tfo_83_2, tfo_83_3, tfo_83_4, tsz_3, tsz_50, tsz_56] <;> rfl) rfl (by simp only [packD]; rw [decide_eq_false (fun h => c1 (by rw [h]))])
  have hc1 := eqMatch_good x.mtch y.mtch
  rw [decide_eq_true c1] at hc1
  repeat' first
    | refine thenQ_normal ?_
    | refine thenQ_ret ?_
    | refine thenQ_exit ?_
    | refine blockQ_normal ?_
    | refine blockQ_ret ?_
    | refine blockQ_exit ?_
    | refine blockQ_pass rfl ?_
    | refine AW_seq ?_
    | refine AW_block ?_
    | refine AW_skip ?_
    | refine AW_ret ?_
    | refine AW_exit ?_
    | refine AW_region ?_
    | refine AO_nil ?_
    | refine C_nil ?_
    | (refine R_pv rfl rfl (by omega) (by simp only [Int.reduceLE, Int.reduceLT, Int.reduceNeg, Int.reduceAdd, Int.reduceSub, Int.reduceToNat, Nat.reduceEqDiff, Nat.reduceLeDiff, Nat.reduceLT, Nat.reduceAdd, Nat.reduceSub, Nat.reduceMul, reduceIte, reduceCtorEq, pv, pbin, peq, plen, pload, pcut, pfill, St.ev, St.set, lk, D.ofV, D.cellsOf, InR.i64, InR.u8, ssL, tx, ix, Fact.c, Pair.c, Cond.c, Action.c, Rule.c, Token.c, Match.c, Alpha.c, Node.c, Network.c, Stamp.c, Firing.c, Choice.c, tagg_3, tagg_50, tagg_56, tfo_83_0, tfo_83_1, tfo_83_2, tfo_83_3, tfo_83_4, tsz_3, tsz_50, tsz_56] <;> rfl) ?_)
    | (refine R_eff hΓ rfl (by simp only [peff, Int.reduceLE, Int.reduceLT, Int.reduceNeg, Int.reduceAdd, Int.reduceSub, Int.reduceToNat, Nat.reduceEqDiff, Nat.reduceLeDiff, Nat.reduceLT, Nat.reduceAdd, Nat.reduceSub, Nat.reduceMul, reduceIte, reduceCtorEq, pv, pbin, peq, plen, pload, pcut, pfill, St.ev, St.set, lk, D.ofV, D.cellsOf, InR.i64, InR.u8, ssL, tx, ix, Fact.c, Pair.c, Cond.c, Action.c, Rule.c, Token.c, Match.c, Alpha.c, Node.c, Network.c, Stamp.c, Firing.c, Choice.c, tagg_3, tagg_50, tagg_56, tfo_83_0, tfo_83_1, tfo_83_2, tfo_83_3, tfo_83_4, tsz_3, tsz_50, tsz_56] <;> rfl) ?_)
    | (refine R_call rfl rfl rfl (by omega) (by simp only [Int.reduceLE, Int.reduceLT, Int.reduceNeg, Int.reduceAdd, Int.reduceSub, Int.reduceToNat, Nat.reduceEqDiff, Nat.reduceLeDiff, Nat.reduceLT, Nat.reduceAdd, Nat.reduceSub, Nat.reduceMul, reduceIte, reduceCtorEq, pv, pbin, peq, plen, pload, pcut, pfill, St.ev, St.set, lk, D.ofV, D.cellsOf, InR.i64, InR.u8, ssL, tx, ix, Fact.c, Pair.c, Cond.c, Action.c, Rule.c, Token.c, Match.c, Alpha.c, Node.c, Network.c, Stamp.c, Firing.c, Choice.c, tagg_3, tagg_50, tagg_56, tfo_83_0, tfo_83_1, tfo_83_2, tfo_83_3, tfo_83_4, tsz_3, tsz_50, tsz_56] <;> rfl) (by rfl) (by exact hc1) (by rfl) ?_)
  refine W_false (by simp only [Int.reduceLE, Int.reduceLT, Int.reduceNeg, Int.reduceAdd, Int.reduceSub, Int.reduceToNat, Nat.reduceEqDiff, Nat.reduceLeDiff, Nat.reduceLT, Nat.reduceAdd, Nat.reduceSub, Nat.reduceMul, reduceIte, reduceCtorEq, pv, pbin, peq, plen, pload, pcut, pfill, St.ev, St.set, lk, D.ofV, D.cellsOf, InR.i64, InR.u8, ssL, tx, ix, Fact.c, Pair.c, Cond.c, Action.c, Rule.c, Token.c, Match.c, Alpha.c, Node.c, Network.c, Stamp.c, Firing.c, Choice.c, tagg_3, tagg_50, tagg_56, tfo_83_0, tfo_83_1, tfo_83_2, tfo_83_3, tfo_83_4, tsz_3, tsz_50, tsz_56] <;> rfl) ?_
  by_cases c2 : x.prio = y.prio
  case neg =>
    have d2 : (x.prio != y.prio) = true := by simp [c2]
    repeat' first
      | refine thenQ_normal ?_
      | refine thenQ_ret ?_
      | refine thenQ_exit ?_
      | refine blockQ_normal ?_
      | refine blockQ_ret ?_
      | refine blockQ_exit ?_
      | refine blockQ_pass rfl ?_
      | refine AW_seq ?_
      | refine AW_block ?_
      | refine AW_skip ?_
      | refine AW_ret ?_
      | refine AW_exit ?_
      | refine AW_region ?_
      | refine AO_nil ?_
      | refine C_nil ?_
      | (refine R_pv rfl rfl (by omega) (by simp only [Int.reduceLE, Int.reduceLT, Int.reduceNeg, Int.reduceAdd, Int.reduceSub, Int.reduceToNat, Nat.reduceEqDiff, Nat.reduceLeDiff, Nat.reduceLT, Nat.reduceAdd, Nat.reduceSub, Nat.reduceMul, reduceIte, reduceCtorEq, pv, pbin, peq, plen, pload, pcut, pfill, St.ev, St.set, lk, D.ofV, D.cellsOf, InR.i64, InR.u8, ssL, tx, ix, Fact.c, Pair.c, Cond.c, Action.c, Rule.c, Token.c, Match.c, Alpha.c, Node.c, Network.c, Stamp.c, Firing.c, Choice.c, tagg_3, tagg_50, tagg_56, tfo_83_0, tfo_83_1, tfo_83_2, tfo_83_3, tfo_83_4, tsz_3, tsz_50, tsz_56, d2] <;> rfl) ?_)
      | (refine R_eff hΓ rfl (by simp only [peff, Int.reduceLE, Int.reduceLT, Int.reduceNeg, Int.reduceAdd, Int.reduceSub, Int.reduceToNat, Nat.reduceEqDiff, Nat.reduceLeDiff, Nat.reduceLT, Nat.reduceAdd, Nat.reduceSub, Nat.reduceMul, reduceIte, reduceCtorEq, pv, pbin, peq, plen, pload, pcut, pfill, St.ev, St.set, lk, D.ofV, D.cellsOf, InR.i64, InR.u8, ssL, tx, ix, Fact.c, Pair.c, Cond.c, Action.c, Rule.c, Token.c, Match.c, Alpha.c, Node.c, Network.c, Stamp.c, Firing.c, Choice.c, tagg_3, tagg_50, tagg_56, tfo_83_0, tfo_83_1, tfo_83_2, tfo_83_3, tfo_83_4, tsz_3, tsz_50, tsz_56, d2] <;> rfl) ?_)
    refine W_true (by simp only [Int.reduceLE, Int.reduceLT, Int.reduceNeg, Int.reduceAdd, Int.reduceSub, Int.reduceToNat, Nat.reduceEqDiff, Nat.reduceLeDiff, Nat.reduceLT, Nat.reduceAdd, Nat.reduceSub, Nat.reduceMul, reduceIte, reduceCtorEq, pv, pbin, peq, plen, pload, pcut, pfill, St.ev, St.set, lk, D.ofV, D.cellsOf, InR.i64, InR.u8, ssL, tx, ix, Fact.c, Pair.c, Cond.c, Action.c, Rule.c, Token.c, Match.c, Alpha.c, Node.c, Network.c, Stamp.c, Firing.c, Choice.c, tagg_3, tagg_50, tagg_56, tfo_83_0, tfo_83_1, tfo_83_2, tfo_83_3, tfo_83_4, tsz_3, tsz_50, tsz_56, d2] <;> rfl) ?_
    repeat' first
      | refine thenQ_normal ?_
      | refine thenQ_ret ?_
      | refine thenQ_exit ?_
      | refine blockQ_normal ?_
      | refine blockQ_ret ?_
      | refine blockQ_exit ?_
      | refine blockQ_pass rfl ?_
      | refine AW_seq ?_
      | refine AW_block ?_
      | refine AW_skip ?_
      | refine AW_ret ?_
      | refine AW_exit ?_
      | refine AW_region ?_
      | refine AO_nil ?_
      | refine C_nil ?_
      | (refine R_pv rfl rfl (by omega) (by simp only [Int.reduceLE, Int.reduceLT, Int.reduceNeg, Int.reduceAdd, Int.reduceSub, Int.reduceToNat, Nat.reduceEqDiff, Nat.reduceLeDiff, Nat.reduceLT, Nat.reduceAdd, Nat.reduceSub, Nat.reduceMul, reduceIte, reduceCtorEq, pv, pbin, peq, plen, pload, pcut, pfill, St.ev, St.set, lk, D.ofV, D.cellsOf, InR.i64, InR.u8, ssL, tx, ix, Fact.c, Pair.c, Cond.c, Action.c, Rule.c, Token.c, Match.c, Alpha.c, Node.c, Network.c, Stamp.c, Firing.c, Choice.c, tagg_3, tagg_50, tagg_56, tfo_83_0, tfo_83_1, tfo_83_2, tfo_83_3, tfo_83_4, tsz_3, tsz_50, tsz_56] <;> rfl) ?_)
      | (refine R_eff hΓ rfl (by simp only [peff, Int.reduceLE, Int.reduceLT, Int.reduceNeg, Int.reduceAdd, Int.reduceSub, Int.reduceToNat, Nat.reduceEqDiff, Nat.reduceLeDiff, Nat.reduceLT, Nat.reduceAdd, Nat.reduceSub, Nat.reduceMul, reduceIte, reduceCtorEq, pv, pbin, peq, plen, pload, pcut, pfill, St.ev, St.set, lk, D.ofV, D.cellsOf, InR.i64, InR.u8, ssL, tx, ix, Fact.c, Pair.c, Cond.c, Action.c, Rule.c, Token.c, Match.c, Alpha.c, Node.c, Network.c, Stamp.c, Firing.c, Choice.c, tagg_3, tagg_50, tagg_56, tfo_83_0, tfo_83_1, tfo_83_2, tfo_83_3, tfo_83_4, tsz_3, tsz_50, tsz_56] <;> rfl) ?_)
    exact RetQ_ret (by simp only [Try.f50, resDs, resD, Int.reduceLE, Int.reduceLT, Int.reduceNeg, Int.reduceAdd, Int.reduceSub, Int.reduceToNat, Nat.reduceEqDiff, Nat.reduceLeDiff, Nat.reduceLT, Nat.reduceAdd, Nat.reduceSub, Nat.reduceMul, reduceIte, reduceCtorEq, pv, pbin, peq, plen, pload, pcut, pfill, St.ev, St.set, lk, D.ofV, D.cellsOf, InR.i64, InR.u8, ssL, tx, ix, Fact.c, Pair.c, Cond.c, Action.c, Rule.c, Token.c, Match.c, Alpha.c, Node.c, Network.c, Stamp.c, Firing.c, Choice.c, tagg_3, tagg_50, tagg_56, tfo_83_0, tfo_83_1, tfo_83_2, tfo_83_3, tfo_83_4, tsz_3, tsz_50, tsz_56] <;> rfl) rfl (by simp only [packD]; rw [decide_eq_false (fun h => c2 (by rw [h]))])
  have d2 : (x.prio != y.prio) = false := by simp [c2]
  repeat' first
    | refine thenQ_normal ?_
    | refine thenQ_ret ?_
    | refine thenQ_exit ?_
    | refine blockQ_normal ?_
    | refine blockQ_ret ?_
    | refine blockQ_exit ?_
    | refine blockQ_pass rfl ?_
    | refine AW_seq ?_
    | refine AW_block ?_
    | refine AW_skip ?_
    | refine AW_ret ?_
    | refine AW_exit ?_
    | refine AW_region ?_
    | refine AO_nil ?_
    | refine C_nil ?_
    | (refine R_pv rfl rfl (by omega) (by simp only [Int.reduceLE, Int.reduceLT, Int.reduceNeg, Int.reduceAdd, Int.reduceSub, Int.reduceToNat, Nat.reduceEqDiff, Nat.reduceLeDiff, Nat.reduceLT, Nat.reduceAdd, Nat.reduceSub, Nat.reduceMul, reduceIte, reduceCtorEq, pv, pbin, peq, plen, pload, pcut, pfill, St.ev, St.set, lk, D.ofV, D.cellsOf, InR.i64, InR.u8, ssL, tx, ix, Fact.c, Pair.c, Cond.c, Action.c, Rule.c, Token.c, Match.c, Alpha.c, Node.c, Network.c, Stamp.c, Firing.c, Choice.c, tagg_3, tagg_50, tagg_56, tfo_83_0, tfo_83_1, tfo_83_2, tfo_83_3, tfo_83_4, tsz_3, tsz_50, tsz_56, d2] <;> rfl) ?_)
    | (refine R_eff hΓ rfl (by simp only [peff, Int.reduceLE, Int.reduceLT, Int.reduceNeg, Int.reduceAdd, Int.reduceSub, Int.reduceToNat, Nat.reduceEqDiff, Nat.reduceLeDiff, Nat.reduceLT, Nat.reduceAdd, Nat.reduceSub, Nat.reduceMul, reduceIte, reduceCtorEq, pv, pbin, peq, plen, pload, pcut, pfill, St.ev, St.set, lk, D.ofV, D.cellsOf, InR.i64, InR.u8, ssL, tx, ix, Fact.c, Pair.c, Cond.c, Action.c, Rule.c, Token.c, Match.c, Alpha.c, Node.c, Network.c, Stamp.c, Firing.c, Choice.c, tagg_3, tagg_50, tagg_56, tfo_83_0, tfo_83_1, tfo_83_2, tfo_83_3, tfo_83_4, tsz_3, tsz_50, tsz_56, d2] <;> rfl) ?_)
  refine W_false (by simp only [Int.reduceLE, Int.reduceLT, Int.reduceNeg, Int.reduceAdd, Int.reduceSub, Int.reduceToNat, Nat.reduceEqDiff, Nat.reduceLeDiff, Nat.reduceLT, Nat.reduceAdd, Nat.reduceSub, Nat.reduceMul, reduceIte, reduceCtorEq, pv, pbin, peq, plen, pload, pcut, pfill, St.ev, St.set, lk, D.ofV, D.cellsOf, InR.i64, InR.u8, ssL, tx, ix, Fact.c, Pair.c, Cond.c, Action.c, Rule.c, Token.c, Match.c, Alpha.c, Node.c, Network.c, Stamp.c, Firing.c, Choice.c, tagg_3, tagg_50, tagg_56, tfo_83_0, tfo_83_1, tfo_83_2, tfo_83_3, tfo_83_4, tsz_3, tsz_50, tsz_56, d2] <;> rfl) ?_
  by_cases c3 : x.times = y.times
  case neg =>
    have hc := eqIntS_good x.times y.times
    rw [decide_eq_false c3] at hc
    repeat' first
      | refine thenQ_normal ?_
      | refine thenQ_ret ?_
      | refine thenQ_exit ?_
      | refine blockQ_normal ?_
      | refine blockQ_ret ?_
      | refine blockQ_exit ?_
      | refine blockQ_pass rfl ?_
      | refine AW_seq ?_
      | refine AW_block ?_
      | refine AW_skip ?_
      | refine AW_ret ?_
      | refine AW_exit ?_
      | refine AW_region ?_
      | refine AO_nil ?_
      | refine C_nil ?_
      | (refine R_pv rfl rfl (by omega) (by simp only [Int.reduceLE, Int.reduceLT, Int.reduceNeg, Int.reduceAdd, Int.reduceSub, Int.reduceToNat, Nat.reduceEqDiff, Nat.reduceLeDiff, Nat.reduceLT, Nat.reduceAdd, Nat.reduceSub, Nat.reduceMul, reduceIte, reduceCtorEq, pv, pbin, peq, plen, pload, pcut, pfill, St.ev, St.set, lk, D.ofV, D.cellsOf, InR.i64, InR.u8, ssL, tx, ix, Fact.c, Pair.c, Cond.c, Action.c, Rule.c, Token.c, Match.c, Alpha.c, Node.c, Network.c, Stamp.c, Firing.c, Choice.c, tagg_3, tagg_50, tagg_56, tfo_83_0, tfo_83_1, tfo_83_2, tfo_83_3, tfo_83_4, tsz_3, tsz_50, tsz_56] <;> rfl) ?_)
      | (refine R_eff hΓ rfl (by simp only [peff, Int.reduceLE, Int.reduceLT, Int.reduceNeg, Int.reduceAdd, Int.reduceSub, Int.reduceToNat, Nat.reduceEqDiff, Nat.reduceLeDiff, Nat.reduceLT, Nat.reduceAdd, Nat.reduceSub, Nat.reduceMul, reduceIte, reduceCtorEq, pv, pbin, peq, plen, pload, pcut, pfill, St.ev, St.set, lk, D.ofV, D.cellsOf, InR.i64, InR.u8, ssL, tx, ix, Fact.c, Pair.c, Cond.c, Action.c, Rule.c, Token.c, Match.c, Alpha.c, Node.c, Network.c, Stamp.c, Firing.c, Choice.c, tagg_3, tagg_50, tagg_56, tfo_83_0, tfo_83_1, tfo_83_2, tfo_83_3, tfo_83_4, tsz_3, tsz_50, tsz_56] <;> rfl) ?_)
      | (refine R_call rfl rfl rfl (by omega) (by simp only [Int.reduceLE, Int.reduceLT, Int.reduceNeg, Int.reduceAdd, Int.reduceSub, Int.reduceToNat, Nat.reduceEqDiff, Nat.reduceLeDiff, Nat.reduceLT, Nat.reduceAdd, Nat.reduceSub, Nat.reduceMul, reduceIte, reduceCtorEq, pv, pbin, peq, plen, pload, pcut, pfill, St.ev, St.set, lk, D.ofV, D.cellsOf, InR.i64, InR.u8, ssL, tx, ix, Fact.c, Pair.c, Cond.c, Action.c, Rule.c, Token.c, Match.c, Alpha.c, Node.c, Network.c, Stamp.c, Firing.c, Choice.c, tagg_3, tagg_50, tagg_56, tfo_83_0, tfo_83_1, tfo_83_2, tfo_83_3, tfo_83_4, tsz_3, tsz_50, tsz_56] <;> rfl) (by rfl) (by exact hc) (by rfl) ?_)
    refine W_true (by simp only [Int.reduceLE, Int.reduceLT, Int.reduceNeg, Int.reduceAdd, Int.reduceSub, Int.reduceToNat, Nat.reduceEqDiff, Nat.reduceLeDiff, Nat.reduceLT, Nat.reduceAdd, Nat.reduceSub, Nat.reduceMul, reduceIte, reduceCtorEq, pv, pbin, peq, plen, pload, pcut, pfill, St.ev, St.set, lk, D.ofV, D.cellsOf, InR.i64, InR.u8, ssL, tx, ix, Fact.c, Pair.c, Cond.c, Action.c, Rule.c, Token.c, Match.c, Alpha.c, Node.c, Network.c, Stamp.c, Firing.c, Choice.c, tagg_3, tagg_50, tagg_56, tfo_83_0, tfo_83_1, tfo_83_2, tfo_83_3, tfo_83_4, tsz_3, tsz_50, tsz_56] <;> rfl) ?_
    repeat' first
      | refine thenQ_normal ?_
      | refine thenQ_ret ?_
      | refine thenQ_exit ?_
      | refine blockQ_normal ?_
      | refine blockQ_ret ?_
      | refine blockQ_exit ?_
      | refine blockQ_pass rfl ?_
      | refine AW_seq ?_
      | refine AW_block ?_
      | refine AW_skip ?_
      | refine AW_ret ?_
      | refine AW_exit ?_
      | refine AW_region ?_
      | refine AO_nil ?_
      | refine C_nil ?_
      | (refine R_pv rfl rfl (by omega) (by simp only [Int.reduceLE, Int.reduceLT, Int.reduceNeg, Int.reduceAdd, Int.reduceSub, Int.reduceToNat, Nat.reduceEqDiff, Nat.reduceLeDiff, Nat.reduceLT, Nat.reduceAdd, Nat.reduceSub, Nat.reduceMul, reduceIte, reduceCtorEq, pv, pbin, peq, plen, pload, pcut, pfill, St.ev, St.set, lk, D.ofV, D.cellsOf, InR.i64, InR.u8, ssL, tx, ix, Fact.c, Pair.c, Cond.c, Action.c, Rule.c, Token.c, Match.c, Alpha.c, Node.c, Network.c, Stamp.c, Firing.c, Choice.c, tagg_3, tagg_50, tagg_56, tfo_83_0, tfo_83_1, tfo_83_2, tfo_83_3, tfo_83_4, tsz_3, tsz_50, tsz_56] <;> rfl) ?_)
      | (refine R_eff hΓ rfl (by simp only [peff, Int.reduceLE, Int.reduceLT, Int.reduceNeg, Int.reduceAdd, Int.reduceSub, Int.reduceToNat, Nat.reduceEqDiff, Nat.reduceLeDiff, Nat.reduceLT, Nat.reduceAdd, Nat.reduceSub, Nat.reduceMul, reduceIte, reduceCtorEq, pv, pbin, peq, plen, pload, pcut, pfill, St.ev, St.set, lk, D.ofV, D.cellsOf, InR.i64, InR.u8, ssL, tx, ix, Fact.c, Pair.c, Cond.c, Action.c, Rule.c, Token.c, Match.c, Alpha.c, Node.c, Network.c, Stamp.c, Firing.c, Choice.c, tagg_3, tagg_50, tagg_56, tfo_83_0, tfo_83_1, tfo_83_2, tfo_83_3, tfo_83_4, tsz_3, tsz_50, tsz_56] <;> rfl) ?_)
    exact RetQ_ret (by simp only [Try.f50, resDs, resD, Int.reduceLE, Int.reduceLT, Int.reduceNeg, Int.reduceAdd, Int.reduceSub, Int.reduceToNat, Nat.reduceEqDiff, Nat.reduceLeDiff, Nat.reduceLT, Nat.reduceAdd, Nat.reduceSub, Nat.reduceMul, reduceIte, reduceCtorEq, pv, pbin, peq, plen, pload, pcut, pfill, St.ev, St.set, lk, D.ofV, D.cellsOf, InR.i64, InR.u8, ssL, tx, ix, Fact.c, Pair.c, Cond.c, Action.c, Rule.c, Token.c, Match.c, Alpha.c, Node.c, Network.c, Stamp.c, Firing.c, Choice.c, tagg_3, tagg_50, tagg_56, tfo_83_0, tfo_83_1, tfo_83_2, tfo_83_3, tfo_83_4, tsz_3, tsz_50, tsz_56] <;> rfl) rfl (by simp only [packD]; rw [decide_eq_false (fun h => c3 (by rw [h]))])
  have hc3 := eqIntS_good x.times y.times
  rw [decide_eq_true c3] at hc3
  repeat' first
    | refine thenQ_normal ?_
    | refine thenQ_ret ?_
    | refine thenQ_exit ?_
    | refine blockQ_normal ?_
    | refine blockQ_ret ?_
    | refine blockQ_exit ?_
    | refine blockQ_pass rfl ?_
    | refine AW_seq ?_
    | refine AW_block ?_
    | refine AW_skip ?_
    | refine AW_ret ?_
    | refine AW_exit ?_
    | refine AW_region ?_
    | refine AO_nil ?_
    | refine C_nil ?_
    | (refine R_pv rfl rfl (by omega) (by simp only [Int.reduceLE, Int.reduceLT, Int.reduceNeg, Int.reduceAdd, Int.reduceSub, Int.reduceToNat, Nat.reduceEqDiff, Nat.reduceLeDiff, Nat.reduceLT, Nat.reduceAdd, Nat.reduceSub, Nat.reduceMul, reduceIte, reduceCtorEq, pv, pbin, peq, plen, pload, pcut, pfill, St.ev, St.set, lk, D.ofV, D.cellsOf, InR.i64, InR.u8, ssL, tx, ix, Fact.c, Pair.c, Cond.c, Action.c, Rule.c, Token.c, Match.c, Alpha.c, Node.c, Network.c, Stamp.c, Firing.c, Choice.c, tagg_3, tagg_50, tagg_56, tfo_83_0, tfo_83_1, tfo_83_2, tfo_83_3, tfo_83_4, tsz_3, tsz_50, tsz_56] <;> rfl) ?_)
    | (refine R_eff hΓ rfl (by simp only [peff, Int.reduceLE, Int.reduceLT, Int.reduceNeg, Int.reduceAdd, Int.reduceSub, Int.reduceToNat, Nat.reduceEqDiff, Nat.reduceLeDiff, Nat.reduceLT, Nat.reduceAdd, Nat.reduceSub, Nat.reduceMul, reduceIte, reduceCtorEq, pv, pbin, peq, plen, pload, pcut, pfill, St.ev, St.set, lk, D.ofV, D.cellsOf, InR.i64, InR.u8, ssL, tx, ix, Fact.c, Pair.c, Cond.c, Action.c, Rule.c, Token.c, Match.c, Alpha.c, Node.c, Network.c, Stamp.c, Firing.c, Choice.c, tagg_3, tagg_50, tagg_56, tfo_83_0, tfo_83_1, tfo_83_2, tfo_83_3, tfo_83_4, tsz_3, tsz_50, tsz_56] <;> rfl) ?_)
    | (refine R_call rfl rfl rfl (by omega) (by simp only [Int.reduceLE, Int.reduceLT, Int.reduceNeg, Int.reduceAdd, Int.reduceSub, Int.reduceToNat, Nat.reduceEqDiff, Nat.reduceLeDiff, Nat.reduceLT, Nat.reduceAdd, Nat.reduceSub, Nat.reduceMul, reduceIte, reduceCtorEq, pv, pbin, peq, plen, pload, pcut, pfill, St.ev, St.set, lk, D.ofV, D.cellsOf, InR.i64, InR.u8, ssL, tx, ix, Fact.c, Pair.c, Cond.c, Action.c, Rule.c, Token.c, Match.c, Alpha.c, Node.c, Network.c, Stamp.c, Firing.c, Choice.c, tagg_3, tagg_50, tagg_56, tfo_83_0, tfo_83_1, tfo_83_2, tfo_83_3, tfo_83_4, tsz_3, tsz_50, tsz_56] <;> rfl) (by rfl) (by exact hc3) (by rfl) ?_)
  refine W_false (by simp only [Int.reduceLE, Int.reduceLT, Int.reduceNeg, Int.reduceAdd, Int.reduceSub, Int.reduceToNat, Nat.reduceEqDiff, Nat.reduceLeDiff, Nat.reduceLT, Nat.reduceAdd, Nat.reduceSub, Nat.reduceMul, reduceIte, reduceCtorEq, pv, pbin, peq, plen, pload, pcut, pfill, St.ev, St.set, lk, D.ofV, D.cellsOf, InR.i64, InR.u8, ssL, tx, ix, Fact.c, Pair.c, Cond.c, Action.c, Rule.c, Token.c, Match.c, Alpha.c, Node.c, Network.c, Stamp.c, Firing.c, Choice.c, tagg_3, tagg_50, tagg_56, tfo_83_0, tfo_83_1, tfo_83_2, tfo_83_3, tfo_83_4, tsz_3, tsz_50, tsz_56] <;> rfl) ?_
  by_cases c4 : x.spec = y.spec
  case neg =>
    have d4 : (x.spec != y.spec) = true := by simp [c4]
    repeat' first
      | refine thenQ_normal ?_
      | refine thenQ_ret ?_
      | refine thenQ_exit ?_
      | refine blockQ_normal ?_
      | refine blockQ_ret ?_
      | refine blockQ_exit ?_
      | refine blockQ_pass rfl ?_
      | refine AW_seq ?_
      | refine AW_block ?_
      | refine AW_skip ?_
      | refine AW_ret ?_
      | refine AW_exit ?_
      | refine AW_region ?_
      | refine AO_nil ?_
      | refine C_nil ?_
      | (refine R_pv rfl rfl (by omega) (by simp only [Int.reduceLE, Int.reduceLT, Int.reduceNeg, Int.reduceAdd, Int.reduceSub, Int.reduceToNat, Nat.reduceEqDiff, Nat.reduceLeDiff, Nat.reduceLT, Nat.reduceAdd, Nat.reduceSub, Nat.reduceMul, reduceIte, reduceCtorEq, pv, pbin, peq, plen, pload, pcut, pfill, St.ev, St.set, lk, D.ofV, D.cellsOf, InR.i64, InR.u8, ssL, tx, ix, Fact.c, Pair.c, Cond.c, Action.c, Rule.c, Token.c, Match.c, Alpha.c, Node.c, Network.c, Stamp.c, Firing.c, Choice.c, tagg_3, tagg_50, tagg_56, tfo_83_0, tfo_83_1, tfo_83_2, tfo_83_3, tfo_83_4, tsz_3, tsz_50, tsz_56, d4] <;> rfl) ?_)
      | (refine R_eff hΓ rfl (by simp only [peff, Int.reduceLE, Int.reduceLT, Int.reduceNeg, Int.reduceAdd, Int.reduceSub, Int.reduceToNat, Nat.reduceEqDiff, Nat.reduceLeDiff, Nat.reduceLT, Nat.reduceAdd, Nat.reduceSub, Nat.reduceMul, reduceIte, reduceCtorEq, pv, pbin, peq, plen, pload, pcut, pfill, St.ev, St.set, lk, D.ofV, D.cellsOf, InR.i64, InR.u8, ssL, tx, ix, Fact.c, Pair.c, Cond.c, Action.c, Rule.c, Token.c, Match.c, Alpha.c, Node.c, Network.c, Stamp.c, Firing.c, Choice.c, tagg_3, tagg_50, tagg_56, tfo_83_0, tfo_83_1, tfo_83_2, tfo_83_3, tfo_83_4, tsz_3, tsz_50, tsz_56, d4] <;> rfl) ?_)
    refine W_true (by simp only [Int.reduceLE, Int.reduceLT, Int.reduceNeg, Int.reduceAdd, Int.reduceSub, Int.reduceToNat, Nat.reduceEqDiff, Nat.reduceLeDiff, Nat.reduceLT, Nat.reduceAdd, Nat.reduceSub, Nat.reduceMul, reduceIte, reduceCtorEq, pv, pbin, peq, plen, pload, pcut, pfill, St.ev, St.set, lk, D.ofV, D.cellsOf, InR.i64, InR.u8, ssL, tx, ix, Fact.c, Pair.c, Cond.c, Action.c, Rule.c, Token.c, Match.c, Alpha.c, Node.c, Network.c, Stamp.c, Firing.c, Choice.c, tagg_3, tagg_50, tagg_56, tfo_83_0, tfo_83_1, tfo_83_2, tfo_83_3, tfo_83_4, tsz_3, tsz_50, tsz_56, d4] <;> rfl) ?_
    repeat' first
      | refine thenQ_normal ?_
      | refine thenQ_ret ?_
      | refine thenQ_exit ?_
      | refine blockQ_normal ?_
      | refine blockQ_ret ?_
      | refine blockQ_exit ?_
      | refine blockQ_pass rfl ?_
      | refine AW_seq ?_
      | refine AW_block ?_
      | refine AW_skip ?_
      | refine AW_ret ?_
      | refine AW_exit ?_
      | refine AW_region ?_
      | refine AO_nil ?_
      | refine C_nil ?_
      | (refine R_pv rfl rfl (by omega) (by simp only [Int.reduceLE, Int.reduceLT, Int.reduceNeg, Int.reduceAdd, Int.reduceSub, Int.reduceToNat, Nat.reduceEqDiff, Nat.reduceLeDiff, Nat.reduceLT, Nat.reduceAdd, Nat.reduceSub, Nat.reduceMul, reduceIte, reduceCtorEq, pv, pbin, peq, plen, pload, pcut, pfill, St.ev, St.set, lk, D.ofV, D.cellsOf, InR.i64, InR.u8, ssL, tx, ix, Fact.c, Pair.c, Cond.c, Action.c, Rule.c, Token.c, Match.c, Alpha.c, Node.c, Network.c, Stamp.c, Firing.c, Choice.c, tagg_3, tagg_50, tagg_56, tfo_83_0, tfo_83_1, tfo_83_2, tfo_83_3, tfo_83_4, tsz_3, tsz_50, tsz_56] <;> rfl) ?_)
      | (refine R_eff hΓ rfl (by simp only [peff, Int.reduceLE, Int.reduceLT, Int.reduceNeg, Int.reduceAdd, Int.reduceSub, Int.reduceToNat, Nat.reduceEqDiff, Nat.reduceLeDiff, Nat.reduceLT, Nat.reduceAdd, Nat.reduceSub, Nat.reduceMul, reduceIte, reduceCtorEq, pv, pbin, peq, plen, pload, pcut, pfill, St.ev, St.set, lk, D.ofV, D.cellsOf, InR.i64, InR.u8, ssL, tx, ix, Fact.c, Pair.c, Cond.c, Action.c, Rule.c, Token.c, Match.c, Alpha.c, Node.c, Network.c, Stamp.c, Firing.c, Choice.c, tagg_3, tagg_50, tagg_56, tfo_83_0, tfo_83_1, tfo_83_2, tfo_83_3, tfo_83_4, tsz_3, tsz_50, tsz_56] <;> rfl) ?_)
    exact RetQ_ret (by simp only [Try.f50, resDs, resD, Int.reduceLE, Int.reduceLT, Int.reduceNeg, Int.reduceAdd, Int.reduceSub, Int.reduceToNat, Nat.reduceEqDiff, Nat.reduceLeDiff, Nat.reduceLT, Nat.reduceAdd, Nat.reduceSub, Nat.reduceMul, reduceIte, reduceCtorEq, pv, pbin, peq, plen, pload, pcut, pfill, St.ev, St.set, lk, D.ofV, D.cellsOf, InR.i64, InR.u8, ssL, tx, ix, Fact.c, Pair.c, Cond.c, Action.c, Rule.c, Token.c, Match.c, Alpha.c, Node.c, Network.c, Stamp.c, Firing.c, Choice.c, tagg_3, tagg_50, tagg_56, tfo_83_0, tfo_83_1, tfo_83_2, tfo_83_3, tfo_83_4, tsz_3, tsz_50, tsz_56] <;> rfl) rfl (by simp only [packD]; rw [decide_eq_false (fun h => c4 (by rw [h]))])
  have d4 : (x.spec != y.spec) = false := by simp [c4]
  repeat' first
    | refine thenQ_normal ?_
    | refine thenQ_ret ?_
    | refine thenQ_exit ?_
    | refine blockQ_normal ?_
    | refine blockQ_ret ?_
    | refine blockQ_exit ?_
    | refine blockQ_pass rfl ?_
    | refine AW_seq ?_
    | refine AW_block ?_
    | refine AW_skip ?_
    | refine AW_ret ?_
    | refine AW_exit ?_
    | refine AW_region ?_
    | refine AO_nil ?_
    | refine C_nil ?_
    | (refine R_pv rfl rfl (by omega) (by simp only [Int.reduceLE, Int.reduceLT, Int.reduceNeg, Int.reduceAdd, Int.reduceSub, Int.reduceToNat, Nat.reduceEqDiff, Nat.reduceLeDiff, Nat.reduceLT, Nat.reduceAdd, Nat.reduceSub, Nat.reduceMul, reduceIte, reduceCtorEq, pv, pbin, peq, plen, pload, pcut, pfill, St.ev, St.set, lk, D.ofV, D.cellsOf, InR.i64, InR.u8, ssL, tx, ix, Fact.c, Pair.c, Cond.c, Action.c, Rule.c, Token.c, Match.c, Alpha.c, Node.c, Network.c, Stamp.c, Firing.c, Choice.c, tagg_3, tagg_50, tagg_56, tfo_83_0, tfo_83_1, tfo_83_2, tfo_83_3, tfo_83_4, tsz_3, tsz_50, tsz_56, d4] <;> rfl) ?_)
    | (refine R_eff hΓ rfl (by simp only [peff, Int.reduceLE, Int.reduceLT, Int.reduceNeg, Int.reduceAdd, Int.reduceSub, Int.reduceToNat, Nat.reduceEqDiff, Nat.reduceLeDiff, Nat.reduceLT, Nat.reduceAdd, Nat.reduceSub, Nat.reduceMul, reduceIte, reduceCtorEq, pv, pbin, peq, plen, pload, pcut, pfill, St.ev, St.set, lk, D.ofV, D.cellsOf, InR.i64, InR.u8, ssL, tx, ix, Fact.c, Pair.c, Cond.c, Action.c, Rule.c, Token.c, Match.c, Alpha.c, Node.c, Network.c, Stamp.c, Firing.c, Choice.c, tagg_3, tagg_50, tagg_56, tfo_83_0, tfo_83_1, tfo_83_2, tfo_83_3, tfo_83_4, tsz_3, tsz_50, tsz_56, d4] <;> rfl) ?_)
  refine W_false (by simp only [Int.reduceLE, Int.reduceLT, Int.reduceNeg, Int.reduceAdd, Int.reduceSub, Int.reduceToNat, Nat.reduceEqDiff, Nat.reduceLeDiff, Nat.reduceLT, Nat.reduceAdd, Nat.reduceSub, Nat.reduceMul, reduceIte, reduceCtorEq, pv, pbin, peq, plen, pload, pcut, pfill, St.ev, St.set, lk, D.ofV, D.cellsOf, InR.i64, InR.u8, ssL, tx, ix, Fact.c, Pair.c, Cond.c, Action.c, Rule.c, Token.c, Match.c, Alpha.c, Node.c, Network.c, Stamp.c, Firing.c, Choice.c, tagg_3, tagg_50, tagg_56, tfo_83_0, tfo_83_1, tfo_83_2, tfo_83_3, tfo_83_4, tsz_3, tsz_50, tsz_56, d4] <;> rfl) ?_
  by_cases c5 : x.order = y.order
  case neg =>
    have d5 : (x.order != y.order) = true := by simp [c5]
    repeat' first
      | refine thenQ_normal ?_
      | refine thenQ_ret ?_
      | refine thenQ_exit ?_
      | refine blockQ_normal ?_
      | refine blockQ_ret ?_
      | refine blockQ_exit ?_
      | refine blockQ_pass rfl ?_
      | refine AW_seq ?_
      | refine AW_block ?_
      | refine AW_skip ?_
      | refine AW_ret ?_
      | refine AW_exit ?_
      | refine AW_region ?_
      | refine AO_nil ?_
      | refine C_nil ?_
      | (refine R_pv rfl rfl (by omega) (by simp only [Int.reduceLE, Int.reduceLT, Int.reduceNeg, Int.reduceAdd, Int.reduceSub, Int.reduceToNat, Nat.reduceEqDiff, Nat.reduceLeDiff, Nat.reduceLT, Nat.reduceAdd, Nat.reduceSub, Nat.reduceMul, reduceIte, reduceCtorEq, pv, pbin, peq, plen, pload, pcut, pfill, St.ev, St.set, lk, D.ofV, D.cellsOf, InR.i64, InR.u8, ssL, tx, ix, Fact.c, Pair.c, Cond.c, Action.c, Rule.c, Token.c, Match.c, Alpha.c, Node.c, Network.c, Stamp.c, Firing.c, Choice.c, tagg_3, tagg_50, tagg_56, tfo_83_0, tfo_83_1, tfo_83_2, tfo_83_3, tfo_83_4, tsz_3, tsz_50, tsz_56, d5] <;> rfl) ?_)
      | (refine R_eff hΓ rfl (by simp only [peff, Int.reduceLE, Int.reduceLT, Int.reduceNeg, Int.reduceAdd, Int.reduceSub, Int.reduceToNat, Nat.reduceEqDiff, Nat.reduceLeDiff, Nat.reduceLT, Nat.reduceAdd, Nat.reduceSub, Nat.reduceMul, reduceIte, reduceCtorEq, pv, pbin, peq, plen, pload, pcut, pfill, St.ev, St.set, lk, D.ofV, D.cellsOf, InR.i64, InR.u8, ssL, tx, ix, Fact.c, Pair.c, Cond.c, Action.c, Rule.c, Token.c, Match.c, Alpha.c, Node.c, Network.c, Stamp.c, Firing.c, Choice.c, tagg_3, tagg_50, tagg_56, tfo_83_0, tfo_83_1, tfo_83_2, tfo_83_3, tfo_83_4, tsz_3, tsz_50, tsz_56, d5] <;> rfl) ?_)
    refine W_true (by simp only [Int.reduceLE, Int.reduceLT, Int.reduceNeg, Int.reduceAdd, Int.reduceSub, Int.reduceToNat, Nat.reduceEqDiff, Nat.reduceLeDiff, Nat.reduceLT, Nat.reduceAdd, Nat.reduceSub, Nat.reduceMul, reduceIte, reduceCtorEq, pv, pbin, peq, plen, pload, pcut, pfill, St.ev, St.set, lk, D.ofV, D.cellsOf, InR.i64, InR.u8, ssL, tx, ix, Fact.c, Pair.c, Cond.c, Action.c, Rule.c, Token.c, Match.c, Alpha.c, Node.c, Network.c, Stamp.c, Firing.c, Choice.c, tagg_3, tagg_50, tagg_56, tfo_83_0, tfo_83_1, tfo_83_2, tfo_83_3, tfo_83_4, tsz_3, tsz_50, tsz_56, d5] <;> rfl) ?_
    repeat' first
      | refine thenQ_normal ?_
      | refine thenQ_ret ?_
      | refine thenQ_exit ?_
      | refine blockQ_normal ?_
      | refine blockQ_ret ?_
      | refine blockQ_exit ?_
      | refine blockQ_pass rfl ?_
      | refine AW_seq ?_
      | refine AW_block ?_
      | refine AW_skip ?_
      | refine AW_ret ?_
      | refine AW_exit ?_
      | refine AW_region ?_
      | refine AO_nil ?_
      | refine C_nil ?_
      | (refine R_pv rfl rfl (by omega) (by simp only [Int.reduceLE, Int.reduceLT, Int.reduceNeg, Int.reduceAdd, Int.reduceSub, Int.reduceToNat, Nat.reduceEqDiff, Nat.reduceLeDiff, Nat.reduceLT, Nat.reduceAdd, Nat.reduceSub, Nat.reduceMul, reduceIte, reduceCtorEq, pv, pbin, peq, plen, pload, pcut, pfill, St.ev, St.set, lk, D.ofV, D.cellsOf, InR.i64, InR.u8, ssL, tx, ix, Fact.c, Pair.c, Cond.c, Action.c, Rule.c, Token.c, Match.c, Alpha.c, Node.c, Network.c, Stamp.c, Firing.c, Choice.c, tagg_3, tagg_50, tagg_56, tfo_83_0, tfo_83_1, tfo_83_2, tfo_83_3, tfo_83_4, tsz_3, tsz_50, tsz_56] <;> rfl) ?_)
      | (refine R_eff hΓ rfl (by simp only [peff, Int.reduceLE, Int.reduceLT, Int.reduceNeg, Int.reduceAdd, Int.reduceSub, Int.reduceToNat, Nat.reduceEqDiff, Nat.reduceLeDiff, Nat.reduceLT, Nat.reduceAdd, Nat.reduceSub, Nat.reduceMul, reduceIte, reduceCtorEq, pv, pbin, peq, plen, pload, pcut, pfill, St.ev, St.set, lk, D.ofV, D.cellsOf, InR.i64, InR.u8, ssL, tx, ix, Fact.c, Pair.c, Cond.c, Action.c, Rule.c, Token.c, Match.c, Alpha.c, Node.c, Network.c, Stamp.c, Firing.c, Choice.c, tagg_3, tagg_50, tagg_56, tfo_83_0, tfo_83_1, tfo_83_2, tfo_83_3, tfo_83_4, tsz_3, tsz_50, tsz_56] <;> rfl) ?_)
    exact RetQ_ret (by simp only [Try.f50, resDs, resD, Int.reduceLE, Int.reduceLT, Int.reduceNeg, Int.reduceAdd, Int.reduceSub, Int.reduceToNat, Nat.reduceEqDiff, Nat.reduceLeDiff, Nat.reduceLT, Nat.reduceAdd, Nat.reduceSub, Nat.reduceMul, reduceIte, reduceCtorEq, pv, pbin, peq, plen, pload, pcut, pfill, St.ev, St.set, lk, D.ofV, D.cellsOf, InR.i64, InR.u8, ssL, tx, ix, Fact.c, Pair.c, Cond.c, Action.c, Rule.c, Token.c, Match.c, Alpha.c, Node.c, Network.c, Stamp.c, Firing.c, Choice.c, tagg_3, tagg_50, tagg_56, tfo_83_0, tfo_83_1, tfo_83_2, tfo_83_3, tfo_83_4, tsz_3, tsz_50, tsz_56] <;> rfl) rfl (by simp only [packD]; rw [decide_eq_false (fun h => c5 (by rw [h]))])
  have d5 : (x.order != y.order) = false := by simp [c5]
  repeat' first
    | refine thenQ_normal ?_
    | refine thenQ_ret ?_
    | refine thenQ_exit ?_
    | refine blockQ_normal ?_
    | refine blockQ_ret ?_
    | refine blockQ_exit ?_
    | refine blockQ_pass rfl ?_
    | refine AW_seq ?_
    | refine AW_block ?_
    | refine AW_skip ?_
    | refine AW_ret ?_
    | refine AW_exit ?_
    | refine AW_region ?_
    | refine AO_nil ?_
    | refine C_nil ?_
    | (refine R_pv rfl rfl (by omega) (by simp only [Int.reduceLE, Int.reduceLT, Int.reduceNeg, Int.reduceAdd, Int.reduceSub, Int.reduceToNat, Nat.reduceEqDiff, Nat.reduceLeDiff, Nat.reduceLT, Nat.reduceAdd, Nat.reduceSub, Nat.reduceMul, reduceIte, reduceCtorEq, pv, pbin, peq, plen, pload, pcut, pfill, St.ev, St.set, lk, D.ofV, D.cellsOf, InR.i64, InR.u8, ssL, tx, ix, Fact.c, Pair.c, Cond.c, Action.c, Rule.c, Token.c, Match.c, Alpha.c, Node.c, Network.c, Stamp.c, Firing.c, Choice.c, tagg_3, tagg_50, tagg_56, tfo_83_0, tfo_83_1, tfo_83_2, tfo_83_3, tfo_83_4, tsz_3, tsz_50, tsz_56, d5] <;> rfl) ?_)
    | (refine R_eff hΓ rfl (by simp only [peff, Int.reduceLE, Int.reduceLT, Int.reduceNeg, Int.reduceAdd, Int.reduceSub, Int.reduceToNat, Nat.reduceEqDiff, Nat.reduceLeDiff, Nat.reduceLT, Nat.reduceAdd, Nat.reduceSub, Nat.reduceMul, reduceIte, reduceCtorEq, pv, pbin, peq, plen, pload, pcut, pfill, St.ev, St.set, lk, D.ofV, D.cellsOf, InR.i64, InR.u8, ssL, tx, ix, Fact.c, Pair.c, Cond.c, Action.c, Rule.c, Token.c, Match.c, Alpha.c, Node.c, Network.c, Stamp.c, Firing.c, Choice.c, tagg_3, tagg_50, tagg_56, tfo_83_0, tfo_83_1, tfo_83_2, tfo_83_3, tfo_83_4, tsz_3, tsz_50, tsz_56, d5] <;> rfl) ?_)
  refine W_false (by simp only [Int.reduceLE, Int.reduceLT, Int.reduceNeg, Int.reduceAdd, Int.reduceSub, Int.reduceToNat, Nat.reduceEqDiff, Nat.reduceLeDiff, Nat.reduceLT, Nat.reduceAdd, Nat.reduceSub, Nat.reduceMul, reduceIte, reduceCtorEq, pv, pbin, peq, plen, pload, pcut, pfill, St.ev, St.set, lk, D.ofV, D.cellsOf, InR.i64, InR.u8, ssL, tx, ix, Fact.c, Pair.c, Cond.c, Action.c, Rule.c, Token.c, Match.c, Alpha.c, Node.c, Network.c, Stamp.c, Firing.c, Choice.c, tagg_3, tagg_50, tagg_56, tfo_83_0, tfo_83_1, tfo_83_2, tfo_83_3, tfo_83_4, tsz_3, tsz_50, tsz_56, d5] <;> rfl) ?_
  repeat' first
    | refine thenQ_normal ?_
    | refine thenQ_ret ?_
    | refine thenQ_exit ?_
    | refine blockQ_normal ?_
    | refine blockQ_ret ?_
    | refine blockQ_exit ?_
    | refine blockQ_pass rfl ?_
    | refine AW_seq ?_
    | refine AW_block ?_
    | refine AW_skip ?_
    | refine AW_ret ?_
    | refine AW_exit ?_
    | refine AW_region ?_
    | refine AO_nil ?_
    | refine C_nil ?_
    | (refine R_pv rfl rfl (by omega) (by simp only [Int.reduceLE, Int.reduceLT, Int.reduceNeg, Int.reduceAdd, Int.reduceSub, Int.reduceToNat, Nat.reduceEqDiff, Nat.reduceLeDiff, Nat.reduceLT, Nat.reduceAdd, Nat.reduceSub, Nat.reduceMul, reduceIte, reduceCtorEq, pv, pbin, peq, plen, pload, pcut, pfill, St.ev, St.set, lk, D.ofV, D.cellsOf, InR.i64, InR.u8, ssL, tx, ix, Fact.c, Pair.c, Cond.c, Action.c, Rule.c, Token.c, Match.c, Alpha.c, Node.c, Network.c, Stamp.c, Firing.c, Choice.c, tagg_3, tagg_50, tagg_56, tfo_83_0, tfo_83_1, tfo_83_2, tfo_83_3, tfo_83_4, tsz_3, tsz_50, tsz_56] <;> rfl) ?_)
    | (refine R_eff hΓ rfl (by simp only [peff, Int.reduceLE, Int.reduceLT, Int.reduceNeg, Int.reduceAdd, Int.reduceSub, Int.reduceToNat, Nat.reduceEqDiff, Nat.reduceLeDiff, Nat.reduceLT, Nat.reduceAdd, Nat.reduceSub, Nat.reduceMul, reduceIte, reduceCtorEq, pv, pbin, peq, plen, pload, pcut, pfill, St.ev, St.set, lk, D.ofV, D.cellsOf, InR.i64, InR.u8, ssL, tx, ix, Fact.c, Pair.c, Cond.c, Action.c, Rule.c, Token.c, Match.c, Alpha.c, Node.c, Network.c, Stamp.c, Firing.c, Choice.c, tagg_3, tagg_50, tagg_56, tfo_83_0, tfo_83_1, tfo_83_2, tfo_83_3, tfo_83_4, tsz_3, tsz_50, tsz_56] <;> rfl) ?_)
  have hxy : x = y := by cases x; cases y; simp_all
  exact RetQ_ret (by simp only [Try.f50, resDs, resD, Int.reduceLE, Int.reduceLT, Int.reduceNeg, Int.reduceAdd, Int.reduceSub, Int.reduceToNat, Nat.reduceEqDiff, Nat.reduceLeDiff, Nat.reduceLT, Nat.reduceAdd, Nat.reduceSub, Nat.reduceMul, reduceIte, reduceCtorEq, pv, pbin, peq, plen, pload, pcut, pfill, St.ev, St.set, lk, D.ofV, D.cellsOf, InR.i64, InR.u8, ssL, tx, ix, Fact.c, Pair.c, Cond.c, Action.c, Rule.c, Token.c, Match.c, Alpha.c, Node.c, Network.c, Stamp.c, Firing.c, Choice.c, tagg_3, tagg_50, tagg_56, tfo_83_0, tfo_83_1, tfo_83_2, tfo_83_3, tfo_83_4, tsz_3, tsz_50, tsz_56] <;> rfl) rfl (by simp only [packD]; rw [decide_eq_true hxy])

end Go.Bx
