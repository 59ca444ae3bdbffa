/- FnFalling: numbers in falling order are the same numbers, in falling order; the law returns true. No condition. -/
import Derived.Test.YtoeenpcilfhjbaaPFnFallingNLwFb
import Derived.Test.YtoeenpcilfhjbaaPFnFallingNLawFnFalling
namespace Go.Cx
open Go.RowKit Go.Proofs
set_option linter.unusedVariables false
set_option linter.unusedSimpArgs false
namespace LawFnFalling
/-- how often -/
def cnt (x : Int) (l : List Int) : Nat := l.countP fun y => y == x
theorem cnt_cons (x y : Int) (l : List Int) : cnt x (y :: l) = cnt x l + (if y = x then 1 else 0) := by
  unfold cnt
  rw [List.countP_cons]
  by_cases h : y = x <;> simp [h]
theorem loop2 (y4 y6 : List Int) (i1 : Nat) (x : Int) (K : Int → Int → Option Bool) (hl : y6.length = y4.length) (hb : y4.length ≤ 1048576) : ∀ (rest : List Int) (i : Nat) (a b : Int), y4.drop i = rest → i + rest.length = y4.length → 0 ≤ a → 0 ≤ b → a + (rest.length : Int) ≤ 1048576 → b + (rest.length : Int) ≤ 1048576 →
    d_laws_FnFalling_L2 y4 y6 i1 x K rest i a b = K (a + (cnt x rest : Int)) (b + (cnt x (y6.drop i) : Int)) := by
  intro rest
  induction rest with
  | nil =>
    intro i a b hd hi ha hb2 h1 h2
    have : y6.drop i = [] := List.drop_eq_nil_of_le (by simp at hi; omega)
    rw [d_laws_FnFalling_L2, this]
    simp [cnt]
  | cons z zs ih =>
    intro i a b hd hi ha hb2 h1 h2
    simp only [List.length_cons] at hi h1 h2
    have hlt : i < y6.length := by omega
    have e1 : decide (i < (y6.map ixx).length) = true := by simp; exact hlt
    have e2 : y6[i]? = some y6[i] := List.getElem?_eq_getElem hlt
    have e3 : y6.drop i = y6[i] :: y6.drop (i + 1) := List.drop_eq_getElem_cons hlt
    have hd' : y4.drop (i + 1) = zs := by rw [← List.drop_drop, hd]; rfl
    have wa : IntKind.i64.wrap (a + 1) = a + 1 := wrap_in (InR.i64.2 (by omega))
    have wb : IntKind.i64.wrap (b + 1) = b + 1 := wrap_in (InR.i64.2 (by omega))
    rw [d_laws_FnFalling_L2, e1, e3, cnt_cons, cnt_cons, e2, wa, wb]
    simp only [cond_true, Option.bind_some]
    by_cases hz : z = x
    · rw [beq_iff_eq.2 hz, cond_true]
      by_cases hy : y6[i] = x
      · rw [beq_iff_eq.2 hy, cond_true, ih (i + 1) (a + 1) (b + 1) hd' (by omega) (by omega) (by omega) (by omega) (by omega), if_pos hz, if_pos hy]
        congr 1 <;> omega
      · rw [show (y6[i] == x) = false by simpa using hy, cond_false, ih (i + 1) (a + 1) b hd' (by omega) (by omega) (by omega) (by omega) (by omega), if_pos hz, if_neg hy]
        congr 1 <;> omega
    · rw [show (z == x) = false by simpa using hz, cond_false]
      by_cases hy : y6[i] = x
      · rw [beq_iff_eq.2 hy, cond_true, ih (i + 1) a (b + 1) hd' (by omega) (by omega) (by omega) (by omega) (by omega), if_neg hz, if_pos hy]
        congr 1 <;> omega
      · rw [show (y6[i] == x) = false by simpa using hy, cond_false, ih (i + 1) a b hd' (by omega) (by omega) (by omega) (by omega) (by omega), if_neg hz, if_neg hy]
        congr 1 <;> omega
theorem loop1 (y4 y6 : List Int) (K : Option Bool) (hp : y6.Perm y4) (hf : Fall y6) (hb : y4.length ≤ 1048576) : ∀ (rest : List Int) (i : Nat), y6.drop i = rest → d_laws_FnFalling_L1 y4 y6 K rest i = K := by
  intro rest
  induction rest with
  | nil => intro i _; rfl
  | cons x xs ih =>
    intro i hd
    have hl := hp.length_eq
    have hlt : i < y6.length := by
      have := congrArg List.length hd
      simp at this
      omega
    have hx : y6[i] = x := by
      have := List.drop_eq_getElem_cons hlt
      rw [hd] at this
      exact (List.cons.inj this).1.symm
    have hd' : y6.drop (i + 1) = xs := by rw [← List.drop_drop, hd]; rfl
    have e0 : decide (y4.length ≤ maxLen) = true := decide_eq_true (by unfold maxLen; omega)
    have hc : cnt x y4 = cnt x y6 := (hp.countP_eq _).symm
    rw [d_laws_FnFalling_L1, e0, cond_true, loop2 y4 y6 i x _ hl hb y4 0 0 0 rfl (by omega) (by omega) (by omega) (by omega) (by omega)]
    have e1 : ((0 : Int) + (cnt x y4 : Int) != (0 : Int) + (cnt x (y6.drop 0) : Int)) = false := by rw [List.drop_zero, hc]; simp
    rw [e1, cond_false]
    by_cases hi : (i : Int) > 0
    · have e2 : IntKind.i64.wrap ((i : Int) - 1) = ((i - 1 : Nat) : Int) := by rw [wrap_in (InR.i64.2 (by omega))]; omega
      have hlt2 : i - 1 < y6.length := by omega
      have e3 : atI y6 ((i - 1 : Nat) : Int) = some y6[i - 1] := by
        unfold atI
        rw [decide_eq_true (by omega), cond_true, Int.toNat_natCast]
        exact List.getElem?_eq_getElem hlt2
      have hge : y6[i] ≤ y6[i - 1] := List.pairwise_iff_getElem.1 hf (i - 1) i hlt2 hlt (by omega)
      rw [decide_eq_true hi, cond_true, e2, e3, Option.bind_some, decide_eq_false (by omega), cond_false]
      exact ih (i + 1) hd'
    · rw [decide_eq_false hi, cond_false]
      exact ih (i + 1) hd'
theorem law_ok (code : List Int) : d_laws_FnFalling code = some true := by
  unfold d_laws_FnFalling d_laws_big
  rw [Option.bind_some, List.length_map]
  by_cases hl : (code.length : Int) > 4096
  · rw [decide_eq_true hl, cond_true]
  obtain ⟨l, e, h⟩ := sDrawFalling code (by omega)
  rw [decide_eq_false hl, cond_false, e, Option.bind_some, iFalling l (by omega), Option.bind_some]
  have hp := fallB_perm l
  have hlen := hp.length_eq
  have e1 : ((((fallB l).map ixx).length : Int) != ((l.map ixx).length : Int)) = false := by simp [hlen]
  have e2 : decide ((fallB l).length ≤ maxLen) = true := decide_eq_true (by unfold maxLen; omega)
  rw [e1, cond_false, e2, cond_true]
  exact loop1 l (fallB l) (some true) hp (fallB_fall l) (by omega) (fallB l) 0 rfl
theorem law_good (code : List Int) : Good Try.prog 3 [.sl (code.map yx)] (.bool true) :=
  d_laws_FnFalling_good (law_ok code)
end LawFnFalling
end Go.Cx
