/- FnCounts: the tokens of all conditions are the matches, one token has no conditions, tests and absences never add tokens. No condition. -/
import Derived.Test.YtpglgncmlcpgdaaGreatDoorPFnCountsNLwO
import Derived.Test.YtpglgncmlcpgdaaGreatDoorPFnCountsNLawFnCounts
namespace Go.Cx
open Go.RowKit Go.Proofs
set_option linter.unusedVariables false
set_option linter.unusedSimpArgs false
namespace LawFnCounts
theorem dpB_spec : ∀ (l : List Int) (i : Nat) (v : Int), (∀ x ∈ l, 0 ≤ x) → (dpB l i v = v ∧ ∀ x ∈ l, x = 0) ∨ ∃ (j : Nat) (x : Int), l[j]? = some x ∧ 0 < x ∧ dpB l i v = ((i + j : Nat) : Int) ∧ ∀ (k : Nat) y, j < k → l[k]? = some y → y = 0
  | [], i, v, _ => .inl ⟨rfl, by simp⟩
  | x :: xs, i, v, h => by
    have hx := h x (by simp)
    rw [dpB]
    rcases dpB_spec xs (i + 1) (bif decide (x > 0) then (i : Int) else v) (fun y hy => h y (by simp [hy])) with ⟨h1, h2⟩ | ⟨j, y, h1, h2, h3, h4⟩
    · by_cases hp : x > 0
      · rw [decide_eq_true hp, cond_true] at h1 ⊢
        refine .inr ⟨0, x, rfl, hp, h1, fun k y hk hy => ?_⟩
        obtain ⟨m, rfl⟩ : ∃ m, k = m + 1 := ⟨k - 1, by omega⟩
        exact h2 y (List.mem_of_getElem? (by simpa using hy))
      · rw [decide_eq_false hp, cond_false] at h1 ⊢
        refine .inl ⟨h1, fun y hy => ?_⟩
        rcases List.mem_cons.1 hy with rfl | hy
        · omega
        · exact h2 y hy
    · refine .inr ⟨j + 1, y, by simpa using h1, h2, by rw [h3]; congr 1; omega, fun k z hk hz => ?_⟩
      obtain ⟨m, rfl⟩ : ∃ m, k = m + 1 := ⟨k - 1, by omega⟩
      exact h4 m z (by omega) (by simpa using hz)
theorem tok_snoc (cs : List Cond) (c : Cond) (fs : List Fact) : tokB (cs ++ [c]) fs = nxtB fs (tokB cs fs) c := by unfold tokB; rw [List.foldl_append]; rfl
theorem take_snoc {r : Rule} {i : Nat} {c : Cond} (h : r.conds[i]? = some c) : r.conds.take (i + 1) = r.conds.take i ++ [c] := by
  rw [List.take_add_one, h]; rfl
theorem cnt_zero {r : Rule} {fs : List Fact} {i : Nat} {c : Cond} (h : r.conds[i]? = some c) (h0 : cnt r fs i = 0) : cnt r fs (i + 1) = 0 := by
  unfold cnt at h0 ⊢
  rw [take_snoc h, tok_snoc]
  have : tokB (r.conds.take i) fs = [] := List.eq_nil_of_length_eq_zero (by omega)
  rw [this]; rfl
theorem cnt_test {r : Rule} {fs : List Fact} {i : Nat} {c : Cond} (h : r.conds[i]? = some c) (hk : c.kind ≠ 1) : cnt r fs (i + 1) ≤ cnt r fs i := by
  unfold cnt
  rw [take_snoc h, tok_snoc]
  have key : ∀ l : List Token, (nxtB fs l c).length ≤ l.length := by
    intro l
    unfold nxtB
    induction l with
    | nil => simp
    | cons t l ih =>
      rw [List.flatMap_cons, List.length_append, List.length_cons]
      have : (nxt1 c fs t).length ≤ 1 := by
        unfold nxt1
        rw [decide_eq_false hk, cond_false]
        cases hldC c t.bind fs <;> simp
      omega
  have := key (tokB (r.conds.take i) fs)
  omega
theorem cntB_get {r : Rule} {fs : List Fact} (h1 : ruleB r = true) (h2 : areFB fs = true) {i : Nat} (hi : i ≤ r.conds.length) : (cntB r fs)[i]? = some (cnt r fs i) := by
  unfold cntB
  rw [h1, h2, Bool.and_true, cond_true, List.getElem?_map, List.getElem?_range' (by omega)]
  simp
theorem cntB_length {r : Rule} {fs : List Fact} (h1 : ruleB r = true) (h2 : areFB fs = true) : (cntB r fs).length = r.conds.length + 1 := by
  unfold cntB; rw [h1, h2, Bool.and_true, cond_true]; simp
theorem atI_nat {α : Type} {l : List α} {i : Nat} {x : α} (h : l[i]? = some x) : atI l (i : Int) = some x := by
  unfold atI; rw [decide_eq_true (by omega), cond_true]; exact h
theorem loop1 {r : Rule} {fs : List Fact} (y : Rule × List Fact) (h1 : ruleB r = true) (h2 : areFB fs = true) (d : Int) (hd : ∀ k : Nat, d < (k : Int) → k ≤ r.conds.length → cnt r fs k = 0) (K : Option Bool) : ∀ (l pre : List Cond), r.conds = pre ++ l → d_laws_FnCounts_L1 y (cntB r fs) d K l pre.length = K := by
  intro l
  induction l with
  | nil => intro pre _; rfl
  | cons c l ih =>
    intro pre e
    have hlen : r.conds.length = pre.length + (l.length + 1) := by rw [e]; simp
    have h4 := ruleB_len h1
    have hc : r.conds[pre.length]? = some c := by rw [e]; simp
    have ih' := ih (pre ++ [c]) (by rw [e]; simp)
    rw [List.length_append, List.length_singleton] at ih'
    have g0 := cntB_get (fs := fs) h1 h2 (i := pre.length) (by omega)
    have g1 := cntB_get (fs := fs) h1 h2 (i := pre.length + 1) (by omega)
    have a1 := atI_nat g1
    have w : IntKind.i64.wrap (((pre.length : Nat) : Int) + 1) = ((pre.length + 1 : Nat) : Int) := wrap1 (by omega)
    have hlt : decide (pre.length < ((cntB r fs).map ixx).length) = true := by rw [List.length_map, cntB_length h1 h2]; simp; omega
    have hz : cnt r fs pre.length = 0 → cnt r fs (pre.length + 1) = 0 := cnt_zero hc
    have ht : c.kind ≠ 1 → cnt r fs (pre.length + 1) ≤ cnt r fs pre.length := cnt_test hc
    have hdd : d ≤ ((pre.length : Nat) : Int) → cnt r fs (pre.length + 1) = 0 := fun h => hd _ (by omega) (by omega)
    rw [d_laws_FnCounts_L1, hlt, cond_true, g0, Option.bind_some, w, a1, Option.bind_some, Option.bind_some, Option.bind_some, ih', kind_ne]
    simp only [cond_true]
    generalize cnt r fs pre.length = a at *
    generalize cnt r fs (pre.length + 1) = b at *
    have e1 : decide (d ≤ (pre.length : Int)) = true → b = 0 := fun h => hdd (of_decide_eq_true h)
    have kk : ∀ x : Option Bool, (bif decide (((pre.length : Nat) : Int) ≥ d) then (bif decide (b > 0) then some false else x) else x) = x := by
      intro x
      by_cases h : ((pre.length : Nat) : Int) ≥ d
      · rw [decide_eq_true h, cond_true, decide_eq_false (by have := hdd (by omega); omega), cond_false]
      · rw [decide_eq_false h, cond_false]
    have k2 : ∀ x : Option Bool, (bif decide (((pre.length : Nat) : Int) ≥ d) then x else x) = x := by
      intro x; cases decide (((pre.length : Nat) : Int) ≥ d) <;> rfl
    rw [kk, k2]
    by_cases ha : a = 0
    · have hb := hz ha
      have e2 : (a == (0 : Int)) = true := by simp [ha]
      rw [e2, cond_true, decide_eq_false (show ¬ b > 0 by omega), cond_false]
      by_cases hk : c.kind = 1
      · rw [decide_eq_true hk, Bool.not_true, cond_false]
      · rw [decide_eq_false hk, Bool.not_false, cond_true, decide_eq_false (show ¬ b > a by omega), cond_false]
    · have e2 : (a == (0 : Int)) = false := by simp [ha]
      rw [e2, cond_false]
      by_cases hk : c.kind = 1
      · rw [decide_eq_true hk, Bool.not_true, cond_false]
      · have := ht hk
        rw [decide_eq_false hk, Bool.not_false, cond_true, decide_eq_false (by omega), cond_false]
theorem law_ok (code : List Int) : d_laws_FnCounts code = some true := by
  unfold d_laws_FnCounts d_laws_big
  rw [Option.bind_some, List.length_map]
  by_cases hl : (code.length : Int) > 4096
  · rw [decide_eq_true hl, cond_true]
  have hc4 : code.length ≤ 4096 := by omega
  rw [decide_eq_false hl, cond_false]
  obtain ⟨r, fs, e0, hr, hfs⟩ := sDrawCnt code hc4
  have w := hr.wt (by decide)
  have wf := hfs.wt (by decide)
  rw [e0, Option.bind_some]
  dsimp only
  rw [iCnt r fs w wf, Option.bind_some, iDeep r fs w wf, Option.bind_some, sRule r w, Option.bind_some, sAreF fs wf, Option.bind_some]
  cases h1 : ruleB r with
  | false =>
    have : cntB r fs = [] := by unfold cntB; rw [h1]; rfl
    rw [this]; rfl
  | true =>
    cases h2 : areFB fs with
    | false =>
      have : cntB r fs = [] := by unfold cntB; rw [h1, h2]; rfl
      rw [this]; rfl
    | true =>
      have h4 := ruleB_len h1
      have hlen := cntB_length h1 h2
      have g0 := cntB_get (fs := fs) h1 h2 (i := 0) (by omega)
      have gk := cntB_get (fs := fs) h1 h2 (i := r.conds.length) (by omega)
      have c0 : cnt r fs 0 = 1 := by unfold cnt; rfl
      have ck : cnt r fs r.conds.length = ((mtB r fs).length : Int) := by
        unfold cnt mtB; rw [List.length_map, tkO_in h1 h2 (Nat.le_refl _)]
      have hpos : ∀ x ∈ cntB r fs, 0 ≤ x := by
        intro x hx
        obtain ⟨i, hi⟩ := List.getElem?_of_mem hx
        have hil := (List.getElem?_eq_some_iff.1 hi).1
        rw [cntB_get h1 h2 (by omega)] at hi
        cases hi; unfold cnt; omega
      have hd : ∃ j : Nat, dpB (cntB r fs) 0 0 = (j : Int) ∧ j ≤ r.conds.length ∧ cnt r fs j ≠ 0 ∧ ∀ k : Nat, j < k → k ≤ r.conds.length → cnt r fs k = 0 := by
        rcases dpB_spec (cntB r fs) 0 0 hpos with ⟨_, h⟩ | ⟨j, x, q1, q2, q3, q4⟩
        · have := h _ (List.mem_of_getElem? g0); omega
        · have hj := (List.getElem?_eq_some_iff.1 q1).1
          have q1' := q1
          rw [cntB_get h1 h2 (by omega)] at q1'
          cases q1'
          exact ⟨j, by simpa using q3, by omega, by omega, fun k hk hk2 => q4 k _ hk (cntB_get h1 h2 hk2)⟩
      obtain ⟨j, d1, d2, d3, d4⟩ := hd
      have gj := cntB_get (fs := fs) h1 h2 (i := j) d2
      rw [d1]
      simp only [Bool.not_true, cond_false]
      have n1 : ((((cntB r fs).map ixx).length : Int) != IntKind.i64.wrap ((((r.conds).map Cond.c).length : Int) + 1)) = false := by
        rw [List.length_map, List.length_map, hlen, wrap1 (by omega)]; simp
      have a0 : atI (cntB r fs) 0 = some 1 := by have := atI_nat g0; rw [c0] at this; exact this
      have ak : atI (cntB r fs) (((r.conds.map Cond.c).length : Int)) = some ((mtB r fs).length : Int) := by rw [List.length_map, ← ck]; exact atI_nat gk
      rw [n1, cond_false, a0, Option.bind_some, bne_self_eq_false, cond_false, ak, Option.bind_some, iMts r fs w wf, Option.bind_some]
      have n2 : (((mtB r fs).length : Int) != (((mtB r fs).map Match.c).length : Int)) = false := by rw [List.length_map]; simp
      have n3 : decide ((j : Int) < 0) = false := by simp
      have n4 : decide ((j : Int) > (((r.conds.map Cond.c).length : Int))) = false := by rw [List.length_map]; simp; omega
      have n5 : (cnt r fs j == (0 : Int)) = false := by simp [d3]
      rw [n2, cond_false, n3, cond_false, n4, cond_false, atI_nat gj, Option.bind_some, n5, cond_false, lenOk (by omega), cond_true]
      exact loop1 (r := r) (fs := fs) _ h1 h2 (j : Int) (fun k hk hk2 => d4 k (by omega) hk2) _ r.conds [] rfl
theorem law_good (code : List Int) : Good Tryz.prog 3 [.sl (code.map yx)] (.bool true) := d_laws_FnCounts_good (law_ok code)
end LawFnCounts
end Go.Cx
