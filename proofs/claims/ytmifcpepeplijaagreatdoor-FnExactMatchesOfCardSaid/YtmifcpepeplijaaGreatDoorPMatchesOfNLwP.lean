/- How many slices lie in tokens and matches; the matches of all rules; in plain words. No condition but bounds. -/
import Derived.Test.YtmifcpepeplijaaGreatDoorPMatchesOfNLwH
namespace Go.Cx
open Go.RowKit Go.Proofs
set_option linter.unusedVariables false
set_option linter.unusedSimpArgs false
theorem tokB_TK {fs : List Fact} (hf : FS fs) : ∀ (cs : List Cond) (l : List Token) (n : Nat), (∀ c ∈ cs, c.wt ≤ 1048576) → (∀ t ∈ l, TK n t) → ∀ t ∈ cs.foldl (nxtB fs) l, TK (n + cs.length) t
  | [], l, n, _, hl => hl
  | c :: cs, l, n, hc, hl => by
    have := tokB_TK hf cs (nxtB fs l c) (n + 1) (fun x hx => hc x (by simp [hx])) (nxtB_TK hl (hc c (by simp)) hf)
    rw [List.length_cons, show n + (cs.length + 1) = n + 1 + cs.length from by omega]
    exact this
theorem tkO_TK {r : Rule} {fs : List Fact} (n : Int) (hr : r.wt ≤ 1048576) (hf : wtL Fact.wt fs ≤ 1048576) : ∀ t ∈ tkO r n fs, TK 4 t := by
  intro t ht
  unfold tkO at ht
  cases h1 : ruleB r with
  | false => rw [h1] at ht; cases ht
  | true =>
    cases hb : (areFB fs && (decide (n ≥ 0) && decide (n ≤ (r.conds.length : Int)))) with
    | false => rw [h1, hb] at ht; cases ht
    | true =>
      rw [h1, hb] at ht
      have h4 := ruleB_len h1
      exact (tokB_TK (FS.of hf) _ _ 0 (take_wt hr _) one_TK t ht).le (by rw [List.length_take]; omega)
theorem mkL_bound {α : Type} {m : α → Nat} {B : Nat} : ∀ (l : List α), (∀ x ∈ l, m x ≤ B) → mkL m l ≤ B * l.length
  | [], _ => by simp [mkL]
  | x :: l, h => by
    have h1 := mkL_bound l fun y hy => h y (by simp [hy])
    have h2 := h x (by simp)
    rw [mkL_cons, List.length_cons, Nat.mul_add]; omega
theorem mkF_bound {n : Nat} (l : List Fact) (hl : l.length ≤ n) (hf : ∀ f ∈ l, f.wt ≤ 1048576) : mkL Fact.mks l ≤ 6291462 * n := by
  have := mkL_bound (m := Fact.mks) (B := 6291462) l fun f hf' => by have := Fact.mks_le f; have := hf f hf'; omega
  exact Nat.le_trans this (Nat.mul_le_mul_left _ hl)
theorem mkP_bound (l : List Pair) (h : PB l) : mkL Pair.mks l ≤ 2 * 1048576 := by
  have := mkL_bound (m := Pair.mks) (B := 2) l fun f _ => by simp [Pair.mks]
  exact Nat.le_trans this (Nat.mul_le_mul_left _ h.1)
theorem TK.mks {t : Token} (h : TK 4 t) : t.mks ≤ 100000000 := by
  have h1 := mkF_bound (n := 4) t.facts h.1 h.2.1
  have h2 := mkP_bound t.bind h.2.2
  unfold Token.mks
  omega
theorem mkMts_one (r : Rule) (fs : List Fact) (hr : r.wt ≤ 1048576) (hf : wtL Fact.wt fs ≤ 1048576) : ∀ m ∈ mtB r fs, m.mks ≤ 100000000 := by
  intro m hm
  unfold mtB at hm
  obtain ⟨t, ht, rfl⟩ := List.mem_map.1 hm
  have h := tkO_TK _ hr hf t ht
  have h1 := mkF_bound (n := 4) t.facts h.1 h.2.1
  have h2 := mkP_bound t.bind h.2.2
  simp only [Match.mks]
  omega
theorem mtB_len (r : Rule) (fs : List Fact) : (mtB r fs).length ≤ 390625 := by unfold mtB; rw [List.length_map]; exact tkO_len _ _ _
theorem mkMts_le (r : Rule) (fs : List Fact) (hr : r.wt ≤ 1048576) (hf : wtL Fact.wt fs ≤ 1048576) : mkL Match.mks (mtB r fs) ≤ 100000000 * 390625 :=
  Nat.le_trans (mkL_bound (m := Match.mks) (B := 100000000) _ (mkMts_one r fs hr hf)) (Nat.mul_le_mul_left _ (mtB_len r fs))
end Go.Cx
