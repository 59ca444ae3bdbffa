/- How many slices lie in tokens and matches; the matches of all rules; in plain words. No condition but bounds. -/
import Derived.Test.YtmifcpepeplijaaGreatDoorPAllMatchesNLwH
namespace Go.Cx
open Go.RowKit Go.Proofs
set_option linter.unusedVariables false
set_option linter.unusedSimpArgs false
theorem tokB_TK {fs : List Fact} (hf : FS fs) : ∀ (cs : List Cond) (l : List Token) (n : Nat), (∀ c ∈ cs, c.wt ≤ 1048576) → (∀ t ∈ l, TK n t) → ∀ t ∈ cs.foldl (nxtB fs) l, TK (n + cs.length) t
  | [], l, n, _, hl => hl
  | c :: cs, l, n, hc, hl => by
    have := tokB_TK hf cs (nxtB fs l c) (n + 1) (fun x hx => hc x (by simp [hx])) (nxtB_TK hl (hc c (by simp)) hf)
    rw [List.length_cons, show n + (cs.length + 1) = n + 1 + cs.length from by omega]
    exact this
theorem tkO_TK {r : Rule} {fs : List Fact} (n : Int) (hr : r.wt ≤ 1048576) (hf : wtL Fact.wt fs ≤ 1048576) : ∀ t ∈ tkO r n fs, TK 4 t := by
  intro t ht
  unfold tkO at ht
  cases h1 : ruleB r with
  | false => rw [h1] at ht; cases ht
  | true =>
    cases hb : (areFB fs && (decide (n ≥ 0) && decide (n ≤ (r.conds.length : Int)))) with
    | false => rw [h1, hb] at ht; cases ht
    | true =>
      rw [h1, hb] at ht
      have h4 := ruleB_len h1
      exact (tokB_TK (FS.of hf) _ _ 0 (take_wt hr _) one_TK t ht).le (by rw [List.length_take]; omega)
theorem mkL_bound {α : Type} {m : α → Nat} {B : Nat} : ∀ (l : List α), (∀ x ∈ l, m x ≤ B) → mkL m l ≤ B * l.length
  | [], _ => by simp [mkL]
  | x :: l, h => by
    have h1 := mkL_bound l fun y hy => h y (by simp [hy])
    have h2 := h x (by simp)
    rw [mkL_cons, List.length_cons, Nat.mul_add]; omega
theorem mkF_bound {n : Nat} (l : List Fact) (hl : l.length ≤ n) (hf : ∀ f ∈ l, f.wt ≤ 1048576) : mkL Fact.mks l ≤ 6291462 * n := by
  have := mkL_bound (m := Fact.mks) (B := 6291462) l fun f hf' => by have := Fact.mks_le f; have := hf f hf'; omega
  exact Nat.le_trans this (Nat.mul_le_mul_left _ hl)
theorem mkP_bound (l : List Pair) (h : PB l) : mkL Pair.mks l ≤ 2 * 1048576 := by
  have := mkL_bound (m := Pair.mks) (B := 2) l fun f _ => by simp [Pair.mks]
  exact Nat.le_trans this (Nat.mul_le_mul_left _ h.1)
theorem TK.mks {t : Token} (h : TK 4 t) : t.mks ≤ 100000000 := by
  have h1 := mkF_bound (n := 4) t.facts h.1 h.2.1
  have h2 := mkP_bound t.bind h.2.2
  unfold Token.mks
  omega
theorem mkMts_one (r : Rule) (fs : List Fact) (hr : r.wt ≤ 1048576) (hf : wtL Fact.wt fs ≤ 1048576) : ∀ m ∈ mtB r fs, m.mks ≤ 100000000 := by
  intro m hm
  unfold mtB at hm
  obtain ⟨t, ht, rfl⟩ := List.mem_map.1 hm
  have h := tkO_TK _ hr hf t ht
  have h1 := mkF_bound (n := 4) t.facts h.1 h.2.1
  have h2 := mkP_bound t.bind h.2.2
  simp only [Match.mks]
  omega
def allB (rs : List Rule) (fs : List Fact) : List Match := bif areB rs then rs.flatMap fun r => mtB r fs else []
theorem areB_len {l : List Rule} (h : areB l = true) : l.length ≤ 6 := by
  unfold areB at h
  simp only [Bool.and_eq_true, decide_eq_true_eq] at h
  omega
theorem flat_len (fs : List Fact) : ∀ (l : List Rule), (l.flatMap fun r => mtB r fs).length ≤ l.length * 390625
  | [] => by simp
  | r :: l => by
    have h1 := flat_len fs l
    have h2 : (mtB r fs).length ≤ 390625 := by unfold mtB; rw [List.length_map]; exact tkO_len _ _ _
    rw [List.flatMap_cons, List.length_append, List.length_cons, Nat.succ_mul]; omega
theorem sAllM (rs : List Rule) (fs : List Fact) (hr : wtL Rule.wt rs ≤ 1048576) (hf : wtL Fact.wt fs ≤ 1048576) : d_spec_AllMatches rs fs = some (allB rs fs) := by
  unfold d_spec_AllMatches allB
  cases h : areB rs with
  | false =>
    cases rs with
    | nil => rfl
    | cons r rs => rw [d_spec_AllMatches_L1, sAre _ hr, h, Option.bind_some]; rfl
  | true =>
    have h6 := areB_len h
    have key : ∀ (l : List Rule) (i : Nat) (w : List Match), (∀ r ∈ l, r.wt ≤ 1048576) → w.length + l.length * 390625 ≤ 1099511627776 → d_spec_AllMatches_L1 rs fs (fun q => some q) l i w = some (w ++ l.flatMap fun r => mtB r fs) := by
      intro l
      induction l with
      | nil => intro i w _ _; rw [d_spec_AllMatches_L1]; simp
      | cons r l ih =>
        intro i w hl hw
        rw [List.length_cons, Nat.succ_mul] at hw
        have h2 : (mtB r fs).length ≤ 390625 := by unfold mtB; rw [List.length_map]; exact tkO_len _ _ _
        rw [d_spec_AllMatches_L1, sAre _ hr, h, Option.bind_some, cond_true, sMts r fs (hl r (by simp)) hf, Option.bind_some, roomA (by omega) (by decide), cond_true, ih _ _ (fun x hx => hl x (by simp [hx])) (by rw [List.length_append]; omega)]
        simp
    rw [key rs 0 [] (fun r hrm => by have := wtL_mem (w := Rule.wt) hrm; omega) (by simp; omega)]
    rfl
theorem iMts1 (r : Rule) (fs : List Fact) (hr : r.wt ≤ 1048576) (hf : wtL Fact.wt fs ≤ 1048576) (h1 : ruleB r = true) (h2 : areFB fs = true) : d_impl_matchesOf r fs = some (mtB r fs) := by
  unfold d_impl_matchesOf mtB
  have h4 := ruleB_len h1
  have hl := tokB_len (cs := r.conds) h4 (areFB_len h2)
  rw [iToks r.conds fs (fun c hc => Rule.cond_le hr hc) h4 (FS.of hf) (areFB_len h2), Option.bind_some, lenOk (by omega), cond_true, tkO_in h1 h2 (Nat.le_refl _), List.take_length]
  rw [show d_impl_matchesOf_L1 r (tokB r.conds fs) (fun q => some q) (tokB r.conds fs) 0 [] = _ from mapL (c := Match.c) (b := 64) (f := fun t : Token => some (⟨r.name, t.facts, t.bind⟩ : Match)) (g := fun t => ⟨r.name, t.facts, t.bind⟩) (L := d_impl_matchesOf_L1 r _ _) (k := fun q => some q) (by decide) (fun _ _ => rfl) (fun _ _ _ _ => rfl) _ 0 [] (fun _ _ => rfl) (by simp; omega)]
  simp
theorem iAllM (rs : List Rule) (fs : List Fact) (hr : wtL Rule.wt rs ≤ 1048576) (hf : wtL Fact.wt fs ≤ 1048576) : d_impl_AllMatches rs fs = some (allB rs fs) := by
  unfold d_impl_AllMatches allB
  rw [iAre rs hr, Option.bind_some, iAreF fs hf, Option.bind_some]
  cases h : areB rs with
  | false => rfl
  | true =>
    have h6 := areB_len h
    cases h2 : areFB fs with
    | false =>
      have : (rs.flatMap fun r => mtB r fs) = [] := by
        rw [List.flatMap_eq_nil_iff]
        intro r _
        unfold mtB tkO
        rw [h2]
        cases ruleB r <;> rfl
      rw [cond_true, this]; rfl
    | true =>
      simp only [Bool.not_true, cond_false, cond_true]
      unfold d_impl_allMatches
      have key : ∀ (l : List Rule) (i : Nat) (w : List Match), (∀ r ∈ l, r.wt ≤ 1048576 ∧ ruleB r = true) → w.length + l.length * 390625 ≤ 1099511627776 → d_impl_allMatches_L1 rs fs (fun q => some q) l i w = some (w ++ l.flatMap fun r => mtB r fs) := by
        intro l
        induction l with
        | nil => intro i w _ _; rw [d_impl_allMatches_L1]; simp
        | cons r l ih =>
          intro i w hl hw
          rw [List.length_cons, Nat.succ_mul] at hw
          have hr1 := hl r (by simp)
          have h3 : (mtB r fs).length ≤ 390625 := by unfold mtB; rw [List.length_map]; exact tkO_len _ _ _
          rw [d_impl_allMatches_L1, iMts1 r fs hr1.1 hf hr1.2 h2, Option.bind_some, roomA (by omega) (by decide), cond_true, ih _ _ (fun x hx => hl x (by simp [hx])) (by rw [List.length_append]; omega)]
          simp
      rw [key rs 0 [] (fun r hrm => ⟨by have := wtL_mem (w := Rule.wt) hrm; omega, areB_mem h r hrm⟩) (by simp; omega)]
      rfl
end Go.Cx
