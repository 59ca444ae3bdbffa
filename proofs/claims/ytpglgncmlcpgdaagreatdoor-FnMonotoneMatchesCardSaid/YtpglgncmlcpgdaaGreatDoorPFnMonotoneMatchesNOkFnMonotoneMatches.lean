/- FnMonotoneMatches: a fact that comes takes no match from a monotone rule: the law returns true. No condition. -/
import Derived.Test.YtpglgncmlcpgdaaGreatDoorPFnMonotoneMatchesNLwO
import Derived.Test.YtpglgncmlcpgdaaGreatDoorPFnMonotoneMatchesNLawFnMonotoneMatches
namespace Go.Cx
open Go.RowKit Go.Proofs
set_option linter.unusedVariables false
set_option linter.unusedSimpArgs false
namespace LawFnMonotoneMatches
theorem lHasM (l : List Match) (m : Match) : d_laws_hasMatch l m = some (l.any fun x => decide (x = m)) := by
  unfold d_laws_hasMatch
  exact anyL (f := fun x => d_spec_SameMatch x m) (p := fun x => decide (x = m)) (L := d_laws_hasMatch_L1 l m (some false)) (fun x => sSameM x m) (fun _ => rfl) (fun _ _ _ => rfl) l 0
theorem hasM_iff (l : List Match) (m : Match) : (l.any fun x => decide (x = m)) = decide (m ∈ l) := by
  induction l with
  | nil => rfl
  | cons x l ih =>
    rw [List.any_cons, ih]
    by_cases h : x = m
    · subst h; simp
    · have h' : m ≠ x := fun e => h e.symm
      simp [h, h']
theorem ext1_mem {c : Cond} {t u : Token} {g : Fact} (h : u ∈ ext1 c t g) : u.facts = t.facts ++ [g] := by
  unfold ext1 at h
  revert h
  cases (matF c.pat g t.bind).2 with
  | true => rw [cond_true]; intro h; rw [List.mem_singleton.1 h]
  | false => rw [cond_false]; intro h; cases h
theorem nxt1_up {c : Cond} {fs gs : List Fact} (hk : c.kind ≠ 2) (h : ∀ x ∈ fs, x ∈ gs) (t : Token) : ∀ u ∈ nxt1 c fs t, u ∈ nxt1 c gs t := by
  intro u hu
  unfold nxt1 at hu ⊢
  by_cases h1 : c.kind = 1
  · rw [decide_eq_true h1, cond_true] at hu ⊢
    obtain ⟨g, hg, hu⟩ := List.mem_flatMap.1 hu
    exact List.mem_flatMap.2 ⟨g, h g hg, hu⟩
  · rw [decide_eq_false h1, cond_false] at hu ⊢
    have e : hldC c t.bind fs = hldC c t.bind gs := by unfold hldC; rw [decide_eq_false h1, decide_eq_false hk]; rfl
    rw [← e]; exact hu
theorem tok_up {fs gs : List Fact} (h : ∀ x ∈ fs, x ∈ gs) : ∀ (cs : List Cond) (A B : List Token), (∀ c ∈ cs, c.kind ≠ 2) → (∀ t ∈ A, t ∈ B) → ∀ t ∈ cs.foldl (nxtB fs) A, t ∈ cs.foldl (nxtB gs) B := by
  intro cs
  induction cs with
  | nil => intro A B _ hAB; exact hAB
  | cons c cs ih =>
    intro A B hk hAB
    refine ih _ _ (fun x hx => hk x (by simp [hx])) ?_
    intro t ht
    obtain ⟨a, ha, ht⟩ := List.mem_flatMap.1 ht
    exact List.mem_flatMap.2 ⟨a, hAB a ha, nxt1_up (hk c (by simp)) h a t ht⟩
theorem nxt1_facts {c : Cond} {gs : List Fact} {t u : Token} {f : Fact} (hf : f ∈ t.facts) (hu : u ∈ nxt1 c gs t) : f ∈ u.facts := by
  unfold nxt1 at hu
  revert hu
  cases decide (c.kind = 1) with
  | true =>
    rw [cond_true]; intro hu
    obtain ⟨g, hg, hu⟩ := List.mem_flatMap.1 hu
    rw [ext1_mem hu]; simp [hf]
  | false =>
    rw [cond_false]
    cases hldC c t.bind gs with
    | true => rw [cond_true]; intro hu; rw [List.mem_singleton.1 hu]; exact hf
    | false => rw [cond_false]; intro hu; cases hu
theorem nxt1_down {c : Cond} {fs gs : List Fact} {f : Fact} (hk : c.kind ≠ 2) (h : ∀ x ∈ gs, x = f ∨ x ∈ fs) (t : Token) : ∀ u ∈ nxt1 c gs t, f ∈ u.facts ∨ u ∈ nxt1 c fs t := by
  intro u hu
  unfold nxt1 at hu ⊢
  by_cases h1 : c.kind = 1
  · rw [decide_eq_true h1, cond_true] at hu ⊢
    obtain ⟨g, hg, hu⟩ := List.mem_flatMap.1 hu
    rcases h g hg with e | e
    · left; rw [ext1_mem hu, e]; simp
    · right; exact List.mem_flatMap.2 ⟨g, e, hu⟩
  · rw [decide_eq_false h1, cond_false] at hu ⊢
    have e : hldC c t.bind fs = hldC c t.bind gs := by unfold hldC; rw [decide_eq_false h1, decide_eq_false hk]; rfl
    rw [e]; exact .inr hu
theorem tok_down {fs gs : List Fact} {f : Fact} (h : ∀ x ∈ gs, x = f ∨ x ∈ fs) : ∀ (cs : List Cond) (A B : List Token), (∀ c ∈ cs, c.kind ≠ 2) → (∀ t ∈ B, f ∈ t.facts ∨ t ∈ A) → ∀ t ∈ cs.foldl (nxtB gs) B, f ∈ t.facts ∨ t ∈ cs.foldl (nxtB fs) A := by
  intro cs
  induction cs with
  | nil => intro A B _ hAB; exact hAB
  | cons c cs ih =>
    intro A B hk hAB
    refine ih _ _ (fun x hx => hk x (by simp [hx])) ?_
    intro t ht
    obtain ⟨b, hb, ht⟩ := List.mem_flatMap.1 ht
    rcases hAB b hb with e | e
    · exact .inl (nxt1_facts e ht)
    · rcases nxt1_down (hk c (by simp)) h b t ht with e2 | e2
      · exact .inl e2
      · exact .inr (List.mem_flatMap.2 ⟨b, e, e2⟩)
theorem mtB_in {r : Rule} {fs : List Fact} (h1 : ruleB r = true) (h2 : areFB fs = true) : mtB r fs = (tokB r.conds fs).map fun t => ⟨r.name, t.facts, t.bind⟩ := by
  unfold mtB; rw [tkO_in h1 h2 (Nat.le_refl _), List.take_length]
theorem loop2 (y : List Fact × Fact) (A B : List Match) (K : Option Bool) : ∀ (l : List Match) (i : Nat), (∀ m ∈ l, y.2 ∈ m.facts ∨ m ∈ A) → d_laws_FnMonotoneMatches_L2 y A B K l i = K := by
  intro l
  induction l with
  | nil => intro i _; rfl
  | cons m l ih =>
    intro i h
    rw [d_laws_FnMonotoneMatches_L2, lHasM, hasM_iff, Option.bind_some, ih _ (fun x hx => h x (by simp [hx])), iUses, Option.bind_some]
    rcases h m (by simp) with e | e
    · rw [decide_eq_true e]; cases decide (m ∈ A) <;> rfl
    · rw [decide_eq_true e]; rfl
theorem loop1 (y : List Fact × Fact) (A B : List Match) (K : Option Bool) : ∀ (l : List Match) (i : Nat), (∀ m ∈ l, m ∈ B) → d_laws_FnMonotoneMatches_L1 y A B K l i = K := by
  intro l
  induction l with
  | nil => intro i _; rfl
  | cons m l ih =>
    intro i h
    rw [d_laws_FnMonotoneMatches_L1, lHasM, hasM_iff, Option.bind_some, ih _ (fun x hx => h x (by simp [hx])), decide_eq_true (h m (by simp))]; rfl
theorem law_ok (code : List Int) : d_laws_FnMonotoneMatches code = some true := by
  unfold d_laws_FnMonotoneMatches d_laws_big
  rw [Option.bind_some, List.length_map]
  by_cases hl : (code.length : Int) > 4096
  · rw [decide_eq_true hl, cond_true]
  have hc4 : code.length ≤ 4096 := by omega
  rw [decide_eq_false hl, cond_false]
  obtain ⟨r, fs, e0, hr, hfs⟩ := sDrawMts code hc4
  obtain ⟨l0, f, e1, _, hf⟩ := sDrawAdd code hc4
  have w := hr.wt (by decide)
  have wf := hfs.wt (by decide)
  rw [e0, Option.bind_some, e1, Option.bind_some]
  dsimp only
  rw [sAddF fs f wf (hf.wt (by decide)) (by have := hfs.1; omega), Option.bind_some, iMono r w, Option.bind_some, sMono r w, Option.bind_some, bne_self_eq_false, cond_false, Option.bind_some]
  cases hm : monoB r with
  | false => rfl
  | true =>
    simp only [Bool.not_true, cond_false]
    unfold addB
    by_cases ha : areFB fs = true ∧ factB f = true ∧ f ∉ fs ∧ fs.length ≠ 24
    · rw [if_pos ha]
      obtain ⟨h2, hff, hni, hn⟩ := ha
      have h3 := are_ins hff h2 hni hn
      have hx : SmallL 66 (insF f fs) := ⟨by rw [insF_len]; have := hfs.1; omega, fun x hx => by
        rcases (insF_mem f fs x).1 hx with e | e
        · rw [e]; exact hf
        · exact hfs.2 x e⟩
      have wx := hx.wt (by decide)
      simp only [Bool.not_true, cond_false]
      rw [iMts r fs w wf, Option.bind_some, iMts r _ w wx, Option.bind_some]
      have h1 : ruleB r = true := by
        unfold monoB at hm; revert hm; cases ruleB r <;> simp
      have hk : ∀ c ∈ r.conds, c.kind ≠ 2 := by
        intro c hc e
        have h5 : r.conds.all (fun c => !decide (c.kind = 2)) = true := by
          unfold monoB at hm; revert hm; cases r.conds.all (fun c => !decide (c.kind = 2)) <;> simp
        have := List.all_eq_true.1 h5 c hc
        simp [e] at this
      have b1 : (mtB r fs).length ≤ maxLen := by
        have := tkO_len r (r.conds.length : Int) fs
        unfold mtB; rw [List.length_map]; unfold maxLen; omega
      have b2 : (mtB r (insF f fs)).length ≤ maxLen := by
        have := tkO_len r (r.conds.length : Int) (insF f fs)
        unfold mtB; rw [List.length_map]; unfold maxLen; omega
      rw [decide_eq_true b1, cond_true, decide_eq_true b2, cond_true, loop1, loop2]
      · intro m hm
        rw [mtB_in h1 h3] at hm
        obtain ⟨t, ht, rfl⟩ := List.mem_map.1 hm
        rcases tok_down (f := f) (fun x hx => (insF_mem f fs x).1 hx) r.conds [⟨[], []⟩] [⟨[], []⟩] hk (fun t ht => .inr ht) t ht with e | e
        · exact .inl e
        · right; rw [mtB_in h1 h2]; exact List.mem_map.2 ⟨t, e, rfl⟩
      · intro m hm
        rw [mtB_in h1 h2] at hm
        obtain ⟨t, ht, rfl⟩ := List.mem_map.1 hm
        rw [mtB_in h1 h3]
        exact List.mem_map.2 ⟨t, tok_up (fun x hx => (insF_mem f fs x).2 (.inr hx)) r.conds [⟨[], []⟩] [⟨[], []⟩] hk (fun t ht => ht) t ht, rfl⟩
    · rw [if_neg ha]; rfl
theorem law_good (code : List Int) : Good Tryz.prog 5 [.sl (code.map yx)] (.bool true) := d_laws_FnMonotoneMatches_good (law_ok code)
end LawFnMonotoneMatches
end Go.Cx
