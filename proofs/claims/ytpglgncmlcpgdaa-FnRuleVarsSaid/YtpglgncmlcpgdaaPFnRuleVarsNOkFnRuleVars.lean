/- FnRuleVars: more conditions bind more variables, and what a rule does uses only what is bound. No condition. -/
import Derived.Test.YtpglgncmlcpgdaaPFnRuleVarsNLwN
import Derived.Test.YtpglgncmlcpgdaaPFnRuleVarsNLawFnRuleVars
namespace Go.Cx
open Go.RowKit Go.Proofs
set_option linter.unusedVariables false
set_option linter.unusedSimpArgs false
namespace LawFnRuleVars
theorem hasT (l : List Bytes) (v : Bytes) : d_laws_hasText l v = some (l.contains v) := by
  unfold d_laws_hasText
  have : ∀ (r : List Bytes) (i : Nat), d_laws_hasText_L1 l v (some false) r i = some (r.contains v) := by
    intro r
    induction r with
    | nil => intro i; rfl
    | cons x xs ih =>
      intro i
      rw [d_laws_hasText_L1, ih, List.contains_cons]
      by_cases h : x = v
      · subst h; simp
      · have h1 : (x == v) = false := by simpa using h
        have h2 : (v == x) = false := by simpa using fun e => h e.symm
        rw [h1, h2]; rfl
  exact this l 0
theorem bnd_mono (r : Rule) {m n : Int} (h : m.toNat ≤ n.toNat ∨ r.conds.length ≤ n.toNat) {v : Bytes} (hv : v ∈ bndV r m) : v ∈ bndV r n := by
  unfold bndV at hv ⊢
  obtain ⟨c, hc, hv⟩ := List.mem_flatMap.1 hv
  refine List.mem_flatMap.2 ⟨c, ?_, hv⟩
  rcases h with h | h
  · have e : r.conds.take m.toNat = (r.conds.take n.toNat).take m.toNat := by rw [List.take_take, Nat.min_eq_left h]
    rw [e] at hc
    exact List.mem_of_mem_take hc
  · rw [List.take_of_length_le h]; exact List.mem_of_mem_take hc
theorem loop1 (y : Rule × Int) (a b c d : List Bytes) (k : Option Bool) : ∀ (l : List Bytes) (i : Nat), (∀ v ∈ l, v ∈ b ∧ v ∈ c ∧ v ∈ d) → d_laws_FnRuleVars_L1 y a b c d k l i = k := by
  intro l
  induction l with
  | nil => intro i _; rfl
  | cons x xs ih =>
    intro i h
    obtain ⟨h1, h2, h3⟩ := h x (by simp)
    have e1 : b.contains x = true := by simpa using h1
    have e2 : c.contains x = true := by simpa using h2
    have e3 : d.contains x = true := by simpa using h3
    rw [d_laws_FnRuleVars_L1, hasT, Option.bind_some, e1, Bool.not_true, cond_false, hasT, Option.bind_some, e2, Bool.not_true, cond_false, hasT, Option.bind_some, e3, Bool.not_true, cond_false]
    exact ih (i + 1) fun v hv => h v (by simp [hv])
theorem loop3 (y : Rule × Int) (c d : List Bytes) (i2 : Nat) (z : List Bytes) (k : Option Bool) : ∀ (l : List Bytes) (i : Nat), (∀ v ∈ l, v ∈ c) → d_laws_FnRuleVars_L3 y c d i2 z k l i = k := by
  intro l
  induction l with
  | nil => intro i _; rfl
  | cons x xs ih =>
    intro i h
    have e2 : c.contains x = true := by simpa using h x (by simp)
    rw [d_laws_FnRuleVars_L3, hasT, Option.bind_some, e2, Bool.not_true, cond_false]
    exact ih (i + 1) fun v hv => h v (by simp [hv])
theorem loop2 (y : Rule × Int) (c d : List Bytes) (k : Option Bool) : ∀ (l : List Action) (i : Nat), (∀ a ∈ l, SmallA a ∧ ∀ v ∈ varsB a.pat.args, v ∈ c) → d_laws_FnRuleVars_L2 y c d k l i = k := by
  intro l
  induction l with
  | nil => intro i _; rfl
  | cons x xs ih =>
    intro i h
    obtain ⟨h1, h2⟩ := h x (by simp)
    have hl : decide ((uniqS (varsB x.pat.args)).length ≤ maxLen) = true := by
      have a1 := len_uniqS (varsB x.pat.args)
      have a2 := varsB_len x.pat.args
      have a3 := h1.2.1
      refine decide_eq_true (Nat.le_trans (Nat.le_trans a1 (Nat.le_trans a2 a3)) (by decide))
    rw [d_laws_FnRuleVars_L2, sVarsOf _ (SmallF.wt h1 (by decide)), Option.bind_some, hl, cond_true, loop3 y c d i _ _ _ 0 (fun v hv => h2 v (mem_uniqS.1 hv))]
    exact ih (i + 1) fun a ha => h a (by simp [ha])
theorem law_ok (code : List Int) : d_laws_FnRuleVars code = some true := by
  unfold d_laws_FnRuleVars d_laws_big
  rw [Option.bind_some, List.length_map]
  by_cases hl : (code.length : Int) > 4096
  · rw [decide_eq_true hl, cond_true]
  have hc4 : code.length ≤ 4096 := by omega
  rw [decide_eq_false hl, cond_false]
  obtain ⟨r, n, e0, hr, hn1, hn2⟩ := sDrawBound code hc4
  have w := hr.wt (by decide)
  have en : IntKind.i64.wrap (n + 1) = n + 1 := wrap_in (InR.i64.2 (by omega))
  rw [e0, Option.bind_some]
  dsimp only
  rw [iBound r n w, Option.bind_some, en, iBound r _ w, Option.bind_some, iBound r _ w, Option.bind_some, iRuleV r w, Option.bind_some]
  have hlen : decide ((uniqS (bndV r n)).length ≤ maxLen) = true := by
    have a1 := len_uniqS (bndV r n)
    have a2 := bndV_len w n
    exact decide_eq_true (Nat.le_trans (Nat.le_trans a1 a2) (by decide))
  rw [hlen, cond_true, loop1]
  · rw [sRule r w, Option.bind_some]
    cases hb : ruleB r with
    | false => rfl
    | true =>
      have hal : decide (r.acts.length ≤ maxLen) = true := decide_eq_true (Nat.le_trans hr.2.2.1 (by decide))
      unfold ruleB at hb
      simp only [Bool.and_eq_true, decide_eq_true_eq] at hb
      obtain ⟨_, _, hact, h6⟩ := hb
      rw [Bool.not_true, cond_false, hal, cond_true, loop2]
      · rw [actsB_vars hact, List.length_map, decide_eq_true h6]
      · intro a ha
        refine ⟨hr.2.2.2 a ha, fun v hv => ?_⟩
        unfold actsB at hact
        have h1 := List.all_eq_true.1 hact a ha
        simp only [Bool.and_eq_true] at h1
        have h2 := List.all_eq_true.1 h1.2 v hv
        rw [List.length_map]
        exact mem_uniqS.2 (by simpa using h2)
  · intro v hv
    have hv := mem_uniqS.1 hv
    refine ⟨mem_uniqS.2 (bnd_mono r (.inl (by omega)) hv), mem_uniqS.2 (bnd_mono r (.inr (by rw [List.length_map]; omega)) hv), mem_uniqS.2 ?_⟩
    have := bnd_sub r n hv
    unfold rulV
    exact List.mem_append.2 (.inl this)
theorem law_good (code : List Int) : Good Try.prog 3 [.sl (code.map yx)] (.bool true) := d_laws_FnRuleVars_good (law_ok code)
end LawFnRuleVars
end Go.Cx
