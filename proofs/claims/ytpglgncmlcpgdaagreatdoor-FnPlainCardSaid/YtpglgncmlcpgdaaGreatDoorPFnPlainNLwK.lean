/- Shapes in plain words: a shape is its own shape; a pattern and its shape cover each other. No condition but bounds on sizes. -/
import Derived.Test.YtpglgncmlcpgdaaGreatDoorPFnPlainNLwE
namespace Go.Cx
open Go.RowKit Go.Proofs
set_option linter.unusedVariables false
set_option linter.unusedSimpArgs false
/-- the k-th plain name -/
def nmB (k : Nat) : Bytes := [63] ++ Lib.itoa ((k : Int) + 1)
theorem decDigits_one {u : Nat} (h : u < 10) : Lib.decDigits u = [UInt8.ofNat (48 + u)] := by
  rw [Lib.decDigits, dif_pos h]
theorem nmB_lit : ∀ i, i < 6 → nmB i = [63, UInt8.ofNat (49 + i)]
  | 0, _ | 1, _ | 2, _ | 3, _ | 4, _ | 5, _ => by
    unfold nmB Lib.itoa
    rw [if_neg (by decide), decDigits_one (by decide)]
    decide
  | n + 6, h => by omega
theorem nmB_inj : ∀ i, i < 6 → ∀ j, j < 6 → nmB i = nmB j → i = j := by
  intro i hi j hj e
  rw [nmB_lit i hi, nmB_lit j hj] at e
  revert i j
  decide
theorem nmB_var : ∀ i, i < 6 → varB (nmB i) = true := by
  intro i hi
  rw [nmB_lit i hi]
  revert i
  decide
/-- pairs that give variables plain names, in order -/
def WfN (N : List Pair) : Prop := ∀ (i : Nat) p, N[i]? = some p → p.value = nmB i ∧ varB p.var = true
theorem hasV_iff (N : List Pair) (t : Bytes) : hasV N t = true ↔ ∃ p ∈ N, p.var = t := by simp [hasV]
theorem nameP_mem (N : List Pair) (t : Bytes) {p : Pair} (h : p ∈ N) : p ∈ nameP N t := by
  unfold nameP
  cases varB t && !hasV N t <;> simp [h]
theorem fold_mem : ∀ (ts : List Bytes) (N : List Pair) {p : Pair}, p ∈ N → p ∈ ts.foldl nameP N
  | [], _, _, h => h
  | t :: ts, N, p, h => fold_mem ts (nameP N t) (nameP_mem N t h)
theorem wf_nameP {N : List Pair} (h : WfN N) (t : Bytes) : WfN (nameP N t) := by
  unfold nameP
  cases hv : varB t && !hasV N t with
  | false => exact h
  | true =>
    simp only [Bool.and_eq_true] at hv
    intro i p hp
    rw [cond_true] at hp
    rcases Nat.lt_or_ge i N.length with hlt | hge
    · rw [List.getElem?_append_left hlt] at hp; exact h i p hp
    · rw [List.getElem?_append_right hge] at hp
      cases hi : i - N.length with
      | zero =>
        rw [hi] at hp; simp at hp; subst hp
        have : i = N.length := by omega
        subst this; exact ⟨rfl, hv.1⟩
      | succ m => rw [hi] at hp; simp at hp
theorem wf_fold : ∀ (ts : List Bytes) {N : List Pair}, WfN N → WfN (ts.foldl nameP N)
  | [], _, h => h
  | t :: ts, _, h => wf_fold ts (wf_nameP h t)
/-- keys are told apart -/
def NdK (N : List Pair) : Prop := (N.map Pair.var).Nodup
theorem ndk_nameP {N : List Pair} (h : NdK N) (t : Bytes) : NdK (nameP N t) := by
  unfold nameP
  cases hv : varB t && !hasV N t with
  | false => exact h
  | true =>
    simp only [Bool.and_eq_true, Bool.not_eq_true'] at hv
    rw [cond_true]
    unfold NdK
    rw [List.map_append, List.nodup_append]
    refine ⟨h, by simp, ?_⟩
    intro a ha b hb e
    simp at hb
    subst hb; subst e
    obtain ⟨p, hp, he⟩ := List.mem_map.1 ha
    have := (hasV_iff N a).2 ⟨p, hp, he⟩
    rw [hv.2] at this; cases this
theorem ndk_fold : ∀ (ts : List Bytes) {N : List Pair}, NdK N → NdK (ts.foldl nameP N)
  | [], _, h => h
  | t :: ts, _, h => ndk_fold ts (ndk_nameP h t)
theorem fold_has : ∀ (ts : List Bytes) (N : List Pair) {t : Bytes}, t ∈ ts → varB t = true → ∃ p ∈ ts.foldl nameP N, p.var = t
  | x :: ts, N, t, h, hv => by
    rcases List.mem_cons.1 h with rfl | h
    · have : ∃ p ∈ nameP N t, p.var = t := by
        unfold nameP
        cases hh : hasV N t with
        | true => rw [hv]; exact (hasV_iff N t).1 hh
        | false => rw [hv]; exact ⟨⟨t, [63] ++ Lib.itoa ((N.length : Int) + 1)⟩, by simp, rfl⟩
      obtain ⟨p, hp, he⟩ := this
      exact ⟨p, fold_mem ts _ hp, he⟩
    · exact fold_has ts _ h hv
theorem rnB_key : ∀ {N : List Pair} {p : Pair}, NdK N → p ∈ N → rnB N p.var = p.value
  | q :: N, p, hn, hp => by
    unfold NdK at hn
    rw [List.map_cons, List.nodup_cons] at hn
    rcases List.mem_cons.1 hp with rfl | hp
    · simp [rnB]
    · have hne : (q.var == p.var) = false := by
        rw [beq_eq_false_iff_ne]
        intro e
        exact hn.1 (by rw [e]; exact List.mem_map.2 ⟨p, hp, rfl⟩)
      rw [rnB, hne, cond_false]
      exact rnB_key (show NdK N from hn.2) hp
theorem rnB_other : ∀ {N : List Pair} {t : Bytes}, (∀ p ∈ N, p.var ≠ t) → rnB N t = t
  | [], t, _ => rfl
  | q :: N, t, h => by
    have hne : (q.var == t) = false := by rw [beq_eq_false_iff_ne]; exact h q (by simp)
    rw [rnB, hne, cond_false]
    exact rnB_other fun p hp => h p (by simp [hp])
theorem WfN.nil : WfN [] := fun i p h => by simp at h
theorem NdK.nil : NdK [] := by simp [NdK]
/-- what the names do -/
theorem wf_mem {N : List Pair} (h : WfN N) {p : Pair} (hp : p ∈ N) : ∃ i, i < N.length ∧ N[i]? = some p ∧ p.value = nmB i ∧ varB p.var = true := by
  obtain ⟨i, hi⟩ := List.getElem?_of_mem hp
  exact ⟨i, (List.getElem?_eq_some_iff.1 hi).1, hi, h i p hi⟩
theorem nm_novar {ts : List Bytes} {t : Bytes} (ht : varB t = false) : rnB (ts.foldl nameP []) t = t :=
  rnB_other fun p hp e => by
    obtain ⟨i, _, _, _, hv⟩ := wf_mem (wf_fold ts WfN.nil) hp
    rw [e, ht] at hv; cases hv
theorem nmB_len : ∀ i, i < 6 → (nmB i).length ≤ 16 := by
  intro i hi
  rw [nmB_lit i hi]
  simp
/-! covers -/
end Go.Cx
