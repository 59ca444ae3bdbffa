/- Shapes in plain words: a shape is its own shape; a pattern and its shape cover each other. No condition but bounds on sizes. -/
import Derived.Test.YtdckcgjimblpkaaDoorPCoversNLwE
namespace Go.Cx
open Go.RowKit Go.Proofs
set_option linter.unusedVariables false
set_option linter.unusedSimpArgs false
/-- the k-th plain name -/
def nmB (k : Nat) : Bytes := [63] ++ Lib.itoa ((k : Int) + 1)
theorem decDigits_one {u : Nat} (h : u < 10) : Lib.decDigits u = [UInt8.ofNat (48 + u)] := by
  rw [Lib.decDigits, dif_pos h]
/-- pairs that give variables plain names, in order -/
def WfN (N : List Pair) : Prop := ∀ (i : Nat) p, N[i]? = some p → p.value = nmB i ∧ varB p.var = true
theorem hasV_iff (N : List Pair) (t : Bytes) : hasV N t = true ↔ ∃ p ∈ N, p.var = t := by simp [hasV]
theorem nameP_mem (N : List Pair) (t : Bytes) {p : Pair} (h : p ∈ N) : p ∈ nameP N t := by
  unfold nameP
  cases varB t && !hasV N t <;> simp [h]
theorem fold_mem : ∀ (ts : List Bytes) (N : List Pair) {p : Pair}, p ∈ N → p ∈ ts.foldl nameP N
  | [], _, _, h => h
  | t :: ts, N, p, h => fold_mem ts (nameP N t) (nameP_mem N t h)
theorem wf_nameP {N : List Pair} (h : WfN N) (t : Bytes) : WfN (nameP N t) := by
  unfold nameP
  cases hv : varB t && !hasV N t with
  | false => exact h
  | true =>
    simp only [Bool.and_eq_true] at hv
    intro i p hp
    rw [cond_true] at hp
    rcases Nat.lt_or_ge i N.length with hlt | hge
    · rw [List.getElem?_append_left hlt] at hp; exact h i p hp
    · rw [List.getElem?_append_right hge] at hp
      cases hi : i - N.length with
      | zero =>
        rw [hi] at hp; simp at hp; subst hp
        have : i = N.length := by omega
        subst this; exact ⟨rfl, hv.1⟩
      | succ m => rw [hi] at hp; simp at hp
theorem wf_fold : ∀ (ts : List Bytes) {N : List Pair}, WfN N → WfN (ts.foldl nameP N)
  | [], _, h => h
  | t :: ts, _, h => wf_fold ts (wf_nameP h t)
/-- keys are told apart -/
def NdK (N : List Pair) : Prop := (N.map Pair.var).Nodup
theorem fold_has : ∀ (ts : List Bytes) (N : List Pair) {t : Bytes}, t ∈ ts → varB t = true → ∃ p ∈ ts.foldl nameP N, p.var = t
  | x :: ts, N, t, h, hv => by
    rcases List.mem_cons.1 h with rfl | h
    · have : ∃ p ∈ nameP N t, p.var = t := by
        unfold nameP
        cases hh : hasV N t with
        | true => rw [hv]; exact (hasV_iff N t).1 hh
        | false => rw [hv]; exact ⟨⟨t, [63] ++ Lib.itoa ((N.length : Int) + 1)⟩, by simp, rfl⟩
      obtain ⟨p, hp, he⟩ := this
      exact ⟨p, fold_mem ts _ hp, he⟩
    · exact fold_has ts _ h hv
theorem rnB_other : ∀ {N : List Pair} {t : Bytes}, (∀ p ∈ N, p.var ≠ t) → rnB N t = t
  | [], t, _ => rfl
  | q :: N, t, h => by
    have hne : (q.var == t) = false := by rw [beq_eq_false_iff_ne]; exact h q (by simp)
    rw [rnB, hne, cond_false]
    exact rnB_other fun p hp => h p (by simp [hp])
theorem WfN.nil : WfN [] := fun i p h => by simp at h
theorem NdK.nil : NdK [] := by simp [NdK]
/-- what the names do -/
theorem wf_mem {N : List Pair} (h : WfN N) {p : Pair} (hp : p ∈ N) : ∃ i, i < N.length ∧ N[i]? = some p ∧ p.value = nmB i ∧ varB p.var = true := by
  obtain ⟨i, hi⟩ := List.getElem?_of_mem hp
  exact ⟨i, (List.getElem?_eq_some_iff.1 hi).1, hi, h i p hi⟩
theorem nm_novar {ts : List Bytes} {t : Bytes} (ht : varB t = false) : rnB (ts.foldl nameP []) t = t :=
  rnB_other fun p hp e => by
    obtain ⟨i, _, _, _, hv⟩ := wf_mem (wf_fold ts WfN.nil) hp
    rw [e, ht] at hv; cases hv
theorem shape_args (p : Fact) : (shapeB p).args = p.args.map (rnB (p.args.foldl nameP [])) := rfl
/-! covers -/
theorem mHas_put (x y : Bytes) (v : Bytes) : ∀ (m : List (Bytes × Bytes)), mHas y (mPut x v m) = (y == x || mHas y m)
  | [] => by simp only [mPut, mHas]; cases y == x <;> rfl
  | p :: m => by
    simp only [mPut]
    cases h : x == p.1 with
    | true =>
      have h' : x = p.1 := by simpa using h
      subst h'
      simp only [cond_true, mHas]
      cases y == p.1 <;> simp
    | false =>
      simp only [cond_false, mHas, mHas_put x y v m]
      cases hy : y == p.1 with
      | true => simp
      | false => simp
theorem mGet_putB (x y : Bytes) (v : Bytes) : ∀ (m : List (Bytes × Bytes)), mGet [] y (mPut x v m) = bif y == x then v else mGet [] y m
  | [] => by simp only [mPut, mGet]
  | p :: m => by
    simp only [mPut]
    cases h : x == p.1 with
    | true =>
      have h' : x = p.1 := by simpa using h
      subst h'
      simp only [cond_true, mGet]
      cases y == p.1 <;> rfl
    | false =>
      simp only [cond_false, mGet, mGet_putB x y v m]
      cases hy : y == p.1 with
      | true =>
        have h1 : y = p.1 := by simpa using hy
        have h2 : (y == x) = false := by
          rw [beq_eq_false_iff_ne] at h ⊢
          intro e; exact h (e.symm.trans h1)
        simp [h2]
      | false => simp
theorem iCoverL (a b : Fact) (k : Option Bool) (h : Bytes → Bytes) (hb : b.args = a.args.map h) (hat : ∀ x ∈ a.args, atomB x = true → h x = x) (ha : ∀ x ∈ a.args, x.length ≤ 1048576) :
    ∀ (rest pre : List Bytes) (m : List (Bytes × Bytes)), a.args = pre ++ rest → (∀ y, mHas y m = true → mGet [] y m = h y) → d_impl_CoversPattern_L1 a b k rest pre.length m = k := by
  intro rest
  induction rest with
  | nil => intro pre m _ _; rfl
  | cons x rest ih =>
    intro pre m hp hm
    have hx : x ∈ a.args := by rw [hp]; simp
    have e1 : atI b.args ((pre.length : Nat) : Int) = some (h x) := by
      rw [hb, hp, List.map_append, List.map_cons]
      have := atI_mid (a := pre.map h ++ h x :: rest.map h) (pre := pre.map h) (xs := rest.map h) (x := h x) rfl
      rw [List.length_map] at this; exact this
    have hnext : ∀ m', (∀ y, mHas y m' = true → mGet [] y m' = h y) → d_impl_CoversPattern_L1 a b k rest (pre.length + 1) m' = k := by
      intro m' hm'
      have := ih (pre ++ [x]) m' (by rw [hp]; simp) hm'
      rwa [List.length_append, List.length_cons, List.length_nil] at this
    have hput : ∀ y, mHas y (mPut x (h x) m) = true → mGet [] y (mPut x (h x) m) = h y := by
      intro y hy
      rw [mGet_putB]
      cases he : y == x with
      | true => have : y = x := by simpa using he
                rw [this]; rfl
      | false => rw [mHas_put, he, Bool.false_or] at hy; exact hm y hy
    rw [d_impl_CoversPattern_L1, iAtom x (ha x hx), Option.bind_some]
    cases hx2 : atomB x with
    | true =>
      rw [cond_true, e1, Option.bind_some, hat x hx hx2, beq_self_eq_true, Bool.not_true, cond_false]
      exact hnext m hm
    | false =>
      rw [cond_false]
      cases hh : mHas x m with
      | true =>
        rw [cond_true, e1, Option.bind_some, hm x hh, beq_self_eq_true, Bool.not_true, cond_false]
        exact hnext _ hput
      | false =>
        rw [cond_false, e1, Option.bind_some]
        exact hnext _ hput
theorem iCover (a b : Fact) (h : Bytes → Bytes) (pa : patB a = true) (pb : patB b = true) (hr : a.rel = b.rel) (hb : b.args = a.args.map h) (hat : ∀ x ∈ a.args, atomB x = true → h x = x) (wa : a.wt ≤ 1048576) (wb : b.wt ≤ 1048576) : d_impl_CoversPattern a b = some true := by
  unfold d_impl_CoversPattern
  have e1 : (a.rel == b.rel) = true := by rw [hr]; exact beq_self_eq_true _
  have e2 : ((((a.args).map tx).length : Int) != (((b.args).map tx).length : Int)) = false := by rw [hb]; simp
  rw [iPat a wa, Option.bind_some, pa, Bool.not_true, cond_false, iPat b wb, Option.bind_some, pb, Bool.not_true, cond_false, e1, Bool.not_true, cond_false, e2, cond_false]
  exact iCoverL a b (some true) h hb hat (fun x hx => Fact.arg_le wa hx) a.args [] [] rfl (fun y hy => by simp [mHas] at hy)
end Go.Cx
