/- Shapes in plain words: a shape is its own shape; a pattern and its shape cover each other. No condition but bounds on sizes. -/
import Derived.Test.YtdckcgjimblpkaaDoorPShapesNLwE
namespace Go.Cx
open Go.RowKit Go.Proofs
set_option linter.unusedVariables false
set_option linter.unusedSimpArgs false
/-- the k-th plain name -/
def nmB (k : Nat) : Bytes := [63] ++ Lib.itoa ((k : Int) + 1)
theorem decDigits_one {u : Nat} (h : u < 10) : Lib.decDigits u = [UInt8.ofNat (48 + u)] := by
  rw [Lib.decDigits, dif_pos h]
theorem nmB_lit : ∀ i, i < 6 → nmB i = [63, UInt8.ofNat (49 + i)]
  | 0, _ | 1, _ | 2, _ | 3, _ | 4, _ | 5, _ => by
    unfold nmB Lib.itoa
    rw [if_neg (by decide), decDigits_one (by decide)]
    decide
  | n + 6, h => by omega
theorem nmB_inj : ∀ i, i < 6 → ∀ j, j < 6 → nmB i = nmB j → i = j := by
  intro i hi j hj e
  rw [nmB_lit i hi, nmB_lit j hj] at e
  revert i j
  decide
theorem nmB_var : ∀ i, i < 6 → varB (nmB i) = true := by
  intro i hi
  rw [nmB_lit i hi]
  revert i
  decide
def dupP (p : Pair) : Pair := ⟨p.value, p.value⟩
/-- pairs that give variables plain names, in order -/
def WfN (N : List Pair) : Prop := ∀ (i : Nat) p, N[i]? = some p → p.value = nmB i ∧ varB p.var = true
theorem hasV_iff (N : List Pair) (t : Bytes) : hasV N t = true ↔ ∃ p ∈ N, p.var = t := by simp [hasV]
theorem nameP_mem (N : List Pair) (t : Bytes) {p : Pair} (h : p ∈ N) : p ∈ nameP N t := by
  unfold nameP
  cases varB t && !hasV N t <;> simp [h]
theorem fold_mem : ∀ (ts : List Bytes) (N : List Pair) {p : Pair}, p ∈ N → p ∈ ts.foldl nameP N
  | [], _, _, h => h
  | t :: ts, N, p, h => fold_mem ts (nameP N t) (nameP_mem N t h)
theorem wf_nameP {N : List Pair} (h : WfN N) (t : Bytes) : WfN (nameP N t) := by
  unfold nameP
  cases hv : varB t && !hasV N t with
  | false => exact h
  | true =>
    simp only [Bool.and_eq_true] at hv
    intro i p hp
    rw [cond_true] at hp
    rcases Nat.lt_or_ge i N.length with hlt | hge
    · rw [List.getElem?_append_left hlt] at hp; exact h i p hp
    · rw [List.getElem?_append_right hge] at hp
      cases hi : i - N.length with
      | zero =>
        rw [hi] at hp; simp at hp; subst hp
        have : i = N.length := by omega
        subst this; exact ⟨rfl, hv.1⟩
      | succ m => rw [hi] at hp; simp at hp
theorem wf_fold : ∀ (ts : List Bytes) {N : List Pair}, WfN N → WfN (ts.foldl nameP N)
  | [], _, h => h
  | t :: ts, _, h => wf_fold ts (wf_nameP h t)
/-- keys are told apart -/
def NdK (N : List Pair) : Prop := (N.map Pair.var).Nodup
theorem ndk_nameP {N : List Pair} (h : NdK N) (t : Bytes) : NdK (nameP N t) := by
  unfold nameP
  cases hv : varB t && !hasV N t with
  | false => exact h
  | true =>
    simp only [Bool.and_eq_true, Bool.not_eq_true'] at hv
    rw [cond_true]
    unfold NdK
    rw [List.map_append, List.nodup_append]
    refine ⟨h, by simp, ?_⟩
    intro a ha b hb e
    simp at hb
    subst hb; subst e
    obtain ⟨p, hp, he⟩ := List.mem_map.1 ha
    have := (hasV_iff N a).2 ⟨p, hp, he⟩
    rw [hv.2] at this; cases this
theorem ndk_fold : ∀ (ts : List Bytes) {N : List Pair}, NdK N → NdK (ts.foldl nameP N)
  | [], _, h => h
  | t :: ts, _, h => ndk_fold ts (ndk_nameP h t)
theorem fold_has : ∀ (ts : List Bytes) (N : List Pair) {t : Bytes}, t ∈ ts → varB t = true → ∃ p ∈ ts.foldl nameP N, p.var = t
  | x :: ts, N, t, h, hv => by
    rcases List.mem_cons.1 h with rfl | h
    · have : ∃ p ∈ nameP N t, p.var = t := by
        unfold nameP
        cases hh : hasV N t with
        | true => rw [hv]; exact (hasV_iff N t).1 hh
        | false => rw [hv]; exact ⟨⟨t, [63] ++ Lib.itoa ((N.length : Int) + 1)⟩, by simp, rfl⟩
      obtain ⟨p, hp, he⟩ := this
      exact ⟨p, fold_mem ts _ hp, he⟩
    · exact fold_has ts _ h hv
theorem rnB_key : ∀ {N : List Pair} {p : Pair}, NdK N → p ∈ N → rnB N p.var = p.value
  | q :: N, p, hn, hp => by
    unfold NdK at hn
    rw [List.map_cons, List.nodup_cons] at hn
    rcases List.mem_cons.1 hp with rfl | hp
    · simp [rnB]
    · have hne : (q.var == p.var) = false := by
        rw [beq_eq_false_iff_ne]
        intro e
        exact hn.1 (by rw [e]; exact List.mem_map.2 ⟨p, hp, rfl⟩)
      rw [rnB, hne, cond_false]
      exact rnB_key (show NdK N from hn.2) hp
theorem rnB_other : ∀ {N : List Pair} {t : Bytes}, (∀ p ∈ N, p.var ≠ t) → rnB N t = t
  | [], t, _ => rfl
  | q :: N, t, h => by
    have hne : (q.var == t) = false := by rw [beq_eq_false_iff_ne]; exact h q (by simp)
    rw [rnB, hne, cond_false]
    exact rnB_other fun p hp => h p (by simp [hp])
theorem rnB_dup : ∀ (N : List Pair) (t : Bytes), rnB (N.map dupP) t = t
  | [], _ => rfl
  | q :: N, t => by
    rw [List.map_cons, rnB]
    cases h : (dupP q).var == t with
    | true => simp only [cond_true]; have : (dupP q).var = t := by simpa using h
              exact this
    | false => simp only [cond_false]; exact rnB_dup N t
theorem WfN.nil : WfN [] := fun i p h => by simp at h
theorem NdK.nil : NdK [] := by simp [NdK]
theorem fold_len_le (ts : List Bytes) : (ts.foldl nameP []).length ≤ ts.length := by simpa using foldl_nameP_len ts []
/-- what the names do -/
theorem wf_mem {N : List Pair} (h : WfN N) {p : Pair} (hp : p ∈ N) : ∃ i, i < N.length ∧ N[i]? = some p ∧ p.value = nmB i ∧ varB p.var = true := by
  obtain ⟨i, hi⟩ := List.getElem?_of_mem hp
  exact ⟨i, (List.getElem?_eq_some_iff.1 hi).1, hi, h i p hi⟩
theorem nm_novar {ts : List Bytes} {t : Bytes} (ht : varB t = false) : rnB (ts.foldl nameP []) t = t :=
  rnB_other fun p hp e => by
    obtain ⟨i, _, _, _, hv⟩ := wf_mem (wf_fold ts WfN.nil) hp
    rw [e, ht] at hv; cases hv
/-- the names of the names -/
theorem fold_dup (g : Bytes → Bytes) (hg : ∀ t, varB t = false → g t = t) : ∀ (ts : List Bytes) (N : List Pair), WfN N → N.length + ts.length ≤ 5 → (∀ p ∈ ts.foldl nameP N, g p.var = p.value) →
    (ts.map g).foldl nameP (N.map dupP) = (ts.foldl nameP N).map dupP
  | [], _, _, _, _ => rfl
  | t :: ts, N, hw, hl, hk => by
    simp only [List.length_cons] at hl
    rw [List.map_cons, List.foldl_cons, List.foldl_cons]
    have step : nameP (N.map dupP) (g t) = (nameP N t).map dupP := by
      cases hv : varB t with
      | false =>
        rw [hg t hv]
        simp [nameP, hv]
      | true =>
        cases hh : hasV N t with
        | true =>
          obtain ⟨p, hp, he⟩ := (hasV_iff N t).1 hh
          have hgt : g t = p.value := by
            rw [← he]; exact hk p (fold_mem ts _ (nameP_mem N t hp))
          obtain ⟨i, hi, _, hpv, _⟩ := wf_mem hw hp
          have h2 : hasV (N.map dupP) (g t) = true := (hasV_iff _ _).2 ⟨dupP p, List.mem_map.2 ⟨p, hp, rfl⟩, hgt.symm⟩
          unfold nameP
          rw [h2, hh]
          simp
        | false =>
          have hnew : nameP N t = N ++ [⟨t, nmB N.length⟩] := by unfold nameP; rw [hv, hh]; rfl
          have hgt : g t = nmB N.length := hk ⟨t, nmB N.length⟩ (fold_mem ts _ (by rw [hnew]; simp))
          have h2 : hasV (N.map dupP) (nmB N.length) = false := by
            cases h3 : hasV (N.map dupP) (nmB N.length) with
            | false => rfl
            | true =>
              obtain ⟨q, hq, he⟩ := (hasV_iff _ _).1 h3
              obtain ⟨p, hp, rfl⟩ := List.mem_map.1 hq
              obtain ⟨i, hi, _, hpv, _⟩ := wf_mem hw hp
              have := nmB_inj i (by omega) N.length (by omega) (by rw [← hpv]; exact he)
              omega
          rw [hgt, hnew]
          unfold nameP
          rw [nmB_var _ (by omega), h2, List.length_map, List.map_append]
          rfl
    rw [step]
    exact fold_dup g hg ts (nameP N t) (wf_nameP hw t) (by have := nameP_len N t; omega) hk
theorem shape_args (p : Fact) : (shapeB p).args = p.args.map (rnB (p.args.foldl nameP [])) := rfl
theorem shape_shape (p : Fact) (h : p.args.length ≤ 5) : shapeB (shapeB p) = shapeB p := by
  have e := fold_dup (rnB (p.args.foldl nameP [])) (fun t ht => nm_novar ht) p.args [] WfN.nil (by simpa using h) (fun q hq => rnB_key (ndk_fold p.args NdK.nil) hq)
  rw [List.map_nil] at e
  have e2 : (shapeB (shapeB p)).args = (shapeB p).args := by
    rw [shape_args (shapeB p), shape_args p, e]
    rw [List.map_map]
    apply List.map_congr_left
    intro t _
    exact rnB_dup _ _
  have e3 : (shapeB (shapeB p)).rel = (shapeB p).rel := rfl
  cases h1 : shapeB (shapeB p); cases h2 : shapeB p
  rw [h1, h2] at e2 e3
  simp only at e2 e3
  rw [e2, e3]
theorem nmB_len : ∀ i, i < 6 → (nmB i).length ≤ 16 := by
  intro i hi
  rw [nmB_lit i hi]
  simp
theorem rn_len {ts : List Bytes} (hl : ts.length ≤ 5) {t : Bytes} (ht : t.length ≤ 16) : (rnB (ts.foldl nameP []) t).length ≤ 16 := by
  by_cases h : ∃ p ∈ ts.foldl nameP [], p.var = t
  · obtain ⟨p, hp, he⟩ := h
    rw [← he, rnB_key (ndk_fold ts NdK.nil) hp]
    obtain ⟨i, hi, _, hpv, _⟩ := wf_mem (wf_fold ts WfN.nil) hp
    have := fold_len_le ts
    rw [hpv]; exact nmB_len i (by omega)
  · rw [rnB_other (fun p hp e => h ⟨p, hp, e⟩)]; exact ht
/-! covers -/
theorem mHas_put (x y : Bytes) (v : Bytes) : ∀ (m : List (Bytes × Bytes)), mHas y (mPut x v m) = (y == x || mHas y m)
  | [] => by simp only [mPut, mHas]; cases y == x <;> rfl
  | p :: m => by
    simp only [mPut]
    cases h : x == p.1 with
    | true =>
      have h' : x = p.1 := by simpa using h
      subst h'
      simp only [cond_true, mHas]
      cases y == p.1 <;> simp
    | false =>
      simp only [cond_false, mHas, mHas_put x y v m]
      cases hy : y == p.1 with
      | true => simp
      | false => simp
theorem mGet_putB (x y : Bytes) (v : Bytes) : ∀ (m : List (Bytes × Bytes)), mGet [] y (mPut x v m) = bif y == x then v else mGet [] y m
  | [] => by simp only [mPut, mGet]
  | p :: m => by
    simp only [mPut]
    cases h : x == p.1 with
    | true =>
      have h' : x = p.1 := by simpa using h
      subst h'
      simp only [cond_true, mGet]
      cases y == p.1 <;> rfl
    | false =>
      simp only [cond_false, mGet, mGet_putB x y v m]
      cases hy : y == p.1 with
      | true =>
        have h1 : y = p.1 := by simpa using hy
        have h2 : (y == x) = false := by
          rw [beq_eq_false_iff_ne] at h ⊢
          intro e; exact h (e.symm.trans h1)
        simp [h2]
      | false => simp
theorem iCoverL (a b : Fact) (k : Option Bool) (h : Bytes → Bytes) (hb : b.args = a.args.map h) (hat : ∀ x ∈ a.args, atomB x = true → h x = x) (ha : ∀ x ∈ a.args, x.length ≤ 1048576) :
    ∀ (rest pre : List Bytes) (m : List (Bytes × Bytes)), a.args = pre ++ rest → (∀ y, mHas y m = true → mGet [] y m = h y) → d_impl_CoversPattern_L1 a b k rest pre.length m = k := by
  intro rest
  induction rest with
  | nil => intro pre m _ _; rfl
  | cons x rest ih =>
    intro pre m hp hm
    have hx : x ∈ a.args := by rw [hp]; simp
    have e1 : atI b.args ((pre.length : Nat) : Int) = some (h x) := by
      rw [hb, hp, List.map_append, List.map_cons]
      have := atI_mid (a := pre.map h ++ h x :: rest.map h) (pre := pre.map h) (xs := rest.map h) (x := h x) rfl
      rw [List.length_map] at this; exact this
    have hnext : ∀ m', (∀ y, mHas y m' = true → mGet [] y m' = h y) → d_impl_CoversPattern_L1 a b k rest (pre.length + 1) m' = k := by
      intro m' hm'
      have := ih (pre ++ [x]) m' (by rw [hp]; simp) hm'
      rwa [List.length_append, List.length_cons, List.length_nil] at this
    have hput : ∀ y, mHas y (mPut x (h x) m) = true → mGet [] y (mPut x (h x) m) = h y := by
      intro y hy
      rw [mGet_putB]
      cases he : y == x with
      | true => have : y = x := by simpa using he
                rw [this]; rfl
      | false => rw [mHas_put, he, Bool.false_or] at hy; exact hm y hy
    rw [d_impl_CoversPattern_L1, iAtom x (ha x hx), Option.bind_some]
    cases hx2 : atomB x with
    | true =>
      rw [cond_true, e1, Option.bind_some, hat x hx hx2, beq_self_eq_true, Bool.not_true, cond_false]
      exact hnext m hm
    | false =>
      rw [cond_false]
      cases hh : mHas x m with
      | true =>
        rw [cond_true, e1, Option.bind_some, hm x hh, beq_self_eq_true, Bool.not_true, cond_false]
        exact hnext _ hput
      | false =>
        rw [cond_false, e1, Option.bind_some]
        exact hnext _ hput
theorem iCover (a b : Fact) (h : Bytes → Bytes) (pa : patB a = true) (pb : patB b = true) (hr : a.rel = b.rel) (hb : b.args = a.args.map h) (hat : ∀ x ∈ a.args, atomB x = true → h x = x) (wa : a.wt ≤ 1048576) (wb : b.wt ≤ 1048576) : d_impl_CoversPattern a b = some true := by
  unfold d_impl_CoversPattern
  have e1 : (a.rel == b.rel) = true := by rw [hr]; exact beq_self_eq_true _
  have e2 : ((((a.args).map tx).length : Int) != (((b.args).map tx).length : Int)) = false := by rw [hb]; simp
  rw [iPat a wa, Option.bind_some, pa, Bool.not_true, cond_false, iPat b wb, Option.bind_some, pb, Bool.not_true, cond_false, e1, Bool.not_true, cond_false, e2, cond_false]
  exact iCoverL a b (some true) h hb hat (fun x hx => Fact.arg_le wa hx) a.args [] [] rfl (fun y hy => by simp [mHas] at hy)
/-- back from the plain names -/
def unB (N : List Pair) (x : Bytes) : Bytes := match N with
  | [] => x
  | p :: r => bif p.value == x then p.var else unB r x
theorem unB_key : ∀ {N : List Pair} {p : Pair}, (N.map Pair.value).Nodup → p ∈ N → unB N p.value = p.var
  | q :: N, p, hn, hp => by
    rw [List.map_cons, List.nodup_cons] at hn
    rcases List.mem_cons.1 hp with rfl | hp
    · simp [unB]
    · have hne : (q.value == p.value) = false := by
        rw [beq_eq_false_iff_ne]
        intro e
        exact hn.1 (by rw [e]; exact List.mem_map.2 ⟨p, hp, rfl⟩)
      rw [unB, hne, cond_false]
      exact unB_key hn.2 hp
theorem unB_other : ∀ {N : List Pair} {t : Bytes}, (∀ p ∈ N, p.value ≠ t) → unB N t = t
  | [], t, _ => rfl
  | q :: N, t, h => by
    have hne : (q.value == t) = false := by rw [beq_eq_false_iff_ne]; exact h q (by simp)
    rw [unB, hne, cond_false]
    exact unB_other fun p hp => h p (by simp [hp])
theorem vals_nodup {N : List Pair} (h : WfN N) (hl : N.length ≤ 5) : (N.map Pair.value).Nodup := by
  unfold List.Nodup
  rw [List.pairwise_iff_getElem]
  intro i j hi0 hj hij e
  rw [List.length_map] at hj
  rw [List.getElem_map, List.getElem_map] at e
  have h1 := (h i _ (List.getElem?_eq_getElem (by omega))).1
  have h2 := (h j _ (List.getElem?_eq_getElem hj)).1
  rw [h1, h2] at e
  have := nmB_inj i (by omega) j (by omega) e
  omega
theorem un_rn {ts : List Bytes} (hl : ts.length ≤ 5) {t : Bytes} (ht : t ∈ ts) (hT : termB t = true) : unB (ts.foldl nameP []) (rnB (ts.foldl nameP []) t) = t := by
  have hw := wf_fold ts WfN.nil
  have hlen := fold_len_le ts
  cases hv : varB t with
  | true =>
    obtain ⟨p, hp, he⟩ := fold_has ts [] ht hv
    rw [← he, rnB_key (ndk_fold ts NdK.nil) hp, unB_key (vals_nodup hw (by omega)) hp]
  | false =>
    rw [nm_novar hv]
    refine unB_other fun p hp e => ?_
    obtain ⟨i, hi, _, hpv, _⟩ := wf_mem hw hp
    have := nmB_var i (by omega)
    rw [← hpv, e, hv] at this; cases this
theorem shape_pat {p : Fact} (h : patB p = true) (hl : p.args.length ≤ 5) : patB (shapeB p) = true := by
  unfold patB at h ⊢
  rw [Bool.and_eq_true] at h ⊢
  refine ⟨?_, ?_⟩
  · rw [shape_args, List.all_map, List.all_eq_true]
    intro t ht
    have hT := List.all_eq_true.1 h.1 t ht
    show termB (rnB _ t) = true
    cases hv : varB t with
    | false => rw [nm_novar hv]; exact hT
    | true =>
      obtain ⟨q, hq, he⟩ := fold_has p.args [] ht hv
      obtain ⟨i, hi, _, hpv, _⟩ := wf_mem (wf_fold p.args WfN.nil) hq
      have := fold_len_le p.args
      rw [← he, rnB_key (ndk_fold p.args NdK.nil) hq, hpv]
      unfold termB
      rw [nmB_var i (by omega)]; simp
  · have := h.2
    rw [Bool.and_eq_true] at this ⊢
    refine ⟨this.1, ?_⟩
    rw [shape_args, List.length_map]; exact this.2
theorem cover_shape (p : Fact) (h : patB p = true) (hl : p.args.length ≤ 5) (hw : p.wt ≤ 1048576) (hs : (shapeB p).wt ≤ 1048576) : d_impl_CoversPattern p (shapeB p) = some true ∧ d_impl_CoversPattern (shapeB p) p = some true := by
  have hT : ∀ t ∈ p.args, termB t = true := fun t ht => by
    unfold patB at h
    rw [Bool.and_eq_true] at h
    exact List.all_eq_true.1 h.1 t ht
  have hnv : ∀ t, atomB t = true → varB t = false := fun t ha => by
    cases hv : varB t with
    | false => rfl
    | true => rw [var_not_atom hv] at ha; cases ha
  refine ⟨iCover p (shapeB p) _ h (shape_pat h hl) rfl (shape_args p) (fun t _ ha => nm_novar (hnv t ha)) hw hs,
    iCover (shapeB p) p (unB (p.args.foldl nameP [])) (shape_pat h hl) h rfl ?_ (fun x hx ha => ?_) hs hw⟩
  · rw [shape_args, List.map_map]
    have : p.args.map (unB (p.args.foldl nameP []) ∘ rnB (p.args.foldl nameP [])) = p.args.map id := by
      apply List.map_congr_left
      intro t ht
      exact un_rn hl ht (hT t ht)
    rw [this, List.map_id]
  · rw [shape_args] at hx
    obtain ⟨t, ht, rfl⟩ := List.mem_map.1 hx
    cases hv : varB t with
    | true =>
      obtain ⟨q, hq, he⟩ := fold_has p.args [] ht hv
      obtain ⟨i, hi, _, hpv, _⟩ := wf_mem (wf_fold p.args WfN.nil) hq
      have h5 := fold_len_le p.args
      rw [← he, rnB_key (ndk_fold p.args NdK.nil) hq, hpv] at ha
      rw [var_not_atom (nmB_var i (by omega))] at ha; cases ha
    | false =>
      have := un_rn hl ht (hT t ht)
      rw [nm_novar hv] at this ⊢; exact this
end Go.Cx
