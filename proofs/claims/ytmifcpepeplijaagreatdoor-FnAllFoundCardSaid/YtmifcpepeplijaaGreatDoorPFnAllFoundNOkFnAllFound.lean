/- FnAllFound: facts that match one after the other, with all conditions held, are a match, and no others: the law returns true. No condition. -/
import Derived.Test.YtmifcpepeplijaaGreatDoorPFnAllFoundNLwJ
import Derived.Test.YtmifcpepeplijaaGreatDoorPFnAllFoundNLwP
import Derived.Test.YtmifcpepeplijaaGreatDoorPFnAllFoundNLawFnAllFound
namespace Go.Cx
open Go.RowKit Go.Proofs
set_option linter.unusedVariables false
set_option linter.unusedSimpArgs false
namespace LawFnAllFound
theorem atI_nat {α : Type} {l : List α} {i : Nat} {x : α} (h : l[i]? = some x) : atI l (i : Int) = some x := by
  unfold atI; rw [decide_eq_true (by omega), cond_true]; exact h
theorem sDrawM (code : List Int) (h : code.length ≤ 4096) : ∃ r l, d_spec_DrawMatchesOf code = some (r, l) ∧ SmallR 5 r ∧ SmallL 65 l := sDrawMts code h
/-! the tokens: which facts and bindings there are -/
def runT (fs : List Fact) : List Cond → List Fact → List Pair → Option (List Pair)
  | [], [], b => some b
  | [], _ :: _, _ => none
  | c :: cs, F, b => if c.kind = 1 then (match F with | [] => none | f :: F' => if f ∈ fs ∧ (matF c.pat f b).2 = true then runT fs cs F' (matF c.pat f b).1 else none) else if hldC c b fs = true then runT fs cs F b else none
theorem tok_mem (fs : List Fact) : ∀ (cs : List Cond) (A : List Token) (u : Token), u ∈ cs.foldl (nxtB fs) A ↔ ∃ t ∈ A, ∃ F, u.facts = t.facts ++ F ∧ runT fs cs F t.bind = some u.bind := by
  intro cs
  induction cs with
  | nil =>
    intro A u
    constructor
    · intro h; exact ⟨u, h, [], by simp, rfl⟩
    · rintro ⟨t, ht, F, h1, h2⟩
      cases F with
      | nil =>
        have e : t.bind = u.bind := by simpa [runT] using h2
        have e2 : u.facts = t.facts := by simpa using h1
        have : u = t := by cases u; cases t; cases e; cases e2; rfl
        rw [this]; exact ht
      | cons f F => simp [runT] at h2
  | cons c cs ih =>
    intro A u
    rw [List.foldl_cons, ih]
    constructor
    · rintro ⟨t', ht', F, h1, h2⟩
      obtain ⟨t, ht, hn⟩ := List.mem_flatMap.1 ht'
      refine ⟨t, ht, ?_⟩
      unfold nxt1 at hn
      by_cases hk : c.kind = 1
      · rw [decide_eq_true hk, cond_true] at hn
        obtain ⟨f, hf, hn⟩ := List.mem_flatMap.1 hn
        unfold ext1 at hn
        cases hm : (matF c.pat f t.bind).2 with
        | false => rw [hm] at hn; cases hn
        | true =>
          rw [hm, cond_true] at hn
          have := List.mem_singleton.1 hn
          subst this
          exact ⟨f :: F, by rw [h1]; simp, by simp only [runT]; rw [if_pos hk, if_pos ⟨hf, hm⟩]; exact h2⟩
      · rw [decide_eq_false hk, cond_false] at hn
        cases hh : hldC c t.bind fs with
        | false => rw [hh] at hn; cases hn
        | true =>
          rw [hh, cond_true] at hn
          have := List.mem_singleton.1 hn
          subst this
          exact ⟨F, h1, by simp only [runT]; rw [if_neg hk, if_pos hh]; exact h2⟩
    · rintro ⟨t, ht, F, h1, h2⟩
      simp only [runT] at h2
      by_cases hk : c.kind = 1
      · rw [if_pos hk] at h2
        cases F with
        | nil => cases h2
        | cons f F =>
          dsimp only at h2
          split at h2
          · rename_i hc
            refine ⟨⟨t.facts ++ [f], (matF c.pat f t.bind).1⟩, List.mem_flatMap.2 ⟨t, ht, ?_⟩, F, by rw [h1]; simp, h2⟩
            unfold nxt1
            rw [decide_eq_true hk, cond_true]
            refine List.mem_flatMap.2 ⟨f, hc.1, ?_⟩
            unfold ext1
            rw [hc.2, cond_true]; exact List.mem_singleton.2 rfl
          · cases h2
      · rw [if_neg hk] at h2
        split at h2
        · rename_i hh
          refine ⟨t, List.mem_flatMap.2 ⟨t, ht, ?_⟩, F, h1, h2⟩
          unfold nxt1
          rw [decide_eq_false hk, cond_false, hh, cond_true]; exact List.mem_singleton.2 rfl
        · cases h2
def foldA : List Cond → List Fact → Bool → List Pair → Bool × List Pair
  | [], _, ok, b => (ok, b)
  | c :: cs, F, ok, b => if c.kind = 1 then (match F with | [] => (false, []) | f :: F' => foldA cs F' (ok && (matF c.pat f b).2) (matF c.pat f b).1) else foldA cs F ok b
def hasN (cs : List Cond) : Nat := (cs.filter fun c => decide (c.kind = 1)).length
theorem foldA_false : ∀ (cs : List Cond) (F : List Fact) (b : List Pair), (foldA cs F false b).1 = false
  | [], _, _ => rfl
  | c :: cs, F, b => by
    unfold foldA
    by_cases hk : c.kind = 1
    · rw [if_pos hk]
      cases F with
      | nil => rfl
      | cons f F => dsimp only; rw [Bool.false_and]; exact foldA_false cs F _
    · rw [if_neg hk]; exact foldA_false cs F b
def UU (r : Rule) : List Bytes := uniqS (cndV r.conds)
structure Inv (r : Rule) (pre : List Cond) (b : List Pair) : Prop where
  wb : WB (UU r) b
  dom : ∀ v, (∃ o, findP v b = some o) ↔ v ∈ pre.flatMap bnd1
theorem Inv.nil (r : Rule) : Inv r [] [] := ⟨WB.nil _, fun v => by simp [findP]⟩
theorem inU {r : Rule} {c : Cond} (hc : c ∈ r.conds) {x : Bytes} (hx : x ∈ condV c) : x ∈ UU r := mem_uniqS.2 (List.mem_flatMap.2 ⟨c, hc, hx⟩)
theorem bnd1_kind {c : Cond} (hk : c.kind = 1) : bnd1 c = varsB c.pat.args := by unfold bnd1; rw [decide_eq_true hk]; rfl
theorem bnd1_other {c : Cond} (hk : c.kind ≠ 1) : bnd1 c = [] := by unfold bnd1; rw [decide_eq_false hk]; rfl
theorem Inv.has {r : Rule} (h6 : (UU r).length ≤ 6) {pre : List Cond} {b : List Pair} (h : Inv r pre b) {c : Cond} (hc : c ∈ r.conds) (hk : c.kind = 1) (hp : patB c.pat = true) {f : Fact} (hm : (matF c.pat f b).2 = true) : Inv r (pre ++ [c]) (matF c.pat f b).1 := by
  have hv : ∀ x ∈ c.pat.args, varB x = true → x ∈ UU r := fun x hx hxv => inU hc (condV_args hx hxv)
  refine ⟨((matF_sem h6 h.wb hp hv).2 hm).1, fun v => ?_⟩
  rw [matF_dom h6 h.wb hp hv hm, h.dom, List.flatMap_append, List.mem_append]
  simp [bnd1_kind hk]
theorem Inv.test {r : Rule} {pre : List Cond} {b : List Pair} (h : Inv r pre b) {c : Cond} (hk : c.kind ≠ 1) : Inv r (pre ++ [c]) b :=
  ⟨h.wb, fun v => by rw [h.dom, List.flatMap_append]; simp [bnd1_other hk]⟩
def Exts (a b : List Pair) : Prop := ∀ v o, findP v a = some o → findP v b = some o
theorem matF_exts {r : Rule} (h6 : (UU r).length ≤ 6) {b : List Pair} (h : WB (UU r) b) {c : Cond} (hc : c ∈ r.conds) (hp : patB c.pat = true) {f : Fact} (hm : (matF c.pat f b).2 = true) : Exts b (matF c.pat f b).1 := by
  have hv : ∀ x ∈ c.pat.args, varB x = true → x ∈ UU r := fun x hx hxv => inU hc (condV_args hx hxv)
  exact fun v o ho => (((matF_sem h6 h hp hv).2 hm).2 v o).2 (.inl ho)
/-- a condition that is no pattern to be there holds of the last binding as of its own -/
theorem held_same {r : Rule} (hr : ruleB r = true) {fs : List Fact} {pre rest : List Cond} {c : Cond} (e : r.conds = pre ++ c :: rest) (hk : c.kind ≠ 1) {b bF : List Pair} (h1 : Inv r pre b) (h2 : Inv r r.conds bF) (hx : Exts b bF) : hldC c b fs = hldC c bF fs := by
  have hcm : c ∈ r.conds := by rw [e]; simp
  have hcb := condsB_get (i := 0) (by rw [← e]; exact ruleB_condsB hr)
  refine hldC_congr (ruleB_six hr) h1.wb h2.wb hcb.1 hk (fun x hx hxv => inU hcm (condV_args hx hxv)) fun x hxc => ?_
  have hf := hcb.2.2 x hxc
  unfold fitB at hf
  rw [decide_eq_false hk, Bool.false_or, Bool.or_eq_true, Bool.and_eq_true, Nat.zero_add] at hf
  rcases hf with hf | ⟨h3, h4⟩
  · rw [List.contains_iff_mem] at hf
    unfold bndV at hf
    rw [e, Int.toNat_natCast, List.take_left] at hf
    obtain ⟨o, ho⟩ := (h1.dom x).2 hf
    rw [ho, hx x o ho]
  · have hn : findP x bF = none := by
      cases hF : findP x bF with
      | none => rfl
      | some o =>
        have hm := (h2.dom x).1 ⟨o, hF⟩
        obtain ⟨c', hc', hb'⟩ := List.mem_flatMap.1 hm
        have hk' : c'.kind = 1 := by
          by_cases q : c'.kind = 1
          · exact q
          · rw [bnd1_other q] at hb'; cases hb'
        rw [bnd1_kind hk'] at hb'
        obtain ⟨q1, q2⟩ := List.mem_filter.1 hb'
        obtain ⟨j, hj⟩ := List.getElem?_of_mem hc'
        have hne : ((0 + j : Nat) : Int) ≠ (pre.length : Int) := by
          intro q
          have : j = pre.length := by omega
          subst this
          rw [e] at hj
          simp at hj
          exact hk (by rw [hj]; exact hk')
        unfold elsB at h4
        rw [elsC_of hj hne (condV_args q1 q2)] at h4
        cases h4
    have hn2 : findP x b = none := by
      cases hb : findP x b with
      | none => rfl
      | some o => rw [hx x o hb] at hn; cases hn
    rw [hn, hn2]
theorem has_held {r : Rule} (hr : ruleB r = true) {fs : List Fact} {c : Cond} (hcm : c ∈ r.conds) (hk : c.kind = 1) (hp : patB c.pat = true) (hc : condB c = true) {b bF : List Pair} (hb : WB (UU r) b) (hF : WB (UU r) bF) {f : Fact} (hf : f ∈ fs) (hm : (matF c.pat f b).2 = true) (hx : Exts (matF c.pat f b).1 bF) : hldC c bF fs = true := by
  have hv : ∀ x ∈ c.pat.args, varB x = true → x ∈ UU r := fun x hx hxv => inU hcm (condV_args hx hxv)
  have hs := Says.of hF
  have hs2 : Says (fun y => (findP y bF).getD y) (matF c.pat f b).1 := fun v o ho => hs.1 v o (hx v o ho)
  obtain ⟨_, hfit⟩ := (matF_says (ruleB_six hr) hb hp hv hm hs.2).1 hs2
  have h2 : (matF c.pat f bF).2 = true := (matF_sem (ruleB_six hr) hF hp hv).1.2 ⟨_, hs.1, hs.2, hfit⟩
  unfold hldC
  rw [hc, hF.ok, decide_eq_true hk, cond_true]
  have : f ∈ fitF c.pat bF fs := List.mem_filter.2 ⟨hf, h2⟩
  rw [decide_eq_true (List.length_pos_of_mem this)]; rfl
theorem main {r : Rule} (hr : ruleB r = true) (fs : List Fact) : ∀ (rest pre : List Cond) (F : List Fact) (b : List Pair), r.conds = pre ++ rest → Inv r pre b → (∀ f ∈ F, f ∈ fs) →
    (∀ bF, runT fs rest F b = some bF → foldA rest F true b = (true, bF) ∧ Inv r r.conds bF ∧ Exts b bF ∧ ∀ c ∈ rest, hldC c bF fs = true) ∧
    (∀ bF, foldA rest F true b = (true, bF) → F.length = hasN rest → Inv r r.conds bF ∧ Exts b bF ∧ ((∀ c ∈ rest, hldC c bF fs = true) → runT fs rest F b = some bF)) := by
  intro rest
  induction rest with
  | nil =>
    intro pre F b e hi hF
    rw [List.append_nil] at e
    constructor
    · intro bF h
      cases F with
      | nil => simp only [runT, Option.some.injEq] at h; subst h; exact ⟨rfl, by rw [e]; exact hi, fun v o h => h, by simp⟩
      | cons f F => simp [runT] at h
    · intro bF h hl
      have hF0 : F = [] := by cases F with | nil => rfl | cons _ _ => simp [hasN] at hl
      subst hF0
      simp only [foldA, Prod.mk.injEq] at h
      obtain ⟨_, rfl⟩ := h
      exact ⟨by rw [e]; exact hi, fun v o h => h, fun _ => rfl⟩
  | cons c rest ih =>
    intro pre F b e hi hF
    have hcm : c ∈ r.conds := by rw [e]; simp
    have e' : r.conds = (pre ++ [c]) ++ rest := by rw [e]; simp
    have hcb := ruleB_conds hr c hcm
    have h6 := ruleB_six hr
    by_cases hk : c.kind = 1
    · have hp := (condB_pat hcb (.inl hk)).1
      have e1 : hasN (c :: rest) = hasN rest + 1 := by unfold hasN; rw [List.filter_cons, decide_eq_true hk]; rfl
      cases F with
      | nil =>
        constructor
        · intro bF h; simp only [runT] at h; rw [if_pos hk] at h; cases h
        · intro bF h hl; rw [e1] at hl; simp at hl
      | cons f F =>
        cases hm : (matF c.pat f b).2 with
        | false =>
          constructor
          · intro bF h
            simp only [runT] at h
            rw [if_pos hk, if_neg (by rw [hm]; simp)] at h; cases h
          · intro bF h hl
            simp only [foldA] at h
            rw [if_pos hk, hm] at h
            have := foldA_false rest F (matF c.pat f b).1
            rw [Bool.and_false] at h
            rw [h] at this; cases this
        | true =>
          have hi' := hi.has h6 hcm hk hp hm
          obtain ⟨i1, i2⟩ := ih (pre ++ [c]) F _ e' hi' (fun g hg => hF g (by simp [hg]))
          have hx0 := matF_exts h6 hi.wb hcm hp hm
          have hfs := hF f (by simp)
          constructor
          · intro bF h
            simp only [runT] at h
            rw [if_pos hk, if_pos ⟨hfs, hm⟩] at h
            obtain ⟨k1, k2, k3, k4⟩ := i1 bF h
            refine ⟨?_, k2, fun v o ho => k3 v o (hx0 v o ho), fun x hx => ?_⟩
            · simp only [foldA]; rw [if_pos hk, hm]; exact k1
            · rcases List.mem_cons.1 hx with rfl | hx
              · exact has_held hr hcm hk hp hcb hi.wb k2.wb hfs hm k3
              · exact k4 x hx
          · intro bF h hl
            simp only [foldA] at h
            rw [if_pos hk, hm] at h
            rw [e1] at hl
            obtain ⟨k1, k2, k3⟩ := i2 bF h (by simpa using hl)
            refine ⟨k1, fun v o ho => k2 v o (hx0 v o ho), fun hall => ?_⟩
            simp only [runT]
            rw [if_pos hk, if_pos ⟨hfs, hm⟩]
            exact k3 fun x hx => hall x (by simp [hx])
    · have e1 : hasN (c :: rest) = hasN rest := by unfold hasN; rw [List.filter_cons, decide_eq_false hk]; rfl
      obtain ⟨i1, i2⟩ := ih (pre ++ [c]) F b e' (hi.test hk) hF
      constructor
      · intro bF h
        simp only [runT] at h
        rw [if_neg hk] at h
        split at h
        · rename_i hh
          obtain ⟨k1, k2, k3, k4⟩ := i1 bF h
          refine ⟨by simp only [foldA]; rw [if_neg hk]; exact k1, k2, k3, fun x hx => ?_⟩
          rcases List.mem_cons.1 hx with rfl | hx
          · rw [← held_same hr e hk hi k2 k3]; exact hh
          · exact k4 x hx
        · cases h
      · intro bF h hl
        simp only [foldA] at h
        rw [if_neg hk] at h
        rw [e1] at hl
        obtain ⟨k1, k2, k3⟩ := i2 bF h hl
        refine ⟨k1, k2, fun hall => ?_⟩
        simp only [runT]
        rw [if_neg hk, if_pos (by rw [held_same hr e hk hi k1 k2]; exact hall c (by simp))]
        exact k3 fun x hx => hall x (by simp [hx])
theorem mtB_in {r : Rule} {fs : List Fact} (h1 : ruleB r = true) (h2 : areFB fs = true) : mtB r fs = (tokB r.conds fs).map fun t => ⟨r.name, t.facts, t.bind⟩ := by
  unfold mtB; rw [tkO_in h1 h2 (Nat.le_refl _), List.take_length]
theorem mtB_out {r : Rule} {fs : List Fact} (h : ¬ (ruleB r = true ∧ areFB fs = true)) : mtB r fs = [] := by
  unfold mtB tkO
  cases h1 : ruleB r with
  | false => rfl
  | true =>
    cases h2 : areFB fs with
    | false => rfl
    | true => exact absurd ⟨h1, h2⟩ h
theorem mem_mt {r : Rule} {fs : List Fact} (h1 : ruleB r = true) (h2 : areFB fs = true) (F : List Fact) (b : List Pair) : (⟨r.name, F, b⟩ : Match) ∈ mtB r fs ↔ runT fs r.conds F [] = some b := by
  rw [mtB_in h1 h2]
  constructor
  · intro h
    obtain ⟨t, ht, e⟩ := List.mem_map.1 h
    obtain ⟨t0, ht0, F', q1, q2⟩ := (tok_mem fs r.conds _ t).1 ht
    rw [List.mem_singleton.1 ht0] at q1 q2
    cases e
    rw [List.nil_append] at q1
    rw [q1]; exact q2
  · intro h
    exact List.mem_map.2 ⟨⟨F, b⟩, (tok_mem fs r.conds _ _).2 ⟨⟨[], []⟩, by simp, F, by simp, h⟩, rfl⟩
theorem any_mem (l : List Match) (m : Match) : (l.any fun x => decide (x = m)) = decide (m ∈ l) := by
  induction l with
  | nil => rfl
  | cons x l ih =>
    rw [List.any_cons, ih]
    by_cases h : x = m
    · subst h; simp
    · have h' : m ≠ x := fun e => h e.symm
      simp [h, h']
theorem at_val (code : List Int) (hb : ∀ x ∈ code, 0 ≤ x ∧ x ≤ 255) (i : Nat) : ∃ y, d_laws_at code (i : Int) = some y ∧ 0 ≤ y := by
  unfold d_laws_at
  rw [List.length_map]
  by_cases h : (i : Int) ≥ (code.length : Int)
  · rw [decide_eq_true h, cond_true]; exact ⟨0, rfl, by decide⟩
  · rw [decide_eq_false h, cond_false, atI_nat (x := code[i]'(by omega)) (by simp), Option.bind_some]
    have := hb _ (List.getElem_mem (by omega : i < code.length))
    exact ⟨_, rfl, by rw [wrap_in (InR.i64.2 (by omega))]; exact this.1⟩
theorem loop1 (code : List Int) (hb : ∀ x ∈ code, 0 ≤ x ∧ x ≤ 255) (y : Rule × List Fact) (hf : ∀ f ∈ y.2, f.wt ≤ 1048576) (h0 : y.2 ≠ []) (hn : y.2.length ≤ 1000) (k : Bool → List Fact → List Pair → Option Bool) : ∀ (l : List Cond) (i : Nat) (ok : Bool) (F0 : List Fact) (b : List Pair), (∀ c ∈ l, c.wt ≤ 1048576) → PB b → F0.length + l.length ≤ 1000 →
    ∃ F, (∀ f ∈ F, f ∈ y.2) ∧ F.length = hasN l ∧ PB (foldA l F ok b).2 ∧ d_laws_FnAllFound_L1 code y k l i ok F0 b = k (foldA l F ok b).1 (F0 ++ F) (foldA l F ok b).2 := by
  intro l
  induction l with
  | nil => intro i ok F0 b _ hb0 _; exact ⟨[], by simp, rfl, hb0, by rw [d_laws_FnAllFound_L1]; simp [foldA]⟩
  | cons c l ih =>
    intro i ok F0 b hc hb0 hl
    simp only [List.length_cons] at hl
    have hcl : ∀ x ∈ l, x.wt ≤ 1048576 := fun x hx => hc x (by simp [hx])
    by_cases hk : c.kind = 1
    · obtain ⟨v, hv, hv0⟩ := at_val code hb i
      have hlen : 0 < y.2.length := List.length_pos_iff.2 h0
      have hmod : (v % (y.2.length : Int)).toNat < y.2.length := by
        have h1 := Int.emod_nonneg v (by omega : (y.2.length : Int) ≠ 0)
        have h2 := Int.emod_lt_of_pos v (by omega : (0 : Int) < y.2.length)
        omega
      have hm0 := Int.emod_nonneg v (by omega : (y.2.length : Int) ≠ 0)
      have hat : atI y.2 (v % (y.2.length : Int)) = some (y.2[(v % (y.2.length : Int)).toNat]'hmod) := by
        unfold atI; rw [decide_eq_true hm0, cond_true]; exact List.getElem?_eq_getElem hmod
      generalize hfe : y.2[(v % (y.2.length : Int)).toNat]'hmod = f at hat
      have hfm : f ∈ y.2 := by rw [← hfe]; exact List.getElem_mem hmod
      have hcw := hc c (by simp)
      have hpb := matF_PB (p := c.pat) (f := f) hb0 (Cond.pat_le hcw) (hf f hfm)
      obtain ⟨F, q1, q2, q3, q4⟩ := ih (i + 1) (ok && (matF c.pat f b).2) (F0 ++ [f]) (matF c.pat f b).1 hcl hpb (by simp; omega)
      refine ⟨f :: F, ?_, ?_, ?_, ?_⟩
      · intro g hg
        rcases List.mem_cons.1 hg with rfl | hg
        · exact hfm
        · exact q1 g hg
      · unfold hasN at q2 ⊢; rw [List.filter_cons, decide_eq_true hk]; simp [q2]
      · simp only [foldA]; rw [if_pos hk]; exact q3
      · have e1 : (((c.kind : Int)) == (1 : Int)) = true := by simp [hk]
        have hd1 : decide (0 ≤ v) = true := decide_eq_true hv0
        have hd2 : decide (0 < (((y.2.map Fact.c).length : Int) : Int)) = true := by rw [List.length_map]; exact decide_eq_true (by omega)
        rw [d_laws_FnAllFound_L1, e1, cond_true, hv, Option.bind_some, hd1, hd2, Bool.and_self, cond_true, List.length_map, hat, Option.bind_some, room1 (by omega) (by decide), cond_true, sMat c.pat f b (Cond.pat_le hcw) (hf f hfm) hb0, Option.bind_some]
        have e2 : foldA (c :: l) (f :: F) ok b = foldA l F (ok && (matF c.pat f b).2) (matF c.pat f b).1 := by simp only [foldA]; rw [if_pos hk]
        rw [e2, show F0 ++ f :: F = (F0 ++ [f]) ++ F by simp, ← q4]
        cases ok <;> rfl
    · obtain ⟨F, q1, q2, q3, q4⟩ := ih (i + 1) ok F0 b hcl hb0 (by omega)
      refine ⟨F, q1, ?_, ?_, ?_⟩
      · unfold hasN at q2 ⊢; rw [List.filter_cons, decide_eq_false hk]; simpa using q2
      · simp only [foldA]; rw [if_neg hk]; exact q3
      · have e1 : (((c.kind : Int)) == (1 : Int)) = false := by simp [hk]
        rw [d_laws_FnAllFound_L1, e1, cond_false, q4]
        have e2 : foldA (c :: l) F ok b = foldA l F ok b := by
          show (if c.kind = 1 then _ else foldA l F ok b) = _
          rw [if_neg hk]
        rw [e2]
theorem loop2 (y : Rule × List Fact) (F : List Fact) (b : List Pair) (hb : PB b) (hf : FS y.2) (k : Bool → Option Bool) : ∀ (l : List Cond) (i : Nat) (v : Bool), (∀ c ∈ l, c.wt ≤ 1048576) → d_laws_FnAllFound_L2 y F b k l i v = k (v && l.all fun c => hldC c b y.2) := by
  intro l
  induction l with
  | nil => intro i v _; rw [d_laws_FnAllFound_L2]; simp
  | cons c l ih =>
    intro i v hc
    have hcl : ∀ x ∈ l, x.wt ≤ 1048576 := fun x hx => hc x (by simp [hx])
    rw [d_laws_FnAllFound_L2, sHldC c b y.2 (hc c (by simp)) hb hf, Option.bind_some, ih _ _ hcl, ih _ _ hcl, List.all_cons]
    cases v <;> simp
theorem law_ok (code : List Int) (hcode : ∀ x ∈ code, 0 ≤ x ∧ x ≤ 255) : d_laws_FnAllFound code = some true := by
  unfold d_laws_FnAllFound d_laws_big
  rw [Option.bind_some, List.length_map]
  by_cases hl : (code.length : Int) > 4096
  · rw [decide_eq_true hl, cond_true]
  have hc4 : code.length ≤ 4096 := by omega
  rw [decide_eq_false hl, cond_false]
  obtain ⟨r, fs, e0, hr, hfs⟩ := sDrawM code hc4
  have w := hr.wt (by decide)
  have wf := hfs.wt (by decide)
  rw [e0, Option.bind_some]
  dsimp only
  rw [sRule r w, Option.bind_some, iMts r fs w wf, Option.bind_some, sAreF fs wf, Option.bind_some]
  cases h1 : ruleB r with
  | false => rw [mtB_out (by rw [h1]; simp)]; rfl
  | true =>
    cases h2 : areFB fs with
    | false => rw [mtB_out (by rw [h2]; simp)]; rfl
    | true =>
      simp only [Bool.not_true, cond_false]
      rw [List.length_map]
      by_cases h0 : fs = []
      · subst h0
        have hm : mtB r [] = [] := by
          cases hq : mtB r [] with
          | nil => rfl
          | cons m ms =>
            have hm : m ∈ mtB r [] := by rw [hq]; simp
            have hm2 := hm
            rw [mtB_in h1 h2] at hm2
            obtain ⟨t, ht, e⟩ := List.mem_map.1 hm2
            have hmm : (⟨r.name, t.facts, t.bind⟩ : Match) ∈ mtB r [] := by rw [e]; exact hm
            have hrun := (mem_mt h1 h2 _ _).1 hmm
            cases hcs : r.conds with
            | nil =>
              unfold ruleB at h1
              rw [hcs] at h1
              simp at h1
            | cons c cs =>
              rw [hcs] at hrun
              have hk := (condsB_get (pre := []) (i := 0) (c := c) (rest := cs) (by rw [List.nil_append, ← hcs]; exact ruleB_condsB h1)).2.1 rfl
              simp only [runT] at hrun
              rw [if_pos hk] at hrun
              cases htf : t.facts with
              | nil => rw [htf] at hrun; cases hrun
              | cons f F =>
                rw [htf] at hrun
                dsimp only at hrun
                rw [if_neg (by simp)] at hrun; cases hrun
        rw [hm]; rfl
      · have hlen : 0 < fs.length := List.length_pos_iff.2 h0
        have hz : (((fs.length : Int)) == (0 : Int)) = false := by rw [beq_eq_false_iff_ne]; omega
        have h4 := ruleB_len h1
        rw [hz, cond_false, lenOk (by omega), cond_true]
        have hfw : ∀ f ∈ fs, f.wt ≤ 1048576 := fun f hf => (hfs.2 f hf).wt (by decide)
        have hFS : FS fs := ⟨by have := hfs.1; omega, hfw⟩
        have hcw : ∀ c ∈ r.conds, c.wt ≤ 1048576 := fun c hc => Rule.cond_le w hc
        obtain ⟨F, q1, q2, q3, q4⟩ := loop1 code hcode (r, fs) hfw h0 (by have := hfs.1; show fs.length ≤ 1000; omega) (fun (z1_6 : Bool) (q1_3 : List Fact) (q1_4 : List Pair) => (bif true then (d_laws_FnAllFound_L2 (r, fs) q1_3 q1_4 (fun (z2_6 : Bool) => ((d_impl_IsMatch r fs ((⟨r.name, q1_3, q1_4⟩ : Match))).bind fun y113 => (some ((y113 : Bool) == (z2_6))))) r.conds 0 (z1_6)) else none)) r.conds 0 true [] [] hcw PB.nil (by simp; omega)
        refine q4.trans ?_
        rw [cond_true, List.nil_append, loop2 (r, fs) F _ q3 hFS _ _ _ _ hcw, iIsM r fs _ w wf, Option.bind_some, any_mem]
        obtain ⟨m1, m2⟩ := main h1 fs r.conds [] F [] rfl (Inv.nil r) q1
        generalize hfo : foldA r.conds F true [] = z at *
        obtain ⟨ok, b⟩ := z
        dsimp only
        have key : decide ((⟨r.name, F, b⟩ : Match) ∈ mtB r fs) = (ok && r.conds.all fun c => hldC c b fs) := by
          rw [Bool.eq_iff_iff, decide_eq_true_eq, mem_mt h1 h2, Bool.and_eq_true, List.all_eq_true]
          constructor
          · intro h
            obtain ⟨k1, _, _, k4⟩ := m1 b h
            cases k1
            exact ⟨rfl, k4⟩
          · rintro ⟨ho, hall⟩
            subst ho
            exact (m2 b rfl q2).2.2 hall
        rw [key, beq_self_eq_true]
theorem law_good (code : List Int) : Good Tryz.prog 4 [.sl (code.map yx)] (.bool true) :=
  Good.of_rdb ⟨_, Tryz.func4, rfl, by decide⟩ fun h => d_laws_FnAllFound_good (law_ok code fun x hx => by
    have h1 := (Rdb.sl (h _ (by simp))).2 (yx x) (List.mem_map.2 ⟨x, hx, rfl⟩) (.int .u8 x) (by simp [yx])
    have h2 := h1.int
    exact InR.u8.1 h2)
end LawFnAllFound
end Go.Cx
