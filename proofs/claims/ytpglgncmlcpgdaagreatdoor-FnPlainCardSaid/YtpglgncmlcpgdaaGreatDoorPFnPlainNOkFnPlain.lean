/- FnPlain: a rule with plain names finds what the rule finds: the law returns true. No condition. -/
import Derived.Test.YtpglgncmlcpgdaaGreatDoorPFnPlainNLwO
import Derived.Test.YtpglgncmlcpgdaaGreatDoorPFnPlainNLwM
import Derived.Test.YtpglgncmlcpgdaaGreatDoorPFnPlainNLawFnPlain
namespace Go.Cx
open Go.RowKit Go.Proofs
set_option linter.unusedVariables false
set_option linter.unusedSimpArgs false
namespace LawFnPlain
/-! one renaming of the variables V -/
structure Ren (h : Bytes → Bytes) (V : Bytes → Prop) : Prop where
  var : ∀ v, V v → varB v = true
  novar : ∀ t, varB t = false → h t = t
  varh : ∀ v, V v → varB (h v) = true
  inj : ∀ u v, V u → V v → h u = h v → u = v
structure RB (h : Bytes → Bytes) (V : Bytes → Prop) (b b' : List Pair) : Prop where
  len : b'.length = b.length
  get : ∀ v, V v → findP (h v) b' = findP v b
  ok : bindB b = true
  ok' : bindB b' = true
def rnC (h : Bytes → Bytes) (c : Cond) : Cond := ⟨c.kind, ⟨c.pat.rel, c.pat.args.map h⟩, h c.left, h c.right⟩
theorem atom_not_var {x : Bytes} (h : atomB x = true) : varB x = false := by
  cases hv : varB x with
  | false => rfl
  | true => rw [var_not_atom hv] at h; cases h
theorem RB.ext {h : Bytes → Bytes} {V : Bytes → Prop} (hr : Ren h V) {b b' : List Pair} (H : RB h V b b') {x y : Bytes} (hx : V x) : (extB b' (h x) y).2 = (extB b x y).2 ∧ ((extB b x y).2 = true → RB h V (extB b x y).1 (extB b' (h x) y).1) := by
  unfold extB
  rw [H.ok, H.ok', hr.var x hx, hr.varh x hx, H.get x hx, H.len]
  simp only [Bool.true_and]
  cases ha : atomB y with
  | false => exact ⟨rfl, fun h => by cases h⟩
  | true =>
    rw [cond_true, cond_true]
    cases hf : findP x b with
    | some o =>
      dsimp only
      cases o == y with
      | true => exact ⟨rfl, fun _ => H⟩
      | false => exact ⟨rfl, fun h => by cases h⟩
    | none =>
      dsimp only
      cases hl : decide (b.length = 6) with
      | true => exact ⟨rfl, fun h => by cases h⟩
      | false =>
        have hl' : b.length ≠ 6 := of_decide_eq_false hl
        refine ⟨rfl, fun _ => ⟨?_, ?_, ?_, ?_⟩⟩
        · rw [cond_false, cond_false, setP_len, setP_len, H.len]
        · intro v hv
          rw [cond_false, cond_false]
          by_cases e : v = x
          · subst e; rw [findP_set _ hf, findP_set _ (by rw [H.get v hx, hf])]
          · rw [findP_set_ne (fun e2 => e e2.symm), findP_set_ne (fun e2 => e (hr.inj _ _ hx hv e2).symm), H.get v hv]
        · exact bind_set (hr.var x hx) ha H.ok hf hl'
        · exact bind_set (hr.varh x hx) ha H.ok' (by rw [H.get x hx, hf]) (by rw [H.len]; exact hl')
theorem RB.matA {h : Bytes → Bytes} {V : Bytes → Prop} (hr : Ren h V) : ∀ (l r : List Bytes) (b b' : List Pair), (∀ x ∈ l, termB x = true) → (∀ x ∈ l, varB x = true → V x) → RB h V b b' → (matA (l.map h) r b').2 = (matA l r b).2 ∧ ((matA l r b).2 = true → RB h V (matA l r b).1 (matA (l.map h) r b').1)
  | [], r, b, b', _, _, H => ⟨rfl, fun _ => H⟩
  | x :: xs, [], b, b', _, _, H => ⟨rfl, fun h => by cases h⟩
  | x :: xs, y :: ys, b, b', ht, hV, H => by
    have ih := fun c c' => RB.matA hr xs ys c c' (fun z hz => ht z (by simp [hz])) (fun z hz => hV z (by simp [hz]))
    rw [List.map_cons]; simp only [Cx.matA]
    cases hx : atomB x with
    | true =>
      have hxx : h x = x := hr.novar x (atom_not_var hx)
      rw [hxx, hx]; simp only [cond_true]
      cases x == y with
      | true => exact ih b b' H
      | false => exact ⟨rfl, fun h => by cases h⟩
    | false =>
      have hv : varB x = true := by have := ht x (by simp); unfold termB at this; rw [hx] at this; simpa using this
      have ha' : atomB (h x) = false := var_not_atom (hr.varh x (hV x (by simp) hv))
      rw [ha']; simp only [cond_false]
      obtain ⟨e1, e2⟩ := H.ext hr (y := y) (hV x (by simp) hv)
      rw [e1]
      cases he : (extB b x y).2 with
      | false => exact ⟨rfl, fun h => by cases h⟩
      | true => simp only [cond_true]; exact ih _ _ (e2 he)
theorem ren_term {h : Bytes → Bytes} {V : Bytes → Prop} (hr : Ren h V) {t : Bytes} (hV : varB t = true → V t) : termB (h t) = termB t := by
  cases hv : varB t with
  | false => rw [hr.novar t hv]
  | true => unfold termB; rw [hr.varh t (hV hv), hv]; simp
theorem ren_var {h : Bytes → Bytes} {V : Bytes → Prop} (hr : Ren h V) {t : Bytes} (hV : varB t = true → V t) : varB (h t) = varB t := by
  cases hv : varB t with
  | false => rw [hr.novar t hv]; exact hv
  | true => exact hr.varh t (hV hv)
theorem ren_pat {h : Bytes → Bytes} {V : Bytes → Prop} (hr : Ren h V) {p : Fact} (hV : ∀ x ∈ p.args, varB x = true → V x) (hp : patB p = true) : patB ⟨p.rel, p.args.map h⟩ = true := by
  unfold patB at hp ⊢
  simp only [Bool.and_eq_true, List.all_eq_true] at hp ⊢
  refine ⟨?_, hp.2.1, by rw [List.length_map]; exact hp.2.2⟩
  intro x hx
  obtain ⟨y, hy, rfl⟩ := List.mem_map.1 hx
  rw [ren_term hr (hV y hy)]; exact hp.1 y hy
/-- the variables of a condition are among V -/
def CV (V : Bytes → Prop) (c : Cond) : Prop := ∀ x ∈ c.pat.args ++ [c.left, c.right], varB x = true → V x
theorem CV.args {V : Bytes → Prop} {c : Cond} (h : CV V c) : ∀ x ∈ c.pat.args, varB x = true → V x := fun x hx => h x (by simp [hx])
theorem CV.left {V : Bytes → Prop} {c : Cond} (h : CV V c) : varB c.left = true → V c.left := h _ (by simp)
theorem CV.right {V : Bytes → Prop} {c : Cond} (h : CV V c) : varB c.right = true → V c.right := h _ (by simp)
theorem condB_pat {c : Cond} (hc : condB c = true) (hk : c.kind = 1 ∨ c.kind = 2) : patB c.pat = true ∧ c.left = [] ∧ c.right = [] := by
  unfold condB at hc
  have : (decide (c.kind = 1) || decide (c.kind = 2)) = true := by simpa using hk
  rw [this, cond_true] at hc
  simp only [Bool.and_eq_true, beq_iff_eq] at hc
  exact ⟨hc.1, hc.2.1, hc.2.2⟩
theorem condB_term {c : Cond} (hc : condB c = true) (h1 : c.kind ≠ 1) (h2 : c.kind ≠ 2) : (decide (c.kind = 3) || decide (c.kind = 4) || decide (c.kind = 5)) = true ∧ zeroB c.pat = true ∧ termB c.left = true ∧ termB c.right = true := by
  unfold condB at hc
  rw [decide_eq_false h1, decide_eq_false h2, Bool.or_false, cond_false] at hc
  cases h : (decide (c.kind = 3) || decide (c.kind = 4) || decide (c.kind = 5)) with
  | false => rw [h] at hc; cases hc
  | true =>
    rw [h, cond_true] at hc
    simp only [Bool.and_eq_true] at hc
    exact ⟨rfl, hc.1, hc.2.1, hc.2.2⟩
theorem ren_cond {h : Bytes → Bytes} {V : Bytes → Prop} (hr : Ren h V) {c : Cond} (hV : CV V c) (hc : condB c = true) : condB (rnC h c) = true := by
  by_cases hk : c.kind = 1 ∨ c.kind = 2
  · obtain ⟨hp, hl, hrr⟩ := condB_pat hc hk
    have e : h [] = [] := hr.novar [] rfl
    unfold condB
    have h0 : (decide ((rnC h c).kind = 1) || decide ((rnC h c).kind = 2)) = true := by show (decide (c.kind = 1) || decide (c.kind = 2)) = true; simpa using hk
    rw [h0, cond_true]
    show (patB ⟨c.pat.rel, c.pat.args.map h⟩ && (h c.left == [] && h c.right == [])) = true
    rw [hl, hrr, e, ren_pat hr hV.args hp]; rfl
  · have h1 : c.kind ≠ 1 := fun e => hk (.inl e)
    have h2 : c.kind ≠ 2 := fun e => hk (.inr e)
    obtain ⟨h3, hz, hl, hrr⟩ := condB_term hc h1 h2
    unfold condB
    have h0 : (decide ((rnC h c).kind = 1) || decide ((rnC h c).kind = 2)) = false := by simp [rnC, h1, h2]
    rw [h0, cond_false]
    show (bif (decide (c.kind = 3) || decide (c.kind = 4) || decide (c.kind = 5)) then (zeroB ⟨c.pat.rel, c.pat.args.map h⟩ && (termB (h c.left) && termB (h c.right))) else false) = true
    rw [h3, cond_true, ren_term hr hV.left, ren_term hr hV.right, hl, hrr]
    unfold zeroB at hz ⊢
    rw [List.length_map]; simpa using hz
theorem RB.matF {h : Bytes → Bytes} {V : Bytes → Prop} (hr : Ren h V) {p f : Fact} {b b' : List Pair} (hV : ∀ x ∈ p.args, varB x = true → V x) (hp : patB p = true) (H : RB h V b b') : (matF ⟨p.rel, p.args.map h⟩ f b').2 = (matF p f b).2 ∧ ((matF p f b).2 = true → RB h V (matF p f b).1 (matF ⟨p.rel, p.args.map h⟩ f b').1) := by
  unfold Cx.matF
  rw [hp, ren_pat hr hV hp, H.ok, H.ok', List.length_map]
  dsimp only
  cases (true && (factB f && (true && (p.rel == f.rel && decide (p.args.length = f.args.length))))) with
  | false => exact ⟨rfl, fun h => by cases h⟩
  | true => exact RB.matA hr _ _ _ _ (term_of hp) hV H
theorem RB.valB {h : Bytes → Bytes} {V : Bytes → Prop} (hr : Ren h V) {b b' : List Pair} (H : RB h V b b') {t : Bytes} (hV : varB t = true → V t) : valB b' (h t) = valB b t := by
  unfold Cx.valB
  cases hv : varB t with
  | false => rw [hr.novar t hv, hv]; rfl
  | true => rw [var_not_atom hv, hr.varh t (hV hv), var_not_atom (hr.varh t (hV hv)), H.get t (hV hv)]; rfl
theorem RB.hldC {h : Bytes → Bytes} {V : Bytes → Prop} (hr : Ren h V) {c : Cond} {b b' : List Pair} {fs : List Fact} (hV : CV V c) (hc : condB c = true) (H : RB h V b b') : hldC (rnC h c) b' fs = hldC c b fs := by
  unfold Cx.hldC
  rw [hc, ren_cond hr hV hc, H.ok, H.ok']
  show (true && (true && (bif decide (c.kind = 1) then decide (0 < (fitF ⟨c.pat.rel, c.pat.args.map h⟩ b' fs).length) else bif decide (c.kind = 2) then decide ((fitF ⟨c.pat.rel, c.pat.args.map h⟩ b' fs).length = 0) else hldT (rnC h c) b'))) = _
  by_cases hk : c.kind = 1 ∨ c.kind = 2
  · have hp := (condB_pat hc hk).1
    have e : fitF ⟨c.pat.rel, c.pat.args.map h⟩ b' fs = fitF c.pat b fs := by
      unfold fitF
      congr 1; funext f
      exact (RB.matF hr hV.args hp H).1
    rw [e]
    rcases hk with hk | hk
    · rw [decide_eq_true hk]; rfl
    · rw [decide_eq_true hk]; cases decide (c.kind = 1) <;> rfl
  · have h1 : c.kind ≠ 1 := fun e => hk (.inl e)
    have h2 : c.kind ≠ 2 := fun e => hk (.inr e)
    rw [decide_eq_false h1, decide_eq_false h2]
    simp only [cond_false]
    unfold hldT testB
    rw [hc, ren_cond hr hV hc, H.ok, H.ok']
    show (true && (true && (true && decide (c.kind ≥ 3) && (true && ((Cx.valB b' (h c.left)).2 && ((Cx.valB b' (h c.right)).2 && (bif decide (c.kind = 3) then (Cx.valB b' (h c.left)).1 == (Cx.valB b' (h c.right)).1 else bif decide (c.kind = 4) then !((Cx.valB b' (h c.left)).1 == (Cx.valB b' (h c.right)).1) else ltB (Cx.valB b' (h c.left)).1 (Cx.valB b' (h c.right)).1)))))) ) = _
    rw [RB.valB hr H hV.left, RB.valB hr H hV.right]
structure RT (h : Bytes → Bytes) (V : Bytes → Prop) (t t' : Token) : Prop where
  facts : t'.facts = t.facts
  bind : RB h V t.bind t'.bind
inductive RL (R : Token → Token → Prop) : List Token → List Token → Prop
  | nil : RL R [] []
  | cons {a b : Token} {l m : List Token} : R a b → RL R l m → RL R (a :: l) (b :: m)
theorem RL.app {R : Token → Token → Prop} {a b c d : List Token} (h : RL R a b) (k : RL R c d) : RL R (a ++ c) (b ++ d) := by
  induction h with
  | nil => exact k
  | cons x _ ih => exact .cons x ih
theorem RL.one {R : Token → Token → Prop} {a b : Token} (h : R a b) : RL R [a] [b] := .cons h .nil
theorem RL.flat {α : Type} {R : Token → Token → Prop} (f g : α → List Token) : ∀ (l : List α), (∀ x ∈ l, RL R (f x) (g x)) → RL R (l.flatMap f) (l.flatMap g)
  | [], _ => .nil
  | x :: xs, h => by rw [List.flatMap_cons, List.flatMap_cons]; exact (h x (by simp)).app (RL.flat f g xs fun y hy => h y (by simp [hy]))
theorem nxt1_RL {h : Bytes → Bytes} {V : Bytes → Prop} (hr : Ren h V) {c : Cond} {fs : List Fact} {t t' : Token} (hV : CV V c) (hc : condB c = true) (H : RT h V t t') : RL (RT h V) (nxt1 c fs t) (nxt1 (rnC h c) fs t') := by
  unfold nxt1
  rw [RB.hldC hr hV hc H.bind]
  show RL _ _ (bif decide (c.kind = 1) then fs.flatMap (ext1 (rnC h c) t') else bif Cx.hldC c t.bind fs then [t'] else [])
  by_cases h1 : c.kind = 1
  · rw [decide_eq_true h1, cond_true, cond_true]
    refine RL.flat _ _ fs fun f _ => ?_
    unfold ext1
    have hp := (condB_pat hc (.inl h1)).1
    obtain ⟨e1, e2⟩ := RB.matF hr (f := f) hV.args hp H.bind
    show RL _ _ (bif (Cx.matF ⟨c.pat.rel, c.pat.args.map h⟩ f t'.bind).2 then [⟨t'.facts ++ [f], (Cx.matF ⟨c.pat.rel, c.pat.args.map h⟩ f t'.bind).1⟩] else [])
    rw [e1]
    cases hm : (Cx.matF c.pat f t.bind).2 with
    | false => exact .nil
    | true => exact .one ⟨by rw [H.facts], e2 hm⟩
  · rw [decide_eq_false h1, cond_false, cond_false]
    cases Cx.hldC c t.bind fs with
    | false => exact .nil
    | true => exact .one H
theorem nxtB_RL {h : Bytes → Bytes} {V : Bytes → Prop} (hr : Ren h V) {c : Cond} {fs : List Fact} (hV : CV V c) (hc : condB c = true) : ∀ {l m : List Token}, RL (RT h V) l m → RL (RT h V) (nxtB fs l c) (nxtB fs m (rnC h c))
  | _, _, .nil => .nil
  | _, _, .cons hx hl => by unfold nxtB; rw [List.flatMap_cons, List.flatMap_cons]; exact (nxt1_RL hr hV hc hx).app (nxtB_RL hr hV hc hl)
theorem tok_RL {h : Bytes → Bytes} {V : Bytes → Prop} (hr : Ren h V) {fs : List Fact} : ∀ (cs : List Cond) {l m : List Token}, (∀ c ∈ cs, CV V c ∧ condB c = true) → RL (RT h V) l m → RL (RT h V) (cs.foldl (nxtB fs) l) ((cs.map (rnC h)).foldl (nxtB fs) m)
  | [], _, _, _, H => H
  | c :: cs, _, _, hc, H => by
    rw [List.map_cons, List.foldl_cons, List.foldl_cons]
    exact tok_RL hr cs (fun x hx => hc x (by simp [hx])) (nxtB_RL hr (hc c (by simp)).1 (hc c (by simp)).2 H)
theorem RB.nil (h : Bytes → Bytes) (V : Bytes → Prop) : RB h V [] [] := ⟨rfl, fun _ _ => rfl, rfl, rfl⟩
/-! the names of a rule -/
theorem nodup_sub : ∀ (a b : List Bytes), a.Nodup → (∀ x ∈ a, x ∈ b) → a.length ≤ b.length
  | [], b, _, _ => Nat.zero_le _
  | x :: xs, b, hn, hs => by
    rw [List.nodup_cons] at hn
    have h1 := nodup_sub xs (b.erase x) hn.2 fun y hy => (List.mem_erase_of_ne (fun e => hn.1 (by rw [← e]; exact hy))).2 (hs y (by simp [hy]))
    have h2 := List.length_erase_of_mem (hs x (by simp))
    have h3 : 0 < b.length := List.length_pos_of_mem (hs x (by simp))
    simp only [List.length_cons]; omega
theorem ss_nodup {l : List Bytes} (h : SS l) : l.Nodup := by
  unfold SS at h
  exact h.imp fun hab e => by rw [e, bl_irrefl] at hab; cases hab
theorem fold_keys : ∀ (ts : List Bytes) (N : List Pair) {p : Pair}, p ∈ ts.foldl nameP N → p ∈ N ∨ (p.var ∈ ts ∧ varB p.var = true)
  | [], _, _, h => .inl h
  | t :: ts, N, p, h => by
    rcases fold_keys ts (nameP N t) h with h1 | h1
    · unfold nameP at h1
      cases hv : varB t && !hasV N t with
      | false => rw [hv] at h1; exact .inl h1
      | true =>
        rw [hv, cond_true] at h1
        simp only [Bool.and_eq_true] at hv
        rcases List.mem_append.1 h1 with h2 | h2
        · exact .inl h2
        · rw [List.mem_singleton.1 h2]; exact .inr ⟨by simp, hv.1⟩
    · exact .inr ⟨by simp [h1.1], h1.2⟩
theorem mem_cndV {l : List Cond} {v : Bytes} : v ∈ cndV l ↔ v ∈ termsB l ∧ varB v = true := by
  unfold cndV termsB condV varsB
  simp only [List.mem_flatMap, List.mem_filter]
  constructor
  · rintro ⟨c, hc, hm, hv⟩; exact ⟨⟨c, hc, hm⟩, hv⟩
  · rintro ⟨⟨c, hc, hm⟩, hv⟩; exact ⟨c, hc, hm, hv⟩
theorem ruleB_six {r : Rule} (h : ruleB r = true) : (uniqS (cndV r.conds)).length ≤ 6 := by
  unfold ruleB at h
  simp only [Bool.and_eq_true, decide_eq_true_eq] at h
  omega
theorem names_six {r : Rule} (h : ruleB r = true) : (namesB r).length ≤ 6 := by
  have h1 : ((namesB r).map Pair.var).length ≤ (uniqS (cndV r.conds)).length := by
    refine nodup_sub _ _ (ndk_fold _ NdK.nil) fun x hx => ?_
    obtain ⟨p, hp, rfl⟩ := List.mem_map.1 hx
    rcases fold_keys _ _ hp with h1 | h1
    · cases h1
    · exact mem_uniqS.2 (mem_cndV.2 h1)
  rw [List.length_map] at h1
  exact Nat.le_trans h1 (ruleB_six h)
theorem names_at {r : Rule} (h : ruleB r = true) {v : Bytes} (hv : v ∈ cndV r.conds) : ∃ i p, i < 6 ∧ (namesB r)[i]? = some p ∧ p.var = v ∧ rnB (namesB r) v = nmB i := by
  obtain ⟨ht, hv2⟩ := mem_cndV.1 hv
  obtain ⟨p, hp, he⟩ := fold_has _ [] ht hv2
  have hp' : p ∈ namesB r := hp
  obtain ⟨i, hi, hget, hval, _⟩ := wf_mem (wf_fold _ WfN.nil) hp'
  refine ⟨i, p, by have := names_six h; unfold namesB at this; omega, hget, he, ?_⟩
  rw [← he]
  exact (rnB_key (N := namesB r) (ndk_fold (termsB r.conds) NdK.nil) hp').trans hval
theorem names_ren {r : Rule} (h : ruleB r = true) : Ren (rnB (namesB r)) (fun v => v ∈ cndV r.conds) where
  var := fun v hv => (mem_cndV.1 hv).2
  novar := fun t ht => nm_novar ht
  varh := fun v hv => by
    obtain ⟨i, p, hi, _, _, e⟩ := names_at h hv
    rw [e]; exact nmB_var i hi
  inj := fun u v hu hv e => by
    obtain ⟨i, p, hi, g1, e1, e2⟩ := names_at h hu
    obtain ⟨j, q, hj, g2, e3, e4⟩ := names_at h hv
    rw [e2, e4] at e
    have := nmB_inj i hi j hj e
    subst this
    rw [g1] at g2; cases g2
    rw [← e1, ← e3]
theorem cv_of {r : Rule} {c : Cond} (hc : c ∈ r.conds) : CV (fun v => v ∈ cndV r.conds) c := fun x hx hv => mem_cndV.2 ⟨List.mem_flatMap.2 ⟨c, hc, hx⟩, hv⟩
/-! the rule with plain names is valid -/
def plR (r : Rule) : Rule := ⟨r.name, 0, plainB r, [⟨3, ⟨[], []⟩⟩]⟩
theorem condV_rn {h : Bytes → Bytes} {V : Bytes → Prop} (hr : Ren h V) {c : Cond} (hV : CV V c) {w : Bytes} : w ∈ condV (rnC h c) ↔ ∃ v ∈ condV c, w = h v := by
  unfold condV varsB
  have e : (rnC h c).pat.args ++ [(rnC h c).left, (rnC h c).right] = (c.pat.args ++ [c.left, c.right]).map h := by rw [List.map_append]; rfl
  rw [e]
  simp only [List.mem_filter, List.mem_map]
  constructor
  · rintro ⟨⟨v, hv, rfl⟩, hw⟩
    rw [ren_var hr (hV v hv)] at hw
    exact ⟨v, ⟨hv, hw⟩, rfl⟩
  · rintro ⟨v, ⟨hv, hw⟩, rfl⟩
    exact ⟨⟨v, hv, rfl⟩, by rw [ren_var hr (hV v hv)]; exact hw⟩
theorem elsC_rn {h : Bytes → Bytes} {V : Bytes → Prop} (hr : Ren h V) {v : Bytes} (hv : V v) (k : Int) : ∀ (cs : List Cond) (i : Nat), (∀ c ∈ cs, CV V c) → elsC (h v) k (cs.map (rnC h)) i = true → elsC v k cs i = true
  | [], _, _, h => h
  | c :: cs, i, hc, he => by
    rw [List.map_cons] at he
    unfold elsC at he ⊢
    simp only [Bool.or_eq_true, Bool.and_eq_true] at he ⊢
    rcases he with ⟨h1, h2⟩ | h1
    · refine .inl ⟨h1, ?_⟩
      rw [List.contains_iff_mem] at h2 ⊢
      obtain ⟨u, hu, e⟩ := (condV_rn hr (hc c (by simp))).1 h2
      have hu2 : V u := by
        unfold condV varsB at hu
        obtain ⟨a1, a2⟩ := List.mem_filter.1 hu
        exact hc c (by simp) u a1 a2
      rw [hr.inj v u hv hu2 e]; exact hu
    · exact .inr (elsC_rn hr hv k cs (i + 1) (fun x hx => hc x (by simp [hx])) h1)
theorem bndV_rn {h : Bytes → Bytes} {V : Bytes → Prop} (hr : Ren h V) {r x : Rule} (hx : x.conds = r.conds.map (rnC h)) (n : Int) (hV : ∀ c ∈ r.conds, CV V c) {v : Bytes} (hv : v ∈ bndV r n) : h v ∈ bndV x n := by
  unfold bndV at hv ⊢
  obtain ⟨c, hc, hm⟩ := List.mem_flatMap.1 hv
  rw [hx, ← List.map_take]
  refine List.mem_flatMap.2 ⟨rnC h c, List.mem_map.2 ⟨c, hc, rfl⟩, ?_⟩
  unfold bnd1 at hm ⊢
  show h v ∈ bif decide (c.kind = 1) then varsB (c.pat.args.map h) else []
  cases hk : decide (c.kind = 1) with
  | false => rw [hk] at hm; cases hm
  | true =>
    rw [hk, cond_true] at hm
    rw [cond_true]
    obtain ⟨a1, a2⟩ := List.mem_filter.1 hm
    exact List.mem_filter.2 ⟨List.mem_map.2 ⟨v, a1, rfl⟩, by rw [ren_var hr ((hV c (List.mem_of_mem_take hc)).args v a1)]; exact a2⟩
theorem conds_rn {h : Bytes → Bytes} {V : Bytes → Prop} (hr : Ren h V) {r x : Rule} (hx : x.conds = r.conds.map (rnC h)) (ha : x.acts = [⟨3, ⟨[], []⟩⟩]) (hV : ∀ c ∈ r.conds, CV V c) : ∀ (cs : List Cond) (i : Nat), (∀ c ∈ cs, CV V c) → condsB r cs i = true → condsB x (cs.map (rnC h)) i = true
  | [], _, _, _ => rfl
  | c :: cs, i, hc, hb => by
    rw [List.map_cons]
    unfold condsB at hb ⊢
    rw [all_uniqS] at hb ⊢
    simp only [Bool.and_eq_true] at hb ⊢
    obtain ⟨⟨⟨h1, h2⟩, h3⟩, h4⟩ := hb
    refine ⟨⟨⟨ren_cond hr (hc c (by simp)) h1, h2⟩, ?_⟩, conds_rn hr hx ha hV cs (i + 1) (fun x hx => hc x (by simp [hx])) h4⟩
    rw [List.all_eq_true] at h3 ⊢
    intro w hw
    obtain ⟨v, hv, rfl⟩ := (condV_rn hr (hc c (by simp))).1 hw
    have hvV : V v := by
      unfold condV varsB at hv
      obtain ⟨a1, a2⟩ := List.mem_filter.1 hv
      exact hc c (by simp) v a1 a2
    have hf := h3 v hv
    unfold fitB at hf ⊢
    simp only [Bool.or_eq_true, Bool.and_eq_true] at hf ⊢
    rcases hf with (h5 | h5) | ⟨h5, h6⟩
    · exact .inl (.inl h5)
    · rw [List.contains_iff_mem] at h5
      refine .inl (.inr ?_)
      rw [List.contains_iff_mem]
      exact bndV_rn hr hx _ hV h5
    · refine .inr ⟨h5, ?_⟩
      rw [Bool.not_eq_true'] at h6 ⊢
      cases he : elsB x i (h v) with
      | false => rfl
      | true =>
        unfold elsB at he h6
        rw [Bool.or_eq_false_iff] at h6
        rw [ha, Bool.or_eq_true] at he
        rcases he with he | he
        · rw [hx] at he
          rw [elsC_rn hr hvV _ _ _ hV he] at h6; cases h6.1
        · cases he
theorem plR_conds (r : Rule) : (plR r).conds = r.conds.map (rnC (rnB (namesB r))) := rfl
theorem plR_valid {r : Rule} (h : ruleB r = true) : ruleB (plR r) = true := by
  have hr := names_ren h
  have h0 := h
  have h6 := ruleB_six h
  unfold ruleB at h0 ⊢
  simp only [Bool.and_eq_true, decide_eq_true_eq] at h0 ⊢
  obtain ⟨⟨⟨⟨a1, a2⟩, a3⟩, a4⟩, a5, a6, a7⟩ := h0
  refine ⟨⟨⟨⟨a1, (show (0 : Int) ≤ 0 by decide), (show (0 : Int) ≤ 9 by decide)⟩, ?_⟩, (show (1 : Int) ≤ ((1 : Nat) : Int) by decide), (show ((1 : Nat) : Int) ≤ 2 by decide)⟩, ?_, rfl, ?_⟩
  · rw [plR_conds, List.length_map]; exact a3
  · rw [plR_conds]
    exact conds_rn hr (plR_conds r) rfl (fun c hc => cv_of hc) _ _ (fun c hc => cv_of hc) a5
  · have h1 : (uniqS (cndV (plR r).conds)).length ≤ ((uniqS (cndV r.conds)).map (rnB (namesB r))).length := by
      refine nodup_sub _ _ (ss_nodup (ss_uniqS _)) fun w hw => ?_
      rw [mem_uniqS, plR_conds] at hw
      unfold cndV at hw
      obtain ⟨c', hc', hw⟩ := List.mem_flatMap.1 hw
      obtain ⟨c, hc, rfl⟩ := List.mem_map.1 hc'
      obtain ⟨v, hv, rfl⟩ := (condV_rn hr (cv_of hc)).1 hw
      exact List.mem_map.2 ⟨v, mem_uniqS.2 (List.mem_flatMap.2 ⟨c, hc, hv⟩), rfl⟩
    rw [List.length_map] at h1
    omega
theorem ren_small {r : Rule} (h : ruleB r = true) {x : Bytes} (hx : x.length ≤ 16) (hV : varB x = true → x ∈ cndV r.conds) : (rnB (namesB r) x).length ≤ 16 := by
  cases hv : varB x with
  | false => rw [(names_ren h).novar x hv]; exact hx
  | true =>
    obtain ⟨i, p, hi, _, _, e⟩ := names_at h (hV hv)
    rw [e]; exact nmB_len i hi
theorem plR_small {r : Rule} {n : Nat} (h : ruleB r = true) (hs : SmallR n r) (hn : 1 ≤ n) : SmallR n (plR r) := by
  obtain ⟨s1, ⟨s2, s3⟩, s4, s5⟩ := hs
  refine ⟨s1, ⟨by rw [plR_conds, List.length_map]; exact s2, ?_⟩, hn, ?_⟩
  · intro c' hc'
    rw [plR_conds] at hc'
    obtain ⟨c, hc, rfl⟩ := List.mem_map.1 hc'
    have hcv := cv_of hc
    obtain ⟨q1, q2, q3⟩ := s3 c hc
    refine ⟨⟨q1.1, by show (c.pat.args.map _).length ≤ 4; rw [List.length_map]; exact q1.2.1, ?_⟩, ren_small h q2 hcv.left, ren_small h q3 hcv.right⟩
    intro x hx
    obtain ⟨y, hy, rfl⟩ := List.mem_map.1 hx
    exact ren_small h (q1.2.2 y hy) (hcv.args y hy)
  · intro a ha
    rw [show (plR r).acts = [⟨3, ⟨[], []⟩⟩] from rfl] at ha
    rw [List.mem_singleton.1 ha]
    exact ⟨by simp, by simp, fun x hx => by cases hx⟩
/-! the matches -/
theorem mtB_in {r : Rule} {fs : List Fact} (h1 : ruleB r = true) (h2 : areFB fs = true) : mtB r fs = (tokB r.conds fs).map fun t => ⟨r.name, t.facts, t.bind⟩ := by
  unfold mtB; rw [tkO_in h1 h2 (Nat.le_refl _), List.take_length]
theorem mtB_out {r : Rule} {fs : List Fact} (h2 : areFB fs = false) : mtB r fs = [] := by
  unfold mtB tkO; rw [h2]; cases ruleB r <;> rfl
theorem RL.at {R : Token → Token → Prop} {a b : List Token} (h : RL R a b) : a.length = b.length ∧ ∀ (i : Nat) x, a[i]? = some x → ∃ y, b[i]? = some y ∧ R x y := by
  induction h with
  | nil => exact ⟨rfl, fun i x h => by cases h⟩
  | cons hx _ ih =>
    refine ⟨by simp [ih.1], ?_⟩
    intro i x h
    cases i with
    | zero => cases h; exact ⟨_, rfl, hx⟩
    | succ i => exact ih.2 i x h
theorem plain_mt {r : Rule} (fs : List Fact) (h : ruleB r = true) : (mtB r fs).length = (mtB (plR r) fs).length ∧ ∀ (i : Nat) m, (mtB r fs)[i]? = some m → ∃ m', (mtB (plR r) fs)[i]? = some m' ∧ m'.facts = m.facts ∧ m'.bind.length = m.bind.length := by
  cases hf : areFB fs with
  | false => rw [mtB_out hf, mtB_out hf]; exact ⟨rfl, fun i m h => by cases h⟩
  | true =>
    rw [mtB_in h hf, mtB_in (plR_valid h) hf]
    have H := tok_RL (names_ren h) (fs := fs) r.conds (fun c hc => ⟨cv_of hc, ruleB_conds h c hc⟩) (RL.one (a := ⟨[], []⟩) (b := ⟨[], []⟩) ⟨rfl, RB.nil _ _⟩)
    obtain ⟨h1, h2⟩ := H.at
    refine ⟨by rw [List.length_map, List.length_map]; exact h1, ?_⟩
    intro i m hm
    rw [List.getElem?_map] at hm
    cases ht : (tokB r.conds fs)[i]? with
    | none => rw [ht] at hm; cases hm
    | some t =>
      rw [ht] at hm; cases hm
      obtain ⟨t', ht', hR⟩ := h2 i t ht
      refine ⟨⟨r.name, t'.facts, t'.bind⟩, ?_, hR.facts, hR.bind.len⟩
      rw [List.getElem?_map]
      show ((tokB (plR r).conds fs)[i]?).map _ = _
      rw [show (tokB (plR r).conds fs)[i]? = some t' from ht']; rfl
theorem loop1 (A B : List Match) (K : Option Bool) (hB : ∀ (i : Nat) m, A[i]? = some m → ∃ m', B[i]? = some m' ∧ m'.facts = m.facts ∧ m'.bind.length = m.bind.length) : ∀ (l pre : List Match), A = pre ++ l → d_laws_FnPlain_L1 A B K l pre.length = K := by
  intro l
  induction l with
  | nil => intro pre _; rfl
  | cons m l ih =>
    intro pre e
    have ih' := ih (pre ++ [m]) (by rw [e]; simp)
    rw [List.length_append, List.length_singleton] at ih'
    obtain ⟨m', h1, h2, h3⟩ := hB pre.length m (by rw [e]; simp)
    have hlt : decide (pre.length < (B.map Match.c).length) = true := by
      rw [List.length_map]; exact decide_eq_true (List.getElem?_eq_some_iff.1 h1).1
    rw [d_laws_FnPlain_L1, hlt, cond_true, h1, Option.bind_some, sSameFs, Option.bind_some, h2, decide_eq_true rfl, ih', List.length_map, List.length_map, h3, bne_self_eq_false]; rfl
theorem law_ok (code : List Int) : d_laws_FnPlain code = some true := by
  unfold d_laws_FnPlain d_laws_big
  rw [Option.bind_some, List.length_map]
  by_cases hl : (code.length : Int) > 4096
  · rw [decide_eq_true hl, cond_true]
  have hc4 : code.length ≤ 4096 := by omega
  rw [decide_eq_false hl, cond_false]
  obtain ⟨r, fs, e0, hr, hfs⟩ := sDrawMts code hc4
  have w := hr.wt (by decide)
  have wf := hfs.wt (by decide)
  rw [e0, Option.bind_some]
  dsimp only
  rw [sRule r w, Option.bind_some]
  cases h1 : ruleB r with
  | false => rfl
  | true =>
    simp only [Bool.not_true, cond_false]
    have wx := (plR_small h1 hr (by decide)).wt (by decide)
    obtain ⟨h2, h3⟩ := plain_mt fs h1
    rw [iConds r w, Option.bind_some, iMts r fs w wf, Option.bind_some]
    rw [show (⟨r.name, 0, plainB r, [⟨3, ⟨[], []⟩⟩]⟩ : Rule) = plR r from rfl, iMts (plR r) fs wx wf, Option.bind_some, iRule (plR r) wx, Option.bind_some, plR_valid h1]
    have b1 : (mtB r fs).length ≤ maxLen := by
      have := tkO_len r (r.conds.length : Int) fs
      unfold mtB; rw [List.length_map]; unfold maxLen; omega
    rw [List.length_map, List.length_map, h2, bne_self_eq_false]
    simp only [Bool.not_true, cond_false]
    rw [← h2, decide_eq_true b1, cond_true]
    exact loop1 _ _ _ h3 _ [] rfl
theorem law_good (code : List Int) : Good Tryz.prog 4 [.sl (code.map yx)] (.bool true) := d_laws_FnPlain_good (law_ok code)
end LawFnPlain
end Go.Cx
