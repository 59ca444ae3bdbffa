/- Tokens, their numbers and matches in plain words: of the program and of the reference. No condition but bounds on sizes. -/
import Derived.Test.YtpglgncmlcpgdaaGreatDoorPFnPlainNLwG
namespace Go.Cx
open Go.RowKit Go.Proofs
set_option linter.unusedVariables false
set_option linter.unusedSimpArgs false
/-! copies -/
theorem iCopiesF (l : List Fact) (h : l.length ≤ 1048576) (hf : ∀ f ∈ l, f.args.length ≤ 1048576) : d_impl_copyFacts l = some l := by
  unfold d_impl_copyFacts
  refine (mapL (c := Fact.c) (b := 40) (f := d_impl_copyFact) (g := fun x => x) (L := d_impl_copyFacts_L1 l _) (k := fun q => some q) (by decide) (fun _ _ => rfl) (fun _ _ _ _ => rfl) l 0 [] (fun f h => iCopyF f (by have := hf f h; omega)) (by simp; omega)).trans ?_
  simp
/-! one more condition -/
def TK (n : Nat) (t : Token) : Prop := t.facts.length ≤ n ∧ (∀ f ∈ t.facts, f.wt ≤ 1048576) ∧ PB t.bind
theorem TK.le {n m : Nat} {t : Token} (h : TK n t) (hm : n ≤ m) : TK m t := ⟨by have := h.1; omega, h.2⟩
def ext1 (c : Cond) (t : Token) (f : Fact) : List Token := bif (matF c.pat f t.bind).2 then [⟨t.facts ++ [f], (matF c.pat f t.bind).1⟩] else []
def nxt1 (c : Cond) (fs : List Fact) (t : Token) : List Token := bif decide (c.kind = 1) then fs.flatMap (ext1 c t) else bif hldC c t.bind fs then [t] else []
def nxtB (fs : List Fact) (l : List Token) (c : Cond) : List Token := l.flatMap (nxt1 c fs)
def tokB (cs : List Cond) (fs : List Fact) : List Token := cs.foldl (nxtB fs) [⟨[], []⟩]
theorem ext1_len (c : Cond) (t : Token) (f : Fact) : (ext1 c t f).length ≤ 1 := by unfold ext1; cases (matF c.pat f t.bind).2 <;> simp
theorem exts_len (c : Cond) (t : Token) (fs : List Fact) : (fs.flatMap (ext1 c t)).length ≤ fs.length := by
  induction fs with
  | nil => simp
  | cons f fs ih => rw [List.flatMap_cons, List.length_append]; have := ext1_len c t f; simp only [List.length_cons]; omega
theorem nxt1_len (c : Cond) (fs : List Fact) (t : Token) : (nxt1 c fs t).length ≤ fs.length + 1 := by
  unfold nxt1
  cases decide (c.kind = 1) with
  | true => have := exts_len c t fs; rw [cond_true]; omega
  | false => cases hldC c t.bind fs <;> simp
theorem nxtB_len (fs : List Fact) (l : List Token) (c : Cond) : (nxtB fs l c).length ≤ l.length * (fs.length + 1) := by
  unfold nxtB
  induction l with
  | nil => simp
  | cons t l ih => rw [List.flatMap_cons, List.length_append, List.length_cons, Nat.succ_mul]; have := nxt1_len c fs t; omega
theorem nxt1_TK {c : Cond} {fs : List Fact} {t : Token} {n : Nat} (h : TK n t) (hc : c.wt ≤ 1048576) (hf : FS fs) : ∀ u ∈ nxt1 c fs t, TK (n + 1) u := by
  intro u hu
  unfold nxt1 at hu
  cases hk : decide (c.kind = 1) with
  | false =>
    rw [hk, cond_false] at hu
    cases hh : hldC c t.bind fs with
    | false => rw [hh] at hu; cases hu
    | true =>
      rw [hh, cond_true, List.mem_singleton] at hu
      subst hu; exact h.le (by omega)
  | true =>
    rw [hk, cond_true] at hu
    obtain ⟨f, hf1, hu⟩ := List.mem_flatMap.1 hu
    unfold ext1 at hu
    cases hm : (matF c.pat f t.bind).2 with
    | false => rw [hm] at hu; cases hu
    | true =>
      rw [hm, cond_true, List.mem_singleton] at hu
      subst hu
      refine ⟨by have := h.1; simp; omega, ?_, matF_PB h.2.2 (Cond.pat_le hc) (hf.2 f hf1)⟩
      intro g hg
      rcases List.mem_append.1 hg with hg | hg
      · exact h.2.1 g hg
      · rw [List.mem_singleton] at hg; rw [hg]; exact hf.2 f hf1
theorem nxtB_TK {c : Cond} {fs : List Fact} {l : List Token} {n : Nat} (h : ∀ t ∈ l, TK n t) (hc : c.wt ≤ 1048576) (hf : FS fs) : ∀ u ∈ nxtB fs l c, TK (n + 1) u := by
  intro u hu
  obtain ⟨t, ht, hu⟩ := List.mem_flatMap.1 hu
  exact nxt1_TK (h t ht) hc hf u hu
theorem extLoop {γ : Type} {mf : Fact → Option (List Pair × Bool)} {cps : Option (List Fact)} {cp : Fact → Option Fact} {c : Cond} {t : Token} {L : List Fact → Nat → List Token → Option γ} {k : List Token → Option γ} (hm : ∀ f : Fact, f.wt ≤ 1048576 → mf f = some (matF c.pat f t.bind)) (hcs : cps = some t.facts) (hc : ∀ f : Fact, f.wt ≤ 1048576 → cp f = some f) (ht : t.facts.length ≤ 1048576) (hnil : ∀ i w, L [] i w = k w)
    (hcons : ∀ x xs i w, L (x :: xs) i w = ((mf x).bind fun y => (bif y.2 then (cps.bind fun q => ((cp x).bind fun z => (bif room (((q).map Fact.c).length + ([[D.str (z.rel), D.sl ((z.args).map tx)]]).length) 40 then (bif room (((w).map Token.c).length + ([[D.sl (((q).map Fact.c) ++ ([[D.str (z.rel), D.sl ((z.args).map tx)]])), D.sl ((y.1).map Pair.c)]]).length) 48 then (L xs (i + 1) ((w) ++ ([(⟨(q) ++ ([z]), y.1⟩ : Token)]))) else none) else none))) else (L xs (i + 1) (w))))) :
    ∀ (l : List Fact) (i : Nat) (w : List Token), (∀ f ∈ l, f.wt ≤ 1048576) → w.length + l.length < 1099511627770 → L l i w = k (w ++ l.flatMap (ext1 c t)) := by
  intro l
  induction l with
  | nil => intro i w _ _; rw [hnil]; simp
  | cons x xs ih =>
    intro i w hl hw
    simp only [List.length_cons] at hw
    have hx := hl x (by simp)
    rw [hcons, hm x hx, Option.bind_some, hcs, Option.bind_some, hc x hx, Option.bind_some, room1 (by omega) (by decide), cond_true, room1 (by omega) (by decide), cond_true, List.flatMap_cons]
    rw [show ext1 c t x = bif (matF c.pat x t.bind).2 then [⟨t.facts ++ [x], (matF c.pat x t.bind).1⟩] else [] from rfl]
    cases (matF c.pat x t.bind).2 with
    | true => rw [cond_true, cond_true, ih _ _ (fun f hf => hl f (by simp [hf])) (by simp; omega)]; simp
    | false => rw [cond_false, cond_false, ih _ _ (fun f hf => hl f (by simp [hf])) (by omega)]; simp
theorem kind_ne (c : Cond) : ((c.kind : Int) != (1)) = !decide (c.kind = 1) := by
  show (!((c.kind : Int) == 1)) = _
  rw [int_beq]
theorem one_TK : ∀ t ∈ [(⟨[], []⟩ : Token)], TK 0 t := by
  intro t ht
  rw [List.mem_singleton] at ht
  subst ht
  exact ⟨by simp, by simp, PB.nil⟩
theorem pow25 {n : Nat} (h : n ≤ 4) : [(⟨[], []⟩ : Token)].length * 25 ^ n ≤ 390625 := by
  have := Nat.pow_le_pow_right (n := 25) (by decide) h
  simp only [List.length_singleton, Nat.one_mul]
  exact this
theorem iToksL2 (c0 : List Cond) (fs : List Fact) (w0 : List Token) (i1 : Nat) (c : Cond) (k : List Token → Option (List Token)) (hc : c.wt ≤ 1048576) (hf : FS fs) : ∀ (l : List Token) (i : Nat) (w : List Token), (∀ t ∈ l, TK 1048576 t) → w.length + l.length * (fs.length + 1) < 1099511627700 → d_impl_tokensOf_L2 c0 fs w0 i1 c k l i w = k (w ++ nxtB fs l c) := by
  intro l
  have h1 := hf.1
  induction l with
  | nil => intro i w _ _; rw [d_impl_tokensOf_L2]; simp [nxtB]
  | cons t l ih =>
    intro i w hl hw
    rw [List.length_cons, Nat.succ_mul] at hw
    have ht := hl t (by simp)
    have e : nxtB fs (t :: l) c = nxt1 c fs t ++ nxtB fs l c := by simp [nxtB]
    have hn := nxt1_len c fs t
    have he := exts_len c t fs
    rw [d_impl_tokensOf_L2, kind_ne, iHldC c t.bind fs hc ht.2.2 hf, Option.bind_some, room1 (by omega) (by decide), cond_true, lenOk (by omega), cond_true, e]
    rw [extLoop (mf := fun f => d_impl_MatchFact c.pat f t.bind) (cps := d_impl_copyFacts t.facts) (cp := d_impl_copyFact) (c := c) (t := t) (L := d_impl_tokensOf_L3 c0 fs i w0 t i1 c _) (k := _) (fun f h => iMat c.pat f t.bind (Cond.pat_le hc) h ht.2.2) (iCopiesF t.facts ht.1 (fun f hf => by have := Fact.args_le (ht.2.1 f hf); omega)) (fun f h => iCopyF f (by have := Fact.args_le h; omega)) ht.1 (fun _ _ => rfl) (fun _ _ _ _ => rfl) fs 0 w hf.2 (by omega)]
    unfold nxt1
    cases decide (c.kind = 1) with
    | true => simp only [Bool.not_true, cond_false, cond_true]; rw [ih _ _ (fun u hu => hl u (by simp [hu])) (by rw [List.length_append]; omega)]; simp
    | false =>
      simp only [Bool.not_false, cond_true, cond_false]
      cases hldC c t.bind fs with
      | true => simp only [cond_true]; rw [ih _ _ (fun u hu => hl u (by simp [hu])) (by rw [List.length_append]; simp; omega)]; simp
      | false => simp only [cond_false]; rw [ih _ _ (fun u hu => hl u (by simp [hu])) (by omega)]; simp
theorem iToksL (c0 : List Cond) (fs : List Fact) (k : List Token → Option (List Token)) (hf : FS fs) (h24 : fs.length ≤ 24) : ∀ (cs : List Cond) (i : Nat) (w : List Token) (n : Nat), (∀ c ∈ cs, c.wt ≤ 1048576) → (∀ t ∈ w, TK n t) → n + cs.length ≤ 1048576 → w.length * 25 ^ cs.length ≤ 390625 → d_impl_tokensOf_L1 c0 fs k cs i w = k (cs.foldl (nxtB fs) w) := by
  intro cs
  induction cs with
  | nil => intro i w n _ _ _ _; rfl
  | cons c cs ih =>
    intro i w n hc hw hn hl
    simp only [List.length_cons] at hn
    rw [List.length_cons, Nat.pow_succ, Nat.mul_comm (25 ^ cs.length) 25, ← Nat.mul_assoc] at hl
    have hp : 1 ≤ 25 ^ cs.length := Nat.one_le_pow _ _ (by decide)
    have hl2 : w.length * 25 ≤ 390625 := Nat.le_trans (Nat.le_mul_of_pos_right _ hp) hl
    have h25 : w.length * (fs.length + 1) ≤ w.length * 25 := Nat.mul_le_mul_left _ (by omega)
    rw [d_impl_tokensOf_L1, lenOk (by omega), cond_true, iToksL2 c0 fs w i c _ (hc c (by simp)) hf w 0 [] (fun t ht => (hw t ht).le (by omega)) (by simp only [List.length_nil]; omega), List.nil_append]
    refine ih _ _ (n + 1) (fun x hx => hc x (by simp [hx])) (nxtB_TK hw (hc c (by simp)) hf) (by omega) ?_
    exact Nat.le_trans (Nat.mul_le_mul_right _ (Nat.le_trans (nxtB_len fs w c) h25)) hl
theorem iToks (cs : List Cond) (fs : List Fact) (hc : ∀ c ∈ cs, c.wt ≤ 1048576) (h4 : cs.length ≤ 4) (hf : FS fs) (h24 : fs.length ≤ 24) : d_impl_tokensOf cs fs = some (tokB cs fs) := by
  unfold d_impl_tokensOf
  exact iToksL cs fs _ hf h24 cs 0 _ 0 hc one_TK (by omega) (pow25 h4)
/-! of a rule -/
theorem ruleB_len {r : Rule} (h : ruleB r = true) : r.conds.length ≤ 4 := by
  unfold ruleB at h
  simp only [Bool.and_eq_true, decide_eq_true_eq] at h
  omega
theorem condsB_mem {r : Rule} : ∀ {l : List Cond} {i : Nat}, condsB r l i = true → ∀ c ∈ l, condB c = true
  | [], _, _, c, hc => by cases hc
  | x :: xs, i, h, c, hc => by
    simp only [condsB, Bool.and_eq_true] at h
    rcases List.mem_cons.1 hc with rfl | hc
    · exact h.1.1.1
    · exact condsB_mem h.2 c hc
theorem ruleB_conds {r : Rule} (h : ruleB r = true) : ∀ c ∈ r.conds, condB c = true := by
  unfold ruleB at h
  simp only [Bool.and_eq_true] at h
  exact condsB_mem h.2.1
theorem areFB_len {l : List Fact} (h : areFB l = true) : l.length ≤ 24 := by
  unfold areFB at h
  simp only [Bool.and_eq_true, decide_eq_true_eq] at h
  exact h.2
def tkO (r : Rule) (n : Int) (fs : List Fact) : List Token := bif ruleB r && (areFB fs && (decide (n ≥ 0) && decide (n ≤ (r.conds.length : Int)))) then tokB (r.conds.take n.toNat) fs else []
theorem tkO_in {r : Rule} {fs : List Fact} (h1 : ruleB r = true) (h2 : areFB fs = true) {j : Nat} (hj : j ≤ r.conds.length) : tkO r (j : Int) fs = tokB (r.conds.take j) fs := by
  unfold tkO
  rw [h1, h2]
  have e1 : decide ((j : Int) ≥ 0) = true := by simp
  have e2 : decide ((j : Int) ≤ (r.conds.length : Int)) = true := by simp; omega
  rw [e1, e2]
  simp
/-! matches -/
def mtB (r : Rule) (fs : List Fact) : List Match := (tkO r (r.conds.length : Int) fs).map fun t => ⟨r.name, t.facts, t.bind⟩
theorem tokB_len {cs : List Cond} {fs : List Fact} (h4 : cs.length ≤ 4) (h24 : fs.length ≤ 24) : (tokB cs fs).length ≤ 390625 := by
  have key : ∀ (cs : List Cond) (w : List Token), w.length * 25 ^ cs.length ≤ 390625 → (cs.foldl (nxtB fs) w).length ≤ 390625 := by
    intro cs
    induction cs with
    | nil => intro w h; simpa using h
    | cons c cs ih =>
      intro w h
      rw [List.length_cons, Nat.pow_succ, Nat.mul_comm (25 ^ cs.length) 25, ← Nat.mul_assoc] at h
      refine ih _ ?_
      have h25 : w.length * (fs.length + 1) ≤ w.length * 25 := Nat.mul_le_mul_left _ (by omega)
      exact Nat.le_trans (Nat.mul_le_mul_right _ (Nat.le_trans (nxtB_len fs w c) h25)) h
  exact key cs _ (pow25 h4)
theorem tkO_len (r : Rule) (n : Int) (fs : List Fact) : (tkO r n fs).length ≤ 390625 := by
  unfold tkO
  cases h1 : ruleB r with
  | false => simp
  | true =>
    cases h2 : areFB fs with
    | false => simp
    | true =>
      have h4 := ruleB_len h1
      cases (decide (n ≥ 0) && decide (n ≤ (r.conds.length : Int))) with
      | false => simp
      | true => exact tokB_len (by rw [List.length_take]; omega) (areFB_len h2)
theorem iMts (r : Rule) (fs : List Fact) (hr : r.wt ≤ 1048576) (hf : wtL Fact.wt fs ≤ 1048576) : d_impl_MatchesOf r fs = some (mtB r fs) := by
  unfold d_impl_MatchesOf d_impl_matchesOf mtB
  rw [iRule r hr, Option.bind_some, iAreF fs hf, Option.bind_some]
  cases h1 : ruleB r with
  | false => unfold tkO; rw [h1]; rfl
  | true =>
    cases h2 : areFB fs with
    | false => unfold tkO; rw [h1, h2]; rfl
    | true =>
      have h4 := ruleB_len h1
      have hl := tokB_len (cs := r.conds) h4 (areFB_len h2)
      simp only [Bool.not_true, cond_false]
      rw [iToks r.conds fs (fun c hc => Rule.cond_le hr hc) h4 (FS.of hf) (areFB_len h2), Option.bind_some, lenOk (by omega), cond_true, tkO_in h1 h2 (Nat.le_refl _), List.take_length]
      rw [show d_impl_matchesOf_L1 r (tokB r.conds fs) (fun q => some q) (tokB r.conds fs) 0 [] = _ from mapL (c := Match.c) (b := 64) (f := fun t : Token => some (⟨r.name, t.facts, t.bind⟩ : Match)) (g := fun t => ⟨r.name, t.facts, t.bind⟩) (L := d_impl_matchesOf_L1 r _ _) (k := fun q => some q) (by decide) (fun _ _ => rfl) (fun _ _ _ _ => rfl) _ 0 [] (fun _ _ => rfl) (by simp; omega)]
      simp
/-! plain tries -/
end Go.Cx
