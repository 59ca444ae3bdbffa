/- Patterns that cover, and patterns that match, as maps of terms: what covers matches more, and patterns that cover each other have one shape. No condition but bounds on sizes. -/
import Derived.Test.YtdckcgjimblpkaaDoorPCoversNLwK
import Derived.Test.YtdckcgjimblpkaaDoorPCoversNLwG
namespace Go.Cx
open Go.RowKit Go.Proofs
set_option linter.unusedVariables false
set_option linter.unusedSimpArgs false
/-- a map of terms that leaves atoms alone -/
def Fix (h : Bytes → Bytes) : Prop := ∀ y, atomB y = true → h y = y
theorem covL (a b : Fact) (ha : ∀ x ∈ a.args, x.length ≤ 1048576) : ∀ (rest restb pre preb : List Bytes) (m : List (Bytes × Bytes)), a.args = pre ++ rest → b.args = preb ++ restb → pre.length = preb.length → rest.length = restb.length → (∀ y, mHas y m = true → atomB y = false) →
    ∃ r, d_impl_CoversPattern_L1 a b (some true) rest pre.length m = some r ∧ (r = true → ∃ h, (∀ y, mHas y m = true → h y = mGet [] y m) ∧ restb = rest.map h ∧ Fix h) := by
  intro rest
  induction rest with
  | nil =>
    intro restb pre preb m _ _ _ hl hm
    refine ⟨true, rfl, fun _ => ⟨fun y => bif mHas y m then mGet [] y m else y, fun y hy => by simp only [hy, cond_true], ?_, fun y hy => ?_⟩⟩
    · rw [List.map_nil]; exact List.eq_nil_of_length_eq_zero hl.symm
    · show (bif mHas y m then mGet [] y m else y) = y
      cases hh : mHas y m with
      | false => rfl
      | true => rw [hm y hh] at hy; cases hy
  | cons x rest ih =>
    intro restb pre preb m hp hb hpl hl hm
    obtain ⟨y, rb, rfl⟩ : ∃ y rb, restb = y :: rb := by
      cases restb with
      | nil => simp at hl
      | cons y rb => exact ⟨y, rb, rfl⟩
    have hx : x ∈ a.args := by rw [hp]; simp
    have e1 : atI b.args ((pre.length : Nat) : Int) = some y := by rw [hpl]; exact atI_mid hb
    have next : ∀ m', (∀ y, mHas y m' = true → atomB y = false) → ∃ r, d_impl_CoversPattern_L1 a b (some true) rest (pre.length + 1) m' = some r ∧ (r = true → ∃ h, (∀ y, mHas y m' = true → h y = mGet [] y m') ∧ rb = rest.map h ∧ Fix h) := by
      intro m' hm'
      have := ih rb (pre ++ [x]) (preb ++ [y]) m' (by rw [hp]; simp) (by rw [hb]; simp) (by simp [hpl]) (by simpa using hl) hm'
      rwa [List.length_append, List.length_cons, List.length_nil] at this
    rw [d_impl_CoversPattern_L1, iAtom x (ha x hx), Option.bind_some]
    cases hx2 : atomB x with
    | true =>
      rw [cond_true, e1, Option.bind_some]
      cases he : x == y with
      | false => exact ⟨false, rfl, fun h => by cases h⟩
      | true =>
        have he : x = y := by simpa using he
        rw [Bool.not_true, cond_false]
        obtain ⟨r, q1, q2⟩ := next m hm
        refine ⟨r, q1, fun hr => ?_⟩
        obtain ⟨h, h1, h2, h3⟩ := q2 hr
        exact ⟨h, h1, by rw [List.map_cons, h3 x hx2, ← he, ← h2], h3⟩
    | false =>
      have hput : ∀ z, mHas z (mPut x y m) = true → atomB z = false := by
        intro z hz
        rw [mHas_put] at hz
        cases hzx : z == x with
        | true => have : z = x := by simpa using hzx
                  rw [this]; exact hx2
        | false => rw [hzx, Bool.false_or] at hz; exact hm z hz
      have hxx : mHas x (mPut x y m) = true := by rw [mHas_put]; simp
      have hxg : mGet [] x (mPut x y m) = y := by rw [mGet_putB]; simp
      rw [cond_false]
      have fin : (mHas x m = true → mGet [] x m = y) → ∃ r, d_impl_CoversPattern_L1 a b (some true) rest (pre.length + 1) (mPut x y m) = some r ∧ (r = true → ∃ h, (∀ z, mHas z m = true → h z = mGet [] z m) ∧ (y :: rb) = (x :: rest).map h ∧ Fix h) := by
        intro hold
        obtain ⟨r, q1, q2⟩ := next (mPut x y m) hput
        refine ⟨r, q1, fun hr => ?_⟩
        obtain ⟨h, h1, h2, h3⟩ := q2 hr
        refine ⟨h, fun z hz => ?_, by rw [List.map_cons, h1 x hxx, hxg, ← h2], h3⟩
        rw [h1 z (by rw [mHas_put, hz]; simp), mGet_putB]
        cases hzx : z == x with
        | true => have : z = x := by simpa using hzx
                  subst this; rw [cond_true]; exact (hold hz).symm
        | false => rfl
      cases hh : mHas x m with
      | true =>
        rw [cond_true, e1, Option.bind_some]
        cases he : mGet [] x m == y with
        | false => exact ⟨false, rfl, fun h => by cases h⟩
        | true =>
          rw [Bool.not_true, cond_false]
          exact fin fun _ => by simpa using he
      | false =>
        rw [cond_false, e1, Option.bind_some]
        exact fin fun h => by rw [hh] at h; cases h
/-- a covers b: a map of terms takes a's to b's -/
def Cov (a b : Fact) : Prop := patB a = true ∧ patB b = true ∧ a.rel = b.rel ∧ ∃ h, b.args = a.args.map h ∧ Fix h
theorem iCov (a b : Fact) (wa : a.wt ≤ 1048576) (wb : b.wt ≤ 1048576) : ∃ r, d_impl_CoversPattern a b = some r ∧ (r = true → Cov a b) := by
  have no : ∃ r, some false = some r ∧ (r = true → Cov a b) := ⟨false, rfl, fun h => by cases h⟩
  unfold d_impl_CoversPattern
  rw [iPat a wa, Option.bind_some]
  cases pa : patB a with
  | false => exact no
  | true =>
    rw [Bool.not_true, cond_false, iPat b wb, Option.bind_some]
    cases pb : patB b with
    | false => exact no
    | true =>
      rw [Bool.not_true, cond_false]
      cases hr : a.rel == b.rel with
      | false => exact no
      | true =>
        rw [Bool.not_true, cond_false]
        cases hl : ((((a.args).map tx).length : Int) != (((b.args).map tx).length : Int)) with
        | true => exact no
        | false =>
          have hl : a.args.length = b.args.length := by simp at hl; exact_mod_cast hl
          rw [cond_false]
          obtain ⟨r, q1, q2⟩ := covL a b (fun x hx => Fact.arg_le wa hx) a.args b.args [] [] [] rfl rfl rfl hl (fun y hy => by simp [mHas] at hy)
          refine ⟨r, q1, fun h => ?_⟩
          obtain ⟨h, _, h2, h3⟩ := q2 h
          exact ⟨pa, pb, by simpa using hr, h, h2, h3⟩
theorem iCovSelf (a : Fact) (wa : a.wt ≤ 1048576) : d_impl_CoversPattern a a = some (patB a) := by
  cases pa : patB a with
  | true => exact iCover a a (fun x => x) pa pa rfl (by simp) (fun _ _ _ => rfl) wa wa
  | false =>
    unfold d_impl_CoversPattern
    rw [iPat a wa, Option.bind_some, pa]; rfl
/-! matching as a map of terms -/
theorem findP_set_ne {t v val : Bytes} (h : v ≠ t) : ∀ (w : List Pair), findP t (setP v val w) = findP t w
  | [] => by
    have : (v == t) = false := by simpa using h
    simp only [setP, findP, this, cond_false]
  | x :: xs => by
    have hv : (v == t) = false := by simpa using h
    rw [setP]
    cases !(Op.bytesLess x.var v || x.var == v) with
    | true => rw [cond_true, findP]; simp only [hv, cond_false]
    | false => rw [cond_false, findP, findP, findP_set_ne h xs]
theorem findP_set {v val : Bytes} : ∀ (w : List Pair), findP v w = none → findP v (setP v val w) = some val
  | [], _ => by simp [setP, findP]
  | x :: xs, h => by
    rw [findP] at h
    rw [setP]
    cases hx : x.var == v with
    | true => rw [hx] at h; cases h
    | false =>
      rw [hx, cond_false] at h
      cases !(Op.bytesLess x.var v || false) with
      | true => rw [cond_true, findP]; simp
      | false => rw [cond_false, findP, hx, cond_false]; exact findP_set xs h
theorem findP_mem {t o : Bytes} : ∀ {w : List Pair}, findP t w = some o → ∃ p ∈ w, p.var = t ∧ p.value = o
  | x :: xs, h => by
    rw [findP] at h
    cases hx : x.var == t with
    | true => rw [hx, cond_true] at h; cases h; exact ⟨x, by simp, by simpa using hx, rfl⟩
    | false =>
      rw [hx, cond_false] at h
      obtain ⟨p, hp, h1⟩ := findP_mem h
      exact ⟨p, by simp [hp], h1⟩
theorem chainP_cons (p : Option Pair) (x : Pair) (xs : List Pair) : chainP p (x :: xs) = (varB x.var && (atomB x.value && ((match p with | some q => Op.bytesLess q.var x.var | none => true) && chainP (some x) xs))) := by
  cases p <;> rfl
theorem chain_set {v val : Bytes} (hv : varB v = true) (ha : atomB val = true) : ∀ (w : List Pair) (p : Option Pair), chainP p w = true → findP v w = none → (∀ q, p = some q → Op.bytesLess q.var v = true) → chainP p (setP v val w) = true
  | [], p, _, _, hp => by
    simp only [setP, chainP, hv, ha, Bool.true_and, Bool.and_true]
    cases p with
    | none => rfl
    | some q => exact hp q rfl
  | x :: xs, p, hc, hf, hp => by
    rw [chainP_cons] at hc
    simp only [Bool.and_eq_true] at hc
    obtain ⟨c1, c2, c3, c4⟩ := hc
    rw [findP] at hf
    cases hx : x.var == v with
    | true => rw [hx] at hf; cases hf
    | false =>
      rw [hx, cond_false] at hf
      rw [setP, hx, Bool.or_false]
      cases hl : Op.bytesLess x.var v with
      | true =>
        rw [Bool.not_true, cond_false, chainP_cons]
        simp only [Bool.and_eq_true]
        exact ⟨c1, c2, c3, chain_set hv ha xs (some x) c4 hf (fun q hq => by cases hq; exact hl)⟩
      | false =>
        have h2 : Op.bytesLess v x.var = true := by
          cases h3 : Op.bytesLess v x.var with
          | true => rfl
          | false =>
            have := bl_tri hl h3
            rw [this] at hx; simp at hx
        rw [Bool.not_false, cond_true, chainP_cons]
        simp only [Bool.and_eq_true]
        refine ⟨hv, ha, ?_, ?_⟩
        · cases p with
          | none => rfl
          | some q => exact hp q rfl
        · rw [chainP_cons]
          simp only [Bool.and_eq_true]
          exact ⟨c1, c2, h2, c4⟩
theorem bind_set {v val : Bytes} {w : List Pair} (hv : varB v = true) (ha : atomB val = true) (hb : bindB w = true) (hf : findP v w = none) (hl : w.length ≠ 6) : bindB (setP v val w) = true := by
  have h6 := bindB_len hb
  unfold bindB at hb ⊢
  rw [Bool.and_eq_true] at hb ⊢
  exact ⟨chain_set hv ha w none hb.1 hf (fun q h => by cases h), by rw [setP_len]; simp; omega⟩
theorem matA_sound : ∀ (l r : List Bytes) (w : List Pair), l.length = r.length → (∀ p ∈ w, varB p.var = true) → (matA l r w).2 = true → ∃ h, (∀ v o, findP v w = some o → h v = o) ∧ r = l.map h ∧ Fix h
  | [], [], w, _, hk, _ => by
    refine ⟨fun y => match findP y w with | some o => o | none => y, fun v o ho => by simp only [ho], rfl, fun y hy => ?_⟩
    cases hf : findP y w with
    | none => simp only [hf]
    | some o =>
      obtain ⟨p, hp, h1, _⟩ := findP_mem hf
      have := hk p hp
      rw [h1] at this
      rw [var_not_atom this] at hy; cases hy
  | x :: xs, y :: ys, w, hl, hk, hm => by
    simp only [matA] at hm
    cases hx : atomB x with
    | true =>
      rw [hx, cond_true] at hm
      cases hxy : x == y with
      | false => rw [hxy] at hm; cases hm
      | true =>
        rw [hxy, cond_true] at hm
        obtain ⟨h, h1, h2, h3⟩ := matA_sound xs ys w (by simpa using hl) hk hm
        have : x = y := by simpa using hxy
        exact ⟨h, h1, by rw [List.map_cons, h3 x hx, ← this, ← h2], h3⟩
    | false =>
      rw [hx, cond_false] at hm
      cases he : (extB w x y).2 with
      | false => rw [he] at hm; cases hm
      | true =>
        rw [he, cond_true] at hm
        have key : varB x = true ∧ ((findP x w = some y ∧ (extB w x y).1 = w) ∨ (findP x w = none ∧ (extB w x y).1 = setP x y w)) := by
          unfold extB at he ⊢
          cases hc : bindB w && (varB x && atomB y) with
          | false => rw [hc] at he; cases he
          | true =>
            rw [hc, cond_true] at he
            simp only [Bool.and_eq_true] at hc
            refine ⟨hc.2.1, ?_⟩
            rw [cond_true]
            cases hf : findP x w with
            | some o =>
              rw [hf] at he
              simp only at he ⊢
              cases ho : o == y with
              | false => rw [ho] at he; cases he
              | true => exact .inl ⟨by rw [show o = y from by simpa using ho], rfl⟩
            | none =>
              rw [hf] at he
              simp only at he ⊢
              cases hd : decide (w.length = 6) with
              | true => rw [hd] at he; cases he
              | false => exact .inr ⟨by first | trivial | rfl, by first | rfl | trivial⟩
        obtain ⟨hv, hcase⟩ := key
        rcases hcase with ⟨hf, h1⟩ | ⟨hf, h1⟩
        · rw [h1] at hm
          obtain ⟨h, k1, k2, k3⟩ := matA_sound xs ys w (by simpa using hl) hk hm
          exact ⟨h, k1, by rw [List.map_cons, k1 x y hf, ← k2], k3⟩
        · rw [h1] at hm
          obtain ⟨h, k1, k2, k3⟩ := matA_sound xs ys (setP x y w) (by simpa using hl) (fun p hp => by
            rcases setP_mem x y w hp with h | h
            · rw [h]; exact hv
            · exact hk p h) hm
          refine ⟨h, fun v o ho => ?_, by rw [List.map_cons, k1 x y (findP_set w hf), ← k2], k3⟩
          refine k1 v o ?_
          rw [findP_set_ne (fun e => ?_), ho]
          rw [e, ho] at hf; cases hf
  | [], _ :: _, _, hl, _, _ => by simp at hl
  | _ :: _, [], _, hl, _, _ => by simp at hl
theorem matA_all (h : Bytes → Bytes) (hfix : Fix h) : ∀ (l : List Bytes) (w : List Pair), (∀ x ∈ l, termB x = true) → (∀ x ∈ l, atomB (h x) = true) → bindB w = true → w.length + l.length ≤ 6 → (∀ v o, findP v w = some o → h v = o) → (matA l (l.map h) w).2 = true
  | [], _, _, _, _, _, _ => rfl
  | x :: xs, w, ht, ha, hb, hl, hw => by
    simp only [List.length_cons] at hl
    rw [List.map_cons]
    simp only [matA]
    have ht' : ∀ y ∈ xs, termB y = true := fun y hy => ht y (by simp [hy])
    have ha' : ∀ y ∈ xs, atomB (h y) = true := fun y hy => ha y (by simp [hy])
    cases hx : atomB x with
    | true =>
      rw [cond_true, hfix x hx, beq_self_eq_true, cond_true]
      exact matA_all h hfix xs w ht' ha' hb (by omega) hw
    | false =>
      have hv : varB x = true := by
        have := ht x (by simp)
        unfold termB at this
        rw [hx, Bool.false_or] at this; exact this
      have hax := ha x (by simp)
      rw [cond_false]
      unfold extB
      rw [hb, hv, hax]
      simp only [Bool.true_and, cond_true]
      cases hf : findP x w with
      | some o =>
        have := hw x o hf
        simp only [this, beq_self_eq_true, cond_true]
        exact matA_all h hfix xs w ht' ha' hb (by omega) hw
      | none =>
        have h6 : w.length ≠ 6 := by omega
        simp only [decide_eq_false h6, cond_false, cond_true]
        refine matA_all h hfix xs (setP x (h x) w) ht' ha' (bind_set hv hax hb hf h6) (by rw [setP_len]; omega) (fun v o ho => ?_)
        by_cases e : x = v
        · subst e
          rw [findP_set w hf] at ho
          cases ho; rfl
        · rw [findP_set_ne e] at ho
          exact hw v o ho
theorem matF_iff {p f : Fact} : (matF p f []).2 = true ↔ patB p = true ∧ factB f = true ∧ p.rel = f.rel ∧ ∃ h, f.args = p.args.map h ∧ Fix h := by
  unfold matF
  constructor
  · intro hm
    cases hc : patB p && (factB f && (bindB [] && (p.rel == f.rel && decide (p.args.length = f.args.length)))) with
    | false => rw [hc] at hm; cases hm
    | true =>
      rw [hc, cond_true] at hm
      simp only [Bool.and_eq_true, beq_iff_eq, decide_eq_true_eq] at hc
      obtain ⟨c1, c2, _, c4, c5⟩ := hc
      obtain ⟨h, _, h2, h3⟩ := matA_sound p.args f.args [] c5 (by simp) hm
      exact ⟨c1, c2, c4, h, h2, h3⟩
  · rintro ⟨c1, c2, c4, h, h2, h3⟩
    have c5 : p.args.length = f.args.length := by rw [h2]; simp
    rw [c1, c2, show bindB [] = true from rfl, c4, beq_self_eq_true, decide_eq_true c5]
    simp only [Bool.and_true, cond_true]
    have c1' := c1
    unfold patB at c1'
    simp only [Bool.and_eq_true, decide_eq_true_eq] at c1'
    unfold factB at c2
    simp only [Bool.and_eq_true] at c2
    rw [h2]
    refine matA_all h h3 p.args [] (fun x hx => List.all_eq_true.1 c1'.1 x hx) (fun x hx => ?_) rfl (by simp; omega) (fun v o ho => by simp [findP] at ho)
    exact List.all_eq_true.1 c2.1 _ (by rw [h2]; exact List.mem_map.2 ⟨x, hx, rfl⟩)
/-- what covers a pattern matches what it matches -/
theorem cov_mat {p q f : Fact} (hc : Cov p q) (hm : (matF q f []).2 = true) : (matF p f []).2 = true := by
  obtain ⟨c1, c2, c3, h, h2, h3⟩ := hc
  obtain ⟨m1, m2, m3, k, k2, k3⟩ := matF_iff.1 hm
  refine matF_iff.2 ⟨c1, m2, c3.trans m3, fun x => k (h x), ?_, fun y hy => by show k (h y) = y; rw [h3 y hy, k3 y hy]⟩
  rw [k2, h2, List.map_map]; rfl
/-! patterns that cover each other have one shape -/
def renK (h : Bytes → Bytes) (p : Pair) : Pair := ⟨h p.var, p.value⟩
theorem hasV_ren {h g : Bytes → Bytes} {N : List Pair} {t : Bytes} (hN : ∀ p ∈ N, g (h p.var) = p.var) (ht : g (h t) = t) : hasV (N.map (renK h)) (h t) = hasV N t := by
  rw [Bool.eq_iff_iff, hasV_iff, hasV_iff]
  constructor
  · rintro ⟨p, hp, he⟩
    obtain ⟨q, hq, rfl⟩ := List.mem_map.1 hp
    refine ⟨q, hq, ?_⟩
    have : h q.var = h t := he
    rw [← hN q hq, this, ht]
  · rintro ⟨p, hp, he⟩
    exact ⟨renK h p, List.mem_map.2 ⟨p, hp, rfl⟩, by show h p.var = h t; rw [he]⟩
theorem fold_ren {h g : Bytes → Bytes} : ∀ (ts : List Bytes) (N : List Pair), (∀ t ∈ ts, varB (h t) = varB t) → (∀ t ∈ ts, g (h t) = t) → (∀ p ∈ N, g (h p.var) = p.var) → (ts.map h).foldl nameP (N.map (renK h)) = (ts.foldl nameP N).map (renK h) ∧ ∀ p ∈ ts.foldl nameP N, g (h p.var) = p.var
  | [], _, _, _, hN => ⟨rfl, hN⟩
  | t :: ts, N, hv, hg, hN => by
    rw [List.map_cons, List.foldl_cons, List.foldl_cons]
    have ht := hg t (by simp)
    have step : nameP (N.map (renK h)) (h t) = (nameP N t).map (renK h) := by
      unfold nameP
      rw [hasV_ren hN ht, hv t (by simp), List.length_map]
      cases varB t && !hasV N t with
      | false => rfl
      | true => rw [cond_true, cond_true, List.map_append]; rfl
    rw [step]
    refine fold_ren ts (nameP N t) (fun x hx => hv x (by simp [hx])) (fun x hx => hg x (by simp [hx])) (fun p hp => ?_)
    unfold nameP at hp
    cases hc : varB t && !hasV N t with
    | false => rw [hc, cond_false] at hp; exact hN p hp
    | true =>
      rw [hc, cond_true] at hp
      rcases List.mem_append.1 hp with h1 | h1
      · exact hN p h1
      · simp at h1; subst h1; exact ht
theorem rnB_ren {h g : Bytes → Bytes} {t : Bytes} (ht : g (h t) = t) : ∀ {N : List Pair}, (∀ p ∈ N, g (h p.var) = p.var) → (∃ p ∈ N, p.var = t) → rnB (N.map (renK h)) (h t) = rnB N t
  | [], _, hx => by obtain ⟨p, hp, _⟩ := hx; cases hp
  | q :: N, hN, hx => by
    rw [List.map_cons, rnB, rnB]
    have e : ((renK h q).var == h t) = (q.var == t) := by
      rw [Bool.eq_iff_iff, beq_iff_eq, beq_iff_eq]
      constructor
      · intro e
        have e : h q.var = h t := e
        rw [← hN q (by simp), e, ht]
      · intro e; show h q.var = h t; rw [e]
    rw [e]
    cases hq : q.var == t with
    | true => rfl
    | false =>
      rw [cond_false, cond_false]
      refine rnB_ren ht (fun p hp => hN p (by simp [hp])) ?_
      obtain ⟨p, hp, he⟩ := hx
      rcases List.mem_cons.1 hp with rfl | hp
      · rw [he] at hq; simp at hq
      · exact ⟨p, hp, he⟩
theorem term_of {p : Fact} (h : patB p = true) : ∀ t ∈ p.args, termB t = true := by
  unfold patB at h
  rw [Bool.and_eq_true] at h
  exact fun t ht => List.all_eq_true.1 h.1 t ht
theorem cov_shape {p q : Fact} (h1 : Cov p q) (h2 : Cov q p) : shapeB p = shapeB q := by
  obtain ⟨c1, c2, c3, h, hq, hf⟩ := h1
  obtain ⟨_, _, _, g, gp, gf⟩ := h2
  have inv : ∀ t ∈ p.args, g (h t) = t := by
    have e : p.args.map (fun x => g (h x)) = p.args.map (fun x => x) := by
      have e1 : p.args.map (fun x => g (h x)) = p.args := by
        have := gp
        rw [hq, List.map_map] at this
        exact this.symm
      rw [e1]; simp
    exact List.map_inj_left.1 e
  have tq := term_of c2
  have tp := term_of c1
  have hv : ∀ t ∈ p.args, varB (h t) = varB t := by
    intro t ht
    cases hvt : varB t with
    | true =>
      have h3 : termB (h t) = true := tq (h t) (by rw [hq]; exact List.mem_map.2 ⟨t, ht, rfl⟩)
      unfold termB at h3
      cases ha : atomB (h t) with
      | true =>
        have e := gf (h t) ha
        rw [inv t ht] at e
        rw [← e, var_not_atom hvt] at ha; cases ha
      | false => rw [ha, Bool.false_or] at h3; exact h3
    | false =>
      have h3 := tp t ht
      unfold termB at h3
      rw [hvt, Bool.or_false] at h3
      rw [hf t h3, hvt]
  obtain ⟨e, hN⟩ := fold_ren (h := h) (g := g) p.args [] hv inv (by simp)
  rw [List.map_nil] at e
  have ea : (shapeB q).args = (shapeB p).args := by
    rw [shape_args, shape_args, hq, e, List.map_map]
    apply List.map_congr_left
    intro t ht
    show rnB _ (h t) = rnB _ t
    cases hvt : varB t with
    | true => exact rnB_ren (inv t ht) hN (fold_has p.args [] ht hvt)
    | false =>
      have h3 := tp t ht
      unfold termB at h3
      rw [hvt, Bool.or_false] at h3
      rw [hf t h3, nm_novar hvt]
      refine rnB_other fun r hr er => ?_
      obtain ⟨r0, hr0, rfl⟩ := List.mem_map.1 hr
      obtain ⟨_, _, _, _, hvr⟩ := wf_mem (wf_fold p.args WfN.nil) hr0
      -- the key of a name is a variable of the pattern
      have er : h r0.var = t := er
      have e4 := hN r0 hr0
      rw [er, gf t h3] at e4
      rw [← e4, hvt] at hvr; cases hvr
  have er : (shapeB q).rel = (shapeB p).rel := c3.symm
  cases hp : shapeB p; cases hq2 : shapeB q
  rw [hp, hq2] at ea er
  simp only at ea er
  rw [ea, er]
end Go.Cx
