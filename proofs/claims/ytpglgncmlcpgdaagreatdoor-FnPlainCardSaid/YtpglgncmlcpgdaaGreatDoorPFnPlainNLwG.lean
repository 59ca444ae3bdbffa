/- Bindings, matching, conditions that hold, and tokens in plain words: of the program and of the reference. No condition but bounds on sizes. -/
import Derived.Test.YtpglgncmlcpgdaaGreatDoorPFnPlainNLwF
namespace Go.Cx
open Go.RowKit Go.Proofs
set_option linter.unusedVariables false
set_option linter.unusedSimpArgs false
/-! bindings -/
def PB (b : List Pair) : Prop := b.length ≤ 1048576 ∧ ∀ x ∈ b, x.var.length ≤ 1048576 ∧ x.value.length ≤ 1048576
theorem PB.nil : PB [] := ⟨by simp, by simp⟩
def chainP : Option Pair → List Pair → Bool
  | _, [] => true
  | p, x :: xs => varB x.var && (atomB x.value && ((match p with | some q => Op.bytesLess q.var x.var | none => true) && chainP (some x) xs))
def bindB (b : List Pair) : Bool := chainP none b && decide (b.length ≤ 6)
theorem bindB_len {b : List Pair} (h : bindB b = true) : b.length ≤ 6 := by
  unfold bindB at h
  simp only [Bool.and_eq_true, decide_eq_true_eq] at h
  exact h.2
theorem bindLoop {isV isA : Bytes → Option Bool} {a : List Pair} {L : List Pair → Nat → Option Bool} {k : Option Bool} (ha : a.length ≤ 1099511627770) (hV : ∀ x : Bytes, x.length ≤ 1048576 → isV x = some (varB x)) (hA : ∀ x : Bytes, x.length ≤ 1048576 → isA x = some (atomB x)) (hnil : ∀ i, L [] i = k)
    (hcons : ∀ x xs i, L (x :: xs) i = ((isV (x.var)).bind fun y => (bif !(y) then (some (false)) else ((isA (x.value)).bind fun z => (bif !(z) then (some (false)) else (bif decide (((i : Int) : Int) > (0)) then ((atI a (IntKind.i64.wrap (((i : Int)) - (1)))).bind fun q => (bif !(Op.bytesLess (q.var) (x.var)) then (some (false)) else (L xs (i + 1)))) else (L xs (i + 1)))))))) :
    ∀ (l pre : List Pair), a = pre ++ l → (∀ x ∈ l, x.var.length ≤ 1048576 ∧ x.value.length ≤ 1048576) → L l pre.length = bif chainP pre.getLast? l then k else some false := by
  intro l
  induction l with
  | nil => intro pre _ _; rw [hnil]; rfl
  | cons x xs ih =>
    intro pre h hf
    have hl : a.length = pre.length + (xs.length + 1) := by rw [h]; simp
    have t := ih (pre ++ [x]) (by simp [h]) (fun y hy => hf y (by simp [hy]))
    rw [List.length_append, List.length_singleton, List.getLast?_concat] at t
    rw [hcons, hV _ (hf x (by simp)).1, Option.bind_some, hA _ (hf x (by simp)).2, Option.bind_some, t]
    simp only [chainP]
    cases varB x.var with
    | false => rfl
    | true =>
      cases atomB x.value with
      | false => rfl
      | true =>
        simp only [Bool.not_true, cond_false, Bool.true_and]
        rcases List.eq_nil_or_concat pre with rfl | ⟨p, z, hpz⟩
        · simp
        · rw [List.concat_eq_append] at hpz
          subst hpz
          have e0 : decide ((((p ++ [z]).length : Int)) > 0) = true := by simp <;> omega
          have e1 : IntKind.i64.wrap ((((p ++ [z]).length : Int)) - 1) = (p.length : Int) := by
            rw [wrap_in (InR.i64.2 (by simp at hl ⊢; omega))]; simp
          have e2 : atI a (p.length : Int) = some z := atI_mid (xs := x :: xs) (by rw [h]; simp)
          rw [e0, cond_true, e1, e2, Option.bind_some, List.getLast?_concat]
          show _ = bif (Op.bytesLess z.var x.var && chainP (some x) xs) then k else some false
          cases Op.bytesLess z.var x.var <;> rfl
theorem iBind (b : List Pair) (h : PB b) : d_impl_IsBinding b = some (bindB b) := by
  unfold d_impl_IsBinding bindB
  have t := fun k => bindLoop (isV := d_impl_IsVar) (isA := d_impl_IsAtom) (a := b) (L := d_impl_IsBinding_L1 b k) (k := k) (by have := h.1; omega) iVar iAtom (fun _ => rfl) (fun _ _ _ => rfl) b [] rfl h.2
  rw [show d_impl_IsBinding_L1 b (some true) b 0 = _ from t _]
  by_cases h6 : b.length ≤ 6
  · have e : decide ((((b.map Pair.c).length : Int)) > 6) = false := by rw [List.length_map]; simp; omega
    rw [e, cond_false, decide_eq_true h6, Bool.and_true]
    show (bif chainP none b then _ else _) = _
    cases chainP none b <;> rfl
  · have e : decide ((((b.map Pair.c).length : Int)) > 6) = true := by rw [List.length_map]; simp; omega
    rw [e, cond_true, decide_eq_false h6, Bool.and_false]
def findP (t : Bytes) : List Pair → Option Bytes
  | [] => none
  | x :: xs => bif x.var == t then some x.value else findP t xs
def valB (b : List Pair) (t : Bytes) : Bytes × Bool := bif atomB t then (t, true) else bif varB t then (match findP t b with | some v => (v, true) | none => ([], false)) else ([], false)
theorem iVal (b : List Pair) (t : Bytes) (ht : t.length ≤ 1048576) : d_impl_ValueOf b t = some (valB b t) := by
  unfold d_impl_ValueOf valB
  have key : ∀ (l : List Pair) (i : Nat), d_impl_ValueOf_L1 b t (some (([], false))) l i = some (match findP t l with | some v => (v, true) | none => ([], false)) := by
    intro l
    induction l with
    | nil => intro i; rfl
    | cons x xs ih =>
      intro i
      rw [d_impl_ValueOf_L1, ih]
      simp only [findP]
      cases x.var == t <;> rfl
  rw [iAtom t ht, Option.bind_some, iVar t ht, Option.bind_some, key]
  cases atomB t <;> cases varB t <;> rfl
theorem iCopyP (b : List Pair) (h : b.length ≤ 1099511627776) : d_impl_copyPairs b = some b := by
  unfold d_impl_copyPairs
  rw [room0 h (by decide)]; simp
def setP (v val : Bytes) : List Pair → List Pair
  | [] => [⟨v, val⟩]
  | x :: xs => bif !(Op.bytesLess x.var v || x.var == v) then ⟨v, val⟩ :: x :: xs else x :: setP v val xs
theorem setP_len (v val : Bytes) (b : List Pair) : (setP v val b).length = b.length + 1 := by
  induction b with
  | nil => rfl
  | cons x xs ih => simp only [setP]; cases !(Op.bytesLess x.var v || x.var == v) <;> simp [ih]
theorem setP_mem (v val : Bytes) (b : List Pair) {x : Pair} (h : x ∈ setP v val b) : x = ⟨v, val⟩ ∨ x ∈ b := by
  induction b with
  | nil => simp [setP] at h; exact .inl h
  | cons y ys ih =>
    simp only [setP] at h
    cases hc : !(Op.bytesLess y.var v || y.var == v) with
    | true =>
      rw [hc, cond_true] at h
      rcases List.mem_cons.1 h with h | h
      · exact .inl h
      · exact .inr h
    | false =>
      rw [hc, cond_false] at h
      rcases List.mem_cons.1 h with h | h
      · exact .inr (by simp [h])
      · rcases ih h with h | h
        · exact .inl h
        · exact .inr (by simp [h])
theorem setLoop {γ : Type} {v val : Bytes} {L : List Pair → Nat → Bool → List Pair → Option γ} {k : Bool → List Pair → Option γ} {K : List Pair → Option γ} (hk1 : ∀ w, k true w = K w) (hk2 : ∀ w : List Pair, w.length < 1099511627770 → k false w = K (w ++ [⟨v, val⟩])) (hnil : ∀ i d w, L [] i d w = k d w)
    (hcons : ∀ x xs i d w, L (x :: xs) i d w = (bif !(d) then (bif !(Op.bytesLess (x.var) v || (x.var : Bytes) == v) then (bif room (((w).map Pair.c).length + ([[D.str v, D.str val]]).length) 32 then (bif room ((((w).map Pair.c) ++ ([[D.str v, D.str val]])).length + ([[D.str (x.var), D.str (x.value)]]).length) 32 then (L xs (i + 1) (true) (((w) ++ ([(⟨v, val⟩ : Pair)])) ++ ([x]))) else none) else none) else (bif room (((w).map Pair.c).length + ([[D.str (x.var), D.str (x.value)]]).length) 32 then (L xs (i + 1) (d) ((w) ++ ([x]))) else none)) else (bif room (((w).map Pair.c).length + ([[D.str (x.var), D.str (x.value)]]).length) 32 then (L xs (i + 1) (d) ((w) ++ ([x]))) else none))) :
    ∀ (l : List Pair) (i : Nat) (w : List Pair), w.length + l.length < 1099511627760 → L l i false w = K (w ++ setP v val l) := by
  have c1 : ∀ (l : List Pair) (i : Nat) (w : List Pair), w.length + l.length < 1099511627765 → L l i true w = K (w ++ l) := by
    intro l
    induction l with
    | nil => intro i w _; rw [hnil, hk1, List.append_nil]
    | cons x xs ih =>
      intro i w hw
      simp only [List.length_cons] at hw
      rw [hcons, Bool.not_true, cond_false, room1 (by omega) (by decide), cond_true, ih (i + 1) (w ++ [x]) (by simp; omega)]; simp
  intro l
  induction l with
  | nil => intro i w hw; simp only [List.length_nil] at hw; rw [hnil, hk2 _ (by omega)]; rfl
  | cons x xs ih =>
    intro i w hw
    simp only [List.length_cons] at hw
    have r1 : ∀ y : List D, room ((w.map Pair.c).length + ([y]).length) 32 = true := fun y => room1 (by omega) (by decide)
    have r2 : room ((((w).map Pair.c) ++ ([[D.str v, D.str val]])).length + ([[D.str (x.var), D.str (x.value)]]).length) 32 = true := roomK (by simp; omega) (by decide)
    have t1 := ih (i + 1) (w ++ [x]) (by simp; omega)
    have t2 := c1 xs (i + 1) ((w ++ [⟨v, val⟩]) ++ [x]) (by simp; omega)
    rw [hcons, Bool.not_false, cond_true, r1, r1, r2]
    simp only [cond_true, setP]
    cases !(Op.bytesLess x.var v || x.var == v) with
    | true => rw [cond_true, cond_true, t2]; simp
    | false => rw [cond_false, cond_false, t1]; simp
def extB (b : List Pair) (v val : Bytes) : List Pair × Bool := bif bindB b && (varB v && atomB val) then (match findP v b with | some o => bif o == val then (b, true) else ([], false) | none => bif decide (b.length = 6) then ([], false) else (setP v val b, true)) else ([], false)
theorem extB_PB {b : List Pair} {v val : Bytes} (h : PB b) (hv : v.length ≤ 1048576) (hl : val.length ≤ 1048576) : PB (extB b v val).1 := by
  unfold extB
  cases hb : bindB b && (varB v && atomB val) with
  | false => exact PB.nil
  | true =>
    rw [cond_true]
    have h6 : b.length ≤ 6 := bindB_len (by simp only [Bool.and_eq_true] at hb; exact hb.1)
    cases findP v b with
    | some o => simp only; cases o == val <;> first | exact h | exact PB.nil
    | none =>
      simp only
      cases decide (b.length = 6) with
      | true => exact PB.nil
      | false =>
        refine ⟨by simp only [cond_false, setP_len]; omega, fun x hx => ?_⟩
        rcases setP_mem _ _ _ hx with rfl | hx
        · exact ⟨hv, hl⟩
        · exact h.2 x hx
theorem iExt (b : List Pair) (v val : Bytes) (h : PB b) (hv : v.length ≤ 1048576) (hl : val.length ≤ 1048576) : d_impl_Extend b v val = some (extB b v val) := by
  unfold d_impl_Extend extB
  have hlen := h.1
  have t := (setLoop (v := v) (val := val) (K := fun w => some ((w, true) : List Pair × Bool)) (L := d_impl_Extend_L1 b v val (fun (z : Bool) (q : List Pair) => (bif !(z) then (bif room (((q).map Pair.c).length + ([[D.str v, D.str val]]).length) 32 then (some (((q) ++ ([(⟨v, val⟩ : Pair)]), true))) else none) else (some ((q, true)))))) (fun w => rfl) (fun w hw => by show (bif !false then _ else _) = _; rw [room1 (by omega) (by decide)]; rfl) (fun _ _ _ => rfl) (fun _ _ _ _ _ => rfl) b 0 [] (by simp; omega))
  rw [iBind b h, Option.bind_some, iVar v hv, Option.bind_some, iAtom val hl, Option.bind_some, iVal b v hv, Option.bind_some, iCopyP b (by omega), Option.bind_some, t]
  cases hb : bindB b with
  | false => rfl
  | true =>
    have h6 := bindB_len hb
    have e6 : decide ((((b.map Pair.c).length : Int) : Int) ≥ 6) = decide (b.length = 6) := by
      rw [List.length_map]; congr 1; rw [eq_iff_iff]; omega
    rw [e6]
    cases hvv : varB v with
    | false => rfl
    | true =>
      cases atomB val with
      | false => rfl
      | true =>
        have hv2 : valB b v = (match findP v b with | some o => (o, true) | none => ([], false)) := by unfold valB; rw [var_not_atom hvv, hvv]; rfl
        rw [hv2]
        simp only [Bool.not_true, cond_false, Bool.true_and, Bool.and_true, cond_true]
        cases findP v b with
        | some o => simp only [cond_true]; cases o == val <;> rfl
        | none => simp only [cond_false]; cases decide (b.length = 6) <;> rfl
/-! matching -/
def matA : List Bytes → List Bytes → List Pair → List Pair × Bool
  | [], _, w => (w, true)
  | _ :: _, [], _ => ([], false)
  | x :: xs, y :: ys, w => bif atomB x then (bif x == y then matA xs ys w else ([], false)) else (bif (extB w x y).2 then matA xs ys (extB w x y).1 else ([], false))
def matF (p f : Fact) (b : List Pair) : List Pair × Bool := bif patB p && (factB f && (bindB b && (p.rel == f.rel && decide (p.args.length = f.args.length)))) then matA p.args f.args b else ([], false)
theorem matA_PB : ∀ (l r : List Bytes) (w : List Pair), PB w → (∀ x ∈ l, x.length ≤ 1048576) → (∀ x ∈ r, x.length ≤ 1048576) → PB (matA l r w).1
  | [], _, w, h, _, _ => h
  | _ :: _, [], _, _, _, _ => PB.nil
  | x :: xs, y :: ys, w, h, hl, hr => by
    simp only [matA]
    have i1 := matA_PB xs ys w h (fun z hz => hl z (by simp [hz])) (fun z hz => hr z (by simp [hz]))
    have i2 := matA_PB xs ys (extB w x y).1 (extB_PB h (hl x (by simp)) (hr y (by simp))) (fun z hz => hl z (by simp [hz])) (fun z hz => hr z (by simp [hz]))
    cases atomB x with
    | true => cases x == y <;> first | exact i1 | exact PB.nil
    | false => cases (extB w x y).2 <;> first | exact i2 | exact PB.nil
theorem matF_PB {p f : Fact} {b : List Pair} (hb : PB b) (hp : p.wt ≤ 1048576) (hf : f.wt ≤ 1048576) : PB (matF p f b).1 := by
  unfold matF
  cases patB p && (factB f && (bindB b && (p.rel == f.rel && decide (p.args.length = f.args.length)))) with
  | false => exact PB.nil
  | true => exact matA_PB _ _ _ hb (fun x hx => Fact.arg_le hp hx) (fun x hx => Fact.arg_le hf hx)
theorem matLoop {isA : Bytes → Option Bool} {ext : List Pair → Bytes → Bytes → Option (List Pair × Bool)} {fa : List Bytes} {L : List Bytes → Nat → List Pair → Option (List Pair × Bool)} (hA : ∀ x : Bytes, x.length ≤ 1048576 → isA x = some (atomB x)) (hE : ∀ w x y, PB w → x.length ≤ 1048576 → y.length ≤ 1048576 → ext w x y = some (extB w x y)) (hnil : ∀ i w, L [] i w = some (w, true))
    (hcons : ∀ x xs i w, L (x :: xs) i w = ((isA x).bind fun y => (bif y then ((atI fa ((i : Int))).bind fun z => (bif !((x : Bytes) == z) then (some (([], false))) else (L xs (i + 1) w))) else ((atI fa ((i : Int))).bind fun z => ((ext w x z).bind fun q => (bif !(q.2) then (some (([], false))) else (L xs (i + 1) (q.1)))))))) :
    ∀ (l pre rest : List Bytes) (w : List Pair), fa = pre ++ rest → l.length = rest.length → (∀ x ∈ l, x.length ≤ 1048576) → (∀ x ∈ rest, x.length ≤ 1048576) → PB w → L l pre.length w = some (matA l rest w) := by
  intro l
  induction l with
  | nil => intro pre rest w _ _ _ _ _; rw [hnil]; simp [matA]
  | cons x xs ih =>
    intro pre rest w h hl hx hr hw
    cases rest with
    | nil => simp at hl
    | cons y ys =>
      have t := fun w' hw' => ih (pre ++ [y]) ys w' (by simp [h]) (by simpa using hl) (fun z hz => hx z (by simp [hz])) (fun z hz => hr z (by simp [hz])) hw'
      simp only [List.length_append, List.length_singleton] at t
      rw [hcons, hA x (hx x (by simp)), Option.bind_some, atI_mid h, Option.bind_some, Option.bind_some, hE w x y hw (hx x (by simp)) (hr y (by simp)), Option.bind_some]
      simp only [matA]
      cases atomB x with
      | true =>
        simp only [cond_true]
        cases x == y with
        | true => simp only [Bool.not_true, cond_false, cond_true]; exact t w hw
        | false => rfl
      | false =>
        simp only [cond_false]
        cases hq : (extB w x y).2 with
        | true => simp only [Bool.not_true, cond_false, cond_true]; exact t _ (extB_PB hw (hx x (by simp)) (hr y (by simp)))
        | false => rfl
theorem len_ne (a b : List Bytes) : ((((a.map tx).length : Int) : Int) != (((b.map tx).length : Int))) = !decide (a.length = b.length) := by
  rw [List.length_map, List.length_map]
  by_cases h : a.length = b.length
  · simp [h]
  · rw [decide_eq_false h]; simp; omega
theorem iMat (p f : Fact) (b : List Pair) (hp : p.wt ≤ 1048576) (hf : f.wt ≤ 1048576) (hb : PB b) : d_impl_MatchFact p f b = some (matF p f b) := by
  unfold d_impl_MatchFact matF
  have hlen := hb.1
  rw [iPat p hp, Option.bind_some, iFact f hf, Option.bind_some, iBind b hb, Option.bind_some, iCopyP b (by omega), Option.bind_some, len_ne]
  cases patB p with
  | false => rfl
  | true =>
    cases factB f with
    | false => rfl
    | true =>
      cases bindB b with
      | false => rfl
      | true =>
        cases p.rel == f.rel with
        | false => rfl
        | true =>
          by_cases h : p.args.length = f.args.length
          · rw [decide_eq_true h]
            have t := matLoop (isA := d_impl_IsAtom) (ext := d_impl_Extend) (fa := f.args) (L := d_impl_MatchFact_L1 p f (fun (q : List Pair) => (some ((q, true))))) iAtom (fun w x y hw hx hy => iExt w x y hw hx hy) (fun _ _ => rfl) (fun _ _ _ _ => rfl) p.args [] f.args b rfl h (fun x hx => Fact.arg_le hp hx) (fun x hx => Fact.arg_le hf hx) hb
            exact t
          · rw [decide_eq_false h]; rfl
/-! tests, and conditions that hold -/
def ltB (l r : Bytes) : Bool := match numB l, numB r with | some x, some y => decide (x < y) | _, _ => false
def hldT (c : Cond) (b : List Pair) : Bool := testB c && (bindB b && ((valB b c.left).2 && ((valB b c.right).2 && (bif decide (c.kind = 3) then (valB b c.left).1 == (valB b c.right).1 else bif decide (c.kind = 4) then !((valB b c.left).1 == (valB b c.right).1) else ltB (valB b c.left).1 (valB b c.right).1))))
theorem int_beq (a b : Int) : (a == b) = decide (a = b) := by rw [Bool.eq_iff_iff]; simp
theorem iHldT (c : Cond) (b : List Pair) (hc : c.wt ≤ 1048576) (hb : PB b) : d_impl_HoldsTest c b = some (hldT c b) := by
  unfold d_impl_HoldsTest hldT
  rw [iTest c hc, Option.bind_some, iBind b hb, Option.bind_some, iVal b c.left (Cond.left_le hc), Option.bind_some, iVal b c.right (Cond.right_le hc), Option.bind_some, int_beq, int_beq]
  cases testB c with
  | false => rfl
  | true =>
    cases bindB b with
    | false => rfl
    | true =>
      cases (valB b c.left).2 with
      | false => rfl
      | true =>
        cases (valB b c.right).2 with
        | false => rfl
        | true =>
          cases decide (c.kind = 3) with
          | true => rfl
          | false =>
            cases decide (c.kind = 4) with
            | true => rfl
            | false =>
              simp only [Bool.not_true, cond_false, Bool.true_and]
              unfold ltB
              rw [iParse, Option.bind_some, iParse, Option.bind_some]
              unfold pI
              cases numB (valB b c.left).1 with
              | none => rfl
              | some x =>
                cases numB (valB b c.right).1 with
                | none => rfl
                | some y =>
                  simp only [cond_true]
                  congr 1
                  by_cases h : x < y
                  · simp [h]
                  · simp [h]
def fitF (p : Fact) (b : List Pair) (fs : List Fact) : List Fact := fs.filter fun f => (matF p f b).2
def FS (fs : List Fact) : Prop := fs.length ≤ 1048576 ∧ ∀ f ∈ fs, f.wt ≤ 1048576
theorem FS.of {fs : List Fact} (h : wtL Fact.wt fs ≤ 1048576) : FS fs := ⟨by have := wtL_len Fact.wt fs; omega, fun f hf => by have := wtL_mem (w := Fact.wt) hf; omega⟩
theorem fitLoop {γ : Type} {mf : Fact → Option (List Pair × Bool)} {cp : Fact → Option Fact} {p : Fact} {b : List Pair} {L : List Fact → Nat → List Fact → Option γ} {k : List Fact → Option γ} (hm : ∀ f : Fact, f.wt ≤ 1048576 → mf f = some (matF p f b)) (hc : ∀ f : Fact, f.wt ≤ 1048576 → cp f = some f) (hnil : ∀ i w, L [] i w = k w)
    (hcons : ∀ x xs i w, L (x :: xs) i w = ((mf x).bind fun y => (bif y.2 then ((cp x).bind fun z => (bif room (((w).map Fact.c).length + ([[D.str (z.rel), D.sl ((z.args).map tx)]]).length) 40 then (L xs (i + 1) ((w) ++ ([z]))) else none)) else (L xs (i + 1) (w))))) :
    ∀ (l : List Fact) (i : Nat) (w : List Fact), (∀ f ∈ l, f.wt ≤ 1048576) → w.length + l.length < 1099511627700 → L l i w = k (w ++ fitF p b l) := by
  intro l
  induction l with
  | nil => intro i w _ _; rw [hnil]; simp [fitF]
  | cons x xs ih =>
    intro i w hl hw
    simp only [List.length_cons] at hw
    have hx := hl x (by simp)
    rw [hcons, hm x hx, Option.bind_some, hc x hx, Option.bind_some, room1 (by omega) (by decide), cond_true]
    have e : fitF p b (x :: xs) = bif (matF p x b).2 then x :: fitF p b xs else fitF p b xs := by
      unfold fitF
      rw [List.filter_cons]
      cases (matF p x b).2 <;> rfl
    rw [e]
    cases (matF p x b).2 with
    | true => rw [cond_true, cond_true, ih _ _ (fun f hf => hl f (by simp [hf])) (by simp; omega)]; simp
    | false => rw [cond_false, cond_false, ih _ _ (fun f hf => hl f (by simp [hf])) (by omega)]
theorem iFit (p : Fact) (b : List Pair) (fs : List Fact) (hp : p.wt ≤ 1048576) (hb : PB b) (hf : FS fs) : d_impl_MatchingFacts p b fs = some (fitF p b fs) := by
  unfold d_impl_MatchingFacts
  have h1 := hf.1
  refine (fitLoop (mf := fun f => d_impl_MatchFact p f b) (cp := d_impl_copyFact) (p := p) (b := b) (L := d_impl_MatchingFacts_L1 p b fs _) (k := fun q => some q) (fun f h => iMat p f b hp h hb) (fun f h => iCopyF f (by have := Fact.args_le h; omega)) (fun _ _ => rfl) (fun _ _ _ _ => rfl) fs 0 [] hf.2 (by simp; omega)).trans ?_
  simp
def hldC (c : Cond) (b : List Pair) (fs : List Fact) : Bool := condB c && (bindB b && (bif decide (c.kind = 1) then decide (0 < (fitF c.pat b fs).length) else bif decide (c.kind = 2) then decide ((fitF c.pat b fs).length = 0) else hldT c b))
theorem len_gt (l : List Fact) : decide (((((l).map Fact.c).length : Int) : Int) > (0)) = decide (0 < l.length) := by rw [List.length_map]; congr 1; rw [eq_iff_iff]; omega
theorem len_eq (l : List Fact) : ((((((l).map Fact.c).length : Int) : Int) == (0))) = decide (l.length = 0) := by rw [List.length_map, int_beq]; congr 1; rw [eq_iff_iff]; omega
theorem iHldC (c : Cond) (b : List Pair) (fs : List Fact) (hc : c.wt ≤ 1048576) (hb : PB b) (hf : FS fs) : d_impl_HoldsCond c b fs = some (hldC c b fs) := by
  unfold d_impl_HoldsCond hldC
  rw [iCond c hc, Option.bind_some, iBind b hb, Option.bind_some, iFit c.pat b fs (Cond.pat_le hc) hb hf, Option.bind_some, Option.bind_some, iHldT c b hc hb, Option.bind_some, int_beq, int_beq, len_gt, len_eq]
  cases condB c with
  | false => rfl
  | true =>
    cases bindB b with
    | false => rfl
    | true => cases decide (c.kind = 1) <;> cases decide (c.kind = 2) <;> rfl
end Go.Cx
