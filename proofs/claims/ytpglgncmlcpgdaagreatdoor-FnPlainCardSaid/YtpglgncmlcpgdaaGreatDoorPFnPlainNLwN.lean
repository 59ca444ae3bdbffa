/- Draws of conditions and rules in plain words: they come back, with data of bounded size. No condition but bounds. -/
import Derived.Test.YtpglgncmlcpgdaaGreatDoorPFnPlainNLwL
import Derived.Test.YtpglgncmlcpgdaaGreatDoorPFnPlainNFn2
namespace Go.Cx
open Go.RowKit Go.Proofs
set_option linter.unusedVariables false
set_option linter.unusedSimpArgs false
/-- conditions, actions and rules of bounded size -/
def SmallC (c : Cond) : Prop := SmallF 4 c.pat ∧ c.left.length ≤ 16 ∧ c.right.length ≤ 16
def SmallA (a : Action) : Prop := SmallF 4 a.pat
def SmallR (n : Nat) (r : Rule) : Prop := r.name.length ≤ 16 ∧ (r.conds.length ≤ n ∧ ∀ c ∈ r.conds, SmallC c) ∧ (r.acts.length ≤ n ∧ ∀ a ∈ r.acts, SmallA a)
theorem wtL_max {α : Type} {w : α → Nat} {B : Nat} : ∀ (l : List α), (∀ x ∈ l, w x ≤ B) → wtL w l ≤ (B + 1) * l.length
  | [], _ => by simp [wtL]
  | x :: l, h => by
    have h1 := wtL_max l fun y hy => h y (by simp [hy])
    have h2 := h x (by simp)
    rw [wtL_cons, List.length_cons, Nat.mul_add]; omega
theorem SmallF.wt4 {p : Fact} (h : SmallF 4 p) : tw p.rel + wtL tw p.args ≤ 100 := by
  have := wtL_small p.args h.2.2
  have h1 := h.1
  have h2 := h.2.1
  unfold tw at *
  omega
theorem SmallC.wt {c : Cond} (h : SmallC c) : c.wt ≤ 200 := by
  have h1 := h.1.wt4
  have h2 := h.2.1
  have h3 := h.2.2
  unfold Cond.wt
  unfold tw at *
  omega
theorem SmallA.wt {a : Action} (h : SmallA a) : a.wt ≤ 200 := by
  have h1 := SmallF.wt4 h
  unfold Action.wt
  unfold tw at *
  omega
theorem SmallR.wt {n : Nat} {r : Rule} (h : SmallR n r) (hn : n ≤ 1000) : r.wt ≤ 1048576 := by
  obtain ⟨h1, ⟨h2, h3⟩, h4, h5⟩ := h
  have c1 := wtL_max (w := Cond.wt) (B := 200) r.conds (fun x hx => (h3 x hx).wt)
  have c2 := wtL_max (w := Action.wt) (B := 200) r.acts (fun x hx => (h5 x hx).wt)
  have d1 : (200 + 1) * r.conds.length ≤ 201 * 1000 := Nat.mul_le_mul_left _ (by omega)
  have d2 : (200 + 1) * r.acts.length ≤ 201 * 1000 := Nat.mul_le_mul_left _ (by omega)
  unfold Rule.wt
  unfold tw at *
  omega
def smallFb (p : Fact) : Bool := decide (p.rel.length ≤ 16) && (decide (p.args.length ≤ 4) && p.args.all fun x => decide (x.length ≤ 16))
theorem smallF_of {p : Fact} (h : smallFb p = true) : SmallF 4 p := by
  unfold smallFb at h
  simp only [Bool.and_eq_true, decide_eq_true_eq, List.all_eq_true] at h
  exact h
def smallRb (r : Rule) : Bool := (decide (r.name.length ≤ 16) && ((decide (r.conds.length ≤ 4) && r.conds.all fun c => smallFb c.pat && (decide (c.left.length ≤ 16) && decide (c.right.length ≤ 16))) && (decide (r.acts.length ≤ 4) && r.acts.all fun a => smallFb a.pat))) && (decide (1 ≤ r.conds.length) && decide (1 ≤ r.acts.length))
theorem smallR_of {r : Rule} (h : smallRb r = true) : SmallR 4 r ∧ 1 ≤ r.conds.length ∧ 1 ≤ r.acts.length := by
  unfold smallRb at h
  simp only [Bool.and_eq_true, decide_eq_true_eq, List.all_eq_true] at h
  obtain ⟨⟨h1, ⟨h2, h3⟩, h4, h5⟩, h6, h7⟩ := h
  exact ⟨⟨h1, ⟨h2, fun c hc => ⟨smallF_of (h3 c hc).1, (h3 c hc).2⟩⟩, h4, fun a ha => smallF_of (h5 a ha)⟩, h6, h7⟩
theorem sTest4 (c : Cur) (l r : Bytes) (h : CurOk c) (hl : l.length ≤ 16) (hr : r.length ≤ 16) : ∃ c' x, d_spec_l4Test c l r = some (c', x) ∧ CurOk c' ∧ SmallC x := by
  unfold d_spec_l4Test
  obtain ⟨c1, k, e, hc, _⟩ := sIntD c [3, 4, 4, 5] h (by decide) (by decide)
  rw [e, Option.bind_some]
  exact ⟨_, _, rfl, hc, ⟨by simp, by simp, by simp⟩, hl, hr⟩
theorem sDraw4 (c : Cur) (h : CurOk c) : ∃ c' x, d_spec_l4Draw c = some (c', x) ∧ CurOk c' ∧ SmallC x := by
  unfold d_spec_l4Draw
  obtain ⟨c1, k, e, hc, _, _⟩ := sBelow c 5 h (by decide) (by decide)
  rw [e, Option.bind_some]
  have one : ∀ k : Int, ∃ c' x, ((d_spec_l3Draw c1).bind fun y4 => (some ((y4.1, (⟨k, y4.2, [], []⟩ : Cond))))) = some (c', x) ∧ CurOk c' ∧ SmallC x := fun k => by
    obtain ⟨c2, p, e2, hc2, hp⟩ := sDrawP c1 hc
    rw [e2, Option.bind_some]
    exact ⟨_, _, rfl, hc2, ⟨hp.1, by have := hp.2.1; show p.args.length ≤ 4; omega, hp.2.2⟩, by simp, by simp⟩
  cases (k == (0 : Int)) with
  | true => rw [cond_true]; exact one 1
  | false =>
    rw [cond_false]
    cases (k == (1 : Int)) with
    | true => rw [cond_true]; exact one 1
    | false =>
      rw [cond_false]
      cases (k == (2 : Int)) with
      | true => rw [cond_true]; exact one 2
      | false =>
        obtain ⟨c2, l, e2, hc2, hl⟩ := sTermD c1 hc
        obtain ⟨c3, r, e3, hc3, hr⟩ := sTermD c2 hc2
        obtain ⟨c4, x, e4, hc4, hx⟩ := sTest4 c3 l r hc3 hl hr
        rw [cond_false, e2, Option.bind_some, e3, Option.bind_some, e4, Option.bind_some]
        exact ⟨_, _, rfl, hc4, hx⟩
theorem sAny4 (c : Cur) (h : CurOk c) : ∃ c' x, d_spec_l4Any c = some (c', x) ∧ CurOk c' ∧ SmallC x := by
  unfold d_spec_l4Any
  obtain ⟨c1, x, e, hc, hx⟩ := sDraw4 c h
  obtain ⟨c2, k, e2, hc2, _, _⟩ := sBelow c1 12 hc (by decide) (by decide)
  rw [e, Option.bind_some, e2, Option.bind_some]
  cases (k == (0 : Int)) with
  | true =>
    obtain ⟨c3, n, e3, hc3, _⟩ := sIntD c2 [0, 1, 3, 5, 6, -1] hc2 (by decide) (by decide)
    rw [cond_true, e3, Option.bind_some]
    exact ⟨_, _, rfl, hc3, hx⟩
  | false =>
    rw [cond_false]
    cases (k == (1 : Int)) with
    | true =>
      obtain ⟨c3, s, e3, hc3, hs⟩ := sWordD c2 hc2
      rw [cond_true, e3, Option.bind_some]
      exact ⟨_, _, rfl, hc3, hx.1, hs, hx.2.2⟩
    | false =>
      rw [cond_false]
      cases (k == (2 : Int)) with
      | true =>
        obtain ⟨c3, p, e3, hc3, hp⟩ := sAnyP c2 hc2
        rw [cond_true, e3, Option.bind_some]
        exact ⟨_, _, rfl, hc3, hp, hx.2⟩
      | false => exact ⟨_, _, rfl, hc2, hx⟩
/-- a text that is read as a valid rule of bounded size -/
def knownOk (s : Bytes) : Bool := match d_spec_ParseRule s with
  | some (r, _) => smallRb r && ruleB r
  | none => false
/-- a drawn rule: valid, of bounded size -/
def GoodR (r : Rule) : Prop := SmallR 4 r ∧ ruleB r = true ∧ 1 ≤ r.conds.length ∧ 1 ≤ r.acts.length
theorem sKnownG (K : List Bytes) (c : Cur) (m : Int) (h : CurOk c) (hm : 0 < m) (h0 : 0 < K.length) (h1 : K.length ≤ 256) (hK : K.all knownOk = true) :
    ∃ c' r, ((d_spec_l1Below c (iMin m (((K.map tx).length : Int)))).bind fun y1 => ((atI K y1.2).bind fun x3 => ((d_spec_ParseRule x3).bind fun y5 => (some (y1.1, y5.1))))) = some (c', r) ∧ CurOk c' ∧ GoodR r := by
  have hlen : ((K.map tx).length : Int) = (K.length : Int) := by simp
  have hmin : 0 < iMin m (((K.map tx).length : Int)) ∧ iMin m (((K.map tx).length : Int)) ≤ (K.length : Int) := by
    unfold iMin; rw [hlen]; split <;> omega
  obtain ⟨c1, x, e, hc, hx, hx2⟩ := sBelow c _ h hmin.1 (by omega)
  have hlt : x.toNat < K.length := by omega
  have e2 : atI K x = some K[x.toNat] := by unfold atI; rw [decide_eq_true hx, cond_true]; exact List.getElem?_eq_getElem hlt
  have hk := List.all_eq_true.1 hK _ (List.getElem_mem hlt)
  unfold knownOk at hk
  rw [e, Option.bind_some, e2, Option.bind_some]
  cases hp : d_spec_ParseRule K[x.toNat] with
  | none => rw [hp] at hk; cases hk
  | some p =>
    rw [hp] at hk
    simp only [Bool.and_eq_true] at hk
    obtain ⟨q1, q2, q3⟩ := smallR_of hk.1
    exact ⟨_, _, rfl, hc, q1, hk.2, q2, q3⟩
theorem sKnown (c : Cur) (m : Int) (h : CurOk c) (hm : 0 < m) : ∃ c' r, d_spec_l5Known c m = some (c', r) ∧ CurOk c' ∧ GoodR r := by
  unfold d_spec_l5Known
  refine sKnownG _ c m h hm ?_ ?_ ?_
  · decide
  · decide
  · kernel_rfl
theorem sRandL1 (y1 : Cur × Int) : ∀ (m : Nat) (fu : Nat) (v : Int) (c : Cur) (w : List Cond), v = (m : Int) → m < fu → m ≤ 50 → w.length + m ≤ 100 → CurOk c → (∀ x ∈ w, SmallC x) →
    ∃ c' w', (∀ k, d_spec_l5Random_L1 y1 k fu v c.b c.i c.h w = k c'.b c'.i c'.h w') ∧ CurOk c' ∧ w'.length = w.length + m ∧ ∀ x ∈ w', SmallC x := by
  intro m
  induction m with
  | zero =>
    intro fu v c w hv hf hm hn hc hw
    cases fu with
    | zero => omega
    | succ fu =>
      have e : decide (v > 0) = false := by simp; omega
      exact ⟨c, w, fun k => by rw [d_spec_l5Random_L1, e, cond_false], hc, rfl, hw⟩
  | succ m ih =>
    intro fu v c w hv hf hm hn hc hw
    cases fu with
    | zero => omega
    | succ fu =>
      have e : decide (v > 0) = true := by simp; omega
      obtain ⟨c1, x, e2, hc1, hx⟩ := sDraw4 c hc
      have e2' : d_spec_l4Draw (⟨c.b, c.i, c.h⟩ : Cur) = some (c1, x) := e2
      have e3 : IntKind.i64.wrap (v - 1) = v - 1 := wrap_in (InR.i64.2 (by omega))
      obtain ⟨c', w', q1, q2, q3, q4⟩ := ih fu (v - 1) c1 (w ++ [x]) (by omega) (by omega) (by omega) (by simp; omega) hc1 (fun y hy => by
        rcases List.mem_append.1 hy with h | h
        · exact hw y h
        · simp at h; subst h; exact hx)
      exact ⟨c', w', fun k => by rw [d_spec_l5Random_L1, e, cond_true, e2', Option.bind_some, room1 (by omega) (by decide), cond_true, e3]; exact q1 k, q2, by simp at q3; omega, q4⟩
theorem sRandL2 (y1 : Cur × Int) (q : List Cond) (y : List Bytes) (y25 : Cur × Fact) : ∀ (m : Nat) (fu : Nat) (v : Nat) (c : Cur) (w : List Bytes), w.length = v + m → m < fu → w.length ≤ 100 → CurOk c → (∀ x ∈ w, x.length ≤ 16) →
    ∃ c' w', (∀ k, d_spec_l5Random_L2 y1 q y y25 k fu (v : Int) c.b c.i c.h w = k c'.b c'.i c'.h w') ∧ CurOk c' ∧ w'.length = w.length ∧ ∀ x ∈ w', x.length ≤ 16 := by
  intro m
  induction m with
  | zero =>
    intro fu v c w hv hf hm hc hw
    cases fu with
    | zero => omega
    | succ fu =>
      have e : decide ((v : Int) < (((w.map tx).length : Int))) = false := by simp; omega
      exact ⟨c, w, fun k => by rw [d_spec_l5Random_L2, e, cond_false], hc, rfl, hw⟩
  | succ m ih =>
    intro fu v c w hv hf hm hc hw
    cases fu with
    | zero => omega
    | succ fu =>
      have e : decide ((v : Int) < (((w.map tx).length : Int))) = true := by simp; omega
      have hlt : v < w.length := by omega
      have e1 : atI w (v : Int) = some w[v] := by unfold atI; rw [decide_eq_true (by omega), cond_true]; exact List.getElem?_eq_getElem hlt
      have hx := hw w[v] (List.getElem_mem hlt)
      have e4 : IntKind.i64.wrap ((v : Int) + 1) = ((v + 1 : Nat) : Int) := by rw [wrap_in (InR.i64.2 (by omega))]; rfl
      have st : ∀ k, d_spec_l5Random_L2 y1 q y y25 k (fu + 1) (v : Int) c.b c.i c.h w = (bif varB w[v] then (bif !(y.contains w[v]) then ((d_spec_l1Atom (⟨c.b, c.i, c.h⟩ : Cur)).bind fun y83 => d_spec_l5Random_L2 y1 q y y25 k fu ((v + 1 : Nat) : Int) y83.1.b y83.1.i y83.1.h (w.set (v : Int).toNat y83.2)) else d_spec_l5Random_L2 y1 q y y25 k fu ((v + 1 : Nat) : Int) c.b c.i c.h w) else d_spec_l5Random_L2 y1 q y y25 k fu ((v + 1 : Nat) : Int) c.b c.i c.h w) := by
        intro k
        rw [d_spec_l5Random_L2, e, cond_true, e1, Option.bind_some, sVar w[v] (by omega), Option.bind_some, e4, sHas, Option.bind_some]
      obtain ⟨c0, w0, p1, p2, p3, p4⟩ := ih fu (v + 1) c w (by omega) (by omega) hm hc hw
      cases hv1 : varB w[v] with
      | false => exact ⟨c0, w0, fun k => by rw [st k, hv1, cond_false]; exact p1 k, p2, p3, p4⟩
      | true =>
        cases hv2 : y.contains w[v] with
        | true => exact ⟨c0, w0, fun k => by rw [st k, hv1, hv2, cond_true, Bool.not_true, cond_false]; exact p1 k, p2, p3, p4⟩
        | false =>
          obtain ⟨c1, s, e2, hc1, hs⟩ := sAtomD c hc
          have e2' : d_spec_l1Atom (⟨c.b, c.i, c.h⟩ : Cur) = some (c1, s) := e2
          obtain ⟨c', w', q1, q2, q3, q4⟩ := ih fu (v + 1) c1 (w.set (v : Int).toNat s) (by simp; omega) (by omega) (by simpa using hm) hc1 (fun x hxm => by
            rcases List.mem_or_eq_of_mem_set hxm with h | h
            · exact hw x h
            · subst h; exact hs)
          exact ⟨c', w', fun k => by rw [st k, hv1, hv2, cond_true, Bool.not_false, cond_true, e2', Option.bind_some]; exact q1 k, q2, by simpa using q3, q4⟩
theorem sRand (c : Cur) (h : CurOk c) : ∃ c' r, d_spec_l5Random c = some (c', r) ∧ CurOk c' ∧ GoodR r := by
  unfold d_spec_l5Random
  obtain ⟨c1, n, e1, hc1, _, _⟩ := sBelow c 4 h (by decide) (by decide)
  obtain ⟨c2, p, e2, hc2, hp⟩ := sDrawP c1 hc1
  obtain ⟨c3, m, e3, hc3, hm, hm2⟩ := sBelow c2 3 hc2 (by decide) (by decide)
  rw [e1, Option.bind_some, e2, Option.bind_some, e3, Option.bind_some]
  have hp4 : SmallF 4 p := ⟨hp.1, by have := hp.2.1; omega, hp.2.2⟩
  obtain ⟨c4, cs, q1, hc4, hcs0, hsm⟩ := sRandL1 (c1, n) m.toNat fuel m c3 [(⟨1, p, [], []⟩ : Cond)] (by omega) (by unfold fuel; omega) (by omega) (by simp; omega) hc3 (fun x hx => by
      simp at hx; subst hx; exact ⟨hp4, by simp, by simp⟩)
  have hcs : 1 ≤ cs.length ∧ cs.length ≤ 3 := by simp at hcs0; omega
  rw [q1]
  dsimp only
  have hw0 : (⟨[114], n, cs, []⟩ : Rule).wt ≤ 1048576 := SmallR.wt (n := 4) ⟨by simp, ⟨by show cs.length ≤ 4; omega, hsm⟩, by simp, by simp⟩ (by decide)
  obtain ⟨c5, q, e5, hc5, hq⟩ := sDrawP c4 hc4
  have e5' : d_spec_l3Draw (⟨c4.b, c4.i, c4.h⟩ : Cur) = some (c5, q) := e5
  rw [sBound (⟨[114], n, cs, []⟩ : Rule) _ hw0, Option.bind_some, e5', Option.bind_some]
  dsimp only
  obtain ⟨c6, qa, r1, hc6, r3, r4⟩ := sRandL2 (c1, n) cs (uniqS (bndV (⟨[114], n, cs, []⟩ : Rule) (((cs.map Cond.c).length : Int)))) (c5, q) q.args.length fuel 0 c5 q.args (by simp) (by have := hq.2.1; unfold fuel; omega) (by have := hq.2.1; omega) hc5 hq.2.2
  have r1' := r1
  rw [show (((0 : Nat) : Int)) = 0 from rfl] at r1'
  rw [r1']
  obtain ⟨c7, k, e7, hc7, _⟩ := sIntD c6 [1, 1, 2] hc6 (by decide) (by decide)
  have e7' : d_spec_l1Int (⟨c6.b, c6.i, c6.h⟩ : Cur) [1, 1, 2] = some (c7, k) := e7
  obtain ⟨c8, b, e8, hc8⟩ := sOnce c7 6 hc7 (by decide) (by decide)
  have room1' : ∀ n, n ≤ 4 → room n 48 = true := fun n hn => roomK (by omega) (by decide)
  rw [e7', Option.bind_some]
  dsimp only
  rw [room1' _ (by simp), cond_true, e8, Option.bind_some]
  have hq4 : SmallF 4 (⟨q.rel, qa⟩ : Fact) := ⟨hq.1, by show qa.length ≤ 4; have := hq.2.1; omega, r4⟩
  have fin : ∀ (al : List Action), 1 ≤ al.length → al.length ≤ 2 → (∀ a ∈ al, SmallA a) → ∃ c' r, ((d_spec_IsRule (⟨[114], n, cs, al⟩ : Rule)).bind fun y92 => (bif !(y92) then ((d_spec_l5Known c8 99).bind fun y95 => (some ((y95.1, y95.2)))) else (some ((c8, (⟨[114], n, cs, al⟩ : Rule)))))) = some (c', r) ∧ CurOk c' ∧ GoodR r := by
    intro al ha1 ha2 ha
    have hsr : SmallR 4 (⟨[114], n, cs, al⟩ : Rule) := ⟨by simp, ⟨by show cs.length ≤ 4; omega, hsm⟩, by show al.length ≤ 4; omega, ha⟩
    rw [sRule _ (hsr.wt (by decide)), Option.bind_some]
    cases hr : ruleB (⟨[114], n, cs, al⟩ : Rule) with
    | true => exact ⟨_, _, rfl, hc8, hsr, hr, hcs.1, ha1⟩
    | false =>
      obtain ⟨c9, r, e9, hc9, hr9⟩ := sKnown c8 99 hc8 (by decide)
      rw [Bool.not_false, cond_true, e9, Option.bind_some]
      exact ⟨_, _, rfl, hc9, hr9⟩
  cases b with
  | true =>
    dsimp only
    rw [cond_true, room1' _ (by simp), cond_true]
    exact fin _ (by simp) (by simp) (fun a ha => by
      simp at ha
      rcases ha with rfl | rfl
      · exact hq4
      · exact ⟨by simp, by simp, by simp⟩)
  | false =>
    dsimp only
    rw [cond_false]
    exact fin _ (by simp) (by simp) (fun a ha => by
      simp at ha
      subst ha; exact hq4)
theorem sDraw5 (c : Cur) (h : CurOk c) : ∃ c' r, d_spec_l5Draw c = some (c', r) ∧ CurOk c' ∧ GoodR r := by
  unfold d_spec_l5Draw
  obtain ⟨c1, b, e, hc⟩ := sOnce c 3 h (by decide) (by decide)
  rw [e, Option.bind_some]
  cases b with
  | true =>
    obtain ⟨c2, r, e2, hc2, hr⟩ := sRand c1 hc
    rw [cond_true, e2, Option.bind_some]
    exact ⟨_, _, rfl, hc2, hr⟩
  | false =>
    obtain ⟨c2, r, e2, hc2, hr⟩ := sKnown c1 99 hc (by decide)
    rw [cond_false, e2, Option.bind_some]
    exact ⟨_, _, rfl, hc2, hr⟩
theorem SmallR.le {n m : Nat} {r : Rule} (h : SmallR n r) (hm : n ≤ m) : SmallR m r := ⟨h.1, ⟨by have := h.2.1.1; omega, h.2.1.2⟩, by have := h.2.2.1; omega, h.2.2.2⟩
theorem sAny5 (c : Cur) (h : CurOk c) : ∃ c' r, d_spec_l5Any c = some (c', r) ∧ CurOk c' ∧ SmallR 5 r := by
  unfold d_spec_l5Any
  obtain ⟨c1, r, e, hc, hg, _, g1, g2⟩ := sDraw5 c h
  obtain ⟨c2, x, e2, hc2, _, _⟩ := sBelow c1 14 hc (by decide) (by decide)
  have hr := hg.le (m := 5) (by decide)
  have hl1 := hg.2.1.1
  have hl2 := hg.2.2.1
  rw [e, Option.bind_some, e2, Option.bind_some]
  cases (x == (0 : Int)) with
  | true =>
    obtain ⟨c3, s, e3, hc3, hs⟩ := sWordD c2 hc2
    rw [cond_true, e3, Option.bind_some]
    exact ⟨_, _, rfl, hc3, hs, hr.2⟩
  | false =>
    rw [cond_false]
    cases (x == (1 : Int)) with
    | true =>
      obtain ⟨c3, s, e3, hc3, _⟩ := sIntD c2 [-1, 0, 9, 10] hc2 (by decide) (by decide)
      rw [cond_true, e3, Option.bind_some]
      exact ⟨_, _, rfl, hc3, hr⟩
    | false =>
      rw [cond_false]
      cases (x == (2 : Int)) with
      | true =>
        obtain ⟨c3, k, e3, hc3, hk⟩ := sAny4 c2 hc2
        rw [cond_true, e3, Option.bind_some, room1 (by show r.conds.length < _; omega) (by decide), cond_true]
        refine ⟨_, _, rfl, hc3, hr.1, ⟨by simp; omega, fun y hy => ?_⟩, hr.2.2⟩
        rcases List.mem_append.1 hy with h | h
        · exact hr.2.1.2 y h
        · simp at h; subst h; exact hk
      | false =>
        rw [cond_false]
        cases (x == (3 : Int)) with
        | true =>
          obtain ⟨c3, k, e3, hc3, _⟩ := sIntD c2 [0, 1, 2, 3, 4] hc2 (by decide) (by decide)
          obtain ⟨c4, p, e4, hc4, hp⟩ := sAnyP c3 hc3
          rw [cond_true, e3, Option.bind_some, e4, Option.bind_some, room1 (by show r.acts.length < _; omega) (by decide), cond_true]
          refine ⟨_, _, rfl, hc4, hr.1, hr.2.1, by simp; omega, fun y hy => ?_⟩
          rcases List.mem_append.1 hy with h | h
          · exact hr.2.2.2 y h
          · simp at h; subst h; exact hp
        | false =>
          rw [cond_false]
          cases (x == (4 : Int)) with
          | true =>
            rw [cond_true, pcut1 (by simpa using g1), Option.bind_some]
            exact ⟨_, _, rfl, hc2, hr.1, ⟨by rw [List.length_drop, List.length_take]; show min _ r.conds.length - 1 ≤ 5; omega, fun y hy => hr.2.1.2 y (List.mem_of_mem_take (List.mem_of_mem_drop hy))⟩, hr.2.2⟩
          | false =>
            rw [cond_false]
            cases (x == (5 : Int)) with
            | true =>
              rw [cond_true, pcut1 (by simpa using g2), Option.bind_some]
              exact ⟨_, _, rfl, hc2, hr.1, hr.2.1, by rw [List.length_drop, List.length_take]; show min _ r.acts.length - 1 ≤ 5; omega, fun y hy => hr.2.2.2 y (List.mem_of_mem_take (List.mem_of_mem_drop hy))⟩
            | false =>
              rw [cond_false]
              cases (x == (6 : Int)) with
              | true =>
                obtain ⟨c3, s, e3, hc3, hs⟩ := sStr c2 [[63, 102], [63, 97], [63, 103]] hc2 (by decide) (by decide)
                obtain ⟨c4, k, e4, hc4, _⟩ := sIntD c3 [1, 2] hc3 (by decide) (by decide)
                obtain ⟨c5, t, e5, hc5, ht⟩ := sStr c4 [[63, 102], [63, 120]] hc4 (by decide) (by decide)
                have hs2 : s.length ≤ 16 := by
                  have : ∀ s ∈ ([[63, 102], [63, 97], [63, 103]] : List Bytes), s.length ≤ 16 := by decide
                  exact this s hs
                have ht2 : t.length ≤ 16 := by
                  have : ∀ s ∈ ([[63, 102], [63, 120]] : List Bytes), s.length ≤ 16 := by decide
                  exact this t ht
                rw [cond_true, e3, Option.bind_some, e4, Option.bind_some, e5, Option.bind_some]
                refine ⟨_, _, rfl, hc5, hr.1, ⟨by simp, fun y hy => ?_⟩, by simp, fun y hy => ?_⟩
                · simp at hy
                  rcases hy with rfl | rfl | rfl
                  · exact ⟨⟨by simp, by simp, by simp⟩, by simp, by simp⟩
                  · exact ⟨⟨by simp, by simp, by simpa using hs2⟩, by simp, by simp⟩
                  · exact ⟨⟨by simp, by simp, by simpa using ht2⟩, by simp, by simp⟩
                · simp at hy; subst hy; exact ⟨by simp, by simp, by simp⟩
              | false => exact ⟨_, _, rfl, hc2, hr⟩
end Go.Cx
