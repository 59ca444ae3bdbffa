/- Regions whose order is drawn, where operations that only compute float beside a chain that makes objects of objects: every order gives the state of the text's order. No condition; plain lemmas. -/
import Derived.Test.YtoeenpcilfhjbaaDoorNRun
namespace Go.Cx
set_option linter.unusedVariables false
set_option linter.unusedSimpArgs false
open Go.RowKit

section
variable {P : Program} {Γ : Ctx} {Q : Exit → St → Prop} {st : St} {κ : Nat → Option Value} {Θ : Nat → Nat} {a : Act} {w : World} {all : Array Oper} {X : List Nat}

/-- the objects of the first list, but those of X, are those of the second -/
def ExtB (X : List Nat) (H H' : List Ob) : Prop := ∀ (i : Nat) o, i ∉ X → H[i]? = some o → H'[i]? = some o
theorem ExtB.refl {X : List Nat} (H : List Ob) : ExtB X H H := fun _ _ _ h => h
theorem ExtB.trans {X : List Nat} {A B C : List Ob} (h : ExtB X A B) (k : ExtB X B C) : ExtB X A C := fun i o n e => k i o n (h i o n e)
theorem ExtB.app {X : List Nat} {H H' : List Ob} (h : ExtB X H H') (n : List Ob) : ExtB X H (H' ++ n) := by
  intro i o hni hi
  have := h i o hni hi
  rw [List.getElem?_append_left (List.getElem?_eq_some_iff.1 this).1, this]
theorem ExtB.cs {X : List Nat} {H H' : List Ob} (h : ExtB X H H') {i : Nat} {cs : List D} (hi : i ∉ X) (hc : (H[i]?).bind Ob.cs? = some cs) : (H'[i]?).bind Ob.cs? = some cs := by
  obtain ⟨ob, hb, hb2⟩ := Option.bind_eq_some_iff.1 hc
  rw [h i ob hi hb]; exact hb2

/-- an operation that looks at no object but boxes -/
def stillOp (X : List Nat) (st : St) : Op → Bool
  | .fieldAddr _ _ _ => true
  | .field _ _ _ => true
  | .extract _ _ => true
  | .move _ => true
  | .binOp _ _ _ _ _ => true
  | .unOp _ _ _ => true
  | .nilCheck _ => true
  | .convert _ _ _ => true
  | .index _ _ _ => true
  | .build _ _ => true
  | .indexAddr _ x _ => (match st.ev x with | .sl _ => true | .acc id => !X.contains id | _ => false)
  | .load _ x => (match st.ev x with | .ep _ _ => true | .ptr id _ => !X.contains id | .op id _ _ _ => !X.contains id | _ => false)
  | _ => false

theorem still_pv {X : List Nat} {σ σ' : List (Nat × D)} {H H' : List Ob} {op : Op} {d : D} (hx : ExtB X H H') (hs : stillOp X ⟨σ, H⟩ op = true) (he : ∀ x ∈ op.operands.toList, St.ev ⟨σ, H⟩ x = St.ev ⟨σ', H'⟩ x) (h : pv P ⟨σ, H⟩ op = some d) : pv P ⟨σ', H'⟩ op = some d := by
  cases op <;> simp only [stillOp, Bool.false_eq_true] at hs <;> simp only [pv] at h ⊢
  case move x => rw [he x (by simp [Op.operands])] at *; exact h
  case nilCheck x => rw [he x (by simp [Op.operands])] at h; exact h
  case binOp op t x y t' => rw [he x (by simp [Op.operands]), he y (by simp [Op.operands])] at h; exact h
  case unOp op t x => cases op <;> simp only [pv] at h ⊢ <;> (try cases h) <;> (rw [he x (by simp [Op.operands])] at h; exact h)
  case convert s d x => rw [he x (by simp [Op.operands])] at h; exact h
  case field t x f => rw [he x (by simp [Op.operands])] at h; exact h
  case fieldAddr t x f => rw [he x (by simp [Op.operands])] at h; exact h
  case indexAddr t x i =>
    rw [he x (by simp [Op.operands])] at hs
    rw [he x (by simp [Op.operands]), he i (by simp [Op.operands])] at h
    split at hs
    · rename_i rows h0
      rw [h0] at h ⊢
      generalize tel P t = a at h ⊢
      generalize St.ev ⟨σ', H'⟩ i = b at h ⊢
      cases a <;> cases b <;> exact h
    · rename_i id h0
      rw [h0] at h ⊢
      generalize tel P t = a at h ⊢
      generalize St.ev ⟨σ', H'⟩ i = b at h ⊢
      cases a <;> cases b <;> first | exact h | skip
      dsimp only at h ⊢
      cases hH : H[id]? with
      | none => rw [hH] at h; cases h
      | some o => rw [hx id o (by simpa using hs) hH]; rw [hH] at h; exact h
    · cases hs
  case load t x =>
    rw [he x (by simp [Op.operands])] at hs h
    split at hs
    · rename_i row off h0
      rw [h0] at h ⊢
      generalize tagg P t = a at h ⊢
      cases a <;> exact h
    · rename_i id off h0
      rw [h0] at h ⊢
      generalize tagg P t = a at h ⊢
      cases a
      · exact h
      · dsimp only at h ⊢
        split at h
        · rename_i cells hH
          simp only [hx.cs (by simpa using hs) hH]; exact h
        · cases h
    · rename_i id i sz off h0
      rw [h0] at h ⊢
      generalize tagg P t = a at h ⊢
      cases a
      · exact h
      · dsimp only at h ⊢
        cases hH : H[id]? with
        | none => rw [hH] at h; cases h
        | some o => rw [hx id o (by simpa using hs) hH]; rw [hH] at h; exact h
    · cases hs
  case extract x i => rw [he x (by simp [Op.operands])] at h; exact h
  case index t x i => rw [he x (by simp [Op.operands]), he i (by simp [Op.operands])] at h; exact h
  case build t parts =>
    have : (parts.toList.map fun p => (p.1, St.ev ⟨σ, H⟩ p.2)) = parts.toList.map fun p => (p.1, St.ev ⟨σ', H'⟩ p.2) := by
      apply List.map_congr_left
      intro p hp
      rw [he p.2 (by simp only [Op.operands]; simp; exact ⟨p.1, by simpa using hp⟩)]
    rw [this] at h; exact h

/-! what an operation waits for, directly or through others -/
def addAll (xs acc : List Nat) : List Nat := xs.foldl (fun acc x => bif acc.contains x then acc else x :: acc) acc
theorem mem_addAll : ∀ {xs acc : List Nat} {x : Nat}, x ∈ addAll xs acc → x ∈ xs ∨ x ∈ acc := by
  intro xs
  induction xs with
  | nil => intro acc x h; exact .inr h
  | cons y ys ih =>
    intro acc x h
    rcases ih (acc := bif acc.contains y then acc else y :: acc) h with h | h
    · exact .inl (by simp [h])
    · cases hc : acc.contains y with
      | true => rw [hc] at h; exact .inr h
      | false =>
        rw [hc] at h
        rcases List.mem_cons.1 h with rfl | h
        · exact .inl (by simp)
        · exact .inr h
def depOf (acc : List (List Nat)) (es : List Edge) : List Nat := es.foldl (fun d e => bif Region.binds .any e then addAll (e.on :: acc.getD e.on []) d else d) []
theorem mem_depOf {acc : List (List Nat)} {es : List Edge} {i : Nat} (h : i ∈ depOf acc es) : ∃ e ∈ es, Region.binds .any e = true ∧ (i = e.on ∨ i ∈ acc.getD e.on []) := by
  have key : ∀ (es : List Edge) (d : List Nat), i ∈ es.foldl (fun d e => bif Region.binds .any e then addAll (e.on :: acc.getD e.on []) d else d) d → i ∈ d ∨ ∃ e ∈ es, Region.binds .any e = true ∧ (i = e.on ∨ i ∈ acc.getD e.on []) := by
    intro es
    induction es with
    | nil => intro d h; exact .inl h
    | cons e es ih =>
      intro d h
      rcases ih _ h with h | ⟨e', h1, h2⟩
      · cases hb : Region.binds .any e with
        | false => simp only [hb, cond_false] at h; exact .inl h
        | true =>
          simp only [hb, cond_true] at h
          rcases mem_addAll h with h | h
          · exact .inr ⟨e, by simp, hb, by simpa using h⟩
          · exact .inl h
      · exact .inr ⟨e', by simp [h1], h2⟩
  rcases key es [] h with h | h
  · cases h
  · exact h
def depStep (acc : List (List Nat)) (o : Oper) : List (List Nat) := acc ++ [depOf acc o.after.toList]
def depsOf (ops : List Oper) : List (List Nat) := ops.foldl depStep []

theorem deps_ok {ops : Array Oper} {listed : Array Bool} (closed : ∀ (j : Nat) oj, ops[j]? = some oj → listed.getD j false = true → ∀ e ∈ oj.after, Region.binds .any e = true → listed.getD e.on false = true) :
    ∀ (l pre : List Oper) (acc : List (List Nat)), ops.toList = pre ++ l → acc.length = pre.length →
      (∀ (j : Nat) o, ops[j]? = some o → (∀ e ∈ o.after, Region.binds .any e = true → listed.getD e.on false = true) → ∀ i ∈ acc.getD j [], listed.getD i false = true) →
      ∀ (j : Nat) o, ops[j]? = some o → (∀ e ∈ o.after, Region.binds .any e = true → listed.getD e.on false = true) → ∀ i ∈ (l.foldl depStep acc).getD j [], listed.getD i false = true := by
  intro l
  induction l with
  | nil => intro pre acc _ _ h; exact h
  | cons o l ih =>
    intro pre acc hl ha h
    refine ih (pre ++ [o]) (depStep acc o) (by simp [hl]) (by simp [depStep, ha]) ?_
    intro j oj hj hall i hi
    unfold depStep at hi
    rw [List.getD_eq_getElem?_getD] at hi
    rcases Nat.lt_trichotomy j acc.length with hlt | heq | hgt
    · rw [List.getElem?_append_left hlt, ← List.getD_eq_getElem?_getD] at hi
      exact h j oj hj hall i hi
    · subst heq
      rw [List.getElem?_append_right (Nat.le_refl _), Nat.sub_self] at hi
      simp only [List.getElem?_cons_zero, Option.getD_some] at hi
      have ho : oj = o := by
        rw [← Array.getElem?_toList, hl, List.getElem?_append_right (by omega), ha, Nat.sub_self] at hj
        simpa using hj.symm
      subst ho
      obtain ⟨e, he, hb, hi⟩ := mem_depOf hi
      have he' : e ∈ oj.after := by simpa using he
      have hel := hall e he' hb
      rcases hi with rfl | hi
      · exact hel
      · cases hoe : ops[e.on]? with
        | none =>
          have h1 : e.on < acc.length := by
            rcases Nat.lt_or_ge e.on acc.length with h | h
            · exact h
            · rw [List.getD_eq_getElem?_getD, List.getElem?_eq_none h] at hi; cases hi
          have h2 : ops.size ≤ e.on := by simpa using hoe
          have h3 : ops.size = pre.length + (l.length + 1) := by rw [← Array.length_toList, hl]; simp
          omega
        | some oe => exact h e.on oe hoe (closed e.on oe hoe hel) i hi
    · rw [List.getElem?_eq_none (by simp; omega)] at hi
      cases hi
theorem deps_listed {ops : Array Oper} {listed : Array Bool} (closed : ∀ (j : Nat) oj, ops[j]? = some oj → listed.getD j false = true → ∀ e ∈ oj.after, Region.binds .any e = true → listed.getD e.on false = true) {j : Nat} (hj : j ∈ Region.ready .any ops listed) {i : Nat} (hi : ((depsOf ops.toList).getD j []).contains i = true) : listed.getD i false = true := by
  obtain ⟨_, o, ho, hall⟩ := mem_ready.1 hj
  exact deps_ok closed ops.toList [] [] (by simp) rfl (by simp) j o ho hall i (List.contains_iff_mem.1 hi)

def drawC (dp : List (List Nat)) (ops : Array Oper) (n m : Nat) (L : List Nat) : Bool :=
  (decide (n ≤ m) && decide (m ≤ ops.size)) &&
  (Region.seqB .any ops (ops.size - m) m (Array.replicate m true ++ Array.replicate (ops.size - m) false) &&
  (((List.range (ops.size - m)).all fun j => (List.range m).all fun i => (dp.getD (m + j) []).contains i) &&
  (((List.range (m - n)).all fun j => (List.range (n + j)).all fun i => (dp.getD (n + j) []).contains i || L.contains i) &&
  (((List.range m).all fun i => match ops[i]? with | none => false | some o => o.after.all fun e => !Region.binds .any e || decide (e.on < i)) &&
  (((List.range n).all fun i => match ops[i]? with
    | none => false
    | some o => ((o.looksAt ops).all fun t => (List.range n).all fun j => match ops[j]? with | some oj => !(oj.dst == some t) || (decide (j < i) && Region.waitsFor .any ops i j) | none => true) &&
      (List.range n).all fun j => j == i || (match ops[j]? with | some oj => !(oj.dst == o.dst) || o.dst.isNone | none => true)) &&
  (((List.range (m - n)).all fun j => match ops[n + j]? with
    | none => false
    | some o => L.all fun i => match ops[i]? with
      | none => false
      | some oi => (!(oi.dst == o.dst) && !((oi.looksAt ops).any fun t => o.dst == some t)) && ((dp.getD (n + j) []).contains i || !((o.looksAt ops).any fun t => oi.dst == some t))) &&
  L.all fun i => decide (i < n) && (match ops[i]? with | some oi => oi.guard.isNone && oi.dst.isSome | none => false)))))))
def drawB2 (ops : Array Oper) (n m : Nat) (L : List Nat) : Bool := drawC (depsOf ops.toList) ops n m L

/-- one operation of the chain -/
def Step (P : Program) (Γ : Ctx) (o : Oper) (st st1 : St) : Prop :=
  ∀ κ Θ a w, Sim Γ st κ Θ a w → o.wp P a w (fun a' w' => ∃ κ' Θ', Sim Γ st1 κ' Θ' a' w') (fun e _ _ => e = .normal)
def AMid (P : Program) (Γ : Ctx) (X : List Nat) (K : St → Prop) : List Oper → St → Prop
  | [], st => K st
  | o :: os, st => ∃ st1, ((∃ t d, o.dst = some t ∧ t < Γ.nt ∧ st1.σ = (t, d) :: st.σ) ∨ (o.dst = none ∧ st1.σ = st.σ)) ∧ ExtB X st.H st1.H ∧ o.guard = none ∧ (∀ cs b, o.op ≠ .select cs b) ∧ Step P Γ o st st1 ∧ AMid P Γ X K os st1

theorem wp_frame {o : Oper} {a b : Act} {w : World} {K K2 : Act → World → Prop} {Q1 Q2 : Exit → Act → World → Prop} (hsel : ∀ cs b, o.op ≠ .select cs b) (he : ∀ x ∈ o.op.operands, a.eval x = b.eval x)
    (hK : ∀ v w', K (b.put o.dst v) w' → K2 (a.put o.dst v) w') (hdf : ∀ d w', ¬ K ({ b with defers := d :: b.defers }.put o.dst undef) w') (hQ : ∀ e c w', Q1 e c w' → e = .normal) (h : o.wp P b w K Q1) : o.wp P a w K2 Q2 := by
  unfold Oper.wp at *
  rw [execOp_congr o hsel he]
  generalize (execOp b.eval o).run P w = r at *
  cases r with
  | ok n w' =>
    cases n with
    | value v => exact hK _ _ h
    | skip => exact hK _ _ h
    | defer d => exact absurd h (hdf _ _)
    | enter f args =>
      refine Calls.mono h ?_
      intro e w'' he
      cases e with
      | returned v => exact hK _ _ he
      | panicked c => exact absurd (hQ _ _ _ he) (by simp)
      | outgrown =>
        obtain ⟨a0, w0, hq⟩ := he
        exact absurd (hQ _ _ _ hq) (by simp)
    | row r args => exact Rows.mono h fun v w'' he => hK _ _ he
    | _ => exact h.elim
  | halt x w' =>
    cases x with
    | panic u => exact absurd (hQ _ _ _ h) (by simp)
    | _ => exact h.elim

theorem lk_any {l : List (Nat × D)} {σ : List (Nat × D)} (h : ∀ p ∈ l, p.2 = .any) {t : Nat} (ht : t ∈ l.map Prod.fst) : lk (l ++ σ) t = .any := by
  induction l with
  | nil => cases ht
  | cons p l ih =>
    obtain ⟨u, d⟩ := p
    have hd : d = .any := h (u, d) (by simp)
    subst hd
    simp only [List.cons_append, lk]
    by_cases e : t = u
    · rw [if_pos e]
    · rw [if_neg e]
      refine ih (fun p hp => h p (by simp [hp])) ?_
      simp only [List.map_cons, List.mem_cons] at ht
      rcases ht with h | h
      · exact absurd h e
      · exact h
theorem put_get_ne (a : Act) {t u : Nat} (v : Value) (h : u ≠ t) : (a.put (some t) v).tmps.getD u undef = a.tmps.getD u undef := by
  show (a.tmps.setIfInBounds t v).getD u undef = _
  simp [Array.getD_eq_getD_getElem?, Ne.symm h]
theorem put_get_self (a : Act) {t : Nat} (v : Value) (h : t < a.tmps.size) : (a.put (some t) v).tmps.getD t undef = v := by
  show (a.tmps.setIfInBounds t v).getD t undef = _
  simp [Array.getD_eq_getD_getElem?, h]
theorem count_set {m i : Nat} {listed : Array Bool} (hi : i < m) (hsz : i < listed.size) (hl : listed.getD i false = false) : ((List.range m).filter fun j => !(listed.setIfInBounds i true).getD j false).length + 1 = ((List.range m).filter fun j => !listed.getD j false).length := by
  have hcnt : ((List.range m).filter fun j => !(listed.setIfInBounds i true).getD j false) = ((List.range m).filter fun j => !listed.getD j false).erase i := by
    have hnd : ((List.range m).filter fun j => !listed.getD j false).Nodup := List.Pairwise.filter _ List.nodup_range
    rw [hnd.erase_eq_filter, List.filter_filter]
    apply List.filter_congr
    intro j _
    by_cases e : j = i
    · subst e
      simp [hsz]
    · rw [getD_set_ne false (Ne.symm e)]
      simp [e]
  have hmem : i ∈ (List.range m).filter fun j => !listed.getD j false := List.mem_filter.2 ⟨List.mem_range.2 hi, by simp only [hl]; rfl⟩
  have hpos : 0 < ((List.range m).filter fun j => !listed.getD j false).length := List.length_pos_of_mem hmem
  rw [hcnt, List.length_erase_of_mem hmem]
  omega

/-- what is known of an operation that floats -/
def LateOk (P : Program) (Γ : Ctx) (X : List Nat) (l : List Oper) (σF : List (Nat × D)) (H0 : List Ob) (i : Nat) : Prop :=
  ∃ o t d, l.toArray[i]? = some o ∧ o.guard = none ∧ o.dst = some t ∧ t < Γ.nt ∧ lk σF t = d ∧ ∀ σ' H', ExtB X H0 H' → (∀ u ∈ o.looksAt l.toArray, lk σ' u = lk σF u) → pv P ⟨σ', H'⟩ o.op = some d

theorem draw_phase2 {l : List Oper} {n m : Nat} {L : List Nat} {σF : List (Nat × D)} {H0 : List Ob} (hB : drawB2 l.toArray n m L = true) (hlate : ∀ i ∈ L, LateOk P Γ X l σF H0 i) :
    ∀ (f c : Nat) (S : St) (listed : Array Bool) (σ' : List (Nat × D)) (κ : Nat → Option Value) (Θ : Nat → Nat) (a : Act) (w : World), HeadInv .any l.toArray l.toArray.size listed →
      (∀ i, i < n → i ∉ L → listed.getD i false = true) → n + c ≤ m → (∀ i, n ≤ i → i < n + c → listed.getD i false = true) → (∀ i, n + c ≤ i → i < l.toArray.size → listed.getD i false = false) →
      ((List.range m).filter fun i => !listed.getD i false).length = f →
      (∀ t, (∀ (i : Nat) o, l.toArray[i]? = some o → n ≤ i → i < n + c → o.dst ≠ some t) → lk S.σ t = lk σF t) → ExtB X H0 S.H →
      AMid P Γ X (fun st' => AO P Γ l.toArray (l.drop m) Q st') ((l.drop (n + c)).take (m - (n + c))) S →
      (∀ t, (∀ i ∈ L, ∀ o, l.toArray[i]? = some o → listed.getD i false = false → o.dst ≠ some t) → lk σ' t = lk S.σ t) →
      Sim Γ ⟨σ', S.H⟩ κ Θ a w →
      wpAny P .any l.toArray (fun e a' w' => ∃ st' κ' Θ', Sim Γ st' κ' Θ' a' w' ∧ Q e st') (f + (l.toArray.size - m)) listed a w := by
  simp only [drawB2, drawC, Bool.and_eq_true, decide_eq_true_eq] at hB
  obtain ⟨⟨hnm, hms⟩, hseq, htail, hmid, hedge, hhead, hmixed, hL⟩ := hB
  have edge : ∀ i, i < m → ∃ o, l.toArray[i]? = some o ∧ ∀ e ∈ o.after, Region.binds .any e = true → e.on < i := by
    intro i hi
    have := List.all_eq_true.1 hedge i (List.mem_range.2 hi)
    split at this
    · cases this
    · rename_i o ho
      refine ⟨o, ho, fun e he hb => ?_⟩
      have := Array.all_eq_true'.1 this e he
      simpa [hb] using this
  have lateLt : ∀ i ∈ L, i < n := by
    intro i hi
    have := List.all_eq_true.1 hL i hi
    simp only [Bool.and_eq_true, decide_eq_true_eq] at this
    exact this.1
  -- a slot that an operation of the head looks at
  have headSlot : ∀ (i : Nat) o, i < n → l.toArray[i]? = some o → ∀ u ∈ o.looksAt l.toArray, ∀ (j : Nat) oj, j < n → l.toArray[j]? = some oj → oj.dst = some u → j < i ∧ Region.waitsFor .any l.toArray i j = true := by
    intro i o hi ho u hu j oj hj hoj hd
    have := List.all_eq_true.1 hhead i (List.mem_range.2 hi)
    simp only [ho, Bool.and_eq_true] at this
    have := List.all_eq_true.1 (List.all_eq_true.1 this.1 u hu) j (List.mem_range.2 hj)
    simpa [hoj, hd] using this
  have midLate : ∀ (j : Nat) o, n ≤ j → j < m → l.toArray[j]? = some o → ∀ i ∈ L, ∀ oi, l.toArray[i]? = some oi → oi.dst ≠ o.dst ∧ (∀ u ∈ oi.looksAt l.toArray, o.dst ≠ some u) ∧ (((depsOf l.toArray.toList).getD j []).contains i = true ∨ ∀ u ∈ o.looksAt l.toArray, oi.dst ≠ some u) := by
    intro j o hj1 hj2 ho i hi oi hoi
    have := List.all_eq_true.1 hmixed (j - n) (List.mem_range.2 (by omega))
    rw [show n + (j - n) = j from by omega] at this
    simp only [ho] at this
    have := List.all_eq_true.1 this i hi
    simp only [hoi, Bool.and_eq_true, Bool.not_eq_true', Bool.or_eq_true] at this
    obtain ⟨⟨h1, h2⟩, h3⟩ := this
    refine ⟨by simpa using h1, fun u hu he => ?_, h3.imp id fun h u hu he => ?_⟩
    · have := List.any_eq_false.1 h2 u hu
      simp [he] at this
    · have := List.any_eq_false.1 h u hu
      simp [he] at this
  intro f
  induction f with
  | zero =>
    intro c S listed σ' κ Θ a w inv hN hc hM hT hcount hS hX hA hag hs
    have hall : ∀ i, i < m → listed.getD i false = true := by
      intro i hi
      have h0 := List.eq_nil_of_length_eq_zero hcount
      cases hl : listed.getD i false with
      | true => rfl
      | false =>
        have : i ∈ (List.range m).filter fun i => !listed.getD i false := List.mem_filter.2 ⟨List.mem_range.2 hi, by simp only [hl]; rfl⟩
        rw [h0] at this; cases this
    have hcm : n + c = m := by
      rcases Nat.lt_or_ge (n + c) m with h | h
      · have h1 := hall (n + c) h
        rw [hT (n + c) (Nat.le_refl _) (by omega)] at h1; cases h1
      · omega
    have hlist : listed = Array.replicate m true ++ Array.replicate (l.toArray.size - m) false := by
      apply Array.ext
      · rw [inv.size]; simp at hms ⊢; omega
      · intro i h1 h2
        by_cases hi : i < m
        · have := hall i hi
          rw [Array.getElem_append_left (by simpa using hi)]
          simp [h1] at this
          simp [this]
        · have hi' : i < l.toArray.size := by rw [← inv.size]; exact h1
          have := hT i (by omega) hi'
          rw [Array.getElem_append_right (by simpa using hi)]
          simp [h1] at this
          simp [this]
    rw [Nat.zero_add]
    rw [hcm, Nat.sub_self, List.take_zero] at hA
    have hA : AO P Γ l.toArray (l.drop m) Q S := hA
    have hs2 := Sim.same (st := ⟨σ', S.H⟩) (σ' := S.σ) (fun t => hag t (fun i hi o ho hl => by rw [hall i (by have := lateLt i hi; omega)] at hl; cases hl)) hs
    have hwp := hA κ Θ a w hs2
    have hdl : (l.drop m).length = l.toArray.size - m := by simp
    have := wpAny_of_seq (md := .any) (l.drop m) m listed a w (fun j => by simp [List.getElem?_drop]) (by rw [hdl, hlist]; exact hseq) hwp
    rwa [hdl] at this
  | succ f ih =>
    intro c S listed σ' κ Θ a w inv hN hc hM hT hcount hS hX hA hag hs
    have hun : ∃ i, i < m ∧ listed.getD i false = false := by
      have hne : ((List.range m).filter fun i => !listed.getD i false) ≠ [] := by
        intro h0; rw [h0] at hcount; simp at hcount
      obtain ⟨i, hi⟩ := List.exists_mem_of_ne_nil _ hne
      obtain ⟨h1, h2⟩ := List.mem_filter.1 hi
      exact ⟨i, List.mem_range.1 h1, by simpa using h2⟩
    have hsz := inv.size
    rw [show f + 1 + (l.toArray.size - m) = (f + (l.toArray.size - m)) + 1 from by omega]
    refine ⟨fun h0 => ?_, fun i hi => ?_⟩
    · exfalso
      obtain ⟨i, ⟨hin, hil⟩, hmin⟩ := exists_least (p := fun i => i < m ∧ listed.getD i false = false) hun
      obtain ⟨o, ho, hed⟩ := edge i hin
      have : i ∈ Region.ready .any l.toArray listed := by
        refine mem_ready.2 ⟨getD_in (by rw [hsz]; omega) hil, o, ho, fun e he hb => ?_⟩
        have := hed e he hb
        cases hl : listed.getD e.on false with
        | true => rfl
        | false => have := hmin e.on ⟨by omega, hl⟩; omega
      rw [h0] at this; cases this
    · obtain ⟨i0, hi0, hl0⟩ := hun
      obtain ⟨hil, o, ho, hall⟩ := mem_ready.1 hi
      have hilf := getD_both hil
      have hisz : i < l.toArray.size := (Array.getElem?_eq_some_iff.1 ho).1
      have him : i < m := by
        rcases Nat.lt_or_ge i m with h | h
        · exact h
        · have h1 := List.all_eq_true.1 htail (i - m) (List.mem_range.2 (by omega))
          have h2 := List.all_eq_true.1 h1 i0 (List.mem_range.2 hi0)
          rw [show m + (i - m) = i from by omega] at h2
          rw [deps_listed inv.closed hi h2] at hl0; cases hl0
      have hcnt := count_set him (by rw [hsz]; exact hisz) hilf
      have hset : ∀ (j : Nat), (listed.setIfInBounds i true).getD j false = true ↔ (j = i ∨ listed.getD j false = true) := by
        intro j
        by_cases e : i = j
        · subst e
          have : i < listed.size := by rw [hsz]; exact hisz
          simp [this]
        · rw [getD_set_ne false e]
          constructor
          · exact .inr
          · rintro (rfl | h)
            · exact absurd rfl e
            · exact h
      have hsetF : ∀ (j : Nat), (listed.setIfInBounds i true).getD j false = false → j ≠ i ∧ listed.getD j false = false := by
        intro j h
        refine ⟨fun e => ?_, ?_⟩
        · have := (hset j).2 (.inl e); rw [this] at h; cases h
        · cases h2 : listed.getD j false with
          | false => rfl
          | true => have := (hset j).2 (.inr h2); rw [this] at h; cases h
      rcases Nat.lt_or_ge i n with hin | hin
      · -- one that floats
        have hiL : i ∈ L := by
          by_cases h : i ∈ L
          · exact h
          · rw [hN i hin h] at hilf; cases hilf
        obtain ⟨o', t, d, ho', hg, hd, htn, hdF, hpv⟩ := hlate i hiL
        rw [ho] at ho'; cases ho'
        have hlook : ∀ u ∈ o.looksAt l.toArray, lk σ' u = lk σF u := by
          intro u hu
          rw [hag u, hS u]
          · intro j oj hoj hj1 hj2 he
            exact (midLate j oj hj1 (by omega) hoj i hiL o ho).2.1 u hu he
          · intro j hj oj hoj hlj he
            obtain ⟨h1, h2⟩ := headSlot i o hin ho u hu j oj (lateLt j hj) hoj he
            obtain ⟨o2, ho2, e, he2, hb, hon⟩ := Region.waitsFor_spec h2
            rw [ho] at ho2; cases ho2
            have := hall e he2 hb
            rw [hon, hlj] at this; cases this
        have hp := hpv σ' S.H hX hlook
        obtain ⟨v, bs, hrun, hrd, hz⟩ := pv_gives (st := ⟨σ', S.H⟩) hs hp
        refine wpOp_plain ho (by simp [Region.wanted, hg]) ?_
        unfold Oper.wp
        rw [hrun, Oper.upon_value, hd]
        refine ih c S (listed.setIfInBounds i true) ((t, d) :: σ') κ Θ _ w (inv.set hi hisz) ?_ hc ?_ ?_ (by omega) hS hX hA ?_ (hs.set (st := ⟨σ', S.H⟩) htn hrd hz)
        · intro j hj hjL; exact (hset j).2 (.inr (hN j hj hjL))
        · intro j hj1 hj2; exact (hset j).2 (.inr (hM j hj1 hj2))
        · intro j hj1 hj2
          rw [getD_set_ne false (by omega)]; exact hT j hj1 hj2
        · intro u hu
          simp only [lk]
          by_cases e : u = t
          · rw [if_pos e, e, hS t, hdF]
            intro j oj hoj hj1 hj2 he
            exact (midLate j oj hj1 (by omega) hoj i hiL o ho).1 (by rw [hd, he])
          · rw [if_neg e]
            refine hag u fun j hj oj hoj hlj he => ?_
            by_cases hji : j = i
            · subst hji
              rw [ho] at hoj; cases hoj
              rw [hd] at he; cases he; exact e rfl
            · exact hu j hj oj hoj (by rw [getD_set_ne false (Ne.symm hji)]; exact hlj) he
      · -- the next one of the chain
        have hic : i = n + c := by
          rcases Nat.lt_trichotomy i (n + c) with h | h | h
          · rw [hM i hin h] at hilf; cases hilf
          · exact h
          · have h1 := List.all_eq_true.1 hmid (i - n) (List.mem_range.2 (by omega))
            rw [show n + (i - n) = i from by omega] at h1
            have h2 := List.all_eq_true.1 h1 (n + c) (List.mem_range.2 h)
            simp only [Bool.or_eq_true] at h2
            rcases h2 with h2 | h2
            · have := deps_listed inv.closed hi h2
              rw [hT (n + c) (Nat.le_refl _) (by omega)] at this; cases this
            · have := lateLt (n + c) (by simpa using h2); omega
        subst hic
        have hdrop : (l.drop (n + c)).take (m - (n + c)) = o :: (l.drop (n + (c + 1))).take (m - (n + (c + 1))) := by
          have h1 : l[n + c]? = some o := by simpa using ho
          have h2 : (n + c) < l.length := (List.getElem?_eq_some_iff.1 h1).1
          have h3 : l[n + c] = o := (List.getElem?_eq_some_iff.1 h1).2
          rw [List.drop_eq_getElem_cons h2, h3, show m - (n + c) = (m - (n + (c + 1))) + 1 from by omega, List.take_succ_cons]
          rfl
        rw [hdrop] at hA
        obtain ⟨S1, hdst, hX1, hgm, hsel, hstep, hA1⟩ := hA
        have hlkS : ∀ u, o.dst ≠ some u → lk S1.σ u = lk S.σ u := by
          intro u hu
          rcases hdst with ⟨tm, dm, hdm, htm, hσ1⟩ | ⟨_, hσ1⟩
          · rw [hσ1]; simp only [lk]
            rw [if_neg (fun e => hu (by rw [hdm, e]))]
          · rw [hσ1]
        have hputz : ∀ (b : Act) (v : Value), (b.put o.dst v).tmps.size = b.tmps.size := by
          intro b v
          rcases hdst with ⟨tm, dm, hdm, _, _⟩ | ⟨hdm, _⟩
          · rw [hdm]; show (b.tmps.setIfInBounds tm v).size = _; simp
          · rw [hdm]; rfl
        have hputd : ∀ (b : Act) (v : Value), (b.put o.dst v).defers = b.defers := by
          intro b v
          cases o.dst <;> rfl
        -- the slots of those that have not run yet are filled in
        have fill : ∀ k, k ≤ n → ∃ (ak : Act) (σk : List (Nat × D)), Sim Γ ⟨σk, S.H⟩ κ Θ ak w ∧ (∀ u, (∀ j ∈ L, ∀ oj, l.toArray[j]? = some oj → listed.getD j false = false → k ≤ j → oj.dst ≠ some u) → lk σk u = lk S.σ u) ∧
            (∀ u, (∀ j ∈ L, ∀ oj, l.toArray[j]? = some oj → listed.getD j false = false → oj.dst ≠ some u) → ak.tmps.getD u undef = a.tmps.getD u undef) := by
          intro k
          induction k with
          | zero => intro _; exact ⟨a, σ', hs, fun u hu => hag u (fun j hj oj hoj hl => hu j hj oj hoj hl (Nat.zero_le _)), fun _ _ => rfl⟩
          | succ k ihk =>
            intro hk
            obtain ⟨ak, σk, hsk, hagk, hek⟩ := ihk (by omega)
            by_cases hkl : k ∈ L ∧ listed.getD k false = false
            · obtain ⟨hkL, hkF⟩ := hkl
              obtain ⟨ok, t, d, hok, hg, hd, htn, hdF, hpv⟩ := hlate k hkL
              have hlook : ∀ u ∈ ok.looksAt l.toArray, lk σk u = lk σF u := by
                intro u hu
                rw [hagk u, hS u]
                · intro j oj hoj hj1 hj2 he
                  exact (midLate j oj hj1 (by omega) hoj k hkL ok hok).2.1 u hu he
                · intro j hj oj hoj hlj hkj he
                  obtain ⟨h1, h2⟩ := headSlot k ok (by omega) hok u hu j oj (lateLt j hj) hoj he
                  omega
              have hp := hpv σk S.H hX hlook
              obtain ⟨v, bs, hrun, hrd, hz⟩ := pv_gives (st := ⟨σk, S.H⟩) hsk hp
              refine ⟨ak.put (some t) v, (t, d) :: σk, hsk.set (st := ⟨σk, S.H⟩) htn hrd hz, ?_, ?_⟩
              · intro u hu
                simp only [lk]
                by_cases e : u = t
                · rw [if_pos e, e, hS t, hdF]
                  intro j oj hoj hj1 hj2 he
                  exact (midLate j oj hj1 (by omega) hoj k hkL ok hok).1 (by rw [hd, he])
                · rw [if_neg e]
                  refine hagk u fun j hj oj hoj hlj hkj he => ?_
                  by_cases hjk : j = k
                  · subst hjk
                    rw [hok] at hoj; cases hoj
                    rw [hd] at he; cases he; exact e rfl
                  · exact hu j hj oj hoj hlj (by omega) he
              · intro u hu
                rw [put_get_ne _ _ (fun e => hu k hkL ok hok hkF (by rw [hd, e])), hek u hu]
            · refine ⟨ak, σk, hsk, fun u hu => hagk u fun j hj oj hoj hlj hkj => ?_, hek⟩
              by_cases hjk : j = k
              · subst hjk
                exact absurd ⟨hj, hlj⟩ hkl
              · exact hu j hj oj hoj hlj (by omega)
        obtain ⟨an, σn, hsn, hagn, hen⟩ := fill n (Nat.le_refl _)
        have hsS := Sim.same (st := ⟨σn, S.H⟩) (σ' := S.σ) (fun u => hagn u (fun j hj oj hoj _ hnj => by have := lateLt j hj; omega)) hsn
        have hwp := hstep κ Θ an w hsS
        refine wpOp_plain ho (by simp [Region.wanted, hgm]) (wp_frame (Q2 := _) hsel ?_ ?_ ?_ (fun e _ _ h => h) hwp)
        · intro x hx
          cases x with
          | tmp u =>
            refine (hen u fun j hj oj hoj hlj he => ?_).symm
            have hu : u ∈ o.looksAt l.toArray := by
              unfold Oper.looksAt
              exact List.mem_append.2 (.inl (List.mem_filterMap.2 ⟨.tmp u, by simpa using hx, rfl⟩))
            rcases (midLate (n + c) o (by omega) him ho j hj oj hoj).2.2 with h | h
            · rw [deps_listed inv.closed hi h] at hlj; cases hlj
            · exact h u hu he
          | const v => rfl
          | global g => rfl
          | func f => rfl
        · rintro v w' ⟨κ', Θ', hs'⟩
          let late : List (Nat × D) := (L.filterMap fun j => bif listed.getD j false then none else (l.toArray[j]?).bind (·.dst)).map fun u => (u, D.any)
          have hin_late : ∀ u, u ∈ late.map Prod.fst ↔ ∃ j ∈ L, ∃ oj, l.toArray[j]? = some oj ∧ listed.getD j false = false ∧ oj.dst = some u := by
            intro u
            simp only [late, List.map_map, List.mem_map, List.mem_filterMap, Function.comp]
            constructor
            · rintro ⟨x, ⟨j, hj, hx⟩, rfl⟩
              cases hl : listed.getD j false with
              | true => rw [hl] at hx; cases hx
              | false =>
                rw [hl, cond_false] at hx
                cases hoj : l.toArray[j]? with
                | none => rw [hoj] at hx; cases hx
                | some oj => rw [hoj] at hx; exact ⟨j, hj, oj, hoj, hl, hx⟩
            · rintro ⟨j, hj, oj, hoj, hl, hx⟩
              exact ⟨u, ⟨j, hj, by rw [hl, cond_false, hoj]; exact hx⟩, rfl⟩
          have hs2 : Sim Γ ⟨late ++ S1.σ, S1.H⟩ κ' Θ' (a.put o.dst v) w' := by
            refine ⟨by rw [hputd]; exact hs.defers, by rw [hputz]; exact hs.size, hs'.kout, hs'.kone, ?_, hs'.ob, hs'.own, hs'.old, hs'.mine, hs'.stays, hs'.uniq⟩
            intro u
            show ∃ bs, RdS w' κ' _ (lk (late ++ S1.σ) u) bs ∧ _
            by_cases hu : u ∈ late.map Prod.fst
            · rw [lk_any (fun p hp => by simp only [late, List.mem_map] at hp; obtain ⟨_, _, rfl⟩ := hp; rfl) hu]
              exact ⟨[], .of (.any _), by simp⟩
            · rw [lk_app _ _ _ (fun p hp e => hu (List.mem_map.2 ⟨p, hp, e⟩))]
              have e1 : (a.put o.dst v).tmps.getD u undef = (an.put o.dst v).tmps.getD u undef := by
                have e0 := (hen u fun j hj oj hoj hlj he => hu ((hin_late u).2 ⟨j, hj, oj, hoj, hlj, he⟩)).symm
                rcases hdst with ⟨tm, dm, hdm, htm, _⟩ | ⟨hdm, _⟩
                · rw [hdm]
                  by_cases e : u = tm
                  · subst e
                    rw [put_get_self _ _ (by rw [hs.size]; exact htm), put_get_self _ _ (by rw [hsn.size]; exact htm)]
                  · rw [put_get_ne _ _ e, put_get_ne _ _ e]
                    exact e0
                · rw [hdm]; exact e0
              rw [e1]
              exact hs'.slot u
          refine ih (c + 1) S1 (listed.setIfInBounds (n + c) true) (late ++ S1.σ) κ' Θ' _ w' (inv.set hi hisz) ?_ (by omega) ?_ ?_ (by omega) ?_ (hX.trans hX1) hA1 ?_ hs2
          · intro j hj hjL; exact (hset j).2 (.inr (hN j hj hjL))
          · intro j hj1 hj2
            by_cases e : j = n + c
            · exact (hset j).2 (.inl e)
            · exact (hset j).2 (.inr (hM j hj1 (by omega)))
          · intro j hj1 hj2
            rw [getD_set_ne false (by omega)]; exact hT j (by omega) hj2
          · intro u hu
            rw [hlkS u (hu (n + c) o ho (by omega) (by omega))]
            exact hS u fun j oj hoj hj1 hj2 => hu j oj hoj hj1 (by omega)
          · intro u hu
            rw [lk_app]
            intro p hp e
            obtain ⟨j, hj, oj, hoj, hl, he⟩ := (hin_late u).1 (List.mem_map.2 ⟨p, hp, e⟩)
            refine hu j hj oj hoj ?_ he
            rw [getD_set_ne false (by have := lateLt j hj; omega)]; exact hl
        · rintro d w' ⟨κ', Θ', hs'⟩
          have := hs'.defers
          cases hod : o.dst <;> rw [hod] at this <;> cases this
theorem range_count {p : Nat → Bool} {n : Nat} : ∀ (k : Nat), (∀ i, n ≤ i → i < n + k → p i = true) → ((List.range (n + k)).filter p).length = ((List.range n).filter p).length + k
  | 0, _ => rfl
  | k + 1, h => by
    rw [← Nat.add_assoc, List.range_succ, List.filter_append, List.length_append, range_count k (fun i h1 h2 => h i h1 (by omega))]
    have : p (n + k) = true := h (n + k) (by omega) (by omega)
    simp [this]; omega

/-- a drawn region from a state, in whatever order -/
def AnyOk (P : Program) (Γ : Ctx) (ops : Array Oper) (Q : Exit → St → Prop) (st : St) : Prop :=
  ∀ κ Θ a w, Sim Γ st κ Θ a w → wpAny P .any ops (fun e a' w' => ∃ st' κ' Θ', Sim Γ st' κ' Θ' a' w' ∧ Q e st') ops.size (Array.replicate ops.size false) a w
theorem AnyOk.aw {id : Nat} {ops : Array Oper} (hm : P.follows .mixedOrders = true) (h : AnyOk P Γ ops Q st) : AW P Γ (.region id ops true) Q st :=
  fun κ Θ a w hs => wp_region_any hm (h κ Θ a w.drew hs.drew)

theorem any_draw2 {l : List Oper} (n m : Nat) (L : List Nat) (hB0 : drawB2 l.toArray n m L = true)
    (h : ACalm P Γ l.toArray st.H (fun σ acc => (∀ i ∈ L, ∀ o, l[i]? = some o → stillOp X ⟨σ, st.H⟩ o.op = true) ∧ AMid P Γ X (fun st' => AO P Γ l.toArray (l.drop m) Q st') ((l.drop n).take (m - n)) ⟨σ, st.H ++ acc⟩) (l.take n) st.σ [] []) : AnyOk P Γ l.toArray Q st := by
  have hB := hB0
  simp only [drawB2, drawC, Bool.and_eq_true, decide_eq_true_eq] at hB
  obtain ⟨⟨hnm, hms⟩, hseq, htail, hmid, hedge, hhead, hmixed, hL⟩ := hB
  have hn : n ≤ l.toArray.size := by omega
  have hdeps : ((List.range n).all fun i => match l.toArray[i]? with
      | none => false
      | some o => (o.after.all fun e => !Region.binds .any e || decide (e.on < i)) &&
        ((o.looksAt l.toArray).all fun t => (List.range n).all fun j => match l.toArray[j]? with | some oj => !(oj.dst == some t) || (decide (j < i) && Region.waitsFor .any l.toArray i j) | none => true) &&
        (List.range n).all fun j => j == i || (match l.toArray[j]? with | some oj => !(oj.dst == o.dst) || o.dst.isNone | none => true)) = true := by
    rw [List.all_eq_true]
    intro i hi
    have h1 := List.all_eq_true.1 hedge i (List.mem_range.2 (by have := List.mem_range.1 hi; omega))
    have h2 := List.all_eq_true.1 hhead i hi
    cases ho : l.toArray[i]? with
    | none => rw [ho] at h1; cases h1
    | some o =>
      simp only [ho, Bool.and_eq_true] at h1 h2 ⊢
      exact ⟨⟨h1, h2.1⟩, h2.2⟩
  have lateLt : ∀ i ∈ L, i < n := by
    intro i hi
    have := List.all_eq_true.1 hL i hi
    simp only [Bool.and_eq_true, decide_eq_true_eq] at this
    exact this.1
  obtain ⟨ps, accF, hlen, hcalm, ⟨hstill, hK⟩, hFl, hFo, hFu⟩ := ACalm.unfold _ _ _ _ h
  simp only [List.nil_append, List.length_nil, Nat.add_zero, Nat.zero_add] at hcalm hK hFl hFo hstill
  have hn' : n ≤ l.length := by simpa using hn
  have hpl : ps.length = n := by rw [hlen]; simp; omega
  have hop : ∀ (i : Nat), i < n → ∃ o p, l.toArray[i]? = some o ∧ ps[i]? = some p ∧ o.dst = p.t ∧ CalmAt P Γ l.toArray st.H (((ps.take i).filterMap Cp.sl).reverse ++ st.σ) o p ∧ p.r = st.H.length + ((ps.take i).flatMap Cp.obs).length := by
    intro i hi
    have h1 : l[i]? = some l[i] := List.getElem?_eq_getElem (by omega)
    have h2 : ps[i]? = some ps[i] := List.getElem?_eq_getElem (by omega)
    have h3 := hcalm i l[i] ps[i] (by rw [List.getElem?_take, if_pos hi]; exact h1) h2
    exact ⟨l[i], ps[i], by simp [List.getElem?_toArray, h1], h2, h3.1.slots, h3.1, h3.2.1⟩
  have hpr : ∀ (i : Nat) p, ps[i]? = some p → p.r = st.H.length + ((ps.take i).flatMap Cp.obs).length := by
    intro i p hp
    have hi : i < n := by have := (List.getElem?_eq_some_iff.1 hp).1; omega
    obtain ⟨_, p', _, hp', _, _, hr⟩ := hop i hi
    rw [hp] at hp'; cases hp'; exact hr
  have hups : ∀ (i : Nat) p id ob, ps[i]? = some p → p.up = some (id, ob) → st.H.length ≤ id ∧ (∃ zs ds, ob = .box ds ∧ zs.length = ds.length ∧ ((ps.take i).flatMap Cp.obs)[id - st.H.length]? = some (.box zs)) ∧ ∀ (i2 : Nat) q ob2, i2 < i → ps[i2]? = some q → q.up ≠ some (id, ob2) := by
    intro i p id ob hp he
    have hi : i < n := by have := (List.getElem?_eq_some_iff.1 hp).1; omega
    have h1 : l[i]? = some l[i] := List.getElem?_eq_getElem (by omega)
    have h3 := (hcalm i l[i] p (by rw [List.getElem?_take, if_pos hi]; exact h1) hp).2.2 id ob he
    exact ⟨h3.2.1, h3.2.2.1, h3.2.2.2⟩
  have hupd : ∀ (i j : Nat) p q id ob ob2, ps[i]? = some p → ps[j]? = some q → p.up = some (id, ob) → q.up = some (id, ob2) → i = j := by
    intro i j p q id ob ob2 hp hq he he2
    rcases Nat.lt_trichotomy i j with h | h | h
    · exact absurd he ((hups j q id ob2 hq he2).2.2 i p ob h hp)
    · exact h
    · exact absurd he2 ((hups i p id ob hp he).2.2 j q ob2 h hq)
  have hupo : ∀ (i : Nat) p id ob, ps[i]? = some p → p.up = some (id, ob) → p.obs = [] := by
    intro i p id ob hp he
    have hi : i < n := by have := (List.getElem?_eq_some_iff.1 hp).1; omega
    obtain ⟨_, p', _, hp', _, hc, _⟩ := hop i hi
    rw [hp] at hp'; cases hp'
    rcases hc.upObs with h | h
    · rw [h] at he; cases he
    · exact h
  have hfit : ∀ (i : Nat) p, ps[i]? = some p → p.r + p.obs.length ≤ st.H.length + (ps.flatMap Cp.obs).length := by
    intro i p hp
    rw [hpr i p hp, flatMap_split hp]
    simp only [List.length_append]; omega
  have happ : ∀ (i j : Nat) p q, ps[i]? = some p → ps[j]? = some q → i < j → p.r + p.obs.length ≤ q.r := by
    intro i j p q hp hq hij
    rw [hpr i p hp, hpr j q hq]
    have := prefix_le hp hij
    omega
  have hdist : ∀ (i j : Nat) p q t, ps[i]? = some p → ps[j]? = some q → p.t = some t → q.t = some t → i = j := by
    intro i j p q t hp hq he1 he2
    have hi : i < n := by have := (List.getElem?_eq_some_iff.1 hp).1; omega
    have hj : j < n := by have := (List.getElem?_eq_some_iff.1 hq).1; omega
    obtain ⟨oi, p', ho, hp', hdi, _⟩ := hop i hi
    obtain ⟨oj, q', hoj, hq', hdj, _⟩ := hop j hj
    rw [hp] at hp'; cases hp'
    rw [hq] at hq'; cases hq'
    have := List.all_eq_true.1 hdeps i (List.mem_range.2 hi)
    simp only [ho, Bool.and_eq_true] at this
    have := List.all_eq_true.1 this.2 j (List.mem_range.2 hj)
    simp only [hoj, hdi, hdj, he1, he2, beq_self_eq_true, Bool.not_true, Bool.or_false, Option.isNone_some, Bool.or_false, beq_iff_eq] at this
    exact this.symm
  have hpsmem : ∀ (i : Nat) p t, ps[i]? = some p → p.t = some t → ∀ q ∈ ps.filterMap Cp.sl, q.1 = t → q = (t, p.d) := by
    intro i p t hp hpt q hq he
    obtain ⟨q', hq', hqs⟩ := List.mem_filterMap.1 hq
    obtain ⟨j, hj, rfl⟩ := List.mem_iff_getElem.1 hq'
    have hq2 : ps[j]? = some ps[j] := List.getElem?_eq_getElem hj
    unfold Cp.sl at hqs
    cases hpj : ps[j].t with
    | none => rw [hpj] at hqs; cases hqs
    | some u =>
      rw [hpj] at hqs
      simp only [Option.map_some, Option.some.injEq] at hqs
      subst hqs
      simp only at he
      subst he
      have := hdist j i _ p u hq2 hp hpj hpt
      subst this
      rw [hp] at hq2; cases hq2; rfl
  have hlk : ∀ (i : Nat) (o : Oper), i < n → l.toArray[i]? = some o → ∀ t ∈ o.looksAt l.toArray, lk (((ps.take i).filterMap Cp.sl).reverse ++ st.σ) t = lk ((ps.filterMap Cp.sl).reverse ++ st.σ) t := by
    intro i o hin ho t ht
    have hdep := List.all_eq_true.1 hdeps i (List.mem_range.2 hin)
    simp only [ho, Bool.and_eq_true] at hdep
    have hdep := List.all_eq_true.1 hdep.1.2 t ht
    by_cases hex : ∃ (j : Nat) (q : Cp), ps[j]? = some q ∧ q.t = some t
    · obtain ⟨j, q, hq, hqt⟩ := hex
      have hj : j < n := by have := (List.getElem?_eq_some_iff.1 hq).1; omega
      obtain ⟨oj, q', hoj, hq', hdj, _⟩ := hop j hj
      rw [hq] at hq'; cases hq'
      have := List.all_eq_true.1 hdep j (List.mem_range.2 hj)
      simp only [hoj, hdj, hqt, beq_self_eq_true, Bool.not_true, Bool.false_or, Bool.and_eq_true, decide_eq_true_eq] at this
      obtain ⟨hji, _⟩ := this
      rw [lk_mem (ps.filterMap Cp.sl).reverse st.σ (t, q.d) (by rw [List.mem_reverse]; exact List.mem_filterMap.2 ⟨q, List.mem_of_getElem? hq, by simp [Cp.sl, hqt]⟩) (fun q2 hq2 he2 => hpsmem j q t hq hqt q2 (by simpa using hq2) he2)]
      refine lk_mem ((ps.take i).filterMap Cp.sl).reverse st.σ (t, q.d) ?_ (fun q2 hq2 he2 => hpsmem j q t hq hqt q2 ?_ he2)
      · rw [List.mem_reverse]
        exact List.mem_filterMap.2 ⟨q, List.mem_of_getElem? (i := j) (by rw [List.getElem?_take, if_pos hji]; exact hq), by simp [Cp.sl, hqt]⟩
      · obtain ⟨q3, hq3, hq3s⟩ := List.mem_filterMap.1 (List.mem_reverse.1 hq2)
        exact List.mem_filterMap.2 ⟨q3, List.mem_of_mem_take hq3, hq3s⟩
    · have hno : ∀ q3 ∈ ps, q3.t ≠ some t := by
        intro q3 hq3 he
        obtain ⟨j, hj, hqj⟩ := List.mem_iff_getElem.1 hq3
        exact hex ⟨j, q3, by rw [← hqj]; exact List.getElem?_eq_getElem hj, he⟩
      have hsl : ∀ (qs : List Cp), (∀ q3 ∈ qs, q3.t ≠ some t) → ∀ p ∈ (qs.filterMap Cp.sl).reverse, p.1 ≠ t := by
        intro qs hqs p hp he
        obtain ⟨q3, hq3, hq3s⟩ := List.mem_filterMap.1 (List.mem_reverse.1 hp)
        unfold Cp.sl at hq3s
        cases hpt : q3.t with
        | none => rw [hpt] at hq3s; cases hq3s
        | some u => rw [hpt] at hq3s; simp only [Option.map_some, Option.some.injEq] at hq3s; subst hq3s; simp only at he; exact hqs q3 hq3 (by rw [hpt, he])
      rw [lk_app _ _ _ (hsl _ hno), lk_app _ _ _ (hsl _ (fun q3 hq3 => hno q3 (List.mem_of_mem_take hq3)))]
  have lateP : ∀ i ∈ L, ∃ (o : Oper) (p : Cp), l.toArray[i]? = some o ∧ ps[i]? = some p ∧ p.obs = [] ∧ p.up = none ∧ LateOk P Γ X l ((ps.filterMap Cp.sl).reverse ++ st.σ) st.H i := by
    intro i hi
    have hin := lateLt i hi
    have h1 := List.all_eq_true.1 hL i hi
    obtain ⟨o, p, ho, hp, hd, hc, _⟩ := hop i hin
    simp only [ho, Bool.and_eq_true] at h1
    have hg : o.guard = none := by simpa using h1.2.1
    have hst := hstill i hi o (by simpa using ho)
    rcases hc with ⟨t, hpt, hpu, hdt, htn, hc⟩ | ⟨_, _, hdt, _⟩
    · have hc : CalmO P st.H (((ps.take i).filterMap Cp.sl).reverse ++ st.σ) o p := by
        rcases hc with ⟨_, hc⟩ | ⟨_, _, _, _, hg', _⟩ | ⟨_, _, _, hg', _⟩
        · exact hc
        · rw [hg] at hg'; cases hg'
        · rw [hg] at hg'; cases hg'
      have hpv : pv P ⟨((ps.take i).filterMap Cp.sl).reverse ++ st.σ, st.H⟩ o.op = some p.d ∧ p.obs = [] := by
        rcases hc with (hc | ⟨f, xs, ts, ds, ms, d, hop', _⟩) | (⟨T, zs, hop', _⟩ | ⟨T, x, ds, hop', _⟩) | ⟨T, e, sz, len, parts, zs, ds, es, hop', _⟩ | ⟨T, e, sz, len, parts, zs, ds, hop', _⟩
        · exact hc
        all_goals (rw [hop'] at hst; simp [stillOp] at hst)
      refine ⟨o, p, ho, hp, hpv.2, hpu, o, t, p.d, ho, hg, hdt, htn, ?_, ?_⟩
      · exact lk_mem (ps.filterMap Cp.sl).reverse st.σ (t, p.d) (by rw [List.mem_reverse]; exact List.mem_filterMap.2 ⟨p, List.mem_of_getElem? hp, by simp [Cp.sl, hpt]⟩) (fun q2 hq2 he2 => hpsmem i p t hp hpt q2 (by simpa using hq2) he2)
      · intro σ' H' hX hlook
        have e1 : pv P ⟨(ps.filterMap Cp.sl).reverse ++ st.σ, st.H⟩ o.op = some p.d := pv_mono (fun _ _ h => h) (ev_congr (st := ⟨_, st.H⟩) (st' := ⟨_, st.H⟩) (ops := l.toArray) (o := o) (fun t ht => hlk i o hin ho t ht)) hpv.1
        refine still_pv hX hst ?_ e1
        intro x hx
        rw [ev_H σ' H' st.H x]
        exact (ev_congr (st := ⟨σ', st.H⟩) (st' := ⟨_, st.H⟩) (ops := l.toArray) (o := o) (fun t ht => hlook t ht) x hx).symm
    · have : o.dst.isSome = true := h1.2.2
      rw [hdt] at this; cases this
  intro κ Θ a w hs
  have switch : ∀ (f : Nat) (listed : Array Bool) (σ' : List (Nat × D)) (H' : List Ob) (κ : Nat → Option Value) (Θ : Nat → Nat) (a : Act) (w : World), HeadInv .any l.toArray n listed →
      ((List.range n).filter fun i => !listed.getD i false).length = f →
      (∀ (i : Nat) p t, ps[i]? = some p → p.t = some t → listed.getD i false = true → lk σ' t = p.d) →
      (∀ t, (∀ (i : Nat) p, ps[i]? = some p → listed.getD i false = true → p.t ≠ some t) → lk σ' t = lk st.σ t) →
      H'.length = st.H.length + (ps.flatMap Cp.obs).length → Ext st.H H' →
      (∀ (i : Nat) p, ps[i]? = some p → listed.getD i false = true → ∀ (j : Nat) o, p.obs[j]? = some o → (∀ (i2 : Nat) q ob, ps[i2]? = some q → listed.getD i2 false = true → q.up ≠ some (p.r + j, ob)) → H'[p.r + j]? = some o) →
      (∀ (i : Nat) q id ob, ps[i]? = some q → listed.getD i false = true → q.up = some (id, ob) → H'[id]? = some ob ∧ ∃ v, κ id = some v) →
      (∀ (i : Nat) p, ps[i]? = some p → listed.getD i false = false → ∀ j, j < p.obs.length → κ (p.r + j) = none) →
      Sim Γ ⟨σ', H'⟩ κ Θ a w → (∀ i, i < n → i ∉ L → listed.getD i false = true) →
      wpAny P .any l.toArray (fun e a' w' => ∃ st' κ' Θ', Sim Γ st' κ' Θ' a' w' ∧ Q e st') (f + (l.toArray.size - n)) listed a w := by
    intro f listed σ' H' κ Θ a w inv hcount hA hB hHl hHe hHo hHu hHf hs hN
    have hallO : ∀ (i : Nat) p, ps[i]? = some p → (p.up ≠ none ∨ p.obs ≠ []) → listed.getD i false = true := by
      intro i p hp hne
      have hi : i < n := by have := (List.getElem?_eq_some_iff.1 hp).1; omega
      refine hN i hi fun hiL => ?_
      obtain ⟨_, p', _, hp', h1, h2, _⟩ := lateP i hiL
      rw [hp] at hp'; cases hp'
      rcases hne with h | h
      · exact h h2
      · exact h h1
    have hfin : ∀ t, (∀ i ∈ L, ∀ o, l.toArray[i]? = some o → listed.getD i false = false → o.dst ≠ some t) → lk σ' t = lk ((ps.filterMap Cp.sl).reverse ++ st.σ) t := by
      intro t hno
      by_cases hex : ∃ (i : Nat) (p : Cp), ps[i]? = some p ∧ p.t = some t
      · obtain ⟨i, p, hp, hpt⟩ := hex
        have hi : i < n := by have := (List.getElem?_eq_some_iff.1 hp).1; omega
        have hli : listed.getD i false = true := by
          cases hl : listed.getD i false with
          | true => rfl
          | false =>
            obtain ⟨o, p', ho, hp', hd, _⟩ := hop i hi
            rw [hp] at hp'; cases hp'
            by_cases hiL : i ∈ L
            · exact absurd (by rw [hd, hpt]) (hno i hiL o ho hl)
            · rw [hN i hi hiL] at hl; cases hl
        rw [hA i p t hp hpt hli]
        exact (lk_mem (ps.filterMap Cp.sl).reverse st.σ (t, p.d) (by rw [List.mem_reverse]; exact List.mem_filterMap.2 ⟨p, List.mem_of_getElem? hp, by simp [Cp.sl, hpt]⟩) (fun q hq he => hpsmem i p t hp hpt q (by simpa using hq) he)).symm
      · rw [hB t (fun i p hp _ he => hex ⟨i, p, hp, he⟩), lk_app]
        intro q hq he
        obtain ⟨p, hp, hps⟩ := List.mem_filterMap.1 (List.mem_reverse.1 hq)
        obtain ⟨i, hi, hpi⟩ := List.mem_iff_getElem.1 hp
        refine hex ⟨i, p, by rw [← hpi]; exact List.getElem?_eq_getElem hi, ?_⟩
        unfold Cp.sl at hps
        cases hpt : p.t with
        | none => rw [hpt] at hps; cases hps
        | some u => rw [hpt] at hps; simp only [Option.map_some, Option.some.injEq] at hps; subst hps; simp only at he; rw [he]
    have hHfin : H' = st.H ++ accF := by
      apply List.ext_getElem?
      intro k
      by_cases h1 : k < st.H.length
      · rw [List.getElem?_append_left h1]
        exact hHe k _ (List.getElem?_eq_getElem h1) |>.trans (List.getElem?_eq_getElem h1).symm
      · rw [List.getElem?_append_right (by omega)]
        by_cases hex : ∃ (i : Nat) (q : Cp) (ob : Ob), ps[i]? = some q ∧ q.up = some (k, ob)
        · obtain ⟨i, q, ob, hq, he⟩ := hex
          rw [(hHu i q k ob hq (hallO i q hq (.inl (by rw [he]; simp))) he).1, hFu i q k ob hq he]
        · have hno : ∀ (i : Nat) q ob, ps[i]? = some q → q.up ≠ some (k, ob) := fun i q ob hq he => hex ⟨i, q, ob, hq, he⟩
          rw [hFo (k - st.H.length) (fun i q ob hq => by rw [show st.H.length + (k - st.H.length) = k from by omega]; exact hno i q ob hq)]
          by_cases h2 : k - st.H.length < (ps.flatMap Cp.obs).length
          · obtain ⟨i, p, j, hp, hj, hk⟩ := flatMap_find h2
            have e3 : p.r + j = k := by rw [hpr i p hp]; omega
            have h3 := hHo i p hp (hallO i p hp (.inr (by intro e; rw [e] at hj; simp at hj))) j _ (List.getElem?_eq_getElem hj) (fun i2 q ob hq _ => by rw [e3]; exact hno i2 q ob hq)
            rw [e3] at h3
            rw [h3, flatMap_split hp, hk, List.getElem?_append_right (by omega), Nat.add_sub_cancel_left, List.getElem?_append_left hj, List.getElem?_eq_getElem hj]
          · rw [List.getElem?_eq_none (by omega), List.getElem?_eq_none (by omega)]
    subst hHfin
    have hsz := inv.size
    have hcm : ((List.range m).filter fun i => !listed.getD i false).length = f + (m - n) := by
      have := range_count (p := fun i => !listed.getD i false) (n := n) (m - n) (fun i h1 h2 => by
        have := getD_both (inv.tail i h1 (by omega)); simp only [this]; rfl)
      rw [show n + (m - n) = m from by omega] at this
      rw [this, hcount]
    have := draw_phase2 (Q := Q) (H0 := st.H) hB0 (fun i hi => by obtain ⟨_, _, _, _, _, _, h⟩ := lateP i hi; exact h) (f + (m - n)) 0 ⟨(ps.filterMap Cp.sl).reverse ++ st.σ, st.H ++ accF⟩ listed σ' κ Θ a w
      ⟨hsz, inv.closed, fun t h1 h2 => absurd h2 (by omega)⟩ hN (by omega) (fun i h1 h2 => absurd h2 (by omega)) (fun i h1 h2 => getD_both (inv.tail i (by omega) h2)) hcm (fun _ _ => rfl)
      ((ExtB.refl _).app _) (by simpa using hK) hfin hs
    rw [show f + (m - n) + (l.toArray.size - m) = f + (l.toArray.size - n) from by omega] at this
    exact this
  -- the walk in whatever order
  have main : ∀ (f : Nat) (listed : Array Bool) (σ' : List (Nat × D)) (H' : List Ob) (κ : Nat → Option Value) (Θ : Nat → Nat) (a : Act) (w : World), HeadInv .any l.toArray n listed →
      ((List.range n).filter fun i => !listed.getD i false).length = f →
      (∀ (i : Nat) p t, ps[i]? = some p → p.t = some t → listed.getD i false = true → lk σ' t = p.d) →
      (∀ t, (∀ (i : Nat) p, ps[i]? = some p → listed.getD i false = true → p.t ≠ some t) → lk σ' t = lk st.σ t) →
      H'.length = st.H.length + (ps.flatMap Cp.obs).length → Ext st.H H' →
      (∀ (i : Nat) p, ps[i]? = some p → listed.getD i false = true → ∀ (j : Nat) o, p.obs[j]? = some o → (∀ (i2 : Nat) q ob, ps[i2]? = some q → listed.getD i2 false = true → q.up ≠ some (p.r + j, ob)) → H'[p.r + j]? = some o) →
      (∀ (i : Nat) q id ob, ps[i]? = some q → listed.getD i false = true → q.up = some (id, ob) → H'[id]? = some ob ∧ ∃ v, κ id = some v) →
      (∀ (i : Nat) p, ps[i]? = some p → listed.getD i false = false → ∀ j, j < p.obs.length → κ (p.r + j) = none) →
      Sim Γ ⟨σ', H'⟩ κ Θ a w →
      wpAny P .any l.toArray (fun e a' w' => ∃ st' κ' Θ', Sim Γ st' κ' Θ' a' w' ∧ Q e st') (f + (l.toArray.size - n)) listed a w := by
    intro f
    induction f with
    | zero =>
      intro listed σ' H' κ Θ a w inv hcount hA hB hHl hHe hHo hHu hHf hs
      have hall : ∀ i, i < n → listed.getD i false = true := by
        intro i hi
        have h0 := List.eq_nil_of_length_eq_zero hcount
        cases hl : listed.getD i false with
        | true => rfl
        | false =>
          have : i ∈ (List.range n).filter fun i => !listed.getD i false := List.mem_filter.2 ⟨List.mem_range.2 hi, by simp [hl]⟩
          rw [h0] at this; cases this
      exact switch 0 listed σ' H' κ Θ a w inv hcount hA hB hHl hHe hHo hHu hHf hs (fun i hi _ => hall i hi)
    | succ f ih =>
      intro listed σ' H' κ Θ a w inv hcount hA hB hHl hHe hHo hHu hHf hs
      by_cases hsw : ∀ i, i < n → i ∉ L → listed.getD i false = true
      · exact switch (f + 1) listed σ' H' κ Θ a w inv hcount hA hB hHl hHe hHo hHu hHf hs hsw
      have hun0 : ∃ i, i < n ∧ i ∉ L ∧ listed.getD i false = false := by
        obtain ⟨i, hi⟩ := Classical.not_forall.1 hsw
        refine ⟨i, ?_⟩
        by_cases h1 : i < n
        · by_cases h2 : i ∈ L
          · exact absurd (fun _ h => absurd h2 h) hi
          · refine ⟨h1, h2, ?_⟩
            cases hl : listed.getD i false with
            | false => rfl
            | true => exact absurd (fun _ _ => hl) hi
        · exact absurd (fun h => absurd h h1) hi
      have hun : ∃ i, i < n ∧ listed.getD i false = false := by
        have hne : ((List.range n).filter fun i => !listed.getD i false) ≠ [] := by
          intro h0; rw [h0] at hcount; simp at hcount
        obtain ⟨i, hi⟩ := List.exists_mem_of_ne_nil _ hne
        obtain ⟨h1, h2⟩ := List.mem_filter.1 hi
        exact ⟨i, List.mem_range.1 h1, by simpa using h2⟩
      have hsz := inv.size
      rw [show f + 1 + (l.toArray.size - n) = (f + (l.toArray.size - n)) + 1 from by omega]
      refine ⟨fun h0 => ?_, fun i hi => ?_⟩
      · exfalso
        -- the first that is not yet done is ready
        obtain ⟨i, ⟨hin, hil⟩, hmin⟩ := exists_least (p := fun i => i < n ∧ listed.getD i false = false) hun
        obtain ⟨o, p, ho, _, _, _⟩ := hop i hin
        have : i ∈ Region.ready .any l.toArray listed := by
          refine mem_ready.2 ⟨getD_in (by rw [hsz]; omega) hil, o, ho, fun e he hb => ?_⟩
          have := List.all_eq_true.1 hdeps i (List.mem_range.2 hin)
          simp only [ho, Bool.and_eq_true] at this
          have := Array.all_eq_true'.1 this.1.1 e he
          simp only [hb, Bool.not_true, Bool.false_or, decide_eq_true_eq] at this
          cases hl : listed.getD e.on false with
          | true => rfl
          | false =>
            have := hmin e.on ⟨by omega, hl⟩
            omega
        rw [h0] at this; cases this
      · obtain ⟨i0, hi0, hl0⟩ := hun
        have hin : i < n := by
          rcases Nat.lt_or_ge i n with h | h
          · exact h
          · obtain ⟨i1, hi1, hi1L, hl1⟩ := hun0
            obtain ⟨_, oi, hoi, _⟩ := mem_ready.1 hi
            have hisz : i < l.toArray.size := (Array.getElem?_eq_some_iff.1 hoi).1
            exfalso
            rcases Nat.lt_or_ge i m with hm1 | hm1
            · have h1 := List.all_eq_true.1 hmid (i - n) (List.mem_range.2 (by omega))
              have h2 := List.all_eq_true.1 h1 i1 (List.mem_range.2 (by omega))
              rw [show n + (i - n) = i from by omega] at h2
              simp only [Bool.or_eq_true] at h2
              rcases h2 with h2 | h2
              · rw [deps_listed inv.closed hi h2] at hl1; cases hl1
              · exact hi1L (by simpa using h2)
            · have h1 := List.all_eq_true.1 htail (i - m) (List.mem_range.2 (by omega))
              have h2 := List.all_eq_true.1 h1 i1 (List.mem_range.2 (by omega))
              rw [show m + (i - m) = i from by omega] at h2
              rw [deps_listed inv.closed hi h2] at hl1; cases hl1
        obtain ⟨o, p, ho, hp, hd, hc, _⟩ := hop i hin
        obtain ⟨hil, o', ho', hall⟩ := mem_ready.1 hi
        rw [ho] at ho'; cases ho'
        have hilf := getD_both hil
        have hc' : CalmAt P Γ l.toArray st.H σ' o p := by
          refine CalmAt.congr (σ := ((ps.take i).filterMap Cp.sl).reverse ++ st.σ) (σ' := σ') ?_ hc
          intro t ht
          have hdep := List.all_eq_true.1 hdeps i (List.mem_range.2 hin)
          simp only [ho, Bool.and_eq_true] at hdep
          have hdep := List.all_eq_true.1 hdep.1.2 t ht
          by_cases hex : ∃ (j : Nat) (q : Cp), ps[j]? = some q ∧ q.t = some t
          · obtain ⟨j, q, hq, hqt⟩ := hex
            have hj : j < n := by have := (List.getElem?_eq_some_iff.1 hq).1; omega
            obtain ⟨oj, q', hoj, hq', hdj, _⟩ := hop j hj
            rw [hq] at hq'; cases hq'
            have := List.all_eq_true.1 hdep j (List.mem_range.2 hj)
            simp only [hoj, hdj, hqt, beq_self_eq_true, Bool.not_true, Bool.false_or, Bool.and_eq_true, decide_eq_true_eq] at this
            obtain ⟨hji, hwait⟩ := this
            obtain ⟨oi', hoi', e, he, hb, hon⟩ := Region.waitsFor_spec hwait
            rw [ho] at hoi'; cases hoi'
            have hjl := hall e he hb
            rw [hon] at hjl
            rw [hA j q t hq hqt hjl]
            refine lk_mem ((ps.take i).filterMap Cp.sl).reverse st.σ (t, q.d) ?_ (fun q2 hq2 he2 => hpsmem j q t hq hqt q2 ?_ he2)
            · rw [List.mem_reverse]
              exact List.mem_filterMap.2 ⟨q, List.mem_of_getElem? (i := j) (by rw [List.getElem?_take, if_pos hji]; exact hq), by simp [Cp.sl, hqt]⟩
            · obtain ⟨q3, hq3, hq3s⟩ := List.mem_filterMap.1 (List.mem_reverse.1 hq2)
              exact List.mem_filterMap.2 ⟨q3, List.mem_of_mem_take hq3, hq3s⟩
          · rw [hB t (fun j q hq _ he => hex ⟨j, q, hq, he⟩), lk_app]
            intro q hq he
            obtain ⟨q3, hq3, hq3s⟩ := List.mem_filterMap.1 (List.mem_reverse.1 hq)
            obtain ⟨j, hj, hqj⟩ := List.mem_iff_getElem.1 (List.mem_of_mem_take hq3)
            refine hex ⟨j, q3, by rw [← hqj]; exact List.getElem?_eq_getElem hj, ?_⟩
            unfold Cp.sl at hq3s
            cases hpt : q3.t with
            | none => rw [hpt] at hq3s; cases hq3s
            | some u => rw [hpt] at hq3s; simp only [Option.map_some, Option.some.injEq] at hq3s; subst hq3s; simp only at he; rw [he]
        have hfp := hfit i p hp
        have hkid : ∀ id ob, p.up = some (id, ob) → ∃ v, κ id = some v := by
          intro id ob he
          rcases hc' with ⟨_, _, h, _⟩ | ⟨_, _, _, _, T, x, y, id', ds, hop', hx', _, _, _, _, hpu⟩
          · rw [h] at he; cases he
          · rw [hpu] at he; cases he
            obtain ⟨b1, r1, _⟩ := hs.ev x
            rw [ev_H σ' H' st.H x, hx'] at r1
            obtain ⟨g, hk, _⟩ := r1.ptr_inv
            exact ⟨_, hk⟩
        have hupH : ∀ id ob, p.up = some (id, ob) → ∃ zs ds, H'[id]? = some (.box zs) ∧ ob = .box ds ∧ zs.length = ds.length := by
          intro id ob he
          obtain ⟨u1, ⟨zs, ds, u2, u3, u4⟩, _⟩ := hups i p id ob hp he
          refine ⟨zs, ds, ?_, u2, u3⟩
          obtain ⟨i1, p1, j1, hp1, hj1, hk1⟩ := flatMap_find (List.getElem?_eq_some_iff.1 u4).1
          have hp1' : ps[i1]? = some p1 := by
            have := (List.getElem?_eq_some_iff.1 hp1).1
            rw [List.getElem?_take] at hp1
            split at hp1
            · exact hp1
            · cases hp1
          have hi1 : i1 < i := by have := (List.getElem?_eq_some_iff.1 hp1).1; simp at this; omega
          have et : (ps.take i).take i1 = ps.take i1 := by rw [List.take_take, Nat.min_eq_left (by omega)]
          rw [et] at hk1
          have e1 : p1.r + j1 = id := by rw [hpr i1 p1 hp1']; omega
          have hob : p1.obs[j1]? = some (.box zs) := by
            rw [flatMap_split hp1, et, hk1, List.getElem?_append_right (by omega), Nat.add_sub_cancel_left, List.getElem?_append_left hj1] at u4
            exact u4
          have hl1 : listed.getD i1 false = true := by
            cases hl : listed.getD i1 false with
            | true => rfl
            | false =>
              have h0 := hHf i1 p1 hp1' hl j1 hj1
              rw [e1] at h0
              obtain ⟨v, hv⟩ := hkid id ob he
              rw [h0] at hv; cases hv
          have := hHo i1 p1 hp1' hl1 j1 _ hob (fun i2 q ob2 hq hl he2 => by
            rw [e1] at he2
            have := hupd i i2 p q id ob ob2 hp hq he he2
            subst this
            rw [hilf] at hl; cases hl)
          rw [e1] at this; exact this
        refine hc'.wp hs hHe ho (by omega) (fun j hj => hHf i p hp hilf j hj) hupH fun κ' Θ' a' w' hs' hsame => ?_
        have hset : ∀ (j : Nat), (listed.setIfInBounds i true).getD j false = true ↔ (j = i ∨ listed.getD j false = true) := by
          intro j
          by_cases e : i = j
          · subst e
            have : i < listed.size := by rw [hsz]; omega
            simp [this]
          · rw [getD_set_ne false e]
            constructor
            · exact .inr
            · rintro (rfl | h)
              · exact absurd rfl e
              · exact h
        have hput : (p.putH H').length = H'.length := by
          unfold Cp.putH
          split
          · simp
          · exact place_length (by omega)
        have hlow : ∀ (k : Nat), k < st.H.length → (p.putH H')[k]? = H'[k]? := by
          intro k hk
          unfold Cp.putH
          split
          · rename_i id ob he
            have := (hups i p id ob hp he).1
            rw [List.getElem?_set_ne (by omega)]
          · rw [place_get (by omega), if_pos (by rw [hpr i p hp]; omega)]
        refine ih (listed.setIfInBounds i true) (p.slot σ') (p.putH H') κ' Θ' a' w' (inv.set hi hin) ?_ ?_ ?_ (by rw [hput]; exact hHl) ?_ ?_ ?_ ?_ hs'
        · have hcnt : ((List.range n).filter fun j => !(listed.setIfInBounds i true).getD j false) = ((List.range n).filter fun j => !listed.getD j false).erase i := by
            have hnd : ((List.range n).filter fun j => !listed.getD j false).Nodup := List.Pairwise.filter _ List.nodup_range
            rw [hnd.erase_eq_filter, List.filter_filter]
            apply List.filter_congr
            intro j _
            by_cases e : j = i
            · subst e
              have := (hset j).2 (.inl rfl)
              rw [this]; simp
            · rw [getD_set_ne false (Ne.symm e)]
              simp [e]
          rw [hcnt, List.length_erase_of_mem (List.mem_filter.2 ⟨List.mem_range.2 hin, by simp [hilf]⟩), hcount]
          rfl
        · intro j q t hq hqt hl
          unfold Cp.slot
          rcases (hset j).1 hl with rfl | hl2
          · rw [hp] at hq; cases hq
            rw [hqt]; simp [lk]
          · cases hpt : p.t with
            | none => exact hA j q t hq hqt hl2
            | some u =>
              simp only [lk]
              rw [if_neg, hA j q t hq hqt hl2]
              intro e
              have := hdist j i q p t hq hp hqt (by rw [hpt, e])
              subst this
              rw [hilf] at hl2; cases hl2
        · intro t ht
          unfold Cp.slot
          have hrest := hB t (fun j q hq hl => ht j q hq ((hset j).2 (.inr hl)))
          cases hpt : p.t with
          | none => exact hrest
          | some u =>
            simp only [lk]
            rw [if_neg (fun e => ht i p hp ((hset i).2 (.inl rfl)) (by rw [hpt, e]))]
            exact hrest
        · intro j y hj
          rw [hlow j (List.getElem?_eq_some_iff.1 hj).1]
          exact hHe j y hj
        · intro j q hq hl k y hy hno
          have hkl := (List.getElem?_eq_some_iff.1 hy).1
          unfold Cp.putH
          split
          · rename_i id ob he
            have hne : q.r + k ≠ id := fun e => hno i p ob hp ((hset i).2 (.inl rfl)) (by rw [e]; exact he)
            rw [List.getElem?_set_ne (Ne.symm hne)]
            rcases (hset j).1 hl with rfl | hl2
            · rw [hp] at hq; cases hq
              rw [hupo j p id ob hp he] at hy; simp at hy
            · exact hHo j q hq hl2 k y hy (fun i2 q2 ob2 hq2 hl3 => hno i2 q2 ob2 hq2 ((hset i2).2 (.inr hl3)))
          · rw [place_get (by omega)]
            rcases (hset j).1 hl with rfl | hl2
            · rw [hp] at hq; cases hq
              rw [if_neg (by omega), if_pos (by omega), Nat.add_sub_cancel_left]; exact hy
            · have hne : j ≠ i := fun e => by subst e; rw [hilf] at hl2; cases hl2
              have h3 := hHo j q hq hl2 k y hy (fun i2 q2 ob2 hq2 hl3 => hno i2 q2 ob2 hq2 ((hset i2).2 (.inr hl3)))
              rcases Nat.lt_or_gt_of_ne hne with h | h
              · have := happ j i q p hq hp h
                rw [if_pos (by omega)]; exact h3
              · have := happ i j p q hp hq h
                rw [if_neg (by omega), if_neg (by omega)]; exact h3
        · intro j q id ob hq hl he
          rcases (hset j).1 hl with rfl | hl2
          · rw [hp] at hq; cases hq
            obtain ⟨zs, ds, z1, _⟩ := hupH id ob he
            have hlt := (List.getElem?_eq_some_iff.1 z1).1
            refine ⟨by simp only [Cp.putH, he]; rw [List.getElem?_set_self hlt], ?_⟩
            obtain ⟨v, hv⟩ := hkid id ob he
            refine ⟨v, ?_⟩
            rw [hsame id (by rw [hupo j p id ob hp he]; simp; omega)]
            exact hv
          · obtain ⟨h1, v, hv⟩ := hHu j q id ob hq hl2 he
            have hout : id < p.r ∨ p.r + p.obs.length ≤ id := by
              rcases Nat.lt_or_ge id p.r with h | h
              · exact .inl h
              · rcases Nat.lt_or_ge id (p.r + p.obs.length) with h2 | h2
                · have := hHf i p hp hilf (id - p.r) (by omega)
                  rw [show p.r + (id - p.r) = id from by omega, hv] at this; cases this
                · exact .inr h2
            refine ⟨?_, v, by rw [hsame id hout]; exact hv⟩
            unfold Cp.putH
            split
            · rename_i id2 ob2 he2
              have hne : id2 ≠ id := fun e => by
                subst e
                have := hupd i j p q id2 ob2 ob hp hq he2 he
                subst this
                rw [hilf] at hl2; cases hl2
              rw [List.getElem?_set_ne hne]; exact h1
            · rw [place_get (by omega)]
              rcases hout with h | h
              · rw [if_pos h]; exact h1
              · rw [if_neg (by omega), if_neg (by omega)]; exact h1
        · intro j q hq hl k hk
          have hne : j ≠ i := fun e => by
            subst e
            have := (hset j).2 (.inl rfl)
            rw [this] at hl; cases hl
          have hl2 : listed.getD j false = false := by
            cases h : listed.getD j false with
            | false => rfl
            | true => have := (hset j).2 (.inr h); rw [this] at hl; cases hl
          have h3 := hHf j q hq hl2 k hk
          rw [hsame, h3]
          rcases Nat.lt_or_gt_of_ne hne with h | h
          · have := happ j i q p hq hp h; omega
          · have := happ i j p q hp hq h; omega
  have inv0 : HeadInv .any l.toArray n (Array.replicate l.toArray.size false) :=
    ⟨by simp, fun j oj _ hl => (by rw [getD_replicate_false] at hl; cases hl), fun t _ ht => getD_in (by simpa using ht) (getD_replicate_false _ _)⟩
  have hcount : ((List.range n).filter fun i => !(Array.replicate l.toArray.size false).getD i false).length = n := by
    rw [List.filter_eq_self.2]
    · simp
    · intro i _; rw [getD_replicate_false]; rfl
  have := main n (Array.replicate l.toArray.size false) st.σ (st.H ++ List.replicate (ps.flatMap Cp.obs).length .gone) κ Θ a w inv0 hcount (fun i p t _ _ hl => by rw [getD_replicate_false] at hl; cases hl) (fun t _ => rfl)
    (by simp) (fun i o h => by rw [List.getElem?_append_left (List.getElem?_eq_some_iff.1 h).1]; exact h) (fun i p _ hl => by rw [getD_replicate_false] at hl; cases hl)
    (fun i q id ob _ hl => by rw [getD_replicate_false] at hl; cases hl)
    (fun i p hp _ j _ => hs.kout _ (by rw [hpr i p hp]; omega)) (hs.room _)
  rw [show n + (l.toArray.size - n) = l.toArray.size from by omega] at this
  exact this

/-! the chain as a function -/
def midOk (X : List Nat) (st : St) (op : Op) (A : List An) : Bool := match op with
  | .buildSlice _ _ _ => true
  | .build _ _ => true
  | .extract _ _ => true
  | .field _ _ _ => true
  | .move _ => true
  | .alloc _ => true
  | .binOp _ _ _ _ _ => true
  | .indexAddr _ x _ => (lentOf st (st.ev x)).isNone
  | .load _ x => (lentOp st (st.ev x)).isNone && (match st.ev x, A with | .op id _ _ _, .tk _ :: _ => X.contains id | _, _ => true)
  | .store _ x _ => (match st.ev x with | .ptr id _ => X.contains id | _ => false)
  | .call c => (match c.callee, A with
    | .builtin .append, _ => true
    | .value (.func _), .d _ :: _ => true
    | .value (.func _), .gf _ _ :: _ => true
    | .value (.func _), .gp _ _ _ :: _ => (match c.args.toList with | x :: _ => (match st.ev x with | .ptr id _ => X.contains id | _ => false) | [] => false)
    | _, _ => false)
  | _ => false
/-- no object but those of X is gone -/
def goneB (X : List Nat) (H H' : List Ob) : Bool := (List.range H.length).all fun i => X.contains i || (match H[i]? with | some .gone => true | _ => (match H'[i]? with | some .gone => false | _ => true))
def midRun (P : Program) (nt : Nat) (X : List Nat) : List Oper → St → List An → Option (St × List An × Owe)
  | [], st, A => some (st, A, [])
  | o :: rest, st, A => match o.guard, midOk X st o.op A with
    | none, true => (match stepO P nt o st A with
      | some (st1, A1, p) => (match goneB X st.H st1.H, midRun P nt X rest st1 A1 with | true, some (st2, A2, q) => some (st2, A2, p ++ q) | _, _ => none)
      | none => none)
    | _, _ => none

theorem kill_mem {H : List Ob} {ms : List Nat} {i : Nat} (h : i ∈ ms) (hl : i < H.length) : (kill H ms)[i]? = some .gone := by
  induction ms generalizing H with
  | nil => cases h
  | cons m ms ih =>
    show (kill (H.set m .gone) ms)[i]? = _
    by_cases hi : i ∈ ms
    · exact ih hi (by simpa using hl)
    · rw [kill_other hi]
      rcases List.mem_cons.1 h with rfl | h
      · rw [List.getElem?_set_self hl]
      · exact absurd h hi
theorem gone_of {X : List Nat} {H H' : List Ob} (h : goneB X H H' = true) {i : Nat} {o : Ob} (hi : i ∉ X) (ho : H[i]? = some o) (hg : H'[i]? = some .gone) : o = .gone := by
  have h1 := List.all_eq_true.1 h i (List.mem_range.2 (List.getElem?_eq_some_iff.1 ho).1)
  rw [ho, hg, List.contains_eq_mem, decide_eq_false hi, Bool.false_or] at h1
  cases o <;> first | rfl | cases h1
theorem kill_ext {X : List Nat} {H : List Ob} {ms : List Nat} {n : List Ob} (h : goneB X H (kill H ms ++ n) = true) : ExtB X H (kill H ms ++ n) := by
  intro i o hi ho
  have hl := (List.getElem?_eq_some_iff.1 ho).1
  have e : (kill H ms ++ n)[i]? = (kill H ms)[i]? := List.getElem?_append_left (by rw [kill_length]; exact hl)
  by_cases hm : i ∈ ms
  · have e2 := e.trans (kill_mem hm hl)
    rw [e2, gone_of h hi ho e2]
  · rw [e, kill_other hm, ho]
theorem kill_ext2 {X : List Nat} {H : List Ob} {ms : List Nat} {n : List Ob} {id : Nat} {b : Ob} (hid : id ∈ X) (h : goneB X H ((kill H ms).set id b ++ n) = true) : ExtB X H ((kill H ms).set id b ++ n) := by
  intro i o hi ho
  have hne : id ≠ i := fun e => hi (e ▸ hid)
  have hl := (List.getElem?_eq_some_iff.1 ho).1
  have e : ((kill H ms).set id b ++ n)[i]? = (kill H ms)[i]? := by
    rw [List.getElem?_append_left (by rw [List.length_set, kill_length]; exact hl), List.getElem?_set_ne hne]
  by_cases hm : i ∈ ms
  · have e2 := e.trans (kill_mem hm hl)
    rw [e2, gone_of h hi ho e2]
  · rw [e, kill_other hm, ho]

theorem step_box {X : List Nat} {nt : Nat} {o : Oper} {A A1 : List An} {st1 : St} {p : Owe} (hk : midOk X st o.op A = true) (hgn : goneB X st.H st1.H = true) (h : stepO P nt o st A = some (st1, A1, p)) : ((∃ t d, o.dst = some t ∧ t < nt ∧ st1.σ = (t, d) :: st.σ) ∨ (o.dst = none ∧ st1.σ = st.σ)) ∧ ExtB X st.H st1.H := by
  have plain : ∀ {t : Nat}, o.dst = some t → (if t < nt then match valA P st o.op A with | some (d, A, ow) => some ((⟨(t, d) :: st.σ, st.H⟩ : St), A, ow) | none => none else none) = some (st1, A1, p) → ((∃ t d, o.dst = some t ∧ t < nt ∧ st1.σ = (t, d) :: st.σ) ∨ (o.dst = none ∧ st1.σ = st.σ)) ∧ ExtB X st.H st1.H := by
    intro t hd h
    split at h
    · rename_i ht
      split at h
      · cases h; exact ⟨.inl ⟨t, _, hd, ht, rfl⟩, ExtB.refl _⟩
      · cases h
    · cases h
  unfold stepO at h
  split at h
  case h_2 =>
    rename_i T t hop hd
    split at h
    · rename_i hc
      split at h
      · cases h; exact ⟨.inl ⟨t, _, hd, hc, rfl⟩, ExtB.app (ExtB.refl _) _⟩
      · cases h
    · cases h
  case h_3 =>
    rename_i T x y hop hd
    rw [hop] at hk
    simp only [midOk] at hk
    split at h
    · rename_i id off ds h1 h2
      rw [h1] at hk
      split at h
      · split at h
        · split at h
          · cases h
            refine ⟨.inr ⟨hd, rfl⟩, fun i cs hi hcs => ?_⟩
            have hne : id ≠ i := fun e => hi (by subst e; simpa using hk)
            show (st.H.set id _)[i]? = _
            rw [List.getElem?_set_ne hne, hcs]
          · cases h
        · cases h
      · cases h
    · rename_i id i sz off ds h1 h2
      rw [h1] at hk; cases hk
    · cases h
  case h_7 =>
    rename_i T len parts t hop hd
    split at h
    · split at h
      · split at h
        · split at h
          · rename_i es ms hab
            split at h
            · rename_i hc
              cases h
              exact ⟨.inl ⟨t, _, hd, hc.1, rfl⟩, kill_ext hgn⟩
            · cases h
          · cases h
        · cases h
      · cases h
    · cases h
  case h_8 =>
    rename_i c t hop hd
    rw [hop] at hk
    simp only [midOk] at hk
    split at h
    · split at h
      · split at h
        · rename_i rows u1 k1 rows2 u2 k2 A' ow _ hS hX
          split at h
          · rename_i hc
            cases h
            exact ⟨.inl ⟨t, _, hd, hc.1, rfl⟩, kill_ext hgn⟩
          · cases h
        · cases h
      · cases h
    · rename_i hcal _ _
      rw [hcal] at hk
      cases hk
    · rename_i f hcal
      rw [hcal] at hk
      split at hk
      · rename_i hb; cases hb
      · rename_i f' d A' hb
        split at h
        · rename_i hA; cases hA
        · rename_i hA; cases hA
        · rename_i hA; cases hA
        · rename_i hA; cases hA
        · rename_i hA; cases hA
        · rename_i hA; cases hA
        · rename_i ds ms d' A'' hv hA
          split at h
          · rename_i hc
            cases h
            exact ⟨.inl ⟨t, _, hd, hc.1, rfl⟩, (ExtB.refl _).app _⟩
          · cases h
        · rename_i hA; cases hA
        · rename_i hA; cases hA
        · cases h
      · rename_i f' nz d A' hb
        generalize vwVs st.H (List.map st.ev c.args.toList) = q at h
        rcases q with _ | ⟨qa, qb⟩
        all_goals
          dsimp only at h
          split at h
          · rename_i ds ms qs h9
            split at h
            · rename_i hc
              cases h
              exact ⟨.inl ⟨t, _, hd, hc.1, rfl⟩, kill_ext hgn⟩
            · cases h
          · cases h
      · rename_i f' nz cells' d A' hb
        generalize vwVs st.H (List.map st.ev c.args.toList) = q at h
        rcases q with _ | ⟨qa, qb⟩
        all_goals
          dsimp only at h
          split at h
          · rename_i x0 xr h5
            rw [h5] at hk
            split at h
            · rename_i id h6
              simp only [h6] at hk
              split at h
              · rename_i ob h7
                split at h
                · rename_i cells0 h8
                  split at h
                  · rename_i cells ds ms qs h9
                    split at h
                    · rename_i hc
                      cases h
                      exact ⟨.inl ⟨t, _, hd, hc.1, rfl⟩, kill_ext2 (by simpa using hk) hgn⟩
                    · cases h
                  · cases h
                · cases h
              · cases h
            · cases h
          · cases h
      · cases hk
    · exact plain hd h
  case h_13 =>
    rename_i T x i t hop hd
    rw [hop] at hk
    simp only [midOk] at hk
    split at h
    · rename_i hl
      rw [hl] at hk; cases hk
    · exact plain hd h
  case h_14 =>
    rename_i T x t hop hd
    rw [hop] at hk
    simp only [midOk] at hk
    split at h
    · rename_i hl
      rw [hl] at hk; cases hk
    · rw [Bool.and_eq_true] at hk
      replace hk := hk.2
      split at h
      · rename_i r A' id i sz h1
        split at h
        · rename_i n e sz' rows h2
          split at h
          · rename_i hc
            cases h
            refine ⟨.inl ⟨t, _, hd, hc.1, rfl⟩, ExtB.app (fun j cs hj hcs => ?_) _⟩
            have hne : id ≠ j := fun e => hj (by subst e; rw [h1] at hk; simpa using hk)
            rw [List.getElem?_set_ne hne]; exact hcs
          · cases h
        · cases h
      · exact plain hd h
  all_goals first
    | (rename_i hop _; rw [hop] at hk; simp [midOk] at hk; done)
    | (rename_i hop; rw [hop] at hk; simp [midOk] at hk; done)
    | skip
  all_goals first
    | exact plain (by assumption) h
    | cases h

theorem Step.of {nt : Nat} (hnt : Γ.nt = nt) {o : Oper} {A A1 : List An} {st1 : St} {p : Owe} (hg : o.guard = none) (hsel : ∀ cs b, o.op ≠ .select cs b) (h : stepO P nt o st A = some (st1, A1, p)) (hp : AllP p) : Step P Γ o st st1 := by
  intro κ Θ a w hs
  have h1 := AO_step (P := P) (Γ := Γ) (all := #[]) (rest := []) (Q := fun e s => e = .normal ∧ s = st1) hnt hg h hp (AO_nil ⟨rfl, rfl⟩) κ Θ a w hs
  have hw : Region.wanted o (yielded #[] a.tmps) = true := by simp [Region.wanted, hg]
  simp only [wpList, hw, if_true] at h1
  rcases h1 with h1 | ⟨_, a0, w0, st', κ', Θ', _, hq, _⟩
  · refine wp_frame hsel (fun _ _ => rfl) ?_ ?_ ?_ h1
    · rintro v w' ⟨st', κ', Θ', hs', _, rfl⟩
      exact ⟨κ', Θ', hs'⟩
    · rintro d w' ⟨st', κ', Θ', hs', _, rfl⟩
      have := hs'.defers
      cases hod : o.dst <;> rw [hod] at this <;> cases this
    · rintro e c w' ⟨st', κ', Θ', hs', rfl, _⟩
      rfl
  · cases hq

theorem midRun_sound {X : List Nat} {nt : Nat} (hnt : Γ.nt = nt) {K : St → Prop} {st2 : St} {A2 : List An} : ∀ {ops : List Oper} {st : St} {A : List An} {p : Owe}, midRun P nt X ops st A = some (st2, A2, p) → AllP p → K st2 → AMid P Γ X K ops st := by
  intro ops
  induction ops with
  | nil => intro st A p h hp hK; simp only [midRun, Option.some.injEq, Prod.mk.injEq] at h; obtain ⟨rfl, _, _⟩ := h; exact hK
  | cons o os ih =>
    intro st A p h hp hK
    simp only [midRun] at h
    split at h
    · rename_i hg hok
      split at h
      · rename_i st1 A1 p1 h1
        split at h
        · rename_i st2' A2' q hgn h2
          cases h
          obtain ⟨hp1, hq⟩ := hp.app
          obtain ⟨hd, hX⟩ := step_box hok hgn h1
          have hsel : ∀ cs b, o.op ≠ .select cs b := by
            intro cs b e
            rw [e] at hok; cases hok
          exact ⟨st1, hd.imp (fun ⟨t, d, hd, ht, hσ⟩ => ⟨t, d, hd, by rw [hnt]; exact ht, hσ⟩) id, hX, hg, hsel, Step.of hnt hg hsel h1 hp1, ih h2 hq hK⟩
        · cases h
      · cases h
    · cases h

/-- those that float look at no object but boxes -/
def stillL (X : List Nat) (st : St) (ops : List Oper) (L : List Nat) : Bool := L.all fun i => match ops[i]? with | some o => stillOp X st o.op | none => false
theorem stillL_ok {X : List Nat} {st : St} {ops : List Oper} {L : List Nat} (h : stillL X st ops L = true) : ∀ i ∈ L, ∀ o, ops[i]? = some o → stillOp X st o.op = true := by
  intro i hi o ho
  have := List.all_eq_true.1 h i hi
  rw [ho] at this; exact this
theorem ACalm.mono {H : List Ob} {K K' : List (Nat × D) → List Ob → Prop} (hk : ∀ σ acc, K σ acc → K' σ acc) : ∀ (l : List Oper) (σ : List (Nat × D)) (acc : List Ob) (U : List Nat), ACalm P Γ all H K l σ acc U → ACalm P Γ all H K' l σ acc U
  | [], σ, acc, _, h => hk _ _ h
  | o :: os, σ, acc, U, ⟨p, h1, h2, h3, h4⟩ => ⟨p, h1, h2, h3, ACalm.mono hk os _ _ _ h4⟩
/-- a region whose head may come in any order, and then the rest in the text's order -/
theorem AW_draw {id : Nat} {l : List Oper} (n : Nat) (hm : P.follows .mixedOrders = true) (hB : drawB2 l.toArray n n [] = true)
    (h : ACalm P Γ l.toArray st.H (fun σ acc => AO P Γ l.toArray (l.drop n) Q ⟨σ, st.H ++ acc⟩) (l.take n) st.σ [] []) : AW P Γ (.region id l.toArray true) Q st := by
  refine (any_draw2 (X := []) n n [] hB ?_).aw hm
  refine ACalm.mono (fun σ acc hk => ⟨fun i hi => absurd hi (by simp), by rw [Nat.sub_self, List.take_zero]; exact hk⟩) _ _ _ _ h
/-! another order of the text -/
def remap (ρ : List Nat) (o : Oper) : Oper := { o with after := o.after.map fun e => { e with on := ρ.getD e.on 0 }, guard := o.guard.map fun g => (ρ.getD g.1 0, g.2) }
def permOps (ops : Array Oper) (π ρ : List Nat) : List Oper := π.filterMap fun i => (ops[i]?).map (remap ρ)
def permB (ops : Array Oper) (π ρ : List Nat) : Bool :=
  decide (π.length = ops.size) && (decide (ρ.length = ops.size) &&
  (((List.range ops.size).all fun i => (match ρ[i]? with | some k => π[k]? == some i | none => false)) &&
  (((List.range ops.size).all fun k => (match π[k]? with | some i => ρ[i]? == some k | none => false)) &&
  (ops.toList.all fun o => (o.after.all fun e => decide (e.on < ops.size)) && (match o.guard with | some g => decide (g.1 < ops.size) | none => true)))))

theorem exec_remap (ρ : List Nat) (o : Oper) (f : Operand → Value) : execOp f (remap ρ o) = execOp f o := by
  cases o; rfl
theorem wp_remap (ρ : List Nat) {o : Oper} {K : Act → World → Prop} {Q : Exit → Act → World → Prop} (h : (remap ρ o).wp P a w K Q) : o.wp P a w K Q := by
  unfold Oper.wp at *
  rw [exec_remap] at h
  exact h
theorem asks_remap (ρ : List Nat) {o : Oper} (h : (remap ρ o).asks P a w) : o.asks P a w := by
  unfold Oper.asks at *
  rw [exec_remap] at h
  exact h

section
variable {ops : Array Oper} {π ρ : List Nat}
theorem perm_get (hB : permB ops π ρ = true) {k i : Nat} {o : Oper} (hk : π[k]? = some i) (ho : ops[i]? = some o) : (permOps ops π ρ).toArray[k]? = some (remap ρ o) := by
  simp only [permB, Bool.and_eq_true, decide_eq_true_eq] at hB
  obtain ⟨h1, h2, h3, h4, h5⟩ := hB
  have hall : ∀ x ∈ π, ∃ o, ops[x]? = some o := by
    intro x hx
    obtain ⟨j, hj, rfl⟩ := List.mem_iff_getElem.1 hx
    have := List.all_eq_true.1 h4 j (List.mem_range.2 (by omega))
    rw [List.getElem?_eq_getElem hj] at this
    simp only [beq_iff_eq] at this
    have := (List.getElem?_eq_some_iff.1 this).1
    exact ⟨_, Array.getElem?_eq_getElem (by omega)⟩
  have key : ∀ (l : List Nat) (k : Nat), (∀ x ∈ l, ∃ o, ops[x]? = some o) → l[k]? = some i → (l.filterMap fun i => (ops[i]?).map (remap ρ))[k]? = some (remap ρ o) := by
    intro l
    induction l with
    | nil => intro k _ h; simp at h
    | cons x l ih =>
      intro k hl h
      obtain ⟨ox, hox⟩ := hl x (by simp)
      rw [List.filterMap_cons]
      simp only [hox, Option.map_some]
      cases k with
      | zero => simp at h; subst h; rw [ho] at hox; cases hox; rfl
      | succ k => simpa using ih k (fun y hy => hl y (by simp [hy])) (by simpa using h)
  have := key π k hall hk
  simpa [permOps] using this

theorem perm_len (hB : permB ops π ρ = true) : (permOps ops π ρ).toArray.size = ops.size := by
  have hB' := hB
  simp only [permB, Bool.and_eq_true, decide_eq_true_eq] at hB
  obtain ⟨h1, h2, h3, h4, h5⟩ := hB
  have hall : ∀ x ∈ π, ∃ o, ops[x]? = some o := by
    intro x hx
    obtain ⟨j, hj, rfl⟩ := List.mem_iff_getElem.1 hx
    have := List.all_eq_true.1 h4 j (List.mem_range.2 (by omega))
    rw [List.getElem?_eq_getElem hj] at this
    simp only [beq_iff_eq] at this
    have := (List.getElem?_eq_some_iff.1 this).1
    exact ⟨_, Array.getElem?_eq_getElem (by omega)⟩
  have key : ∀ (l : List Nat), (∀ x ∈ l, ∃ o, ops[x]? = some o) → (l.filterMap fun i => (ops[i]?).map (remap ρ)).length = l.length := by
    intro l
    induction l with
    | nil => intro _; rfl
    | cons x l ih =>
      intro hl
      obtain ⟨ox, hox⟩ := hl x (by simp)
      rw [List.filterMap_cons]
      simp only [hox, Option.map_some, List.length_cons, ih (fun y hy => hl y (by simp [hy]))]
  rw [List.size_toArray, permOps, key π hall, h1]

theorem perm_any {Q' : Exit → Act → World → Prop} (hB : permB ops π ρ = true) : ∀ (fuel : Nat) (listed listed' : Array Bool) (a : Act) (w : World), listed.size = ops.size → listed'.size = ops.size → (∀ (k i : Nat), π[k]? = some i → listed'.getD k false = listed.getD i false) →
    wpAny P .any (permOps ops π ρ).toArray Q' fuel listed' a w → wpAny P .any ops Q' fuel listed a w := by
  have hB' := hB
  simp only [permB, Bool.and_eq_true, decide_eq_true_eq] at hB'
  obtain ⟨h1, h2, h3, h4, h5⟩ := hB'
  have to : ∀ i, i < ops.size → ∃ k, ρ[i]? = some k ∧ π[k]? = some i ∧ k < ops.size := by
    intro i hi
    have := List.all_eq_true.1 h3 i (List.mem_range.2 hi)
    split at this
    · rename_i k hk
      simp only [beq_iff_eq] at this
      exact ⟨k, hk, this, by have := (List.getElem?_eq_some_iff.1 this).1; omega⟩
    · cases this
  have back : ∀ k, k < ops.size → ∃ i, π[k]? = some i ∧ ρ[i]? = some k ∧ i < ops.size := by
    intro k hk
    have := List.all_eq_true.1 h4 k (List.mem_range.2 hk)
    split at this
    · rename_i i hi
      simp only [beq_iff_eq] at this
      exact ⟨i, hi, this, by have := (List.getElem?_eq_some_iff.1 this).1; omega⟩
    · cases this
  have rin : ∀ (i : Nat) o, ops[i]? = some o → (∀ e ∈ o.after, e.on < ops.size) ∧ ∀ g, o.guard = some g → g.1 < ops.size := by
    intro i o ho
    have hm : o ∈ ops.toList := by rw [← Array.getElem?_toList] at ho; exact List.mem_of_getElem? ho
    have := List.all_eq_true.1 h5 o hm
    simp only [Bool.and_eq_true] at this
    refine ⟨fun e he => by simpa using Array.all_eq_true'.1 this.1 e he, fun g hg => ?_⟩
    have := this.2
    rw [hg] at this; simpa using this
  have rd : ∀ (listed listed' : Array Bool), listed.size = ops.size → listed'.size = ops.size → (∀ (k i : Nat), π[k]? = some i → listed'.getD k false = listed.getD i false) → ∀ (k i : Nat), π[k]? = some i → (i ∈ Region.ready .any ops listed ↔ k ∈ Region.ready .any (permOps ops π ρ).toArray listed') := by
    intro listed listed' hs1 hs2 hll k i hki
    have hk : k < ops.size := by have := (List.getElem?_eq_some_iff.1 hki).1; omega
    obtain ⟨i', hi', hr, hilt⟩ := back k hk
    rw [hki] at hi'; cases hi'
    have ho : ops[i]? = some ops[i] := Array.getElem?_eq_getElem hilt
    have ho' := perm_get hB hki ho
    have hon : ∀ e ∈ ops[i].after, listed'.getD (ρ.getD e.on 0) false = listed.getD e.on false := by
      intro e he
      obtain ⟨k2, hk2, hk3, _⟩ := to e.on ((rin i _ ho).1 e he)
      rw [List.getD_eq_getElem?_getD, hk2, Option.getD_some]
      exact hll k2 e.on hk3
    rw [mem_ready, mem_ready]
    constructor
    · rintro ⟨q1, o, q2, q3⟩
      rw [ho] at q2; cases q2
      refine ⟨getD_in (by omega) (by rw [hll k i hki]; exact getD_both q1), _, ho', ?_⟩
      intro e he hb
      simp only [remap, Array.mem_map] at he
      obtain ⟨e0, he0, rfl⟩ := he
      simp only
      rw [hon e0 he0]
      exact q3 e0 he0 hb
    · rintro ⟨q1, o, q2, q3⟩
      rw [ho'] at q2; cases q2
      refine ⟨getD_in (by omega) (by rw [← hll k i hki]; exact getD_both q1), _, ho, ?_⟩
      intro e he hb
      rw [← hon e he]
      exact q3 { e with on := ρ.getD e.on 0 } (by simp only [remap, Array.mem_map]; exact ⟨e, he, rfl⟩) hb
  have lt : ∀ {listed : Array Bool} {ops : Array Oper} {i : Nat}, i ∈ Region.ready .any ops listed → i < ops.size := by
    intro listed ops i hi
    obtain ⟨_, o, ho, _⟩ := mem_ready.1 hi
    exact (Array.getElem?_eq_some_iff.1 ho).1
  have none' : ∀ (listed listed' : Array Bool), listed.size = ops.size → listed'.size = ops.size → (∀ (k i : Nat), π[k]? = some i → listed'.getD k false = listed.getD i false) → (Region.ready .any ops listed = [] ↔ Region.ready .any (permOps ops π ρ).toArray listed' = []) := by
    intro listed listed' hs1 hs2 hll
    constructor
    · intro h
      rw [List.eq_nil_iff_forall_not_mem]
      intro k hk
      obtain ⟨i, hi, _⟩ := back k (by have := lt hk; rw [perm_len hB] at this; exact this)
      have := (rd listed listed' hs1 hs2 hll k i hi).2 hk
      rw [h] at this; cases this
    · intro h
      rw [List.eq_nil_iff_forall_not_mem]
      intro i hi
      obtain ⟨k, _, hk, _⟩ := to i (lt hi)
      have := (rd listed listed' hs1 hs2 hll k i hk).1 hi
      rw [h] at this; cases this
  intro fuel
  induction fuel with
  | zero =>
    intro listed listed' a w hs1 hs2 hll h
    exact ⟨(none' listed listed' hs1 hs2 hll).2 h.1, h.2⟩
  | succ fuel ih =>
    intro listed listed' a w hs1 hs2 hll h
    refine ⟨fun h0 => h.1 ((none' listed listed' hs1 hs2 hll).1 h0), fun i hi => ?_⟩
    have hilt := lt hi
    obtain ⟨k, hrk, hk, hklt⟩ := to i hilt
    have hkr := (rd listed listed' hs1 hs2 hll k i hk).1 hi
    have ho : ops[i]? = some ops[i] := Array.getElem?_eq_getElem hilt
    have ho' := perm_get hB hk ho
    have h2 := wpOp_mono (K' := wpAny P .any ops Q' fuel (listed.setIfInBounds i true)) (fun a' w' h' => ih (listed.setIfInBounds i true) (listed'.setIfInBounds k true) a' w' (by simpa using hs1) (by simpa using hs2) (by
      intro k2 i2 hki2
      by_cases e : k = k2
      · subst e
        rw [hk] at hki2; cases hki2
        have g1 : k < listed'.size := by omega
        have g2 : i < listed.size := by omega
        simp [g1, g2]
      · have e2 : i ≠ i2 := by
          intro e3
          subst e3
          obtain ⟨i', hi', hr', _⟩ := back k2 (by have := (List.getElem?_eq_some_iff.1 hki2).1; omega)
          rw [hki2] at hi'; cases hi'
          rw [hrk] at hr'; cases hr'; exact e rfl
        rw [getD_set_ne false e, getD_set_ne false e2]
        exact hll k2 i2 hki2) h') (h.2 k hkr)
    have hw : Region.wanted (remap ρ ops[i]) (yielded (permOps ops π ρ).toArray a.tmps) = Region.wanted ops[i] (yielded ops a.tmps) := by
      cases hg : ops[i].guard with
      | none => simp [Region.wanted, remap, hg]
      | some g =>
        obtain ⟨j, want⟩ := g
        have hj := (rin i _ ho).2 _ hg
        obtain ⟨k3, hrk3, hk3, _⟩ := to j hj
        have hoj : ops[j]? = some ops[j] := Array.getElem?_eq_getElem hj
        have hoj' := perm_get hB hk3 hoj
        have : yielded (permOps ops π ρ).toArray a.tmps (ρ.getD j 0) = yielded ops a.tmps j := by
          rw [List.getD_eq_getElem?_getD, hrk3, Option.getD_some]
          unfold yielded
          rw [hoj', hoj]
          rfl
        simp only [Region.wanted, remap, hg, Option.map_some]
        rw [this]
    unfold wpOp at h2 ⊢
    simp only [ho', ho] at h2 ⊢
    rw [hw] at h2
    split
    · rename_i hwt
      rw [if_pos hwt] at h2
      exact h2.imp (wp_remap ρ) fun ⟨q1, q2⟩ => ⟨asks_remap ρ q1, q2⟩
    · rename_i hwt
      rw [if_neg hwt] at h2
      exact h2

theorem AnyOk.perm (hB : permB ops π ρ = true) (h : AnyOk P Γ (permOps ops π ρ).toArray Q st) : AnyOk P Γ ops Q st := by
  intro κ Θ a w hs
  have := h κ Θ a w hs
  rw [perm_len hB] at this
  refine perm_any hB ops.size (Array.replicate ops.size false) (Array.replicate ops.size false) a w (by simp) (by simp) (fun k i _ => ?_) this
  rw [getD_replicate_false, getD_replicate_false]
end
end
end Go.Cx
