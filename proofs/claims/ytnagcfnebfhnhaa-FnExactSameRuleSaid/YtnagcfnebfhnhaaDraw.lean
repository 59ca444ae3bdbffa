/- Regions whose order is drawn: where each operation of the head only computes or calls a function that leaves what was there as it was, every order gives the state of the text's order. And: a state trimmed at a loop's head. No condition; plain lemmas. -/
import Derived.Test.YtnagcfnebfhnhaaCall
import Derived.StillTail
namespace Go.Bx
open Go.RowKit

/-! trimming -/
def D.okC (d : D) (n : Nat) : Bool := match d with
  | .acc i => decide (i < n)
  | .ptr i _ => decide (i < n)
  | .op i _ _ _ => decide (i < n)
  | _ => true
def D.okV (d : D) (n : Nat) : Bool := match d with
  | .agg cs => cs.all fun c => c.okC n
  | d => d.okC n
def D.okS (d : D) (n : Nat) : Bool := match d with
  | .tup vs => vs.all fun c => c.okV n
  | d => d.okV n
def Ob.ok (o : Ob) (n : Nat) : Bool := match o with
  | .box cells => cells.all fun c => c.okC n
  | _ => true
def St.trim (st : St) (keep : List Nat) (n : Nat) : St := ⟨keep.map fun t => (t, lk st.σ t), st.H.take n⟩
def St.fits (st : St) (keep : List Nat) (n : Nat) : Bool := (keep.all fun t => (lk st.σ t).okS n) && (st.H.take n).all fun o => o.ok n

section
variable {P : Program} {Γ : Ctx} {Q : Exit → St → Prop} {st : St} {κ κ' : Nat → Option Value} {Θ Θ' : Nat → Nat} {a : Act} {w w' : World} {all : Array Oper} {rest : List Oper}

def cutK (κ : Nat → Option Value) (n : Nat) : Nat → Option Value := fun i => if i < n then κ i else none

theorem RdC.cut {v : Value} {d : D} {bs : List Nat} {n : Nat} (h : RdC w κ v d bs) (hok : d.okC n = true) : RdC w (cutK κ n) v d bs := by
  cases h with
  | pure h => exact .pure h
  | acc i v hk => simp only [D.okC, decide_eq_true_eq] at hok; exact .acc i v (by simp [cutK, hok, hk])
  | ptr i off b hk => simp only [D.okC, decide_eq_true_eq] at hok; exact .ptr i off b (by simp [cutK, hok, hk])
  | op i j sz off b len cap hk => simp only [D.okC, decide_eq_true_eq] at hok; exact .op i j sz off b len cap (by simp [cutK, hok, hk])

theorem RdCs.cut {vs : List Value} {ds : List D} {bs : List Nat} {n : Nat} (h : RdCs w κ vs ds bs) (hok : (ds.all fun c => c.okC n) = true) : RdCs w (cutK κ n) vs ds bs := by
  induction ds generalizing vs bs with
  | nil => cases h; exact .nil
  | cons d ds ih =>
    simp only [List.all_cons, Bool.and_eq_true] at hok
    cases h with
    | cons v vs _ _ b1 b2 h1 h2 h3 => exact .cons _ _ _ _ _ _ h1 (h2.cut hok.1) (ih h3 hok.2)

theorem RdV.cut {v : Value} {d : D} {bs : List Nat} {n : Nat} (h : RdV w κ v d bs) (hok : d.okV n = true) : RdV w (cutK κ n) v d bs := by
  cases h with
  | cell h =>
    by_cases hagg : ∃ ds, d = .agg ds
    · obtain ⟨ds, rfl⟩ := hagg
      cases h with
      | pure h => exact .cell (.pure h)
    · have : d.okC n = true := by cases d <;> first | exact hok | (exfalso; exact hagg ⟨_, rfl⟩)
      exact .cell (h.cut this)
  | agg cs ds bs h => exact .agg _ _ _ (h.cut hok)

theorem RdVs.cut {vs : List Value} {ds : List D} {bs : List Nat} {n : Nat} (h : RdVs w κ vs ds bs) (hok : (ds.all fun c => c.okV n) = true) : RdVs w (cutK κ n) vs ds bs := by
  induction ds generalizing vs bs with
  | nil => cases h; exact .nil
  | cons d ds ih =>
    simp only [List.all_cons, Bool.and_eq_true] at hok
    cases h with
    | cons v vs _ _ b1 b2 h2 h3 => exact .cons _ _ _ _ _ _ (h2.cut hok.1) (ih h3 hok.2)

theorem RdS.cut {v : Value} {d : D} {bs : List Nat} {n : Nat} (h : RdS w κ v d bs) (hok : d.okS n = true) : RdS w (cutK κ n) v d bs := by
  cases h with
  | v h =>
    have : d.okV n = true := by
      cases h with
      | cell h => cases h with
        | pure h => cases h <;> exact hok
        | acc => exact hok
        | ptr => exact hok
        | op => exact hok
      | agg => exact hok
    exact .v (h.cut this)
  | tup vs ds bs h => exact .tup _ _ _ (h.cut hok)

theorem lk_keep (σ : List (Nat × D)) (keep : List Nat) (t : Nat) : lk (keep.map fun t => (t, lk σ t)) t = if t ∈ keep then lk σ t else .any := by
  induction keep with
  | nil => simp [lk]
  | cons k keep ih =>
    simp only [List.map_cons, lk]
    by_cases h : t = k
    · subst h; simp
    · rw [if_neg h, ih]; simp [h]

theorem Sim.trim (hs : Sim Γ st κ Θ a w) {keep : List Nat} {n : Nat} (hf : st.fits keep n = true) : Sim Γ (st.trim keep n) (cutK κ n) Θ a w := by
  simp only [St.fits, Bool.and_eq_true] at hf
  refine ⟨hs.defers, hs.size, ?_, ?_, ?_, ?_, hs.own, hs.old, hs.below⟩
  · intro i hi
    simp only [St.trim, List.length_take] at hi
    unfold cutK
    split
    · exact hs.kout i (by omega)
    · rfl
  · intro i u hu
    unfold cutK at hu
    split at hu
    · exact hs.kone i u hu
    · cases hu
  · intro t
    show ∃ bs, RdS w (cutK κ n) _ (lk (keep.map fun t => (t, lk st.σ t)) t) bs ∧ _
    rw [lk_keep]
    split
    · rename_i ht
      obtain ⟨bs, hr, hz⟩ := hs.slot t
      exact ⟨bs, hr.cut (List.all_eq_true.1 hf.1 t ht), hz⟩
    · exact ⟨[], .of (.any _), by simp⟩
  · intro j o hj
    simp only [St.trim] at hj
    rw [List.getElem?_take] at hj
    split at hj
    · rename_i hlt
      have hok := List.all_eq_true.1 hf.2 o (List.mem_of_getElem? (by rw [List.getElem?_take, if_pos hlt]; exact hj))
      have := hs.ob j o hj
      cases o with
      | gone => trivial
      | box cells =>
        obtain ⟨g, cs, T, hk, hg, hn0, hΘ, bs, hrs, hz⟩ := this
        exact ⟨g, cs, T, by simp [cutK, hlt, hk], hg, hn0, hΘ, bs, hrs.cut hok, hz⟩
      | row deep e sz rows =>
        obtain ⟨hsz, hrl, v, cs, bs, hk, r⟩ := this
        exact ⟨hsz, hrl, v, cs, bs, by simp [cutK, hlt, hk], r⟩
    · cases hj

theorem AW_trim {c : Code} (keep : List Nat) (n : Nat) (hf : st.fits keep n = true) (h : AW P Γ c Q (st.trim keep n)) : AW P Γ c Q st :=
  fun _ _ _ _ hs => h _ _ _ _ (hs.trim hf)
theorem AO_trim {ops : List Oper} (keep : List Nat) (n : Nat) (hf : st.fits keep n = true) (h : AO P Γ all ops Q (st.trim keep n)) : AO P Γ all ops Q st :=
  fun _ _ _ _ hs => h _ _ _ _ (hs.trim hf)

/-- A LOOP. 'S k': the trimmed state at its head in round k; 'I k': what else is known there; at most n rounds. -/
theorem AW_for {c : Code} (keep : List Nat) (m : Nat) (S : Nat → St) (I : Nat → Prop) (n : Nat) (hf0 : st.fits keep m = true) (h0 : st.trim keep m = S 0) (hI : I 0)
    (round : ∀ k, k ≤ n → I k → AW P Γ c (thenQ (fun st' => k < n ∧ st'.fits keep m = true ∧ st'.trim keep m = S (k + 1) ∧ I (k + 1)) Q) (S k)) : AW P Γ (.loop c) Q st := by
  refine AW_trim keep m hf0 ?_
  intro κ Θ a w hs
  rw [h0] at hs
  refine wp_loop_ghost (fun g a w => ∃ k κ Θ, k ≤ n ∧ g = n - k ∧ I k ∧ Sim Γ (S k) κ Θ a w) n ⟨0, κ, Θ, by omega, by omega, hI, hs⟩ ?_
  rintro g a w ⟨k, κ, Θ, hk, rfl, hIk, hs⟩
  refine wp_mono (round k hk hIk κ Θ a w hs) ?_
  rintro e a' w' ⟨st', κ', Θ', hs', hq⟩
  cases e with
  | normal =>
    obtain ⟨hlt, hf, he, hI'⟩ := hq
    have := hs'.trim hf
    rw [he] at this
    exact ⟨n - (k + 1), by omega, k + 1, _, Θ', by omega, rfl, hI', this⟩
  | exit id => exact ⟨_, _, _, hs', hq⟩
  | goto l => exact ⟨_, _, _, hs', hq⟩
  | ret => exact ⟨_, _, _, hs', hq⟩
  | panic c => exact ⟨_, _, _, hs', hq⟩
  | outgrown => exact ⟨_, _, _, hs', hq⟩

/-! drawn regions -/
theorem pv_congr {st st' : St} {op : Op} (hH : st.H = st'.H) (he : ∀ x ∈ op.operands.toList, st.ev x = st'.ev x) : pv P st op = pv P st' op := by
  have hm : ∀ (o : Option Operand), (∀ x ∈ o.toArray.toList, st.ev x = st'.ev x) → o.map st.ev = o.map st'.ev := by
    intro o h
    cases o with
    | none => rfl
    | some x => simp [h x (by simp)]
  cases op <;> simp only [pv, hH]
  case move x => rw [he x (by simp [Op.operands])]
  case assign x => rw [he x (by simp [Op.operands])]
  case pick c x y => rw [he c (by simp [Op.operands]), he x (by simp [Op.operands]), he y (by simp [Op.operands])]
  case binOp op t x y t' => rw [he x (by simp [Op.operands]), he y (by simp [Op.operands])]
  case unOp op t x => cases op <;> simp only [pv] <;> rw [he x (by simp [Op.operands])]
  case convert s d x => rw [he x (by simp [Op.operands])]
  case fieldAddr t x f => rw [he x (by simp [Op.operands])]
  case indexAddr t x i => rw [he x (by simp [Op.operands]), he i (by simp [Op.operands])]
  case load t x => rw [he x (by simp [Op.operands])]
  case extract x i => rw [he x (by simp [Op.operands])]
  case index t x i => rw [he x (by simp [Op.operands]), he i (by simp [Op.operands])]
  case slice t x lo hi mx =>
    cases mx with
    | none =>
      simp only [pv]
      rw [he x (by simp [Op.operands]), hm lo (fun y hy => he y (by simp only [Op.operands, Array.toList_append, List.mem_append]; exact .inl (.inl (.inr hy)))),
        hm hi (fun y hy => he y (by simp only [Op.operands, Array.toList_append, List.mem_append]; exact .inl (.inr hy)))]
    | some m => simp only [pv]
  case build t parts =>
    have : (parts.toList.map fun p => (p.1, st.ev p.2)) = parts.toList.map fun p => (p.1, st'.ev p.2) := by
      apply List.map_congr_left
      intro p hp
      rw [he p.2 (by simp only [Op.operands]; simp; exact ⟨p.1, by simpa using hp⟩)]
    rw [this]
  case call c =>
    split
    · rename_i x t h1 h2 h3
      have hx : x ∈ (Op.call c).operands.toList := by
        simp only [Op.operands, Call.operands, Array.toList_append, List.mem_append, h2]
        exact .inr (by simp)
      unfold plen
      rw [he x hx, hH]
    · rfl

def CalmOp (P : Program) (st : St) (o : Oper) (d : D) : Prop :=
  pv P st o.op = some d ∨ ∃ (f : FuncId) (xs : Array Operand) (ts : Array TypeId), o.op = .call { callee := .value (.func f), args := xs, argTypes := ts } ∧
    (xs.toList.map st.ev).all D.pureV = true ∧ Good P f (xs.toList.map st.ev) d ∧ d.pureS = true

def CalmAt (P : Program) (Γ : Ctx) (all : Array Oper) (st : St) (o : Oper) (t : Nat) (d : D) : Prop :=
  o.dst = some t ∧ t < Γ.nt ∧ ((o.guard = none ∧ CalmOp P st o d) ∨
    ∃ (j s : Nat) (want b : Bool), o.guard = some (j, want) ∧ (all[j]?).bind (·.dst) = some s ∧ lk st.σ s = .bool b ∧ ((b = want ∧ CalmOp P st o d) ∨ (b ≠ want ∧ d = .any)))

def ACalm (P : Program) (Γ : Ctx) (all : Array Oper) (K : St → Prop) : List Oper → St → Prop
  | [], st => K st
  | o :: os, st => ∃ t d, CalmAt P Γ all st o t d ∧ ACalm P Γ all K os (st.set t d)

theorem wpOp_plain {Q' : Exit → Act → World → Prop} {ops : Array Oper} {i : Nat} {o : Oper} {K : Act → World → Prop} (hi : ops[i]? = some o) (hw : Region.wanted o (yielded ops a.tmps) = true) (h : o.wp P a w K Q') : wpOp P ops Q' i K a w := by
  unfold wpOp
  simp only [hi, hw, if_true]
  exact .inl h

theorem CalmOp.wp {Q' : Exit → Act → World → Prop} {o : Oper} {t : Nat} {d : D} {K : Act → World → Prop} (hs : Sim Γ st κ Θ a w) (hd : o.dst = some t) (ht : t < Γ.nt) (h : CalmOp P st o d)
    (hK : ∀ κ' Θ' a' w', Sim Γ (st.set t d) κ' Θ' a' w' → K a' w') : o.wp P a w K Q' := by
  rcases h with h | ⟨f, xs, ts, hop, hp, hgood, hps⟩
  · obtain ⟨v, bs, hr, hrd, hz⟩ := pv_gives hs h
    unfold Oper.wp
    rw [hr, Oper.upon_value, hd]
    exact hK _ _ _ _ (hs.set ht hrd hz)
  · obtain ⟨bs, hargs, hz⟩ := hs.args xs.toList hp
    have hc := hgood.2 w (fun b => if Θ b = 0 then 0 else 1) _ bs hargs (fun b hb => if_pos (hz b hb)) (fun b hb => hs.own b (fun e => hb (if_pos e))) (fun b => by split <;> omega)
    unfold Oper.wp
    rw [run_call hop hgood.1, Oper.upon_enter]
    have e : xs.map a.eval = (xs.toList.map a.eval).toArray := by rw [← Array.toList_map, Array.toArray_toList]
    rw [e]
    refine hc.mono ?_
    rintro e w' ⟨v, bs', rfl, hb, hr, hz'⟩
    show K (a.put o.dst v) w'
    rw [hd]
    refine hK _ _ _ _ ((hs.grow hb).set ht (hr.unname hps) fun b hb' => ?_)
    by_cases hlt : b < w.heap.size
    · have := hz' b hb' hlt
      by_cases h0 : Θ b = 0
      · exact h0
      · simp [h0] at this
    · by_cases h0 : Θ b = 0
      · exact h0
      · exact absurd (hs.own b h0) hlt

theorem Sim.yields (hs : Sim Γ st κ Θ a w) {ops : Array Oper} {j s : Nat} {b : Bool} (hj : (ops[j]?).bind (·.dst) = some s) (hb : lk st.σ s = .bool b) : yielded ops a.tmps j = some b := by
  obtain ⟨bs, r, _⟩ := hs.slot s
  rw [hb] at r
  have hv := r.bool_inv
  have hlt : s < a.tmps.size := by
    rcases Nat.lt_or_ge s a.tmps.size with h | h
    · exact h
    · exfalso
      rw [Array.getD_eq_getD_getElem?, Array.getElem?_eq_none h] at hv
      simp [undef] at hv
  have h1 : a.tmps[s]? = some (.bool b) := by
    rw [Array.getD_eq_getD_getElem?, Array.getElem?_eq_getElem hlt] at hv
    rw [Array.getElem?_eq_getElem hlt]
    simpa using hv
  simp [yielded, hj, h1]

theorem CalmAt.wp {Q' : Exit → Act → World → Prop} {ops : Array Oper} {i : Nat} {o : Oper} {t : Nat} {d : D} {K : Act → World → Prop} (hs : Sim Γ st κ Θ a w) (hi : ops[i]? = some o) (h : CalmAt P Γ ops st o t d)
    (hK : ∀ κ' Θ' a' w', Sim Γ (st.set t d) κ' Θ' a' w' → K a' w') : wpOp P ops Q' i K a w := by
  obtain ⟨hd, ht, h⟩ := h
  rcases h with ⟨hg, hc⟩ | ⟨j, s, want, b, hg, hj, hb, hc⟩
  · exact wpOp_plain hi (by simp [Region.wanted, hg]) (hc.wp hs hd ht hK)
  · have hy := hs.yields hj hb
    rcases hc with ⟨rfl, hc⟩ | ⟨hne, rfl⟩
    · exact wpOp_plain hi (by simp [Region.wanted, hg, hy]) (hc.wp hs hd ht hK)
    · unfold wpOp
      have hw : Region.wanted o (yielded ops a.tmps) = false := by simp [Region.wanted, hg, hy, hne]
      simp only [hi, hw, Bool.false_eq_true, if_false, hd]
      exact hK _ _ _ _ (hs.set ht (.of (.any _)) (by simp))

theorem ev_congr {st st' : St} {ops : Array Oper} {o : Oper} (h : ∀ t ∈ o.looksAt ops, lk st.σ t = lk st'.σ t) : ∀ x ∈ o.op.operands.toList, st.ev x = st'.ev x := by
  intro x hx
  cases x with
  | tmp t =>
    refine h t ?_
    unfold Oper.looksAt
    exact List.mem_append.2 (.inl (List.mem_filterMap.2 ⟨.tmp t, hx, rfl⟩))
  | const v => rfl
  | global g => rfl
  | func f => rfl

theorem CalmOp.congr {st st' : St} {o : Oper} {d : D} (hH : st.H = st'.H) (he : ∀ x ∈ o.op.operands.toList, st.ev x = st'.ev x) (h : CalmOp P st o d) : CalmOp P st' o d := by
  rcases h with h | ⟨f, xs, ts, hop, hp, hgood, hps⟩
  · exact .inl (by rw [← pv_congr hH he]; exact h)
  · have hm : xs.toList.map st.ev = xs.toList.map st'.ev := by
      apply List.map_congr_left
      intro x hx
      refine he x ?_
      rw [hop]
      simp only [Op.operands, Call.operands, Array.toList_append, List.mem_append]
      exact .inr hx
    rw [hm] at hp hgood
    exact .inr ⟨f, xs, ts, hop, hp, hgood, hps⟩

theorem CalmAt.congr {st st' : St} {ops : Array Oper} {o : Oper} {t : Nat} {d : D} (hH : st.H = st'.H) (he : ∀ t ∈ o.looksAt ops, lk st.σ t = lk st'.σ t) (h : CalmAt P Γ ops st o t d) : CalmAt P Γ ops st' o t d := by
  obtain ⟨hd, ht, h⟩ := h
  refine ⟨hd, ht, ?_⟩
  have hev := ev_congr he
  rcases h with ⟨hg, hc⟩ | ⟨j, s, want, b, hg, hj, hb, hc⟩
  · exact .inl ⟨hg, hc.congr hH hev⟩
  · refine .inr ⟨j, s, want, b, hg, hj, ?_, ?_⟩
    · rw [← he s ?_]
      · exact hb
      · unfold Oper.looksAt
        refine List.mem_append.2 (.inr ?_)
        simp [hg, hj]
    · rcases hc with ⟨h1, hc⟩ | hc
      · exact .inl ⟨h1, hc.congr hH hev⟩
      · exact .inr hc

theorem ACalm.unfold {K : St → Prop} : ∀ (l : List Oper) (st : St), ACalm P Γ all K l st →
    ∃ ps : List (Nat × D), ps.length = l.length ∧ (∀ (i : Nat) o p, l[i]? = some o → ps[i]? = some p → CalmAt P Γ all ⟨(ps.take i).reverse ++ st.σ, st.H⟩ o p.1 p.2) ∧ K ⟨ps.reverse ++ st.σ, st.H⟩ := by
  intro l
  induction l with
  | nil => intro st h; exact ⟨[], rfl, by simp, h⟩
  | cons o l ih =>
    intro st h
    obtain ⟨t, d, hc, hr⟩ := h
    obtain ⟨ps, h1, h2, h3⟩ := ih _ hr
    refine ⟨(t, d) :: ps, by simp [h1], ?_, by simpa [St.set] using h3⟩
    intro i o' p ho hp
    cases i with
    | zero => simp at ho hp; subst ho; subst hp; simpa using hc
    | succ i =>
      simp at ho hp
      have := h2 i o' p ho hp
      simpa [St.set] using this

theorem lk_app (l : List (Nat × D)) (σ : List (Nat × D)) (t : Nat) : (∀ p ∈ l, p.1 ≠ t) → lk (l ++ σ) t = lk σ t := by
  induction l with
  | nil => intro _; rfl
  | cons q l ih =>
    intro h
    obtain ⟨u, d⟩ := q
    simp only [List.cons_append, lk]
    rw [if_neg (fun e => h (u, d) (by simp) e.symm)]
    exact ih (fun p hp => h p (by simp [hp]))

theorem lk_mem (l : List (Nat × D)) (σ : List (Nat × D)) (p : Nat × D) (hp : p ∈ l) (hd : ∀ q ∈ l, q.1 = p.1 → q = p) : lk (l ++ σ) p.1 = p.2 := by
  induction l with
  | nil => cases hp
  | cons q l ih =>
    obtain ⟨u, d⟩ := q
    simp only [List.cons_append, lk]
    by_cases e : p.1 = u
    · rw [if_pos e]
      have := hd (u, d) (by simp) e.symm
      rw [← this]
    · rw [if_neg e]
      rcases List.mem_cons.1 hp with rfl | hp
      · exact absurd rfl e
      · exact ih hp (fun q hq => hd q (by simp [hq]))

def drawB (ops : Array Oper) (n : Nat) : Bool :=
  decide (n < ops.size) && Region.sinkB .any ops n && Region.chainB .any ops n &&
  Region.seqB .any ops (ops.size - n) n (Array.replicate n true ++ Array.replicate (ops.size - n) false) &&
  (List.range n).all fun i => match ops[i]? with
    | none => false
    | some o => (o.after.all fun e => !Region.binds .any e || decide (e.on < i)) &&
      ((o.looksAt ops).all fun t => (List.range n).all fun j => match ops[j]? with | some oj => !(oj.dst == some t) || (decide (j < i) && Region.waitsFor .any ops i j) | none => true) &&
      (List.range n).all fun j => j == i || (match ops[j]? with | some oj => !(oj.dst == o.dst) | none => true)

theorem Sim.same {σ' : List (Nat × D)} (h : ∀ t, lk st.σ t = lk σ' t) (hs : Sim Γ st κ Θ a w) : Sim Γ ⟨σ', st.H⟩ κ Θ a w :=
  ⟨hs.defers, hs.size, hs.kout, hs.kone, fun t => by show ∃ bs, RdS w κ _ (lk σ' t) bs ∧ _; rw [← h t]; exact hs.slot t, hs.ob, hs.own, hs.old, hs.below⟩

theorem AW_draw {id : Nat} {l : List Oper} (n : Nat) (hm : P.follows .mixedOrders = true) (hB : drawB l.toArray n = true)
    (h : ACalm P Γ l.toArray (AO P Γ l.toArray (l.drop n) Q) (l.take n) st) : AW P Γ (.region id l.toArray true) Q st := by
  simp only [drawB, Bool.and_eq_true, decide_eq_true_eq] at hB
  obtain ⟨⟨⟨⟨hn, hsink⟩, hchain⟩, hseq⟩, hdeps⟩ := hB
  obtain ⟨ps, hlen, hcalm, hK⟩ := ACalm.unfold _ _ h
  have hnl : n < l.length := by simpa using hn
  have hpl : ps.length = n := by rw [hlen]; simp; omega
  have hop : ∀ (i : Nat), i < n → ∃ o p, l.toArray[i]? = some o ∧ ps[i]? = some p ∧ o.dst = some p.1 ∧ CalmAt P Γ l.toArray ⟨(ps.take i).reverse ++ st.σ, st.H⟩ o p.1 p.2 := by
    intro i hi
    have h1 : l[i]? = some l[i] := List.getElem?_eq_getElem (by omega)
    have h2 : ps[i]? = some ps[i] := List.getElem?_eq_getElem (by omega)
    have h3 := hcalm i l[i] ps[i] (by rw [List.getElem?_take, if_pos hi]; exact h1) h2
    exact ⟨l[i], ps[i], by simp [List.getElem?_toArray, h1], h2, h3.1, h3⟩
  have hdist : ∀ (i j : Nat) p q, ps[i]? = some p → ps[j]? = some q → p.1 = q.1 → i = j := by
    intro i j p q hp hq he
    have hi : i < n := by have := (List.getElem?_eq_some_iff.1 hp).1; omega
    have hj : j < n := by have := (List.getElem?_eq_some_iff.1 hq).1; omega
    obtain ⟨oi, p', ho, hp', hdi, _⟩ := hop i hi
    obtain ⟨oj, q', hoj, hq', hdj, _⟩ := hop j hj
    rw [hp] at hp'; cases hp'
    rw [hq] at hq'; cases hq'
    have := List.all_eq_true.1 hdeps i (List.mem_range.2 hi)
    simp only [ho, Bool.and_eq_true] at this
    have := List.all_eq_true.1 this.2 j (List.mem_range.2 hj)
    simp only [hoj, hdi, hdj, he, beq_self_eq_true, Bool.not_true, Bool.or_false, beq_iff_eq] at this
    exact this.symm
  have hpsmem : ∀ (i : Nat) p, ps[i]? = some p → ∀ q ∈ ps, q.1 = p.1 → q = p := by
    intro i p hp q hq he
    obtain ⟨j, hj, rfl⟩ := List.mem_iff_getElem.1 hq
    have hq' : ps[j]? = some ps[j] := List.getElem?_eq_getElem hj
    have := hdist j i _ p hq' hp he
    subst this
    rw [hp] at hq'; cases hq'; rfl
  intro κ Θ a w hs
  -- the walk in whatever order
  have main : ∀ (f : Nat) (listed : Array Bool) (σ' : List (Nat × D)) (κ : Nat → Option Value) (Θ : Nat → Nat) (a : Act) (w : World), HeadInv .any l.toArray n listed →
      ((List.range n).filter fun i => !listed.getD i false).length = f →
      (∀ (i : Nat) p, ps[i]? = some p → listed.getD i false = true → lk σ' p.1 = p.2) →
      (∀ t, (∀ (i : Nat) p, ps[i]? = some p → listed.getD i false = true → p.1 ≠ t) → lk σ' t = lk st.σ t) →
      Sim Γ ⟨σ', st.H⟩ κ Θ a w →
      wpAny P .any l.toArray (fun e a' w' => ∃ st' κ' Θ', Sim Γ st' κ' Θ' a' w' ∧ Q e st') (f + (l.toArray.size - n)) listed a w := by
    intro f
    induction f with
    | zero =>
      intro listed σ' κ Θ a w inv hcount hA hB hs
      have hall : ∀ i, i < n → listed.getD i false = true := by
        intro i hi
        have h0 := List.eq_nil_of_length_eq_zero hcount
        cases hl : listed.getD i false with
        | true => rfl
        | false =>
          have : i ∈ (List.range n).filter fun i => !listed.getD i false := List.mem_filter.2 ⟨List.mem_range.2 hi, by simp [hl]⟩
          rw [h0] at this; cases this
      have hlist : listed = Array.replicate n true ++ Array.replicate (l.toArray.size - n) false := by
        apply Array.ext
        · rw [inv.size]; simp; simp at hn; omega
        · intro i h1 h2
          by_cases hi : i < n
          · have := hall i hi
            rw [Array.getElem_append_left (by simpa using hi)]
            simp [h1] at this
            simp [this]
          · have hi' : i < l.toArray.size := by rw [← inv.size]; exact h1
            have := inv.tail i (by omega) hi'
            rw [Array.getElem_append_right (by simpa using hi)]
            simp [h1] at this
            simp [this]
      rw [Nat.zero_add]
      have hfin : ∀ t, lk σ' t = lk (ps.reverse ++ st.σ) t := by
        intro t
        by_cases hex : ∃ (i : Nat) (p : Nat × D), ps[i]? = some p ∧ p.1 = t
        · obtain ⟨i, p, hp, rfl⟩ := hex
          have hi : i < n := by have := (List.getElem?_eq_some_iff.1 hp).1; omega
          rw [hA i p hp (hall i hi), lk_mem ps.reverse st.σ p (by simpa using List.mem_of_getElem? hp) (fun q hq he => hpsmem i p hp q (by simpa using hq) he)]
        · rw [hB t (fun i p hp _ he => hex ⟨i, p, hp, he⟩), lk_app]
          intro p hp he
          obtain ⟨i, hi, hpi⟩ := List.mem_iff_getElem.1 (List.mem_reverse.1 hp)
          exact hex ⟨i, p, by rw [← hpi]; exact List.getElem?_eq_getElem hi, he⟩
      have hs2 := Sim.same (st := ⟨σ', st.H⟩) (σ' := ps.reverse ++ st.σ) hfin hs
      have hwp := hK κ Θ a w hs2
      have hdl : (l.drop n).length = l.toArray.size - n := by simp
      have := wpAny_of_seq (md := .any) (l.drop n) n listed a w (fun j => by simp [List.getElem?_drop]) (by rw [hdl, hlist]; exact hseq) hwp
      rwa [hdl] at this
    | succ f ih =>
      intro listed σ' κ Θ a w inv hcount hA hB hs
      have hun : ∃ i, i < n ∧ listed.getD i false = false := by
        have hne : ((List.range n).filter fun i => !listed.getD i false) ≠ [] := by
          intro h0; rw [h0] at hcount; simp at hcount
        obtain ⟨i, hi⟩ := List.exists_mem_of_ne_nil _ hne
        obtain ⟨h1, h2⟩ := List.mem_filter.1 hi
        exact ⟨i, List.mem_range.1 h1, by simpa using h2⟩
      have hsz := inv.size
      rw [show f + 1 + (l.toArray.size - n) = (f + (l.toArray.size - n)) + 1 from by omega]
      refine ⟨fun h0 => ?_, fun i hi => ?_⟩
      · exfalso
        -- the first that is not yet done is ready
        obtain ⟨i, ⟨hin, hil⟩, hmin⟩ := exists_least (p := fun i => i < n ∧ listed.getD i false = false) hun
        obtain ⟨o, p, ho, _, _, _⟩ := hop i hin
        have : i ∈ Region.ready .any l.toArray listed := by
          refine mem_ready.2 ⟨getD_in (by rw [hsz]; omega) hil, o, ho, fun e he hb => ?_⟩
          have := List.all_eq_true.1 hdeps i (List.mem_range.2 hin)
          simp only [ho, Bool.and_eq_true] at this
          have := Array.all_eq_true'.1 this.1.1 e he
          simp only [hb, Bool.not_true, Bool.false_or, decide_eq_true_eq] at this
          cases hl : listed.getD e.on false with
          | true => rfl
          | false =>
            have := hmin e.on ⟨by omega, hl⟩
            omega
        rw [h0] at this; cases this
      · obtain ⟨i0, hi0, hl0⟩ := hun
        have hin : i < n := by
          rcases Nat.lt_or_ge i n with h | h
          · exact h
          · exact absurd hi (tail_waits hsink hchain hn inv _ i0 rfl hi0 (getD_in (by rw [hsz]; omega) hl0) i h)
        obtain ⟨o, p, ho, hp, hd, hc⟩ := hop i hin
        obtain ⟨hil, o', ho', hall⟩ := mem_ready.1 hi
        rw [ho] at ho'; cases ho'
        have hilf := getD_both hil
        have hc' : CalmAt P Γ l.toArray ⟨σ', st.H⟩ o p.1 p.2 := by
          refine CalmAt.congr (st := ⟨(ps.take i).reverse ++ st.σ, st.H⟩) (st' := ⟨σ', st.H⟩) rfl ?_ hc
          intro t ht
          show lk ((ps.take i).reverse ++ st.σ) t = lk σ' t
          have hdep := List.all_eq_true.1 hdeps i (List.mem_range.2 hin)
          simp only [ho, Bool.and_eq_true] at hdep
          have hdep := List.all_eq_true.1 hdep.1.2 t ht
          by_cases hex : ∃ (j : Nat) (q : Nat × D), ps[j]? = some q ∧ q.1 = t
          · obtain ⟨j, q, hq, rfl⟩ := hex
            have hj : j < n := by have := (List.getElem?_eq_some_iff.1 hq).1; omega
            obtain ⟨oj, q', hoj, hq', hdj, _⟩ := hop j hj
            rw [hq] at hq'; cases hq'
            have := List.all_eq_true.1 hdep j (List.mem_range.2 hj)
            simp only [hoj, hdj, beq_self_eq_true, Bool.not_true, Bool.false_or, Bool.and_eq_true, decide_eq_true_eq] at this
            obtain ⟨hji, hwait⟩ := this
            obtain ⟨oi', hoi', e, he, hb, hon⟩ := Region.waitsFor_spec hwait
            rw [ho] at hoi'; cases hoi'
            have hjl := hall e he hb
            rw [hon] at hjl
            rw [hA j q hq hjl]
            refine lk_mem (ps.take i).reverse st.σ q ?_ (fun q2 hq2 he2 => hpsmem j q hq q2 (List.mem_of_mem_take (List.mem_reverse.1 hq2)) he2)
            rw [List.mem_reverse]
            exact List.mem_of_getElem? (i := j) (by rw [List.getElem?_take, if_pos hji]; exact hq)
          · rw [hB t (fun j q hq _ he => hex ⟨j, q, hq, he⟩), lk_app]
            intro q hq he
            obtain ⟨j, hj, hqj⟩ := List.mem_iff_getElem.1 (List.mem_of_mem_take (List.mem_reverse.1 hq))
            exact hex ⟨j, q, by rw [← hqj]; exact List.getElem?_eq_getElem hj, he⟩
        refine hc'.wp hs ho fun κ' Θ' a' w' hs' => ?_
        have hset : ∀ (j : Nat), (listed.setIfInBounds i true).getD j false = true ↔ (j = i ∨ listed.getD j false = true) := by
          intro j
          by_cases e : i = j
          · subst e
            have : i < listed.size := by rw [hsz]; omega
            simp [this]
          · rw [getD_set_ne false e]
            constructor
            · exact .inr
            · rintro (rfl | h)
              · exact absurd rfl e
              · exact h
        refine ih (listed.setIfInBounds i true) ((p.1, p.2) :: σ') κ' Θ' a' w' (inv.set hi hin) ?_ ?_ ?_ hs'
        · have hcnt : ((List.range n).filter fun j => !(listed.setIfInBounds i true).getD j false) = ((List.range n).filter fun j => !listed.getD j false).erase i := by
            have hnd : ((List.range n).filter fun j => !listed.getD j false).Nodup := List.Pairwise.filter _ List.nodup_range
            rw [hnd.erase_eq_filter, List.filter_filter]
            apply List.filter_congr
            intro j _
            by_cases e : j = i
            · subst e
              have := (hset j).2 (.inl rfl)
              rw [this]; simp
            · rw [getD_set_ne false (Ne.symm e)]
              simp [e]
          rw [hcnt, List.length_erase_of_mem (List.mem_filter.2 ⟨List.mem_range.2 hin, by simp [hilf]⟩), hcount]
          rfl
        · intro j q hq hl
          simp only [lk]
          rcases (hset j).1 hl with rfl | hl2
          · rw [hp] at hq; cases hq; rw [if_pos rfl]
          · rw [if_neg, hA j q hq hl2]
            intro e
            have := hdist j i q p hq hp e
            subst this
            rw [hilf] at hl2; cases hl2
        · intro t ht
          simp only [lk]
          rw [if_neg (fun e => ht i p hp ((hset i).2 (.inl rfl)) e.symm)]
          exact hB t (fun j q hq hl => ht j q hq ((hset j).2 (.inr hl)))
  refine wp_region_any hm ?_
  have inv0 : HeadInv .any l.toArray n (Array.replicate l.toArray.size false) :=
    ⟨by simp, fun j oj _ hl => (by rw [getD_replicate_false] at hl; cases hl), fun t _ ht => getD_in (by simpa using ht) (getD_replicate_false _ _)⟩
  have hcount : ((List.range n).filter fun i => !(Array.replicate l.toArray.size false).getD i false).length = n := by
    rw [List.filter_eq_self.2]
    · simp
    · intro i _; rw [getD_replicate_false]; rfl
  have := main n (Array.replicate l.toArray.size false) st.σ κ Θ a w.drew inv0 hcount (fun i p _ hl => by rw [getD_replicate_false] at hl; cases hl) (fun t _ => rfl) hs.drew
  rw [show n + (l.toArray.size - n) = l.toArray.size from by omega] at this
  exact this

end
end Go.Bx
