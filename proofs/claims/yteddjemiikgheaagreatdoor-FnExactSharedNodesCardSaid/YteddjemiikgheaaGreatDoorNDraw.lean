/- Regions whose order is drawn: where each operation of the head only computes or calls a function that leaves what was there as it was, every order gives the state of the text's order. No condition; plain lemmas. -/
import Derived.Test.YteddjemiikgheaaGreatDoorNCall
import Derived.StillTail
namespace Go.Cx
set_option linter.unusedVariables false
set_option linter.unusedSimpArgs false
open Go.RowKit

section
variable {P : Program} {Γ : Ctx} {Q : Exit → St → Prop} {st : St} {κ : Nat → Option Value} {Θ : Nat → Nat} {a : Act} {w : World} {all : Array Oper}

/-- the objects of the first list are those of the second -/
def Ext (H H' : List Ob) : Prop := ∀ (i : Nat) o, H[i]? = some o → H'[i]? = some o

theorem ev_H (σ : List (Nat × D)) (H H' : List Ob) (x : Operand) : St.ev ⟨σ, H⟩ x = St.ev ⟨σ, H'⟩ x := by cases x <;> rfl

theorem pv_mono {σ σ' : List (Nat × D)} {H H' : List Ob} {op : Op} {d : D} (hx : Ext H H') (he : ∀ x ∈ op.operands.toList, St.ev ⟨σ, H⟩ x = St.ev ⟨σ', H'⟩ x) (h : pv P ⟨σ, H⟩ op = some d) : pv P ⟨σ', H'⟩ op = some d := by
  have hm : ∀ (o : Option Operand), (∀ x ∈ o.toArray.toList, St.ev ⟨σ, H⟩ x = St.ev ⟨σ', H'⟩ x) → o.map (St.ev ⟨σ, H⟩) = o.map (St.ev ⟨σ', H'⟩) := by
    intro o h
    cases o with
    | none => rfl
    | some x => simp [h x (by simp)]
  cases op <;> simp only [pv] at h ⊢ <;> (try cases h)
  case move x => rw [he x (by simp [Op.operands])] at *
  case assign x => rw [he x (by simp [Op.operands])] at *
  case nilCheck x => rw [he x (by simp [Op.operands])] at h; exact h
  case pick c x y => rw [he c (by simp [Op.operands]), he x (by simp [Op.operands]), he y (by simp [Op.operands])] at h; exact h
  case binOp op t x y t' => rw [he x (by simp [Op.operands]), he y (by simp [Op.operands])] at h; exact h
  case unOp op t x => cases op <;> simp only [pv] at h ⊢ <;> (try cases h) <;> (rw [he x (by simp [Op.operands])] at h; exact h)
  case convert s d x => rw [he x (by simp [Op.operands])] at h; exact h
  case field t x f => rw [he x (by simp [Op.operands])] at h; exact h
  case fieldAddr t x f => rw [he x (by simp [Op.operands])] at h; exact h
  case indexAddr t x i =>
    rw [he x (by simp [Op.operands]), he i (by simp [Op.operands])] at h
    split at h
    · rename_i e sz rows kk n h1 h2 h3
      (try simp only [h1, h2, h3]); exact h
    · rename_i e sz id kk n h1 h2 h3
      (try simp only [h1, h2, h3])
      split at h
      · rename_i k e' sz' rows hH
        simp only [hx id _ hH]; exact h
      · cases h
    · rename_i g o' kk n h1 h2
      (try simp only [h1, h2])
      generalize tel P t = q at h ⊢
      cases q <;> exact h
    · cases h
  case load t x =>
    rw [he x (by simp [Op.operands])] at h
    split at h
    · rename_i ag row off h1 h2
      (try simp only [h1, h2]); exact h
    · rename_i ag id off h1 h2
      (try simp only [h1, h2])
      split at h
      · rename_i cells hH
        obtain ⟨ob, hH, hob⟩ := Option.bind_eq_some_iff.1 hH
        simp only [hx id _ hH, Option.bind_some, hob]; exact h
      · cases h
    · rename_i ag id i sz off h1 h2
      (try simp only [h1, h2])
      split at h
      · rename_i k e' sz' rows hH
        simp only [hx id _ hH]; exact h
      · cases h
    · rename_i ag g o' h1 h2
      (try simp only [h1, h2]); exact h
    · cases h
  case lookup T x i ok =>
    rw [he x (by simp [Op.operands]), he i (by simp [Op.operands])] at h
    split at h
    · rename_i id h1
      (try simp only [h1])
      split at h
      · rename_i kv hH
        simp only [hx id _ hH]; exact h
      · cases h
    · cases h
  case extract x i => rw [he x (by simp [Op.operands])] at h; exact h
  case index t x i => rw [he x (by simp [Op.operands]), he i (by simp [Op.operands])] at h; exact h
  case slice t x lo hi mx =>
    cases mx with
    | none =>
      simp only [pv] at h ⊢
      rw [he x (by simp [Op.operands]), hm lo (fun y hy => he y (by simp only [Op.operands, Array.toList_append, List.mem_append]; exact .inl (.inl (.inr hy)))),
        hm hi (fun y hy => he y (by simp only [Op.operands, Array.toList_append, List.mem_append]; exact .inl (.inr hy)))] at h
      exact h
    | some m => simp only [pv] at h; cases h
  case build t parts =>
    have : (parts.toList.map fun p => (p.1, St.ev ⟨σ, H⟩ p.2)) = parts.toList.map fun p => (p.1, St.ev ⟨σ', H'⟩ p.2) := by
      apply List.map_congr_left
      intro p hp
      rw [he p.2 (by simp only [Op.operands]; simp; exact ⟨p.1, by simpa using hp⟩)]
    rw [this] at h; exact h
  case call c =>
    split at h
    · rename_i x t h1 h2 h3
      have hxm : x ∈ (Op.call c).operands.toList := by
        simp only [Op.operands, Call.operands, Array.toList_append, List.mem_append, h2]
        exact .inr (by simp)
      (try simp only [h1, h2, h3])
      unfold plen at h ⊢
      rw [he x hxm] at h
      split at h
      · rename_i s hs; (try simp only [hs]); exact h
      · rename_i rows hs; (try simp only [hs]); exact h
      · rename_i hs; (try simp only [hs]); exact h
      · rename_i id hs
        (try simp only [hs])
        split at h
        · rename_i kk k e sz rows h4 h5
          simp only [h4, hx id _ h5]; exact h
        · cases h
      · cases h
    · rename_i x y t t' h1 h2 h3
      have hxm : x ∈ (Op.call c).operands.toList := by
        simp only [Op.operands, Call.operands, Array.toList_append, List.mem_append, h2]
        exact .inr (by simp)
      have hym : y ∈ (Op.call c).operands.toList := by
        simp only [Op.operands, Call.operands, Array.toList_append, List.mem_append, h2]
        exact .inr (by simp)
      (try simp only [h1, h2, h3])
      rw [he x hxm, he y hym] at h
      exact h
    · cases h

theorem vwC_mono {H H' : List Ob} (hx : Ext H H') {d e : D} {ms : List Nat} (h : vwC H d = some (e, ms)) : vwC H' d = some (e, ms) := by
  cases d <;> simp only [vwC] at h ⊢ <;> (try exact h)
  split at h
  · rename_i k e' sz rows hH; simp only [hx _ _ hH]; exact h
  · rename_i sz rows u hH; simp only [hx _ _ hH]; exact h
  · rename_i rows hH; simp only [hx _ _ hH]; exact h
  · cases h
theorem vwCs_mono {H H' : List Ob} (hx : Ext H H') : ∀ {ds es : List D} {ms : List Nat}, vwCs H ds = some (es, ms) → vwCs H' ds = some (es, ms) := by
  intro ds
  induction ds with
  | nil => intro es ms h; exact h
  | cons d ds ih =>
    intro es ms h
    simp only [vwCs] at h ⊢
    split at h
    · rename_i e m es' ms' h1 h2
      rw [vwC_mono hx h1, ih h2]; exact h
    · cases h
theorem vwV_mono {H H' : List Ob} (hx : Ext H H') {d e : D} {ms : List Nat} (h : vwV H d = some (e, ms)) : vwV H' d = some (e, ms) := by
  by_cases hagg : ∃ ds, d = .agg ds
  · obtain ⟨ds, rfl⟩ := hagg
    simp only [vwV] at h ⊢
    split at h
    · rename_i es ms' h1; rw [vwCs_mono hx h1]; exact h
    · cases h
  · by_cases ht : ∃ vs, d = .tup vs
    · obtain ⟨vs, rfl⟩ := ht; simp [vwV] at h
    · have e1 : ∀ H, vwV H d = vwC H d := by intro H; cases d <;> first | rfl | exact absurd ⟨_, rfl⟩ hagg | exact absurd ⟨_, rfl⟩ ht
      rw [e1] at h ⊢
      exact vwC_mono hx h
theorem vwVs_mono {H H' : List Ob} (hx : Ext H H') : ∀ {ds es : List D} {ms : List Nat}, vwVs H ds = some (es, ms) → vwVs H' ds = some (es, ms) := by
  intro ds
  induction ds with
  | nil => intro es ms h; exact h
  | cons d ds ih =>
    intro es ms h
    simp only [vwVs] at h ⊢
    split at h
    · rename_i e m es' ms' h1 h2
      rw [vwV_mono hx h1, ih h2]; exact h
    · cases h

/-- what one operation of the head gives: a value for its slot, and objects; a late store: the box that it fills -/
structure Cp where
  t : Option Nat
  d : D
  r : Nat
  obs : List Ob
  up : Option (Nat × Ob)

/-- what arguments show: own objects looked into, or as they are where no name occurs -/
def Looks (H : List Ob) (vs ds : List D) (ms : List Nat) : Prop := vwVs H vs = some (ds, ms) ∨ (vs.all keepV = true ∧ ds = vs ∧ ms = [])
def CalmOp (P : Program) (H : List Ob) (σ : List (Nat × D)) (o : Oper) (p : Cp) : Prop :=
  (pv P ⟨σ, H⟩ o.op = some p.d ∧ p.obs = []) ∨ ∃ (f : FuncId) (xs : Array Operand) (ts : Array TypeId) (ds : List D) (ms : List Nat) (d : D), o.op = .call { callee := .value (.func f), args := xs, argTypes := ts } ∧
    Looks H (xs.toList.map (St.ev ⟨σ, H⟩)) ds ms ∧ (ms = [] ∨ d.ownS = true) ∧ Good P f ds d ∧ (instS p.r d = (p.d, p.obs) ∨ (d.ownT = true ∧ p.d = d.shV ∧ p.obs = []))
def CalmBox (P : Program) (H : List Ob) (σ : List (Nat × D)) (o : Oper) (p : Cp) : Prop :=
  (∃ T zs, o.op = .alloc T ∧ tz P T = some zs ∧ p.d = .ptr p.r 0 ∧ p.obs = [.box zs]) ∨ ∃ T x ds, o.op = .box T x ∧ (St.ev ⟨σ, H⟩ x).cellsOf = some ds ∧ p.d = .ptr p.r 0 ∧ p.obs = [.box ds]
def CalmRow (P : Program) (H : List Ob) (σ : List (Nat × D)) (o : Oper) (p : Cp) : Prop :=
  ∃ T e sz len parts zs ds es, o.op = .buildSlice T len parts ∧ tel P T = some (e, sz) ∧ tz P e = some zs ∧ 0 < sz ∧ len * sz ≤ 16777216 ∧
    pfill (rowPlaces len sz) (List.replicate len zs).flatten (parts.toList.map fun q => (q.1, St.ev ⟨σ, H⟩ q.2)) = some ds ∧ absL H ds = some (es, []) ∧ p.d = .acc p.r ∧ p.obs = [.row (rkOf (ds.all (uqC H))) e sz (chunk sz len es)]
/-- a slice of plain values that is only looked into -/
def CalmLit (P : Program) (H : List Ob) (σ : List (Nat × D)) (o : Oper) (p : Cp) : Prop :=
  ∃ T e sz len parts zs ds, o.op = .buildSlice T len parts ∧ tel P T = some (e, sz) ∧ tz P e = some zs ∧ 0 < sz ∧ len * sz ≤ 16777216 ∧
    pfill (rowPlaces len sz) (List.replicate len zs).flatten (parts.toList.map fun q => (q.1, St.ev ⟨σ, H⟩ q.2)) = some ds ∧ ds.all D.isP = true ∧ ds.all D.flat = true ∧ p.d = .sl (chunk sz len ds) ∧ p.obs = []
def CalmO (P : Program) (H : List Ob) (σ : List (Nat × D)) (o : Oper) (p : Cp) : Prop := CalmOp P H σ o p ∨ CalmBox P H σ o p ∨ CalmRow P H σ o p ∨ CalmLit P H σ o p

/-- an operation with a slot -/
def CalmV (P : Program) (Γ : Ctx) (all : Array Oper) (H : List Ob) (σ : List (Nat × D)) (o : Oper) (p : Cp) : Prop :=
  ∃ t, p.t = some t ∧ p.up = none ∧ o.dst = some t ∧ t < Γ.nt ∧ ((o.guard = none ∧ CalmO P H σ o p) ∨
    (∃ (j s : Nat) (want b : Bool), o.guard = some (j, want) ∧ (all[j]?).bind (·.dst) = some s ∧ lk σ s = .bool b ∧ ((b = want ∧ CalmO P H σ o p) ∨ (b ≠ want ∧ p.d = .tup [] ∧ p.obs = []))) ∨
    ∃ (j s : Nat) (want : Bool), o.guard = some (j, want) ∧ (all[j]?).bind (·.dst) = some s ∧ lk σ s = .tup [] ∧ p.d = .tup [] ∧ p.obs = [])
/-- a late store: it fills a box that was made in the head -/
def CalmS (P : Program) (H : List Ob) (σ : List (Nat × D)) (o : Oper) (p : Cp) : Prop :=
  p.t = none ∧ p.obs = [] ∧ o.dst = none ∧ o.guard = none ∧ ∃ T x y id ds, o.op = .store T x y ∧ St.ev ⟨σ, H⟩ x = .ptr id 0 ∧ H.length ≤ id ∧ (St.ev ⟨σ, H⟩ y).cellsOf = some ds ∧ tinf P T = true ∧ ds.length = tsz P T ∧ p.up = some (id, .box ds)
def CalmAt (P : Program) (Γ : Ctx) (all : Array Oper) (H : List Ob) (σ : List (Nat × D)) (o : Oper) (p : Cp) : Prop := CalmV P Γ all H σ o p ∨ CalmS P H σ o p

def Cp.slot (p : Cp) (σ : List (Nat × D)) : List (Nat × D) := match p.t with | some t => (t, p.d) :: σ | none => σ
/-- the head's objects behind an operation; n: how many there were ahead of the head -/
def Cp.fill (n : Nat) (p : Cp) (acc : List Ob) : List Ob := match p.up with | some (id, ob) => acc.set (id - n) ob | none => acc ++ p.obs
/-- the box that a late store fills is there, of its size, and not filled yet -/
def Cp.upOk (n : Nat) (p : Cp) (U : List Nat) (acc : List Ob) : Prop := match p.up with | some (id, ob) => id ∉ U ∧ n ≤ id ∧ ∃ zs ds, acc[id - n]? = some (.box zs) ∧ ob = .box ds ∧ zs.length = ds.length | none => True
def Cp.ups (p : Cp) (U : List Nat) : List Nat := match p.up with | some (id, _) => id :: U | none => U

def ACalm (P : Program) (Γ : Ctx) (all : Array Oper) (H : List Ob) (K : List (Nat × D) → List Ob → Prop) : List Oper → List (Nat × D) → List Ob → List Nat → Prop
  | [], σ, acc, _ => K σ acc
  | o :: os, σ, acc, U => ∃ p : Cp, p.r = H.length + acc.length ∧ CalmAt P Γ all H σ o p ∧ p.upOk H.length U acc ∧ ACalm P Γ all H K os (p.slot σ) (p.fill H.length acc) (p.ups U)

theorem wpOp_plain {Q' : Exit → Act → World → Prop} {ops : Array Oper} {i : Nat} {o : Oper} {K : Act → World → Prop} (hi : ops[i]? = some o) (hw : Region.wanted o (yielded ops a.tmps) = true) (h : o.wp P a w K Q') : wpOp P ops Q' i K a w := by
  unfold wpOp
  simp only [hi, hw, if_true]
  exact .inl h

theorem Sim.yields (hs : Sim Γ st κ Θ a w) {ops : Array Oper} {j s : Nat} {b : Bool} (hj : (ops[j]?).bind (·.dst) = some s) (hb : lk st.σ s = .bool b) : yielded ops a.tmps j = some b := by
  obtain ⟨bs, r, _⟩ := hs.slot s
  rw [hb] at r
  have hv := r.bool_inv
  have hlt : s < a.tmps.size := by
    rcases Nat.lt_or_ge s a.tmps.size with h | h
    · exact h
    · exfalso
      rw [Array.getD_eq_getD_getElem?, Array.getElem?_eq_none h] at hv
      simp [undef] at hv
  have h1 : a.tmps[s]? = some (.bool b) := by
    rw [Array.getD_eq_getD_getElem?, Array.getElem?_eq_getElem hlt] at hv
    rw [Array.getElem?_eq_getElem hlt]
    simpa using hv
  simp [yielded, hj, h1]

theorem ev_congr {st st' : St} {ops : Array Oper} {o : Oper} (h : ∀ t ∈ o.looksAt ops, lk st.σ t = lk st'.σ t) : ∀ x ∈ o.op.operands.toList, st.ev x = st'.ev x := by
  intro x hx
  cases x with
  | tmp t =>
    refine h t ?_
    unfold Oper.looksAt
    exact List.mem_append.2 (.inl (List.mem_filterMap.2 ⟨.tmp t, hx, rfl⟩))
  | const v => rfl
  | global g => rfl
  | func f => rfl

theorem lk_app (l : List (Nat × D)) (σ : List (Nat × D)) (t : Nat) : (∀ p ∈ l, p.1 ≠ t) → lk (l ++ σ) t = lk σ t := by
  induction l with
  | nil => intro _; rfl
  | cons q l ih =>
    intro h
    obtain ⟨u, d⟩ := q
    simp only [List.cons_append, lk]
    rw [if_neg (fun e => h (u, d) (by simp) e.symm)]
    exact ih (fun p hp => h p (by simp [hp]))

theorem lk_mem (l : List (Nat × D)) (σ : List (Nat × D)) (p : Nat × D) (hp : p ∈ l) (hd : ∀ q ∈ l, q.1 = p.1 → q = p) : lk (l ++ σ) p.1 = p.2 := by
  induction l with
  | nil => cases hp
  | cons q l ih =>
    obtain ⟨u, d⟩ := q
    simp only [List.cons_append, lk]
    by_cases e : p.1 = u
    · rw [if_pos e]
      have := hd (u, d) (by simp) e.symm
      rw [← this]
    · rw [if_neg e]
      rcases List.mem_cons.1 hp with rfl | hp
      · exact absurd rfl e
      · exact ih hp (fun q hq => hd q (by simp [hq]))

def drawB (ops : Array Oper) (n : Nat) : Bool :=
  decide (n ≤ ops.size) && (decide (n = ops.size) || (decide (n < ops.size) && (Region.sinkB .any ops n && Region.chainB .any ops n))) &&
  Region.seqB .any ops (ops.size - n) n (Array.replicate n true ++ Array.replicate (ops.size - n) false) &&
  (List.range n).all fun i => match ops[i]? with
    | none => false
    | some o => (o.after.all fun e => !Region.binds .any e || decide (e.on < i)) &&
      ((o.looksAt ops).all fun t => (List.range n).all fun j => match ops[j]? with | some oj => !(oj.dst == some t) || (decide (j < i) && Region.waitsFor .any ops i j) | none => true) &&
      (List.range n).all fun j => j == i || (match ops[j]? with | some oj => !(oj.dst == o.dst) || o.dst.isNone | none => true)


/-- the list with other objects from place r on -/
def place (H : List Ob) (r : Nat) (obs : List Ob) : List Ob := H.take r ++ (obs ++ H.drop (r + obs.length))

theorem place_get {H : List Ob} {r : Nat} {obs : List Ob} (h : r + obs.length ≤ H.length) (j : Nat) : (place H r obs)[j]? = if j < r then H[j]? else if j < r + obs.length then obs[j - r]? else H[j]? := by
  unfold place
  have hl : (H.take r).length = r := by rw [List.length_take]; omega
  by_cases h1 : j < r
  · rw [if_pos h1, List.getElem?_append_left (by omega), List.getElem?_take, if_pos h1]
  · rw [if_neg h1, List.getElem?_append_right (by omega), hl]
    by_cases h2 : j < r + obs.length
    · rw [if_pos h2, List.getElem?_append_left (by omega)]
    · rw [if_neg h2, List.getElem?_append_right (by omega), List.getElem?_drop]
      congr 1; omega
theorem place_length {H : List Ob} {r : Nat} {obs : List Ob} (h : r + obs.length ≤ H.length) : (place H r obs).length = H.length := by
  unfold place; simp; omega

theorem CalmOp.wp {Q' : Exit → Act → World → Prop} {σ : List (Nat × D)} {H H' : List Ob} {o : Oper} {p : Cp} {K : Act → World → Prop} (hs : Sim Γ ⟨σ, H'⟩ κ Θ a w) (hx : Ext H H') {t : Nat} (hd : o.dst = some t) (ht : t < Γ.nt) (h : CalmOp P H σ o p)
    (hr : p.r + p.obs.length ≤ H'.length) (hfree : ∀ i, i < p.obs.length → κ (p.r + i) = none)
    (hK : ∀ κ' Θ' a' w', Sim Γ ⟨(t, p.d) :: σ, place H' p.r p.obs⟩ κ' Θ' a' w' → (∀ j, (j < p.r ∨ p.r + p.obs.length ≤ j) → κ' j = κ j) → K a' w') : o.wp P a w K Q' := by
  rcases h with ⟨h, hno⟩ | ⟨f, xs, ts, ds, ms, d, hop, hds, hsh, hgood, hi⟩
  · have h' := pv_mono (σ := σ) (σ' := σ) hx (fun x _ => ev_H σ H H' x) h
    obtain ⟨v, bs, hrun, hrd, hz⟩ := pv_gives hs h'
    unfold Oper.wp
    rw [hrun, Oper.upon_value, hd]
    have hp : place H' p.r p.obs = H' := by rw [hno]; simp [place]
    exact hK κ Θ _ _ (by rw [hp]; exact hs.set ht hrd hz) (fun _ _ => rfl)
  · have hev : xs.toList.map (St.ev ⟨σ, H⟩) = xs.toList.map (St.ev ⟨σ, H'⟩) := List.map_congr_left (fun x _ => ev_H σ H H' x)
    have hargs0 : ∃ bs, Rda w (xs.toList.map a.eval) ds bs ∧ ∀ b ∈ bs, Seen Θ ms b := by
      rcases hds with hds | ⟨hk, rfl, rfl⟩
      · have := vwVs_mono hx hds
        rw [hev] at this
        exact vwVs_rd hs this
      · rw [hev] at hk ⊢
        exact keepVs_rd hs hk
    obtain ⟨bs, hargs, hz⟩ := hargs0
    let Θc : Nat → Nat := fun b => if Θ b = 0 ∨ ms.any (fun m => Θ b == m + 2) then 0 else 1
    have hseen : ∀ b, Seen Θ ms b → Θc b = 0 := by
      intro b h
      simp only [Θc]
      rw [if_pos]
      rcases h with h | ⟨m, h1, h2⟩
      · exact .inl h
      · exact .inr (List.any_eq_true.2 ⟨m, h1, by simp [h2]⟩)
    have hc := hgood.2 w Θc _ bs hs.vok hargs (fun b hb => hseen b (hz b hb)) (fun b hb => hs.own b (fun e => hb (hseen b (.inl e)))) (fun b => by simp only [Θc]; split <;> omega)
    unfold Oper.wp
    rw [run_call hop hgood.1, Oper.upon_enter]
    have e : xs.map a.eval = (xs.toList.map a.eval).toArray := by rw [← Array.toList_map, Array.toArray_toList]
    rw [e]
    refine hc.mono ?_
    rintro e w' ⟨v, bs', tb, ub, rfl, hb, hr', hz', htb, hnd, hfr, hsub⟩
    show K (a.put o.dst v) w'
    rw [hd]
    rcases hi with hi | ⟨hown, hpd, hpo⟩
    rotate_left
    · cases hr' with
      | tup => cases hown
      | v hv =>
        have hbs : bs' = [] := hv.own (by
          unfold D.ownT at hown
          split at hown
          · cases hown
          · exact hown)
        obtain ⟨b, q, s⟩ := hv.shownIn
        have hp : place H' p.r p.obs = H' := by rw [hpo]; simp [place]
        refine hK κ Θ _ w' ?_ (fun _ _ => rfl)
        rw [hp, hpd]
        refine (hs.grow hb).set ht (.v (.cell (.pure q))) fun x hx' => ?_
        rcases s x hx' with h | h
        · rw [hbs] at h; cases h
        · by_cases h0 : Θ x = 0
          · exact h0
          · have := hs.own x h0; have := (hfr x h).1; omega
    obtain ⟨L, q1, q2, q3, q4, q5⟩ := hr'.inst p.r
    rw [hi] at q1 q5
    simp only at q1 q5
    have hLl : L.length = p.obs.length := by have := congrArg List.length q1; simpa using this
    obtain ⟨κ', Θ', hs', hnm, _, hno, hsame⟩ := hs.installAt hb L q2 (q3 ▸ hnd) (fun b hb' => hfr b (q3 ▸ hb')) p.r (place H' p.r p.obs) (fun i hi' => hfree i (by omega)) (by rw [place_length hr]; exact Nat.le_refl _) (by rw [place_length hr]; omega) (by
      intro j y hj
      rw [place_get hr] at hj
      split at hj
      · rename_i h1; exact .inr ⟨.inl h1, .inr hj⟩
      · rename_i h1
        split at hj
        · rename_i h2
          rw [← q1, List.getElem?_map] at hj
          cases hx' : L[j - p.r]? with
          | none => simp [hx'] at hj
          | some x => simp [hx'] at hj; exact .inl ⟨j - p.r, x, by omega, hx', hj.symm⟩
        · exact .inr ⟨.inr (by omega), .inr hj⟩)
    refine hK κ' Θ' _ w' (hs'.set (t := t) ht (q5 κ' hnm) fun b hb' => ?_) (fun j hj => hsame j (by omega))
    rw [hno b (q4 ▸ htb b hb')]
    rcases hsh with hms | hown
    · by_cases hlt : b < w.heap.size
      · have h0 := hz' b hb' hlt
        simp only [Θc, hms, List.any_nil] at h0
        by_cases h1 : Θ b = 0
        · exact h1
        · simp [h1] at h0
      · by_cases h0 : Θ b = 0
        · exact h0
        · exact absurd (hs.own b h0) hlt
    · rw [hr'.own hown] at hb'; cases hb'

theorem Sim.newBoxAt {σ : List (Nat × D)} {H' : List Ob} (hs : Sim Γ ⟨σ, H'⟩ κ Θ a w) {r : Nat} (hr : r + 1 ≤ H'.length) (hfree : κ r = none) {cs : Array Value} {ds : List D} {bs : List Nat} (T : TypeId) (hrd : RdCs w κ cs.toList ds bs) (hz : ∀ b ∈ bs, Θ b = 0) :
    Sim Γ ⟨σ, place H' r [.box ds]⟩ (upd κ r (some (.pointer (some ⟨w.heap.size, 0, none⟩)))) (fun b => if b = w.heap.size then r + 2 else Θ b) a (w.alloc (.cells cs T)) := by
  have k := Keeps.alloc hs (.cells cs T) (tag := r + 2) (by omega)
  have hn := upd_old hfree (some (Value.pointer (some ⟨w.heap.size, 0, none⟩)))
  obtain ⟨h1, h2⟩ := RdCs.stay k hn hrd hz
  obtain ⟨ρ, hu⟩ := hs.uniq
  refine hs.put (id := r) (o := .box ds) [] ?_ hn ?_ ?_ k (hs.keepsMine (fun b hb => by by_cases e : b = w.heap.size <;> simp_all)) ?_ hu (by simp) (by intro e sz rows h; cases h)
  · intro j y hj
    rw [place_get (by simpa using hr)] at hj
    split at hj
    · exact .inr ⟨by omega, hj⟩
    · split at hj
      · rename_i h2
        simp only [List.length_cons, List.length_nil] at h2
        have e : j = r := by omega
        subst e
        simp at hj
        exact .inl ⟨rfl, hj.symm⟩
      · rename_i h2
        simp only [List.length_cons, List.length_nil] at h2
        exact .inr ⟨by omega, hj⟩
  · intro i hi
    rw [place_length (by simpa using hr)] at hi
    unfold upd
    rw [if_neg (by omega)]
    exact hs.kout i hi
  · intro i x hx
    unfold upd at hx
    split at hx
    · cases hx; rfl
    · exact hs.kone i x hx
  · exact ⟨w.heap.size, cs, T, by simp [upd], heap_alloc_new w _, by simp, bs, h1, h2⟩

theorem CalmBox.wp {Q' : Exit → Act → World → Prop} {σ : List (Nat × D)} {H H' : List Ob} {o : Oper} {p : Cp} {K : Act → World → Prop} (hs : Sim Γ ⟨σ, H'⟩ κ Θ a w) {t : Nat} (hd : o.dst = some t) (ht : t < Γ.nt) (h : CalmBox P H σ o p)
    (hr : p.r + p.obs.length ≤ H'.length) (hfree : ∀ i, i < p.obs.length → κ (p.r + i) = none)
    (hK : ∀ κ' Θ' a' w', Sim Γ ⟨(t, p.d) :: σ, place H' p.r p.obs⟩ κ' Θ' a' w' → (∀ j, (j < p.r ∨ p.r + p.obs.length ≤ j) → κ' j = κ j) → K a' w') : o.wp P a w K Q' := by
  rcases h with ⟨T, zs, hop, hz, hpd, hpo⟩ | ⟨T, x, ds, hop, hc, hpd, hpo⟩
  · rw [hpo] at hr hfree hK
    rw [hpd] at hK
    obtain ⟨i, z, hi, hz0, hsz, hlen, hone, rfl⟩ := zero_cells hz
    have hs' := hs.newBoxAt (r := p.r) hr (by simpa using hfree 0 (by simp)) T (cs := z.cells) (ofV_cells z.cells.toList hone) (by simp)
    unfold Oper.wp
    have hrun : (execOp a.eval o).run P w = .ok (.value (.pointer (some ⟨w.heap.size, 0, none⟩))) (w.alloc (.cells z.cells T)) := by
      simp [execOp, hop, Instr.alloc, zeroValue, typeInfo, hi, hz0, newVar, newRow]
    rw [hrun, Oper.upon_value, hd]
    refine hK _ _ _ _ (hs'.set (t := t) (d := .ptr p.r 0) (bs := []) ht ?_ (by simp)) (fun j hj => ?_)
    · exact (RdC.ptr p.r 0 w.heap.size (by simp [upd])).toS
    · unfold upd
      simp only [List.length_cons, List.length_nil] at hj
      rw [if_neg (by omega)]
  · rw [hpo] at hr hfree hK
    rw [hpd] at hK
    obtain ⟨bs, rr, hz⟩ := hs.ev x
    rw [ev_H σ H' H x] at rr
    have hcs := cells_rd hs.kone rr hc
    have hs' := hs.newBoxAt (r := p.r) hr (by simpa using hfree 0 (by simp)) T hcs hz
    unfold Oper.wp
    have hrun : (execOp a.eval o).run P w = .ok (.value (.pointer (some ⟨w.heap.size, 0, none⟩))) (w.alloc (.cells (a.eval x).cells T)) := by
      simp [execOp, hop, Instr.box, newVar, newRow]
    rw [hrun, Oper.upon_value, hd]
    refine hK _ _ _ _ (hs'.set (t := t) (d := .ptr p.r 0) (bs := []) ht ?_ (by simp)) (fun j hj => ?_)
    · exact (RdC.ptr p.r 0 w.heap.size (by simp [upd])).toS
    · unfold upd
      simp only [List.length_cons, List.length_nil] at hj
      rw [if_neg (by omega)]

theorem Sim.newRowAt {σ : List (Nat × D)} {H' : List Ob} (hs : Sim Γ ⟨σ, H'⟩ κ Θ a w) {r : Nat} (hr : r + 1 ≤ H'.length) (hfree : κ r = none) {u : Bool} {e sz cap : Nat} {rows : List (List D)} {bs : List Nat} (cur : Array Value) (hsz : 0 < sz) (hrl : ∀ x ∈ rows, x.length = sz)
    (hcur : cur.size = cap * sz) (hn : rows.length ≤ cap) (hcap : cap ≤ maxLen) (hrd : Rds w (cur.toList.take (rows.length * sz)) rows.flatten bs) (hz : ∀ b ∈ bs, Θ b = 0) (hq : u = true → bs = []) :
    Sim Γ ⟨σ, place H' r [.row (rkOf u) e sz rows]⟩ (upd κ r (some (.slice (some ⟨w.heap.size, 0, none⟩) rows.length cap))) (fun b => if b = w.heap.size then r + 2 else Θ b) a (w.alloc (.cells cur e)) := by
  have k := Keeps.alloc hs (.cells cur e) (tag := r + 2) (by omega)
  have hkn := upd_old hfree (some (Value.slice (some ⟨w.heap.size, 0, none⟩) rows.length cap))
  obtain ⟨h1, h2⟩ := Rds.over k hrd hz
  have hlen : (cur.toList.take (rows.length * sz)).length = rows.length * sz := by
    have : rows.length * sz ≤ cap * sz := Nat.mul_le_mul_right _ hn
    have h3 : cur.toList.length = cap * sz := by rw [← hcur]; simp
    rw [List.length_take, h3, Nat.min_eq_left this]
  have hown : (w.alloc (.cells cur e)).ownsRow 0 e sz (.slice (some ⟨w.heap.size, 0, none⟩) rows.length cap) rows.length (cur.toList.take (rows.length * sz)) :=
    ⟨hlen, .inr ⟨w.heap.size, cap, cur, rfl, by omega, heap_alloc_new w _, hn, hcap, hcur, rfl⟩⟩
  obtain ⟨ρ, hu⟩ := hs.uniq
  refine hs.put (id := r) (o := .row (rkOf u) e sz rows) [] ?_ hkn ?_ ?_ k (hs.keepsMine (fun b hb => by by_cases e : b = w.heap.size <;> simp_all)) ?_ hu (by simp) ?_
  · intro j y hj
    rw [place_get (by simpa using hr)] at hj
    split at hj
    · exact .inr ⟨by omega, hj⟩
    · split at hj
      · rename_i h2
        simp only [List.length_cons, List.length_nil] at h2
        have e : j = r := by omega
        subst e
        simp at hj
        exact .inl ⟨rfl, hj.symm⟩
      · rename_i h2
        simp only [List.length_cons, List.length_nil] at h2
        exact .inr ⟨by omega, hj⟩
  · intro i hi
    rw [place_length (by simpa using hr)] at hi
    unfold upd
    rw [if_neg (by omega)]
    exact hs.kout i hi
  · intro i x hx
    unfold upd at hx
    split at hx
    · cases hx; rfl
    · exact hs.kone i x hx
  · refine ⟨hsz, hrl, _, _, bs, by simp [upd], hown, h1, ?_, ?_⟩
    · intro g hg
      simp only [Value.ownBlock, Option.some.injEq] at hg
      subst hg
      simp
    · cases u <;> exact h2
  · intro e' sz' rows' he
    cases u with
    | false => simp [rkOf] at he
    | true =>
      simp only [rkOf, Ob.row.injEq, true_and] at he
      obtain ⟨rfl, rfl, rfl⟩ := he
      have := hq rfl
      subst this
      exact ⟨_, _, [], by simp [upd], hown, h1, by simp, by simp⟩

theorem absL_ext {H H' : List Ob} (hx : Ext H H') : ∀ {ds es : List D} {ms : List Nat}, absL H ds = some (es, ms) → absL H' ds = some (es, ms) := by
  intro ds
  induction ds with
  | nil => intro es ms h; exact h
  | cons d ds ih =>
    intro es ms h
    simp only [absL] at h ⊢
    split at h
    · rename_i e m es' ms' h1 h2
      have : absC H' d = some (e, m) := by
        cases d <;> simp only [absC] at h1 ⊢ <;> (try exact h1)
        split at h1
        · rename_i k rows hH
          obtain ⟨o, hH, ho⟩ := Option.bind_eq_some_iff.1 hH
          simp only [hx _ _ hH, Option.bind_some, ho]; exact h1
        · cases h1
      rw [this, ih h2]; exact h
    · cases h

theorem CalmRow.wp {Q' : Exit → Act → World → Prop} {σ : List (Nat × D)} {H H' : List Ob} {o : Oper} {p : Cp} {K : Act → World → Prop} (hs : Sim Γ ⟨σ, H'⟩ κ Θ a w) (hx : Ext H H') {t : Nat} (hd : o.dst = some t) (ht : t < Γ.nt) (h : CalmRow P H σ o p)
    (hr : p.r + p.obs.length ≤ H'.length) (hfree : ∀ i, i < p.obs.length → κ (p.r + i) = none)
    (hK : ∀ κ' Θ' a' w', Sim Γ ⟨(t, p.d) :: σ, place H' p.r p.obs⟩ κ' Θ' a' w' → (∀ j, (j < p.r ∨ p.r + p.obs.length ≤ j) → κ' j = κ j) → K a' w') : o.wp P a w K Q' := by
  obtain ⟨T, e, sz, len, parts, zs, ds, es, hop, hT, hz, hsz, hsmall, hf, habs, hpd, hpo⟩ := h
  rw [hpo] at hr hfree hK
  rw [hpd] at hK
  have hf' : pfill (rowPlaces len sz) (List.replicate len zs).flatten (parts.toList.map fun q => (q.1, St.ev ⟨σ, H'⟩ q.2)) = some ds := by
    rw [← hf]; congr 1
  obtain ⟨arr, b0, hrun, harr, hb0, hal, hdl⟩ := buildSlice_run (st := ⟨σ, H'⟩) hop hT hz hsz hsmall hf' hs
  obtain ⟨ρ, hu⟩ := hs.uniq
  obtain ⟨bs, q1, q2, q3⟩ := abs_rd (H := H) (ρ := ρ) habs (by simp) harr hb0 (by simp)
  have hel : es.length = len * sz := by rw [← q1.length, harr.length, hdl]
  obtain ⟨c1, c2, c3⟩ := chunk_props sz len es hel
  have hs' := hs.newRowAt (r := p.r) hr (by simpa using hfree 0 (by simp)) (u := ds.all (uqC H)) (e := e) (sz := sz) (cap := len) (rows := chunk sz len es) (bs := bs) arr hsz c3 hal (by rw [c1]; exact Nat.le_refl _)
    (by unfold maxLen; have : len * 1 ≤ len * sz := Nat.mul_le_mul_left _ hsz; omega) (by rw [c1, c2, List.take_of_length_le (by simp [hal])]; exact q1) q2
    (fun hq => by
      obtain ⟨_, h2⟩ := q3 hq
      cases bs with
      | nil => rfl
      | cons b bs => obtain ⟨m, hm, _⟩ := h2 b (by simp); cases hm)
  unfold Oper.wp
  rw [hrun, Oper.upon_value, hd]
  rw [c1] at hs'
  refine hK _ _ _ _ (hs'.set (t := t) (d := .acc p.r) (bs := []) ht ?_ (by simp)) (fun j hj => ?_)
  · exact (RdC.acc p.r _ (by simp [upd])).toS
  · unfold upd
    simp only [List.length_cons, List.length_nil] at hj
    rw [if_neg (by omega)]

theorem CalmLit.wp {Q' : Exit → Act → World → Prop} {σ : List (Nat × D)} {H H' : List Ob} {o : Oper} {p : Cp} {K : Act → World → Prop} (hs : Sim Γ ⟨σ, H'⟩ κ Θ a w) {t : Nat} (hd : o.dst = some t) (ht : t < Γ.nt) (h : CalmLit P H σ o p)
    (hK : ∀ κ' Θ' a' w', Sim Γ ⟨(t, p.d) :: σ, place H' p.r p.obs⟩ κ' Θ' a' w' → (∀ j, (j < p.r ∨ p.r + p.obs.length ≤ j) → κ' j = κ j) → K a' w') : o.wp P a w K Q' := by
  obtain ⟨T, e, sz, len, parts, zs, ds, hop, hT, hz, hsz, hsmall, hf, hisP, hflat, hpd, hpo⟩ := h
  rw [hpo] at hK
  rw [hpd] at hK
  have hf' : pfill (rowPlaces len sz) (List.replicate len zs).flatten (parts.toList.map fun q => (q.1, St.ev ⟨σ, H'⟩ q.2)) = some ds := by
    rw [← hf]; congr 1
  obtain ⟨arr, b0, hrun, harr, hb0, hal, hdl⟩ := buildSlice_run (st := ⟨σ, H'⟩) hop hT hz hsz hsmall hf' hs
  have hrd := harr.pure hisP
  have hb0' : b0 = [] := hrd.flat hflat
  subst hb0'
  obtain ⟨c1, c2, c3⟩ := chunk_props sz len ds hdl
  have hbelow : Below w.heap.size w (w.alloc (.cells arr e)) := by
    have k := Keeps.alloc hs (.cells arr e) (tag := 2) (by omega)
    refine ⟨k.os, k.tape, k.output, k.size, fun b hlt => ?_⟩
    simp only [World.alloc]
    rw [Array.getElem?_push, if_neg (by omega)]
  have hs' := hs.grow hbelow
  unfold Oper.wp
  rw [hrun, Oper.upon_value, hd]
  have hpl : place H' p.r ([] : List Ob) = H' := by simp [place]
  rw [hpl] at hK
  refine hK _ _ _ _ (hs'.set (t := t) (d := .sl (chunk sz len ds)) (bs := [w.heap.size]) ht ?_ ?_) (fun j hj => rfl)
  · have hcell : ∀ j c, arr.toList[j]? = some c → (w.alloc (.cells arr e)).cell? ⟨w.heap.size, 0 + j, none⟩ = some c := by
      intro j c hj
      simp only [Nat.zero_add, World.cell?, heap_alloc_new w _]
      simpa using hj
    have hlt : w.heap.size < (w.alloc (.cells arr e)).heap.size := (Array.getElem?_eq_some_iff.1 (heap_alloc_new w _)).1
    have := Rd.sl (w := w.alloc (.cells arr e)) w.heap.size 0 len sz (chunk sz len ds) arr.toList [] hlt (by rw [c1]; exact Nat.le_refl _) (by unfold maxLen; have : len * 1 ≤ len * sz := Nat.mul_le_mul_left _ hsz; omega) c3 hcell (by rw [c2]; exact hrd.keep (by simp))
    rw [c1] at this
    exact .of this
  · intro b hb
    simp only [List.mem_singleton] at hb
    subst hb
    cases h : Θ w.heap.size with
    | zero => rfl
    | succ m => exact absurd (hs.own w.heap.size (by omega)) (by omega)

theorem CalmO.wp {Q' : Exit → Act → World → Prop} {σ : List (Nat × D)} {H H' : List Ob} {o : Oper} {p : Cp} {K : Act → World → Prop} (hs : Sim Γ ⟨σ, H'⟩ κ Θ a w) (hx : Ext H H') {t : Nat} (hd : o.dst = some t) (ht : t < Γ.nt) (h : CalmO P H σ o p)
    (hr : p.r + p.obs.length ≤ H'.length) (hfree : ∀ i, i < p.obs.length → κ (p.r + i) = none)
    (hK : ∀ κ' Θ' a' w', Sim Γ ⟨(t, p.d) :: σ, place H' p.r p.obs⟩ κ' Θ' a' w' → (∀ j, (j < p.r ∨ p.r + p.obs.length ≤ j) → κ' j = κ j) → K a' w') : o.wp P a w K Q' := by
  rcases h with h | h | h | h
  · exact h.wp hs hx hd ht hr hfree hK
  · exact h.wp hs hd ht hr hfree hK
  · exact h.wp hs hx hd ht hr hfree hK
  · exact h.wp hs hd ht hK

theorem Sim.unyields (hs : Sim Γ st κ Θ a w) {ops : Array Oper} {j s : Nat} (hj : (ops[j]?).bind (·.dst) = some s) (hb : lk st.σ s = .tup []) : yielded ops a.tmps j = none := by
  obtain ⟨bs, r, _⟩ := hs.slot s
  rw [hb] at r
  have hv := r.undef_inv
  rcases Nat.lt_or_ge s a.tmps.size with hlt | hlt
  · have h1 : a.tmps[s]? = some (.tuple #[]) := by
      rw [Array.getD_eq_getD_getElem?, Array.getElem?_eq_getElem hlt] at hv
      rw [Array.getElem?_eq_getElem hlt]
      simpa using hv
    simp [yielded, hj, h1]
  · simp [yielded, hj, Array.getElem?_eq_none hlt]

/-- the objects behind an operation of the head, each in its place -/
def Cp.putH (p : Cp) (H' : List Ob) : List Ob := match p.up with | some (id, ob) => H'.set id ob | none => place H' p.r p.obs

theorem CalmAt.wp {Q' : Exit → Act → World → Prop} {σ : List (Nat × D)} {H H' : List Ob} {ops : Array Oper} {i : Nat} {o : Oper} {p : Cp} {K : Act → World → Prop} (hs : Sim Γ ⟨σ, H'⟩ κ Θ a w) (hx : Ext H H') (hi : ops[i]? = some o) (h : CalmAt P Γ ops H σ o p)
    (hr : p.r + p.obs.length ≤ H'.length) (hfree : ∀ i, i < p.obs.length → κ (p.r + i) = none) (hup : ∀ id ob, p.up = some (id, ob) → ∃ zs ds, H'[id]? = some (.box zs) ∧ ob = .box ds ∧ zs.length = ds.length)
    (hK : ∀ κ' Θ' a' w', Sim Γ ⟨p.slot σ, p.putH H'⟩ κ' Θ' a' w' → (∀ j, (j < p.r ∨ p.r + p.obs.length ≤ j) → κ' j = κ j) → K a' w') : wpOp P ops Q' i K a w := by
  rcases h with ⟨t, hpt, hpu, hd, ht, h⟩ | ⟨hpt, hpo, hd, hg, T, x, y, id, ds, hop, hev, hlen, hc, hT, hl, hpu⟩
  · have e1 : p.slot σ = (t, p.d) :: σ := by simp [Cp.slot, hpt]
    have e2 : p.putH H' = place H' p.r p.obs := by simp [Cp.putH, hpu]
    rw [e1, e2] at hK
    rcases h with ⟨hg, hc⟩ | ⟨j, s, want, b, hg, hj, hb, hc⟩ | ⟨j, s, want, hg, hj, hb, hany, hno⟩
    · exact wpOp_plain hi (by simp [Region.wanted, hg]) (hc.wp hs hx hd ht hr hfree hK)
    · have hy := hs.yields hj hb
      rcases hc with ⟨rfl, hc⟩ | ⟨hne, hany, hno⟩
      · exact wpOp_plain hi (by simp [Region.wanted, hg, hy]) (hc.wp hs hx hd ht hr hfree hK)
      · unfold wpOp
        have hw : Region.wanted o (yielded ops a.tmps) = false := by simp [Region.wanted, hg, hy, hne]
        simp only [hi, hw, Bool.false_eq_true, if_false, hd]
        have hp : place H' p.r p.obs = H' := by rw [hno]; simp [place]
        exact hK κ Θ _ _ (by rw [hp, hany]; exact hs.set ht (.tup [] [] [] .nil) (by simp)) (fun _ _ => rfl)
    · have hy := hs.unyields hj hb
      unfold wpOp
      have hw : Region.wanted o (yielded ops a.tmps) = false := by simp [Region.wanted, hg, hy]
      simp only [hi, hw, Bool.false_eq_true, if_false, hd]
      have hp : place H' p.r p.obs = H' := by rw [hno]; simp [place]
      exact hK κ Θ _ _ (by rw [hp, hany]; exact hs.set ht (.tup [] [] [] .nil) (by simp)) (fun _ _ => rfl)
  · have e1 : p.slot σ = σ := by simp [Cp.slot, hpt]
    have e2 : p.putH H' = H'.set id (.box ds) := by simp [Cp.putH, hpu]
    rw [e1, e2] at hK
    obtain ⟨zs, ds', hz, he, hzl⟩ := hup id _ hpu
    cases he
    obtain ⟨w', hrun, hs'⟩ := store_run (st := ⟨σ, H'⟩) hop (by rw [ev_H σ H' H x]; exact hev) hz rfl (by rw [ev_H σ H' H y]; exact hc) hT hl (by omega) hs
    refine wpOp_plain hi (by simp [Region.wanted, hg]) ?_
    unfold Oper.wp
    rw [hrun, Oper.upon_skip, hd]
    have e3 : zs.take 0 ++ ds ++ zs.drop (0 + ds.length) = ds := by
      rw [List.drop_of_length_le (by omega)]; simp
    rw [e3] at hs'
    exact hK κ Θ _ _ hs' (fun _ _ => rfl)

theorem CalmOp.congr {H : List Ob} {σ σ' : List (Nat × D)} {o : Oper} {p : Cp} (he : ∀ x ∈ o.op.operands.toList, St.ev ⟨σ, H⟩ x = St.ev ⟨σ', H⟩ x) (h : CalmOp P H σ o p) : CalmOp P H σ' o p := by
  rcases h with ⟨h, hno⟩ | ⟨f, xs, ts, ds, ms, d, hop, hds, hsh, hgood, hi⟩
  · exact .inl ⟨pv_mono (fun _ _ h => h) he h, hno⟩
  · have hm : xs.toList.map (St.ev ⟨σ, H⟩) = xs.toList.map (St.ev ⟨σ', H⟩) := by
      apply List.map_congr_left
      intro x hx
      refine he x ?_
      rw [hop]
      simp only [Op.operands, Call.operands, Array.toList_append, List.mem_append]
      exact .inr hx
    rw [hm] at hds
    exact .inr ⟨f, xs, ts, ds, ms, d, hop, hds, hsh, hgood, hi⟩

theorem CalmO.congr {H : List Ob} {σ σ' : List (Nat × D)} {o : Oper} {p : Cp} (he : ∀ x ∈ o.op.operands.toList, St.ev ⟨σ, H⟩ x = St.ev ⟨σ', H⟩ x) (h : CalmO P H σ o p) : CalmO P H σ' o p := by
  rcases h with h | (h | ⟨T, x, ds, hop, hc, hpd, hpo⟩) | ⟨T, e, sz, len, parts, zs, ds, es, hop, hT, hz, hsz, hsmall, hf, habs, hpd, hpo⟩ | ⟨T, e, sz, len, parts, zs, ds, hop, hT, hz, hsz, hsmall, hf, habs, hfl, hpd, hpo⟩
  · exact .inl (h.congr he)
  · exact .inr (.inl (.inl h))
  · exact .inr (.inl (.inr ⟨T, x, ds, hop, by rw [← he x (by rw [hop]; simp [Op.operands])]; exact hc, hpd, hpo⟩))
  · refine .inr (.inr (.inl ⟨T, e, sz, len, parts, zs, ds, es, hop, hT, hz, hsz, hsmall, ?_, habs, hpd, hpo⟩))
    rw [← hf]
    congr 1
    apply List.map_congr_left
    intro q hq
    rw [he q.2 ?_]
    rw [hop]
    simp only [Op.operands, Array.toList_map]
    exact List.mem_map.2 ⟨q, hq, rfl⟩
  · refine .inr (.inr (.inr ⟨T, e, sz, len, parts, zs, ds, hop, hT, hz, hsz, hsmall, ?_, habs, hfl, hpd, hpo⟩))
    rw [← hf]
    congr 1
    apply List.map_congr_left
    intro q hq
    rw [he q.2 ?_]
    rw [hop]
    simp only [Op.operands, Array.toList_map]
    exact List.mem_map.2 ⟨q, hq, rfl⟩

theorem CalmAt.congr {H : List Ob} {σ σ' : List (Nat × D)} {ops : Array Oper} {o : Oper} {p : Cp} (he : ∀ t ∈ o.looksAt ops, lk σ t = lk σ' t) (h : CalmAt P Γ ops H σ o p) : CalmAt P Γ ops H σ' o p := by
  have hev := ev_congr (st := ⟨σ, H⟩) (st' := ⟨σ', H⟩) he
  have hgu : ∀ {j s : Nat} {want : Bool}, o.guard = some (j, want) → (ops[j]?).bind (·.dst) = some s → lk σ s = lk σ' s := by
    intro j s want hg hj
    refine he s ?_
    unfold Oper.looksAt
    refine List.mem_append.2 (.inr ?_)
    simp [hg, hj]
  rcases h with ⟨t, hpt, hpu, hd, ht, h⟩ | ⟨hpt, hpo, hd, hg, T, x, y, id, ds, hop, hx, hlen, hc, hT, hl, hpu⟩
  · refine .inl ⟨t, hpt, hpu, hd, ht, ?_⟩
    rcases h with ⟨hg, hc⟩ | ⟨j, s, want, b, hg, hj, hb, hc⟩ | ⟨j, s, want, hg, hj, hb, hc⟩
    · exact .inl ⟨hg, hc.congr hev⟩
    · refine .inr (.inl ⟨j, s, want, b, hg, hj, by rw [← hgu hg hj]; exact hb, ?_⟩)
      rcases hc with ⟨h1, hc⟩ | hc
      · exact .inl ⟨h1, hc.congr hev⟩
      · exact .inr hc
    · exact .inr (.inr ⟨j, s, want, hg, hj, by rw [← hgu hg hj]; exact hb, hc⟩)
  · refine .inr ⟨hpt, hpo, hd, hg, T, x, y, id, ds, hop, ?_, hlen, ?_, hT, hl, hpu⟩
    · rw [← hev x (by rw [hop]; simp [Op.operands])]; exact hx
    · rw [← hev y (by rw [hop]; simp [Op.operands])]; exact hc

def Cp.sl (p : Cp) : Option (Nat × D) := p.t.map fun t => (t, p.d)
theorem Cp.slot_eq (p : Cp) (σ : List (Nat × D)) : p.slot σ = p.sl.toList ++ σ := by
  unfold Cp.slot Cp.sl
  cases p.t <;> rfl
theorem fm_cons (p : Cp) (ps : List Cp) (σ : List (Nat × D)) : ((p :: ps).filterMap Cp.sl).reverse ++ σ = (ps.filterMap Cp.sl).reverse ++ p.slot σ := by
  rw [Cp.slot_eq, List.filterMap_cons]
  cases p.sl <;> simp

theorem CalmAt.upObs {H : List Ob} {σ : List (Nat × D)} {o : Oper} {p : Cp} (h : CalmAt P Γ all H σ o p) : p.up = none ∨ p.obs = [] := by
  rcases h with ⟨_, _, h, _⟩ | ⟨_, h, _⟩
  · exact .inl h
  · exact .inr h
theorem CalmAt.slots {H : List Ob} {σ : List (Nat × D)} {o : Oper} {p : Cp} (h : CalmAt P Γ all H σ o p) : o.dst = p.t := by
  rcases h with ⟨t, h1, _, h2, _⟩ | ⟨h1, _, h2, _⟩
  · rw [h1, h2]
  · rw [h1, h2]

theorem ACalm.unfold {H : List Ob} {K : List (Nat × D) → List Ob → Prop} : ∀ (l : List Oper) (σ : List (Nat × D)) (acc : List Ob) (U : List Nat), ACalm P Γ all H K l σ acc U →
    ∃ (ps : List Cp) (accF : List Ob), ps.length = l.length ∧ (∀ (i : Nat) o p, l[i]? = some o → ps[i]? = some p → CalmAt P Γ all H (((ps.take i).filterMap Cp.sl).reverse ++ σ) o p ∧ p.r = H.length + acc.length + ((ps.take i).flatMap Cp.obs).length ∧
        ∀ id ob, p.up = some (id, ob) → id ∉ U ∧ H.length ≤ id ∧ (∃ zs ds, ob = .box ds ∧ zs.length = ds.length ∧ (acc ++ (ps.take i).flatMap Cp.obs)[id - H.length]? = some (.box zs)) ∧ ∀ (i2 : Nat) q ob2, i2 < i → ps[i2]? = some q → q.up ≠ some (id, ob2)) ∧
      K ((ps.filterMap Cp.sl).reverse ++ σ) accF ∧ accF.length = acc.length + (ps.flatMap Cp.obs).length ∧
      (∀ k, (∀ (i : Nat) q ob, ps[i]? = some q → q.up ≠ some (H.length + k, ob)) → accF[k]? = (acc ++ ps.flatMap Cp.obs)[k]?) ∧
      ∀ (i : Nat) q id ob, ps[i]? = some q → q.up = some (id, ob) → accF[id - H.length]? = some ob := by
  intro l
  induction l with
  | nil =>
    intro σ acc U h
    have h : K σ acc := h
    exact ⟨[], acc, rfl, by simp, by simpa using h, by simp, by simp, by simp⟩
  | cons o l ih =>
    intro σ acc U h
    obtain ⟨p, hr, hc, hok, hrest⟩ := h
    obtain ⟨ps, accF, h1, h2, h3, h4, h5, h6⟩ := ih _ _ _ hrest
    cases hup : p.up with
    | none =>
      have ef : p.fill H.length acc = acc ++ p.obs := by simp [Cp.fill, hup]
      have eu : p.ups U = U := by simp [Cp.ups, hup]
      rw [ef] at h2 h4 h5
      rw [eu] at h2
      refine ⟨p :: ps, accF, by simp [h1], ?_, by rw [fm_cons]; exact h3, by rw [h4]; simp; omega, ?_, ?_⟩
      · intro i o' p' ho hp
        cases i with
        | zero =>
          simp at ho hp; subst ho; subst hp
          refine ⟨by simpa using hc, by simpa using hr, ?_⟩
          intro id ob he; rw [hup] at he; cases he
        | succ i =>
          simp at ho hp
          obtain ⟨q1, q2, q3⟩ := h2 i o' p' ho hp
          refine ⟨by rw [List.take_succ_cons, fm_cons]; exact q1, by rw [q2]; simp; omega, ?_⟩
          intro id ob he
          obtain ⟨r1, r2, ⟨zs, ds, r3, r4, r5⟩, r6⟩ := q3 id ob he
          refine ⟨r1, r2, ⟨zs, ds, r3, r4, by rw [← r5]; simp⟩, ?_⟩
          intro i2 q ob2 hlt hq
          cases i2 with
          | zero => simp at hq; subst hq; rw [hup]; simp
          | succ i2 => exact r6 i2 q ob2 (by omega) (by simpa using hq)
      · intro k hk
        rw [h5 k (fun i q ob hq => hk (i + 1) q ob (by simpa using hq))]
        simp
      · intro i q id ob hq he
        cases i with
        | zero => simp at hq; subst hq; rw [hup] at he; cases he
        | succ i => exact h6 i q id ob (by simpa using hq) he
    | some x =>
      obtain ⟨id0, ob0⟩ := x
      have ef : p.fill H.length acc = acc.set (id0 - H.length) ob0 := by simp [Cp.fill, hup]
      have eu : p.ups U = id0 :: U := by simp [Cp.ups, hup]
      have ho0 : p.obs = [] := by
        rcases hc.upObs with h | h
        · rw [h] at hup; cases hup
        · exact h
      rw [ef] at h2 h4 h5
      rw [eu] at h2
      simp only [Cp.upOk, hup] at hok
      obtain ⟨u1, u2, zs0, ds0, u3, u4, u5⟩ := hok
      have hset : ∀ (X : List Ob) (k : Nat), k ≠ id0 - H.length → (acc.set (id0 - H.length) ob0 ++ X)[k]? = (acc ++ X)[k]? := by
        intro X k hk
        by_cases hl : k < acc.length
        · rw [List.getElem?_append_left (by simpa using hl), List.getElem?_append_left hl, List.getElem?_set_ne (Ne.symm hk)]
        · rw [List.getElem?_append_right (by simpa using hl), List.getElem?_append_right (by omega)]; simp
      have hno : ∀ (i : Nat) q ob2, ps[i]? = some q → q.up ≠ some (id0, ob2) := by
        intro i q ob2 hq he
        have hlt : i < l.length := by have := (List.getElem?_eq_some_iff.1 hq).1; omega
        have := (h2 i l[i] q (List.getElem?_eq_getElem hlt) hq).2.2 id0 ob2 he
        exact this.1 (by simp)
      refine ⟨p :: ps, accF, by simp [h1], ?_, by rw [fm_cons]; exact h3, by rw [h4]; simp [ho0], ?_, ?_⟩
      · intro i o' p' ho hp
        cases i with
        | zero =>
          simp at ho hp; subst ho; subst hp
          refine ⟨by simpa using hc, by simpa using hr, ?_⟩
          intro id ob he
          rw [hup] at he; cases he
          exact ⟨u1, u2, ⟨zs0, ds0, u4, u5, by simpa using u3⟩, by intro i2 q ob2 hlt; omega⟩
        | succ i =>
          simp at ho hp
          obtain ⟨q1, q2, q3⟩ := h2 i o' p' ho hp
          refine ⟨by rw [List.take_succ_cons, fm_cons]; exact q1, by rw [q2]; simp [ho0], ?_⟩
          intro id ob he
          obtain ⟨r1, r2, ⟨zs, ds, r3, r4, r5⟩, r6⟩ := q3 id ob he
          have hne : id ≠ id0 := fun e => r1 (by simp [e])
          refine ⟨fun h => r1 (by simp [h]), r2, ⟨zs, ds, r3, r4, ?_⟩, ?_⟩
          · rw [← r5, hset _ _ (by omega)]; simp [ho0]
          · intro i2 q ob2 hlt hq
            cases i2 with
            | zero => simp at hq; subst hq; rw [hup]; intro e; cases e; exact hne rfl
            | succ i2 => exact r6 i2 q ob2 (by omega) (by simpa using hq)
      · intro k hk
        rw [h5 k (fun i q ob hq => hk (i + 1) q ob (by simpa using hq))]
        have hne : k ≠ id0 - H.length := fun e => hk 0 p ob0 rfl (by rw [hup, e, show H.length + (id0 - H.length) = id0 from by omega])
        rw [hset _ _ hne]; simp [ho0]
      · intro i q id ob hq he
        cases i with
        | zero =>
          simp at hq; subst hq; rw [hup] at he; cases he
          rw [h5 (id0 - H.length) (fun i q ob2 hq => by rw [show H.length + (id0 - H.length) = id0 from by omega]; exact hno i q ob2 hq)]
          have hl : id0 - H.length < acc.length := (List.getElem?_eq_some_iff.1 u3).1
          rw [List.getElem?_append_left (by simpa using hl), List.getElem?_set_self hl]
        | succ i => exact h6 i q id ob (by simpa using hq) he

theorem Sim.same {σ' : List (Nat × D)} (h : ∀ t, lk st.σ t = lk σ' t) (hs : Sim Γ st κ Θ a w) : Sim Γ ⟨σ', st.H⟩ κ Θ a w :=
  ⟨hs.defers, hs.size, hs.kout, hs.kone, fun t => by show ∃ bs, RdS w κ _ (lk σ' t) bs ∧ _; rw [← h t]; exact hs.slot t, hs.ob, hs.own, hs.old, hs.mine, hs.stays, hs.uniq⟩

/-- places for objects to come -/
theorem Sim.room (hs : Sim Γ st κ Θ a w) (m : Nat) : Sim Γ ⟨st.σ, st.H ++ List.replicate m .gone⟩ κ Θ a w := by
  have key : ∀ (j : Nat) y, (st.H ++ List.replicate m .gone)[j]? = some y → y = .gone ∨ st.H[j]? = some y := by
    intro j y hj
    by_cases hlt : j < st.H.length
    · rw [List.getElem?_append_left hlt] at hj; exact .inr hj
    · rw [List.getElem?_append_right (by omega)] at hj
      rw [List.getElem?_replicate] at hj
      split at hj
      · cases hj; exact .inl rfl
      · cases hj
  obtain ⟨ρ, hu⟩ := hs.uniq
  refine ⟨hs.defers, hs.size, fun i hi => hs.kout i (by simp at hi; omega), hs.kone, hs.slot, ?_, hs.own, hs.old, hs.mine, hs.stays, ρ, hu.free, ?_, ?_⟩
  · intro j o hj
    rcases key j o hj with rfl | h
    · trivial
    · exact hs.ob j o h
  · intro id e sz rows hj
    rcases key id _ hj with h | h
    · cases h
    · exact hu.rows id e sz rows h
  · intro id o hj
    rcases key id _ hj with h | h
    · subst h; trivial
    · exact hu.more id o h

theorem flatMap_split {ps : List Cp} {i : Nat} {p : Cp} (h : ps[i]? = some p) : ps.flatMap Cp.obs = (ps.take i).flatMap Cp.obs ++ (p.obs ++ (ps.drop (i + 1)).flatMap Cp.obs) := by
  have e : ps = ps.take i ++ (p :: ps.drop (i + 1)) := by
    obtain ⟨hlt, rfl⟩ := List.getElem?_eq_some_iff.1 h
    rw [List.getElem_cons_drop, List.take_append_drop]
  conv => lhs; rw [e]
  simp

theorem flatMap_find {ps : List Cp} : ∀ {k : Nat}, k < (ps.flatMap Cp.obs).length → ∃ (i : Nat) (p : Cp) (j : Nat), ps[i]? = some p ∧ j < p.obs.length ∧ k = ((ps.take i).flatMap Cp.obs).length + j := by
  induction ps with
  | nil => intro k h; simp at h
  | cons p ps ih =>
    intro k h
    by_cases hk : k < p.obs.length
    · exact ⟨0, p, k, rfl, hk, by simp⟩
    · simp only [List.flatMap_cons, List.length_append] at h
      obtain ⟨i, q, j, h1, h2, h3⟩ := ih (k := k - p.obs.length) (by omega)
      refine ⟨i + 1, q, j, by simpa using h1, h2, ?_⟩
      rw [List.take_succ_cons, List.flatMap_cons, List.length_append]; omega

theorem prefix_le {ps : List Cp} {i j : Nat} {p : Cp} (hp : ps[i]? = some p) (hij : i < j) : ((ps.take i).flatMap Cp.obs).length + p.obs.length ≤ ((ps.take j).flatMap Cp.obs).length := by
  have h : (ps.take j)[i]? = some p := by rw [List.getElem?_take, if_pos hij]; exact hp
  have := flatMap_split h
  rw [this]
  have e : (ps.take j).take i = ps.take i := by rw [List.take_take, Nat.min_eq_left (by omega)]
  rw [e]
  simp only [List.length_append]
  omega

theorem AW_draw {id : Nat} {l : List Oper} (n : Nat) (hm : P.follows .mixedOrders = true) (hB : drawB l.toArray n = true)
    (h : ACalm P Γ l.toArray st.H (fun σ acc => AO P Γ l.toArray (l.drop n) Q ⟨σ, st.H ++ acc⟩) (l.take n) st.σ [] []) : AW P Γ (.region id l.toArray true) Q st := by
  simp only [drawB, Bool.and_eq_true, Bool.or_eq_true, decide_eq_true_eq] at hB
  obtain ⟨⟨⟨hn, hsc⟩, hseq⟩, hdeps⟩ := hB
  obtain ⟨ps, accF, hlen, hcalm, hK, hFl, hFo, hFu⟩ := ACalm.unfold _ _ _ _ h
  simp only [List.nil_append, List.length_nil, Nat.add_zero, Nat.zero_add] at hcalm hK hFl hFo
  have hn' : n ≤ l.length := by simpa using hn
  have hpl : ps.length = n := by rw [hlen]; simp; omega
  have hop : ∀ (i : Nat), i < n → ∃ o p, l.toArray[i]? = some o ∧ ps[i]? = some p ∧ o.dst = p.t ∧ CalmAt P Γ l.toArray st.H (((ps.take i).filterMap Cp.sl).reverse ++ st.σ) o p ∧ p.r = st.H.length + ((ps.take i).flatMap Cp.obs).length := by
    intro i hi
    have h1 : l[i]? = some l[i] := List.getElem?_eq_getElem (by omega)
    have h2 : ps[i]? = some ps[i] := List.getElem?_eq_getElem (by omega)
    have h3 := hcalm i l[i] ps[i] (by rw [List.getElem?_take, if_pos hi]; exact h1) h2
    exact ⟨l[i], ps[i], by simp [List.getElem?_toArray, h1], h2, h3.1.slots, h3.1, h3.2.1⟩
  have hpr : ∀ (i : Nat) p, ps[i]? = some p → p.r = st.H.length + ((ps.take i).flatMap Cp.obs).length := by
    intro i p hp
    have hi : i < n := by have := (List.getElem?_eq_some_iff.1 hp).1; omega
    obtain ⟨_, p', _, hp', _, _, hr⟩ := hop i hi
    rw [hp] at hp'; cases hp'; exact hr
  have hups : ∀ (i : Nat) p id ob, ps[i]? = some p → p.up = some (id, ob) → st.H.length ≤ id ∧ (∃ zs ds, ob = .box ds ∧ zs.length = ds.length ∧ ((ps.take i).flatMap Cp.obs)[id - st.H.length]? = some (.box zs)) ∧ ∀ (i2 : Nat) q ob2, i2 < i → ps[i2]? = some q → q.up ≠ some (id, ob2) := by
    intro i p id ob hp he
    have hi : i < n := by have := (List.getElem?_eq_some_iff.1 hp).1; omega
    have h1 : l[i]? = some l[i] := List.getElem?_eq_getElem (by omega)
    have h3 := (hcalm i l[i] p (by rw [List.getElem?_take, if_pos hi]; exact h1) hp).2.2 id ob he
    exact ⟨h3.2.1, h3.2.2.1, h3.2.2.2⟩
  have hupd : ∀ (i j : Nat) p q id ob ob2, ps[i]? = some p → ps[j]? = some q → p.up = some (id, ob) → q.up = some (id, ob2) → i = j := by
    intro i j p q id ob ob2 hp hq he he2
    rcases Nat.lt_trichotomy i j with h | h | h
    · exact absurd he ((hups j q id ob2 hq he2).2.2 i p ob h hp)
    · exact h
    · exact absurd he2 ((hups i p id ob hp he).2.2 j q ob2 h hq)
  have hupo : ∀ (i : Nat) p id ob, ps[i]? = some p → p.up = some (id, ob) → p.obs = [] := by
    intro i p id ob hp he
    have hi : i < n := by have := (List.getElem?_eq_some_iff.1 hp).1; omega
    obtain ⟨_, p', _, hp', _, hc, _⟩ := hop i hi
    rw [hp] at hp'; cases hp'
    rcases hc.upObs with h | h
    · rw [h] at he; cases he
    · exact h
  have hfit : ∀ (i : Nat) p, ps[i]? = some p → p.r + p.obs.length ≤ st.H.length + (ps.flatMap Cp.obs).length := by
    intro i p hp
    rw [hpr i p hp, flatMap_split hp]
    simp only [List.length_append]; omega
  have happ : ∀ (i j : Nat) p q, ps[i]? = some p → ps[j]? = some q → i < j → p.r + p.obs.length ≤ q.r := by
    intro i j p q hp hq hij
    rw [hpr i p hp, hpr j q hq]
    have := prefix_le hp hij
    omega
  have hdist : ∀ (i j : Nat) p q t, ps[i]? = some p → ps[j]? = some q → p.t = some t → q.t = some t → i = j := by
    intro i j p q t hp hq he1 he2
    have hi : i < n := by have := (List.getElem?_eq_some_iff.1 hp).1; omega
    have hj : j < n := by have := (List.getElem?_eq_some_iff.1 hq).1; omega
    obtain ⟨oi, p', ho, hp', hdi, _⟩ := hop i hi
    obtain ⟨oj, q', hoj, hq', hdj, _⟩ := hop j hj
    rw [hp] at hp'; cases hp'
    rw [hq] at hq'; cases hq'
    have := List.all_eq_true.1 hdeps i (List.mem_range.2 hi)
    simp only [ho, Bool.and_eq_true] at this
    have := List.all_eq_true.1 this.2 j (List.mem_range.2 hj)
    simp only [hoj, hdi, hdj, he1, he2, beq_self_eq_true, Bool.not_true, Bool.or_false, Option.isNone_some, Bool.or_false, beq_iff_eq] at this
    exact this.symm
  have hpsmem : ∀ (i : Nat) p t, ps[i]? = some p → p.t = some t → ∀ q ∈ ps.filterMap Cp.sl, q.1 = t → q = (t, p.d) := by
    intro i p t hp hpt q hq he
    obtain ⟨q', hq', hqs⟩ := List.mem_filterMap.1 hq
    obtain ⟨j, hj, rfl⟩ := List.mem_iff_getElem.1 hq'
    have hq2 : ps[j]? = some ps[j] := List.getElem?_eq_getElem hj
    unfold Cp.sl at hqs
    cases hpj : ps[j].t with
    | none => rw [hpj] at hqs; cases hqs
    | some u =>
      rw [hpj] at hqs
      simp only [Option.map_some, Option.some.injEq] at hqs
      subst hqs
      simp only at he
      subst he
      have := hdist j i _ p u hq2 hp hpj hpt
      subst this
      rw [hp] at hq2; cases hq2; rfl
  intro κ Θ a w hs
  -- the walk in whatever order
  have main : ∀ (f : Nat) (listed : Array Bool) (σ' : List (Nat × D)) (H' : List Ob) (κ : Nat → Option Value) (Θ : Nat → Nat) (a : Act) (w : World), HeadInv .any l.toArray n listed →
      ((List.range n).filter fun i => !listed.getD i false).length = f →
      (∀ (i : Nat) p t, ps[i]? = some p → p.t = some t → listed.getD i false = true → lk σ' t = p.d) →
      (∀ t, (∀ (i : Nat) p, ps[i]? = some p → listed.getD i false = true → p.t ≠ some t) → lk σ' t = lk st.σ t) →
      H'.length = st.H.length + (ps.flatMap Cp.obs).length → Ext st.H H' →
      (∀ (i : Nat) p, ps[i]? = some p → listed.getD i false = true → ∀ (j : Nat) o, p.obs[j]? = some o → (∀ (i2 : Nat) q ob, ps[i2]? = some q → listed.getD i2 false = true → q.up ≠ some (p.r + j, ob)) → H'[p.r + j]? = some o) →
      (∀ (i : Nat) q id ob, ps[i]? = some q → listed.getD i false = true → q.up = some (id, ob) → H'[id]? = some ob ∧ ∃ v, κ id = some v) →
      (∀ (i : Nat) p, ps[i]? = some p → listed.getD i false = false → ∀ j, j < p.obs.length → κ (p.r + j) = none) →
      Sim Γ ⟨σ', H'⟩ κ Θ a w →
      wpAny P .any l.toArray (fun e a' w' => ∃ st' κ' Θ', Sim Γ st' κ' Θ' a' w' ∧ Q e st') (f + (l.toArray.size - n)) listed a w := by
    intro f
    induction f with
    | zero =>
      intro listed σ' H' κ Θ a w inv hcount hA hB hHl hHe hHo hHu hHf hs
      have hall : ∀ i, i < n → listed.getD i false = true := by
        intro i hi
        have h0 := List.eq_nil_of_length_eq_zero hcount
        cases hl : listed.getD i false with
        | true => rfl
        | false =>
          have : i ∈ (List.range n).filter fun i => !listed.getD i false := List.mem_filter.2 ⟨List.mem_range.2 hi, by simp [hl]⟩
          rw [h0] at this; cases this
      have hlist : listed = Array.replicate n true ++ Array.replicate (l.toArray.size - n) false := by
        apply Array.ext
        · rw [inv.size]; simp; simp at hn; omega
        · intro i h1 h2
          by_cases hi : i < n
          · have := hall i hi
            rw [Array.getElem_append_left (by simpa using hi)]
            simp [h1] at this
            simp [this]
          · have hi' : i < l.toArray.size := by rw [← inv.size]; exact h1
            have := inv.tail i (by omega) hi'
            rw [Array.getElem_append_right (by simpa using hi)]
            simp [h1] at this
            simp [this]
      rw [Nat.zero_add]
      have hfin : ∀ t, lk σ' t = lk ((ps.filterMap Cp.sl).reverse ++ st.σ) t := by
        intro t
        by_cases hex : ∃ (i : Nat) (p : Cp), ps[i]? = some p ∧ p.t = some t
        · obtain ⟨i, p, hp, hpt⟩ := hex
          have hi : i < n := by have := (List.getElem?_eq_some_iff.1 hp).1; omega
          rw [hA i p t hp hpt (hall i hi)]
          have := lk_mem (ps.filterMap Cp.sl).reverse st.σ (t, p.d) (by rw [List.mem_reverse]; exact List.mem_filterMap.2 ⟨p, List.mem_of_getElem? hp, by simp [Cp.sl, hpt]⟩) (fun q hq he => hpsmem i p t hp hpt q (by simpa using hq) he)
          exact this.symm
        · rw [hB t (fun i p hp _ he => hex ⟨i, p, hp, he⟩), lk_app]
          intro q hq he
          obtain ⟨p, hp, hps⟩ := List.mem_filterMap.1 (List.mem_reverse.1 hq)
          obtain ⟨i, hi, hpi⟩ := List.mem_iff_getElem.1 hp
          refine hex ⟨i, p, by rw [← hpi]; exact List.getElem?_eq_getElem hi, ?_⟩
          unfold Cp.sl at hps
          cases hpt : p.t with
          | none => rw [hpt] at hps; cases hps
          | some u => rw [hpt] at hps; simp only [Option.map_some, Option.some.injEq] at hps; subst hps; simp only at he; rw [he]
      have hHfin : H' = st.H ++ accF := by
        apply List.ext_getElem?
        intro k
        by_cases h1 : k < st.H.length
        · rw [List.getElem?_append_left h1]
          exact hHe k _ (List.getElem?_eq_getElem h1) |>.trans (List.getElem?_eq_getElem h1).symm
        · rw [List.getElem?_append_right (by omega)]
          by_cases hex : ∃ (i : Nat) (q : Cp) (ob : Ob), ps[i]? = some q ∧ q.up = some (k, ob)
          · obtain ⟨i, q, ob, hq, he⟩ := hex
            have hi : i < n := by have := (List.getElem?_eq_some_iff.1 hq).1; omega
            rw [(hHu i q k ob hq (hall i hi) he).1, hFu i q k ob hq he]
          · have hno : ∀ (i : Nat) q ob, ps[i]? = some q → q.up ≠ some (k, ob) := fun i q ob hq he => hex ⟨i, q, ob, hq, he⟩
            rw [hFo (k - st.H.length) (fun i q ob hq => by rw [show st.H.length + (k - st.H.length) = k from by omega]; exact hno i q ob hq)]
            by_cases h2 : k - st.H.length < (ps.flatMap Cp.obs).length
            · obtain ⟨i, p, j, hp, hj, hk⟩ := flatMap_find h2
              have hi : i < n := by have := (List.getElem?_eq_some_iff.1 hp).1; omega
              have e3 : p.r + j = k := by rw [hpr i p hp]; omega
              have h3 := hHo i p hp (hall i hi) j _ (List.getElem?_eq_getElem hj) (fun i2 q ob hq _ => by rw [e3]; exact hno i2 q ob hq)
              rw [e3] at h3
              rw [h3, flatMap_split hp, hk, List.getElem?_append_right (by omega), Nat.add_sub_cancel_left, List.getElem?_append_left hj, List.getElem?_eq_getElem hj]
            · rw [List.getElem?_eq_none (by omega), List.getElem?_eq_none (by omega)]
      have hs2 := Sim.same (st := ⟨σ', H'⟩) (σ' := (ps.filterMap Cp.sl).reverse ++ st.σ) hfin hs
      simp only [hHfin] at hs2
      have hwp := hK κ Θ a w hs2
      have hdl : (l.drop n).length = l.toArray.size - n := by simp
      have := wpAny_of_seq (md := .any) (l.drop n) n listed a w (fun j => by simp [List.getElem?_drop]) (by rw [hdl, hlist]; exact hseq) hwp
      rwa [hdl] at this
    | succ f ih =>
      intro listed σ' H' κ Θ a w inv hcount hA hB hHl hHe hHo hHu hHf hs
      have hun : ∃ i, i < n ∧ listed.getD i false = false := by
        have hne : ((List.range n).filter fun i => !listed.getD i false) ≠ [] := by
          intro h0; rw [h0] at hcount; simp at hcount
        obtain ⟨i, hi⟩ := List.exists_mem_of_ne_nil _ hne
        obtain ⟨h1, h2⟩ := List.mem_filter.1 hi
        exact ⟨i, List.mem_range.1 h1, by simpa using h2⟩
      have hsz := inv.size
      rw [show f + 1 + (l.toArray.size - n) = (f + (l.toArray.size - n)) + 1 from by omega]
      refine ⟨fun h0 => ?_, fun i hi => ?_⟩
      · exfalso
        -- the first that is not yet done is ready
        obtain ⟨i, ⟨hin, hil⟩, hmin⟩ := exists_least (p := fun i => i < n ∧ listed.getD i false = false) hun
        obtain ⟨o, p, ho, _, _, _⟩ := hop i hin
        have : i ∈ Region.ready .any l.toArray listed := by
          refine mem_ready.2 ⟨getD_in (by rw [hsz]; omega) hil, o, ho, fun e he hb => ?_⟩
          have := List.all_eq_true.1 hdeps i (List.mem_range.2 hin)
          simp only [ho, Bool.and_eq_true] at this
          have := Array.all_eq_true'.1 this.1.1 e he
          simp only [hb, Bool.not_true, Bool.false_or, decide_eq_true_eq] at this
          cases hl : listed.getD e.on false with
          | true => rfl
          | false =>
            have := hmin e.on ⟨by omega, hl⟩
            omega
        rw [h0] at this; cases this
      · obtain ⟨i0, hi0, hl0⟩ := hun
        have hin : i < n := by
          rcases Nat.lt_or_ge i n with h | h
          · exact h
          · rcases hsc with he | ⟨hn2, hsink, hchain⟩
            · obtain ⟨_, oi, hoi, _⟩ := mem_ready.1 hi
              have := (Array.getElem?_eq_some_iff.1 hoi).1
              omega
            · exact absurd hi (tail_waits hsink hchain hn2 inv _ i0 rfl hi0 (getD_in (by rw [hsz]; omega) hl0) i h)
        obtain ⟨o, p, ho, hp, hd, hc, _⟩ := hop i hin
        obtain ⟨hil, o', ho', hall⟩ := mem_ready.1 hi
        rw [ho] at ho'; cases ho'
        have hilf := getD_both hil
        have hc' : CalmAt P Γ l.toArray st.H σ' o p := by
          refine CalmAt.congr (σ := ((ps.take i).filterMap Cp.sl).reverse ++ st.σ) (σ' := σ') ?_ hc
          intro t ht
          have hdep := List.all_eq_true.1 hdeps i (List.mem_range.2 hin)
          simp only [ho, Bool.and_eq_true] at hdep
          have hdep := List.all_eq_true.1 hdep.1.2 t ht
          by_cases hex : ∃ (j : Nat) (q : Cp), ps[j]? = some q ∧ q.t = some t
          · obtain ⟨j, q, hq, hqt⟩ := hex
            have hj : j < n := by have := (List.getElem?_eq_some_iff.1 hq).1; omega
            obtain ⟨oj, q', hoj, hq', hdj, _⟩ := hop j hj
            rw [hq] at hq'; cases hq'
            have := List.all_eq_true.1 hdep j (List.mem_range.2 hj)
            simp only [hoj, hdj, hqt, beq_self_eq_true, Bool.not_true, Bool.false_or, Bool.and_eq_true, decide_eq_true_eq] at this
            obtain ⟨hji, hwait⟩ := this
            obtain ⟨oi', hoi', e, he, hb, hon⟩ := Region.waitsFor_spec hwait
            rw [ho] at hoi'; cases hoi'
            have hjl := hall e he hb
            rw [hon] at hjl
            rw [hA j q t hq hqt hjl]
            refine lk_mem ((ps.take i).filterMap Cp.sl).reverse st.σ (t, q.d) ?_ (fun q2 hq2 he2 => hpsmem j q t hq hqt q2 ?_ he2)
            · rw [List.mem_reverse]
              exact List.mem_filterMap.2 ⟨q, List.mem_of_getElem? (i := j) (by rw [List.getElem?_take, if_pos hji]; exact hq), by simp [Cp.sl, hqt]⟩
            · obtain ⟨q3, hq3, hq3s⟩ := List.mem_filterMap.1 (List.mem_reverse.1 hq2)
              exact List.mem_filterMap.2 ⟨q3, List.mem_of_mem_take hq3, hq3s⟩
          · rw [hB t (fun j q hq _ he => hex ⟨j, q, hq, he⟩), lk_app]
            intro q hq he
            obtain ⟨q3, hq3, hq3s⟩ := List.mem_filterMap.1 (List.mem_reverse.1 hq)
            obtain ⟨j, hj, hqj⟩ := List.mem_iff_getElem.1 (List.mem_of_mem_take hq3)
            refine hex ⟨j, q3, by rw [← hqj]; exact List.getElem?_eq_getElem hj, ?_⟩
            unfold Cp.sl at hq3s
            cases hpt : q3.t with
            | none => rw [hpt] at hq3s; cases hq3s
            | some u => rw [hpt] at hq3s; simp only [Option.map_some, Option.some.injEq] at hq3s; subst hq3s; simp only at he; rw [he]
        have hfp := hfit i p hp
        have hkid : ∀ id ob, p.up = some (id, ob) → ∃ v, κ id = some v := by
          intro id ob he
          rcases hc' with ⟨_, _, h, _⟩ | ⟨_, _, _, _, T, x, y, id', ds, hop', hx', _, _, _, _, hpu⟩
          · rw [h] at he; cases he
          · rw [hpu] at he; cases he
            obtain ⟨b1, r1, _⟩ := hs.ev x
            rw [ev_H σ' H' st.H x, hx'] at r1
            obtain ⟨g, hk, _⟩ := r1.ptr_inv
            exact ⟨_, hk⟩
        have hupH : ∀ id ob, p.up = some (id, ob) → ∃ zs ds, H'[id]? = some (.box zs) ∧ ob = .box ds ∧ zs.length = ds.length := by
          intro id ob he
          obtain ⟨u1, ⟨zs, ds, u2, u3, u4⟩, _⟩ := hups i p id ob hp he
          refine ⟨zs, ds, ?_, u2, u3⟩
          obtain ⟨i1, p1, j1, hp1, hj1, hk1⟩ := flatMap_find (List.getElem?_eq_some_iff.1 u4).1
          have hp1' : ps[i1]? = some p1 := by
            have := (List.getElem?_eq_some_iff.1 hp1).1
            rw [List.getElem?_take] at hp1
            split at hp1
            · exact hp1
            · cases hp1
          have hi1 : i1 < i := by have := (List.getElem?_eq_some_iff.1 hp1).1; simp at this; omega
          have et : (ps.take i).take i1 = ps.take i1 := by rw [List.take_take, Nat.min_eq_left (by omega)]
          rw [et] at hk1
          have e1 : p1.r + j1 = id := by rw [hpr i1 p1 hp1']; omega
          have hob : p1.obs[j1]? = some (.box zs) := by
            rw [flatMap_split hp1, et, hk1, List.getElem?_append_right (by omega), Nat.add_sub_cancel_left, List.getElem?_append_left hj1] at u4
            exact u4
          have hl1 : listed.getD i1 false = true := by
            cases hl : listed.getD i1 false with
            | true => rfl
            | false =>
              have h0 := hHf i1 p1 hp1' hl j1 hj1
              rw [e1] at h0
              obtain ⟨v, hv⟩ := hkid id ob he
              rw [h0] at hv; cases hv
          have := hHo i1 p1 hp1' hl1 j1 _ hob (fun i2 q ob2 hq hl he2 => by
            rw [e1] at he2
            have := hupd i i2 p q id ob ob2 hp hq he he2
            subst this
            rw [hilf] at hl; cases hl)
          rw [e1] at this; exact this
        refine hc'.wp hs hHe ho (by omega) (fun j hj => hHf i p hp hilf j hj) hupH fun κ' Θ' a' w' hs' hsame => ?_
        have hset : ∀ (j : Nat), (listed.setIfInBounds i true).getD j false = true ↔ (j = i ∨ listed.getD j false = true) := by
          intro j
          by_cases e : i = j
          · subst e
            have : i < listed.size := by rw [hsz]; omega
            simp [this]
          · rw [getD_set_ne false e]
            constructor
            · exact .inr
            · rintro (rfl | h)
              · exact absurd rfl e
              · exact h
        have hput : (p.putH H').length = H'.length := by
          unfold Cp.putH
          split
          · simp
          · exact place_length (by omega)
        have hlow : ∀ (k : Nat), k < st.H.length → (p.putH H')[k]? = H'[k]? := by
          intro k hk
          unfold Cp.putH
          split
          · rename_i id ob he
            have := (hups i p id ob hp he).1
            rw [List.getElem?_set_ne (by omega)]
          · rw [place_get (by omega), if_pos (by rw [hpr i p hp]; omega)]
        refine ih (listed.setIfInBounds i true) (p.slot σ') (p.putH H') κ' Θ' a' w' (inv.set hi hin) ?_ ?_ ?_ (by rw [hput]; exact hHl) ?_ ?_ ?_ ?_ hs'
        · have hcnt : ((List.range n).filter fun j => !(listed.setIfInBounds i true).getD j false) = ((List.range n).filter fun j => !listed.getD j false).erase i := by
            have hnd : ((List.range n).filter fun j => !listed.getD j false).Nodup := List.Pairwise.filter _ List.nodup_range
            rw [hnd.erase_eq_filter, List.filter_filter]
            apply List.filter_congr
            intro j _
            by_cases e : j = i
            · subst e
              have := (hset j).2 (.inl rfl)
              rw [this]; simp
            · rw [getD_set_ne false (Ne.symm e)]
              simp [e]
          rw [hcnt, List.length_erase_of_mem (List.mem_filter.2 ⟨List.mem_range.2 hin, by simp [hilf]⟩), hcount]
          rfl
        · intro j q t hq hqt hl
          unfold Cp.slot
          rcases (hset j).1 hl with rfl | hl2
          · rw [hp] at hq; cases hq
            rw [hqt]; simp [lk]
          · cases hpt : p.t with
            | none => exact hA j q t hq hqt hl2
            | some u =>
              simp only [lk]
              rw [if_neg, hA j q t hq hqt hl2]
              intro e
              have := hdist j i q p t hq hp hqt (by rw [hpt, e])
              subst this
              rw [hilf] at hl2; cases hl2
        · intro t ht
          unfold Cp.slot
          have hrest := hB t (fun j q hq hl => ht j q hq ((hset j).2 (.inr hl)))
          cases hpt : p.t with
          | none => exact hrest
          | some u =>
            simp only [lk]
            rw [if_neg (fun e => ht i p hp ((hset i).2 (.inl rfl)) (by rw [hpt, e]))]
            exact hrest
        · intro j y hj
          rw [hlow j (List.getElem?_eq_some_iff.1 hj).1]
          exact hHe j y hj
        · intro j q hq hl k y hy hno
          have hkl := (List.getElem?_eq_some_iff.1 hy).1
          unfold Cp.putH
          split
          · rename_i id ob he
            have hne : q.r + k ≠ id := fun e => hno i p ob hp ((hset i).2 (.inl rfl)) (by rw [e]; exact he)
            rw [List.getElem?_set_ne (Ne.symm hne)]
            rcases (hset j).1 hl with rfl | hl2
            · rw [hp] at hq; cases hq
              rw [hupo j p id ob hp he] at hy; simp at hy
            · exact hHo j q hq hl2 k y hy (fun i2 q2 ob2 hq2 hl3 => hno i2 q2 ob2 hq2 ((hset i2).2 (.inr hl3)))
          · rw [place_get (by omega)]
            rcases (hset j).1 hl with rfl | hl2
            · rw [hp] at hq; cases hq
              rw [if_neg (by omega), if_pos (by omega), Nat.add_sub_cancel_left]; exact hy
            · have hne : j ≠ i := fun e => by subst e; rw [hilf] at hl2; cases hl2
              have h3 := hHo j q hq hl2 k y hy (fun i2 q2 ob2 hq2 hl3 => hno i2 q2 ob2 hq2 ((hset i2).2 (.inr hl3)))
              rcases Nat.lt_or_gt_of_ne hne with h | h
              · have := happ j i q p hq hp h
                rw [if_pos (by omega)]; exact h3
              · have := happ i j p q hp hq h
                rw [if_neg (by omega), if_neg (by omega)]; exact h3
        · intro j q id ob hq hl he
          rcases (hset j).1 hl with rfl | hl2
          · rw [hp] at hq; cases hq
            obtain ⟨zs, ds, z1, _⟩ := hupH id ob he
            have hlt := (List.getElem?_eq_some_iff.1 z1).1
            refine ⟨by simp only [Cp.putH, he]; rw [List.getElem?_set_self hlt], ?_⟩
            obtain ⟨v, hv⟩ := hkid id ob he
            refine ⟨v, ?_⟩
            rw [hsame id (by rw [hupo j p id ob hp he]; simp; omega)]
            exact hv
          · obtain ⟨h1, v, hv⟩ := hHu j q id ob hq hl2 he
            have hout : id < p.r ∨ p.r + p.obs.length ≤ id := by
              rcases Nat.lt_or_ge id p.r with h | h
              · exact .inl h
              · rcases Nat.lt_or_ge id (p.r + p.obs.length) with h2 | h2
                · have := hHf i p hp hilf (id - p.r) (by omega)
                  rw [show p.r + (id - p.r) = id from by omega, hv] at this; cases this
                · exact .inr h2
            refine ⟨?_, v, by rw [hsame id hout]; exact hv⟩
            unfold Cp.putH
            split
            · rename_i id2 ob2 he2
              have hne : id2 ≠ id := fun e => by
                subst e
                have := hupd i j p q id2 ob2 ob hp hq he2 he
                subst this
                rw [hilf] at hl2; cases hl2
              rw [List.getElem?_set_ne hne]; exact h1
            · rw [place_get (by omega)]
              rcases hout with h | h
              · rw [if_pos h]; exact h1
              · rw [if_neg (by omega), if_neg (by omega)]; exact h1
        · intro j q hq hl k hk
          have hne : j ≠ i := fun e => by
            subst e
            have := (hset j).2 (.inl rfl)
            rw [this] at hl; cases hl
          have hl2 : listed.getD j false = false := by
            cases h : listed.getD j false with
            | false => rfl
            | true => have := (hset j).2 (.inr h); rw [this] at hl; cases hl
          have h3 := hHf j q hq hl2 k hk
          rw [hsame, h3]
          rcases Nat.lt_or_gt_of_ne hne with h | h
          · have := happ j i q p hq hp h; omega
          · have := happ i j p q hp hq h; omega
  refine wp_region_any hm ?_
  have inv0 : HeadInv .any l.toArray n (Array.replicate l.toArray.size false) :=
    ⟨by simp, fun j oj _ hl => (by rw [getD_replicate_false] at hl; cases hl), fun t _ ht => getD_in (by simpa using ht) (getD_replicate_false _ _)⟩
  have hcount : ((List.range n).filter fun i => !(Array.replicate l.toArray.size false).getD i false).length = n := by
    rw [List.filter_eq_self.2]
    · simp
    · intro i _; rw [getD_replicate_false]; rfl
  have := main n (Array.replicate l.toArray.size false) st.σ (st.H ++ List.replicate (ps.flatMap Cp.obs).length .gone) κ Θ a w.drew inv0 hcount (fun i p t _ _ hl => by rw [getD_replicate_false] at hl; cases hl) (fun t _ => rfl)
    (by simp) (fun i o h => by rw [List.getElem?_append_left (List.getElem?_eq_some_iff.1 h).1]; exact h) (fun i p _ hl => by rw [getD_replicate_false] at hl; cases hl)
    (fun i q id ob _ hl => by rw [getD_replicate_false] at hl; cases hl)
    (fun i p hp _ j _ => hs.kout _ (by rw [hpr i p hp]; omega)) (hs.drew.room _)
  rw [show n + (l.toArray.size - n) = l.toArray.size from by omega] at this
  exact this

end
end Go.Cx
