/- Regions whose order is drawn: where each operation of the head only computes or calls a function that leaves what was there as it was, every order gives the state of the text's order. No condition; plain lemmas. -/
import Derived.Test.YtoeenpcilfhjbaaDoorNCall
import Derived.StillTail
namespace Go.Cx
set_option linter.unusedVariables false
set_option linter.unusedSimpArgs false
open Go.RowKit

section
variable {P : Program} {Γ : Ctx} {Q : Exit → St → Prop} {st : St} {κ : Nat → Option Value} {Θ : Nat → Nat} {a : Act} {w : World} {all : Array Oper}

/-- the objects of the first list are those of the second -/
def Ext (H H' : List Ob) : Prop := ∀ (i : Nat) o, H[i]? = some o → H'[i]? = some o

theorem ev_H (σ : List (Nat × D)) (H H' : List Ob) (x : Operand) : St.ev ⟨σ, H⟩ x = St.ev ⟨σ, H'⟩ x := by cases x <;> rfl

theorem pv_mono {σ σ' : List (Nat × D)} {H H' : List Ob} {op : Op} {d : D} (hx : Ext H H') (he : ∀ x ∈ op.operands.toList, St.ev ⟨σ, H⟩ x = St.ev ⟨σ', H'⟩ x) (h : pv P ⟨σ, H⟩ op = some d) : pv P ⟨σ', H'⟩ op = some d := by
  have hm : ∀ (o : Option Operand), (∀ x ∈ o.toArray.toList, St.ev ⟨σ, H⟩ x = St.ev ⟨σ', H'⟩ x) → o.map (St.ev ⟨σ, H⟩) = o.map (St.ev ⟨σ', H'⟩) := by
    intro o h
    cases o with
    | none => rfl
    | some x => simp [h x (by simp)]
  cases op <;> simp only [pv] at h ⊢ <;> (try cases h)
  case move x => rw [he x (by simp [Op.operands])] at *
  case assign x => rw [he x (by simp [Op.operands])] at *
  case nilCheck x => rw [he x (by simp [Op.operands])] at h; exact h
  case pick c x y => rw [he c (by simp [Op.operands]), he x (by simp [Op.operands]), he y (by simp [Op.operands])] at h; exact h
  case binOp op t x y t' => rw [he x (by simp [Op.operands]), he y (by simp [Op.operands])] at h; exact h
  case unOp op t x => cases op <;> simp only [pv] at h ⊢ <;> (try cases h) <;> (rw [he x (by simp [Op.operands])] at h; exact h)
  case convert s d x => rw [he x (by simp [Op.operands])] at h; exact h
  case field t x f => rw [he x (by simp [Op.operands])] at h; exact h
  case fieldAddr t x f => rw [he x (by simp [Op.operands])] at h; exact h
  case indexAddr t x i =>
    rw [he x (by simp [Op.operands]), he i (by simp [Op.operands])] at h
    split at h
    · rename_i e sz rows kk n h1 h2 h3
      (try simp only [h1, h2, h3]); exact h
    · rename_i e sz id kk n h1 h2 h3
      (try simp only [h1, h2, h3])
      split at h
      · rename_i k e' sz' rows hH
        simp only [hx id _ hH]; exact h
      · cases h
    · rename_i g o' kk n h1 h2
      (try simp only [h1, h2])
      generalize tel P t = q at h ⊢
      cases q <;> exact h
    · cases h
  case load t x =>
    rw [he x (by simp [Op.operands])] at h
    split at h
    · rename_i ag row off h1 h2
      (try simp only [h1, h2]); exact h
    · rename_i ag id off h1 h2
      (try simp only [h1, h2])
      split at h
      · rename_i cells hH
        obtain ⟨ob, hH, hob⟩ := Option.bind_eq_some_iff.1 hH
        simp only [hx id _ hH, Option.bind_some, hob]; exact h
      · cases h
    · rename_i ag id i sz off h1 h2
      (try simp only [h1, h2])
      split at h
      · rename_i p n e' sz' rows hH
        simp only [hx id _ hH]; exact h
      · rename_i k e' sz' rows hnh hH
        simp only [hx id _ hH]
        cases k with
        | ho p n => exact (hnh _ _ rfl).elim
        | _ => exact h
      · cases h
    · rename_i ag g o' h1 h2
      (try simp only [h1, h2]); exact h
    · cases h
  case lookup T x i ok =>
    rw [he x (by simp [Op.operands]), he i (by simp [Op.operands])] at h
    split at h
    · rename_i id h1
      (try simp only [h1])
      split at h
      · rename_i kv hH
        simp only [hx id _ hH]; exact h
      · cases h
    · cases h
  case extract x i => rw [he x (by simp [Op.operands])] at h; exact h
  case index t x i => rw [he x (by simp [Op.operands]), he i (by simp [Op.operands])] at h; exact h
  case slice t x lo hi mx =>
    cases mx with
    | none =>
      simp only [pv] at h ⊢
      rw [he x (by simp [Op.operands]), hm lo (fun y hy => he y (by simp only [Op.operands, Array.toList_append, List.mem_append]; exact .inl (.inl (.inr hy)))),
        hm hi (fun y hy => he y (by simp only [Op.operands, Array.toList_append, List.mem_append]; exact .inl (.inr hy)))] at h
      exact h
    | some m => simp only [pv] at h; cases h
  case build t parts =>
    have : (parts.toList.map fun p => (p.1, St.ev ⟨σ, H⟩ p.2)) = parts.toList.map fun p => (p.1, St.ev ⟨σ', H'⟩ p.2) := by
      apply List.map_congr_left
      intro p hp
      rw [he p.2 (by simp only [Op.operands]; simp; exact ⟨p.1, by simpa using hp⟩)]
    rw [this] at h; exact h
  case call c =>
    split at h
    · rename_i x t h1 h2 h3
      have hxm : x ∈ (Op.call c).operands.toList := by
        simp only [Op.operands, Call.operands, Array.toList_append, List.mem_append, h2]
        exact .inr (by simp)
      (try simp only [h1, h2, h3])
      unfold plen at h ⊢
      rw [he x hxm] at h
      split at h
      · rename_i s hs; (try simp only [hs]); exact h
      · rename_i rows hs; (try simp only [hs]); exact h
      · rename_i hs; (try simp only [hs]); exact h
      · rename_i id hs
        (try simp only [hs])
        split at h
        · rename_i kk k e sz rows h4 h5
          simp only [h4, hx id _ h5]; exact h
        · cases h
      · cases h
    · rename_i x y t t' h1 h2 h3
      have hxm : x ∈ (Op.call c).operands.toList := by
        simp only [Op.operands, Call.operands, Array.toList_append, List.mem_append, h2]
        exact .inr (by simp)
      have hym : y ∈ (Op.call c).operands.toList := by
        simp only [Op.operands, Call.operands, Array.toList_append, List.mem_append, h2]
        exact .inr (by simp)
      (try simp only [h1, h2, h3])
      rw [he x hxm, he y hym] at h
      exact h
    · cases h

theorem vwC_mono {H H' : List Ob} (hx : Ext H H') {d e : D} {ms : List Nat} (h : vwC H d = some (e, ms)) : vwC H' d = some (e, ms) := by
  cases d <;> simp only [vwC] at h ⊢ <;> (try exact h)
  split at h
  · rename_i k e' sz rows hH; simp only [hx _ _ hH]; exact h
  · rename_i sz rows u hH; simp only [hx _ _ hH]; exact h
  · rename_i rows hH; simp only [hx _ _ hH]; exact h
  · cases h
theorem vwCs_mono {H H' : List Ob} (hx : Ext H H') : ∀ {ds es : List D} {ms : List Nat}, vwCs H ds = some (es, ms) → vwCs H' ds = some (es, ms) := by
  intro ds
  induction ds with
  | nil => intro es ms h; exact h
  | cons d ds ih =>
    intro es ms h
    simp only [vwCs] at h ⊢
    split at h
    · rename_i e m es' ms' h1 h2
      rw [vwC_mono hx h1, ih h2]; exact h
    · cases h
theorem vwV_mono {H H' : List Ob} (hx : Ext H H') {d e : D} {ms : List Nat} (h : vwV H d = some (e, ms)) : vwV H' d = some (e, ms) := by
  by_cases hagg : ∃ ds, d = .agg ds
  · obtain ⟨ds, rfl⟩ := hagg
    simp only [vwV] at h ⊢
    split at h
    · rename_i es ms' h1; rw [vwCs_mono hx h1]; exact h
    · cases h
  · by_cases ht : ∃ vs, d = .tup vs
    · obtain ⟨vs, rfl⟩ := ht; simp [vwV] at h
    · have e1 : ∀ H, vwV H d = vwC H d := by intro H; cases d <;> first | rfl | exact absurd ⟨_, rfl⟩ hagg | exact absurd ⟨_, rfl⟩ ht
      rw [e1] at h ⊢
      exact vwC_mono hx h
theorem vwVs_mono {H H' : List Ob} (hx : Ext H H') : ∀ {ds es : List D} {ms : List Nat}, vwVs H ds = some (es, ms) → vwVs H' ds = some (es, ms) := by
  intro ds
  induction ds with
  | nil => intro es ms h; exact h
  | cons d ds ih =>
    intro es ms h
    simp only [vwVs] at h ⊢
    split at h
    · rename_i e m es' ms' h1 h2
      rw [vwV_mono hx h1, ih h2]; exact h
    · cases h

/-- what one operation of the head gives: a value for its slot, and objects; a late store: the box that it fills -/
structure Cp where
  t : Option Nat
  d : D
  r : Nat
  obs : List Ob
  up : Option (Nat × Ob)

/-- what arguments show: own objects looked into, or as they are where no name occurs -/
def Looks (H : List Ob) (vs ds : List D) (ms : List Nat) : Prop := vwVs H vs = some (ds, ms) ∨ (vs.all keepV = true ∧ ds = vs ∧ ms = [])
def CalmOp (P : Program) (H : List Ob) (σ : List (Nat × D)) (o : Oper) (p : Cp) : Prop :=
  (pv P ⟨σ, H⟩ o.op = some p.d ∧ p.obs = []) ∨ ∃ (f : FuncId) (xs : Array Operand) (ts : Array TypeId) (ds : List D) (ms : List Nat) (d : D), o.op = .call { callee := .value (.func f), args := xs, argTypes := ts } ∧
    Looks H (xs.toList.map (St.ev ⟨σ, H⟩)) ds ms ∧ (ms = [] ∨ d.ownS = true) ∧ Good P f ds d ∧ (instS p.r d = (p.d, p.obs) ∨ (d.ownT = true ∧ p.d = d.shV ∧ p.obs = []))
def CalmBox (P : Program) (H : List Ob) (σ : List (Nat × D)) (o : Oper) (p : Cp) : Prop :=
  (∃ T zs, o.op = .alloc T ∧ tz P T = some zs ∧ p.d = .ptr p.r 0 ∧ p.obs = [.box zs]) ∨ ∃ T x ds, o.op = .box T x ∧ (St.ev ⟨σ, H⟩ x).cellsOf = some ds ∧ p.d = .ptr p.r 0 ∧ p.obs = [.box ds]
def CalmRow (P : Program) (H : List Ob) (σ : List (Nat × D)) (o : Oper) (p : Cp) : Prop :=
  ∃ T e sz len parts zs ds es, o.op = .buildSlice T len parts ∧ tel P T = some (e, sz) ∧ tz P e = some zs ∧ 0 < sz ∧ len * sz ≤ 16777216 ∧
    pfill (rowPlaces len sz) (List.replicate len zs).flatten (parts.toList.map fun q => (q.1, St.ev ⟨σ, H⟩ q.2)) = some ds ∧ absL H ds = some (es, []) ∧ p.d = .acc p.r ∧ p.obs = [.row (rkOf (uqL H e 0 ds)) e sz (chunk sz len es)]
/-- a slice of plain values that is only looked into -/
def CalmLit (P : Program) (H : List Ob) (σ : List (Nat × D)) (o : Oper) (p : Cp) : Prop :=
  ∃ T e sz len parts zs ds, o.op = .buildSlice T len parts ∧ tel P T = some (e, sz) ∧ tz P e = some zs ∧ 0 < sz ∧ len * sz ≤ 16777216 ∧
    pfill (rowPlaces len sz) (List.replicate len zs).flatten (parts.toList.map fun q => (q.1, St.ev ⟨σ, H⟩ q.2)) = some ds ∧ ds.all D.isP = true ∧ ds.all D.flat = true ∧ p.d = .sl (chunk sz len ds) ∧ p.obs = []
def CalmO (P : Program) (H : List Ob) (σ : List (Nat × D)) (o : Oper) (p : Cp) : Prop := CalmOp P H σ o p ∨ CalmBox P H σ o p ∨ CalmRow P H σ o p ∨ CalmLit P H σ o p

/-- an operation with a slot -/
def CalmV (P : Program) (Γ : Ctx) (all : Array Oper) (H : List Ob) (σ : List (Nat × D)) (o : Oper) (p : Cp) : Prop :=
  ∃ t, p.t = some t ∧ p.up = none ∧ o.dst = some t ∧ t < Γ.nt ∧ ((o.guard = none ∧ CalmO P H σ o p) ∨
    (∃ (j s : Nat) (want b : Bool), o.guard = some (j, want) ∧ (all[j]?).bind (·.dst) = some s ∧ lk σ s = .bool b ∧ ((b = want ∧ CalmO P H σ o p) ∨ (b ≠ want ∧ p.d = .tup [] ∧ p.obs = []))) ∨
    ∃ (j s : Nat) (want : Bool), o.guard = some (j, want) ∧ (all[j]?).bind (·.dst) = some s ∧ lk σ s = .tup [] ∧ p.d = .tup [] ∧ p.obs = [])
/-- a late store: it fills a box that was made in the head -/
def CalmS (P : Program) (H : List Ob) (σ : List (Nat × D)) (o : Oper) (p : Cp) : Prop :=
  p.t = none ∧ p.obs = [] ∧ o.dst = none ∧ o.guard = none ∧ ∃ T x y id ds, o.op = .store T x y ∧ St.ev ⟨σ, H⟩ x = .ptr id 0 ∧ H.length ≤ id ∧ (St.ev ⟨σ, H⟩ y).cellsOf = some ds ∧ tinf P T = true ∧ ds.length = tsz P T ∧ p.up = some (id, .box ds)
def CalmAt (P : Program) (Γ : Ctx) (all : Array Oper) (H : List Ob) (σ : List (Nat × D)) (o : Oper) (p : Cp) : Prop := CalmV P Γ all H σ o p ∨ CalmS P H σ o p

def Cp.slot (p : Cp) (σ : List (Nat × D)) : List (Nat × D) := match p.t with | some t => (t, p.d) :: σ | none => σ
/-- the head's objects behind an operation; n: how many there were ahead of the head -/
def Cp.fill (n : Nat) (p : Cp) (acc : List Ob) : List Ob := match p.up with | some (id, ob) => acc.set (id - n) ob | none => acc ++ p.obs
/-- the box that a late store fills is there, of its size, and not filled yet -/
def Cp.upOk (n : Nat) (p : Cp) (U : List Nat) (acc : List Ob) : Prop := match p.up with | some (id, ob) => id ∉ U ∧ n ≤ id ∧ ∃ zs ds, acc[id - n]? = some (.box zs) ∧ ob = .box ds ∧ zs.length = ds.length | none => True
def Cp.ups (p : Cp) (U : List Nat) : List Nat := match p.up with | some (id, _) => id :: U | none => U

def ACalm (P : Program) (Γ : Ctx) (all : Array Oper) (H : List Ob) (K : List (Nat × D) → List Ob → Prop) : List Oper → List (Nat × D) → List Ob → List Nat → Prop
  | [], σ, acc, _ => K σ acc
  | o :: os, σ, acc, U => ∃ p : Cp, p.r = H.length + acc.length ∧ CalmAt P Γ all H σ o p ∧ p.upOk H.length U acc ∧ ACalm P Γ all H K os (p.slot σ) (p.fill H.length acc) (p.ups U)

theorem wpOp_plain {Q' : Exit → Act → World → Prop} {ops : Array Oper} {i : Nat} {o : Oper} {K : Act → World → Prop} (hi : ops[i]? = some o) (hw : Region.wanted o (yielded ops a.tmps) = true) (h : o.wp P a w K Q') : wpOp P ops Q' i K a w := by
  unfold wpOp
  simp only [hi, hw, if_true]
  exact .inl h

theorem Sim.yields (hs : Sim Γ st κ Θ a w) {ops : Array Oper} {j s : Nat} {b : Bool} (hj : (ops[j]?).bind (·.dst) = some s) (hb : lk st.σ s = .bool b) : yielded ops a.tmps j = some b := by
  obtain ⟨bs, r, _⟩ := hs.slot s
  rw [hb] at r
  have hv := r.bool_inv
  have hlt : s < a.tmps.size := by
    rcases Nat.lt_or_ge s a.tmps.size with h | h
    · exact h
    · exfalso
      rw [Array.getD_eq_getD_getElem?, Array.getElem?_eq_none h] at hv
      simp [undef] at hv
  have h1 : a.tmps[s]? = some (.bool b) := by
    rw [Array.getD_eq_getD_getElem?, Array.getElem?_eq_getElem hlt] at hv
    rw [Array.getElem?_eq_getElem hlt]
    simpa using hv
  simp [yielded, hj, h1]

theorem ev_congr {st st' : St} {ops : Array Oper} {o : Oper} (h : ∀ t ∈ o.looksAt ops, lk st.σ t = lk st'.σ t) : ∀ x ∈ o.op.operands.toList, st.ev x = st'.ev x := by
  intro x hx
  cases x with
  | tmp t =>
    refine h t ?_
    unfold Oper.looksAt
    exact List.mem_append.2 (.inl (List.mem_filterMap.2 ⟨.tmp t, hx, rfl⟩))
  | const v => rfl
  | global g => rfl
  | func f => rfl

theorem lk_app (l : List (Nat × D)) (σ : List (Nat × D)) (t : Nat) : (∀ p ∈ l, p.1 ≠ t) → lk (l ++ σ) t = lk σ t := by
  induction l with
  | nil => intro _; rfl
  | cons q l ih =>
    intro h
    obtain ⟨u, d⟩ := q
    simp only [List.cons_append, lk]
    rw [if_neg (fun e => h (u, d) (by simp) e.symm)]
    exact ih (fun p hp => h p (by simp [hp]))

theorem lk_mem (l : List (Nat × D)) (σ : List (Nat × D)) (p : Nat × D) (hp : p ∈ l) (hd : ∀ q ∈ l, q.1 = p.1 → q = p) : lk (l ++ σ) p.1 = p.2 := by
  induction l with
  | nil => cases hp
  | cons q l ih =>
    obtain ⟨u, d⟩ := q
    simp only [List.cons_append, lk]
    by_cases e : p.1 = u
    · rw [if_pos e]
      have := hd (u, d) (by simp) e.symm
      rw [← this]
    · rw [if_neg e]
      rcases List.mem_cons.1 hp with rfl | hp
      · exact absurd rfl e
      · exact ih hp (fun q hq => hd q (by simp [hq]))

/-- the list with other objects from place r on -/
def place (H : List Ob) (r : Nat) (obs : List Ob) : List Ob := H.take r ++ (obs ++ H.drop (r + obs.length))

theorem place_get {H : List Ob} {r : Nat} {obs : List Ob} (h : r + obs.length ≤ H.length) (j : Nat) : (place H r obs)[j]? = if j < r then H[j]? else if j < r + obs.length then obs[j - r]? else H[j]? := by
  unfold place
  have hl : (H.take r).length = r := by rw [List.length_take]; omega
  by_cases h1 : j < r
  · rw [if_pos h1, List.getElem?_append_left (by omega), List.getElem?_take, if_pos h1]
  · rw [if_neg h1, List.getElem?_append_right (by omega), hl]
    by_cases h2 : j < r + obs.length
    · rw [if_pos h2, List.getElem?_append_left (by omega)]
    · rw [if_neg h2, List.getElem?_append_right (by omega), List.getElem?_drop]
      congr 1; omega
theorem place_length {H : List Ob} {r : Nat} {obs : List Ob} (h : r + obs.length ≤ H.length) : (place H r obs).length = H.length := by
  unfold place; simp; omega

theorem CalmOp.wp {Q' : Exit → Act → World → Prop} {σ : List (Nat × D)} {H H' : List Ob} {o : Oper} {p : Cp} {K : Act → World → Prop} (hs : Sim Γ ⟨σ, H'⟩ κ Θ a w) (hx : Ext H H') {t : Nat} (hd : o.dst = some t) (ht : t < Γ.nt) (h : CalmOp P H σ o p)
    (hr : p.r + p.obs.length ≤ H'.length) (hfree : ∀ i, i < p.obs.length → κ (p.r + i) = none)
    (hK : ∀ κ' Θ' a' w', Sim Γ ⟨(t, p.d) :: σ, place H' p.r p.obs⟩ κ' Θ' a' w' → (∀ j, (j < p.r ∨ p.r + p.obs.length ≤ j) → κ' j = κ j) → K a' w') : o.wp P a w K Q' := by
  rcases h with ⟨h, hno⟩ | ⟨f, xs, ts, ds, ms, d, hop, hds, hsh, hgood, hi⟩
  · have h' := pv_mono (σ := σ) (σ' := σ) hx (fun x _ => ev_H σ H H' x) h
    obtain ⟨v, bs, hrun, hrd, hz⟩ := pv_gives hs h'
    unfold Oper.wp
    rw [hrun, Oper.upon_value, hd]
    have hp : place H' p.r p.obs = H' := by rw [hno]; simp [place]
    exact hK κ Θ _ _ (by rw [hp]; exact hs.set ht hrd hz) (fun _ _ => rfl)
  · have hev : xs.toList.map (St.ev ⟨σ, H⟩) = xs.toList.map (St.ev ⟨σ, H'⟩) := List.map_congr_left (fun x _ => ev_H σ H H' x)
    have hargs0 : ∃ bs, Rda w (xs.toList.map a.eval) ds bs ∧ ∀ b ∈ bs, Seen Θ ms b := by
      rcases hds with hds | ⟨hk, rfl, rfl⟩
      · have := vwVs_mono hx hds
        rw [hev] at this
        exact vwVs_rd hs this
      · rw [hev] at hk ⊢
        exact keepVs_rd hs hk
    obtain ⟨bs, hargs, hz⟩ := hargs0
    let Θc : Nat → Nat := fun b => if Θ b = 0 ∨ ms.any (fun m => Θ b == m + 2) then 0 else 1
    have hseen : ∀ b, Seen Θ ms b → Θc b = 0 := by
      intro b h
      simp only [Θc]
      rw [if_pos]
      rcases h with h | ⟨m, h1, h2⟩
      · exact .inl h
      · exact .inr (List.any_eq_true.2 ⟨m, h1, by simp [h2]⟩)
    have hc := hgood.2 w Θc _ bs hs.vok hargs (fun b hb => hseen b (hz b hb)) (fun b hb => hs.own b (fun e => hb (hseen b (.inl e)))) (fun b => by simp only [Θc]; split <;> omega)
    unfold Oper.wp
    rw [run_call hop hgood.1, Oper.upon_enter]
    have e : xs.map a.eval = (xs.toList.map a.eval).toArray := by rw [← Array.toList_map, Array.toArray_toList]
    rw [e]
    refine hc.mono ?_
    rintro e w' ⟨v, bs', tb, ub, rfl, hb, hr', hz', htb, hnd, hfr, hsub⟩
    show K (a.put o.dst v) w'
    rw [hd]
    rcases hi with hi | ⟨hown, hpd, hpo⟩
    rotate_left
    · cases hr' with
      | tup => cases hown
      | v hv =>
        have hbs : bs' = [] := hv.own (by
          unfold D.ownT at hown
          split at hown
          · cases hown
          · exact hown)
        obtain ⟨b, q, s⟩ := hv.shownIn
        have hp : place H' p.r p.obs = H' := by rw [hpo]; simp [place]
        refine hK κ Θ _ w' ?_ (fun _ _ => rfl)
        rw [hp, hpd]
        refine (hs.grow hb).set ht (.v (.cell (.pure q))) fun x hx' => ?_
        rcases s x hx' with h | h
        · rw [hbs] at h; cases h
        · by_cases h0 : Θ x = 0
          · exact h0
          · have := hs.own x h0; have := (hfr x h).1; omega
    obtain ⟨L, q1, q2, q3, q4, q6, q5⟩ := hr'.inst p.r
    rw [hi] at q1 q5
    simp only at q1 q5
    have hbz : ∀ b ∈ bs', Θ b = 0 := by
      intro b hb'
      rcases hsh with hms | hown
      · by_cases hlt : b < w.heap.size
        · have h0 := hz' b hb' hlt
          simp only [Θc, hms, List.any_nil] at h0
          by_cases h1 : Θ b = 0
          · exact h1
          · simp [h1] at h0
        · by_cases h0 : Θ b = 0
          · exact h0
          · exact absurd (hs.own b h0) hlt
      · rw [hr'.own hown] at hb'; cases hb'
    have hLl : L.length = p.obs.length := by have := congrArg List.length q1; simpa using this
    obtain ⟨κ', Θ', hs', hnm, _, hno, hsame⟩ := hs.installAt hb L q2 (q3 ▸ hnd) (fun b hb' => hfr b (q3 ▸ hb')) (fun x hx hx' b hb' => ⟨hbz b (q6 x hx hx' b hb'), q4 ▸ htb b (q6 x hx hx' b hb')⟩) p.r (place H' p.r p.obs) (fun i hi' => hfree i (by omega)) (by rw [place_length hr]; exact Nat.le_refl _) (by rw [place_length hr]; omega) (by
      intro j y hj
      rw [place_get hr] at hj
      split at hj
      · rename_i h1; exact .inr ⟨.inl h1, .inr hj⟩
      · rename_i h1
        split at hj
        · rename_i h2
          rw [← q1, List.getElem?_map] at hj
          cases hx' : L[j - p.r]? with
          | none => simp [hx'] at hj
          | some x => simp [hx'] at hj; exact .inl ⟨j - p.r, x, by omega, hx', hj.symm⟩
        · exact .inr ⟨.inr (by omega), .inr hj⟩)
    obtain ⟨b0, hr0, hsub0⟩ := q5 κ' hnm
    refine hK κ' Θ' _ w' (hs'.set (t := t) ht hr0 fun b hb' => ?_) (fun j hj => hsame j (by omega))
    rw [hno b (q4 ▸ htb b (hsub0 b hb'))]; exact hbz b (hsub0 b hb')

theorem Sim.newBoxAt {σ : List (Nat × D)} {H' : List Ob} (hs : Sim Γ ⟨σ, H'⟩ κ Θ a w) {r : Nat} (hr : r + 1 ≤ H'.length) (hfree : κ r = none) {cs : Array Value} {ds : List D} {bs : List Nat} (T : TypeId) (hrd : RdCs w κ cs.toList ds bs) (hz : ∀ b ∈ bs, Θ b = 0) :
    Sim Γ ⟨σ, place H' r [.box ds]⟩ (upd κ r (some (.pointer (some ⟨w.heap.size, 0, none⟩)))) (fun b => if b = w.heap.size then r + 2 else Θ b) a (w.alloc (.cells cs T)) := by
  have k := Keeps.alloc hs (.cells cs T) (tag := r + 2) (by omega)
  have hn := upd_old hfree (some (Value.pointer (some ⟨w.heap.size, 0, none⟩)))
  obtain ⟨h1, h2⟩ := RdCs.stay k hn hrd hz
  obtain ⟨ρ, hu⟩ := hs.uniq
  refine hs.put (id := r) (o := .box ds) [] ?_ hn ?_ ?_ k (hs.keepsMine (fun b hb => by by_cases e : b = w.heap.size <;> simp_all)) ?_ hu (by simp) (by intro e sz rows h; cases h)
  · intro j y hj
    rw [place_get (by simpa using hr)] at hj
    split at hj
    · exact .inr ⟨by omega, hj⟩
    · split at hj
      · rename_i h2
        simp only [List.length_cons, List.length_nil] at h2
        have e : j = r := by omega
        subst e
        simp at hj
        exact .inl ⟨rfl, hj.symm⟩
      · rename_i h2
        simp only [List.length_cons, List.length_nil] at h2
        exact .inr ⟨by omega, hj⟩
  · intro i hi
    rw [place_length (by simpa using hr)] at hi
    unfold upd
    rw [if_neg (by omega)]
    exact hs.kout i hi
  · intro i x hx
    unfold upd at hx
    split at hx
    · cases hx; rfl
    · exact hs.kone i x hx
  · exact ⟨w.heap.size, cs, T, by simp [upd], heap_alloc_new w _, by simp, bs, h1, h2⟩

theorem CalmBox.wp {Q' : Exit → Act → World → Prop} {σ : List (Nat × D)} {H H' : List Ob} {o : Oper} {p : Cp} {K : Act → World → Prop} (hs : Sim Γ ⟨σ, H'⟩ κ Θ a w) {t : Nat} (hd : o.dst = some t) (ht : t < Γ.nt) (h : CalmBox P H σ o p)
    (hr : p.r + p.obs.length ≤ H'.length) (hfree : ∀ i, i < p.obs.length → κ (p.r + i) = none)
    (hK : ∀ κ' Θ' a' w', Sim Γ ⟨(t, p.d) :: σ, place H' p.r p.obs⟩ κ' Θ' a' w' → (∀ j, (j < p.r ∨ p.r + p.obs.length ≤ j) → κ' j = κ j) → K a' w') : o.wp P a w K Q' := by
  rcases h with ⟨T, zs, hop, hz, hpd, hpo⟩ | ⟨T, x, ds, hop, hc, hpd, hpo⟩
  · rw [hpo] at hr hfree hK
    rw [hpd] at hK
    obtain ⟨i, z, hi, hz0, hsz, hlen, hone, rfl⟩ := zero_cells hz
    have hs' := hs.newBoxAt (r := p.r) hr (by simpa using hfree 0 (by simp)) T (cs := z.cells) (ofV_cells z.cells.toList hone) (by simp)
    unfold Oper.wp
    have hrun : (execOp a.eval o).run P w = .ok (.value (.pointer (some ⟨w.heap.size, 0, none⟩))) (w.alloc (.cells z.cells T)) := by
      simp [execOp, hop, Instr.alloc, zeroValue, typeInfo, hi, hz0, newVar, newRow]
    rw [hrun, Oper.upon_value, hd]
    refine hK _ _ _ _ (hs'.set (t := t) (d := .ptr p.r 0) (bs := []) ht ?_ (by simp)) (fun j hj => ?_)
    · exact (RdC.ptr p.r 0 w.heap.size (by simp [upd])).toS
    · unfold upd
      simp only [List.length_cons, List.length_nil] at hj
      rw [if_neg (by omega)]
  · rw [hpo] at hr hfree hK
    rw [hpd] at hK
    obtain ⟨bs, rr, hz⟩ := hs.ev x
    rw [ev_H σ H' H x] at rr
    have hcs := cells_rd hs.kone rr hc
    have hs' := hs.newBoxAt (r := p.r) hr (by simpa using hfree 0 (by simp)) T hcs hz
    unfold Oper.wp
    have hrun : (execOp a.eval o).run P w = .ok (.value (.pointer (some ⟨w.heap.size, 0, none⟩))) (w.alloc (.cells (a.eval x).cells T)) := by
      simp [execOp, hop, Instr.box, newVar, newRow]
    rw [hrun, Oper.upon_value, hd]
    refine hK _ _ _ _ (hs'.set (t := t) (d := .ptr p.r 0) (bs := []) ht ?_ (by simp)) (fun j hj => ?_)
    · exact (RdC.ptr p.r 0 w.heap.size (by simp [upd])).toS
    · unfold upd
      simp only [List.length_cons, List.length_nil] at hj
      rw [if_neg (by omega)]

theorem Sim.newRowAt {σ : List (Nat × D)} {H' : List Ob} (hs : Sim Γ ⟨σ, H'⟩ κ Θ a w) {r : Nat} (hr : r + 1 ≤ H'.length) (hfree : κ r = none) {u : Bool} {e sz cap : Nat} {rows : List (List D)} {bs : List Nat} (cur : Array Value) (hsz : 0 < sz) (hrl : ∀ x ∈ rows, x.length = sz)
    (hcur : cur.size = cap * sz) (hn : rows.length ≤ cap) (hcap : cap ≤ maxLen) (hrd : Rds w (cur.toList.take (rows.length * sz)) rows.flatten bs) (hz : ∀ b ∈ bs, Θ b = 0) (hq : u = true → bs = [] ∧ RdF w (fcol e) 0 (cur.toList.take (rows.length * sz)) rows.flatten bs) :
    Sim Γ ⟨σ, place H' r [.row (rkOf u) e sz rows]⟩ (upd κ r (some (.slice (some ⟨w.heap.size, 0, none⟩) rows.length cap))) (fun b => if b = w.heap.size then r + 2 else Θ b) a (w.alloc (.cells cur e)) := by
  have k := Keeps.alloc hs (.cells cur e) (tag := r + 2) (by omega)
  have hkn := upd_old hfree (some (Value.slice (some ⟨w.heap.size, 0, none⟩) rows.length cap))
  obtain ⟨h1, h2⟩ := Rds.over k hrd hz
  have hlen : (cur.toList.take (rows.length * sz)).length = rows.length * sz := by
    have : rows.length * sz ≤ cap * sz := Nat.mul_le_mul_right _ hn
    have h3 : cur.toList.length = cap * sz := by rw [← hcur]; simp
    rw [List.length_take, h3, Nat.min_eq_left this]
  have hown : (w.alloc (.cells cur e)).ownsRow 0 e sz (.slice (some ⟨w.heap.size, 0, none⟩) rows.length cap) rows.length (cur.toList.take (rows.length * sz)) :=
    ⟨hlen, .inr ⟨w.heap.size, cap, cur, rfl, by omega, heap_alloc_new w _, hn, hcap, hcur, rfl⟩⟩
  obtain ⟨ρ, hu⟩ := hs.uniq
  refine hs.put (id := r) (o := .row (rkOf u) e sz rows) [] ?_ hkn ?_ ?_ k (hs.keepsMine (fun b hb => by by_cases e : b = w.heap.size <;> simp_all)) ?_ hu (by simp) ?_
  · intro j y hj
    rw [place_get (by simpa using hr)] at hj
    split at hj
    · exact .inr ⟨by omega, hj⟩
    · split at hj
      · rename_i h2
        simp only [List.length_cons, List.length_nil] at h2
        have e : j = r := by omega
        subst e
        simp at hj
        exact .inl ⟨rfl, hj.symm⟩
      · rename_i h2
        simp only [List.length_cons, List.length_nil] at h2
        exact .inr ⟨by omega, hj⟩
  · intro i hi
    rw [place_length (by simpa using hr)] at hi
    unfold upd
    rw [if_neg (by omega)]
    exact hs.kout i hi
  · intro i x hx
    unfold upd at hx
    split at hx
    · cases hx; rfl
    · exact hs.kone i x hx
  · refine ⟨hsz, hrl, _, _, bs, by simp [upd], hown, h1, ?_, ?_⟩
    · intro g hg
      simp only [Value.ownBlock, Option.some.injEq] at hg
      subst hg
      simp
    · cases u <;> exact h2
  · intro e' sz' rows' he
    cases u with
    | false => simp [rkOf] at he
    | true =>
      simp only [rkOf, Ob.row.injEq, true_and] at he
      obtain ⟨rfl, rfl, rfl⟩ := he
      obtain ⟨h0, hF⟩ := hq rfl
      subst h0
      exact ⟨_, _, [], by simp [upd], hown, hF.over k hz, by simp, by simp⟩

theorem absL_ext {H H' : List Ob} (hx : Ext H H') : ∀ {ds es : List D} {ms : List Nat}, absL H ds = some (es, ms) → absL H' ds = some (es, ms) := by
  intro ds
  induction ds with
  | nil => intro es ms h; exact h
  | cons d ds ih =>
    intro es ms h
    simp only [absL] at h ⊢
    split at h
    · rename_i e m es' ms' h1 h2
      have : absC H' d = some (e, m) := by
        cases d <;> simp only [absC] at h1 ⊢ <;> (try exact h1)
        split at h1
        · rename_i k rows hH
          obtain ⟨o, hH, ho⟩ := Option.bind_eq_some_iff.1 hH
          simp only [hx _ _ hH, Option.bind_some, ho]; exact h1
        · cases h1
      rw [this, ih h2]; exact h
    · cases h

theorem CalmRow.wp {Q' : Exit → Act → World → Prop} {σ : List (Nat × D)} {H H' : List Ob} {o : Oper} {p : Cp} {K : Act → World → Prop} (hs : Sim Γ ⟨σ, H'⟩ κ Θ a w) (hx : Ext H H') {t : Nat} (hd : o.dst = some t) (ht : t < Γ.nt) (h : CalmRow P H σ o p)
    (hr : p.r + p.obs.length ≤ H'.length) (hfree : ∀ i, i < p.obs.length → κ (p.r + i) = none)
    (hK : ∀ κ' Θ' a' w', Sim Γ ⟨(t, p.d) :: σ, place H' p.r p.obs⟩ κ' Θ' a' w' → (∀ j, (j < p.r ∨ p.r + p.obs.length ≤ j) → κ' j = κ j) → K a' w') : o.wp P a w K Q' := by
  obtain ⟨T, e, sz, len, parts, zs, ds, es, hop, hT, hz, hsz, hsmall, hf, habs, hpd, hpo⟩ := h
  rw [hpo] at hr hfree hK
  rw [hpd] at hK
  have hf' : pfill (rowPlaces len sz) (List.replicate len zs).flatten (parts.toList.map fun q => (q.1, St.ev ⟨σ, H'⟩ q.2)) = some ds := by
    rw [← hf]; congr 1
  obtain ⟨arr, b0, hrun, harr, hb0, hal, hdl⟩ := buildSlice_run (st := ⟨σ, H'⟩) hop hT hz hsz hsmall hf' hs
  obtain ⟨ρ, hu⟩ := hs.uniq
  obtain ⟨bs, q1, q2, q3⟩ := abs_rd (H := H) (ρ := ρ) habs (by simp) harr hb0 (by simp) e 0
  have hel : es.length = len * sz := by rw [← q1.length, harr.length, hdl]
  obtain ⟨c1, c2, c3⟩ := chunk_props sz len es hel
  have hs' := hs.newRowAt (r := p.r) hr (by simpa using hfree 0 (by simp)) (u := uqL H e 0 ds) (e := e) (sz := sz) (cap := len) (rows := chunk sz len es) (bs := bs) arr hsz c3 hal (by rw [c1]; exact Nat.le_refl _)
    (by unfold maxLen; have : len * 1 ≤ len * sz := Nat.mul_le_mul_left _ hsz; omega) (by rw [c1, c2, List.take_of_length_le (by simp [hal])]; exact q1) q2
    (fun hq => by
      obtain ⟨_, h2, h3⟩ := q3 hq
      refine ⟨?_, by rw [c1, c2, List.take_of_length_le (by simp [hal])]; exact h3⟩
      cases bs with
      | nil => rfl
      | cons b bs => obtain ⟨m, hm, _⟩ := h2 b (by simp); cases hm)
  unfold Oper.wp
  rw [hrun, Oper.upon_value, hd]
  rw [c1] at hs'
  refine hK _ _ _ _ (hs'.set (t := t) (d := .acc p.r) (bs := []) ht ?_ (by simp)) (fun j hj => ?_)
  · exact (RdC.acc p.r _ (by simp [upd])).toS
  · unfold upd
    simp only [List.length_cons, List.length_nil] at hj
    rw [if_neg (by omega)]

theorem CalmLit.wp {Q' : Exit → Act → World → Prop} {σ : List (Nat × D)} {H H' : List Ob} {o : Oper} {p : Cp} {K : Act → World → Prop} (hs : Sim Γ ⟨σ, H'⟩ κ Θ a w) {t : Nat} (hd : o.dst = some t) (ht : t < Γ.nt) (h : CalmLit P H σ o p)
    (hK : ∀ κ' Θ' a' w', Sim Γ ⟨(t, p.d) :: σ, place H' p.r p.obs⟩ κ' Θ' a' w' → (∀ j, (j < p.r ∨ p.r + p.obs.length ≤ j) → κ' j = κ j) → K a' w') : o.wp P a w K Q' := by
  obtain ⟨T, e, sz, len, parts, zs, ds, hop, hT, hz, hsz, hsmall, hf, hisP, hflat, hpd, hpo⟩ := h
  rw [hpo] at hK
  rw [hpd] at hK
  have hf' : pfill (rowPlaces len sz) (List.replicate len zs).flatten (parts.toList.map fun q => (q.1, St.ev ⟨σ, H'⟩ q.2)) = some ds := by
    rw [← hf]; congr 1
  obtain ⟨arr, b0, hrun, harr, hb0, hal, hdl⟩ := buildSlice_run (st := ⟨σ, H'⟩) hop hT hz hsz hsmall hf' hs
  have hrd := harr.pure hisP
  have hb0' : b0 = [] := hrd.flat hflat
  subst hb0'
  obtain ⟨c1, c2, c3⟩ := chunk_props sz len ds hdl
  have hbelow : Below w.heap.size w (w.alloc (.cells arr e)) := by
    have k := Keeps.alloc hs (.cells arr e) (tag := 2) (by omega)
    refine ⟨k.os, k.tape, k.output, k.size, fun b hlt => ?_⟩
    simp only [World.alloc]
    rw [Array.getElem?_push, if_neg (by omega)]
  have hs' := hs.grow hbelow
  unfold Oper.wp
  rw [hrun, Oper.upon_value, hd]
  have hpl : place H' p.r ([] : List Ob) = H' := by simp [place]
  rw [hpl] at hK
  refine hK _ _ _ _ (hs'.set (t := t) (d := .sl (chunk sz len ds)) (bs := [w.heap.size]) ht ?_ ?_) (fun j hj => rfl)
  · have hcell : ∀ j c, arr.toList[j]? = some c → (w.alloc (.cells arr e)).cell? ⟨w.heap.size, 0 + j, none⟩ = some c := by
      intro j c hj
      simp only [Nat.zero_add, World.cell?, heap_alloc_new w _]
      simpa using hj
    have hlt : w.heap.size < (w.alloc (.cells arr e)).heap.size := (Array.getElem?_eq_some_iff.1 (heap_alloc_new w _)).1
    have := Rd.sl (w := w.alloc (.cells arr e)) w.heap.size 0 len sz (chunk sz len ds) arr.toList [] hlt (by rw [c1]; exact Nat.le_refl _) (by unfold maxLen; have : len * 1 ≤ len * sz := Nat.mul_le_mul_left _ hsz; omega) c3 hcell (by rw [c2]; exact hrd.keep (by simp))
    rw [c1] at this
    exact .of this
  · intro b hb
    simp only [List.mem_singleton] at hb
    subst hb
    cases h : Θ w.heap.size with
    | zero => rfl
    | succ m => exact absurd (hs.own w.heap.size (by omega)) (by omega)

theorem CalmO.wp {Q' : Exit → Act → World → Prop} {σ : List (Nat × D)} {H H' : List Ob} {o : Oper} {p : Cp} {K : Act → World → Prop} (hs : Sim Γ ⟨σ, H'⟩ κ Θ a w) (hx : Ext H H') {t : Nat} (hd : o.dst = some t) (ht : t < Γ.nt) (h : CalmO P H σ o p)
    (hr : p.r + p.obs.length ≤ H'.length) (hfree : ∀ i, i < p.obs.length → κ (p.r + i) = none)
    (hK : ∀ κ' Θ' a' w', Sim Γ ⟨(t, p.d) :: σ, place H' p.r p.obs⟩ κ' Θ' a' w' → (∀ j, (j < p.r ∨ p.r + p.obs.length ≤ j) → κ' j = κ j) → K a' w') : o.wp P a w K Q' := by
  rcases h with h | h | h | h
  · exact h.wp hs hx hd ht hr hfree hK
  · exact h.wp hs hd ht hr hfree hK
  · exact h.wp hs hx hd ht hr hfree hK
  · exact h.wp hs hd ht hK

theorem Sim.unyields (hs : Sim Γ st κ Θ a w) {ops : Array Oper} {j s : Nat} (hj : (ops[j]?).bind (·.dst) = some s) (hb : lk st.σ s = .tup []) : yielded ops a.tmps j = none := by
  obtain ⟨bs, r, _⟩ := hs.slot s
  rw [hb] at r
  have hv := r.undef_inv
  rcases Nat.lt_or_ge s a.tmps.size with hlt | hlt
  · have h1 : a.tmps[s]? = some (.tuple #[]) := by
      rw [Array.getD_eq_getD_getElem?, Array.getElem?_eq_getElem hlt] at hv
      rw [Array.getElem?_eq_getElem hlt]
      simpa using hv
    simp [yielded, hj, h1]
  · simp [yielded, hj, Array.getElem?_eq_none hlt]

/-- the objects behind an operation of the head, each in its place -/
def Cp.putH (p : Cp) (H' : List Ob) : List Ob := match p.up with | some (id, ob) => H'.set id ob | none => place H' p.r p.obs

theorem CalmAt.wp {Q' : Exit → Act → World → Prop} {σ : List (Nat × D)} {H H' : List Ob} {ops : Array Oper} {i : Nat} {o : Oper} {p : Cp} {K : Act → World → Prop} (hs : Sim Γ ⟨σ, H'⟩ κ Θ a w) (hx : Ext H H') (hi : ops[i]? = some o) (h : CalmAt P Γ ops H σ o p)
    (hr : p.r + p.obs.length ≤ H'.length) (hfree : ∀ i, i < p.obs.length → κ (p.r + i) = none) (hup : ∀ id ob, p.up = some (id, ob) → ∃ zs ds, H'[id]? = some (.box zs) ∧ ob = .box ds ∧ zs.length = ds.length)
    (hK : ∀ κ' Θ' a' w', Sim Γ ⟨p.slot σ, p.putH H'⟩ κ' Θ' a' w' → (∀ j, (j < p.r ∨ p.r + p.obs.length ≤ j) → κ' j = κ j) → K a' w') : wpOp P ops Q' i K a w := by
  rcases h with ⟨t, hpt, hpu, hd, ht, h⟩ | ⟨hpt, hpo, hd, hg, T, x, y, id, ds, hop, hev, hlen, hc, hT, hl, hpu⟩
  · have e1 : p.slot σ = (t, p.d) :: σ := by simp [Cp.slot, hpt]
    have e2 : p.putH H' = place H' p.r p.obs := by simp [Cp.putH, hpu]
    rw [e1, e2] at hK
    rcases h with ⟨hg, hc⟩ | ⟨j, s, want, b, hg, hj, hb, hc⟩ | ⟨j, s, want, hg, hj, hb, hany, hno⟩
    · exact wpOp_plain hi (by simp [Region.wanted, hg]) (hc.wp hs hx hd ht hr hfree hK)
    · have hy := hs.yields hj hb
      rcases hc with ⟨rfl, hc⟩ | ⟨hne, hany, hno⟩
      · exact wpOp_plain hi (by simp [Region.wanted, hg, hy]) (hc.wp hs hx hd ht hr hfree hK)
      · unfold wpOp
        have hw : Region.wanted o (yielded ops a.tmps) = false := by simp [Region.wanted, hg, hy, hne]
        simp only [hi, hw, Bool.false_eq_true, if_false, hd]
        have hp : place H' p.r p.obs = H' := by rw [hno]; simp [place]
        exact hK κ Θ _ _ (by rw [hp, hany]; exact hs.set ht (.tup [] [] [] .nil) (by simp)) (fun _ _ => rfl)
    · have hy := hs.unyields hj hb
      unfold wpOp
      have hw : Region.wanted o (yielded ops a.tmps) = false := by simp [Region.wanted, hg, hy]
      simp only [hi, hw, Bool.false_eq_true, if_false, hd]
      have hp : place H' p.r p.obs = H' := by rw [hno]; simp [place]
      exact hK κ Θ _ _ (by rw [hp, hany]; exact hs.set ht (.tup [] [] [] .nil) (by simp)) (fun _ _ => rfl)
  · have e1 : p.slot σ = σ := by simp [Cp.slot, hpt]
    have e2 : p.putH H' = H'.set id (.box ds) := by simp [Cp.putH, hpu]
    rw [e1, e2] at hK
    obtain ⟨zs, ds', hz, he, hzl⟩ := hup id _ hpu
    cases he
    obtain ⟨w', hrun, hs'⟩ := store_run (st := ⟨σ, H'⟩) hop (by rw [ev_H σ H' H x]; exact hev) hz rfl (by rw [ev_H σ H' H y]; exact hc) hT hl (by omega) rfl hs
    refine wpOp_plain hi (by simp [Region.wanted, hg]) ?_
    unfold Oper.wp
    rw [hrun, Oper.upon_skip, hd]
    have e3 : zs.take 0 ++ ds ++ zs.drop (0 + ds.length) = ds := by
      rw [List.drop_of_length_le (by omega)]; simp
    rw [e3] at hs'
    exact hK κ Θ _ _ hs' (fun _ _ => rfl)

theorem CalmOp.congr {H : List Ob} {σ σ' : List (Nat × D)} {o : Oper} {p : Cp} (he : ∀ x ∈ o.op.operands.toList, St.ev ⟨σ, H⟩ x = St.ev ⟨σ', H⟩ x) (h : CalmOp P H σ o p) : CalmOp P H σ' o p := by
  rcases h with ⟨h, hno⟩ | ⟨f, xs, ts, ds, ms, d, hop, hds, hsh, hgood, hi⟩
  · exact .inl ⟨pv_mono (fun _ _ h => h) he h, hno⟩
  · have hm : xs.toList.map (St.ev ⟨σ, H⟩) = xs.toList.map (St.ev ⟨σ', H⟩) := by
      apply List.map_congr_left
      intro x hx
      refine he x ?_
      rw [hop]
      simp only [Op.operands, Call.operands, Array.toList_append, List.mem_append]
      exact .inr hx
    rw [hm] at hds
    exact .inr ⟨f, xs, ts, ds, ms, d, hop, hds, hsh, hgood, hi⟩

theorem CalmO.congr {H : List Ob} {σ σ' : List (Nat × D)} {o : Oper} {p : Cp} (he : ∀ x ∈ o.op.operands.toList, St.ev ⟨σ, H⟩ x = St.ev ⟨σ', H⟩ x) (h : CalmO P H σ o p) : CalmO P H σ' o p := by
  rcases h with h | (h | ⟨T, x, ds, hop, hc, hpd, hpo⟩) | ⟨T, e, sz, len, parts, zs, ds, es, hop, hT, hz, hsz, hsmall, hf, habs, hpd, hpo⟩ | ⟨T, e, sz, len, parts, zs, ds, hop, hT, hz, hsz, hsmall, hf, habs, hfl, hpd, hpo⟩
  · exact .inl (h.congr he)
  · exact .inr (.inl (.inl h))
  · exact .inr (.inl (.inr ⟨T, x, ds, hop, by rw [← he x (by rw [hop]; simp [Op.operands])]; exact hc, hpd, hpo⟩))
  · refine .inr (.inr (.inl ⟨T, e, sz, len, parts, zs, ds, es, hop, hT, hz, hsz, hsmall, ?_, habs, hpd, hpo⟩))
    rw [← hf]
    congr 1
    apply List.map_congr_left
    intro q hq
    rw [he q.2 ?_]
    rw [hop]
    simp only [Op.operands, Array.toList_map]
    exact List.mem_map.2 ⟨q, hq, rfl⟩
  · refine .inr (.inr (.inr ⟨T, e, sz, len, parts, zs, ds, hop, hT, hz, hsz, hsmall, ?_, habs, hfl, hpd, hpo⟩))
    rw [← hf]
    congr 1
    apply List.map_congr_left
    intro q hq
    rw [he q.2 ?_]
    rw [hop]
    simp only [Op.operands, Array.toList_map]
    exact List.mem_map.2 ⟨q, hq, rfl⟩

theorem CalmAt.congr {H : List Ob} {σ σ' : List (Nat × D)} {ops : Array Oper} {o : Oper} {p : Cp} (he : ∀ t ∈ o.looksAt ops, lk σ t = lk σ' t) (h : CalmAt P Γ ops H σ o p) : CalmAt P Γ ops H σ' o p := by
  have hev := ev_congr (st := ⟨σ, H⟩) (st' := ⟨σ', H⟩) he
  have hgu : ∀ {j s : Nat} {want : Bool}, o.guard = some (j, want) → (ops[j]?).bind (·.dst) = some s → lk σ s = lk σ' s := by
    intro j s want hg hj
    refine he s ?_
    unfold Oper.looksAt
    refine List.mem_append.2 (.inr ?_)
    simp [hg, hj]
  rcases h with ⟨t, hpt, hpu, hd, ht, h⟩ | ⟨hpt, hpo, hd, hg, T, x, y, id, ds, hop, hx, hlen, hc, hT, hl, hpu⟩
  · refine .inl ⟨t, hpt, hpu, hd, ht, ?_⟩
    rcases h with ⟨hg, hc⟩ | ⟨j, s, want, b, hg, hj, hb, hc⟩ | ⟨j, s, want, hg, hj, hb, hc⟩
    · exact .inl ⟨hg, hc.congr hev⟩
    · refine .inr (.inl ⟨j, s, want, b, hg, hj, by rw [← hgu hg hj]; exact hb, ?_⟩)
      rcases hc with ⟨h1, hc⟩ | hc
      · exact .inl ⟨h1, hc.congr hev⟩
      · exact .inr hc
    · exact .inr (.inr ⟨j, s, want, hg, hj, by rw [← hgu hg hj]; exact hb, hc⟩)
  · refine .inr ⟨hpt, hpo, hd, hg, T, x, y, id, ds, hop, ?_, hlen, ?_, hT, hl, hpu⟩
    · rw [← hev x (by rw [hop]; simp [Op.operands])]; exact hx
    · rw [← hev y (by rw [hop]; simp [Op.operands])]; exact hc

def Cp.sl (p : Cp) : Option (Nat × D) := p.t.map fun t => (t, p.d)
theorem Cp.slot_eq (p : Cp) (σ : List (Nat × D)) : p.slot σ = p.sl.toList ++ σ := by
  unfold Cp.slot Cp.sl
  cases p.t <;> rfl
theorem fm_cons (p : Cp) (ps : List Cp) (σ : List (Nat × D)) : ((p :: ps).filterMap Cp.sl).reverse ++ σ = (ps.filterMap Cp.sl).reverse ++ p.slot σ := by
  rw [Cp.slot_eq, List.filterMap_cons]
  cases p.sl <;> simp

theorem CalmAt.upObs {H : List Ob} {σ : List (Nat × D)} {o : Oper} {p : Cp} (h : CalmAt P Γ all H σ o p) : p.up = none ∨ p.obs = [] := by
  rcases h with ⟨_, _, h, _⟩ | ⟨_, h, _⟩
  · exact .inl h
  · exact .inr h
theorem CalmAt.slots {H : List Ob} {σ : List (Nat × D)} {o : Oper} {p : Cp} (h : CalmAt P Γ all H σ o p) : o.dst = p.t := by
  rcases h with ⟨t, h1, _, h2, _⟩ | ⟨h1, _, h2, _⟩
  · rw [h1, h2]
  · rw [h1, h2]

theorem ACalm.unfold {H : List Ob} {K : List (Nat × D) → List Ob → Prop} : ∀ (l : List Oper) (σ : List (Nat × D)) (acc : List Ob) (U : List Nat), ACalm P Γ all H K l σ acc U →
    ∃ (ps : List Cp) (accF : List Ob), ps.length = l.length ∧ (∀ (i : Nat) o p, l[i]? = some o → ps[i]? = some p → CalmAt P Γ all H (((ps.take i).filterMap Cp.sl).reverse ++ σ) o p ∧ p.r = H.length + acc.length + ((ps.take i).flatMap Cp.obs).length ∧
        ∀ id ob, p.up = some (id, ob) → id ∉ U ∧ H.length ≤ id ∧ (∃ zs ds, ob = .box ds ∧ zs.length = ds.length ∧ (acc ++ (ps.take i).flatMap Cp.obs)[id - H.length]? = some (.box zs)) ∧ ∀ (i2 : Nat) q ob2, i2 < i → ps[i2]? = some q → q.up ≠ some (id, ob2)) ∧
      K ((ps.filterMap Cp.sl).reverse ++ σ) accF ∧ accF.length = acc.length + (ps.flatMap Cp.obs).length ∧
      (∀ k, (∀ (i : Nat) q ob, ps[i]? = some q → q.up ≠ some (H.length + k, ob)) → accF[k]? = (acc ++ ps.flatMap Cp.obs)[k]?) ∧
      ∀ (i : Nat) q id ob, ps[i]? = some q → q.up = some (id, ob) → accF[id - H.length]? = some ob := by
  intro l
  induction l with
  | nil =>
    intro σ acc U h
    have h : K σ acc := h
    exact ⟨[], acc, rfl, by simp, by simpa using h, by simp, by simp, by simp⟩
  | cons o l ih =>
    intro σ acc U h
    obtain ⟨p, hr, hc, hok, hrest⟩ := h
    obtain ⟨ps, accF, h1, h2, h3, h4, h5, h6⟩ := ih _ _ _ hrest
    cases hup : p.up with
    | none =>
      have ef : p.fill H.length acc = acc ++ p.obs := by simp [Cp.fill, hup]
      have eu : p.ups U = U := by simp [Cp.ups, hup]
      rw [ef] at h2 h4 h5
      rw [eu] at h2
      refine ⟨p :: ps, accF, by simp [h1], ?_, by rw [fm_cons]; exact h3, by rw [h4]; simp; omega, ?_, ?_⟩
      · intro i o' p' ho hp
        cases i with
        | zero =>
          simp at ho hp; subst ho; subst hp
          refine ⟨by simpa using hc, by simpa using hr, ?_⟩
          intro id ob he; rw [hup] at he; cases he
        | succ i =>
          simp at ho hp
          obtain ⟨q1, q2, q3⟩ := h2 i o' p' ho hp
          refine ⟨by rw [List.take_succ_cons, fm_cons]; exact q1, by rw [q2]; simp; omega, ?_⟩
          intro id ob he
          obtain ⟨r1, r2, ⟨zs, ds, r3, r4, r5⟩, r6⟩ := q3 id ob he
          refine ⟨r1, r2, ⟨zs, ds, r3, r4, by rw [← r5]; simp⟩, ?_⟩
          intro i2 q ob2 hlt hq
          cases i2 with
          | zero => simp at hq; subst hq; rw [hup]; simp
          | succ i2 => exact r6 i2 q ob2 (by omega) (by simpa using hq)
      · intro k hk
        rw [h5 k (fun i q ob hq => hk (i + 1) q ob (by simpa using hq))]
        simp
      · intro i q id ob hq he
        cases i with
        | zero => simp at hq; subst hq; rw [hup] at he; cases he
        | succ i => exact h6 i q id ob (by simpa using hq) he
    | some x =>
      obtain ⟨id0, ob0⟩ := x
      have ef : p.fill H.length acc = acc.set (id0 - H.length) ob0 := by simp [Cp.fill, hup]
      have eu : p.ups U = id0 :: U := by simp [Cp.ups, hup]
      have ho0 : p.obs = [] := by
        rcases hc.upObs with h | h
        · rw [h] at hup; cases hup
        · exact h
      rw [ef] at h2 h4 h5
      rw [eu] at h2
      simp only [Cp.upOk, hup] at hok
      obtain ⟨u1, u2, zs0, ds0, u3, u4, u5⟩ := hok
      have hset : ∀ (X : List Ob) (k : Nat), k ≠ id0 - H.length → (acc.set (id0 - H.length) ob0 ++ X)[k]? = (acc ++ X)[k]? := by
        intro X k hk
        by_cases hl : k < acc.length
        · rw [List.getElem?_append_left (by simpa using hl), List.getElem?_append_left hl, List.getElem?_set_ne (Ne.symm hk)]
        · rw [List.getElem?_append_right (by simpa using hl), List.getElem?_append_right (by omega)]; simp
      have hno : ∀ (i : Nat) q ob2, ps[i]? = some q → q.up ≠ some (id0, ob2) := by
        intro i q ob2 hq he
        have hlt : i < l.length := by have := (List.getElem?_eq_some_iff.1 hq).1; omega
        have := (h2 i l[i] q (List.getElem?_eq_getElem hlt) hq).2.2 id0 ob2 he
        exact this.1 (by simp)
      refine ⟨p :: ps, accF, by simp [h1], ?_, by rw [fm_cons]; exact h3, by rw [h4]; simp [ho0], ?_, ?_⟩
      · intro i o' p' ho hp
        cases i with
        | zero =>
          simp at ho hp; subst ho; subst hp
          refine ⟨by simpa using hc, by simpa using hr, ?_⟩
          intro id ob he
          rw [hup] at he; cases he
          exact ⟨u1, u2, ⟨zs0, ds0, u4, u5, by simpa using u3⟩, by intro i2 q ob2 hlt; omega⟩
        | succ i =>
          simp at ho hp
          obtain ⟨q1, q2, q3⟩ := h2 i o' p' ho hp
          refine ⟨by rw [List.take_succ_cons, fm_cons]; exact q1, by rw [q2]; simp [ho0], ?_⟩
          intro id ob he
          obtain ⟨r1, r2, ⟨zs, ds, r3, r4, r5⟩, r6⟩ := q3 id ob he
          have hne : id ≠ id0 := fun e => r1 (by simp [e])
          refine ⟨fun h => r1 (by simp [h]), r2, ⟨zs, ds, r3, r4, ?_⟩, ?_⟩
          · rw [← r5, hset _ _ (by omega)]; simp [ho0]
          · intro i2 q ob2 hlt hq
            cases i2 with
            | zero => simp at hq; subst hq; rw [hup]; intro e; cases e; exact hne rfl
            | succ i2 => exact r6 i2 q ob2 (by omega) (by simpa using hq)
      · intro k hk
        rw [h5 k (fun i q ob hq => hk (i + 1) q ob (by simpa using hq))]
        have hne : k ≠ id0 - H.length := fun e => hk 0 p ob0 rfl (by rw [hup, e, show H.length + (id0 - H.length) = id0 from by omega])
        rw [hset _ _ hne]; simp [ho0]
      · intro i q id ob hq he
        cases i with
        | zero =>
          simp at hq; subst hq; rw [hup] at he; cases he
          rw [h5 (id0 - H.length) (fun i q ob2 hq => by rw [show H.length + (id0 - H.length) = id0 from by omega]; exact hno i q ob2 hq)]
          have hl : id0 - H.length < acc.length := (List.getElem?_eq_some_iff.1 u3).1
          rw [List.getElem?_append_left (by simpa using hl), List.getElem?_set_self hl]
        | succ i => exact h6 i q id ob (by simpa using hq) he

theorem Sim.same {σ' : List (Nat × D)} (h : ∀ t, lk st.σ t = lk σ' t) (hs : Sim Γ st κ Θ a w) : Sim Γ ⟨σ', st.H⟩ κ Θ a w :=
  ⟨hs.defers, hs.size, hs.kout, hs.kone, fun t => by show ∃ bs, RdS w κ _ (lk σ' t) bs ∧ _; rw [← h t]; exact hs.slot t, hs.ob, hs.own, hs.old, hs.mine, hs.stays, hs.uniq⟩

/-- places for objects to come -/
theorem Sim.room (hs : Sim Γ st κ Θ a w) (m : Nat) : Sim Γ ⟨st.σ, st.H ++ List.replicate m .gone⟩ κ Θ a w := by
  have key : ∀ (j : Nat) y, (st.H ++ List.replicate m .gone)[j]? = some y → y = .gone ∨ st.H[j]? = some y := by
    intro j y hj
    by_cases hlt : j < st.H.length
    · rw [List.getElem?_append_left hlt] at hj; exact .inr hj
    · rw [List.getElem?_append_right (by omega)] at hj
      rw [List.getElem?_replicate] at hj
      split at hj
      · cases hj; exact .inl rfl
      · cases hj
  obtain ⟨ρ, hu⟩ := hs.uniq
  refine ⟨hs.defers, hs.size, fun i hi => hs.kout i (by simp at hi; omega), hs.kone, hs.slot, ?_, hs.own, hs.old, hs.mine, hs.stays, ρ, hu.free, ?_, ?_⟩
  · intro j o hj
    rcases key j o hj with rfl | h
    · trivial
    · exact hs.ob j o h
  · intro id e sz rows hj
    rcases key id _ hj with h | h
    · cases h
    · exact hu.rows id e sz rows h
  · intro id o hj
    rcases key id _ hj with h | h
    · subst h; trivial
    · exact hu.more id o h

theorem flatMap_split {ps : List Cp} {i : Nat} {p : Cp} (h : ps[i]? = some p) : ps.flatMap Cp.obs = (ps.take i).flatMap Cp.obs ++ (p.obs ++ (ps.drop (i + 1)).flatMap Cp.obs) := by
  have e : ps = ps.take i ++ (p :: ps.drop (i + 1)) := by
    obtain ⟨hlt, rfl⟩ := List.getElem?_eq_some_iff.1 h
    rw [List.getElem_cons_drop, List.take_append_drop]
  conv => lhs; rw [e]
  simp

theorem flatMap_find {ps : List Cp} : ∀ {k : Nat}, k < (ps.flatMap Cp.obs).length → ∃ (i : Nat) (p : Cp) (j : Nat), ps[i]? = some p ∧ j < p.obs.length ∧ k = ((ps.take i).flatMap Cp.obs).length + j := by
  induction ps with
  | nil => intro k h; simp at h
  | cons p ps ih =>
    intro k h
    by_cases hk : k < p.obs.length
    · exact ⟨0, p, k, rfl, hk, by simp⟩
    · simp only [List.flatMap_cons, List.length_append] at h
      obtain ⟨i, q, j, h1, h2, h3⟩ := ih (k := k - p.obs.length) (by omega)
      refine ⟨i + 1, q, j, by simpa using h1, h2, ?_⟩
      rw [List.take_succ_cons, List.flatMap_cons, List.length_append]; omega

theorem prefix_le {ps : List Cp} {i j : Nat} {p : Cp} (hp : ps[i]? = some p) (hij : i < j) : ((ps.take i).flatMap Cp.obs).length + p.obs.length ≤ ((ps.take j).flatMap Cp.obs).length := by
  have h : (ps.take j)[i]? = some p := by rw [List.getElem?_take, if_pos hij]; exact hp
  have := flatMap_split h
  rw [this]
  have e : (ps.take j).take i = ps.take i := by rw [List.take_take, Nat.min_eq_left (by omega)]
  rw [e]
  simp only [List.length_append]
  omega

end
end Go.Cx
