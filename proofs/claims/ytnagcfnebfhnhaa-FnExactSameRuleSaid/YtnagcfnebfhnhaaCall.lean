/- Calls as contracts of the abstract walk ('Good'), how a body's abstract walk gives its contract, how a state is trimmed at a loop's head. No condition; plain lemmas. -/
import Derived.Test.YtnagcfnebfhnhaaSlc
namespace Go.Bx
open Go.RowKit

/-- arguments: values without names of own objects -/
inductive Rda (w : World) : List Value → List D → List Nat → Prop
  | nil : Rda w [] [] []
  | cons (v : Value) (vs : List Value) (d : D) (ds : List D) (b1 b2 : List Nat) : Rd w v d b1 → Rda w vs ds b2 → Rda w (v :: vs) (d :: ds) (b1 ++ b2)

def D.pureV : D → Bool
  | .agg cs => cs.all D.isP
  | .tup _ => false
  | d => d.isP
def D.pureS : D → Bool
  | .tup vs => vs.all D.pureV
  | d => d.pureV

/-- a call of f with arguments that show ds comes back with a value that shows d; what was there stays as it was -/
def Good (P : Program) (f : FuncId) (ds : List D) (d : D) : Prop :=
  (∃ fn, P.funcs[f]? = some fn ∧ fn.body.isSome = true ∧ (fn.name == "runtime.NumGoroutine") = false) ∧
  ∀ (w : World) (Θ : Nat → Nat) (args : List Value) (bs : List Nat), Rda w args ds bs → (∀ b ∈ bs, Θ b = 0) → (∀ b, Θ b ≠ 0 → b < w.heap.size) → (∀ b, Θ b ≤ 1) →
    Calls P f args.toArray w (fun e w' => ∃ v bs', e = .returned v ∧ Below w.heap.size w w' ∧ RdS w' (fun _ => none) v d bs' ∧ ∀ b ∈ bs', b < w.heap.size → Θ b = 0)

section
variable {P : Program} {Γ : Ctx} {Q : Exit → St → Prop} {st : St} {κ κ' : Nat → Option Value} {Θ Θ' : Nat → Nat} {a : Act} {w w' : World} {all : Array Oper} {rest : List Oper}

theorem Keeps.refl (h : ∀ b, Θ b ≠ 0 → b < w.heap.size) : Keeps w w Θ Θ 2 := ⟨by omega, rfl, rfl, rfl, Nat.le_refl _, fun _ _ _ => rfl, fun _ _ _ => rfl, h⟩

theorem Keeps.ofBelow (h : ∀ b, Θ b ≠ 0 → b < w.heap.size) (hb : Below w.heap.size w w') : Keeps w w' Θ Θ 2 :=
  ⟨by omega, hb.os, hb.tape, hb.output, hb.size, fun b hlt _ => hb.block b hlt, fun _ _ _ => rfl, fun b hn => Nat.lt_of_lt_of_le (h b hn) hb.size⟩

theorem RdC.names {v : Value} {d : D} {bs : List Nat} (h : RdC w κ v d bs) (hp : d.isP = true) : Rd w v d bs := by
  cases h with
  | pure h => exact h
  | acc => simp [D.isP] at hp
  | ptr => simp [D.isP] at hp
  | op => simp [D.isP] at hp

theorem RdV.pure {v : Value} {d : D} {bs : List Nat} (h : RdV w κ v d bs) (hp : d.pureV = true) : Rd w v d bs := by
  cases h with
  | cell h =>
    cases h with
    | pure h => exact h
    | acc => simp [D.pureV, D.isP] at hp
    | ptr => simp [D.pureV, D.isP] at hp
    | op => simp [D.pureV, D.isP] at hp
  | agg cs ds bs h => exact .agg _ _ _ (h.pure hp)

theorem RdS.pure {v : Value} {d : D} {bs : List Nat} (h : RdS w κ v d bs) (hp : d.pureV = true) : Rd w v d bs := by
  cases h with
  | v h => exact h.pure hp
  | tup => simp [D.pureV] at hp

theorem RdVs.unname {vs : List Value} {ds : List D} {bs : List Nat} (h : RdVs w κ vs ds bs) (hp : ds.all D.pureV = true) : RdVs w κ' vs ds bs := by
  induction ds generalizing vs bs with
  | nil => cases h; exact .nil
  | cons d ds ih =>
    simp only [List.all_cons, Bool.and_eq_true] at hp
    cases h with
    | cons v vs _ _ b1 b2 h2 h3 => exact .cons _ _ _ _ _ _ (.cell (.pure (h2.pure hp.1))) (ih h3 hp.2)

theorem RdS.unname {v : Value} {d : D} {bs : List Nat} (h : RdS w κ v d bs) (hp : d.pureS = true) : RdS w κ' v d bs := by
  cases h with
  | v h =>
    have : d.pureV = true := by
      cases h with
      | cell h => cases h with
        | pure h => cases h <;> exact hp
        | acc => exact hp
        | ptr => exact hp
        | op => exact hp
      | agg => exact hp
    exact .of (h.pure this)
  | tup vs ds bs h => exact .tup _ _ _ (h.unname hp)

theorem Sim.grow (hs : Sim Γ st κ Θ a w) (hb : Below w.heap.size w w') : Sim Γ st κ Θ a w' := by
  have k := Keeps.ofBelow hs.own hb
  refine ⟨hs.defers, hs.size, hs.kout, hs.kone, ?_, ?_, k.own, hs.keepsOld k, hs.keepsBelow k⟩
  · intro t
    obtain ⟨bs, hr, hz⟩ := hs.slot t
    exact ⟨bs, RdS.stay k (fun _ _ h => h) hr hz⟩
  · intro j o hj
    have := hs.ob j o hj
    -- no block changes: stay at a tag that no object has
    have k' : Keeps w w' Θ Θ (j + 3) := ⟨by omega, hb.os, hb.tape, hb.output, hb.size, fun b hlt _ => hb.block b hlt, fun _ _ _ => rfl, fun b hn => Nat.lt_of_lt_of_le (hs.own b hn) hb.size⟩
    exact ObRel.stay k' (fun _ _ h => h) (by omega) this

theorem Sim.drew (hs : Sim Γ st κ Θ a w) : Sim Γ st κ Θ a w.drew := hs.grow ((Below.refl _ _).drew)

theorem Sim.args (hs : Sim Γ st κ Θ a w) : ∀ (xs : List Operand), (xs.map st.ev).all D.pureV = true → ∃ bs, Rda w (xs.map a.eval) (xs.map st.ev) bs ∧ ∀ b ∈ bs, Θ b = 0 := by
  intro xs
  induction xs with
  | nil => intro _; exact ⟨[], .nil, by simp⟩
  | cons x xs ih =>
    intro h
    simp only [List.map_cons, List.all_cons, Bool.and_eq_true] at h
    obtain ⟨b1, r1, z1⟩ := hs.ev x
    obtain ⟨b2, r2, z2⟩ := ih h.2
    refine ⟨b1 ++ b2, .cons _ _ _ _ _ _ (r1.pure h.1) r2, fun b hb => ?_⟩
    rcases List.mem_append.1 hb with hb | hb
    · exact z1 b hb
    · exact z2 b hb

theorem run_call {o : Oper} {f : FuncId} {xs : Array Operand} {ts : Array TypeId} (hop : o.op = .call { callee := .value (.func f), args := xs, argTypes := ts })
    (hf : ∃ fn, P.funcs[f]? = some fn ∧ fn.body.isSome = true ∧ (fn.name == "runtime.NumGoroutine") = false) :
    (execOp a.eval o).run P w = .ok (.enter f (xs.map a.eval)) w := by
  obtain ⟨fn, h1, h2, h3⟩ := hf
  have h2' : ¬ fn.body = none := by intro hb; simp [hb] at h2
  simp only [beq_eq_false_iff_ne, ne_eq] at h3
  simp [execOp, hop, resolve, Deferred.ofValue, Act.eval, invoke, callFunc, h1, h2', h3]

theorem AO_call {o : Oper} {f t : Nat} {xs : Array Operand} {ts : Array TypeId} {ds : List D} {d : D} (hop : o.op = .call { callee := .value (.func f), args := xs, argTypes := ts }) (hd : o.dst = some t) (hg : o.guard = none)
    (ht : t < Γ.nt) (hds : xs.toList.map st.ev = ds) (hp : ds.all D.pureV = true) (hgood : Good P f ds d) (hps : d.pureS = true) (h : AO P Γ all rest Q (st.set t d)) : AO P Γ all (o :: rest) Q st := by
  subst hds
  intro κ Θ a w hs
  obtain ⟨bs, hargs, hz⟩ := hs.args xs.toList hp
  have hc := hgood.2 w (fun b => if Θ b = 0 then 0 else 1) _ bs hargs (fun b hb => if_pos (hz b hb)) (fun b hb => hs.own b (fun e => hb (if_pos e))) (fun b => by split <;> omega)
  refine wpList_plain hg fun K hK => ?_
  unfold Oper.wp
  rw [run_call hop hgood.1, Oper.upon_enter]
  have e : xs.map a.eval = (xs.toList.map a.eval).toArray := by rw [← Array.toList_map, Array.toArray_toList]
  rw [e]
  refine hc.mono ?_
  rintro e w' ⟨v, bs', rfl, hb, hr, hz'⟩
  show K (a.put o.dst v) w'
  rw [hd]
  refine hK _ _ (h κ Θ _ w' ((hs.grow hb).set ht (hr.unname hps) fun b hb' => ?_))
  by_cases hlt : b < w.heap.size
  · have := hz' b hb' hlt
    by_cases h0 : Θ b = 0
    · exact h0
    · simp [h0] at this
  · by_cases h0 : Θ b = 0
    · exact h0
    · exact absurd (hs.own b h0) hlt

/-! what a function hands back -/
def resD (P : Program) (st : St) : ResultVar → Option D
  | .tmp t => some (lk st.σ t)
  | .cell x T => match tagg P T, lk st.σ x with
    | some ag, .ptr id off => (match st.H[id]? with | some (.box cells) => pload ag (tsz P T) cells off | _ => none)
    | _, _ => none
def resDs (P : Program) (st : St) : List ResultVar → Option (List D)
  | [] => some []
  | r :: rs => match resD P st r, resDs P st rs with | some d, some ds => some (d :: ds) | _, _ => none

def resF (tmps : Array Value) : ResultVar → Sem Value
  | .tmp t => pure (tmps.getD t undef)
  | .cell a t => do loadVar t (← asAddr (tmps.getD a undef))

theorem results_eq (fn : Func) (tmps : Array Value) : results fn tmps = (do let vs ← fn.results.mapM (resF tmps); pure (if h : vs.size = 1 then vs[0] else .tuple vs)) := by
  unfold results
  congr 1

theorem resD_run (hs : Sim Γ st κ Θ a w) {r : ResultVar} {d : D} (h : resD P st r = some d) :
    ∃ v bs, (resF a.tmps r).run P w = .ok v w ∧ RdS w κ v d bs ∧ ∀ b ∈ bs, Θ b = 0 := by
  cases r with
  | tmp t =>
    simp only [resD, Option.some.injEq] at h
    subst h
    obtain ⟨bs, hr, hz⟩ := hs.slot t
    exact ⟨_, bs, by simp [resF], hr, hz⟩
  | cell x T =>
    have hp : pv P st (.load T (.tmp x)) = some d := by
      simp only [resD] at h
      split at h
      · rename_i ag id off h1 h2
        simp only [pv, h1, St.ev, h2]
        exact h
      · cases h
    obtain ⟨v, bs, hrun, hr, hz⟩ := load_gives (o := { (default : Oper) with op := .load T (.tmp x) }) hs rfl hp
    refine ⟨v, bs, ?_, hr, hz⟩
    simp only [execOp, Act.eval] at hrun
    have hptr : ∃ b off, a.tmps.getD x undef = .pointer (some ⟨b, off, none⟩) := by
      simp only [resD] at h
      split at h
      · rename_i ag id off h1 h2
        obtain ⟨b0, r0, _⟩ := hs.slot x
        rw [h2] at r0
        obtain ⟨g, _, hv⟩ := r0.ptr_inv
        exact ⟨g, off, hv⟩
      · cases h
    obtain ⟨b, off, hv⟩ := hptr
    simp only [resF, hv] at hrun ⊢
    simp only [Instr.loadAt, Instr.sureAddr, Sem.run_bind, Sem.run_pure, Result.andThen_ok] at hrun
    simp only [asAddr, Sem.run_bind, Sem.run_pure, Result.andThen_ok]
    cases hl : (loadVar T ⟨b, off, none⟩).run P w with
    | ok u w1 => simp only [hl, Result.andThen_ok, Result.ok.injEq, Next.value.injEq] at hrun; rw [hrun.1, hrun.2]
    | halt u w1 => simp [hl] at hrun

theorem resDs_run (hs : Sim Γ st κ Θ a w) : ∀ {rs : List ResultVar} {ds : List D}, resDs P st rs = some ds →
    ∃ (vs : List Value) (bs : List Nat), (rs.mapM (resF a.tmps)).run P w = .ok vs w ∧
      vs.length = rs.length ∧ ds.length = rs.length ∧ (∀ (i : Nat) d, ds[i]? = some d → ∃ v b, vs[i]? = some v ∧ RdS w κ v d b ∧ ∀ x ∈ b, x ∈ bs) ∧ ∀ b ∈ bs, Θ b = 0 := by
  intro rs
  induction rs with
  | nil =>
    intro ds h
    simp only [resDs, Option.some.injEq] at h
    subst h
    exact ⟨[], [], by simp, rfl, rfl, by simp, by simp⟩
  | cons r rs ih =>
    intro ds h
    simp only [resDs] at h
    split at h
    · rename_i d ds' h1 h2
      cases h
      obtain ⟨v, b, k1, k2, k3⟩ := resD_run hs h1
      obtain ⟨vs, bs, m1, m2, m3, m4, m5⟩ := ih h2
      refine ⟨v :: vs, b ++ bs, ?_, by simp [m2], by simp [m3], ?_, ?_⟩
      · simp only [List.mapM_cons, Sem.run_bind, k1, Result.andThen_ok, m1, Sem.run_pure]
      · intro i x hx
        cases i with
        | zero => simp at hx; subst hx; exact ⟨v, b, by simp, k2, by intro y hy; simp [hy]⟩
        | succ i =>
          simp at hx
          obtain ⟨u, b', q1, q2, q3⟩ := m4 i x hx
          exact ⟨u, b', by simpa using q1, q2, fun y hy => by simp [q3 y hy]⟩
      · intro y hy
        rcases List.mem_append.1 hy with hy | hy
        · exact k3 y hy
        · exact m5 y hy
    · cases h

def packD : List D → D
  | [d] => d
  | ds => .tup ds

def D.softC (d : D) : D := match d with
  | .nil => .sl []
  | d => d
def D.softV (d : D) : D := match d with
  | .agg cs => .agg (cs.map D.softC)
  | d => d.softC

theorem RdC.soft {v : Value} {d : D} {bs : List Nat} (h : RdC w κ v d bs) : RdC w κ v d.softC bs := by
  cases h with
  | pure h =>
    cases h with
    | nil => exact .pure .slNil
    | any => exact .pure (.any _)
    | int _ _ h => exact .pure (.int _ _ h)
    | bool => exact .pure (.bool _)
    | str _ h => exact .pure (.str _ h)
    | val => exact .pure (.val _)
    | slNil => exact .pure .slNil
    | slEmpty a cap h => exact .pure (.slEmpty a cap h)
    | sl b off cap sz rows cs bs h0 h1 h2 h3 h4 h5 => exact .pure (.sl b off cap sz rows cs bs h0 h1 h2 h3 h4 h5)
    | agg cs ds bs h => exact .pure (.agg cs ds bs h)
    | ep b off cs row o bs h0 h4 h5 => exact .pure (.ep b off cs row o bs h0 h4 h5)
  | acc i v hk => exact .acc i v hk
  | ptr i off b hk => exact .ptr i off b hk
  | op i j sz off b len cap hk => exact .op i j sz off b len cap hk

theorem RdCs.soft {vs : List Value} {ds : List D} {bs : List Nat} (h : RdCs w κ vs ds bs) : RdCs w κ vs (ds.map D.softC) bs := by
  induction ds generalizing vs bs with
  | nil => cases h; exact .nil
  | cons d ds ih => cases h with | cons v vs _ _ b1 b2 h1 h2 h3 => exact .cons _ _ _ _ _ _ h1 h2.soft (ih h3)

theorem RdS.soft {v : Value} {d : D} {bs : List Nat} (h : RdS w κ v d bs) : RdS w κ v d.softV bs := by
  cases h with
  | v h =>
    cases h with
    | cell h =>
      by_cases hagg : ∃ ds, d = .agg ds
      · obtain ⟨ds, rfl⟩ := hagg
        cases h with
        | pure h => cases h with | agg cs _ _ h => exact .v (.agg _ _ _ (RdCs.ofRds h).soft)
      · have e : d.softV = d.softC := by cases d <;> first | rfl | (exfalso; exact hagg ⟨_, rfl⟩)
        rw [e]; exact .v (.cell h.soft)
    | agg cs ds bs h => exact .v (.agg _ _ _ h.soft)
  | tup vs ds bs h => exact .tup _ _ _ h

/-- a state told in a weaker way: slices given up, nil slices shown as empty ones -/
inductive Soft : St → St → Prop
  | refl (st : St) : Soft st st
  | frz {st st' : St} (id : Nat) {e sz : Nat} {deep : Bool} {rows : List (List D)} : st.H[id]? = some (.row deep e sz rows) → Soft (st.freeze id rows) st' → Soft st st'
  | slot {st st' : St} (t : Nat) : Soft ⟨(t, (lk st.σ t).softV) :: st.σ, st.H⟩ st' → Soft st st'
  | box {st st' : St} (id : Nat) {cells : List D} : st.H[id]? = some (.box cells) → Soft ⟨st.σ, st.H.set id (.box (cells.map D.softC))⟩ st' → Soft st st'

theorem Sim.soft {st st' : St} (h : Soft st st') : ∀ {κ : Nat → Option Value} {Θ : Nat → Nat}, Sim Γ st κ Θ a w → ∃ κ' Θ', Sim Γ st' κ' Θ' a w := by
  induction h with
  | refl st => intro κ Θ hs; exact ⟨κ, Θ, hs⟩
  | frz id hH _ ih =>
    intro κ Θ hs
    obtain ⟨κ', Θ', hs'⟩ := hs.freeze hH
    exact ih hs'
  | slot t _ ih =>
    intro κ Θ hs
    refine ih (κ := κ) (Θ := Θ) ⟨hs.defers, hs.size, hs.kout, hs.kone, ?_, hs.ob, hs.own, hs.old, hs.below⟩
    intro u
    simp only [lk]
    split
    · rename_i e
      subst e
      obtain ⟨bs, hr, hz⟩ := hs.slot u
      exact ⟨bs, hr.soft, hz⟩
    · exact hs.slot u
  | box id hH _ ih =>
    intro κ Θ hs
    refine ih (κ := κ) (Θ := Θ) ⟨hs.defers, hs.size, fun i hi => hs.kout i (by simpa using hi), hs.kone, hs.slot, ?_, hs.own, hs.old, hs.below⟩
    intro j o hj
    by_cases e : id = j
    · subst e
      rw [List.getElem?_set_self (List.getElem?_eq_some_iff.1 hH).1] at hj
      cases hj
      obtain ⟨g, cs, T, hk, hg, hn0, hΘ, bs, hrs, hz⟩ := hs.ob id _ hH
      exact ⟨g, cs, T, hk, hg, hn0, hΘ, bs, hrs.soft, hz⟩
    · rw [List.getElem?_set_ne e] at hj
      exact hs.ob j o hj

/-- where a body may end: with results that show d -/
def RetQ (P : Program) (fn : Func) (d : D) (e : Exit) (st : St) : Prop :=
  (e = .ret ∨ e = .normal) ∧ ∃ st', Soft st st' ∧ ∃ ds, resDs P st' fn.results.toList = some ds ∧ ds.all D.pureV = true ∧ packD ds = d

def args0 : Nat → List D → List (Nat × D)
  | _, [] => []
  | k, d :: ds => (k, d) :: args0 (k + 1) ds

theorem lk_args0 : ∀ (ds : List D) (k t : Nat), lk (args0 k ds) t = if t < k then .any else (ds[t - k]?).getD .any := by
  intro ds
  induction ds with
  | nil => intro k t; simp [args0, lk]
  | cons d ds ih =>
    intro k t
    simp only [args0, lk]
    by_cases h : t = k
    · subst h; simp
    · rw [if_neg h, ih]
      by_cases h1 : t < k
      · rw [if_pos (by omega), if_pos h1]
      · rw [if_neg (by omega), if_neg h1]
        have : t - k = (t - (k + 1)) + 1 := by omega
        rw [this, List.getElem?_cons_succ]

theorem Rda.at {vs : List Value} {ds : List D} {bs : List Nat} (h : Rda w vs ds bs) : vs.length = ds.length ∧ ∀ (i : Nat) d, ds[i]? = some d → ∃ v b, vs[i]? = some v ∧ Rd w v d b ∧ ∀ x ∈ b, x ∈ bs := by
  induction ds generalizing vs bs with
  | nil => cases h; exact ⟨rfl, by simp⟩
  | cons e ds ih =>
    cases h with
    | cons v vs _ _ b1 b2 h2 h3 =>
      obtain ⟨l, hi⟩ := ih h3
      refine ⟨by simp [l], fun i d hd => ?_⟩
      cases i with
      | zero => simp at hd; subst hd; exact ⟨v, b1, by simp, h2, by intro x hx; simp [hx]⟩
      | succ i =>
        simp at hd
        obtain ⟨u, b, k1, k3, k4⟩ := hi i d hd
        exact ⟨u, b, by simpa using k1, k3, fun x hx => by simp [k4 x hx]⟩

/-- some value shows d in some world -/
def Rdb (d : D) : Prop := ∃ w v bs, Rd w v d bs

theorem Rdb.str {s : Bytes} (h : Rdb (.str s)) : s.length ≤ maxLen := by
  obtain ⟨w, v, bs, h⟩ := h
  cases h with | str x hx => simpa using hx
theorem Rdb.int {k : IntKind} {n : Int} (h : Rdb (.int k n)) : InR k n := by
  obtain ⟨w, v, bs, h⟩ := h
  cases h with | int _ _ hx => exact hx
theorem Rds.rdb {vs : List Value} {ds : List D} {bs : List Nat} (h : Rds w vs ds bs) : ∀ d ∈ ds, Rdb d := by
  intro d hd
  obtain ⟨i, hi, rfl⟩ := List.mem_iff_getElem.1 hd
  obtain ⟨v, b, _, _, hr, _⟩ := h.at (List.getElem?_eq_getElem hi)
  exact ⟨w, v, b, hr⟩
theorem Rdb.agg {ds : List D} (h : Rdb (.agg ds)) : ∀ d ∈ ds, Rdb d := by
  obtain ⟨w, v, bs, h⟩ := h
  cases h with | agg cs _ _ hx => exact hx.rdb
theorem Rdb.sl {rows : List (List D)} (h : Rdb (.sl rows)) : rows.length ≤ maxLen ∧ ∀ r ∈ rows, ∀ d ∈ r, Rdb d := by
  obtain ⟨w, v, bs, h⟩ := h
  cases h with
  | slNil => simp
  | slEmpty => simp
  | sl b off cap sz _ cs bs hb h1 h2 h3 h4 h5 =>
    exact ⟨by omega, fun r hr d hd => h5.rdb d (List.mem_flatten.2 ⟨r, hr, hd⟩)⟩
theorem Rda.rdb {vs : List Value} {ds : List D} {bs : List Nat} (h : Rda w vs ds bs) : ∀ d ∈ ds, Rdb d := by
  intro d hd
  obtain ⟨i, hi, rfl⟩ := List.mem_iff_getElem.1 hd
  obtain ⟨v, b, _, hr, _⟩ := h.at.2 i _ (List.getElem?_eq_getElem hi)
  exact ⟨w, v, b, hr⟩

/-- A CONTRACT OUT OF AN ABSTRACT WALK -/
theorem Good.of {f : FuncId} {fn : Func} {c : Code} {ds : List D} {d : D} (hf : P.funcs[f]? = some fn) (hb : fn.body = some c) (hn : (fn.name == "runtime.NumGoroutine") = false)
    (hl : ds.length ≤ fn.ntmps) (h : (∀ d ∈ ds, Rdb d) → ∀ Γ : Ctx, Γ.nt = fn.ntmps → AW P Γ c (RetQ P fn d) ⟨args0 0 ds, []⟩) : Good P f ds d := by
  refine ⟨⟨fn, hf, by simp [hb], hn⟩, ?_⟩
  intro w Θ args bs hargs hz hown h1
  obtain ⟨hlen, hat⟩ := hargs.at
  refine calls_of_wp hf hb ?_
  have hs : Sim ⟨w, Θ, fn.ntmps⟩ ⟨args0 0 ds, []⟩ (fun _ => none) Θ { tmps := args.toArray ++ Array.replicate (fn.ntmps - args.toArray.size) undef, defers := [] } w := by
    refine ⟨rfl, ?_, fun _ _ => rfl, by simp, ?_, by simp, hown, fun b _ => ⟨rfl, h1 b⟩, Below.refl _ _⟩
    · simp; omega
    · intro t
      rw [lk_args0]
      simp only [Nat.not_lt_zero, if_false, Nat.sub_zero]
      cases hd : ds[t]? with
      | none => exact ⟨[], .of (.any _), by simp⟩
      | some x =>
        obtain ⟨v, b, k1, k2, k3⟩ := hat t x hd
        refine ⟨b, ?_, fun y hy => hz y (k3 y hy)⟩
        have hlt : t < args.length := (List.getElem?_eq_some_iff.1 k1).1
        have : (args.toArray ++ Array.replicate (fn.ntmps - args.toArray.size) undef).getD t undef = v := by
          rw [Array.getD_eq_getD_getElem?, Array.getElem?_append_left (by simpa using hlt)]
          simp [k1]
        rw [this]
        exact .of k2
  refine wp_mono (h hargs.rdb ⟨w, Θ, fn.ntmps⟩ rfl _ _ _ _ hs) ?_
  rintro e a' w' ⟨st0, κ0, Θ0, hs0, hret, st', hsoft, es, hes, hpure, rfl⟩
  obtain ⟨κ', Θ', hs'⟩ := Sim.soft hsoft hs0
  obtain ⟨vs, bs', m1, m2, m3, m4, m5⟩ := resDs_run hs' hes
  have hold : ∀ b ∈ bs', b < w.heap.size → Θ b = 0 := by
    intro b hb' hlt
    have : Θ' b = Θ b := (hs'.old b hlt).1
    rw [← this]; exact m5 b hb'
  have hres : ∃ v b2, (results fn a'.tmps).run P w' = .ok v w' ∧ RdS w' (fun _ => none) v (packD es) b2 ∧ ∀ x ∈ b2, x ∈ bs' := by
    have hrun : (results fn a'.tmps).run P w' = .ok (if h : vs.toArray.size = 1 then vs.toArray[0] else .tuple vs.toArray) w' := by
      rw [results_eq, Array.mapM_eq_mapM_toList]
      simp [m1]
    match es, vs, m2, m3, m4, hpure, hrun with
    | [d], [v], _, _, m4, hpure, hrun =>
      obtain ⟨v', b, k1, k2, k3⟩ := m4 0 d rfl
      simp at k1
      subst k1
      simp only [List.all_cons, List.all_nil, Bool.and_true] at hpure
      exact ⟨v, b, by simpa using hrun, .of (k2.pure hpure), k3⟩
    | [], [], _, _, _, _, hrun => exact ⟨.tuple #[], [], by simpa using hrun, .tup [] [] [] .nil, by simp⟩
    | d1 :: d2 :: es, v1 :: v2 :: vs, m2, m3, m4, hpure, hrun =>
      have hvs : ∀ (es : List D) (vs : List Value), vs.length = es.length → es.all D.pureV = true → (∀ (i : Nat) d, es[i]? = some d → ∃ v b, vs[i]? = some v ∧ RdS w' κ' v d b ∧ ∀ x ∈ b, x ∈ bs') →
          ∃ b2, RdVs w' (fun _ => none) vs es b2 ∧ ∀ x ∈ b2, x ∈ bs' := by
        intro es
        induction es with
        | nil => intro vs hl _ _; cases vs with | nil => exact ⟨[], .nil, by simp⟩ | cons => simp at hl
        | cons e es ih =>
          intro vs hl hp hm
          cases vs with
          | nil => simp at hl
          | cons u vs =>
            simp only [List.all_cons, Bool.and_eq_true] at hp
            obtain ⟨u', b, k1, k2, k3⟩ := hm 0 e rfl
            simp at k1
            subst k1
            obtain ⟨b2, n1, n2⟩ := ih vs (by simpa using hl) hp.2 (fun i d hd => by
              obtain ⟨u', b, k1, k2, k3⟩ := hm (i + 1) d (by simpa using hd)
              exact ⟨u', b, by simpa using k1, k2, k3⟩)
            refine ⟨b ++ b2, .cons _ _ _ _ _ _ (.cell (.pure (k2.pure hp.1))) n1, fun x hx => ?_⟩
            rcases List.mem_append.1 hx with hx | hx
            · exact k3 x hx
            · exact n2 x hx
      obtain ⟨b2, n1, n2⟩ := hvs (d1 :: d2 :: es) (v1 :: v2 :: vs) (by omega) hpure m4
      exact ⟨.tuple (v1 :: v2 :: vs).toArray, b2, by simpa using hrun, .tup _ _ _ n1, n2⟩
    | [_], [], m2, m3, _, _, _ => simp at m2 m3; omega
    | [_], _ :: _ :: _, m2, m3, _, _, _ => simp at m2 m3; omega
    | [], _ :: _, m2, m3, _, _, _ => simp at m2 m3; omega
    | _ :: _ :: _, [], m2, m3, _, _, _ => simp at m2 m3; omega
    | _ :: _ :: _, [_], m2, m3, _, _, _ => simp at m2 m3; omega
  obtain ⟨v, b2, hr1, hr2, hr3⟩ := hres
  have post : a'.defers = [] ∧ ∃ v, (results fn a'.tmps).run P w' = .ok v w' ∧ ∃ u bs', Ending.returned v = .returned u ∧ Below w.heap.size w w' ∧ RdS w' (fun _ => none) u (packD es) bs' ∧ ∀ b ∈ bs', b < w.heap.size → Θ b = 0 :=
    ⟨hs'.defers, v, hr1, v, b2, rfl, hs'.below, hr2, fun b hb' => hold b (hr3 b hb')⟩
  rcases hret with rfl | rfl
  · exact post
  · exact post
end
end Go.Bx
