/- Calls that are handed a pointer to a variable of the caller's (with what it holds) and slices of the caller's own. No condition; plain lemmas. -/
import Derived.Test.YtoeenpcilfhjbaaDoorNOwn
namespace Go.Cx
set_option linter.unusedVariables false
set_option linter.unusedSimpArgs false
open Go.RowKit

/-- f is handed a pointer to a variable that holds 'cells' (and slices that are handed over: '.fr'); afterwards the variable holds cells'; all else stays -/
def GoodP (P : Program) (f : FuncId) (cells cells' : List D) (ds : List D) (d : D) : Prop :=
  (∃ fn, P.funcs[f]? = some fn ∧ fn.body.isSome = true ∧ (fn.name == "runtime.NumGoroutine") = false) ∧
  ∀ (w : World) (Θ : Nat → Nat) (g : Nat) (cs : Array Value) (T : TypeId) (args : List Value) (bs ts us : List Nat),
    Vok w (fun b => b = g ∨ b ∈ ts) → w.heap[g]? = some (.cells cs T (0, 0)) → ResVs w (.agg cs :: args) (.agg cells :: ds) bs ts us →
    (∀ b ∈ bs, Θ b = 0) → (∀ b, Θ b ≠ 0 → b < w.heap.size) → (∀ b, Θ b ≤ 1) → Θ g = 1 → (∀ b ∈ ts, Θ b = 1 ∧ b ∈ us ∧ b ≠ g) → us.Nodup → (∀ b ∈ us, (b ∉ ts → Θ b = 0) ∧ Wr w b) →
    Calls P f (.pointer (some ⟨g, 0, none⟩) :: args).toArray w (fun e w' => ∃ v cs' T' b2 t2 u2 b3 t3 u3, e = .returned v ∧ w'.os = w.os ∧ w'.tape = w.tape ∧ w'.output = w.output ∧ w.heap.size ≤ w'.heap.size ∧
      (∀ b, b < w.heap.size → b ≠ g → b ∉ ts → w'.heap[b]? = w.heap[b]?) ∧ w'.heap[g]? = some (.cells cs' T' (0, 0)) ∧ (cs.size = 3 → cs'.size = 3 ∧ cs'[0]? = cs[0]?) ∧
      ResS w' v d b2 t2 u2 ∧ ResCs w' cs'.toList cells' b3 t3 u3 ∧ (∀ b ∈ b3 ++ b2, (b < w.heap.size → Θ b = 0 ∨ b ∈ ts) ∧ b ≠ g ∧ b ∉ t3 ++ t2) ∧ (u3 ++ u2).Nodup ∧
      (∀ b ∈ u3 ++ u2, (w.heap.size ≤ b ∨ b ∈ us) ∧ b ≠ g ∧ Wr w' b) ∧ ∀ b ∈ t3 ++ t2, b ∈ u3 ++ u2 ∧ (w.heap.size ≤ b ∨ b ∈ ts))

section
variable {P : Program} {Γ : Ctx} {Q : Exit → St → Prop} {st : St} {κ κ' : Nat → Option Value} {Θ Θ' : Nat → Nat} {a : Act} {w w' : World} {all : Array Oper} {rest : List Oper}

theorem ResV.aggCs {cs : Array Value} {ds : List D} {bs ts us : List Nat} (h : ResV w (.agg cs) (.agg ds) bs ts us) : ResCs w cs.toList ds bs ts us := by
  generalize hv : Value.agg cs = v at h
  cases h with
  | cell h =>
    cases h with
    | pure h =>
      cases h with
      | agg l _ _ h => cases hv; simpa using ResCs.ofRds h
  | agg l _ _ _ _ h => cases hv; simpa using h
theorem RdV.aggCs {cs : Array Value} {ds : List D} {bs : List Nat} (h : RdV w κ (.agg cs) (.agg ds) bs) : RdCs w κ cs.toList ds bs := by
  generalize hv : Value.agg cs = v at h
  cases h with
  | cell h =>
    cases h with
    | pure h =>
      cases h with
      | agg l _ _ h => cases hv; simpa using RdCs.ofRds h
  | agg l _ _ h => cases hv; simpa using h
theorem ResC.shown {v : Value} {d : D} {bs ts us : List Nat} (h : ResC w v d bs ts us) : ∃ b, Rd w v d.shC b := by
  cases h with
  | pure h =>
    have e : d.shC = d := by cases h <;> rfl
    exact ⟨_, e.symm ▸ h⟩
  | fr e sz rows cs ns h1 h2 h3 h4 h5 => exact ⟨_, ownsRow_rd h2 h3 h4.rd⟩
  | fs e sz rows cs ns h1 h2 h3 h4 h5 => exact ⟨_, ownsRow_rd h2 h3 h4⟩
theorem ResCs.shown {vs : List Value} {ds : List D} {bs ts us : List Nat} (h : ResCs w vs ds bs ts us) : ∃ b, Rds w vs (ds.map D.shC) b := by
  induction h with
  | nil => exact ⟨_, .nil⟩
  | cons v vs d ds b1 b2 t1 t2 u1 u2 h1 h2 _ ih =>
    obtain ⟨b, q⟩ := h2.shown
    obtain ⟨b', q'⟩ := ih
    exact ⟨_, .cons _ _ _ _ _ _ h1 q q'⟩
theorem ResV.shown {v : Value} {d : D} {bs ts us : List Nat} (h : ResV w v d bs ts us) : Rdb d.shV := by
  cases h with
  | cell h =>
    by_cases hagg : ∃ ds, d = .agg ds
    · obtain ⟨ds, rfl⟩ := hagg
      cases h with
      | pure h => cases h with
        | agg cs _ _ h =>
          obtain ⟨b, q⟩ := (ResCs.ofRds h).shown
          exact ⟨w, _, _, .agg _ _ _ q⟩
    · have e : d.shV = d.shC := by cases d <;> first | rfl | exact absurd ⟨_, rfl⟩ hagg
      rw [e]
      obtain ⟨b, q⟩ := h.shown
      exact ⟨w, _, _, q⟩
  | agg cs ds bs ts us h =>
    obtain ⟨b, q⟩ := h.shown
    exact ⟨w, _, _, .agg _ _ _ q⟩
theorem ResVs.shown {vs : List Value} {ds : List D} {bs ts us : List Nat} (h : ResVs w vs ds bs ts us) : ∀ d ∈ ds.map D.shV, Rdb d := by
  induction h with
  | nil => intro d hd; cases hd
  | cons v vs d ds b1 b2 t1 t2 u1 u2 h2 _ ih =>
    intro x hx
    rcases List.mem_cons.1 hx with rfl | hx
    · exact h2.shown
    · exact ih x hx
/-! slices that are handed over, and whose blocks are whose -/
def topOf (L : List Fs) (b : Nat) : Option Nat := ix (fun x : Fs => x.v.ownBlock == some b) L
def belowOf (L : List Fs) (b : Nat) : Option Nat := ix (fun x : Fs => x.ns.contains b) L
theorem topOf_at {L : List Fs} (hnd : (L.flatMap Fs.bl).Nodup) {i : Nat} {x : Fs} {b : Nat} (hi : L[i]? = some x) (hb : x.v.ownBlock = some b) : topOf L b = some i :=
  ix_hit hi (by simp [hb]) (fun j y hj hy => by
    simp only [beq_iff_eq] at hy
    exact flatMap_inj hnd j i y x b hj hi (by simp [Fs.bl, hy]) (by simp [Fs.bl, hb]))
theorem topOf_some {L : List Fs} {b i : Nat} (h : topOf L b = some i) : b ∈ L.flatMap Fs.ts := by
  obtain ⟨x, hx, hp⟩ := ix_some h
  exact List.mem_flatMap.2 ⟨x, List.mem_of_getElem? hx, by simp only [beq_iff_eq] at hp; simp [Fs.ts, hp]⟩
theorem topOf_none {L : List Fs} {b : Nat} (h : b ∉ L.flatMap Fs.ts) : topOf L b = none := by
  cases hb : topOf L b with
  | none => rfl
  | some i => exact absurd (topOf_some hb) h
theorem belowOf_at {L : List Fs} (hnd : (L.flatMap Fs.bl).Nodup) {i : Nat} {x : Fs} {b : Nat} (hi : L[i]? = some x) (hb : b ∈ x.ns) : belowOf L b = some i :=
  ix_hit hi (by simpa using hb) (fun j y hj hy => flatMap_inj hnd j i y x b hj hi (by simp only [Fs.bl]; exact List.mem_append.2 (.inr (by simpa using hy))) (by simp only [Fs.bl]; exact List.mem_append.2 (.inr hb)))
theorem belowOf_some {L : List Fs} {b i : Nat} (h : belowOf L b = some i) : ∃ x, L[i]? = some x ∧ b ∈ x.ns := by
  obtain ⟨x, hx, hp⟩ := ix_some h
  exact ⟨x, hx, by simpa using hp⟩
theorem bl_of_ts {L : List Fs} {b : Nat} (h : b ∈ L.flatMap Fs.ts) : b ∈ L.flatMap Fs.bl := by
  obtain ⟨x, hx, hbx⟩ := List.mem_flatMap.1 h
  exact List.mem_flatMap.2 ⟨x, hx, by simp only [Fs.bl, Fs.ts] at hbx ⊢; exact List.mem_append.2 (.inl hbx)⟩
theorem bl_of_ns {L : List Fs} {i b : Nat} {x : Fs} (h : L[i]? = some x) (hb : b ∈ x.ns) : b ∈ L.flatMap Fs.bl :=
  List.mem_flatMap.2 ⟨x, List.mem_of_getElem? h, by simp only [Fs.bl]; exact List.mem_append.2 (.inr hb)⟩
theorem bl_nodup {L : List Fs} (hnd : (L.flatMap Fs.bl).Nodup) : ∀ x ∈ L, x.bl.Nodup := by
  induction L with
  | nil => intro x hx; cases hx
  | cons z r ih =>
    intro x hx
    simp only [List.flatMap_cons] at hnd
    obtain ⟨n1, n2, _⟩ := List.nodup_append.1 hnd
    rcases List.mem_cons.1 hx with rfl | hx
    · exact n1
    · exact ih n2 x hx
theorem ns_not_top {L : List Fs} (hnd : (L.flatMap Fs.bl).Nodup) {i b : Nat} {x : Fs} (h : L[i]? = some x) (hb : b ∈ x.ns) : b ∉ L.flatMap Fs.ts := by
  intro ht
  obtain ⟨y, hy, hby⟩ := List.mem_flatMap.1 ht
  obtain ⟨j, hj⟩ := List.getElem?_of_mem hy
  have := flatMap_inj hnd j i y x b hj h (by simp only [Fs.bl, Fs.ts] at hby ⊢; exact List.mem_append.2 (.inl hby)) (by simp only [Fs.bl]; exact List.mem_append.2 (.inr hb))
  subst this
  rw [hj] at h; cases h
  have hnd1 := bl_nodup hnd x hy
  simp only [Fs.bl] at hnd1
  exact (List.nodup_append.1 hnd1).2.2 b hby b hb rfl
theorem ns_nodup {L : List Fs} (hnd : (L.flatMap Fs.bl).Nodup) {i : Nat} {x : Fs} (h : L[i]? = some x) : x.ns.Nodup := by
  have := bl_nodup hnd x (List.mem_of_getElem? h)
  simp only [Fs.bl] at this
  exact (List.nodup_append.1 this).2.1

/-- a walk that came to its end hands back d, and the variable that it was lent holds cells' -/
def RetP (P : Program) (fn : Func) (v0 : Value) (cells' : List D) (d : D) (e : Exit) (st : St) : Prop :=
  (e = .ret ∨ e = .normal) ∧ ∃ nz ds0 cellsF es ms qs, resDs P st fn.results.toList = some ds0 ∧ st.H[0]? = some (.pbx cellsF v0) ∧
    retVs st.H nz (.agg cellsF :: ds0) = some (.agg cells' :: es, ms, qs) ∧ ms.Nodup ∧ qs.Nodup ∧ (∀ m ∈ qs, m ∉ ms) ∧ packD es = d

theorem RetP.out {fn : Func} {v0 : Value} {cells' : List D} {d : D} {e : Exit} {a' : Act} {w' : World} {st0 : St} {κ0 : Nat → Option Value} {Θ0 : Nat → Nat} (hs0 : Sim Γ st0 κ0 Θ0 a' w') (hrq : RetP P fn v0 cells' d e st0) :
    (e = .ret ∨ e = .normal) ∧ a'.defers = [] ∧ Stays Γ w' ∧ ∃ v g cs' T b2 t2 u2 b3 t3 u3, (results fn a'.tmps).run P w' = .ok v w' ∧ ptrOf v0 = .pointer (some ⟨g, 0, none⟩) ∧ w'.heap[g]? = some (.cells cs' T (0, 0)) ∧ (∀ c, keptOf v0 = some c → cs'.size = 3 ∧ cs'[0]? = some c) ∧
      ResS w' v d b2 t2 u2 ∧ ResCs w' cs'.toList cells' b3 t3 u3 ∧ (∀ b ∈ b3 ++ b2, (b < Γ.W0.heap.size → ¬ Γ.X b → Γ.Θ0 b = 0) ∧ b ≠ g ∧ b ∉ t3 ++ t2) ∧ (u3 ++ u2).Nodup ∧
      (∀ b ∈ u3 ++ u2, MineU Γ b ∧ b ≠ g ∧ Wr w' b) ∧ ∀ b ∈ t3 ++ t2, b ∈ u3 ++ u2 ∧ Mine Γ b := by
  obtain ⟨hret, nz, ds0, cellsF, es, ms, qs, hres, hH0, hrv, hms, hqs, hqm, rfl⟩ := hrq
  obtain ⟨ρ0, hu0⟩ := hs0.uniq
  have hmel := retVs_melts hrv
  obtain ⟨Θ1, ρ1, hs1, hu1, hm1, hz1, hr1⟩ := Sim.meltAll ms hs0 hu0 hms (fun m hm => by
    obtain ⟨e, sz, rows, hH⟩ := hmel.1 m hm
    exact ⟨_, e, sz, rows, hH, rfl⟩)
  obtain ⟨vs, bs', m1, m2, m3, m4, m5⟩ := resDs_run hs0 hres
  have hq : ∀ m e sz rows, st0.H[m]? = some (.row .uq e sz rows) → ∃ v cs ns, κ0 m = some v ∧ 0 < sz ∧ (∀ r ∈ rows, r.length = sz) ∧ w'.ownsRow 0 e sz v rows.length cs ∧ RdF w' (fcol e) 0 cs rows.flatten ns ∧ ns.Nodup ∧ (∀ b ∈ ns, ρ1 b = m + 1) ∧ ∀ g, v.ownBlock = some g → Θ1 g = m + 2 := by
    intro m e sz rows hH
    have hnm : m ∉ ms := fun hm => by
      obtain ⟨e', sz', rows', hH'⟩ := hmel.1 m hm
      rw [hH] at hH'; cases hH'
    have hH1 : (kill st0.H ms)[m]? = some (.row .uq e sz rows) := by rw [kill_other hnm]; exact hH
    obtain ⟨v, cs, ns, r1, r2, r3, r4, r5⟩ := hu1.rows m e sz rows hH1
    obtain ⟨p1, p2, v2, _, _, p3, _, _, p4, _⟩ := hs1.ob m _ hH1
    rw [r1] at p3; cases p3
    exact ⟨v, cs, ns, r1, p1, p2, r2, r3, r4, r5, p4⟩
  have h0m : 0 ∉ ms := fun hm => by
    obtain ⟨e', sz', rows', hH'⟩ := hmel.1 0 hm
    rw [hH0] at hH'; cases hH'
  have h0q : 0 ∉ qs := fun hm => by
    obtain ⟨_, e', sz', rows', hH'⟩ := hmel.2 0 hm
    rw [hH0] at hH'; cases hH'
  obtain ⟨hv0, g, cs', T, hk0, hg, hΘg, bb, hbb, hbz⟩ := hs1.ob 0 _ (show (kill st0.H ms)[0]? = _ by rw [kill_other h0m]; exact hH0)
  have hkept : ∀ c, keptOf v0 = some c → cs'.size = 3 ∧ cs'[0]? = some c := fun c hc => hv0.2 c hc g cs' T hk0 hg
  have hv0 := hv0.1
  have e0 : ptrOf v0 = .pointer (some ⟨g, 0, none⟩) := by rw [hv0] at hk0; exact Option.some.inj hk0
  have hΘg : Θ1 g = 2 := hΘg
  have hq2 : ∀ m e sz rows, m ∉ ms → st0.H[m]? = some (.row .sh e sz rows) → ∃ v cs ns, κ0 m = some v ∧ 0 < sz ∧ (∀ r ∈ rows, r.length = sz) ∧ w'.ownsRow 0 e sz v rows.length cs ∧ Rds w' cs rows.flatten ns ∧ (∀ b ∈ ns, Θ1 b = 0) ∧ ∀ g, v.ownBlock = some g → Θ1 g = m + 2 := by
    intro m e sz rows hnm hH
    obtain ⟨p1, p2, v2, cs, ns, p3, p4, p5, p6, p7⟩ := hs1.ob m _ (show (kill st0.H ms)[m]? = _ by rw [kill_other hnm]; exact hH)
    exact ⟨v2, cs, ns, p3, p1, p2, p4, p5, p7, p6⟩
  obtain ⟨c, tt, uu, hresv, hrp⟩ := retVs_res (w := w') (vs := .agg cs' :: vs) (fun b hb => (hu1.free b hb).1) hq hq2 hs0.kone hrv hqm hqs (by simp; omega) (fun i d hd => by
    cases i with
    | zero =>
      simp at hd; subst hd
      have := RdV.agg _ _ _ hbb
      exact ⟨_, bb, rfl, .v (by simpa using this), hbz⟩
    | succ i =>
      obtain ⟨v, b, k1, k2, k3⟩ := m4 i d (by simpa using hd)
      exact ⟨v, b, by simpa using k1, k2, fun x hx => hz1 x (m5 x (k3 x hx))⟩) hm1
  cases hresv with
  | cons _ _ _ _ b3 b2 t3 t2 u3 u2 hbox hrest =>
  have hfin : ∃ v, (results fn a'.tmps).run P w' = .ok v w' ∧ ResS w' v (packD es) b2 t2 u2 := by
    have hrun : (results fn a'.tmps).run P w' = .ok (if h : vs.toArray.size = 1 then vs.toArray[0] else .tuple vs.toArray) w' := by
      rw [results_eq, Array.mapM_eq_mapM_toList]
      simp [m1]
    cases hrest with
    | nil => exact ⟨.tuple #[], by simpa using hrun, .tup [] [] [] [] [] .nil⟩
    | cons v vs d es b1 b2 t1 t2 u1 u2 hv hrest =>
      cases hrest with
      | nil =>
        simp only [List.append_nil]
        exact ⟨v, by simpa using hrun, .v hv⟩
      | cons v2 vs d2 es b3 b4 t3 t4 u3 u4 hv2 hrest => exact ⟨.tuple (v :: v2 :: vs).toArray, by simpa using hrun, .tup _ _ _ _ _ (.cons _ _ _ _ _ _ _ _ _ _ hv (.cons _ _ _ _ _ _ _ _ _ _ hv2 hrest))⟩
  obtain ⟨v, hr1', hr2'⟩ := hfin
  have htop : ∀ b ∈ t3 ++ t2, Wr w' b := by
    intro b hb
    rcases List.mem_append.1 hb with hb | hb
    · exact ResV_top hbox b hb
    · exact ResS_top hr2' b hb
  refine ⟨hret, hs0.defers, hs0.stays, v, g, cs', T, b2, t2, u2, b3, t3, u3, hr1', e0, hg, hkept, hr2', hbox.aggCs, fun b hb => ⟨fun hlt hx => ?_, fun e => ?_, fun ht => ?_⟩, hrp.nd, fun b hb => ?_, fun b hb => ?_⟩
  · have := hrp.zero b hb
    rw [← (hs1.old b hlt hx).1]; exact this
  · have := hrp.zero b hb
    subst e; omega
  · obtain ⟨⟨m, _, hΘ⟩, _⟩ := hrp.top b ht
    have := hrp.zero b hb
    omega
  · rcases hrp.mem b hb with h | ⟨m, hm, hρ⟩
    · obtain ⟨⟨m, hm, hΘ⟩, _⟩ := hrp.top b h
      refine ⟨.inl (hs1.mine b (by omega)), fun e => ?_, htop b h⟩
      subst e
      rw [hΘg] at hΘ
      have : m = 0 := by omega
      subst this; exact h0q hm
    · have := hu1.free b (by omega)
      refine ⟨this.2.1, fun e => ?_, this.2.2⟩
      have h0 := this.1
      subst e; omega
  · obtain ⟨⟨m, hm, hΘ⟩, h2⟩ := hrp.top b hb
    exact ⟨h2, hs1.mine b (by omega)⟩

theorem RdVs.len {vs : List Value} {ds : List D} {bs : List Nat} (h : RdVs w κ vs ds bs) : vs.length = ds.length := by
  induction h with
  | nil => rfl
  | cons v vs d ds b1 b2 h1 _ ih => simp [ih]

/-- the lent variable's first cell shows a slice of the world at the call's start, and nothing was handed over -/
def OldC (Γ : Ctx) (u : Value) (rows : List (List D)) : Prop :=
  (∀ b, ¬ Γ.U b) ∧ ∃ c bs, keptOf u = some c ∧ Rd Γ.W0 c (.sl rows) bs ∧ ∀ b ∈ bs, b < Γ.W0.heap.size ∧ ¬ Γ.X b ∧ Γ.Θ0 b = 0
/-- A CONTRACT OUT OF AN ABSTRACT WALK -/
theorem GoodP.of {f : FuncId} {fn : Func} {c : Code} {cells cells' cells1 ds ds1 : List D} {obs : List Ob} {d : D} (hf : P.funcs[f]? = some fn) (hb : fn.body = some c) (hn : (fn.name == "runtime.NumGoroutine") = false)
    (hI : instVs 1 (.agg cells :: ds) = (.agg cells1 :: ds1, obs)) (hl : ds1.length + 1 ≤ fn.ntmps)
    (h : (∀ x ∈ (D.agg cells :: ds).map D.shV, Rdb x) → ∀ (v0 : Value) (Γ : Ctx), Γ.nt = fn.ntmps → (obs = [] → cells1.length = 3 → ∀ rows, cells1[0]? = some (.sl rows) → OldC Γ v0 rows) → AW P Γ c (RetP P fn v0 cells' d) ⟨args0 0 (.ptr 0 0 :: ds1), .pbx cells1 v0 :: obs⟩) : GoodP P f cells cells' ds d := by
  refine ⟨⟨fn, hf, by simp [hb], hn⟩, ?_⟩
  intro w Θ g cs T args bs ts us hvs hg hargs hz hown h1 hg1 hts hnd hus
  have hshown := hargs.shown
  obtain ⟨L, q1, q2, rfl, rfl, q6, q5⟩ := hargs.inst 1
  rw [hI] at q1 q5
  have q1 : L.map Fs.ob = obs := q1
  refine calls_of_wp hf hb ?_
  let v0 : Value := .pointer (some ⟨g, 0, none⟩)
  let u0 : Value := if cs.size = 3 then .tuple ⟨[v0, cs.toList.headD undef]⟩ else v0
  let κ0 : Nat → Option Value := fun i => if i = 0 then some v0 else (L[i - 1]?).map Fs.v
  let Θ0 : Nat → Nat := fun b => if b = g then 2 else match topOf L b with | some i => i + 3 | none => Θ b
  let ρ0 : Nat → Nat := fun b => match belowOf L b with | some i => i + 2 | none => 0
  let Γ : Ctx := ⟨w, Θ0, fun b => b = g ∨ b ∈ L.flatMap Fs.ts, fn.ntmps, fun b => b ∈ L.flatMap Fs.bl, hvs⟩
  have hgl : g < w.heap.size := (Array.getElem?_eq_some_iff.1 hg).1
  have hk0 : κ0 0 = some v0 := rfl
  have hkS : ∀ i x, L[i]? = some x → κ0 (i + 1) = some x.v := fun i x hx => by simp [κ0, hx]
  have hnm : Names κ0 1 L := fun i x hx => by rw [Nat.add_comm]; exact hkS i x hx
  obtain ⟨bs0, hrd, hb0⟩ := q5 κ0 hnm
  have hlen := hrd.len
  have htopm : ∀ (i : Nat) x b, L[i]? = some x → x.v.ownBlock = some b → b ∈ L.flatMap Fs.ts := fun i x b hx hb' => List.mem_flatMap.2 ⟨x, List.mem_of_getElem? hx, by simp [Fs.ts, hb']⟩
  have hΘtop : ∀ (i : Nat) x b, L[i]? = some x → x.v.ownBlock = some b → Θ0 b = i + 3 := by
    intro i x b hx hb'
    have := (hts b (htopm i x b hx hb')).2.2
    simp only [Θ0, topOf_at hnd hx hb']
    rw [if_neg this]
  have hΘz : ∀ b, Θ b = 0 → Θ0 b = 0 := by
    intro b h0
    have e1 : b ≠ g := fun e => by subst e; omega
    have e2 : b ∉ L.flatMap Fs.ts := fun e => by have := (hts b e).1; omega
    simp only [Θ0, topOf_none e2]
    rw [if_neg e1, h0]
  have hns0 : ∀ (i : Nat) x b, L[i]? = some x → b ∈ x.ns → Θ0 b = 0 := fun i x b hx hb' => hΘz b ((hus b (bl_of_ns hx hb')).1 (ns_not_top hnd hx hb'))
  have hΘc : ∀ b, Θ0 b ≠ Θ b → b = g ∨ b ∈ L.flatMap Fs.ts := by
    intro b hne
    by_cases e : b = g
    · exact .inl e
    · refine .inr (Classical.byContradiction fun ht => hne ?_)
      simp only [Θ0, topOf_none ht]
      rw [if_neg e]
  have hobk : ∀ (j : Nat) o, obs[j]? = some o → ∃ x, L[j]? = some x ∧ o = x.ob := by
    intro j o hj
    rw [← q1, List.getElem?_map] at hj
    cases hx : L[j]? with
    | none => simp [hx] at hj
    | some x => simp [hx] at hj; exact ⟨x, rfl, hj.symm⟩
  have hoblen : obs.length = L.length := by rw [← q1]; simp
  have hbox : ∃ b', RdCs w κ0 cs.toList cells1 b' ∧ ∀ b ∈ b', Θ0 b = 0 := by
    obtain ⟨v, b', k1, k2, k3⟩ := hrd.at (i := 0) (d := .agg cells1) rfl
    simp at k1; subst k1
    exact ⟨b', k2.aggCs, fun b hb' => hΘz b (hz b (hb0 b (k3 b hb')))⟩
  have hpt : ptrOf u0 = v0 := by simp only [u0]; split <;> rfl
  have hkp : ∀ c, keptOf u0 = some c → cs.size = 3 ∧ cs[0]? = some c := by
    intro c hc
    simp only [u0] at hc
    split at hc
    · rename_i h3
      refine ⟨h3, ?_⟩
      simp only [keptOf, Option.some.injEq] at hc
      have hl3 : cs.toList.length = 3 := by simpa using h3
      rw [← Array.getElem?_toList]
      cases hcl : cs.toList with
      | nil => rw [hcl] at hl3; simp at hl3
      | cons x xs => rw [hcl] at hc; simp only [List.headD_cons] at hc; subst hc; rfl
    · cases hc
  have hkp3 : cs.size = 3 → ∃ c, keptOf u0 = some c ∧ cs[0]? = some c := by
    intro h3
    have : keptOf u0 = some (cs.toList.headD undef) := by simp only [u0]; rw [if_pos h3]; rfl
    exact ⟨_, this, (hkp _ this).2⟩
  have hs : Sim Γ ⟨args0 0 (.ptr 0 0 :: ds1), .pbx cells1 u0 :: obs⟩ κ0 Θ0 { tmps := (v0 :: args).toArray ++ Array.replicate (fn.ntmps - (v0 :: args).toArray.size) undef, defers := [] } w := by
    refine ⟨rfl, ?_, fun i hi => ?_, ?_, ?_, ?_, ?_, ?_, ?_, ⟨rfl, rfl, rfl, Nat.le_refl _, fun _ _ _ => rfl⟩, ⟨ρ0, ?_, ?_, ?_⟩⟩
    · simp only [List.length_cons] at hlen
      simp [Γ]; omega
    · simp only [List.length_cons] at hi
      simp only [κ0]
      rw [if_neg (by omega), List.getElem?_eq_none (by omega)]; rfl
    · intro id u hu
      simp only [κ0] at hu
      split at hu
      · cases hu; rfl
      · cases hx : L[id - 1]? with
        | none => simp [hx] at hu
        | some x => simp [hx] at hu; subst hu; exact (q2 x (List.mem_of_getElem? hx)).2.2.2.2
    · intro t
      rw [lk_args0]
      simp only [Nat.not_lt_zero, if_false, Nat.sub_zero]
      have hgetD : ∀ v, (v0 :: args)[t]? = some v → ((v0 :: args).toArray ++ Array.replicate (fn.ntmps - (v0 :: args).toArray.size) undef).getD t undef = v := by
        intro v hv
        have hlt := (List.getElem?_eq_some_iff.1 hv).1
        rw [Array.getD_eq_getD_getElem?, Array.getElem?_append_left (by simpa using hlt)]
        simp only [List.getElem?_toArray, hv, Option.getD_some]
      cases t with
      | zero =>
        refine ⟨[], ?_, by simp⟩
        rw [hgetD v0 rfl]
        exact .v (.cell (.ptr 0 0 g hk0))
      | succ s =>
        rw [List.getElem?_cons_succ]
        cases hd : ds1[s]? with
        | none => exact ⟨[], .of (.any _), by simp⟩
        | some x =>
          obtain ⟨v, b', k1, k2, k3⟩ := hrd.at (i := s + 1) (d := x) (by simpa using hd)
          rw [hgetD v (by simpa using k1)]
          exact ⟨b', .v k2, fun b hb' => hΘz b (hz b (hb0 b (k3 b hb')))⟩
    · intro j o hj
      cases j with
      | zero =>
        simp at hj; subst hj
        obtain ⟨b', k1, k2⟩ := hbox
        refine ⟨⟨by rw [hpt]; exact hk0, fun c hc g2 cs2 T2 hk2 hg2 => ?_⟩, g, cs, T, hk0, hg, by simp [Θ0], b', k1, k2⟩
        have e3 : Value.pointer (some ⟨g, 0, none⟩) = .pointer (some ⟨g2, 0, none⟩) := Option.some.inj (hk0.symm.trans hk2)
        cases e3
        rw [hg] at hg2; cases hg2
        exact hkp c hc
      | succ j =>
        obtain ⟨x, hx, rfl⟩ := hobk j o (by simpa using hj)
        exact Fs.rel (q2 x (List.mem_of_getElem? hx)) (hkS j x hx) (fun b hb' => hΘtop j x b hx hb') (fun b hb' => hns0 j x b hx hb') fun hs' b hb' => hΘz b (hz b (q6 x (List.mem_of_getElem? hx) hs' b hb'))
    · intro b hb'
      by_cases e : Θ0 b = Θ b
      · exact hown b (by rw [← e]; exact hb')
      · rcases hΘc b e with rfl | ht
        · exact hgl
        · exact hown b (by have := (hts b ht).1; omega)
    · intro b hlt hx
      refine ⟨rfl, ?_⟩
      have e : Θ0 b = Θ b := Classical.byContradiction fun e => hx (hΘc b e)
      rw [e]; exact h1 b
    · intro b hb'
      refine .inr (hΘc b fun e => ?_)
      have := h1 b
      omega
    · intro b hb'
      cases hbl : belowOf L b with
      | none => simp [ρ0, hbl] at hb'
      | some i =>
        obtain ⟨x, hx, hbx⟩ := belowOf_some hbl
        exact ⟨hns0 i x b hx hbx, .inr (bl_of_ns hx hbx), (hus b (bl_of_ns hx hbx)).2⟩
    · intro id e sz rows hj
      cases id with
      | zero => simp at hj
      | succ j =>
        obtain ⟨x, hx, hox⟩ := hobk j _ (by simpa using hj)
        obtain ⟨hsh, rfl, rfl, rfl⟩ := Fs.uq_inv hox.symm
        have p4 := (q2 x (List.mem_of_getElem? hx)).uq hsh
        obtain ⟨p1, p2, p3, _, _⟩ := q2 x (List.mem_of_getElem? hx)
        exact ⟨x.v, x.cs, x.ns, hkS j x hx, p3, p4, ns_nodup hnd hx, fun b hb' => by simp [ρ0, belowOf_at hnd hx hb']⟩
    · intro id o hj
      cases id with
      | zero => simp at hj; subst hj; trivial
      | succ j =>
        obtain ⟨x, hx, hox⟩ := hobk j _ (by simpa using hj)
        subst hox; exact Fs.plain x
  have hold : obs = [] → cells1.length = 3 → ∀ rows, cells1[0]? = some (.sl rows) → OldC Γ u0 rows := by
    intro ho hl3 rows hr0
    have hL : L = [] := List.eq_nil_of_length_eq_zero (by rw [← hoblen, ho]; rfl)
    refine ⟨fun b hb' => by simp [Γ, hL] at hb', ?_⟩
    obtain ⟨b', k1, k2⟩ := hbox
    obtain ⟨v, b1, p1, _, p3, p4⟩ := k1.at hr0
    obtain ⟨c, q6, q7⟩ := hkp3 (by have := k1.length; rw [hl3] at this; simpa using this)
    have : v = c := by
      rw [Array.getElem?_toList, q7] at p1; cases p1; rfl
    subst this
    have hrd1 : Rd w v (.sl rows) b1 := by cases p3 with | pure h => exact h
    refine ⟨v, b1, q6, hrd1, fun b hb' => ⟨hrd1.lt b hb', fun hx => ?_, k2 b (p4 b hb')⟩⟩
    have h0 := k2 b (p4 b hb')
    rcases hx with rfl | hx
    · simp [Θ0] at h0
    · simp [hL] at hx
  refine wp_mono (h hshown u0 Γ rfl hold _ _ _ _ hs) ?_
  rintro x a' w' ⟨st0, κ1, Θ1, hs0, hrq⟩
  obtain ⟨hret, hdf, hst, v, g', cs', T', b2, t2, u2, b3, t3, u3, hrun, e0, hg', hkf, hres, hcs', hb23, hnd', hu', ht'⟩ := RetP.out hs0 hrq
  obtain rfl : g = g' := by
    have e1 : Value.pointer (some ⟨g, 0, none⟩) = .pointer (some ⟨g', 0, none⟩) := hpt.symm.trans e0
    cases e1; rfl
  have post : a'.defers = [] ∧ ∃ v', (results fn a'.tmps).run P w' = .ok v' w' ∧ ∃ v cs' T' b2 t2 u2 b3 t3 u3, Ending.returned v' = .returned v ∧ w'.os = w.os ∧ w'.tape = w.tape ∧ w'.output = w.output ∧ w.heap.size ≤ w'.heap.size ∧
      (∀ b, b < w.heap.size → b ≠ g → b ∉ L.flatMap Fs.ts → w'.heap[b]? = w.heap[b]?) ∧ w'.heap[g]? = some (.cells cs' T' (0, 0)) ∧ (cs.size = 3 → cs'.size = 3 ∧ cs'[0]? = cs[0]?) ∧
      ResS w' v d b2 t2 u2 ∧ ResCs w' cs'.toList cells' b3 t3 u3 ∧ (∀ b ∈ b3 ++ b2, (b < w.heap.size → Θ b = 0 ∨ b ∈ L.flatMap Fs.ts) ∧ b ≠ g ∧ b ∉ t3 ++ t2) ∧ (u3 ++ u2).Nodup ∧
      (∀ b ∈ u3 ++ u2, (w.heap.size ≤ b ∨ b ∈ L.flatMap Fs.bl) ∧ b ≠ g ∧ Wr w' b) ∧ ∀ b ∈ t3 ++ t2, b ∈ u3 ++ u2 ∧ (w.heap.size ≤ b ∨ b ∈ L.flatMap Fs.ts) := by
    refine ⟨hdf, v, hrun, v, cs', T', b2, t2, u2, b3, t3, u3, rfl, hst.os, hst.tape, hst.output, hst.size, fun b hlt hne hnt => hst.block b hlt (fun hx => hx.elim hne hnt), hg', (fun h3 => by obtain ⟨c, q6, q7⟩ := hkp3 h3; obtain ⟨q8, q9⟩ := hkf c q6; exact ⟨q8, q9.trans q7.symm⟩), hres, hcs', fun b hb' => ?_, hnd', fun b hb' => ?_, fun b hb' => ?_⟩
    · obtain ⟨k1, k2, k3⟩ := hb23 b hb'
      refine ⟨fun hlt => ?_, k2, k3⟩
      by_cases ht : b ∈ L.flatMap Fs.ts
      · exact .inr ht
      · refine .inl ?_
        have := k1 hlt (fun hx => hx.elim k2 ht)
        have e : Θ0 b = Θ b := Classical.byContradiction fun e => (hΘc b e).elim k2 ht
        rw [← e]; exact this
    · obtain ⟨k1, k2, k3⟩ := hu' b hb'
      refine ⟨?_, k2, k3⟩
      rcases k1 with (k1 | k1 | k1) | k1
      · exact .inl k1
      · exact absurd k1 k2
      · exact .inr (bl_of_ts k1)
      · exact .inr k1
    · obtain ⟨k1, k2⟩ := ht' b hb'
      refine ⟨k1, ?_⟩
      have := (hu' b k1).2.1
      rcases k2 with k2 | k2 | k2
      · exact .inl k2
      · exact absurd k2 this
      · exact .inr k2
  rcases hret with rfl | rfl
  · exact post
  · exact post

/-- A CALL THAT IS HANDED A POINTER -/
theorem AO_callP {o : Oper} {f t id : Nat} {xs : Array Operand} {ty : Array TypeId} {x0 : Operand} {xr : List Operand} {ob : Ob} {cells0 cells cells' ds : List D} {d : D} {nz : List (List (Option (Nat × Nat)))} {ms qs : List Nat}
    (hop : o.op = .call { callee := .value (.func f), args := xs, argTypes := ty }) (hd : o.dst = some t) (hg : o.guard = none) (ht : t < Γ.nt)
    (hxs : xs.toList = x0 :: xr) (hx0 : st.ev x0 = .ptr id 0) (hH : st.H[id]? = some ob) (hob : ob.cs? = some cells0)
    (hret : retVs st.H nz (.agg cells0 :: xr.map st.ev) = some (.agg cells :: ds, ms, qs)) (hms : ms.Nodup) (hqs : qs.Nodup) (hqm : ∀ m ∈ qs, m ∉ ms) (hgood : GoodP P f cells cells' ds d)
    (h : AO P Γ all rest Q ⟨(t, (instS (st.H.length + (instCs st.H.length cells').2.length) d).1) :: st.σ,
      (kill st.H (ms ++ qs)).set id (ob.re (instCs st.H.length cells').1) ++ ((instCs st.H.length cells').2 ++ (instS (st.H.length + (instCs st.H.length cells').2.length) d).2)⟩) : AO P Γ all (o :: rest) Q st := by
  intro κ Θ a w hs
  have hmel := retVs_melts hret
  obtain ⟨ρ, hu⟩ := hs.uniq
  obtain ⟨Θ1, ρ1, hs1, hu1, hm1, hz1, hr1⟩ := Sim.meltAll ms hs hu hms (fun m hm => by
    obtain ⟨e, sz, rows, hH⟩ := hmel.1 m hm
    exact ⟨_, e, sz, rows, hH, rfl⟩)
  have hidl : id < st.H.length := (List.getElem?_eq_some_iff.1 hH).1
  have hnr : ∀ k e sz rows, st.H[id]? ≠ some (.row k e sz rows) := fun k e sz rows e1 => by rw [hH] at e1; cases e1; cases hob
  have hidm : id ∉ ms := fun hm => by obtain ⟨e', sz', rows', hH'⟩ := hmel.1 id hm; exact hnr _ _ _ _ hH'
  have hidq : id ∉ qs := fun hm => by obtain ⟨_, e', sz', rows', hH'⟩ := hmel.2 id hm; exact hnr _ _ _ _ hH'
  have hH1 : (kill st.H ms)[id]? = some ob := by rw [kill_other hidm]; exact hH
  have hobr := hs1.ob id _ hH1
  obtain ⟨g, cs, T, hk0, hgc, hΘg, bb, hbb, hbz⟩ := hobr.cs hob
  have hgl : g < w.heap.size := (Array.getElem?_eq_some_iff.1 hgc).1
  have hq : ∀ m e sz rows, st.H[m]? = some (.row .uq e sz rows) → ∃ v cs ns, κ m = some v ∧ 0 < sz ∧ (∀ r ∈ rows, r.length = sz) ∧ w.ownsRow 0 e sz v rows.length cs ∧ RdF w (fcol e) 0 cs rows.flatten ns ∧ ns.Nodup ∧ (∀ b ∈ ns, ρ1 b = m + 1) ∧ ∀ g, v.ownBlock = some g → Θ1 g = m + 2 := by
    intro m e sz rows hH
    have hnm : m ∉ ms := fun hm => by
      obtain ⟨e', sz', rows', hH'⟩ := hmel.1 m hm
      rw [hH] at hH'; cases hH'
    have hH1 : (kill st.H ms)[m]? = some (.row .uq e sz rows) := by rw [kill_other hnm]; exact hH
    obtain ⟨v, cs, ns, r1, r2, r3, r4, r5⟩ := hu1.rows m e sz rows hH1
    obtain ⟨p1, p2, v2, _, _, p3, _, _, p4, _⟩ := hs1.ob m _ hH1
    rw [r1] at p3; cases p3
    exact ⟨v, cs, ns, r1, p1, p2, r2, r3, r4, r5, p4⟩
  have hq2 : ∀ m e sz rows, m ∉ ms → st.H[m]? = some (.row .sh e sz rows) → ∃ v cs ns, κ m = some v ∧ 0 < sz ∧ (∀ r ∈ rows, r.length = sz) ∧ w.ownsRow 0 e sz v rows.length cs ∧ Rds w cs rows.flatten ns ∧ (∀ b ∈ ns, Θ1 b = 0) ∧ ∀ g, v.ownBlock = some g → Θ1 g = m + 2 := by
    intro m e sz rows hnm hH
    obtain ⟨p1, p2, v2, cs, ns, p3, p4, p5, p6, p7⟩ := hs1.ob m _ (show (kill st.H ms)[m]? = _ by rw [kill_other hnm]; exact hH)
    exact ⟨v2, cs, ns, p3, p1, p2, p4, p5, p7, p6⟩
  obtain ⟨bs, ts, us, hresv, hrp⟩ := retVs_res (w := w) (vs := .agg cs :: xr.map a.eval) (fun b hb => (hu1.free b hb).1) hq hq2 hs.kone hret hqm hqs (by simp) (fun i d hd => by
    cases i with
    | zero =>
      simp at hd; subst hd
      have := RdV.agg _ _ _ hbb
      exact ⟨_, bb, rfl, .v (by simpa using this), hbz⟩
    | succ i =>
      rw [List.getElem?_cons_succ, List.getElem?_map] at hd
      cases hx : xr[i]? with
      | none => rw [hx] at hd; cases hd
      | some x =>
        rw [hx] at hd; simp only [Option.map_some, Option.some.injEq] at hd; subst hd
        obtain ⟨b, r, z⟩ := hs.ev x
        exact ⟨a.eval x, b, by simp [hx], r, fun y hy => hz1 y (z y hy)⟩) hm1
  -- the call
  let Θc : Nat → Nat := fun b => if Θ1 b = 0 then 0 else 1
  have hΘc : ∀ b, Θc b = 0 ↔ Θ1 b = 0 := fun b => by simp only [Θc]; split <;> simp_all
  have htsq : ∀ b ∈ ts, ∃ m ∈ qs, Θ1 b = m + 2 := fun b hb => (hrp.top b hb).1
  have htsg : ∀ b ∈ ts, b ≠ g := fun b hb e => by
    obtain ⟨m, hm, hΘ⟩ := htsq b hb
    subst e; rw [hΘg] at hΘ
    exact hidq (by have : id = m := by omega
                   rw [this]; exact hm)
  have hvok : Vok w fun b => b = g ∨ b ∈ ts := by
    obtain ⟨B, v1, v2⟩ := hs1.vsb
    refine ⟨B, v1, fun b hB => ⟨(v2 b hB).2.1, fun hb' => ?_⟩⟩
    have hm : Mine Γ b := by
      rcases hb' with rfl | hb'
      · exact hs1.mine b (by omega)
      · obtain ⟨m, hm, hΘ⟩ := htsq b hb'
        exact hs1.mine b (by omega)
    rcases hm with q | q
    · have := (v2 b hB).1; omega
    · exact (v2 b hB).2.2 q
  have hwr : ∀ b ∈ us, Wr w b := by
    intro b hb
    rcases hrp.mem b hb with h | ⟨m, hm, hρ⟩
    · exact ResVs_top hresv b h
    · exact (hu1.free b (by omega)).2.2
  have hc := hgood.2 w Θc g cs T (xr.map a.eval) bs ts us hvok hgc hresv (fun b hb => (hΘc b).2 (hrp.zero b hb)) (fun b hb => hs1.own b (fun e => hb ((hΘc b).2 e))) (fun b => by simp only [Θc]; split <;> omega)
    (by simp only [Θc]; rw [if_neg (by omega)]) (fun b hb => by
      obtain ⟨m, hm, hΘ⟩ := htsq b hb
      exact ⟨by simp only [Θc]; rw [if_neg (by omega)], (hrp.top b hb).2, htsg b hb⟩) hrp.nd (fun b hb => ⟨fun hnt => by
      rcases hrp.mem b hb with h | ⟨m, hm, hρ⟩
      · exact absurd h hnt
      · exact (hΘc b).2 (hu1.free b (by omega)).1, hwr b hb⟩)
  refine wpList_plain hg fun K hK => ?_
  unfold Oper.wp
  rw [run_call hop hgood.1, Oper.upon_enter]
  have e0 : xs.map a.eval = (.pointer (some ⟨g, 0, none⟩) :: xr.map a.eval).toArray := by
    obtain ⟨b0, r0, _⟩ := hs.ev x0
    rw [hx0] at r0
    obtain ⟨g', hk', hv⟩ := r0.ptr_inv
    rw [hk0] at hk'; cases hk'
    rw [← Array.toList_inj, Array.toList_map, hxs]
    simp [hv]
  rw [e0]
  refine hc.mono ?_
  rintro x w' ⟨v, cs', T', b2, t2, u2, b3, t3, u3, rfl, k1, k2, k3, k4, kblock, kg, kkept, kres, kcs, kb, knd, ku, kt⟩
  show K (a.put o.dst v) w'
  rw [hd]
  -- objects that are given up
  let N := st.H.length
  have hs2 := hs1.forget (id :: qs)
  have hNl : (kill st.H ms).length = N := kill_length _ _
  simp only [hNl] at hs2
  let Θ2 : Nat → Nat := fun b => if (id :: qs).any (fun m => Θ1 b == m + 2) then N + 2 else Θ1 b
  have hs2 : Sim Γ ⟨st.σ, kill (kill st.H ms) (id :: qs)⟩ κ Θ2 a w := hs2
  have hΘ2z : ∀ b, Θ1 b = 0 → Θ2 b = 0 := fun b hb => by
    simp only [Θ2]
    rw [if_neg, hb]
    intro h
    obtain ⟨m, _, hm⟩ := List.any_eq_true.1 h
    simp [hb] at hm
  have hΘ2t : ∀ b, b = g ∨ b ∈ ts → Θ2 b = N + 2 := by
    intro b hb
    simp only [Θ2]
    rw [if_pos]
    rcases hb with rfl | hb
    · exact List.any_eq_true.2 ⟨id, by simp, by simp [hΘg]⟩
    · obtain ⟨m, hm, hΘ⟩ := htsq b hb
      exact List.any_eq_true.2 ⟨m, by simp [hm], by simp [hΘ]⟩
  have hu2 : Uniq Γ (kill (kill st.H ms) (id :: qs)) κ Θ2 w ρ1 := by
    refine ⟨fun b hb => ?_, fun j e sz rows hj => ?_, fun j o hj => ?_⟩
    · obtain ⟨q1, q2⟩ := hu1.free b hb
      exact ⟨hΘ2z b q1, q2⟩
    · rcases kill_get hj with h | ⟨_, h⟩
      · cases h
      · exact hu1.rows j e sz rows h
    · rcases kill_get hj with h | ⟨_, h⟩
      · subst h; trivial
      · exact hu1.more j o h
  obtain ⟨Lb, a1, a2, a3, a4, a6, a5⟩ := kcs.inst N
  obtain ⟨Ld, c1, c2, c3, c4, c6, c5⟩ := kres.inst (N + (instCs N cells').2.length)
  have hLbl : Lb.length = (instCs N cells').2.length := by rw [← a1]; simp
  let L := Lb ++ Ld
  have hbl : u3 ++ u2 = L.flatMap Fs.bl := by simp [L, a3, c3]
  have hts' : t3 ++ t2 = L.flatMap Fs.ts := by simp [L, a4, c4]
  rw [hbl] at knd ku kt
  rw [hts'] at kt kb
  have hLok : ∀ x ∈ L, x.ok w' := fun x hx => by
    rcases List.mem_append.1 hx with hx | hx
    · exact a2 x hx
    · exact c2 x hx
  have hLvs : ∀ x ∈ L, x.sh = true → ∀ b ∈ x.vs, b ∈ b3 ++ b2 := fun x hx hs' b hb => by
    rcases List.mem_append.1 hx with hx | hx
    · exact List.mem_append.2 (.inl (a6 x hx hs' b hb))
    · exact List.mem_append.2 (.inr (c6 x hx hs' b hb))
  let κ' : Nat → Option Value := fun j => if j < N then κ j else (L[j - N]?).map Fs.v
  let Θ' : Nat → Nat := fun b => if b = g then id + 2 else match topOf L b with | some i => N + i + 2 | none => if Θ2 b = N + 2 then 0 else Θ2 b
  let ρ' : Nat → Nat := fun b => match belowOf L b with | some i => N + i + 1 | none => ρ1 b
  have hgt : g ∉ L.flatMap Fs.bl := fun h => (ku g h).2.1 rfl
  have hΘ'g : Θ' g = id + 2 := by simp [Θ']
  have hΘ'top : ∀ (i : Nat) x b, L[i]? = some x → x.v.ownBlock = some b → Θ' b = N + i + 2 := by
    intro i x b hx hb
    have hb' : b ∈ L.flatMap Fs.ts := List.mem_flatMap.2 ⟨x, List.mem_of_getElem? hx, by simp [Fs.ts, hb]⟩
    have hne : b ≠ g := fun e => hgt (e ▸ bl_of_ts hb')
    simp only [Θ', topOf_at knd hx hb]
    rw [if_neg hne]
  have hΘ'no : ∀ b, b ≠ g → b ∉ L.flatMap Fs.ts → Θ' b = if Θ2 b = N + 2 then 0 else Θ2 b := by
    intro b h1 h2
    simp only [Θ', topOf_none h2]
    rw [if_neg h1]
  have hzero : ∀ b, w.heap.size ≤ b → Θ2 b = 0 := fun b hge => by
    cases h : Θ2 b with
    | zero => rfl
    | succ m => exact absurd (hs2.own b (by omega)) (by omega)
  have hshz : ∀ b ∈ b3 ++ b2, Θ' b = 0 := by
    intro b hb
    obtain ⟨p1, p2, p3⟩ := kb b hb
    rw [hΘ'no b p2 p3]
    by_cases hlt : b < w.heap.size
    · rcases p1 hlt with h | h
      · rw [hΘ2z b ((hΘc b).1 h)]; simp
      · rw [if_pos (hΘ2t b (.inr h))]
    · rw [hzero b (by omega)]; simp
  have hnsz : ∀ (i : Nat) x b, L[i]? = some x → b ∈ x.ns → Θ' b = 0 := by
    intro i x b hx hb
    have hmem := bl_of_ns hx hb
    rw [hΘ'no b (ku b hmem).2.1 (ns_not_top knd hx hb)]
    rcases (ku b hmem).1 with h | h
    · rw [hzero b h]; simp
    · rcases hrp.mem b h with h | ⟨m, hm, hρ⟩
      · rw [if_pos (hΘ2t b (.inr h))]
      · rw [hΘ2z b (hu1.free b (by omega)).1]; simp
  have hn : ∀ (j : Nat) v, κ j = some v → κ' j = some v := by
    intro j v hj
    have : j < N := Classical.byContradiction fun h => by rw [hs.kout j (by omega)] at hj; cases hj
    simp only [κ']; rw [if_pos this]; exact hj
  have hnames : Names κ' N L := by
    intro i x hx
    simp only [κ']
    rw [if_neg (by omega), Nat.add_sub_cancel_left, hx]; rfl
  have hmTop : ∀ b ∈ L.flatMap Fs.ts, Mine Γ b := by
    intro b hb
    rcases (kt b hb).2 with h | h
    · exact .inl (Nat.le_trans hs.base h)
    · obtain ⟨m, hm, hΘ⟩ := htsq b h
      exact hs1.mine b (by omega)
  have k : Keeps w w' Θ2 Θ' (N + 2) := by
    refine ⟨by omega, k1, k2, k3, k4, fun b hlt hne => kblock b hlt (fun e => hne (hΘ2t b (.inl e))) (fun e => hne (hΘ2t b (.inr e))), fun b hlt hne => ?_, fun b hb => ?_⟩
    · rw [hΘ'no b (fun e => hne (hΘ2t b (.inl e))) (fun e => ?_), if_neg hne]
      rcases (kt b e).2 with h | h
      · omega
      · exact hne (hΘ2t b (.inr h))
    · by_cases e : b = g
      · subst e; omega
      · by_cases ht' : b ∈ L.flatMap Fs.ts
        · obtain ⟨x, T, hx⟩ := (ku b (bl_of_ts ht')).2.2
          exact (Array.getElem?_eq_some_iff.1 hx).1
        · rw [hΘ'no b e ht'] at hb
          split at hb
          · exact absurd rfl hb
          · exact Nat.lt_of_lt_of_le (hs2.own b hb) k4
  have hm : ∀ b, 2 ≤ Θ' b → Mine Γ b := by
    intro b hb
    by_cases e : b = g
    · subst e; exact hs1.mine b (by omega)
    · by_cases ht' : b ∈ L.flatMap Fs.ts
      · exact hmTop b ht'
      · rw [hΘ'no b e ht'] at hb
        split at hb
        · omega
        · exact hs2.mine b hb
  have hus := hs2.uniqStay k hn hu2
  have hH'len : ((kill st.H (ms ++ qs)).set id (ob.re (instCs N cells').1)).length = N := by simp [kill_length, N]
  have kill_app : ∀ (as bs : List Nat) (H : List Ob), kill H (as ++ bs) = kill (kill H as) bs := by
    intro as
    induction as with
    | nil => intro bs H; rfl
    | cons x as ih => intro bs H; simp only [List.cons_append, kill, ih]
  have hobs : (instCs N cells').2 ++ (instS (N + (instCs N cells').2.length) d).2 = L.map Fs.ob := by simp [L, a1, c1]
  have key : ∀ (j : Nat) y, ((kill st.H (ms ++ qs)).set id (ob.re (instCs N cells').1) ++ L.map Fs.ob)[j]? = some y → (∃ i x, j = N + i ∧ L[i]? = some x ∧ y = x.ob) ∨ (j = id ∧ y = ob.re (instCs N cells').1) ∨ (j ≠ id ∧ j < N ∧ (y = .gone ∨ (kill (kill st.H ms) (id :: qs))[j]? = some y)) := by
    intro j y hj
    by_cases hlt : j < N
    · rw [List.getElem?_append_left (by rw [hH'len]; exact hlt)] at hj
      rcases set_key j y hj with ⟨rfl, rfl⟩ | ⟨h1, h2⟩
      · exact .inr (.inl ⟨rfl, rfl⟩)
      · refine .inr (.inr ⟨h1, hlt, ?_⟩)
        rcases kill_get h2 with h | ⟨h3, h4⟩
        · exact .inl h
        · refine .inr ?_
          simp only [List.mem_append, not_or] at h3
          rw [kill_other (by simp [h1, h3.2]), kill_other h3.1]; exact h4
    · rw [List.getElem?_append_right (by omega), hH'len, List.getElem?_map] at hj
      cases hx : L[j - N]? with
      | none => simp [hx] at hj
      | some x => simp [hx] at hj; exact .inl ⟨j - N, x, by omega, hx, hj.symm⟩
  have hs' : Sim Γ ⟨st.σ, (kill st.H (ms ++ qs)).set id (ob.re (instCs N cells').1) ++ L.map Fs.ob⟩ κ' Θ' a w' := by
    have hstay : ∀ (j : Nat) y, (kill (kill st.H ms) (id :: qs))[j]? = some y → y ≠ .gone → ∀ b, ρ1 b = j + 1 → ρ' b = j + 1 := by
      intro j y hy hyg b hρj
      have hjk : j ∉ id :: qs := by
        rcases kill_get hy with h | h
        · exact absurd h hyg
        · exact h.1
      have hnb : belowOf L b = none := by
        cases hi : belowOf L b with
        | none => rfl
        | some i =>
          exfalso
          obtain ⟨x, hx, hbx⟩ := belowOf_some hi
          obtain ⟨z0, _, cs'', T'', hx''⟩ := hu1.free b (by omega)
          rcases (ku b (bl_of_ns hx hbx)).1 with h | h
          · have := (Array.getElem?_eq_some_iff.1 hx'').1; omega
          · rcases hrp.mem b h with h | ⟨m, hm', hρ⟩
            · obtain ⟨m, hm', hΘ⟩ := htsq b h; omega
            · exact hjk (by have : j = m := by omega
                            rw [this]; simp [hm'])
      simp only [ρ', hnb]; exact hρj
    refine hs2.step k hm hn ?_ ?_ ?_ ⟨ρ', ?_, ?_, ?_⟩
    · intro i hi
      simp only [List.length_append, hH'len, List.length_map] at hi
      simp only [κ']
      rw [if_neg (by omega), List.getElem?_eq_none (by omega)]; rfl
    · intro i u hu'
      simp only [κ'] at hu'
      split at hu'
      · exact hs.kone i u hu'
      · cases hx : L[i - N]? with
        | none => simp [hx] at hu'
        | some x => simp [hx] at hu'; subst hu'; exact (hLok x (List.mem_of_getElem? hx)).2.2.2.2
    · intro j y hj
      rcases key j y hj with ⟨i, x, rfl, hx, rfl⟩ | ⟨rfl, rfl⟩ | ⟨hji, hjl, hy | hy⟩
      · exact .inr (.inr (Fs.rel (hLok x (List.mem_of_getElem? hx)) (hnames i x hx) (fun g' hg' => hΘ'top i x g' hx hg') (fun b hb' => hnsz i x b hx hb') fun hs' b hb' => hshz b (hLvs x (List.mem_of_getElem? hx) hs' b hb')))
      · obtain ⟨b5, r5, s5⟩ := a5 κ' hnames.left
        refine .inr (.inr (ObRel.ofCs hob hobr (hn _) (fun c0 u0 e0' c hc g2 cs2 T2 hk2 hg2 => by
          subst e0'
          rw [hn _ _ hk0] at hk2; cases hk2
          rw [kg] at hg2; cases hg2
          obtain ⟨z1, z2⟩ := hobr.1.2 c hc g cs T hk0 hgc
          exact ⟨(kkept z1).1, (kkept z1).2.trans z2⟩) ⟨g, cs', T', hn _ _ hk0, kg, hΘ'g, b5, r5, fun b hb => hshz b (by simp [s5 b hb])⟩))
      · exact .inl hy
      · exact .inr (.inl ⟨by omega, hy⟩)
    · intro b hb
      cases hbl' : belowOf L b with
      | some i =>
        obtain ⟨x, hx, hbx⟩ := belowOf_some hbl'
        have hmem := bl_of_ns hx hbx
        refine ⟨hnsz i x b hx hbx, ?_, (ku b hmem).2.2⟩
        rcases (ku b hmem).1 with h | h
        · exact .inl (.inl (Nat.le_trans hs.base h))
        · rcases hrp.mem b h with h | ⟨m, hm', hρ⟩
          · obtain ⟨m, hm', hΘ⟩ := htsq b h
            exact .inl (hs1.mine b (by omega))
          · exact (hu1.free b (by omega)).2.1
      | none =>
        simp only [ρ', hbl'] at hb
        exact hus.1 b hb
    · intro j e sz rows hj
      rcases key j _ hj with ⟨i, x, rfl, hx, hy⟩ | ⟨rfl, hy⟩ | ⟨hji, hjl, hy | hy⟩
      · obtain ⟨hsh, rfl, rfl, rfl⟩ := Fs.uq_inv hy.symm
        have q4 := (hLok x (List.mem_of_getElem? hx)).uq hsh
        obtain ⟨q1, q2, q3, _, _⟩ := hLok x (List.mem_of_getElem? hx)
        exact ⟨x.v, x.cs, x.ns, hnames i x hx, q3, q4, ns_nodup knd hx, fun b hb' => by simp only [ρ', belowOf_at knd hx hb']⟩
      · cases ob <;> simp [Ob.re] at hy
      · cases hy
      · obtain ⟨v', c', bs', r1, r2, r3, r4, r5⟩ := hus.2.1 j e sz rows (by omega) hy
        exact ⟨v', c', bs', r1, r2, r3, r4, fun b hb' => hstay j _ hy (by simp) b (r5 b hb')⟩
    · intro j y hj
      rcases key j _ hj with ⟨i, x, rfl, hx, hy⟩ | ⟨rfl, hy⟩ | ⟨hji, hjl, hy | hy⟩
      · subst hy; exact Fs.plain x
      · subst hy; cases ob <;> exact UqM.plain2 rfl
      · subst hy; trivial
      · by_cases hg : y = .gone
        · subst hg; trivial
        · exact (hus.2.2 j y (by omega) hy).re (hstay j y hy hg)
  rw [hobs] at h
  obtain ⟨b6, r6, s6⟩ := c5 κ' (by rw [← hLbl]; exact hnames.right)
  exact hK _ _ (h _ _ _ _ (hs'.set (t := t) ht r6 fun b hb => hshz b (by simp [s6 b hb])))

/-- f hands back a pointer to a new variable that holds 'cells' -/
def GoodN (P : Program) (f : FuncId) (ds cells : List D) : Prop :=
  (∃ fn, P.funcs[f]? = some fn ∧ fn.body.isSome = true ∧ (fn.name == "runtime.NumGoroutine") = false) ∧
  ∀ (w : World) (Θ : Nat → Nat) (args : List Value) (bs : List Nat), Vok w (fun _ => False) → Rda w args ds bs → (∀ b ∈ bs, Θ b = 0) → (∀ b, Θ b ≠ 0 → b < w.heap.size) → (∀ b, Θ b ≤ 1) →
    Calls P f args.toArray w (fun e w' => ∃ g cs T bs', e = .returned (.pointer (some ⟨g, 0, none⟩)) ∧ Below w.heap.size w w' ∧ w.heap.size ≤ g ∧ w'.heap[g]? = some (.cells cs T (0, 0)) ∧ Rds w' cs.toList cells bs' ∧
      ∀ b ∈ bs', (b < w.heap.size → Θ b = 0) ∧ b ≠ g)
def RetN (P : Program) (fn : Func) (cells : List D) (e : Exit) (st : St) : Prop :=
  (e = .ret ∨ e = .normal) ∧ ∃ j, resDs P st fn.results.toList = some [.ptr j 0] ∧ st.H[j]? = some (.box cells) ∧ cells.all D.isP = true

theorem GoodN.of {f : FuncId} {fn : Func} {c : Code} {ds cells : List D} (hf : P.funcs[f]? = some fn) (hb : fn.body = some c) (hn : (fn.name == "runtime.NumGoroutine") = false)
    (hl : ds.length ≤ fn.ntmps) (h : (∀ d ∈ ds, Rdb d) → ∀ Γ : Ctx, Γ.nt = fn.ntmps → AW P Γ c (RetN P fn cells) ⟨args0 0 ds, []⟩) : GoodN P f ds cells := by
  refine ⟨⟨fn, hf, by simp [hb], hn⟩, ?_⟩
  intro w Θ args bs hvs hargs hz hown h1
  obtain ⟨hlen, hat⟩ := hargs.at
  refine calls_of_wp hf hb ?_
  let Γ : Ctx := ⟨w, Θ, fun _ => False, fn.ntmps, fun _ => False, hvs⟩
  have hs : Sim Γ ⟨args0 0 ds, []⟩ (fun _ => none) Θ { tmps := args.toArray ++ Array.replicate (fn.ntmps - args.toArray.size) undef, defers := [] } w := by
    refine ⟨rfl, ?_, fun _ _ => rfl, by simp, ?_, by simp, hown, fun b _ _ => ⟨rfl, h1 b⟩, fun b hb => by have := h1 b; omega, ⟨rfl, rfl, rfl, Nat.le_refl _, fun _ _ _ => rfl⟩, ⟨fun _ => 0, by simp, by simp, by simp⟩⟩
    · simp [Γ]; omega
    · intro t
      rw [lk_args0]
      simp only [Nat.not_lt_zero, if_false, Nat.sub_zero]
      cases hd : ds[t]? with
      | none => exact ⟨[], .of (.any _), by simp⟩
      | some x =>
        obtain ⟨v, b, k1, k2, k3⟩ := hat t x hd
        refine ⟨b, ?_, fun y hy => hz y (k3 y hy)⟩
        have hlt : t < args.length := (List.getElem?_eq_some_iff.1 k1).1
        have : (args.toArray ++ Array.replicate (fn.ntmps - args.toArray.size) undef).getD t undef = v := by
          rw [Array.getD_eq_getD_getElem?, Array.getElem?_append_left (by simpa using hlt)]
          simp [k1]
        rw [this]
        exact .of k2
  refine wp_mono (h hargs.rdb Γ rfl _ _ _ _ hs) ?_
  rintro e a' w' ⟨st0, κ0, Θ0, hs0, hret, j, hres, hH, hp⟩
  obtain ⟨vs, bs', m1, m2, m3, m4, m5⟩ := resDs_run hs0 hres
  obtain ⟨v, b, n1, n2, _⟩ := m4 0 _ rfl
  obtain ⟨g, hk, hv⟩ := n2.ptr_inv
  obtain ⟨g', cs, T, hk', hg, hΘ, bb, hbb, hbz⟩ := hs0.ob j _ hH
  rw [hk] at hk'; cases hk'
  have hvs1 : vs = [v] := by
    simp only [List.length_cons, List.length_nil] at m3
    match vs, m2, n1 with
    | [], _, n1 => simp at n1
    | [x], _, n1 => simp at n1; rw [n1]
    | x :: y :: r, m2, _ => simp only [List.length_cons] at m2; omega
  have hrun : (results fn a'.tmps).run P w' = .ok (.pointer (some ⟨g, 0, none⟩)) w' := by
    rw [results_eq, Array.mapM_eq_mapM_toList]
    simp [m1, hvs1, hv]
  have hbelow : Below w.heap.size w w' := ⟨hs0.stays.os, hs0.stays.tape, hs0.stays.output, hs0.stays.size, fun b hb => hs0.stays.block b hb (fun h => h)⟩
  have hgm : w.heap.size ≤ g := by
    rcases hs0.mine g (by omega) with q | q
    · exact q
    · exact q.elim
  have post : a'.defers = [] ∧ ∃ v, (results fn a'.tmps).run P w' = .ok v w' ∧ ∃ g cs T bs', Ending.returned v = .returned (.pointer (some ⟨g, 0, none⟩)) ∧ Below w.heap.size w w' ∧ w.heap.size ≤ g ∧ w'.heap[g]? = some (.cells cs T (0, 0)) ∧ Rds w' cs.toList cells bs' ∧
      ∀ b ∈ bs', (b < w.heap.size → Θ b = 0) ∧ b ≠ g := by
    refine ⟨hs0.defers, _, hrun, g, cs, T, bb, rfl, hbelow, hgm, hg, hbb.pure hp, fun b hb' => ⟨fun hlt => ?_, fun e => ?_⟩⟩
    · exact (hs0.old b hlt (fun h => h)).1.symm.trans (hbz b hb')
    · have := hbz b hb'; subst e; omega
  rcases hret with rfl | rfl
  · exact post
  · exact post

/-- A CALL THAT HANDS BACK A POINTER -/
theorem AO_callN {o : Oper} {f t : Nat} {xs : Array Operand} {ts : Array TypeId} {ds cells : List D} (hop : o.op = .call { callee := .value (.func f), args := xs, argTypes := ts }) (hd : o.dst = some t) (hg : o.guard = none)
    (ht : t < Γ.nt) (hds : vwVs st.H (xs.toList.map st.ev) = some (ds, [])) (hgood : GoodN P f ds cells)
    (h : AO P Γ all rest Q ⟨(t, .ptr st.H.length 0) :: st.σ, st.H ++ [.box cells]⟩) : AO P Γ all (o :: rest) Q st := by
  intro κ Θ a w hs
  obtain ⟨bs, hargs, hz⟩ := vwVs_rd hs hds
  have hz0 : ∀ b ∈ bs, Θ b = 0 := fun b hb => (hz b hb).elim id (fun ⟨m, h1, _⟩ => by cases h1)
  let Θc : Nat → Nat := fun b => if Θ b = 0 then 0 else 1
  have hΘc : ∀ b, Θc b = 0 ↔ Θ b = 0 := fun b => by simp only [Θc]; split <;> simp_all
  have hc := hgood.2 w Θc _ bs hs.vok hargs (fun b hb => (hΘc b).2 (hz0 b hb)) (fun b hb => hs.own b (fun e => hb ((hΘc b).2 e))) (fun b => by simp only [Θc]; split <;> omega)
  refine wpList_plain hg fun K hK => ?_
  unfold Oper.wp
  rw [run_call hop hgood.1, Oper.upon_enter]
  have e : xs.map a.eval = (xs.toList.map a.eval).toArray := by rw [← Array.toList_map, Array.toArray_toList]
  rw [e]
  refine hc.mono ?_
  rintro e w' ⟨g, cs, T, bs', rfl, hb, hge, hg', hrd, hbb⟩
  show K (a.put o.dst (.pointer (some ⟨g, 0, none⟩))) w'
  rw [hd]
  let Θ' : Nat → Nat := fun b => if b = g then st.H.length + 2 else Θ b
  have k : Keeps w w' Θ Θ' (st.H.length + 2) := by
    refine ⟨by omega, hb.os, hb.tape, hb.output, hb.size, fun b hlt _ => hb.block b hlt, fun b hlt _ => ?_, fun b hb' => ?_⟩
    · simp only [Θ']; rw [if_neg (by omega)]
    · simp only [Θ'] at hb'
      split at hb'
      · rename_i e; subst e; exact (Array.getElem?_eq_some_iff.1 hg').1
      · exact Nat.lt_of_lt_of_le (hs.own b hb') hb.size
  have hbz : ∀ b ∈ bs', Θ' b = 0 := by
    intro b hb'
    obtain ⟨h1, h2⟩ := hbb b hb'
    simp only [Θ']; rw [if_neg h2]
    by_cases hlt : b < w.heap.size
    · exact (hΘc b).1 (h1 hlt)
    · cases h : Θ b with
      | zero => rfl
      | succ m => exact absurd (hs.own b (by omega)) hlt
  have hs' := hs.push (o := .box cells) (v := .pointer (some ⟨g, 0, none⟩)) rfl k (hs.keepsMine (fun b hb' => by
    simp only [Θ'] at hb'
    split at hb'
    · rename_i e; subst e; exact .inr hge
    · exact .inl hb')) ⟨g, cs, T, upd_self _ _ _, hg', by simp [Θ'], bs', RdCs.ofRds hrd, hbz⟩ rfl
  refine hK _ _ (h _ _ _ _ (hs'.set (t := t) (d := .ptr st.H.length 0) (bs := []) ht ?_ (by simp)))
  exact (RdC.ptr st.H.length 0 g (upd_self _ _ _)).toS

/-- AN OWN SLICE IS CUT SHORT -/
theorem AO_cutO {o : Oper} {T t id e e' sz h : Nat} {kk : IntKind} {x hi : Operand} {rows : List (List D)} (hop : o.op = .slice T x none (some hi) none) (hd : o.dst = some t) (hg : o.guard = none) (ht : t < Γ.nt)
    (hT : tel P T = some (e', sz)) (hx : st.ev x = .acc id) (hH : st.H[id]? = some (.row .uq e sz rows)) (hhi : st.ev hi = .int kk (h : Int)) (hle : h ≤ rows.length)
    (hn : AO P Γ all rest Q ⟨(t, .acc st.H.length) :: st.σ, kill st.H [id] ++ [.row .uq e sz (rows.take h)]⟩) : AO P Γ all (o :: rest) Q st := by
  intro κ Θ a w hs
  obtain ⟨hsz, hrl, v, cs0, bs0, hk, hown0, hrd0, htop, hz0⟩ := hs.ob id _ hH
  obtain ⟨ρ, hu⟩ := hs.uniq
  obtain ⟨v2, cs, bs, hk2, hown, hrd, hnd, hρ⟩ := hu.rows id e sz rows hH
  rw [hk] at hk2; cases hk2
  obtain ⟨bx, rx, _⟩ := hs.ev x
  rw [hx] at rx
  obtain ⟨hkx, _⟩ := rx.acc_inv
  have hvx : a.eval x = v := by rw [hk] at hkx; cases hkx; rfl
  -- the shorter slice
  let v' : Value := match v with | .slice q _ cap => .slice q h cap | u => u
  have hc : pcut rows.length ((none : Option Operand).map st.ev) ((some hi).map st.ev) = some (0, h) := by
    simp [pcut, hhi, hle]
  have hrun : ∃ q cap, v = .slice q rows.length cap ∧ v' = .slice q h cap ∧ (execOp a.eval o).run P w = .ok (.value v') w := by
    obtain ⟨hu', hinf, htsz⟩ := tel_parts hT
    have main : ∀ (q : Option Addr) (cap : Nat), (∀ b off sp, q = some ⟨b, off, sp⟩ → off = 0 ∧ sp = none) → v = .slice q rows.length cap → rows.length ≤ cap → (execOp a.eval o).run P w = .ok (.value (.slice q h cap)) w := by
      intro q cap hq0 hq hcap
      obtain ⟨hr, hl, hh⟩ := run_cut (P := P) (isSlice := true) (cap := cap) hs hcap hc
      have hadd : (if cap = 0 then q else q.map (·.add (0 * sz))) = q := by
        split
        · rfl
        · cases q with
          | none => rfl
          | some ad => simp [Addr.add]
      simp only [Option.map_none, Option.map_some] at hr
      simp only [execOp, hop, hvx, hq]
      simp [Instr.sliceAt, Instr.slice, run_underlying hu', hr, run_size (P := P) hinf w]
      intro hc0
      cases q with
      | none => rfl
      | some ad => simp [Addr.add]
    rcases hown.2 with ⟨rfl, h0⟩ | ⟨g, cap, cur, rfl, _, hgg, hnc, hcm, hcs, htk⟩
    · exact ⟨none, 0, by rw [h0], rfl, main none 0 (by simp) (by rw [h0]) (by omega)⟩
    · exact ⟨some ⟨g, 0, none⟩, cap, rfl, rfl, main _ _ (by simp) rfl hnc⟩
  obtain ⟨q, cap, hvq, hv'q, hrun⟩ := hrun
  have hob : v'.ownBlock = v.ownBlock := by rw [hv'q, hvq]; cases q <;> rfl
  have hone : v'.oneCell' = true := by
    have := hs.kone id v hk
    rw [hvq] at this; rw [hv'q]; exact this
  have hsplit : ∃ cs' bs', w.ownsRow 0 e sz v' (rows.take h).length cs' ∧ RdF w (fcol e) 0 cs' (rows.take h).flatten bs' ∧ bs'.Nodup ∧ ∀ b ∈ bs', b ∈ bs := by
    have e1 : rows.flatten = (rows.take h).flatten ++ (rows.drop h).flatten := by rw [← List.flatten_append, List.take_append_drop]
    have hrd' := hrd
    rw [e1] at hrd'
    obtain ⟨c1, c2, b1, b2, rfl, rfl, k1, k2⟩ := hrd'.split
    have htl : (rows.take h).length = h := by rw [List.length_take]; omega
    have hc1 : c1.length = h * sz := by rw [k1.length, flatten_len (fun r hr => hrl r (List.mem_of_mem_take hr)), htl]
    refine ⟨c1, b1, ?_, k1, (List.nodup_append.1 hnd).1, fun b hb => by simp [hb]⟩
    rw [htl]
    refine ⟨hc1, ?_⟩
    rcases hown.2 with ⟨hv0, h0⟩ | ⟨g, cap', cur, hvs, hbg, hgg, hnc, hcm, hcs, htk⟩
    · left
      have : h = 0 := by omega
      subst this
      have e3 := hv0.symm.trans hvq
      simp only [Value.slice.injEq] at e3
      exact ⟨by rw [hv'q, ← e3.1, ← e3.2.2], rfl⟩
    · right
      have e3 := hvs.symm.trans hvq
      simp only [Value.slice.injEq] at e3
      refine ⟨g, cap', cur, by rw [hv'q, ← e3.1, ← e3.2.2], hbg, hgg, by omega, hcm, hcs, ?_⟩
      have h3 : (cur.toList.take (rows.length * sz)).take (h * sz) = (c1 ++ c2).take (h * sz) := by rw [htk]
      rw [List.take_take, Nat.min_eq_left (Nat.mul_le_mul_right _ hle)] at h3
      rw [h3]; exact List.take_left' hc1
  obtain ⟨cs', bs', p1, p2, p3, p4⟩ := hsplit
  refine wpList_plain hg fun K hK => ?_
  unfold Oper.wp
  rw [hrun, Oper.upon_value, hd]
  let n := st.H.length
  have hidl : id < n := (List.getElem?_eq_some_iff.1 hH).1
  let Θ' : Nat → Nat := fun b => if some b = v'.ownBlock then n + 2 else Θ b
  let ρ' : Nat → Nat := fun b => if ρ b = id + 1 then n + 1 else ρ b
  have hvt : ∀ g, v'.ownBlock = some g → Θ g = id + 2 := fun g hgv => htop g (hob ▸ hgv)
  have k : Keeps w w Θ Θ' (id + 2) := by
    refine ⟨by omega, rfl, rfl, rfl, Nat.le_refl _, fun _ _ _ => rfl, fun b hb hne => ?_, fun b hb => ?_⟩
    · simp only [Θ']
      rw [if_neg fun e => hne (hvt b e.symm)]
    · simp only [Θ'] at hb
      split at hb
      · rename_i e; exact hs.own b (by rw [hvt b e.symm]; omega)
      · exact hs.own b hb
  have hm : ∀ b, 2 ≤ Θ' b → Mine Γ b := by
    intro b hb
    simp only [Θ'] at hb
    split at hb
    · rename_i e; exact hs.mine b (by rw [hvt b e.symm]; omega)
    · exact hs.mine b hb
  have hnn := upd_old (hs.kout n (Nat.le_refl _)) (some v')
  have hus := hs.uniqStay k hnn hu
  have hz' : ∀ b ∈ bs', Θ' b = 0 := by
    intro b hb
    have h1 := (hu.free b (by rw [hρ b (p4 b hb)]; omega)).1
    simp only [Θ']
    rw [if_neg fun e => by have := hvt b e.symm; omega]
    exact h1
  have key : ∀ (j : Nat) y, (kill st.H [id] ++ [.row .uq e sz (rows.take h)])[j]? = some y → (j = n ∧ y = .row .uq e sz (rows.take h)) ∨ (j ≠ n ∧ (y = .gone ∨ (j ∉ [id] ∧ st.H[j]? = some y))) := by
    intro j y hj
    rcases push_key j y hj with ⟨h1, h2⟩ | ⟨h1, h2⟩
    · rw [kill_length] at h1; exact .inl ⟨h1, h2⟩
    · rw [kill_length] at h1
      exact .inr ⟨h1, kill_get h2⟩
  have hs' : Sim Γ ⟨st.σ, kill st.H [id] ++ [.row .uq e sz (rows.take h)]⟩ (upd κ n (some v')) Θ' a w := by
    refine hs.step k hm hnn ?_ ?_ ?_ ⟨ρ', fun b hb => ?_, fun j e2 sz2 rows2 hj => ?_, fun j y hj => ?_⟩
    · intro i hi
      simp only [List.length_append, List.length_cons, List.length_nil, kill_length] at hi
      unfold upd
      rw [if_neg (by omega)]
      exact hs.kout i (by omega)
    · intro i y hy
      unfold upd at hy
      split at hy
      · cases hy; exact hone
      · exact hs.kone i y hy
    · intro j y hj
      rcases key j y hj with ⟨rfl, rfl⟩ | ⟨_, hy | ⟨hjk, hy⟩⟩
      · exact .inr (.inr ⟨hsz, fun r hr => hrl r (List.mem_of_mem_take hr), v', cs', bs', upd_self _ _ _, p1, p2.rd, fun g hgv => by simp only [Θ']; rw [if_pos hgv.symm], hz'⟩)
      · exact .inl hy
      · exact .inr (.inl ⟨fun e => hjk (by simp; omega), hy⟩)
    · refine hus.1 b fun h0 => hb ?_
      simp only [ρ']
      rw [if_neg (by omega)]; exact h0
    · rcases key j _ hj with ⟨rfl, hy⟩ | ⟨_, hy | ⟨hjk, hy⟩⟩
      · simp only [Ob.row.injEq, true_and] at hy
        obtain ⟨rfl, rfl, rfl⟩ := hy
        exact ⟨v', cs', bs', upd_self _ _ _, p1, p2, p3, fun b hb => by simp only [ρ']; rw [if_pos (hρ b (p4 b hb))]⟩
      · cases hy
      · obtain ⟨v3, c3, b3, q1, q2, q3, q4, q5⟩ := hus.2.1 j e2 sz2 rows2 (fun e => hjk (by simp; omega)) hy
        refine ⟨v3, c3, b3, q1, q2, q3, q4, fun b hb => ?_⟩
        have hne : j ≠ id := fun e => hjk (by simp [e])
        simp only [ρ']
        rw [if_neg (by rw [q5 b hb]; omega)]; exact q5 b hb
    · rcases key j _ hj with ⟨rfl, hy⟩ | ⟨_, hy | ⟨hjk, hy⟩⟩
      · subst hy; exact UqM.plain2 rfl
      · subst hy; trivial
      · refine (hus.2.2 j y (fun e => hjk (by simp; omega)) hy).re fun b hb => ?_
        have hne : j ≠ id := fun e => hjk (by simp [e])
        simp only [ρ']
        rw [if_neg (by omega)]; exact hb
  refine hK _ _ (hn _ _ _ _ (hs'.set (t := t) (d := .acc n) (bs := []) ht ?_ (by simp)))
  exact (RdC.acc n _ (upd_self _ _ _)).toS
end
end Go.Cx
