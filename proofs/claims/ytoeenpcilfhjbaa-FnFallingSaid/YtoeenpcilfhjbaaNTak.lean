/- Calls that are handed slices of the caller's own, in values. No condition; plain lemmas. -/
import Derived.Test.YtoeenpcilfhjbaaNPtr
namespace Go.Cx
set_option linter.unusedVariables false
set_option linter.unusedSimpArgs false
open Go.RowKit

/-- f is handed arguments that show ds (and slices that are handed over: '.fr'), and comes back with a value that shows d; all else stays -/
def GoodF (P : Program) (f : FuncId) (ds : List D) (d : D) : Prop :=
  (∃ fn, P.funcs[f]? = some fn ∧ fn.body.isSome = true ∧ (fn.name == "runtime.NumGoroutine") = false) ∧
  ∀ (w : World) (Θ : Nat → Nat) (args : List Value) (bs ts us : List Nat),
    Vok w (fun b => b ∈ ts) → ResVs w args ds bs ts us →
    (∀ b ∈ bs, Θ b = 0) → (∀ b, Θ b ≠ 0 → b < w.heap.size) → (∀ b, Θ b ≤ 1) → (∀ b ∈ ts, Θ b = 1 ∧ b ∈ us) → us.Nodup → (∀ b ∈ us, (b ∉ ts → Θ b = 0) ∧ Wr w b) →
    Calls P f args.toArray w (fun e w' => ∃ v b2 t2 u2, e = .returned v ∧ w'.os = w.os ∧ w'.tape = w.tape ∧ w'.output = w.output ∧ w.heap.size ≤ w'.heap.size ∧
      (∀ b, b < w.heap.size → b ∉ ts → w'.heap[b]? = w.heap[b]?) ∧
      ResS w' v d b2 t2 u2 ∧ (∀ b ∈ b2, (b < w.heap.size → Θ b = 0 ∨ b ∈ ts) ∧ b ∉ t2) ∧ u2.Nodup ∧
      (∀ b ∈ u2, (w.heap.size ≤ b ∨ b ∈ us) ∧ Wr w' b) ∧ ∀ b ∈ t2, b ∈ u2 ∧ (w.heap.size ≤ b ∨ b ∈ ts))

section
variable {P : Program} {Γ : Ctx} {Q : Exit → St → Prop} {st : St} {κ κ' : Nat → Option Value} {Θ Θ' : Nat → Nat} {a : Act} {w w' : World} {all : Array Oper} {rest : List Oper}

theorem RetF.out {fn : Func} {d : D} {e : Exit} {a' : Act} {w' : World} {st0 : St} {κ0 : Nat → Option Value} {Θ0 : Nat → Nat} (hs0 : Sim Γ st0 κ0 Θ0 a' w') (hrq : RetQ P fn d e st0) :
    (e = .ret ∨ e = .normal) ∧ a'.defers = [] ∧ Stays Γ w' ∧ ∃ v b2 t2 u2, (results fn a'.tmps).run P w' = .ok v w' ∧
      ResS w' v d b2 t2 u2 ∧ (∀ b ∈ b2, (b < Γ.W0.heap.size → ¬ Γ.X b → Γ.Θ0 b = 0) ∧ b ∉ t2) ∧ u2.Nodup ∧
      (∀ b ∈ u2, MineU Γ b ∧ Wr w' b) ∧ ∀ b ∈ t2, b ∈ u2 ∧ Mine Γ b := by
  obtain ⟨hret, nz, ds0, es, ms, qs, hres, hrv, hms, hqs, hqm, rfl⟩ := hrq
  obtain ⟨ρ0, hu0⟩ := hs0.uniq
  have hmel := retVs_melts hrv
  obtain ⟨Θ1, ρ1, hs1, hu1, hm1, hz1, hr1⟩ := Sim.meltAll ms hs0 hu0 hms (fun m hm => by
    obtain ⟨e, sz, rows, hH⟩ := hmel.1 m hm
    exact ⟨_, e, sz, rows, hH, rfl⟩)
  obtain ⟨vs, bs', m1, m2, m3, m4, m5⟩ := resDs_run hs0 hres
  have hq : ∀ m e sz rows, st0.H[m]? = some (.row .uq e sz rows) → ∃ v cs ns, κ0 m = some v ∧ 0 < sz ∧ (∀ r ∈ rows, r.length = sz) ∧ w'.ownsRow 0 e sz v rows.length cs ∧ RdF w' (fcol e) 0 cs rows.flatten ns ∧ ns.Nodup ∧ (∀ b ∈ ns, ρ1 b = m + 1) ∧ ∀ g, v.ownBlock = some g → Θ1 g = m + 2 := by
    intro m e sz rows hH
    have hnm : m ∉ ms := fun hm => by
      obtain ⟨e', sz', rows', hH'⟩ := hmel.1 m hm
      rw [hH] at hH'; cases hH'
    have hH1 : (kill st0.H ms)[m]? = some (.row .uq e sz rows) := by rw [kill_other hnm]; exact hH
    obtain ⟨v, cs, ns, r1, r2, r3, r4, r5⟩ := hu1.rows m e sz rows hH1
    obtain ⟨p1, p2, v2, _, _, p3, _, _, p4, _⟩ := hs1.ob m _ hH1
    rw [r1] at p3; cases p3
    exact ⟨v, cs, ns, r1, p1, p2, r2, r3, r4, r5, p4⟩
  have hq2 : ∀ m e sz rows, m ∉ ms → st0.H[m]? = some (.row .sh e sz rows) → ∃ v cs ns, κ0 m = some v ∧ 0 < sz ∧ (∀ r ∈ rows, r.length = sz) ∧ w'.ownsRow 0 e sz v rows.length cs ∧ Rds w' cs rows.flatten ns ∧ (∀ b ∈ ns, Θ1 b = 0) ∧ ∀ g, v.ownBlock = some g → Θ1 g = m + 2 := by
    intro m e sz rows hnm hH
    obtain ⟨p1, p2, v2, cs, ns, p3, p4, p5, p6, p7⟩ := hs1.ob m _ (show (kill st0.H ms)[m]? = _ by rw [kill_other hnm]; exact hH)
    exact ⟨v2, cs, ns, p3, p1, p2, p4, p5, p7, p6⟩
  obtain ⟨c, ts, us, hresv, hrp⟩ := retVs_res (w := w') (vs := vs) (fun b hb => (hu1.free b hb).1) hq hq2 hs0.kone hrv hqm hqs (by omega) (fun i d hd => by
    obtain ⟨v, b, k1, k2, k3⟩ := m4 i d hd
    exact ⟨v, b, k1, k2, fun x hx => hz1 x (m5 x (k3 x hx))⟩) hm1
  have hfin : ∃ v, (results fn a'.tmps).run P w' = .ok v w' ∧ ResS w' v (packD es) c ts us := by
    have hrun : (results fn a'.tmps).run P w' = .ok (if h : vs.toArray.size = 1 then vs.toArray[0] else .tuple vs.toArray) w' := by
      rw [results_eq, Array.mapM_eq_mapM_toList]
      simp [m1]
    cases hresv with
    | nil => exact ⟨.tuple #[], by simpa using hrun, .tup [] [] [] [] [] .nil⟩
    | cons v vs d es b1 b2 t1 t2 u1 u2 hv hrest =>
      cases hrest with
      | nil =>
        simp only [List.append_nil]
        exact ⟨v, by simpa using hrun, .v hv⟩
      | cons v2 vs d2 es b3 b4 t3 t4 u3 u4 hv2 hrest => exact ⟨.tuple (v :: v2 :: vs).toArray, by simpa using hrun, .tup _ _ _ _ _ (.cons _ _ _ _ _ _ _ _ _ _ hv (.cons _ _ _ _ _ _ _ _ _ _ hv2 hrest))⟩
  obtain ⟨v, hr1', hr2'⟩ := hfin
  refine ⟨hret, hs0.defers, hs0.stays, v, c, ts, us, hr1', hr2', fun b hb => ⟨fun hlt hx => ?_, fun ht => ?_⟩, hrp.nd, fun b hb => ?_, fun b hb => ?_⟩
  · have := hrp.zero b hb
    rw [← (hs1.old b hlt hx).1]; exact this
  · obtain ⟨⟨m, _, hΘ⟩, _⟩ := hrp.top b ht
    have := hrp.zero b hb
    omega
  · rcases hrp.mem b hb with h | ⟨m, hm, hρ⟩
    · obtain ⟨⟨m, hm, hΘ⟩, _⟩ := hrp.top b h
      exact ⟨.inl (hs1.mine b (by omega)), ResS_top hr2' b h⟩
    · have := hu1.free b (by omega)
      exact ⟨this.2.1, this.2.2⟩
  · obtain ⟨⟨m, hm, hΘ⟩, h2⟩ := hrp.top b hb
    exact ⟨h2, hs1.mine b (by omega)⟩

/-- A CONTRACT OUT OF AN ABSTRACT WALK -/
theorem GoodF.of {f : FuncId} {fn : Func} {c : Code} {ds ds1 : List D} {obs : List Ob} {d : D} (hf : P.funcs[f]? = some fn) (hb : fn.body = some c) (hn : (fn.name == "runtime.NumGoroutine") = false)
    (hI : instVs 0 ds = (ds1, obs)) (hl : ds1.length ≤ fn.ntmps)
    (h : (∀ x ∈ ds.map D.shV, Rdb x) → ∀ (Γ : Ctx), Γ.nt = fn.ntmps → AW P Γ c (RetQ P fn d) ⟨args0 0 ds1, obs⟩) : GoodF P f ds d := by
  refine ⟨⟨fn, hf, by simp [hb], hn⟩, ?_⟩
  intro w Θ args bs ts us hvs hargs hz hown h1 hts hnd hus
  have hshown := hargs.shown
  obtain ⟨L, q1, q2, rfl, rfl, q6, q5⟩ := hargs.inst 0
  rw [hI] at q1 q5
  have q1 : L.map Fs.ob = obs := q1
  refine calls_of_wp hf hb ?_
  let κ0 : Nat → Option Value := fun i => (L[i]?).map Fs.v
  let Θ0 : Nat → Nat := fun b => match topOf L b with | some i => i + 2 | none => Θ b
  let ρ0 : Nat → Nat := fun b => match belowOf L b with | some i => i + 1 | none => 0
  let Γ : Ctx := ⟨w, Θ0, fun b => b ∈ L.flatMap Fs.ts, fn.ntmps, fun b => b ∈ L.flatMap Fs.bl, hvs⟩
  have hkS : ∀ i x, L[i]? = some x → κ0 i = some x.v := fun i x hx => by simp [κ0, hx]
  have hnm : Names κ0 0 L := fun i x hx => by rw [Nat.zero_add]; exact hkS i x hx
  obtain ⟨bs0, hrd, hb0⟩ := q5 κ0 hnm
  have hlen : args.length = ds1.length := hrd.len
  have htopm : ∀ (i : Nat) x b, L[i]? = some x → x.v.ownBlock = some b → b ∈ L.flatMap Fs.ts := fun i x b hx hb' => List.mem_flatMap.2 ⟨x, List.mem_of_getElem? hx, by simp [Fs.ts, hb']⟩
  have hΘtop : ∀ (i : Nat) x b, L[i]? = some x → x.v.ownBlock = some b → Θ0 b = i + 2 := by
    intro i x b hx hb'
    simp only [Θ0, topOf_at hnd hx hb']
  have hΘz : ∀ b, Θ b = 0 → Θ0 b = 0 := by
    intro b h0
    have e2 : b ∉ L.flatMap Fs.ts := fun e => by have := (hts b e).1; omega
    simp only [Θ0, topOf_none e2]
    exact h0
  have hns0 : ∀ (i : Nat) x b, L[i]? = some x → b ∈ x.ns → Θ0 b = 0 := fun i x b hx hb' => hΘz b ((hus b (bl_of_ns hx hb')).1 (ns_not_top hnd hx hb'))
  have hΘc : ∀ b, Θ0 b ≠ Θ b → b ∈ L.flatMap Fs.ts := by
    intro b hne
    refine Classical.byContradiction fun ht => hne ?_
    simp only [Θ0, topOf_none ht]
  have hobk : ∀ (j : Nat) o, obs[j]? = some o → ∃ x, L[j]? = some x ∧ o = x.ob := by
    intro j o hj
    rw [← q1, List.getElem?_map] at hj
    cases hx : L[j]? with
    | none => simp [hx] at hj
    | some x => simp [hx] at hj; exact ⟨x, rfl, hj.symm⟩
  have hoblen : obs.length = L.length := by rw [← q1]; simp
  have hs : Sim Γ ⟨args0 0 ds1, obs⟩ κ0 Θ0 { tmps := args.toArray ++ Array.replicate (fn.ntmps - args.toArray.size) undef, defers := [] } w := by
    refine ⟨rfl, ?_, fun i hi => ?_, ?_, ?_, ?_, ?_, ?_, ?_, ⟨rfl, rfl, rfl, Nat.le_refl _, fun _ _ _ => rfl⟩, ⟨ρ0, ?_, ?_, ?_⟩⟩
    · simp [Γ]; omega
    · have hi : obs.length ≤ i := hi
      simp only [κ0]
      rw [List.getElem?_eq_none (by omega)]; rfl
    · intro id u hu
      simp only [κ0] at hu
      cases hx : L[id]? with
      | none => simp [hx] at hu
      | some x => simp [hx] at hu; subst hu; exact (q2 x (List.mem_of_getElem? hx)).2.2.2.2
    · intro t
      rw [lk_args0]
      simp only [Nat.not_lt_zero, if_false, Nat.sub_zero]
      have hgetD : ∀ v, args[t]? = some v → (args.toArray ++ Array.replicate (fn.ntmps - args.toArray.size) undef).getD t undef = v := by
        intro v hv
        have hlt := (List.getElem?_eq_some_iff.1 hv).1
        rw [Array.getD_eq_getD_getElem?, Array.getElem?_append_left (by simpa using hlt)]
        simp only [List.getElem?_toArray, hv, Option.getD_some]
      cases hd : ds1[t]? with
      | none => exact ⟨[], .of (.any _), by simp⟩
      | some x =>
        obtain ⟨v, b', k1, k2, k3⟩ := hrd.at (i := t) (d := x) hd
        rw [hgetD v k1]
        exact ⟨b', .v k2, fun b hb' => hΘz b (hz b (hb0 b (k3 b hb')))⟩
    · intro j o hj
      obtain ⟨x, hx, rfl⟩ := hobk j o hj
      exact Fs.rel (q2 x (List.mem_of_getElem? hx)) (hkS j x hx) (fun b hb' => hΘtop j x b hx hb') (fun b hb' => hns0 j x b hx hb') fun hs' b hb' => hΘz b (hz b (q6 x (List.mem_of_getElem? hx) hs' b hb'))
    · intro b hb'
      by_cases e : Θ0 b = Θ b
      · exact hown b (by rw [← e]; exact hb')
      · exact hown b (by have := (hts b (hΘc b e)).1; omega)
    · intro b hlt hx
      refine ⟨rfl, ?_⟩
      have e : Θ0 b = Θ b := Classical.byContradiction fun e => hx (hΘc b e)
      rw [e]; exact h1 b
    · intro b hb'
      refine .inr (hΘc b fun e => ?_)
      have := h1 b
      omega
    · intro b hb'
      cases hbl : belowOf L b with
      | none => simp [ρ0, hbl] at hb'
      | some i =>
        obtain ⟨x, hx, hbx⟩ := belowOf_some hbl
        exact ⟨hns0 i x b hx hbx, .inr (bl_of_ns hx hbx), (hus b (bl_of_ns hx hbx)).2⟩
    · intro id e sz rows hj
      obtain ⟨x, hx, hox⟩ := hobk id _ hj
      obtain ⟨hsh, rfl, rfl, rfl⟩ := Fs.uq_inv hox.symm
      have p4 := (q2 x (List.mem_of_getElem? hx)).uq hsh
      obtain ⟨p1, p2, p3, _, _⟩ := q2 x (List.mem_of_getElem? hx)
      exact ⟨x.v, x.cs, x.ns, hkS id x hx, p3, p4, ns_nodup hnd hx, fun b hb' => by simp [ρ0, belowOf_at hnd hx hb']⟩
    · intro id o hj
      obtain ⟨x, hx, hox⟩ := hobk id _ hj
      subst hox; exact Fs.plain x
  refine wp_mono (h hshown Γ rfl _ _ _ _ hs) ?_
  rintro x a' w' ⟨st0, κ1, Θ1, hs0, hrq⟩
  obtain ⟨hret, hdf, hst, v, b2, t2, u2, hrun, hres, hb2, hnd', hu', ht'⟩ := RetF.out hs0 hrq
  have post : a'.defers = [] ∧ ∃ v', (results fn a'.tmps).run P w' = .ok v' w' ∧ ∃ v b2 t2 u2, Ending.returned v' = .returned v ∧ w'.os = w.os ∧ w'.tape = w.tape ∧ w'.output = w.output ∧ w.heap.size ≤ w'.heap.size ∧
      (∀ b, b < w.heap.size → b ∉ L.flatMap Fs.ts → w'.heap[b]? = w.heap[b]?) ∧
      ResS w' v d b2 t2 u2 ∧ (∀ b ∈ b2, (b < w.heap.size → Θ b = 0 ∨ b ∈ L.flatMap Fs.ts) ∧ b ∉ t2) ∧ u2.Nodup ∧
      (∀ b ∈ u2, (w.heap.size ≤ b ∨ b ∈ L.flatMap Fs.bl) ∧ Wr w' b) ∧ ∀ b ∈ t2, b ∈ u2 ∧ (w.heap.size ≤ b ∨ b ∈ L.flatMap Fs.ts) := by
    refine ⟨hdf, v, hrun, v, b2, t2, u2, rfl, hst.os, hst.tape, hst.output, hst.size, fun b hlt hnt => hst.block b hlt (fun hx => hnt hx), hres, fun b hb' => ?_, hnd', fun b hb' => ?_, fun b hb' => ?_⟩
    · obtain ⟨k1, k3⟩ := hb2 b hb'
      refine ⟨fun hlt => ?_, k3⟩
      by_cases ht : b ∈ L.flatMap Fs.ts
      · exact .inr ht
      · refine .inl ?_
        have := k1 hlt (fun hx => ht hx)
        have e : Θ0 b = Θ b := Classical.byContradiction fun e => ht (hΘc b e)
        rw [← e]; exact this
    · obtain ⟨k1, k3⟩ := hu' b hb'
      refine ⟨?_, k3⟩
      rcases k1 with (k1 | k1) | k1
      · exact .inl k1
      · exact .inr (bl_of_ts k1)
      · exact .inr k1
    · obtain ⟨k1, k2⟩ := ht' b hb'
      exact ⟨k1, k2⟩
  rcases hret with rfl | rfl
  · exact post
  · exact post

/-- A CALL THAT IS HANDED SLICES OF THE CALLER'S OWN -/
theorem AO_callF {o : Oper} {f t : Nat} {xs : Array Operand} {ty : Array TypeId} {ds : List D} {d : D} {nz : List (List (Option (Nat × Nat)))} {ms qs : List Nat}
    (hop : o.op = .call { callee := .value (.func f), args := xs, argTypes := ty }) (hd : o.dst = some t) (hg : o.guard = none) (ht : t < Γ.nt)
    (hret : retVs st.H nz (xs.toList.map st.ev) = some (ds, ms, qs)) (hms : ms.Nodup) (hqs : qs.Nodup) (hqm : ∀ m ∈ qs, m ∉ ms) (hgood : GoodF P f ds d)
    (h : AO P Γ all rest Q ⟨(t, (instS st.H.length d).1) :: st.σ, kill st.H (ms ++ qs) ++ (instS st.H.length d).2⟩) : AO P Γ all (o :: rest) Q st := by
  intro κ Θ a w hs
  have hmel := retVs_melts hret
  obtain ⟨ρ, hu⟩ := hs.uniq
  obtain ⟨Θ1, ρ1, hs1, hu1, hm1, hz1, hr1⟩ := Sim.meltAll ms hs hu hms (fun m hm => by
    obtain ⟨e, sz, rows, hH⟩ := hmel.1 m hm
    exact ⟨_, e, sz, rows, hH, rfl⟩)
  have hq : ∀ m e sz rows, st.H[m]? = some (.row .uq e sz rows) → ∃ v cs ns, κ m = some v ∧ 0 < sz ∧ (∀ r ∈ rows, r.length = sz) ∧ w.ownsRow 0 e sz v rows.length cs ∧ RdF w (fcol e) 0 cs rows.flatten ns ∧ ns.Nodup ∧ (∀ b ∈ ns, ρ1 b = m + 1) ∧ ∀ g, v.ownBlock = some g → Θ1 g = m + 2 := by
    intro m e sz rows hH
    have hnm : m ∉ ms := fun hm => by
      obtain ⟨e', sz', rows', hH'⟩ := hmel.1 m hm
      rw [hH] at hH'; cases hH'
    have hH1 : (kill st.H ms)[m]? = some (.row .uq e sz rows) := by rw [kill_other hnm]; exact hH
    obtain ⟨v, cs, ns, r1, r2, r3, r4, r5⟩ := hu1.rows m e sz rows hH1
    obtain ⟨p1, p2, v2, _, _, p3, _, _, p4, _⟩ := hs1.ob m _ hH1
    rw [r1] at p3; cases p3
    exact ⟨v, cs, ns, r1, p1, p2, r2, r3, r4, r5, p4⟩
  have hq2 : ∀ m e sz rows, m ∉ ms → st.H[m]? = some (.row .sh e sz rows) → ∃ v cs ns, κ m = some v ∧ 0 < sz ∧ (∀ r ∈ rows, r.length = sz) ∧ w.ownsRow 0 e sz v rows.length cs ∧ Rds w cs rows.flatten ns ∧ (∀ b ∈ ns, Θ1 b = 0) ∧ ∀ g, v.ownBlock = some g → Θ1 g = m + 2 := by
    intro m e sz rows hnm hH
    obtain ⟨p1, p2, v2, cs, ns, p3, p4, p5, p6, p7⟩ := hs1.ob m _ (show (kill st.H ms)[m]? = _ by rw [kill_other hnm]; exact hH)
    exact ⟨v2, cs, ns, p3, p1, p2, p4, p5, p7, p6⟩
  obtain ⟨bs, ts, us, hresv, hrp⟩ := retVs_res (w := w) (vs := xs.toList.map a.eval) (fun b hb => (hu1.free b hb).1) hq hq2 hs.kone hret hqm hqs (by simp) (fun i d hd => by
      rw [List.getElem?_map] at hd
      cases hx : xs.toList[i]? with
      | none => rw [hx] at hd; cases hd
      | some x =>
        rw [hx] at hd; simp only [Option.map_some, Option.some.injEq] at hd; subst hd
        obtain ⟨b, r, z⟩ := hs.ev x
        exact ⟨a.eval x, b, by rw [List.getElem?_map, hx]; rfl, r, fun y hy => hz1 y (z y hy)⟩) hm1
  -- the call
  let Θc : Nat → Nat := fun b => if Θ1 b = 0 then 0 else 1
  have hΘc : ∀ b, Θc b = 0 ↔ Θ1 b = 0 := fun b => by simp only [Θc]; split <;> simp_all
  have htsq : ∀ b ∈ ts, ∃ m ∈ qs, Θ1 b = m + 2 := fun b hb => (hrp.top b hb).1
  have hvok : Vok w fun b => b ∈ ts := by
    obtain ⟨B, v1, v2⟩ := hs1.vsb
    refine ⟨B, v1, fun b hB => ⟨(v2 b hB).2.1, fun hb' => ?_⟩⟩
    have hm : Mine Γ b := by
      obtain ⟨m, hm, hΘ⟩ := htsq b hb'
      exact hs1.mine b (by omega)
    rcases hm with q | q
    · have := (v2 b hB).1; omega
    · exact (v2 b hB).2.2 q
  have hwr : ∀ b ∈ us, Wr w b := by
    intro b hb
    rcases hrp.mem b hb with h | ⟨m, hm, hρ⟩
    · exact ResVs_top hresv b h
    · exact (hu1.free b (by omega)).2.2
  have hc := hgood.2 w Θc (xs.toList.map a.eval) bs ts us hvok hresv (fun b hb => (hΘc b).2 (hrp.zero b hb)) (fun b hb => hs1.own b (fun e => hb ((hΘc b).2 e))) (fun b => by simp only [Θc]; split <;> omega)
    (fun b hb => by
      obtain ⟨m, hm, hΘ⟩ := htsq b hb
      exact ⟨by simp only [Θc]; rw [if_neg (by omega)], (hrp.top b hb).2⟩) hrp.nd (fun b hb => ⟨fun hnt => by
      rcases hrp.mem b hb with h | ⟨m, hm, hρ⟩
      · exact absurd h hnt
      · exact (hΘc b).2 (hu1.free b (by omega)).1, hwr b hb⟩)
  refine wpList_plain hg fun K hK => ?_
  unfold Oper.wp
  rw [run_call hop hgood.1, Oper.upon_enter]
  have e0 : xs.map a.eval = (xs.toList.map a.eval).toArray := by
    rw [← Array.toList_inj, Array.toList_map]
  rw [e0]
  refine hc.mono ?_
  rintro x w' ⟨v, b2, t2, u2, rfl, k1, k2, k3, k4, kblock, kres, kb, knd, ku, kt⟩
  show K (a.put o.dst v) w'
  rw [hd]
  -- objects that are given up
  let N := st.H.length
  have hs2 := hs1.forget qs
  have hNl : (kill st.H ms).length = N := kill_length _ _
  simp only [hNl] at hs2
  let Θ2 : Nat → Nat := fun b => if qs.any (fun m => Θ1 b == m + 2) then N + 2 else Θ1 b
  have hs2 : Sim Γ ⟨st.σ, kill (kill st.H ms) qs⟩ κ Θ2 a w := hs2
  have hΘ2z : ∀ b, Θ1 b = 0 → Θ2 b = 0 := fun b hb => by
    simp only [Θ2]
    rw [if_neg, hb]
    intro h
    obtain ⟨m, _, hm⟩ := List.any_eq_true.1 h
    simp [hb] at hm
  have hΘ2t : ∀ b, b ∈ ts → Θ2 b = N + 2 := by
    intro b hb
    simp only [Θ2]
    rw [if_pos]
    obtain ⟨m, hm, hΘ⟩ := htsq b hb
    exact List.any_eq_true.2 ⟨m, hm, by simp [hΘ]⟩
  have hu2 : Uniq Γ (kill (kill st.H ms) qs) κ Θ2 w ρ1 := by
    refine ⟨fun b hb => ?_, fun j e sz rows hj => ?_, fun j o hj => ?_⟩
    · obtain ⟨q1, q2⟩ := hu1.free b hb
      exact ⟨hΘ2z b q1, q2⟩
    · rcases kill_get hj with h | ⟨_, h⟩
      · cases h
      · exact hu1.rows j e sz rows h
    · rcases kill_get hj with h | ⟨_, h⟩
      · subst h; trivial
      · exact hu1.more j o h
  obtain ⟨L, c1, c2, c3, c4, c6, c5⟩ := kres.inst N
  subst c3; subst c4
  have hLok : ∀ x ∈ L, x.ok w' := c2
  let κ' : Nat → Option Value := fun j => if j < N then κ j else (L[j - N]?).map Fs.v
  let Θ' : Nat → Nat := fun b => match topOf L b with | some i => N + i + 2 | none => if Θ2 b = N + 2 then 0 else Θ2 b
  let ρ' : Nat → Nat := fun b => match belowOf L b with | some i => N + i + 1 | none => ρ1 b
  have hΘ'top : ∀ (i : Nat) x b, L[i]? = some x → x.v.ownBlock = some b → Θ' b = N + i + 2 := by
    intro i x b hx hb
    simp only [Θ', topOf_at knd hx hb]
  have hΘ'no : ∀ b, b ∉ L.flatMap Fs.ts → Θ' b = if Θ2 b = N + 2 then 0 else Θ2 b := by
    intro b h2
    simp only [Θ', topOf_none h2]
  have hzero : ∀ b, w.heap.size ≤ b → Θ2 b = 0 := fun b hge => by
    cases h : Θ2 b with
    | zero => rfl
    | succ m => exact absurd (hs2.own b (by omega)) (by omega)
  have hshz : ∀ b ∈ b2, Θ' b = 0 := by
    intro b hb
    obtain ⟨p1, p3⟩ := kb b hb
    rw [hΘ'no b p3]
    by_cases hlt : b < w.heap.size
    · rcases p1 hlt with h | h
      · rw [hΘ2z b ((hΘc b).1 h)]; simp
      · rw [if_pos (hΘ2t b h)]
    · rw [hzero b (by omega)]; simp
  have hnsz : ∀ (i : Nat) x b, L[i]? = some x → b ∈ x.ns → Θ' b = 0 := by
    intro i x b hx hb
    have hmem := bl_of_ns hx hb
    rw [hΘ'no b (ns_not_top knd hx hb)]
    rcases (ku b hmem).1 with h | h
    · rw [hzero b h]; simp
    · rcases hrp.mem b h with h | ⟨m, hm, hρ⟩
      · rw [if_pos (hΘ2t b h)]
      · rw [hΘ2z b (hu1.free b (by omega)).1]; simp
  have hn : ∀ (j : Nat) v, κ j = some v → κ' j = some v := by
    intro j v hj
    have : j < N := Classical.byContradiction fun h => by rw [hs.kout j (by omega)] at hj; cases hj
    simp only [κ']; rw [if_pos this]; exact hj
  have hnames : Names κ' N L := by
    intro i x hx
    simp only [κ']
    rw [if_neg (by omega), Nat.add_sub_cancel_left, hx]; rfl
  have hmTop : ∀ b ∈ L.flatMap Fs.ts, Mine Γ b := by
    intro b hb
    rcases (kt b hb).2 with h | h
    · exact .inl (Nat.le_trans hs.base h)
    · obtain ⟨m, hm, hΘ⟩ := htsq b h
      exact hs1.mine b (by omega)
  have k : Keeps w w' Θ2 Θ' (N + 2) := by
    refine ⟨by omega, k1, k2, k3, k4, fun b hlt hne => kblock b hlt (fun e => hne (hΘ2t b e)), fun b hlt hne => ?_, fun b hb => ?_⟩
    · rw [hΘ'no b (fun e => ?_), if_neg hne]
      rcases (kt b e).2 with h | h
      · omega
      · exact hne (hΘ2t b h)
    · by_cases ht' : b ∈ L.flatMap Fs.ts
      · obtain ⟨x, T, hx⟩ := (ku b (bl_of_ts ht')).2
        exact (Array.getElem?_eq_some_iff.1 hx).1
      · rw [hΘ'no b ht'] at hb
        split at hb
        · exact absurd rfl hb
        · exact Nat.lt_of_lt_of_le (hs2.own b hb) k4
  have hm : ∀ b, 2 ≤ Θ' b → Mine Γ b := by
    intro b hb
    by_cases ht' : b ∈ L.flatMap Fs.ts
    · exact hmTop b ht'
    · rw [hΘ'no b ht'] at hb
      split at hb
      · omega
      · exact hs2.mine b hb
  have hus := hs2.uniqStay k hn hu2
  have hH'len : (kill st.H (ms ++ qs)).length = N := by simp [kill_length, N]
  have key : ∀ (j : Nat) y, (kill st.H (ms ++ qs) ++ L.map Fs.ob)[j]? = some y → (∃ i x, j = N + i ∧ L[i]? = some x ∧ y = x.ob) ∨ (j < N ∧ (y = .gone ∨ (kill (kill st.H ms) qs)[j]? = some y)) := by
    intro j y hj
    by_cases hlt : j < N
    · rw [List.getElem?_append_left (by rw [hH'len]; exact hlt)] at hj
      refine .inr ⟨hlt, ?_⟩
      rcases kill_get hj with h | ⟨h3, h4⟩
      · exact .inl h
      · refine .inr ?_
        simp only [List.mem_append, not_or] at h3
        rw [kill_other h3.2, kill_other h3.1]; exact h4
    · rw [List.getElem?_append_right (by omega), hH'len, List.getElem?_map] at hj
      cases hx : L[j - N]? with
      | none => simp [hx] at hj
      | some x => simp [hx] at hj; exact .inl ⟨j - N, x, by omega, hx, hj.symm⟩
  have hs' : Sim Γ ⟨st.σ, kill st.H (ms ++ qs) ++ L.map Fs.ob⟩ κ' Θ' a w' := by
    have hstay : ∀ (j : Nat) y, (kill (kill st.H ms) qs)[j]? = some y → y ≠ .gone → ∀ b, ρ1 b = j + 1 → ρ' b = j + 1 := by
      intro j y hy hyg b hρj
      have hjk : j ∉ qs := by
        rcases kill_get hy with h | h
        · exact absurd h hyg
        · exact h.1
      have hnb : belowOf L b = none := by
        cases hi : belowOf L b with
        | none => rfl
        | some i =>
          exfalso
          obtain ⟨x, hx, hbx⟩ := belowOf_some hi
          obtain ⟨z0, _, cs'', T'', hx''⟩ := hu1.free b (by omega)
          rcases (ku b (bl_of_ns hx hbx)).1 with h | h
          · have := (Array.getElem?_eq_some_iff.1 hx'').1; omega
          · rcases hrp.mem b h with h | ⟨m, hm', hρ⟩
            · obtain ⟨m, hm', hΘ⟩ := htsq b h; omega
            · exact hjk (by have : j = m := by omega
                            rw [this]; exact hm')
      simp only [ρ', hnb]; exact hρj
    refine hs2.step k hm hn ?_ ?_ ?_ ⟨ρ', ?_, ?_, ?_⟩
    · intro i hi
      simp only [List.length_append, hH'len, List.length_map] at hi
      simp only [κ']
      rw [if_neg (by omega), List.getElem?_eq_none (by omega)]; rfl
    · intro i u hu'
      simp only [κ'] at hu'
      split at hu'
      · exact hs.kone i u hu'
      · cases hx : L[i - N]? with
        | none => simp [hx] at hu'
        | some x => simp [hx] at hu'; subst hu'; exact (hLok x (List.mem_of_getElem? hx)).2.2.2.2
    · intro j y hj
      rcases key j y hj with ⟨i, x, rfl, hx, rfl⟩ | ⟨hjl, hy | hy⟩
      · exact .inr (.inr (Fs.rel (hLok x (List.mem_of_getElem? hx)) (hnames i x hx) (fun g' hg' => hΘ'top i x g' hx hg') (fun b hb' => hnsz i x b hx hb') fun hs' b hb' => hshz b (c6 x (List.mem_of_getElem? hx) hs' b hb')))
      · exact .inl hy
      · exact .inr (.inl ⟨by omega, hy⟩)
    · intro b hb
      cases hbl' : belowOf L b with
      | some i =>
        obtain ⟨x, hx, hbx⟩ := belowOf_some hbl'
        have hmem := bl_of_ns hx hbx
        refine ⟨hnsz i x b hx hbx, ?_, (ku b hmem).2⟩
        rcases (ku b hmem).1 with h | h
        · exact .inl (.inl (Nat.le_trans hs.base h))
        · rcases hrp.mem b h with h | ⟨m, hm', hρ⟩
          · obtain ⟨m, hm', hΘ⟩ := htsq b h
            exact .inl (hs1.mine b (by omega))
          · exact (hu1.free b (by omega)).2.1
      | none =>
        simp only [ρ', hbl'] at hb
        exact hus.1 b hb
    · intro j e sz rows hj
      rcases key j _ hj with ⟨i, x, rfl, hx, hy⟩ | ⟨hjl, hy | hy⟩
      · obtain ⟨hsh, rfl, rfl, rfl⟩ := Fs.uq_inv hy.symm
        have q4 := (hLok x (List.mem_of_getElem? hx)).uq hsh
        obtain ⟨q1, q2, q3, _, _⟩ := hLok x (List.mem_of_getElem? hx)
        exact ⟨x.v, x.cs, x.ns, hnames i x hx, q3, q4, ns_nodup knd hx, fun b hb' => by simp only [ρ', belowOf_at knd hx hb']⟩
      · cases hy
      · obtain ⟨v', c', bs', r1, r2, r3, r4, r5⟩ := hus.2.1 j e sz rows (by omega) hy
        exact ⟨v', c', bs', r1, r2, r3, r4, fun b hb' => hstay j _ hy (by simp) b (r5 b hb')⟩
    · intro j y hj
      rcases key j _ hj with ⟨i, x, rfl, hx, hy⟩ | ⟨hjl, hy | hy⟩
      · subst hy; exact Fs.plain x
      · subst hy; trivial
      · by_cases hg : y = .gone
        · subst hg; trivial
        · exact (hus.2.2 j y (by omega) hy).re (hstay j y hy hg)
  rw [← c1] at h
  obtain ⟨b6, r6, s6⟩ := c5 κ' hnames
  refine hK _ _ (h _ _ _ _ (hs'.set (t := t) ht r6 fun b hb => hshz b (s6 b hb)))
end
end Go.Cx
