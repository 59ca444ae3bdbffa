/- Calls that are handed a slice of the caller's own for good, and hand a slice back. No condition; plain lemmas. -/
import Derived.Test.YtoeenpcilfhjbaaNLop
namespace Go.Cx
set_option linter.unusedVariables false
set_option linter.unusedSimpArgs false
open Go.RowKit

/-- f takes over a slice (argument '.acc 0') and hands back one that shows rows'; all else stays -/
def GoodO (P : Program) (f : FuncId) (ds : List D) (e sz : Nat) (rows rows' : List (List D)) : Prop :=
  (∃ fn, P.funcs[f]? = some fn ∧ fn.body.isSome = true ∧ (fn.name == "runtime.NumGoroutine") = false) ∧
  ∀ (w : World) (κ : Nat → Option Value) (args : List Value) (v : Value) (cs : List Value), Vok w (fun b => v.ownBlock = some b) → args.length = ds.length → (∀ (i : Nat) d, ds[i]? = some d → ∃ u, args[i]? = some u ∧ RdS w κ u d []) →
    κ 0 = some v → (∀ i, 1 ≤ i → κ i = none) → v.oneCell' = true → 0 < sz → (∀ r ∈ rows, r.length = sz) → w.ownsRow 0 e sz v rows.length cs → Rds w cs rows.flatten [] →
    Calls P f args.toArray w (fun x w' => ∃ v' cs', x = .returned v' ∧ v'.oneCell' = true ∧ (∀ r ∈ rows', r.length = sz) ∧ w'.ownsRow 0 e sz v' rows'.length cs' ∧ Rds w' cs' rows'.flatten [] ∧ (∀ g, v'.ownBlock = some g → w.heap.size ≤ g ∨ v.ownBlock = some g) ∧
      w'.os = w.os ∧ w'.tape = w.tape ∧ w'.output = w.output ∧ w.heap.size ≤ w'.heap.size ∧ ∀ b, b < w.heap.size → v.ownBlock ≠ some b → w'.heap[b]? = w.heap[b]?)

section
variable {P : Program} {Γ : Ctx} {Q : Exit → St → Prop} {st : St} {κ κ' : Nat → Option Value} {Θ Θ' : Nat → Nat} {a : Act} {w w' : World} {all : Array Oper} {rest : List Oper}

/-- what a walk that came to its end hands back -/
theorem RetQ.out {fn : Func} {d : D} {e : Exit} {a' : Act} {w' : World} {st0 : St} {κ0 : Nat → Option Value} {Θ0 : Nat → Nat} (hs0 : Sim Γ st0 κ0 Θ0 a' w') (hrq : RetQ P fn d e st0) :
    (e = .ret ∨ e = .normal) ∧ a'.defers = [] ∧ Stays Γ w' ∧ ∃ v bs ts us, (results fn a'.tmps).run P w' = .ok v w' ∧ ResS w' v d bs ts us ∧ ∀ b ∈ ts, Mine Γ b := by
  obtain ⟨hret, nz, ds0, es, ms, qs, hres, hrv, hms, hqs, hqm, rfl⟩ := hrq
  obtain ⟨ρ0, hu0⟩ := hs0.uniq
  have hmel := retVs_melts hrv
  obtain ⟨Θ1, ρ1, hs1, hu1, hm1, hz1, hr1⟩ := Sim.meltAll ms hs0 hu0 hms (fun m hm => by
    obtain ⟨e, sz, rows, hH⟩ := hmel.1 m hm
    exact ⟨_, e, sz, rows, hH, rfl⟩)
  obtain ⟨vs, bs', m1, m2, m3, m4, m5⟩ := resDs_run hs0 hres
  have hq : ∀ m e sz rows, st0.H[m]? = some (.row .uq e sz rows) → ∃ v cs ns, κ0 m = some v ∧ 0 < sz ∧ (∀ r ∈ rows, r.length = sz) ∧ w'.ownsRow 0 e sz v rows.length cs ∧ RdF w' (fcol e) 0 cs rows.flatten ns ∧ ns.Nodup ∧ (∀ b ∈ ns, ρ1 b = m + 1) ∧ ∀ g, v.ownBlock = some g → Θ1 g = m + 2 := by
    intro m e sz rows hH
    have hnm : m ∉ ms := fun hm => by
      obtain ⟨e', sz', rows', hH'⟩ := hmel.1 m hm
      rw [hH] at hH'; cases hH'
    have hH1 : (kill st0.H ms)[m]? = some (.row .uq e sz rows) := by rw [kill_other hnm]; exact hH
    obtain ⟨v, cs, ns, r1, r2, r3, r4, r5⟩ := hu1.rows m e sz rows hH1
    obtain ⟨p1, p2, v2, _, _, p3, _, _, p4, _⟩ := hs1.ob m _ hH1
    rw [r1] at p3; cases p3
    exact ⟨v, cs, ns, r1, p1, p2, r2, r3, r4, r5, p4⟩
  have hq2 : ∀ m e sz rows, m ∉ ms → st0.H[m]? = some (.row .sh e sz rows) → ∃ v cs ns, κ0 m = some v ∧ 0 < sz ∧ (∀ r ∈ rows, r.length = sz) ∧ w'.ownsRow 0 e sz v rows.length cs ∧ Rds w' cs rows.flatten ns ∧ (∀ b ∈ ns, Θ1 b = 0) ∧ ∀ g, v.ownBlock = some g → Θ1 g = m + 2 := by
    intro m e sz rows hnm hH
    obtain ⟨p1, p2, v2, cs, ns, p3, p4, p5, p6, p7⟩ := hs1.ob m _ (show (kill st0.H ms)[m]? = _ by rw [kill_other hnm]; exact hH)
    exact ⟨v2, cs, ns, p3, p1, p2, p4, p5, p7, p6⟩
  obtain ⟨c, ts, us, hresv, hrp⟩ := retVs_res (w := w') (vs := vs) (fun b hb => (hu1.free b hb).1) hq hq2 hs0.kone hrv hqm hqs (by omega) (fun i d hd => by
    obtain ⟨v, b, k1, k2, k3⟩ := m4 i d hd
    exact ⟨v, b, k1, k2, fun x hx => hz1 x (m5 x (k3 x hx))⟩) hm1
  have hfin : ∃ v, (results fn a'.tmps).run P w' = .ok v w' ∧ ResS w' v (packD es) c ts us := by
    have hrun : (results fn a'.tmps).run P w' = .ok (if h : vs.toArray.size = 1 then vs.toArray[0] else .tuple vs.toArray) w' := by
      rw [results_eq, Array.mapM_eq_mapM_toList]
      simp [m1]
    cases hresv with
    | nil => exact ⟨.tuple #[], by simpa using hrun, .tup [] [] [] [] [] .nil⟩
    | cons v vs d es b1 b2 t1 t2 u1 u2 hv hrest =>
      cases hrest with
      | nil =>
        simp only [List.append_nil]
        exact ⟨v, by simpa using hrun, .v hv⟩
      | cons v2 vs d2 es b3 b4 t3 t4 u3 u4 hv2 hrest => exact ⟨.tuple (v :: v2 :: vs).toArray, by simpa using hrun, .tup _ _ _ _ _ (.cons _ _ _ _ _ _ _ _ _ _ hv (.cons _ _ _ _ _ _ _ _ _ _ hv2 hrest))⟩
  obtain ⟨v, hr1', hr2'⟩ := hfin
  refine ⟨hret, hs0.defers, hs0.stays, v, c, ts, us, hr1', hr2', fun b hb' => ?_⟩
  obtain ⟨⟨m, hm, hΘ⟩, _⟩ := hrp.top b hb'
  exact hs1.mine b (by omega)

/-- A CONTRACT OUT OF AN ABSTRACT WALK -/
theorem GoodO.of {f : FuncId} {fn : Func} {c : Code} {ds : List D} {e sz : Nat} {rows rows' : List (List D)} (hf : P.funcs[f]? = some fn) (hb : fn.body = some c) (hn : (fn.name == "runtime.NumGoroutine") = false)
    (hl : ds.length ≤ fn.ntmps) (hfl : rows'.flatten.all D.flat = true) (h : rows.length ≤ maxLen → ∀ Γ : Ctx, Γ.nt = fn.ntmps → AW P Γ c (RetQ P fn (.fr e sz rows')) ⟨args0 0 ds, [.row .uq e sz rows]⟩) (hfe : uqT e = true := by kernel_rfl) : GoodO P f ds e sz rows rows' := by
  refine ⟨⟨fn, hf, by simp [hb], hn⟩, ?_⟩
  intro w κ args v cs hvok hlen hargs hk0 hk1 hone hsz hrl hown hrd
  refine calls_of_wp hf hb ?_
  let Θ : Nat → Nat := fun b => if v.ownBlock = some b then 2 else if b < w.heap.size then 1 else 0
  let Γ : Ctx := ⟨w, Θ, fun b => v.ownBlock = some b, fn.ntmps, fun _ => False, hvok⟩
  have hlt : ∀ b, v.ownBlock = some b → b < w.heap.size := fun b hb' => (hown.lt b hb').2
  have hmax : rows.length ≤ maxLen := (Rdb.sl ⟨w, v, _, ownsRow_rd hrl hown hrd⟩).1
  have hs : Sim Γ ⟨args0 0 ds, [.row .uq e sz rows]⟩ κ Θ { tmps := args.toArray ++ Array.replicate (fn.ntmps - args.toArray.size) undef, defers := [] } w := by
    refine ⟨rfl, ?_, fun i hi => hk1 i (by simpa using hi), ?_, ?_, ?_, ?_, ?_, ?_, ⟨rfl, rfl, rfl, Nat.le_refl _, fun _ _ _ => rfl⟩, ⟨fun _ => 0, by simp, ?_, ?_⟩⟩
    · simp [Γ]; omega
    · intro id u hu
      rcases Nat.eq_zero_or_pos id with rfl | hp
      · rw [hk0] at hu; cases hu; exact hone
      · rw [hk1 id hp] at hu; cases hu
    · intro t
      rw [lk_args0]
      simp only [Nat.not_lt_zero, if_false, Nat.sub_zero]
      cases hd : ds[t]? with
      | none => exact ⟨[], .of (.any _), by simp⟩
      | some x =>
        obtain ⟨u, k1, k2⟩ := hargs t x hd
        refine ⟨[], ?_, by simp⟩
        have hlt : t < args.length := (List.getElem?_eq_some_iff.1 k1).1
        have : (args.toArray ++ Array.replicate (fn.ntmps - args.toArray.size) undef).getD t undef = u := by
          rw [Array.getD_eq_getD_getElem?, Array.getElem?_append_left (by simpa using hlt)]
          simp [k1]
        rw [this]
        exact k2
    · intro j o hj
      cases j with
      | zero =>
        simp at hj; subst hj
        exact ⟨hsz, hrl, v, cs, [], hk0, hown, hrd, fun g hg => by simp only [Θ]; rw [if_pos hg], by simp⟩
      | succ j => simp at hj
    · intro b hb'
      simp only [Θ] at hb'
      split at hb'
      · rename_i hv; exact hlt b hv
      · split at hb'
        · assumption
        · exact absurd rfl hb'
    · intro b hb' hx
      refine ⟨rfl, ?_⟩
      have hx' : ¬ v.ownBlock = some b := hx
      simp only [Θ]; rw [if_neg hx']; split <;> omega
    · intro b hb'
      simp only [Θ] at hb'
      split at hb'
      · rename_i hv; exact .inr hv
      · split at hb' <;> omega
    · intro id e' sz' rows2 hj
      cases id with
      | zero =>
        simp at hj
        obtain ⟨rfl, rfl, rfl⟩ := hj
        exact ⟨v, cs, [], hk0, hown, .of hrd (fcol_none (uqT_none hfe)), by simp, by simp⟩
      | succ j => simp at hj
    · intro id o hj
      cases id with
      | zero => simp at hj; subst hj; exact UqM.plain2 rfl
      | succ j => simp at hj
  refine wp_mono (h hmax Γ rfl _ _ _ _ hs) ?_
  rintro x a' w' ⟨st0, κ0, Θ0, hs0, hrq⟩
  obtain ⟨hret, hdf, hst, u, bs, ts, us, hrun, hres, hmine⟩ := RetQ.out hs0 hrq
  have hfin : ∃ u cs', (results fn a'.tmps).run P w' = .ok u w' ∧ u.oneCell' = true ∧ (∀ r ∈ rows', r.length = sz) ∧ w'.ownsRow 0 e sz u rows'.length cs' ∧ Rds w' cs' rows'.flatten [] ∧ (∀ g, u.ownBlock = some g → w.heap.size ≤ g ∨ v.ownBlock = some g) ∧
      w'.os = w.os ∧ w'.tape = w.tape ∧ w'.output = w.output ∧ w.heap.size ≤ w'.heap.size ∧ ∀ b, b < w.heap.size → v.ownBlock ≠ some b → w'.heap[b]? = w.heap[b]? := by
    cases hres with
    | v hv =>
      cases hv with
      | cell hc =>
        cases hc with
        | pure hc => cases hc
        | fr _ _ _ cs' ns h1 h2 h3 h4 h5 =>
          have := h4.rd.flat hfl
          subst this
          exact ⟨u, cs', hrun, h5, h2, h3, h4.rd, fun g hg => hmine g (by simp [hg]), hst.os, hst.tape, hst.output, hst.size, fun b hb' hx => hst.block b hb' hx⟩
  obtain ⟨u, cs', q1, q2⟩ := hfin
  have post : a'.defers = [] ∧ ∃ v', (results fn a'.tmps).run P w' = .ok v' w' ∧ ∃ v2 cs2, Ending.returned v' = .returned v2 ∧ v2.oneCell' = true ∧ (∀ r ∈ rows', r.length = sz) ∧ w'.ownsRow 0 e sz v2 rows'.length cs2 ∧ Rds w' cs2 rows'.flatten [] ∧ (∀ g, v2.ownBlock = some g → w.heap.size ≤ g ∨ v.ownBlock = some g) ∧
      w'.os = w.os ∧ w'.tape = w.tape ∧ w'.output = w.output ∧ w.heap.size ≤ w'.heap.size ∧ ∀ b, b < w.heap.size → v.ownBlock ≠ some b → w'.heap[b]? = w.heap[b]? := ⟨hdf, u, q1, u, cs', rfl, q2⟩
  rcases hret with rfl | rfl
  · exact post
  · exact post

/-- A CALL THAT TAKES A SLICE OVER -/
theorem AO_callO {o : Oper} {f t id : Nat} {xs : Array Operand} {ts : Array TypeId} {e sz : Nat} {rows rows' : List (List D)} (hop : o.op = .call { callee := .value (.func f), args := xs, argTypes := ts }) (hd : o.dst = some t) (hg : o.guard = none)
    (ht : t < Γ.nt) (hH : st.H[id]? = some (.row .uq e sz rows)) (hfe : uqT e = true) (hfl : rows.flatten.all D.flat = true) (hb : ((xs.toList.map st.ev).all D.bare) = true) (hgood : GoodO P f ((xs.toList.map st.ev).map (D.rnS [id])) e sz rows rows')
    (h : AO P Γ all rest Q ⟨(t, .acc st.H.length) :: st.σ, kill st.H [id] ++ [.row .uq e sz rows']⟩) : AO P Γ all (o :: rest) Q st := by
  intro κ Θ a w hs
  obtain ⟨hsz, hrl, v, cs, bs, hk, hown, hrd, htop, _⟩ := hs.ob id _ hH
  have hbs := hrd.flat hfl
  subst hbs
  have hidl : id < st.H.length := (List.getElem?_eq_some_iff.1 hH).1
  let κc : Nat → Option Value := fun j => if j = 0 then some v else none
  have hvok : Vok w fun b => v.ownBlock = some b := by
    obtain ⟨B, v1, v2⟩ := hs.vsb
    refine ⟨B, v1, fun b hB => ⟨(v2 b hB).2.1, fun hb' => ?_⟩⟩
    have e1 := htop b hb'
    rcases hs.mine b (by omega) with q | q
    · have := (v2 b hB).1; omega
    · exact (v2 b hB).2.2 q
  have hargs : ∀ (i : Nat) d, ((xs.toList.map st.ev).map (D.rnS [id]))[i]? = some d → ∃ u, (xs.toList.map a.eval)[i]? = some u ∧ RdS w κc u d [] := by
    intro i d hd'
    rw [List.getElem?_map, List.getElem?_map] at hd'
    cases hx : xs.toList[i]? with
    | none => rw [hx] at hd'; cases hd'
    | some x =>
      rw [hx] at hd'
      simp only [Option.map_some, Option.some.injEq] at hd'
      subst hd'
      refine ⟨a.eval x, by rw [List.getElem?_map, hx]; rfl, ?_⟩
      obtain ⟨bs, r, hz⟩ := hs.ev x
      have hbare : (st.ev x).bare = true := List.all_eq_true.1 hb _ (List.mem_map.2 ⟨x, List.mem_of_getElem? hx, rfl⟩)
      obtain ⟨b', r', _⟩ := RdS.rn (o := [id]) (κ' := κc) (Θ := fun _ => 0) (Θ' := fun _ => 0) (fun i j u h1 h2 => by
        have h3 := pos_get h1
        cases j with
        | zero => simp at h3; subst h3; rw [hk] at h2; simpa [κc] using h2
        | succ j => simp at h3) (fun _ _ => rfl) r (fun _ _ => rfl)
      have := r'.bareNil (D.bare_rn [id] hbare)
      subst this
      exact r'
  have hc := hgood.2 w κc (xs.toList.map a.eval) v cs hvok (by simp) hargs (by simp [κc]) (fun i hi => by simp only [κc]; rw [if_neg (by omega)]) (hs.kone id v hk) hsz hrl hown hrd
  refine wpList_plain hg fun K hK => ?_
  unfold Oper.wp
  rw [run_call hop hgood.1, Oper.upon_enter]
  have e0 : xs.map a.eval = (xs.toList.map a.eval).toArray := by rw [← Array.toList_map, Array.toArray_toList]
  rw [e0]
  refine hc.mono ?_
  rintro x w' ⟨v', cs', rfl, hone, hrl', hown', hrd', hat, h1, h2, h3, h4, hblock⟩
  show K (a.put o.dst v') w'
  rw [hd]
  let n := st.H.length
  let Θ' : Nat → Nat := fun b => if some b = v'.ownBlock then n + 2 else Θ b
  have hvt : ∀ g, v'.ownBlock = some g → Θ g = id + 2 ∨ w.heap.size ≤ g := by
    intro g hgv
    rcases hat g hgv with h | h
    · exact .inr h
    · exact .inl (htop g h)
  have k : Keeps w w' Θ Θ' (id + 2) := by
    refine ⟨by omega, h1, h2, h3, h4, fun b hb hne => hblock b hb (fun e => hne (htop b e)), fun b hb hne => ?_, fun b hb => ?_⟩
    · simp only [Θ']
      rw [if_neg]
      intro e
      rcases hvt b e.symm with h | h
      · exact hne h
      · omega
    · simp only [Θ'] at hb
      split at hb
      · rename_i e; exact (hown'.lt b e.symm).2
      · exact Nat.lt_of_lt_of_le (hs.own b hb) h4
  have hm : ∀ b, 2 ≤ Θ' b → Mine Γ b := by
    intro b hb
    simp only [Θ'] at hb
    split at hb
    · rename_i e
      rcases hvt b e.symm with h | h
      · exact hs.mine b (by omega)
      · exact .inl (Nat.le_trans hs.base h)
    · exact hs.mine b hb
  have hn := upd_old (hs.kout n (Nat.le_refl _)) (some v')
  obtain ⟨ρ, hu⟩ := hs.uniq
  have hus := hs.uniqStay k hn hu
  have key : ∀ (j : Nat) y, (kill st.H [id] ++ [.row .uq e sz rows'])[j]? = some y → (j = n ∧ y = .row .uq e sz rows') ∨ (j ≠ n ∧ (y = .gone ∨ (j ∉ [id] ∧ st.H[j]? = some y))) := by
    intro j y hj
    rcases push_key j y hj with ⟨h1, h2⟩ | ⟨h1, h2⟩
    · rw [kill_length] at h1; exact .inl ⟨h1, h2⟩
    · rw [kill_length] at h1
      exact .inr ⟨h1, kill_get h2⟩
  have hs' : Sim Γ ⟨st.σ, kill st.H [id] ++ [.row .uq e sz rows']⟩ (upd κ n (some v')) Θ' a w' := by
    refine hs.step k hm hn ?_ ?_ ?_ ⟨ρ, hus.1, fun j e' sz' rows2 hj => ?_, fun j y hj => ?_⟩
    · intro i hi
      simp only [List.length_append, List.length_cons, List.length_nil, kill_length] at hi
      unfold upd
      rw [if_neg (by omega)]
      exact hs.kout i (by omega)
    · intro i y hy
      unfold upd at hy
      split at hy
      · cases hy; exact hone
      · exact hs.kone i y hy
    · intro j y hj
      rcases key j y hj with ⟨rfl, rfl⟩ | ⟨_, hy | ⟨hjk, hy⟩⟩
      · exact .inr (.inr ⟨hsz, hrl', v', cs', [], upd_self _ _ _, hown', hrd', fun g hgv => by simp only [Θ']; rw [if_pos hgv.symm], by simp⟩)
      · exact .inl hy
      · exact .inr (.inl ⟨fun e => hjk (by simp; omega), hy⟩)
    · rcases key j _ hj with ⟨rfl, hy⟩ | ⟨_, hy | ⟨hjk, hy⟩⟩
      · simp only [Ob.row.injEq, true_and] at hy
        obtain ⟨rfl, rfl, rfl⟩ := hy
        exact ⟨v', cs', [], upd_self _ _ _, hown', .of hrd' (fcol_none (uqT_none hfe)), by simp, by simp⟩
      · cases hy
      · exact hus.2.1 j e' sz' rows2 (fun e => hjk (by simp; omega)) hy
    · rcases key j _ hj with ⟨rfl, hy⟩ | ⟨_, hy | ⟨hjk, hy⟩⟩
      · subst hy; exact UqM.plain2 rfl
      · subst hy; trivial
      · exact hus.2.2 j y (fun e => hjk (by simp; omega)) hy
  refine hK _ _ (h _ _ _ _ (hs'.set (t := t) (d := .acc n) (bs := []) ht ?_ (by simp)))
  exact (RdC.acc n _ (upd_self _ _ _)).toS
end
end Go.Cx
