/- The abstract walk of whole code as a function, up to the next loop or to the end; what its answers owe; that it is sound. No condition; plain lemmas. -/
import Derived.Test.YtoeenpcilfhjbaaNDrw2
import Derived.LoopN
namespace Go.Cx
set_option linter.unusedVariables false
set_option linter.unusedSimpArgs false
open Go.RowKit

/-- operations, one after the other -/
def opsRun (P : Program) (nt : Nat) (all : Array Oper) : List Oper → St → List An → Option (St × List An × Owe)
  | [], st, A => (match shares A st with | (st1, A1) => some (st1, A1, []))
  | o :: rest, st, A => match o.guard with
    | none => (match stepO P nt o st A with
      | some (st1, A1, p) => (match opsRun P nt all rest st1 A1 with | some (st2, A2, q) => some (st2, A2, p ++ q) | none => none)
      | none => none)
    | some (j, want) => (match (all[j]?).bind (·.dst), A with
      | some s, .b v :: A => (match lk st.σ s with
        | .bool b => (match v == want with
          | true => (match stepO P nt { o with guard := none } st A with
            | some (st1, A1, p) => (match opsRun P nt all rest st1 A1 with | some (st2, A2, q) => some (st2, A2, (b = v) :: (p ++ q)) | none => none)
            | none => none)
          | false => (match o.dst with
            | some t => (if t < nt then match opsRun P nt all rest ⟨(t, .tup []) :: st.σ, st.H⟩ A with | some (st2, A2, q) => some (st2, A2, (b = v) :: q) | none => none else none)
            | none => (match opsRun P nt all rest st A with | some (st2, A2, q) => some (st2, A2, (b = v) :: q) | none => none)))
        | .tup [] => (match o.dst with
          | some t => (if t < nt then opsRun P nt all rest ⟨(t, .tup []) :: st.σ, st.H⟩ A else none)
          | none => opsRun P nt all rest st A)
        | _ => none)
      | _, _ => none)

/-- an operation of a drawn region's head -/
def calmO (P : Program) (H : List Ob) (r : Nat) (σ : List (Nat × D)) (o : Oper) (A : List An) : Option (D × List Ob × List An × Owe) := match o.op with
  | .call c => (match c.callee with
    | .value (.func f) => (match vwVs H (c.args.toList.map (St.ev ⟨σ, H⟩)), A with
      | some (ds, ms), .d d :: A => (if ms = [] ∨ d.ownS = true then some ((instS r d).1, (instS r d).2, A, [Good P f ds d]) else none)
      | some (ds, ms), .ds d :: A => (if d.ownT = true ∧ d.ownS = true then some (d.shV, [], A, [Good P f ds d]) else none)
      | _, .nl d :: A => (if (c.args.toList.map (St.ev ⟨σ, H⟩)).all keepV = true then some ((instS r d).1, (instS r d).2, A, [Good P f (c.args.toList.map (St.ev ⟨σ, H⟩)) d]) else none)
      | _, _ => none)
    | _ => (match valA P ⟨σ, H⟩ o.op A with | some (d, A, ow) => some (d, [], A, ow) | none => none))
  | .alloc T => (match tz P T with | some zs => some (.ptr r 0, [.box zs], A, []) | none => none)
  | .box _ x => (match (St.ev ⟨σ, H⟩ x).cellsOf with | some ds => some (.ptr r 0, [.box ds], A, []) | none => none)
  | .buildSlice T len parts => (match tel P T with
    | some (e, sz) => (match tz P e with
      | some zs => (match pfill (rowPlaces len sz) (List.replicate len zs).flatten (parts.toList.map fun q => (q.1, St.ev ⟨σ, H⟩ q.2)) with
        | some ds => (match A with
          | .vw _ :: A => (if 0 < sz ∧ len * sz ≤ 16777216 ∧ ds.all D.isP = true ∧ ds.all D.flat = true then some (.sl (chunk sz len ds), [], A, []) else none)
          | A => (match absL H ds with
            | some (es, ms) => (if 0 < sz ∧ len * sz ≤ 16777216 ∧ ms = [] then some (.acc r, [.row (rkOf (uqL H e 0 ds)) e sz (chunk sz len es)], A, []) else none)
            | none => none))
        | none => none)
      | none => none)
    | none => none)
  | _ => (match valA P ⟨σ, H⟩ o.op A with | some (d, A, ow) => some (d, [], A, ow) | none => none)
def calmRun (P : Program) (nt : Nat) (all : Array Oper) (H : List Ob) : List Oper → List (Nat × D) → List Ob → List Nat → List An → Option (List (Nat × D) × List Ob × List An × Owe)
  | [], σ, acc, _, A => some (σ, acc, A, [])
  | o :: rest, σ, acc, U, A => match o.dst with
    | none => (match o.op, o.guard with
      | .store T x y, none => (match St.ev ⟨σ, H⟩ x, (St.ev ⟨σ, H⟩ y).cellsOf with
        | .ptr id off, some ds => (match acc[id - H.length]? with
          | some (.box zs) => (if off = 0 ∧ H.length ≤ id ∧ id ∉ U ∧ tinf P T = true ∧ ds.length = tsz P T ∧ zs.length = ds.length then calmRun P nt all H rest σ (acc.set (id - H.length) (.box ds)) (id :: U) A else none)
          | _ => none)
        | _, _ => none)
      | _, _ => none)
    | some t => (if t < nt then match o.guard with
      | none => (match calmO P H (H.length + acc.length) σ o A with
        | some (d, obs, A1, p) => (match calmRun P nt all H rest ((t, d) :: σ) (acc ++ obs) U A1 with | some (σ2, acc2, A2, q) => some (σ2, acc2, A2, p ++ q) | none => none)
        | none => none)
      | some (j, want) => (match (all[j]?).bind (·.dst), A with
        | some s, .b v :: A => (match lk σ s with
          | .bool b => (match v == want with
            | true => (match calmO P H (H.length + acc.length) σ o A with
              | some (d, obs, A1, p) => (match calmRun P nt all H rest ((t, d) :: σ) (acc ++ obs) U A1 with | some (σ2, acc2, A2, q) => some (σ2, acc2, A2, (b = v) :: (p ++ q)) | none => none)
              | none => none)
            | false => (match calmRun P nt all H rest ((t, .tup []) :: σ) acc U A with | some (σ2, acc2, A2, q) => some (σ2, acc2, A2, (b = v) :: q) | none => none))
          | .tup [] => calmRun P nt all H rest ((t, .tup []) :: σ) acc U A
          | _ => none)
        | _, _ => none)
      else none)

inductive Fr where
  | sq (c : Code)
  | bl (id : Nat)
  | lp
def depth : List Fr → Nat
  | [] => 0
  | .lp :: K => depth K + 1
  | _ :: K => depth K

inductive Cfg where
  | run (c : Code)
  | nor
  | ex (id : Nat)
inductive Stop where
  | ret (d : D)
  | lp (c : Code) (K : List Fr) (st : St)
  | cont (k : Nat) (st : St)
  | at_ (c : Code) (K : List Fr) (st : St)

/-- what the function hands back in a state -/
def retD (P : Program) (rs : List ResultVar × List (List (Option (Nat × Nat)))) (st : St) : Option D := match resDs P st rs.1 with
  | some ds => (match retVs st.H rs.2 ds with | some (es, ms, qs) => (if ms.Nodup ∧ qs.Nodup ∧ (∀ m ∈ qs, m ∉ ms) then some (packD es) else none) | none => none)
  | none => none

def hlAt (A : List An) (m : Nat) : Option (List Nat × List Nat) := match A with
  | .hl m' k o :: _ => if m' = m then some (k, o) else none
  | _ => none

def withP (p : Owe) (x : Option (Stop × Owe)) : Option (Stop × Owe) := match x with
  | some (s, q) => some (s, p ++ q)
  | none => none

def go (P : Program) (rf : St → Option D) (nt : Nat) : Nat → Cfg → List Fr → St → List An → Option (Stop × Owe)
  | 0, _, _, _, _ => none
  | n + 1, .run c, K, st, A => (match c with
    | .skip => go P rf nt n .nor K st A
    | .ret => (match rf st with | some d => some (.ret d, []) | none => none)
    | .exit id => go P rf nt n (.ex id) K st A
    | .seq x y => go P rf nt n (.run x) (.sq y :: K) st A
    | .block id x => go P rf nt n (.run x) (.bl id :: K) st A
    | .loop x => (match A with
      | .cn k o :: _ => (if o.Nodup then some (.lp x K (st.canon k o), []) else none)
      | .pb id off e sz :: A => (match st.prom id off e sz with | some st1 => (match shares A st1 with | (st2, A2) => go P rf nt n (.run (.loop x)) K st2 A2) | none => none)
      | _ => none)
    | .cond x y z => (match st.ev x, A with
      | .bool b, .b v :: A => withP [b = v] (go P rf nt n (.run (match v with | true => y | false => z)) K st A)
      | _, _ => none)
    | .region _ ops dr => (match dr with
      | false => (match opsRun P nt ops ops.toList st A with | some (st1, A1, p) => withP p (go P rf nt n .nor K st1 A1) | none => none)
      | true => (match A with
        | .n k :: A => (match drawB2 ops k k [] with
          | true => (match calmRun P nt ops st.H (ops.toList.take k) st.σ [] [] A with
            | some (σ1, acc, A1, p) => (match opsRun P nt ops (ops.toList.drop k) ⟨σ1, st.H ++ acc⟩ A1 with | some (st2, A2, q) => withP (p ++ q) (go P rf nt n .nor K st2 A2) | none => none)
            | none => none)
          | false => none)
        | .n2 π ρ k m L X :: A => (match permB ops π ρ, permOps ops π ρ with
          | true, ops' => (match drawB2 ops'.toArray k m L with
            | true => (match calmRun P nt ops'.toArray st.H (ops'.take k) st.σ [] [] A with
              | some (σ1, acc, A1, p) => (match stillL X ⟨σ1, st.H⟩ ops' L, midRun P nt X ((ops'.drop k).take (m - k)) ⟨σ1, st.H ++ acc⟩ A1 with
                | true, some (st1, A2, p2) => (match opsRun P nt ops'.toArray (ops'.drop m) st1 A2 with | some (st2, A3, q) => withP (p ++ (p2 ++ q)) (go P rf nt n .nor K st2 A3) | none => none)
                | _, _ => none)
              | none => none)
            | false => none)
          | false, _ => none)
        | _ => none))
    | _ => none)
  | n + 1, .nor, K, st, A => (match K with
    | [] => (match rf st with | some d => some (.ret d, []) | none => none)
    | .sq y :: K => (match hlAt A K.length with | some (k, o) => (if o.Nodup then some (.at_ y K (st.canon k o), []) else none) | none => go P rf nt n (.run y) K st A)
    | .bl _ :: K => go P rf nt n .nor K st A
    | .lp :: K => (match A with | .cn k o :: _ => (if o.Nodup then some (.cont (depth K) (st.canon k o), []) else none) | _ => none))
  | n + 1, .ex id, K, st, A => (match K with
    | [] => none
    | .sq _ :: K => go P rf nt n (.ex id) K st A
    | .bl i :: K => (if id = i then go P rf nt n .nor K st A else go P rf nt n (.ex id) K st A)
    | .lp :: K => go P rf nt n (.ex id) K st A)

section
variable {P : Program} {Γ : Ctx} {Q : Exit → St → Prop} {N : Nat → St → Prop}

def KQ (P : Program) (Γ : Ctx) (N : Nat → St → Prop) (Q : Exit → St → Prop) : List Fr → Exit → St → Prop
  | [] => Q
  | .sq y :: K => thenQ (AW P Γ y (KQ P Γ N Q K)) (KQ P Γ N Q K)
  | .bl id :: K => blockQ id (KQ P Γ N Q K)
  | .lp :: K => thenQ (fun st => ∃ k o, o.Nodup ∧ N (depth K) (st.canon k o)) (KQ P Γ N Q K)

theorem KQ_ret : ∀ (K : List Fr) {st : St}, Q .ret st → KQ P Γ N Q K .ret st := by
  intro K
  induction K with
  | nil => intro st h; exact h
  | cons f K ih => intro st h; cases f <;> exact ih h

theorem KQ_congr {N' : Nat → St → Prop} : ∀ (K : List Fr), (∀ d, d < depth K → N d = N' d) → KQ P Γ N Q K = KQ P Γ N' Q K := by
  intro K
  induction K with
  | nil => intro _; rfl
  | cons f K ih =>
    intro h
    cases f with
    | sq y => simp only [KQ]; rw [ih h]
    | bl id => simp only [KQ]; rw [ih h]
    | lp => simp only [KQ]; rw [ih (fun d hd => h d (by simp only [depth]; omega)), h (depth K) (by simp only [depth]; omega)]

theorem opsRun_sound {nt : Nat} (hnt : Γ.nt = nt) {all : Array Oper} {st2 : St} {A2 : List An} : ∀ {ops : List Oper} {st : St} {A : List An} {p : Owe}, opsRun P nt all ops st A = some (st2, A2, p) → AllP p → Q .normal st2 → AO P Γ all ops Q st := by
  intro ops
  induction ops with
  | nil =>
    intro st A p h _ hq
    simp only [opsRun] at h
    cases hsh : shares A st with
    | mk st1 A1 =>
      rw [hsh] at h
      simp only [Option.some.injEq, Prod.mk.injEq] at h
      obtain ⟨rfl, _, _⟩ := h
      exact fun κ Θ a w hs => wpList_nil ⟨_, _, _, hs.shares hsh, hq⟩
  | cons o rest ih =>
    intro st A p h hp hq
    simp only [opsRun] at h
    split at h
    · rename_i hg
      split at h
      · rename_i st1 A1 p1 h1
        split at h
        · rename_i st2' A2' q h2
          cases h
          exact AO_step hnt hg h1 hp.app.1 (ih h2 hp.app.2 hq)
        · cases h
      · cases h
    · rename_i j want hg
      split at h
      · rename_i s v A1 hj
        split at h
        · rename_i b hb
          split at h
          · rename_i hv
            simp only [beq_iff_eq] at hv
            subst hv
            split at h
            · rename_i st1 A2' p1 h1
              split at h
              · rename_i st2' A3 q h2
                cases h
                refine AO_guard (b := b) hg hj hb ?_ (fun _ => AO_step hnt rfl h1 hp.2.app.1 (ih h2 hp.2.app.2 hq)) (fun hne => absurd hp.1 hne)
                intro t ht
                -- the slot is small: the step has looked
                exact step_dst hnt h1 ht
              · cases h
            · cases h
          · rename_i hv
            split at h
            · rename_i t hd
              split at h
              · rename_i ht
                split at h
                · rename_i st2' A3 q h2
                  cases h
                  refine AO_guard (b := b) hg hj hb (fun t' ht' => ?_) (fun e => ?_) (fun _ => ?_)
                  · rw [hd] at ht'; cases ht'; rw [hnt]; exact ht
                  · exfalso
                    have := hp.1
                    simp only [beq_eq_false_iff_ne, ne_eq] at hv
                    exact hv (this.symm.trans e)
                  · rw [hd]; exact ih h2 hp.2 hq
                · cases h
              · cases h
            · rename_i hd
              split at h
              · rename_i st2' A3 q h2
                cases h
                refine AO_guard (b := b) hg hj hb (fun t' ht' => ?_) (fun e => ?_) (fun _ => ?_)
                · rw [hd] at ht'; cases ht'
                · exfalso
                  have := hp.1
                  simp only [beq_eq_false_iff_ne, ne_eq] at hv
                  exact hv (this.symm.trans e)
                · rw [hd]; exact ih h2 hp.2 hq
              · cases h
        · rename_i hb
          split at h
          · rename_i t hd
            split at h
            · rename_i ht
              refine AO_guardU hg hj hb (fun t' ht' => ?_) ?_
              · rw [hd] at ht'; cases ht'; rw [hnt]; exact ht
              · rw [hd]; exact ih h hp hq
            · cases h
          · rename_i hd
            refine AO_guardU hg hj hb (fun t' ht' => ?_) ?_
            · rw [hd] at ht'; cases ht'
            · rw [hd]; exact ih h hp hq
        · cases h
      · cases h

theorem calmO_sound {H : List Ob} {r : Nat} {σ : List (Nat × D)} {o : Oper} {A A1 : List An} {d : D} {obs : List Ob} {p : Owe} (t : Option Nat) (u : Option (Nat × Ob)) (h : calmO P H r σ o A = some (d, obs, A1, p)) (hp : AllP p) : CalmO P H σ o ⟨t, d, r, obs, u⟩ := by
  have plain : ∀ {x}, (match valA P ⟨σ, H⟩ x A with | some (d, A, ow) => some (d, ([] : List Ob), A, ow) | none => none) = some (d, obs, A1, p) → pv P ⟨σ, H⟩ x = some d ∧ obs = [] := by
    intro x h
    split at h
    · rename_i d' A' ow h1
      cases h
      exact ⟨valA_pv h1 hp, rfl⟩
    · cases h
  unfold calmO at h
  split at h
  · rename_i c hop
    split at h
    · rename_i f hc
      split at h
      · rename_i ds ms d' A' h1
        split at h
        · rename_i hsh
          cases h
          exact .inl (.inr ⟨f, _, _, ds, ms, d', hop.trans (congrArg Op.call (call_eta c hc rfl rfl)), .inl (by simpa using h1), hsh, hp.1, .inl rfl⟩)
        · cases h
      · rename_i ds ms d' A' h1
        split at h
        · rename_i hc2
          cases h
          exact .inl (.inr ⟨f, _, _, ds, ms, d', hop.trans (congrArg Op.call (call_eta c hc rfl rfl)), .inl (by simpa using h1), .inr hc2.2, hp.1, .inr ⟨hc2.1, rfl, rfl⟩⟩)
        · cases h
      · rename_i d' A'
        split at h
        · rename_i hk
          cases h
          exact .inl (.inr ⟨f, _, _, _, [], d', hop.trans (congrArg Op.call (call_eta c hc rfl rfl)), .inr ⟨by simpa using hk, by simp, rfl⟩, .inl rfl, hp.1, .inl rfl⟩)
        · cases h
      · cases h
    · exact .inl (.inl (plain h))
  · rename_i T hop
    split at h
    · rename_i zs hz
      cases h
      exact .inr (.inl (.inl ⟨T, zs, hop, hz, rfl, rfl⟩))
    · cases h
  · rename_i T x hop
    split at h
    · rename_i ds hc
      cases h
      exact .inr (.inl (.inr ⟨T, x, ds, hop, hc, rfl, rfl⟩))
    · cases h
  · rename_i T len parts hop
    split at h
    · rename_i e sz h1
      split at h
      · rename_i zs h2
        split at h
        · rename_i ds h3
          split at h
          · split at h
            · rename_i hc
              obtain ⟨c1, c2, c3, c4⟩ := hc
              cases h
              exact .inr (.inr (.inr ⟨T, e, sz, len, parts, zs, ds, hop, h1, h2, c1, c2, h3, c3, c4, rfl, rfl⟩))
            · cases h
          · split at h
            · rename_i es ms h4
              split at h
              · rename_i hc
                obtain ⟨c1, c2, rfl⟩ := hc
                cases h
                exact .inr (.inr (.inl ⟨T, e, sz, len, parts, zs, ds, es, hop, h1, h2, c1, c2, h3, h4, rfl, rfl⟩))
              · cases h
            · cases h
        · cases h
      · cases h
    · cases h
  · exact .inl (.inl (plain h))

theorem calmRun_sound {nt : Nat} (hnt : Γ.nt = nt) {all : Array Oper} {H : List Ob} {K : List (Nat × D) → List Ob → Prop} {σ2 : List (Nat × D)} {acc2 : List Ob} {A2 : List An} : ∀ {ops : List Oper} {σ : List (Nat × D)} {acc : List Ob} {U : List Nat} {A : List An} {p : Owe},
    calmRun P nt all H ops σ acc U A = some (σ2, acc2, A2, p) → AllP p → K σ2 acc2 → ACalm P Γ all H K ops σ acc U := by
  subst hnt
  intro ops
  induction ops with
  | nil =>
    intro σ acc U A p h _ hK
    simp only [calmRun, Option.some.injEq, Prod.mk.injEq] at h
    obtain ⟨rfl, rfl, _, _⟩ := h
    exact hK
  | cons o rest ih =>
    intro σ acc U A p h hp hK
    simp only [calmRun] at h
    split at h
    · rename_i hd
      split at h
      · rename_i T x y hop hg
        split at h
        · rename_i id off ds h1 h2
          split at h
          · rename_i zs h3
            split at h
            · rename_i hc
              obtain ⟨rfl, c2, c3, c4, c5, c6⟩ := hc
              exact ⟨⟨none, .any, H.length + acc.length, [], some (id, .box ds)⟩, rfl, .inr ⟨rfl, rfl, hd, hg, T, x, y, id, ds, hop, h1, c2, h2, c4, c5, rfl⟩, ⟨c3, c2, zs, ds, h3, rfl, c6⟩, ih h hp hK⟩
            · cases h
          · cases h
        · cases h
      · cases h
    · rename_i t hd
      split at h
      · rename_i ht
        split at h
        · rename_i hg
          split at h
          · rename_i d obs A1 p1 h1
            split at h
            · rename_i σ3 acc3 A3 q h2
              cases h
              exact ⟨⟨some t, d, H.length + acc.length, obs, none⟩, rfl, .inl ⟨t, rfl, rfl, hd, ht, .inl ⟨hg, calmO_sound _ _ h1 hp.app.1⟩⟩, trivial, ih h2 hp.app.2 hK⟩
            · cases h
          · cases h
        · rename_i j want hg
          split at h
          · rename_i s v A1 hj
            split at h
            · rename_i b hb
              split at h
              · rename_i hv
                simp only [beq_iff_eq] at hv
                subst hv
                split at h
                · rename_i d obs A2' p1 h1
                  split at h
                  · rename_i σ3 acc3 A3 q h2
                    cases h
                    exact ⟨⟨some t, d, H.length + acc.length, obs, none⟩, rfl, .inl ⟨t, rfl, rfl, hd, ht, .inr (.inl ⟨j, s, v, b, hg, hj, hb, .inl ⟨hp.1, calmO_sound _ _ h1 hp.2.app.1⟩⟩)⟩, trivial, ih h2 hp.2.app.2 hK⟩
                  · cases h
                · cases h
              · rename_i hv
                simp only [beq_eq_false_iff_ne, ne_eq] at hv
                split at h
                · rename_i σ3 acc3 A3 q h2
                  cases h
                  refine ⟨⟨some t, .tup [], H.length + acc.length, [], none⟩, rfl, .inl ⟨t, rfl, rfl, hd, ht, .inr (.inl ⟨j, s, want, b, hg, hj, hb, .inr ⟨fun e => hv (hp.1.symm.trans e), rfl, rfl⟩⟩)⟩, trivial, ?_⟩
                  simp only [Cp.fill, List.append_nil]
                  exact ih h2 hp.2 hK
                · cases h
            · rename_i hb
              refine ⟨⟨some t, .tup [], H.length + acc.length, [], none⟩, rfl, .inl ⟨t, rfl, rfl, hd, ht, .inr (.inr ⟨j, s, want, hg, hj, hb, rfl, rfl⟩)⟩, trivial, ?_⟩
              simp only [Cp.fill, List.append_nil]
              exact ih h hp hK
            · cases h
          · cases h
      · cases h

def StopOk (P : Program) (Γ : Ctx) (N : Nat → St → Prop) (Q : Exit → St → Prop) (d0 : D) : Stop → Prop
  | .ret d => d = d0
  | .lp c K st => AW P Γ (.loop c) (KQ P Γ N Q K) st
  | .cont k st => N k st
  | .at_ c K st => AW P Γ c (KQ P Γ N Q K) st
theorem AW_canon {c : Code} {st : St} {k o : List Nat} (hnd : o.Nodup) (h : AW P Γ c Q (st.canon k o)) : AW P Γ c Q st := by
  intro κ Θ a w hs
  obtain ⟨κ', Θ', hs'⟩ := hs.canon k o hnd
  exact h κ' Θ' a w hs'
theorem retD_Q {fn : Func} {st : St} {d : D} {e : Exit} (he : e = .ret ∨ e = .normal) {nz : List (List (Option (Nat × Nat)))} (h : retD P (fn.results.toList, nz) st = some d) : RetQ P fn d e st := by
  unfold retD at h
  split at h
  · rename_i ds h1
    split at h
    · rename_i es ms qs h2
      split at h
      · rename_i hc
        cases h
        exact ⟨he, nz, ds, es, ms, qs, h1, h2, hc.1, hc.2.1, hc.2.2, rfl⟩
      · cases h
    · cases h
  · cases h
def CfgOk (P : Program) (Γ : Ctx) (N : Nat → St → Prop) (Q : Exit → St → Prop) (K : List Fr) (st : St) : Cfg → Prop
  | .run c => AW P Γ c (KQ P Γ N Q K) st
  | .nor => KQ P Γ N Q K .normal st
  | .ex id => KQ P Γ N Q K (.exit id) st

theorem withP_some {p q : Owe} {x : Option (Stop × Owe)} {s : Stop} (h : withP p x = some (s, q)) : ∃ q', x = some (s, q') ∧ q = p ++ q' := by
  unfold withP at h
  split at h
  · cases h; exact ⟨_, rfl, rfl⟩
  · cases h

/-- THE WALK IS SOUND -/
theorem go_sound {rf : St → Option D} {d0 : D} (hrf : ∀ st e, (e = .ret ∨ e = .normal) → rf st = some d0 → Q e st) {nt : Nat} (hnt : Γ.nt = nt) (hm : P.follows .mixedOrders = true) : ∀ {n : Nat} {cfg : Cfg} {K : List Fr} {st : St} {A : List An} {s : Stop} {p : Owe}, go P rf nt n cfg K st A = some (s, p) → AllP p → StopOk P Γ N Q d0 s → CfgOk P Γ N Q K st cfg := by
  intro n
  induction n with
  | zero => intro cfg K st A s p h; simp [go] at h
  | succ n ih =>
    intro cfg K st A s p h hp hs
    cases cfg with
    | run c =>
      show AW P Γ c (KQ P Γ N Q K) st
      cases c with
      | skip => simp only [go] at h; exact AW_skip (ih h hp hs)
      | ret =>
        simp only [go] at h
        split at h
        · rename_i d hd
          simp only [Option.some.injEq, Prod.mk.injEq] at h
          obtain ⟨rfl, _⟩ := h
          have hd0 : d = d0 := hs
          subst hd0
          exact AW_ret (KQ_ret K (hrf st _ (.inl rfl) hd))
        · cases h
      | exit id => simp only [go] at h; exact AW_exit (ih h hp hs)
      | seq x y => simp only [go] at h; exact AW_seq (ih h hp hs)
      | block id x => simp only [go] at h; exact AW_block (ih h hp hs)
      | loop x =>
        simp only [go] at h
        split at h
        · split at h
          · rename_i hnd
            simp only [Option.some.injEq, Prod.mk.injEq] at h
            obtain ⟨rfl, _⟩ := h
            exact AW_canon hnd hs
          · cases h
        · split at h
          · rename_i A0 x0 st1 hst
            intro κ Θ a w hsim
            obtain ⟨κ', hs'⟩ := hsim.prom hst
            exact (ih h hp hs : AW P Γ (.loop x) (KQ P Γ N Q K) (shares A0 st1).1) κ' Θ a w (hs'.shares (rfl : shares A0 st1 = ((shares A0 st1).1, (shares A0 st1).2)))
          · cases h
        · cases h
      | cond x y z =>
        simp only [go] at h
        split at h
        · rename_i b v A1 hx
          obtain ⟨q, h1, rfl⟩ := withP_some h
          obtain ⟨hb, hp'⟩ := hp
          subst hb
          refine AW_cond hx (fun e => ?_) (fun e => ?_)
          · subst e; exact ih h1 hp' hs
          · subst e; exact ih h1 hp' hs
        · cases h
      | region id ops dr =>
        simp only [go] at h
        cases dr with
        | false =>
          simp only at h
          split at h
          · rename_i st1 A1 p1 h1
            obtain ⟨q, h2, rfl⟩ := withP_some h
            have := opsRun_sound (Q := KQ P Γ N Q K) hnt h1 hp.app.1 (ih h2 hp.app.2 hs)
            have hr := AW_region (id := id) (l := ops.toList) (by simpa using this)
            simpa using hr
          · cases h
        | true =>
          simp only at h
          split at h
          · rename_i k A1
            split at h
            · rename_i hB
              split at h
              · rename_i σ1 acc A2 p1 h1
                split at h
                · rename_i st2 A3 p2 h2
                  obtain ⟨q, h3, rfl⟩ := withP_some h
                  have hq := hp.app.1.app
                  have h4 := opsRun_sound (Q := KQ P Γ N Q K) hnt h2 hq.2 (ih h3 hp.app.2 hs)
                  have h5 := calmRun_sound (Γ := Γ) (K := fun σ acc => AO P Γ ops (ops.toList.drop k) (KQ P Γ N Q K) ⟨σ, st.H ++ acc⟩) hnt h1 hq.1 h4
                  have hr := AW_draw (id := id) (l := ops.toList) (Q := KQ P Γ N Q K) (st := st) k hm (by simpa using hB) (by simpa using h5)
                  simpa using hr
                · cases h
              · cases h
            · cases h
          · rename_i π ρ k m L X A1
            split at h
            · rename_i ops' hB1
              generalize hops : permOps ops π ρ = ops' at h
              split at h
              · rename_i hB
                split at h
                · rename_i σ1 acc A2 p1 h1
                  split at h
                  · rename_i st1 A3 p2 hst hmid
                    split at h
                    · rename_i st2 A4 p3 h2
                      obtain ⟨q, h3, rfl⟩ := withP_some h
                      have hq := hp.app.1.app
                      have hq2 := hq.2.app
                      have h4 := opsRun_sound (Q := KQ P Γ N Q K) hnt h2 hq2.2 (ih h3 hp.app.2 hs)
                      have h6 := midRun_sound (Γ := Γ) (K := fun st' => AO P Γ ops'.toArray (ops'.drop m) (KQ P Γ N Q K) st') hnt hmid hq2.1 h4
                      have h5 := calmRun_sound (Γ := Γ) (K := fun σ acc => (∀ i ∈ L, ∀ o, ops'[i]? = some o → stillOp X ⟨σ, st.H⟩ o.op = true) ∧ AMid P Γ X (fun st' => AO P Γ ops'.toArray (ops'.drop m) (KQ P Γ N Q K) st') ((ops'.drop k).take (m - k)) ⟨σ, st.H ++ acc⟩) hnt h1 hq.1 ⟨stillL_ok hst, h6⟩
                      have hr := any_draw2 (l := ops') (Q := KQ P Γ N Q K) (st := st) k m L hB h5
                      rw [← hops] at hr
                      exact (hr.perm hB1).aw hm
                    · cases h
                  · cases h
                · cases h
              · cases h
            · cases h
          · cases h
      | _ => simp [go] at h
    | nor =>
      show KQ P Γ N Q K .normal st
      simp only [go] at h
      split at h
      · split at h
        · rename_i d hd
          simp only [Option.some.injEq, Prod.mk.injEq] at h
          obtain ⟨rfl, _⟩ := h
          have hd0 : d = d0 := hs
          subst hd0
          exact hrf st _ (.inr rfl) hd
        · cases h
      · split at h
        · split at h
          · rename_i hnd
            simp only [Option.some.injEq, Prod.mk.injEq] at h
            obtain ⟨rfl, _⟩ := h
            exact AW_canon hnd hs
          · cases h
        · exact ih (cfg := .run _) h hp hs
      · exact ih (cfg := .nor) h hp hs
      · split at h
        · split at h
          · rename_i k o _ hnd
            simp only [Option.some.injEq, Prod.mk.injEq] at h
            obtain ⟨rfl, _⟩ := h
            exact ⟨k, o, hnd, hs⟩
          · cases h
        · cases h
    | ex id =>
      show KQ P Γ N Q K (.exit id) st
      simp only [go] at h
      split at h
      · cases h
      · exact ih (cfg := .ex id) h hp hs
      · rename_i i K
        simp only [KQ, blockQ]
        split at h
        · rename_i e; rw [if_pos e]; exact ih (cfg := .nor) h hp hs
        · rename_i e; rw [if_neg e]; exact ih (cfg := .ex id) h hp hs
      · exact ih (cfg := .ex id) h hp hs

/-- where code lies -/
def dig : Code → List Nat → List Fr → Code × List Fr
  | c, [], K => (c, K)
  | .seq x y, i :: p, K => (match i with | 0 => dig x p (.sq y :: K) | _ => dig y p K)
  | .block id c, _ :: p, K => dig c p (.bl id :: K)
  | .cond _ x y, i :: p, K => (match i with | 0 => dig x p K | _ => dig y p K)
  | .loop c, _ :: p, K => dig c p (.lp :: K)
  | c, _ :: _, K => (c, K)

theorem AW_go {fn : Func} {d0 : D} {nt n : Nat} (nz : List (List (Option (Nat × Nat)))) {c : Code} {K : List Fr} {st : St} (A : List An) (s : Stop) {p : Owe} (hnt : Γ.nt = nt) (hm : P.follows .mixedOrders = true) (h : go P (retD P (fn.results.toList, nz)) nt n (.run c) K st A = some (s, p)) (hp : AllP p)
    (hs : StopOk P Γ N (RetQ P fn d0) d0 s) : AW P Γ c (KQ P Γ N (RetQ P fn d0) K) st := go_sound (Q := RetQ P fn d0) (N := N) (K := K) (st := st) (d0 := d0) (cfg := .run c) (fun _ _ he h => retD_Q he h) hnt hm h hp hs

/-! functions that write into what they are lent -/
def lentD : Ob → Option D
  | .lent sz rows (some v) => some (.agg [.fr 0 sz rows, .val v])
  | _ => none
def lentDs : Nat → List Ob → Option (List D)
  | 0, _ => some []
  | n + 1, o :: H => (match lentD o, lentDs n H with | some d, some ds => some (d :: ds) | _, _ => none)
  | _ + 1, [] => none
def retVD (P : Program) (rs : List ResultVar) (n : Nat) (st : St) : Option D := match resDs P st rs with
  | some ds => (if ds.all D.flat = true then match lentDs n st.H with | some es => some (.tup (packD ds :: es)) | none => none else none)
  | none => none
def outD : List Rw → List Value → List D
  | x :: xs, v :: vs => .agg [.fr 0 x.1 x.2, .val v] :: outD xs vs
  | _, _ => []
theorem lentDs_get : ∀ {n : Nat} {H : List Ob} {outs : List Rw} {vs : List Value}, lentDs n H = some (outD outs vs) → ∀ (i : Nat) x v, outs[i]? = some x → vs[i]? = some v → H[i]? = some (x.ob (some v)) := by
  intro n
  induction n with
  | zero =>
    intro H outs vs h i x v hx hv
    cases outs with
    | nil => simp at hx
    | cons y ys =>
      cases vs with
      | nil => simp at hv
      | cons u us => simp [lentDs, outD] at h
  | succ n ih =>
    intro H outs vs h i x v hx hv
    cases outs with
    | nil => simp at hx
    | cons y ys =>
      cases vs with
      | nil => simp at hv
      | cons u us =>
        cases H with
        | nil => simp [lentDs] at h
        | cons o H =>
          simp only [lentDs, outD] at h
          split at h
          · rename_i d ds h1 h2
            simp only [Option.some.injEq, List.cons.injEq] at h
            obtain ⟨rfl, rfl⟩ := h
            cases i with
            | zero =>
              simp at hx hv
              subst hx; subst hv
              unfold lentD at h1
              split at h1
              · simp only [Option.some.injEq, D.agg.injEq, List.cons.injEq, D.fr.injEq, D.val.injEq, true_and, and_true] at h1
                obtain ⟨⟨h3, h4⟩, h5⟩ := h1
                simp [Rw.ob, h3, h4, h5]
              · cases h1
            | succ i => simpa using ih h2 i x v (by simpa using hx) (by simpa using hv)
          · cases h
theorem retVD_Q {fn : Func} {st : St} {d : D} {outs : List Rw} {vs : List Value} {n : Nat} {e : Exit} (he : e = .ret ∨ e = .normal) (h : retVD P fn.results.toList n st = some (.tup (d :: outD outs vs))) : RetV P fn vs outs d e st := by
  unfold retVD at h
  split at h
  · rename_i ds h1
    split at h
    · rename_i hf
      split at h
      · rename_i es h2
        simp only [Option.some.injEq, D.tup.injEq, List.cons.injEq] at h
        obtain ⟨rfl, rfl⟩ := h
        exact ⟨he, ds, h1, hf, rfl, lentDs_get h2⟩
      · cases h
    · cases h
  · cases h
theorem AW_goV {fn : Func} {d : D} {outs : List Rw} {vs : List Value} {nt n : Nat} (m : Nat) {c : Code} {K : List Fr} {st : St} (A : List An) (s : Stop) {p : Owe} (hnt : Γ.nt = nt) (hm : P.follows .mixedOrders = true) (h : go P (retVD P fn.results.toList m) nt n (.run c) K st A = some (s, p)) (hp : AllP p)
    (hs : StopOk P Γ N (RetV P fn vs outs d) (.tup (d :: outD outs vs)) s) : AW P Γ c (KQ P Γ N (RetV P fn vs outs d) K) st := go_sound (Q := RetV P fn vs outs d) (N := N) (K := K) (st := st) (d0 := .tup (d :: outD outs vs)) (cfg := .run c) (fun _ _ he h => retVD_Q he h) hnt hm h hp hs

/-- functions that are handed a pointer, or hand one back -/
def retPD (P : Program) (rs : List ResultVar × List (List (Option (Nat × Nat)))) (st : St) : Option D := match resDs P st rs.1, (st.H[0]? : Option Ob) with
  | some ds, some (Ob.pbx cells v) => (match retVs st.H rs.2 (.agg cells :: ds) with
    | some (.agg cells' :: es, ms, qs) => (if ms.Nodup ∧ qs.Nodup ∧ (∀ m ∈ qs, m ∉ ms) then some (.tup [packD es, .agg cells', .val v]) else none)
    | _ => none)
  | _, _ => none
def retND (P : Program) (rs : List ResultVar) (st : St) : Option D := match resDs P st rs with
  | some [.ptr j 0] => (match st.H[j]? with | some (.box cells) => (if cells.all D.isP = true then some (.agg cells) else none) | _ => none)
  | _ => none
/-- how a function ends: plainly; with what a variable holds that was lent to it; with a pointer to a new variable -/
inductive Kd where
  | q (nz : List (List (Option (Nat × Nat)))) (d : D)
  | p (nz : List (List (Option (Nat × Nat)))) (v : Value) (cells : List D) (d : D)
  | n (cells : List D)
def Kd.rf (P : Program) (fn : Func) (k : Kd) (st : St) : Option D := match k with
  | .q nz _ => retD P (fn.results.toList, nz) st
  | .p nz _ _ _ => retPD P (fn.results.toList, nz) st
  | .n _ => retND P fn.results.toList st
def Kd.d0 : Kd → D
  | .q _ d => d
  | .p _ v cells d => .tup [d, .agg cells, .val v]
  | .n cells => .agg cells
def Kd.qq (P : Program) (fn : Func) : Kd → Exit → St → Prop
  | .q _ d => RetQ P fn d
  | .p _ v cells d => RetP P fn v cells d
  | .n cells => RetN P fn cells
theorem Kd.ok {fn : Func} (k : Kd) {st : St} {e : Exit} (he : e = .ret ∨ e = .normal) (h : k.rf P fn st = some k.d0) : k.qq P fn e st := by
  cases k with
  | q nz d => exact retD_Q he h
  | p nz v cells d =>
    simp only [Kd.rf, retPD, Kd.d0] at h
    split at h
    · rename_i ds cellsF v' h1 h2
      split at h
      · rename_i cells' es ms qs h3
        split at h
        · rename_i hc
          simp only [Option.some.injEq, D.tup.injEq, List.cons.injEq, D.agg.injEq, D.val.injEq, and_true] at h
          obtain ⟨rfl, rfl, rfl⟩ := h
          exact ⟨he, _, _, _, _, _, _, h1, h2, h3, hc.1, hc.2.1, hc.2.2, rfl⟩
        · cases h
      · cases h
    · cases h
  | n cells =>
    simp only [Kd.rf, retND, Kd.d0] at h
    split at h
    · rename_i j h1
      split at h
      · rename_i cells' h2
        split at h
        · rename_i hc
          simp only [Option.some.injEq, D.agg.injEq] at h
          subst h
          exact ⟨he, j, h1, h2, hc⟩
        · cases h
      · cases h
    · cases h
theorem AW_goK {fn : Func} {k : Kd} {nt n : Nat} {c : Code} {K : List Fr} {st : St} (A : List An) (s : Stop) {p : Owe} (hnt : Γ.nt = nt) (hm : P.follows .mixedOrders = true) (h : go P (k.rf P fn) nt n (.run c) K st A = some (s, p)) (hp : AllP p)
    (hs : StopOk P Γ N (k.qq P fn) k.d0 s) : AW P Γ c (KQ P Γ N (k.qq P fn) K) st := go_sound (Q := k.qq P fn) (N := N) (K := K) (st := st) (d0 := k.d0) (cfg := .run c) (fun _ _ he h => k.ok he h) hnt hm h hp hs

/-- at most n rounds of a loop -/
def AWr (P : Program) (Γ : Ctx) (c : Code) (Q : Exit → St → Prop) (n : Nat) (st : St) : Prop :=
  ∀ κ Θ a w, Sim Γ st κ Θ a w → Code.rounds P c (fun e a' w' => ∃ st' κ' Θ', Sim Γ st' κ' Θ' a' w' ∧ Q e st') n a w

theorem AW_of_r {c : Code} {n : Nat} {st : St} (h : AWr P Γ c Q n st) : AW P Γ (.loop c) Q st := fun κ Θ a w hs => wp_loop_rounds n (h κ Θ a w hs)

theorem AWr_succ {c : Code} {K : List Fr} {n : Nat} {st : St}
    (h : ∀ N', (∀ d, d < depth K → N' d = N d) → N' (depth K) = AWr P Γ c (KQ P Γ N Q K) n → AW P Γ c (KQ P Γ N' Q (.lp :: K)) st) : AWr P Γ c (KQ P Γ N Q K) (n + 1) st := by
  intro κ Θ a w hs
  have := h (fun d => if d < depth K then N d else AWr P Γ c (KQ P Γ N Q K) n) (fun d hd => if_pos hd) (if_neg (by omega))
  simp only [KQ] at this
  rw [if_neg (by omega)] at this
  rw [← KQ_congr (N := N) (N' := fun d => if d < depth K then N d else AWr P Γ c (KQ P Γ N Q K) n) K (fun d hd => (if_pos hd).symm)] at this
  rw [rounds_succ]
  refine wp_mono (this κ Θ a w hs) ?_
  rintro e a' w' ⟨st', κ', Θ', hs', hq⟩
  cases e with
  | normal =>
    obtain ⟨k, o, hnd, hR'⟩ := hq
    obtain ⟨κ2, Θ2, hs2⟩ := hs'.canon k o hnd
    exact hR' κ2 Θ2 a' w' hs2
  | exit id => exact ⟨_, _, _, hs', hq⟩
  | goto l => exact ⟨_, _, _, hs', hq⟩
  | ret => exact ⟨_, _, _, hs', hq⟩
  | panic c => exact ⟨_, _, _, hs', hq⟩
  | outgrown => exact ⟨_, _, _, hs', hq⟩
end

/-! what a function computes, told as an Option: how its text is taken apart -/
theorem den_if {α : Type} {c : Bool} {x y : Option α} {r : α} (h : (bif c then x else y) = some r) : (c = true ∧ x = some r) ∨ (c = false ∧ y = some r) := by
  cases c
  · exact .inr ⟨rfl, h⟩
  · exact .inl ⟨rfl, h⟩
theorem den_ok {α : Type} {c : Bool} {x : Option α} {r : α} (h : (bif c then x else none) = some r) : c = true ∧ x = some r := by
  cases c
  · cases h
  · exact ⟨rfl, h⟩
theorem den_bind {α β : Type} {x : Option α} {f : α → Option β} {r : β} (h : x.bind f = some r) : ∃ y, x = some y ∧ f y = some r := by
  cases x with
  | none => cases h
  | some y => exact ⟨y, rfl, h⟩
theorem den_some {α : Type} {x y : α} (h : some x = some y) : x = y := by cases h; rfl

theorem ow0 : AllP [] := trivial
theorem ow {p : Prop} {ps : Owe} (h : p) (t : AllP ps) : AllP (p :: ps) := ⟨h, t⟩

/-- the element of a list at a number -/
def atI {α : Type} (l : List α) (i : Int) : Option α := bif decide (0 ≤ i) then l[i.toNat]? else none
theorem at_ok {α β : Type} {l : List α} {i : Int} {x : α} (f : α → β) (h : atI l i = some x) : 0 ≤ i ∧ (l.map f)[i.toNat]? = some (f x) := by
  unfold atI at h
  cases hd : decide (0 ≤ i) with
  | false => rw [hd] at h; cases h
  | true => rw [hd] at h; simp only [cond_true] at h; exact ⟨by simpa using hd, by rw [List.getElem?_map, h]; rfl⟩
theorem at_str {l : Bytes} {i : Int} {x : UInt8} (h : atI l i = some x) : 0 ≤ i ∧ l[i.toNat]? = some x := by
  unfold atI at h
  cases hd : decide (0 ≤ i) with
  | false => rw [hd] at h; cases h
  | true => rw [hd] at h; exact ⟨by simpa using hd, h⟩
/-- how many rounds a loop without a list is given -/
theorem glob_ix {tab : List Bytes} {n : Int} {y : Bytes} {m : Nat} (hl : tab.length = m) (h : atI tab n = some y) : n = ((n.toNat : Nat) : Int) ∧ n.toNat < m := by
  unfold atI at h
  cases hn : decide (0 ≤ n) with
  | false => rw [hn] at h; cases h
  | true =>
    rw [hn, cond_true] at h
    have h0 : 0 ≤ n := of_decide_eq_true hn
    have := (List.getElem?_eq_some_iff.1 h).1
    exact ⟨by omega, by omega⟩
theorem glob_at {tab : List Bytes} {n : Int} {y : Bytes} {g : Nat} (hv : ∀ o, varAt g o = (tab.map D.str)[o]?) (h : atI tab n = some y) : varAt g (0 + n.toNat * 1) = some (.str y) := by
  unfold atI at h
  cases hn : decide (0 ≤ n) with
  | false => rw [hn] at h; cases h
  | true =>
    rw [hn, cond_true] at h
    rw [hv, Nat.zero_add, Nat.mul_one, List.getElem?_map, h]; rfl
theorem glob_el {tab : List Bytes} {n : Int} {y : Bytes} {m : Nat} (hl : tab.length = m) (h : atI tab n = some y) : (0 ≤ n ∧ n < (m : Int)) ∧ (tab.map D.str)[n.toNat]? = some (.str y) := by
  obtain ⟨h1, h2⟩ := glob_ix hl h
  unfold atI at h
  cases hn : decide (0 ≤ n) with
  | false => rw [hn] at h; cases h
  | true =>
    rw [hn, cond_true] at h
    exact ⟨⟨of_decide_eq_true hn, by omega⟩, by rw [List.getElem?_map, h]; rfl⟩
def fuel : Nat := 4194304
theorem at_row {α : Type} {l : List α} {i : Int} {x : α} (f : α → List D) (n : Nat) (h : atI l i = some x) (hn : (f x).length = n) : 0 ≤ i ∧ (l.map f)[i.toNat]? = some (f x) ∧ (f x).length = n := ⟨(at_ok f h).1, (at_ok f h).2, hn⟩
theorem own_ix {i n : Nat} (sz : Nat) (h : decide (i < n) = true) : sz = sz ∧ (i : Int) = ((i : Nat) : Int) ∧ i < n := ⟨rfl, rfl, of_decide_eq_true h⟩
theorem own_ixl {α : Type} {l : List α} {i : Nat} {x : α} (f : α → List D) (sz : Nat) (h : l[i]? = some x) : sz = sz ∧ (i : Int) = ((i : Nat) : Int) ∧ i < (l.map f).length := ⟨rfl, rfl, by rw [List.length_map]; exact (List.getElem?_eq_some_iff.1 h).1⟩
theorem own_at {α : Type} {l : List α} {i : Int} {x : α} (f : α → List D) (sz : Nat) (h : atI l i = some x) : sz = sz ∧ i = ((i.toNat : Nat) : Int) ∧ i.toNat < (l.map f).length := by
  obtain ⟨h0, h1⟩ := at_ok f h
  exact ⟨rfl, by omega, (List.getElem?_eq_some_iff.1 h1).1⟩
theorem atI_get {α : Type} {l : List α} {i : Int} {x : α} (h : atI l i = some x) : l[i.toNat]? = some x := by
  have := (at_ok (fun y => y) h).2
  simpa using this
theorem quo_ok {x y : Int} (k : IntKind) (h : (decide (0 ≤ x) && decide (0 < y)) = true) : k = k ∧ 0 ≤ x ∧ 0 < y := by simpa using h
/-- room for n elements of b bytes -/
def room (n b : Nat) : Bool := decide (n ≤ maxLen) && decide (n * b ≤ 140737488355328)
theorem room_ok {n b : Nat} (h : room n b = true) : n ≤ maxLen ∧ n * b ≤ 140737488355328 := by
  simp only [room, Bool.and_eq_true, decide_eq_true_eq] at h; exact h
/-- room for what make makes -/
def roomM (n : Int) (b : Nat) : Bool := decide (0 ≤ n) && decide (b * n.toNat ≤ 281474976710656) && decide (n.toNat ≤ 4611686018427387904)
theorem roomM_ok {n : Int} {b : Nat} (h : roomM n b = true) : n = n ∧ 0 ≤ n ∧ b * n.toNat ≤ 281474976710656 ∧ n.toNat ≤ 4611686018427387904 := by
  simp only [roomM, Bool.and_eq_true, decide_eq_true_eq] at h; exact ⟨rfl, h.1.1, h.1.2, h.2⟩
theorem i64_succ {k n : Nat} (h : k < n) (hn : n ≤ maxLen) : IntKind.i64.wrap ((k : Int) + 1) = ((k + 1 : Nat) : Int) := by
  unfold maxLen at hn
  rw [wrap_in (InR.i64.2 (by omega))]; omega
theorem lt_true {k n : Nat} (h : k < n) : decide ((k : Int) < (n : Int)) = true := by simp [h]
theorem lt_false {k n : Nat} (h : n ≤ k) : decide ((k : Int) < (n : Int)) = false := by simp; omega
theorem drop_cons {α : Type} {l : List α} {k : Nat} {x : α} {xs : List α} (h : l.drop k = x :: xs) : l[k]? = some x ∧ k < l.length ∧ l.drop (k + 1) = xs := by
  have h1 : l[k]? = some x := by
    have := congrArg (fun m : List α => m[0]?) h
    simpa [List.getElem?_drop] using this
  refine ⟨h1, (List.getElem?_eq_some_iff.1 h1).1, ?_⟩
  rw [← List.drop_drop, h]; rfl
theorem drop_nil {α : Type} {l : List α} {k : Nat} (h : l.drop k = []) : l.length ≤ k := by simpa using h
theorem map_at {α β : Type} {l : List α} {k : Nat} {x : α} (f : α → β) (h : l[k]? = some x) : 0 ≤ (k : Int) ∧ (l.map f)[((k : Int)).toNat]? = some (f x) := ⟨by omega, by simp [h]⟩
theorem map_row {α : Type} {l : List α} {k : Nat} {x : α} (f : α → List D) (n : Nat) (h : l[k]? = some x) (hn : (f x).length = n) : 0 ≤ (k : Int) ∧ (l.map f)[((k : Int)).toNat]? = some (f x) ∧ (f x).length = n := ⟨(map_at f h).1, (map_at f h).2, hn⟩
theorem ltm_true {α β : Type} {l : List α} {k : Nat} (f : α → β) (h : k < l.length) : decide ((k : Int) < ((l.map f).length : Int)) = true := by rw [List.length_map]; exact lt_true h
theorem ltm_false {α β : Type} {l : List α} {k : Nat} (f : α → β) (h : l.length ≤ k) : decide ((k : Int) < ((l.map f).length : Int)) = false := by rw [List.length_map]; exact lt_false h
theorem map_get {α β : Type} {l : List α} {k : Nat} {x : α} (f : α → β) (h : l[k]? = some x) : (l.map f)[k]? = some (f x) := by rw [List.getElem?_map, h]; rfl
theorem map_len {α β : Type} {f : α → List β} {n : Nat} (hf : ∀ x, (f x).length = n) (l : List α) : ∀ r ∈ l.map f, r.length = n := by
  intro r hr
  obtain ⟨x, _, rfl⟩ := List.mem_map.1 hr
  exact hf x
theorem set_mid {α β : Type} {f : α → β} (dn : List α) (y z : β) (r : List β) : (dn.map f ++ y :: r).set dn.length z = dn.map f ++ z :: r := by
  rw [List.set_append_right _ _ (by simp)]; simp
theorem get_mid {α β : Type} {f : α → β} (dn : List α) (y : β) (r : List β) : (dn.map f ++ y :: r)[dn.length]? = some y := by
  rw [List.getElem?_append_right (by simp)]; simp
theorem lt_mid {α β : Type} {f : α → β} (dn : List α) (y : β) (r : List β) : decide ((dn.length : Int) < ((dn.map f ++ y :: r).length : Int)) = true := by
  rw [decide_eq_true_eq, List.length_append, List.length_map, List.length_cons]; omega
theorem ge_mid {α β : Type} {f : α → β} (dn : List α) : decide ((dn.length : Int) < ((dn.map f ++ ([] : List α).map f).length : Int)) = false := by
  rw [decide_eq_false_iff_not]; simp
theorem i64_mid {n : Nat} (h : n + 1 ≤ maxLen) : IntKind.i64.wrap ((n : Int) + 1) = ((n + 1 : Nat) : Int) := by
  unfold maxLen at h
  rw [wrap_in (InR.i64.2 (by omega))]; omega
theorem Rdb.maxSl {d : D} {rows : List (List D)} (h : Rdb d) (e : d = .sl rows) : rows.length ≤ maxLen := by subst e; exact (Rdb.sl h).1

/-! maps in plain words: entries in the order in which they came -/
def mGet {α β : Type} [BEq α] (z : β) (k : α) : List (α × β) → β
  | [] => z
  | p :: r => bif k == p.1 then p.2 else mGet z k r
def mHas {α β : Type} [BEq α] (k : α) : List (α × β) → Bool
  | [] => false
  | p :: r => bif k == p.1 then true else mHas k r
def mPut {α β : Type} [BEq α] (k : α) (v : β) : List (α × β) → List (α × β)
  | [] => [(k, v)]
  | p :: r => bif k == p.1 then (k, v) :: r else p :: mPut k v r
def eB (b : Bool) : D := .bool b
def eS (s : Bytes) : D := .str s
def eI (n : Int) : D := .int .i64 n
def kS {β : Type} (e : β → D) (p : Bytes × β) : D × D := (.str p.1, e p.2)
def kI {β : Type} (e : β → D) (p : Int × β) : D × D := (.int .i64 p.1, e p.2)
theorem find_kS {β : Type} {e : β → D} (z : β) (k : Bytes) : ∀ (m : List (Bytes × β)), (kvFind (.str k) (m.map (kS e)) = some none ∧ mHas k m = false ∧ mGet z k m = z) ∨ (kvFind (.str k) (m.map (kS e)) = some (some (e (mGet z k m))) ∧ mHas k m = true)
  | [] => .inl ⟨rfl, rfl, rfl⟩
  | p :: r => by
    simp only [List.map_cons, kvFind, kS, keq, mHas, mGet]
    cases hb : k == p.1 with
    | true => exact .inr ⟨rfl, rfl⟩
    | false => exact find_kS z k r
theorem find_kI {β : Type} {e : β → D} (z : β) (k : Int) : ∀ (m : List (Int × β)), (kvFind (.int .i64 k) (m.map (kI e)) = some none ∧ mHas k m = false ∧ mGet z k m = z) ∨ (kvFind (.int .i64 k) (m.map (kI e)) = some (some (e (mGet z k m))) ∧ mHas k m = true)
  | [] => .inl ⟨rfl, rfl, rfl⟩
  | p :: r => by
    simp only [List.map_cons, kvFind, kI, keq, if_true, mHas, mGet]
    cases hb : k == p.1 with
    | true => exact .inr ⟨rfl, rfl⟩
    | false => exact find_kI z k r
theorem lk_kS {P : Program} {T : TypeId} {β : Type} {e : β → D} {z : β} {k : Bytes} {m : List (Bytes × β)} (hT : tmap P T = some (.string, e z)) : plk P T (m.map (kS e)) (.str k) false = some (e (mGet z k m)) := by
  unfold plk
  rw [hT]
  rcases find_kS (e := e) z k m with ⟨h1, _, h3⟩ | ⟨h1, _⟩
  · simp only [keyD, h1, h3, cond_false]
  · simp only [keyD, h1, cond_false]
theorem lk_kSok {P : Program} {T : TypeId} {β : Type} {e : β → D} {z : β} {k : Bytes} {m : List (Bytes × β)} (hT : tmap P T = some (.string, e z)) : plk P T (m.map (kS e)) (.str k) true = some (.tup [e (mGet z k m), .bool (mHas k m)]) := by
  unfold plk
  rw [hT]
  rcases find_kS (e := e) z k m with ⟨h1, h2, h3⟩ | ⟨h1, h2⟩
  · simp only [keyD, h1, h2, h3, cond_true]
  · simp only [keyD, h1, h2, cond_true]
theorem lk_kI {P : Program} {T : TypeId} {β : Type} {e : β → D} {z : β} {k : Int} {m : List (Int × β)} (hT : tmap P T = some (.int .i64, e z)) : plk P T (m.map (kI e)) (.int .i64 k) false = some (e (mGet z k m)) := by
  unfold plk
  rw [hT]
  rcases find_kI (e := e) z k m with ⟨h1, _, h3⟩ | ⟨h1, _⟩
  · simp only [keyD, h1, h3, cond_false, decide_true]
  · simp only [keyD, h1, cond_false, decide_true]
theorem put_kS {β : Type} {e : β → D} {k : Bytes} {v : β} : ∀ {m : List (Bytes × β)}, kvPut (.str k) (e v) (m.map (kS e)) = some ((mPut k v m).map (kS e))
  | [] => rfl
  | p :: r => by
    simp only [List.map_cons, kvPut, mPut]
    have hq : keq (.str k) (kS e p).1 = some (k == p.1) := rfl
    rw [hq]
    cases hb : k == p.1 with
    | true => rfl
    | false => simp only [put_kS (m := r), Option.map_some, cond_false, List.map_cons]
theorem put_kI {β : Type} {e : β → D} {k : Int} {v : β} : ∀ {m : List (Int × β)}, kvPut (.int .i64 k) (e v) (m.map (kI e)) = some ((mPut k v m).map (kI e))
  | [] => rfl
  | p :: r => by
    simp only [List.map_cons, kvPut, mPut]
    have hq : keq (.int .i64 k) (kI e p).1 = some (k == p.1) := by simp [keq, kI]
    rw [hq]
    cases hb : k == p.1 with
    | true => rfl
    | false => simp only [put_kI (m := r), Option.map_some, cond_false, List.map_cons]
end Go.Cx
