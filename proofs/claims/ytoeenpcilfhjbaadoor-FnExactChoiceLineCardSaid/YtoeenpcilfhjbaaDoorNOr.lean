/- A drawn region in which two operations may come in either order is walked twice, once for each order of the two. No condition; plain lemmas. -/
import Derived.Test.YtoeenpcilfhjbaaDoorNGo
namespace Go.Cx
set_option linter.unusedVariables false
set_option linter.unusedSimpArgs false
open Go.RowKit

section
variable {P : Program} {Γ : Ctx} {Q : Exit → St → Prop} {st : St} {a : Act} {w : World}

/-- this operation also waits for operation x -/
def addO (x : Nat) (o : Oper) : Oper := { o with after := o.after.push ⟨x, .data⟩ }
def addL (x : Nat) : Nat → List Oper → List Oper
  | _, [] => []
  | 0, o :: l => addO x o :: l
  | y + 1, o :: l => o :: addL x y l
/-- operation y also waits for operation x -/
def addE (x y : Nat) (ops : Array Oper) : Array Oper := (addL x y ops.toList).toArray
theorem addL_get (x : Nat) : ∀ (l : List Oper) (y i : Nat), (addL x y l)[i]? = if i = y then (l[i]?).map (addO x) else l[i]?
  | [], y, i => by simp [addL]
  | o :: l, 0, 0 => by simp [addL]
  | o :: l, 0, i + 1 => by simp [addL]
  | o :: l, y + 1, 0 => by simp [addL]
  | o :: l, y + 1, i + 1 => by simp [addL, addL_get x l y i]
theorem addE_get (x y : Nat) (ops : Array Oper) (i : Nat) : (addE x y ops)[i]? = if i = y then (ops[i]?).map (addO x) else ops[i]? := by
  unfold addE
  rw [List.getElem?_toArray, addL_get, Array.getElem?_toList]
theorem addL_len (x : Nat) : ∀ (l : List Oper) (y : Nat), (addL x y l).length = l.length
  | [], y => by cases y <;> rfl
  | _ :: _, 0 => rfl
  | _ :: l, y + 1 => by simp [addL, addL_len x l y]
theorem addE_size (x y : Nat) (ops : Array Oper) : (addE x y ops).size = ops.size := by unfold addE; simp [addL_len]
theorem exec_addO (x : Nat) (o : Oper) (f : Operand → Value) : execOp f (addO x o) = execOp f o := by
  cases o; rfl
theorem wp_addO (x : Nat) {o : Oper} {K : Act → World → Prop} {Q' : Exit → Act → World → Prop} (h : (addO x o).wp P a w K Q') : o.wp P a w K Q' := by
  unfold Oper.wp at *
  rw [exec_addO] at h
  exact h
theorem asks_addO (x : Nat) {o : Oper} (h : (addO x o).asks P a w) : o.asks P a w := by
  unfold Oper.asks at *
  rw [exec_addO] at h
  exact h
theorem yielded_addE (x y : Nat) (ops : Array Oper) (t : Array Value) : yielded (addE x y ops) t = yielded ops t := by
  funext j
  unfold yielded
  rw [addE_get]
  by_cases e : j = y
  · rw [if_pos e]
    cases ops[j]? <;> rfl
  · rw [if_neg e]
theorem wpOp_addE {x y i : Nat} {ops : Array Oper} {K : Act → World → Prop} {Q' : Exit → Act → World → Prop} (h : wpOp P (addE x y ops) Q' i K a w) : wpOp P ops Q' i K a w := by
  unfold wpOp at *
  rw [addE_get, yielded_addE] at h
  by_cases e : i = y
  · rw [if_pos e] at h
    cases ho : ops[i]? with
    | none => simpa [ho] using h
    | some o =>
      simp only [ho, Option.map_some] at h ⊢
      have hw : Region.wanted (addO x o) (yielded ops a.tmps) = Region.wanted o (yielded ops a.tmps) := rfl
      rw [hw] at h
      split
      · rename_i hq
        rw [if_pos hq] at h
        exact h.imp (wp_addO x) fun ⟨q1, q2⟩ => ⟨asks_addO x q1, q2⟩
      · rename_i hq
        rw [if_neg hq] at h
        exact h
  · rw [if_neg e] at h
    exact h
theorem ready_sub {x y i : Nat} {ops : Array Oper} {listed : Array Bool} (h : i ∈ Region.ready .any (addE x y ops) listed) : i ∈ Region.ready .any ops listed := by
  obtain ⟨h1, o, h2, h3⟩ := mem_ready.1 h
  rw [addE_get] at h2
  by_cases e : i = y
  · rw [if_pos e] at h2
    cases ho : ops[i]? with
    | none => rw [ho] at h2; cases h2
    | some o' =>
      rw [ho] at h2; cases h2
      exact mem_ready.2 ⟨h1, o', ho, fun e he hb => h3 e (by simp only [addO, Array.mem_push]; exact .inl he) hb⟩
  · rw [if_neg e] at h2
    exact mem_ready.2 ⟨h1, o, h2, h3⟩
theorem ready_sup {x y i : Nat} {ops : Array Oper} {listed : Array Bool} (h : i ∈ Region.ready .any ops listed) (hy : i ≠ y ∨ listed.getD x false = true) : i ∈ Region.ready .any (addE x y ops) listed := by
  obtain ⟨h1, o, h2, h3⟩ := mem_ready.1 h
  by_cases e : i = y
  · refine mem_ready.2 ⟨h1, addO x o, by rw [addE_get, if_pos e, h2]; rfl, fun e' he hb => ?_⟩
    simp only [addO, Array.mem_push] at he
    rcases he with he | rfl
    · exact h3 e' he hb
    · rcases hy with hy | hy
      · exact absurd e hy
      · exact hy
  · exact mem_ready.2 ⟨h1, o, by rw [addE_get, if_neg e]; exact h2, h3⟩
theorem ready_none {x y : Nat} {ops : Array Oper} {listed : Array Bool} (h : Region.ready .any ops listed = []) : Region.ready .any (addE x y ops) listed = [] := by
  rw [List.eq_nil_iff_forall_not_mem] at *
  exact fun i hi => h i (ready_sub hi)
theorem listed_set {listed : Array Bool} {i x : Nat} (h : listed.getD x false = true) : (listed.setIfInBounds i true).getD x false = true := by
  by_cases e : i = x
  · subst e
    have : i < listed.size := by
      rcases Nat.lt_or_ge i listed.size with h1 | h1
      · exact h1
      · simp [h1] at h
    simp [this]
  · rw [getD_set_ne false e]; exact h
/-- once x has come, nothing more waits for it -/
theorem wpAny_done {x y : Nat} {ops : Array Oper} {Q' : Exit → Act → World → Prop} : ∀ (fuel : Nat) (listed : Array Bool) (a : Act) (w : World), listed.getD x false = true → wpAny P .any (addE x y ops) Q' fuel listed a w → wpAny P .any ops Q' fuel listed a w
  | 0, listed, a, w, hx, h => by
    refine ⟨?_, h.2⟩
    rw [List.eq_nil_iff_forall_not_mem]
    intro i hi
    have := ready_sup (y := y) hi (.inr hx)
    rw [h.1] at this; cases this
  | fuel + 1, listed, a, w, hx, h => by
    refine ⟨fun h0 => h.1 (ready_none h0), fun i hi => ?_⟩
    exact wpOp_addE (wpOp_mono (fun a' w' h' => wpAny_done fuel _ a' w' (listed_set hx) h') (h.2 i (ready_sup hi (.inr hx))))

/-- operations that call nothing -/
def noCall : Op → Bool
  | .move _ => true
  | .assign _ => true
  | .pick _ _ _ => true
  | .alloc _ => true
  | .box _ _ => true
  | .build _ _ => true
  | .buildSlice _ _ _ => true
  | .load _ _ => true
  | .store _ _ _ => true
  | .binOp _ _ _ _ _ => true
  | .unOp _ _ _ => true
  | .slice _ _ _ _ _ => true
  | .fieldAddr _ _ _ => true
  | .indexAddr _ _ _ => true
  | .call c => (match c.callee with | .builtin .append => true | .builtin .len => true | _ => false)
  | _ => false
theorem upon_both {o : Oper} {K1 K2 : Act → World → Prop} {Q' : Exit → Act → World → Prop} {r : Result Next} (hr : (∃ v w', r = .ok (.value v) w') ∨ (∃ w', r = .ok .skip w') ∨ ∃ x w', r = .halt x w') (h1 : o.upon P a K1 Q' r) (h2 : o.upon P a K2 Q' r) : o.upon P a (fun a w => K1 a w ∧ K2 a w) Q' r := by
  rcases hr with ⟨v, w', rfl⟩ | ⟨w', rfl⟩ | ⟨x, w', rfl⟩
  · exact ⟨h1, h2⟩
  · exact ⟨h1, h2⟩
  · cases x <;> exact h1
theorem run_v (s : Sem Value) (w : World) : (∃ v w', (do pure (.value (← s)) : Sem Next).run P w = .ok (.value v) w') ∨ ∃ x w', (do pure (.value (← s)) : Sem Next).run P w = .halt x w' := by
  simp only [Sem.run_bind]
  cases s.run P w with
  | ok v w' => exact .inl ⟨v, w', by simp⟩
  | halt x w' => exact .inr ⟨x, w', by simp⟩
theorem run_u (s : Sem Unit) (w : World) : (∃ w', (do s; pure .skip : Sem Next).run P w = .ok .skip w') ∨ ∃ x w', (do s; pure .skip : Sem Next).run P w = .halt x w' := by
  simp only [Sem.run_bind]
  cases s.run P w with
  | ok v w' => exact .inl ⟨w', by simp⟩
  | halt x w' => exact .inr ⟨x, w', by simp⟩
theorem exec_noCall {o : Oper} (h : noCall o.op = true) (f : Operand → Value) (w : World) : (∃ v w', (execOp f o).run P w = .ok (.value v) w') ∨ (∃ w', (execOp f o).run P w = .ok .skip w') ∨ ∃ x w', (execOp f o).run P w = .halt x w' := by
  have hv : ∀ s : Sem Value, (∃ v w', (do pure (.value (← s)) : Sem Next).run P w = .ok (.value v) w') ∨ (∃ w', (do pure (.value (← s)) : Sem Next).run P w = .ok .skip w') ∨ ∃ x w', (do pure (.value (← s)) : Sem Next).run P w = .halt x w' := fun s => (run_v s w).imp id .inr
  have hu : ∀ s : Sem Unit, (∃ v w', (do s; pure .skip : Sem Next).run P w = .ok (.value v) w') ∨ (∃ w', (do s; pure .skip : Sem Next).run P w = .ok .skip w') ∨ ∃ x w', (do s; pure .skip : Sem Next).run P w = .halt x w' := fun s => .inr (run_u s w)
  have hp : ∀ c x y : Value, (∃ v w', (do pure (.value (if ← asBool c then x else y)) : Sem Next).run P w = .ok (.value v) w') ∨ (∃ w', (do pure (.value (if ← asBool c then x else y)) : Sem Next).run P w = .ok .skip w') ∨ ∃ z w', (do pure (.value (if ← asBool c then x else y)) : Sem Next).run P w = .halt z w' := by
    intro c x y
    simp only [Sem.run_bind]
    cases (asBool c).run P w with
    | ok v w' => exact .inl ⟨if v then x else y, w', by simp⟩
    | halt z w' => exact .inr (.inr ⟨z, w', by simp⟩)
  unfold execOp
  cases hop : o.op
  case call c =>
    rw [hop] at h
    simp only [noCall] at h
    have hr : ∀ b, c.callee = .builtin b → (do let d ← resolve f c o.type; invoke d.target d.args : Sem Next).run P w = (builtin b c.argTypes o.type (c.args.map fun | .const _ => true | _ => false) (c.args.map f)).run P w := by
      intro b hb
      simp only [resolve, hb, Sem.run_bind, Sem.run_pure, Result.andThen_ok]
      rfl
    split at h
    · rename_i hb
      simp only
      rw [hr _ hb]
      exact hv _
    · rename_i hb
      simp only
      rw [hr _ hb]
      exact hv _
    · cases h
  all_goals rw [hop] at h
  all_goals try (cases h)
  all_goals first | exact .inl ⟨_, _, rfl⟩ | exact hp _ _ _ | exact hv _ | exact hu _
theorem wpOp_both {i : Nat} {ops : Array Oper} {K1 K2 : Act → World → Prop} {Q' : Exit → Act → World → Prop} (hn : ∀ o, ops[i]? = some o → noCall o.op = true) (h1 : wpOp P ops Q' i K1 a w) (h2 : wpOp P ops Q' i K2 a w) : wpOp P ops Q' i (fun a w => K1 a w ∧ K2 a w) a w := by
  unfold wpOp at *
  cases ho : ops[i]? with
  | none => simp only [ho] at h1 h2 ⊢; exact ⟨h1, h2⟩
  | some o =>
    simp only [ho] at h1 h2 ⊢
    split
    · rename_i hq
      rw [if_pos hq] at h1 h2
      rcases h1 with h1 | h1
      · rcases h2 with h2 | h2
        · exact .inl (upon_both (exec_noCall (hn o ho) _ _) h1 h2)
        · exact .inr h2
      · exact .inr h1
    · rename_i hq
      rw [if_neg hq] at h1 h2
      exact ⟨h1, h2⟩
/-- what is neither x nor y calls nothing, or waits for x or y -/
def orB (x y : Nat) (ops : Array Oper) : Bool := !(x == y) && (List.range ops.size).all fun i => i == x || i == y || (match ops[i]? with | some o => noCall o.op || o.after.any (fun e => Region.binds .any e && (e.on == x || e.on == y)) | none => true)
theorem wpAny_or {x y : Nat} {ops : Array Oper} {Q' : Exit → Act → World → Prop} (hB : orB x y ops = true) : ∀ (fuel : Nat) (listed : Array Bool) (a : Act) (w : World), listed.size = ops.size → listed.getD x false = false → listed.getD y false = false →
    wpAny P .any (addE x y ops) Q' fuel listed a w → wpAny P .any (addE y x ops) Q' fuel listed a w → wpAny P .any ops Q' fuel listed a w
  | 0, listed, a, w, hs, hx, hy, h1, h2 => by
    refine ⟨?_, h1.2⟩
    rw [List.eq_nil_iff_forall_not_mem]
    intro i hi
    simp only [orB, Bool.and_eq_true, Bool.not_eq_true', beq_eq_false_iff_ne, ne_eq] at hB
    by_cases e : i = y
    · have := ready_sup (x := y) (y := x) hi (.inl (by rw [e]; exact fun h => hB.1 h.symm))
      rw [h2.1] at this; cases this
    · have := ready_sup (x := x) (y := y) hi (.inl e)
      rw [h1.1] at this; cases this
  | fuel + 1, listed, a, w, hs, hx, hy, h1, h2 => by
    have hB' := hB
    simp only [orB, Bool.and_eq_true, Bool.not_eq_true', beq_eq_false_iff_ne, ne_eq] at hB'
    obtain ⟨hxy, hall⟩ := hB'
    refine ⟨fun h0 => h1.1 (ready_none h0), fun i hi => ?_⟩
    have hlt : i < ops.size := by
      obtain ⟨_, o, ho, _⟩ := mem_ready.1 hi
      exact (Array.getElem?_eq_some_iff.1 ho).1
    have hset : (listed.setIfInBounds i true).getD i false = true := by
      have : i < listed.size := by omega
      simp [this]
    by_cases ex : i = x
    · have h := h1.2 i (ready_sup hi (.inl (by rw [ex]; exact hxy)))
      rw [ex] at hset h ⊢
      exact wpOp_addE (wpOp_mono (fun a' w' h' => wpAny_done fuel _ a' w' hset h') h)
    by_cases ey : i = y
    · have h := h2.2 i (ready_sup hi (.inl (by rw [ey]; exact fun q => hxy q.symm)))
      rw [ey] at hset h ⊢
      exact wpOp_addE (wpOp_mono (fun a' w' h' => wpAny_done fuel _ a' w' hset h') h)
    have hn : ∀ o, ops[i]? = some o → noCall o.op = true := by
      intro o ho
      have := List.all_eq_true.1 hall i (List.mem_range.2 hlt)
      simp only [ho, Bool.or_eq_true, beq_iff_eq, ex, ey, false_or] at this
      rcases this with h | h
      · exact h
      · exfalso
        obtain ⟨_, o', ho', hw⟩ := mem_ready.1 hi
        rw [ho] at ho'; cases ho'
        obtain ⟨e, he, hb⟩ := Array.any_eq_true'.1 h
        simp only [Bool.and_eq_true, Bool.or_eq_true, beq_iff_eq] at hb
        have hl := hw e he hb.1
        rcases hb.2 with q | q
        · rw [q, hx] at hl; cases hl
        · rw [q, hy] at hl; cases hl
    have k1 := wpOp_addE (h1.2 i (ready_sup hi (.inl ey)))
    have k2 := wpOp_addE (h2.2 i (ready_sup hi (.inl ex)))
    refine wpOp_mono (fun a' w' h' => wpAny_or hB fuel _ a' w' (by simpa using hs) ?_ ?_ h'.1 h'.2) (wpOp_both hn k1 k2)
    · rw [getD_set_ne false (fun h => ex h)]; exact hx
    · rw [getD_set_ne false (fun h => ey h)]; exact hy
theorem AnyOk.or {x y : Nat} {ops : Array Oper} (hB : orB x y ops = true) (h1 : AnyOk P Γ (addE x y ops) Q st) (h2 : AnyOk P Γ (addE y x ops) Q st) : AnyOk P Γ ops Q st := by
  intro κ Θ a w hs
  have k1 := h1 κ Θ a w hs
  have k2 := h2 κ Θ a w hs
  rw [addE_size] at k1 k2
  exact wpAny_or hB ops.size (Array.replicate ops.size false) a w (by simp) (getD_replicate_false _ _) (getD_replicate_false _ _) k1 k2

/-! ## A pure operation that may come late comes early -/
/-- what an operation gives does not hang on the world -/
def Sure (P : Program) (o : Oper) (f : Operand → Value) : Prop := (∃ v, ∀ w, (execOp f o).run P w = .ok (.value v) w) ∨ ∀ w, ∃ x w', (execOp f o).run P w = .halt x w'
theorem run_lift {s : Sem Value} (h : (∃ v, ∀ w, s.run P w = .ok v w) ∨ ∀ w, ∃ x w', s.run P w = .halt x w') : (∃ v, ∀ w, (do pure (.value (← s)) : Sem Next).run P w = .ok (.value v) w) ∨ ∀ w, ∃ x w', (do pure (.value (← s)) : Sem Next).run P w = .halt x w' := by
  rcases h with ⟨v, h⟩ | h
  · exact .inl ⟨v, fun w => by simp [Sem.run_bind, h w]⟩
  · refine .inr fun w => ?_
    obtain ⟨x, w', h⟩ := h w
    exact ⟨x, w', by simp [Sem.run_bind, h]⟩
theorem run_then {α β : Type} {s : Sem α} {k : α → Sem β} (h : (∃ v, ∀ w, s.run P w = .ok v w) ∨ ∀ w, ∃ x w', s.run P w = .halt x w') (hk : ∀ v, (∃ r, ∀ w, (k v).run P w = .ok r w) ∨ ∀ w, ∃ x w', (k v).run P w = .halt x w') : (∃ v, ∀ w, (s >>= k).run P w = .ok v w) ∨ ∀ w, ∃ x w', (s >>= k).run P w = .halt x w' := by
  rcases h with ⟨v, h⟩ | h
  · rcases hk v with ⟨r, hr⟩ | hr
    · exact .inl ⟨r, fun w => by simp [Sem.run_bind, h w, hr w]⟩
    · refine .inr fun w => ?_
      obtain ⟨x, w', hr⟩ := hr w
      exact ⟨x, w', by simp [Sem.run_bind, h w, hr]⟩
  · refine .inr fun w => ?_
    obtain ⟨x, w', h⟩ := h w
    exact ⟨x, w', by simp [Sem.run_bind, h]⟩
theorem equal_bool {t : TypeId} (h : P.underlying t = some .bool) (x y : Value) : (∃ b, ∀ w, (Op.equal t x y).run P w = .ok b w) ∨ ∀ w, ∃ e w', (Op.equal t x y).run P w = .halt e w' := by
  have key : ∀ d : Nat, (∃ b, ∀ w, (Op.equalIn (d + 1) t x y).run P w = .ok b w) ∨ ∀ w, ∃ e w', (Op.equalIn (d + 1) t x y).run P w = .halt e w' := by
    intro d
    by_cases hb : ∃ a b, x = .bool a ∧ y = .bool b
    · obtain ⟨a, b, rfl, rfl⟩ := hb
      exact .inl ⟨a == b, fun w => by simp [Op.equalIn, run_underlying h]⟩
    · refine .inr fun w => ?_
      have : ∀ a b, ¬ (x = .bool a ∧ y = .bool b) := fun a b h => hb ⟨a, b, h⟩
      rw [Op.equalIn]
      rw [Sem.run_bind, run_underlying h, Result.andThen_ok]
      split <;> first | (rename_i a b q; cases q; exact absurd ⟨rfl, rfl⟩ (this _ _)) | (exact ⟨_, _, rfl⟩) | (rename_i q; cases q)
  exact key 9999
theorem guard_bool {t : TypeId} (h : P.underlying t = some .bool) (op : BinOp) (x y : Operand) (a b : Value) (w : World) : (eqGuard op t x y a b).run P w = .ok () w := by
  have hi : ∀ w, (Op.eqGuardIn Op.maxDepth t a b).run P w = .ok false w := by
    intro w
    have hd : ∀ d, (Op.eqGuardIn (d + 1) t a b).run P w = .ok false w := by
      intro d
      rw [Op.eqGuardIn, Sem.run_bind, run_underlying h, Result.andThen_ok]
      split <;> first | (rename_i q; cases q) | rfl
    exact hd 9999
  unfold eqGuard
  by_cases h1 : (!(match op with | .eql | .neq => true | _ => false)) = true
  · cases op <;> first | rfl | (exact absurd h1 (by simp))
  · have h2 : op = .eql ∨ op = .neq := by
      cases op <;> first | exact .inl rfl | exact .inr rfl | exact absurd rfl h1
    rcases h2 with rfl | rfl <;> (cases a <;> cases b <;> first | rfl | skip)
    all_goals simp [Sem.run_bind, hi]
    all_goals (repeat' split) <;> simp_all [Sem.run_bind]
theorem neq_bool {t : TypeId} (h : P.underlying t = some .bool) (x y : Value) : (∃ v, ∀ w, (binOp .neq t x y).run P w = .ok v w) ∨ ∀ w, ∃ e w', (binOp .neq t x y).run P w = .halt e w' := by
  have he : (∃ v, ∀ w, (do pure (.bool (!(← Op.equal t x y))) : Sem Value).run P w = .ok v w) ∨ ∀ w, ∃ e w', (do pure (.bool (!(← Op.equal t x y))) : Sem Value).run P w = .halt e w' := run_then (equal_bool h x y) fun v => .inl ⟨_, fun w => rfl⟩
  unfold binOp
  split <;> first
    | exact he
    | contradiction
    | skip
  all_goals (try split) <;> first | exact .inr fun w => ⟨_, _, rfl⟩ | exact .inl ⟨_, fun w => rfl⟩ | skip
theorem lss_int (t : TypeId) (x : Value) (k : IntKind) (n : Int) : (∃ v, ∀ w, (binOp .lss t x (.int k n)).run P w = .ok v w) ∨ ∀ w, ∃ e w', (binOp .lss t x (.int k n)).run P w = .halt e w' := by
  cases x with
  | int k' m =>
    by_cases e : k' = k
    · subst e; exact .inl ⟨.bool (m < n), fun w => by simp [binOp, Op.intCmp]⟩
    · exact .inr fun w => ⟨_, _, by simp [binOp, e]; exact ⟨rfl, rfl⟩⟩
  | pointer p => cases p <;> exact .inr fun w => ⟨_, _, rfl⟩
  | _ => exact .inr fun w => ⟨_, _, rfl⟩
def sureO (P : Program) : Op → Bool
  | .binOp .neq t _ _ _ => tbool P t
  | .binOp .lss _ _ (.const (.int _ _)) _ => true
  | _ => false

theorem sure_ok {o : Oper} (h : sureO P o.op = true) (a : Act) : Sure P o a.eval := by
  unfold sureO at h
  unfold Sure execOp
  split at h
  · rename_i t x y r hop
    simp only [hop]
    have hu : P.underlying t = some .bool := by
      unfold tbool at h
      split at h
      · assumption
      · cases h
    exact run_lift (run_then (.inl ⟨(), guard_bool hu _ _ _ _ _⟩) fun _ => neq_bool hu _ _)
  · rename_i t x k n r hop
    simp only [hop]
    exact run_lift (run_then (.inl ⟨(), fun w => rfl⟩) fun _ => lss_int t _ k n)
  · cases h

/-- p may be run as soon as it is ready, and y waits (at least) for all that p waits for -/
def free (p : Nat) (ops : Array Oper) (op : Oper) (dp : List Nat) : Bool := (List.range ops.size).all fun i => i == p || (match ops[i]? with
  | none => true
  | some o => o.after.any (fun e => Region.binds .any e && e.on == p) || dp.contains i ||
    (o.guard.isNone && (match o.op with | .select _ _ => false | _ => true) && !(o.dst == op.dst) && (o.op.operands.toList.all fun x => match x with | .tmp u => !(op.dst == some u) | _ => true) && (op.op.operands.toList.all fun x => match x with | .tmp u => !(o.dst == some u) | _ => true)))
def earlyB (P : Program) (p y : Nat) (ops : Array Oper) : Bool := !(p == y) && (match ops[p]? with
  | none => false
  | some op => sureO P op.op && op.guard.isNone && op.dst.isSome && free p ops op ((depsOf ops.toList).getD p []) && op.after.all fun e => !Region.binds .any e || ((depsOf ops.toList).getD y []).contains e.on)

theorem put_comm (a : Act) {t : Nat} {d : Option Nat} (v u : Value) (h : d ≠ some t) : (a.put (some t) v).put d u = (a.put d u).put (some t) v := by
  cases d with
  | none => rfl
  | some d =>
    have hd : d ≠ t := fun e => h (by rw [e])
    show Act.mk ((a.tmps.setIfInBounds t v).setIfInBounds d u) a.defers = Act.mk ((a.tmps.setIfInBounds d u).setIfInBounds t v) a.defers
    rw [Array.setIfInBounds_comm _ _ (Ne.symm hd)]
theorem put_defer (a : Act) {t : Nat} {d : Option Nat} (v u : Value) (x : Deferred) (h : d ≠ some t) : ({ a.put (some t) v with defers := x :: (a.put (some t) v).defers } : Act).put d u = (({ a with defers := x :: a.defers } : Act).put d u).put (some t) v := by
  rw [← put_comm _ _ _ h]
  rfl
theorem set_comm (l : Array Bool) (i j : Nat) : (l.setIfInBounds i true).setIfInBounds j true = (l.setIfInBounds j true).setIfInBounds i true := by
  by_cases e : i = j
  · rw [e]
  · exact Array.setIfInBounds_comm _ _ e

theorem wp_frame2 {o : Oper} {a b : Act} {K K2 : Act → World → Prop} {Q' : Exit → Act → World → Prop} (hP : ∀ c a w, ¬ Q' (.panic c) a w) (hO : ∀ a w, ¬ Q' .outgrown a w) (hsel : ∀ cs b, o.op ≠ .select cs b) (he : ∀ x ∈ o.op.operands, a.eval x = b.eval x)
    (hK : ∀ v w', K (b.put o.dst v) w' → K2 (a.put o.dst v) w') (hdf : ∀ d w', K ({ b with defers := d :: b.defers }.put o.dst undef) w' → K2 ({ a with defers := d :: a.defers }.put o.dst undef) w') (h : o.wp P b w K Q') : o.wp P a w K2 Q' := by
  unfold Oper.wp at *
  rw [execOp_congr o hsel he]
  generalize (execOp b.eval o).run P w = r at *
  cases r with
  | ok n w' =>
    cases n with
    | value v => exact hK _ _ h
    | skip => exact hK _ _ h
    | defer d => exact hdf _ _ h
    | enter f args =>
      refine Calls.mono h ?_
      intro e w'' he
      cases e with
      | returned v => exact hK _ _ he
      | panicked c => exact absurd he (hP _ _ _)
      | outgrown =>
        obtain ⟨a0, w0, hq⟩ := he
        exact absurd hq (hO _ _)
    | row r args => exact Rows.mono h fun v w'' he => hK _ _ he
    | _ => exact h.elim
  | halt x w' =>
    cases x with
    | panic u => exact absurd h (hP _ _ _)
    | _ => exact h.elim

theorem free_ok {p : Nat} {ops : Array Oper} {op : Oper} {dp : List Nat} (h : free p ops op dp = true) {i : Nat} {o : Oper} (hi : i ≠ p) (ho : ops[i]? = some o) (ha : ∀ e ∈ o.after, Region.binds .any e = true → e.on ≠ p) (hd : dp.contains i = false) :
    o.guard = none ∧ (∀ cs b, o.op ≠ .select cs b) ∧ o.dst ≠ op.dst ∧ (∀ x ∈ o.op.operands, ∀ u, x = .tmp u → op.dst ≠ some u) ∧ (∀ x ∈ op.op.operands, ∀ u, x = .tmp u → o.dst ≠ some u) := by
  have hlt := (Array.getElem?_eq_some_iff.1 ho).1
  have := List.all_eq_true.1 h i (List.mem_range.2 hlt)
  simp only [ho, Bool.or_eq_true, beq_iff_eq, hi, false_or, hd, Bool.false_eq_true, or_false] at this
  rcases this with h | h
  · obtain ⟨e, he, hb⟩ := Array.any_eq_true'.1 h
    simp only [Bool.and_eq_true, beq_iff_eq] at hb
    exact absurd hb.2 (ha e he hb.1)
  · simp only [Bool.and_eq_true, Option.isNone_iff_eq_none, Bool.not_eq_true', beq_eq_false_iff_ne, ne_eq] at h
    obtain ⟨⟨⟨⟨h1, h2⟩, h3⟩, h4⟩, h5⟩ := h
    refine ⟨h1, fun cs b e => (by rw [e] at h2; cases h2), h3, ?_, ?_⟩
    · rintro x hx u rfl
      have := List.all_eq_true.1 h4 (.tmp u) (by simpa using hx)
      simpa using this
    · rintro x hx u rfl
      have := List.all_eq_true.1 h5 (.tmp u) (by simpa using hx)
      simpa using this

theorem eval_put {a : Act} {t : Option Nat} {v : Value} {x : Operand} (h : ∀ u, x = .tmp u → t ≠ some u) : (a.put t v).eval x = a.eval x := by
  cases x with
  | tmp u =>
    cases t with
    | none => rfl
    | some t => exact put_get_ne a v (fun e => h u rfl (by rw [e]))
  | _ => rfl

/-- a pure operation that is ready may be run at once -/
theorem wpAny_now {p t : Nat} {op : Oper} {ops : Array Oper} {Q' : Exit → Act → World → Prop} {v : Value} (hP : ∀ c a w, ¬ Q' (.panic c) a w) (hO : ∀ a w, ¬ Q' .outgrown a w) (hop : ops[p]? = some op) (hg : op.guard = none) (hd : op.dst = some t) (hsp : ∀ cs b, op.op ≠ .select cs b)
    (hB : free p ops op ((depsOf ops.toList).getD p []) = true) : ∀ (fuel : Nat) (listed : Array Bool) (a : Act) (w : World), HeadInv .any ops ops.size listed → p ∈ Region.ready .any ops listed → (∀ w, (execOp a.eval op).run P w = .ok (.value v) w) →
      wpAny P .any ops Q' fuel (listed.setIfInBounds p true) (a.put (some t) v) w → wpAny P .any ops Q' (fuel + 1) listed a w := by
  intro fuel
  induction fuel with
  | zero =>
    intro listed a w inv hp hrun h
    refine ⟨fun h0 => by (rw [h0] at hp; cases hp), fun i hi => ?_⟩
    by_cases e : i = p
    · subst e
      refine wpOp_plain hop (by simp [Region.wanted, hg]) ?_
      unfold Oper.wp
      rw [hrun w, Oper.upon_value, hd]; exact h
    · exfalso
      obtain ⟨h1, o, h2, h3⟩ := mem_ready.1 hi
      have : i ∈ Region.ready .any ops (listed.setIfInBounds p true) := mem_ready.2 ⟨by rw [getD_set_ne true (Ne.symm e)]; exact h1, o, h2, fun e' he hb => getD_set_true (h3 e' he hb)⟩
      rw [h.1] at this; cases this
  | succ fuel ih =>
    intro listed a w inv hp hrun h
    refine ⟨fun h0 => by (rw [h0] at hp; cases hp), fun i hi => ?_⟩
    by_cases e : i = p
    · subst e
      refine wpOp_plain hop (by simp [Region.wanted, hg]) ?_
      unfold Oper.wp
      rw [hrun w, Oper.upon_value, hd]; exact h
    · obtain ⟨h1, o, h2, h3⟩ := mem_ready.1 hi
      have hpl : listed.getD p false = false := getD_both (mem_ready.1 hp).1
      have hi' : i ∈ Region.ready .any ops (listed.setIfInBounds p true) := mem_ready.2 ⟨by rw [getD_set_ne true (Ne.symm e)]; exact h1, o, h2, fun e' he hb => getD_set_true (h3 e' he hb)⟩
      have hk := h.2 i hi'
      obtain ⟨q1, q2, q3, q4, q5⟩ := free_ok hB e h2 (fun e' he hb hon => by (have := h3 e' he hb; rw [hon, hpl] at this; cases this)) (by
        cases hc : ((depsOf ops.toList).getD p []).contains i with
        | false => rfl
        | true => have := deps_listed inv.closed hp hc; rw [getD_both h1] at this; cases this)
      rw [hd] at q3 q4
      have hlt := (Array.getElem?_eq_some_iff.1 h2).1
      have inv' := inv.set hi hlt
      have hp' : p ∈ Region.ready .any ops (listed.setIfInBounds i true) := by
        obtain ⟨g1, o', g2, g3⟩ := mem_ready.1 hp
        exact mem_ready.2 ⟨by rw [getD_set_ne true e]; exact g1, o', g2, fun e' he hb => getD_set_true (g3 e' he hb)⟩
      have next : ∀ (b : Act) (w1 : World), (∀ x ∈ op.op.operands, b.eval x = a.eval x) → wpAny P .any ops Q' fuel ((listed.setIfInBounds p true).setIfInBounds i true) (b.put (some t) v) w1 → wpAny P .any ops Q' (fuel + 1) (listed.setIfInBounds i true) b w1 := by
        intro b w1 hb h5
        refine ih _ b w1 inv' hp' ?_ (by rw [set_comm]; exact h5)
        rw [execOp_congr op hsp hb]; exact hrun
      have hev : ∀ (b : Act) (u : Value), (∀ x ∈ op.op.operands, b.eval x = a.eval x) → ∀ x ∈ op.op.operands, (b.put o.dst u).eval x = a.eval x := fun b u hb x hx => by rw [eval_put (fun u' hu' => q5 x hx u' hu')]; exact hb x hx
      unfold wpOp at hk ⊢
      have hw : ∀ f, Region.wanted o f = true := fun f => by simp [Region.wanted, q1]
      simp only [h2, hw, if_true] at hk ⊢
      rcases hk with hk | ⟨_, a0, w0, hq⟩
      · refine .inl (wp_frame2 hP hO q2 (fun x hx => (eval_put (fun u hu => q4 x hx u hu)).symm) ?_ ?_ hk)
        · intro v1 w1 h5
          rw [put_comm a _ _ q3] at h5
          exact next _ w1 (hev a v1 (fun _ _ => rfl)) h5
        · intro d w1 h5
          rw [put_defer a _ _ d q3] at h5
          exact next _ w1 (hev { a with defers := d :: a.defers } undef (fun x _ => by cases x <;> rfl)) h5
      · exact absurd hq (hO _ _)

/-- a pure operation may be said to come ahead of y -/
theorem wpAny_early {p y : Nat} {ops : Array Oper} {Q' : Exit → Act → World → Prop} (hP : ∀ c a w, ¬ Q' (.panic c) a w) (hO : ∀ a w, ¬ Q' .outgrown a w) (hs : ∀ op, ops[p]? = some op → sureO P op.op = true → ∀ a : Act, Sure P op a.eval) (hB : earlyB P p y ops = true) : ∀ (fuel : Nat) (listed : Array Bool) (a : Act) (w : World), HeadInv .any ops ops.size listed → listed.getD p false = false →
    wpAny P .any (addE p y ops) Q' fuel listed a w → wpAny P .any ops Q' fuel listed a w := by
  unfold earlyB at hB
  cases hop : ops[p]? with
  | none => rw [hop] at hB; simp at hB
  | some op =>
    simp only [hop, Bool.and_eq_true, Bool.not_eq_true', beq_eq_false_iff_ne, ne_eq, Option.isNone_iff_eq_none] at hB
    obtain ⟨hpy, ⟨⟨⟨hsu, hg⟩, hds⟩, hfr⟩, haf⟩ := hB
    obtain ⟨t, hd⟩ := Option.isSome_iff_exists.1 hds
    have hsp : ∀ cs b, op.op ≠ .select cs b := by
      intro cs b e
      rw [e] at hsu; cases hsu
    have hplt := (Array.getElem?_eq_some_iff.1 hop).1
    -- where y is ready, p is ready
    have pready : ∀ listed : Array Bool, HeadInv .any ops ops.size listed → listed.getD p false = false → y ∈ Region.ready .any ops listed → p ∈ Region.ready .any ops listed := by
      intro listed inv hpl hy
      refine mem_ready.2 ⟨getD_in (by rw [inv.size]; exact hplt) hpl, op, hop, fun e he hb => ?_⟩
      have := Array.all_eq_true'.1 haf e he
      simp only [hb, Bool.not_true, Bool.false_or] at this
      exact deps_listed inv.closed hy this
    intro fuel
    induction fuel with
    | zero =>
      intro listed a w inv hpl h
      refine ⟨?_, h.2⟩
      rw [List.eq_nil_iff_forall_not_mem]
      intro i hi
      by_cases e : i = y
      · subst e
        have := ready_sup (x := p) (y := i) (pready listed inv hpl hi) (.inl hpy)
        rw [h.1] at this; cases this
      · have := ready_sup (x := p) (y := y) hi (.inl e)
        rw [h.1] at this; cases this
    | succ fuel ih =>
      intro listed a w inv hpl h
      refine ⟨fun h0 => h.1 (ready_none h0), fun i hi => ?_⟩
      have hlt : i < ops.size := by
        obtain ⟨_, o, ho, _⟩ := mem_ready.1 hi
        exact (Array.getElem?_eq_some_iff.1 ho).1
      have hset : (listed.setIfInBounds p true).getD p false = true := by
        have : p < listed.size := by rw [inv.size]; exact hplt
        simp [this]
      by_cases e : i = y
      · subst e
        have hp := pready listed inv hpl hi
        have h2 := wpOp_addE (h.2 p (ready_sup (x := p) (y := i) hp (.inl hpy)))
        unfold wpOp at h2
        have hw : ∀ f, Region.wanted op f = true := fun f => by simp [Region.wanted, hg]
        simp only [hop, hw, if_true] at h2
        rcases h2 with h2 | ⟨_, a0, w0, hq⟩
        · unfold Oper.wp at h2
          rcases hs op hop hsu a with ⟨v, hv⟩ | hv
          · rw [hv w, Oper.upon_value, hd] at h2
            exact (wpAny_now hP hO hop hg hd hsp hfr fuel listed a w inv hp hv (wpAny_done fuel _ _ w hset h2)).2 i hi
          · obtain ⟨x, w', hx⟩ := hv w
            rw [hx] at h2
            cases x with
            | panic u => exact absurd h2 (hP _ _ _)
            | _ => exact h2.elim
        · exact absurd hq (hO _ _)
      · have h2 := wpOp_addE (h.2 i (ready_sup (x := p) (y := y) hi (.inl e)))
        by_cases ep : i = p
        · subst ep
          exact wpOp_mono (fun a' w' h' => wpAny_done fuel _ a' w' hset h') h2
        · exact wpOp_mono (fun a' w' h' => ih _ a' w' (inv.set hi hlt) (by rw [getD_set_ne false ep]; exact hpl) h') h2

theorem AnyOk.early {p y : Nat} {ops : Array Oper} (hq : (∀ c st, ¬ Q (.panic c) st) ∧ ∀ st, ¬ Q .outgrown st) (hB : earlyB P p y ops = true) (h : AnyOk P Γ (addE p y ops) Q st) : AnyOk P Γ ops Q st := by
  intro κ Θ a w hs
  have k := h κ Θ a w hs
  rw [addE_size] at k
  exact wpAny_early (fun c a w ⟨_, _, _, _, h⟩ => hq.1 _ _ h) (fun a w ⟨_, _, _, _, h⟩ => hq.2 _ h) (fun op _ h a => sure_ok h a) hB ops.size (Array.replicate ops.size false) a w
    ⟨by simp, fun j oj hj hl => by (rw [getD_replicate_false] at hl; cases hl), fun t h1 h2 => absurd h2 (by omega)⟩ (getD_replicate_false _ _) k
theorem KQ_bad {N : Nat → St → Prop} (hq : (∀ c st, ¬ Q (.panic c) st) ∧ ∀ st, ¬ Q .outgrown st) : ∀ (K : List Fr), (∀ c st, ¬ KQ P Γ N Q K (.panic c) st) ∧ ∀ st, ¬ KQ P Γ N Q K .outgrown st
  | [] => hq
  | .sq y :: K => KQ_bad hq K
  | .bl id :: K => KQ_bad hq K
  | .lp :: K => KQ_bad hq K
theorem Kd.noBad (kd : Kd) (fn : Func) : (∀ c st, ¬ kd.qq P fn (.panic c) st) ∧ ∀ st, ¬ kd.qq P fn .outgrown st := by
  cases kd <;> refine ⟨fun c st h => ?_, fun st h => ?_⟩ <;> (obtain ⟨h, _⟩ := h; rcases h with h | h <;> cases h)

/-- the walk of a drawn region and of what comes after it, told of all orders -/
theorem go_any {N : Nat → St → Prop} {fn : Func} {kd : Kd} {nt n id : Nat} {ops : Array Oper} {K : List Fr} {A : List An} (s : Stop) {p : Owe} (hnt : Γ.nt = nt) (hm : P.follows .mixedOrders = true)
    (h : go P (kd.rf P fn) nt (n + 1) (.run (.region id ops true)) K st A = some (s, p)) (hA : ∃ π ρ k m L X A1, A = .n2 π ρ k m L X :: A1) (hp : AllP p) (hs : StopOk P Γ N (kd.qq P fn) kd.d0 s) : AnyOk P Γ ops (KQ P Γ N (kd.qq P fn) K) st := by
  obtain ⟨π, ρ, k, m, L, X, A1, rfl⟩ := hA
  · simp only [go] at h
    split at h
    · rename_i ops' hB1
      generalize hops : permOps ops π ρ = ops' at h
      split at h
      · rename_i hB
        split at h
        · rename_i σ1 acc A2 p1 h1
          split at h
          · rename_i st1 A3 p2 hst hmid
            split at h
            · rename_i st2 A4 p3 h2
              obtain ⟨q, h3, rfl⟩ := withP_some h
              have hq := hp.app.1.app
              have hq2 := hq.2.app
              have h4 := opsRun_sound (Q := KQ P Γ N (kd.qq P fn) K) hnt h2 hq2.2 (go_sound (Q := kd.qq P fn) (N := N) (K := K) (d0 := kd.d0) (cfg := .nor) (fun _ _ he h => kd.ok he h) hnt hm h3 hp.app.2 hs)
              have h6 := midRun_sound (Γ := Γ) (K := fun st' => AO P Γ ops'.toArray (ops'.drop m) (KQ P Γ N (kd.qq P fn) K) st') hnt hmid hq2.1 h4
              have h5 := calmRun_sound (Γ := Γ) (K := fun σ acc => (∀ i ∈ L, ∀ o, ops'[i]? = some o → stillOp X ⟨σ, st.H⟩ o.op = true) ∧ AMid P Γ X (fun st' => AO P Γ ops'.toArray (ops'.drop m) (KQ P Γ N (kd.qq P fn) K) st') ((ops'.drop k).take (m - k)) ⟨σ, st.H ++ acc⟩) hnt h1 hq.1 ⟨stillL_ok hst, h6⟩
              have hr := any_draw2 (l := ops') (Q := KQ P Γ N (kd.qq P fn) K) (st := st) k m L hB h5
              rw [← hops] at hr
              exact hr.perm hB1
            · cases h
          · cases h
        · cases h
      · cases h
    · cases h
def opsAt : Code → Array Oper
  | .region _ ops _ => ops
  | .seq (.region _ ops _) _ => ops
  | _ => #[]
def drawAt : Code → Bool
  | .region _ _ dr => dr
  | .seq (.region _ _ dr) _ => dr
  | _ => false
def frAt (c : Code) (K : List Fr) : List Fr := match c with
  | .seq (.region _ _ _) y => .sq y :: K
  | _ => K
/-- operations i and j of the drawn region that comes next may come in either order -/
theorem AW_or {N : Nat → St → Prop} {Q : Exit → St → Prop} {c : Code} {K : List Fr} (hm : P.follows .mixedOrders = true) (i j : Nat) (hd : drawAt c = true) (hB : orB i j (opsAt c) = true) (h1 : AnyOk P Γ (addE i j (opsAt c)) (KQ P Γ N Q (frAt c K)) st) (h2 : AnyOk P Γ (addE j i (opsAt c)) (KQ P Γ N Q (frAt c K)) st) : AW P Γ c (KQ P Γ N Q K) st := by
  have h := AnyOk.or hB h1 h2
  unfold drawAt at hd
  split at hd
  · subst hd; exact h.aw hm
  · subst hd; exact AW_seq (h.aw hm)
  · cases hd
/-- operation p of the drawn region that comes next is pure and may be said to come ahead of y -/
theorem AW_pre {N : Nat → St → Prop} {Q : Exit → St → Prop} {c : Code} {K : List Fr} (hm : P.follows .mixedOrders = true) (hq : (∀ c st, ¬ Q (.panic c) st) ∧ ∀ st, ¬ Q .outgrown st) (p y : Nat) (hd : drawAt c = true) (hB : earlyB P p y (opsAt c) = true) (h1 : AnyOk P Γ (addE p y (opsAt c)) (KQ P Γ N Q (frAt c K)) st) : AW P Γ c (KQ P Γ N Q K) st := by
  have h := AnyOk.early (KQ_bad hq _) hB h1
  unfold drawAt at hd
  split at hd
  · subst hd; exact h.aw hm
  · subst hd; exact AW_seq (h.aw hm)
  · cases hd
end
end Go.Cx
