/- The rules of the abstract walk in the form in which a proof's text uses them: the state is written out, what is computed stands as an equation of its own. No condition; plain lemmas. -/
import Derived.Test.YtnagcfnebfhnhaaDraw
namespace Go.Bx
open Go.RowKit

section
variable {P : Program} {Γ : Ctx} {Q : Exit → St → Prop} {st : St} {n : St → Prop} {all : Array Oper} {rest : List Oper} {o : Oper} {σ : List (Nat × D)} {H H' : List Ob} {t : Nat} {d : D}
theorem thenQ_normal (h : n st) : thenQ n Q .normal st := h
theorem thenQ_exit {i : Nat} (h : Q (.exit i) st) : thenQ n Q (.exit i) st := h
theorem thenQ_ret (h : Q .ret st) : thenQ n Q .ret st := h
theorem blockQ_normal {i : Nat} (h : Q .normal st) : blockQ i Q .normal st := h
theorem blockQ_ret {i : Nat} (h : Q .ret st) : blockQ i Q .ret st := h
theorem blockQ_exit {i : Nat} (h : Q .normal st) : blockQ i Q (.exit i) st := by simp [blockQ, h]
theorem blockQ_pass {i j : Nat} (hne : (j == i) = false) (h : Q (.exit j) st) : blockQ i Q (.exit j) st := by
  have : ¬ j = i := by simpa using hne
  simp [blockQ, this, h]

theorem RetQ_ret {fn : Func} {ds : List D} (h1 : resDs P st fn.results.toList = some ds) (h2 : ds.all D.pureV = true) (h3 : packD ds = d) : RetQ P fn d .ret st := ⟨.inl rfl, st, .refl _, ds, h1, h2, h3⟩
theorem RetQ_normal {fn : Func} {ds : List D} (h1 : resDs P st fn.results.toList = some ds) (h2 : ds.all D.pureV = true) (h3 : packD ds = d) : RetQ P fn d .normal st := ⟨.inr rfl, st, .refl _, ds, h1, h2, h3⟩

theorem RetQ_frz {fn : Func} {e : Exit} (id : Nat) {el sz : Nat} {deep : Bool} {rows : List (List D)} {st' : St} (hH : H[id]? = some (.row deep el sz rows)) (hst : St.freeze ⟨σ, H⟩ id rows = st') (h : RetQ P fn d e st') : RetQ P fn d e ⟨σ, H⟩ := by
  subst hst
  obtain ⟨h1, s, h2, h3⟩ := h
  exact ⟨h1, s, .frz id hH h2, h3⟩
theorem RetQ_slot {fn : Func} {e : Exit} (u : Nat) {x : D} (hx : (lk σ u).softV = x) (h : RetQ P fn d e ⟨(u, x) :: σ, H⟩) : RetQ P fn d e ⟨σ, H⟩ := by
  subst hx
  obtain ⟨h1, s, h2, h3⟩ := h
  exact ⟨h1, s, .slot u h2, h3⟩
theorem RetQ_box {fn : Func} {e : Exit} (id : Nat) {cells : List D} (hH : H[id]? = some (.box cells)) (hst : H.set id (.box (cells.map D.softC)) = H') (h : RetQ P fn d e ⟨σ, H'⟩) : RetQ P fn d e ⟨σ, H⟩ := by
  subst hst
  obtain ⟨h1, s, h2, h3⟩ := h
  exact ⟨h1, s, .box id hH h2, h3⟩

theorem R_pv (hd : o.dst = some t) (hg : o.guard = none) (ht : t < Γ.nt) (hv : pv P ⟨σ, H⟩ o.op = some d) (h : AO P Γ all rest Q ⟨(t, d) :: σ, H⟩) : AO P Γ all (o :: rest) Q ⟨σ, H⟩ := AO_pv hd hg ht hv h

theorem R_call {f : Nat} {xs : Array Operand} {ts : Array TypeId} {ds : List D} (hop : o.op = .call { callee := .value (.func f), args := xs, argTypes := ts }) (hd : o.dst = some t) (hg : o.guard = none)
    (ht : t < Γ.nt) (hds : xs.toList.map (St.ev ⟨σ, H⟩) = ds) (hp : ds.all D.pureV = true) (hgood : Good P f ds d) (hps : d.pureS = true) (h : AO P Γ all rest Q ⟨(t, d) :: σ, H⟩) : AO P Γ all (o :: rest) Q ⟨σ, H⟩ :=
  AO_call hop hd hg ht hds hp hgood hps h

theorem R_yes {j s : Nat} {want : Bool} (hg : o.guard = some (j, want)) (hj : (all[j]?).bind (·.dst) = some s) (hb : lk σ s = .bool want) (h : AO P Γ all ({ o with guard := none } :: rest) Q ⟨σ, H⟩) : AO P Γ all (o :: rest) Q ⟨σ, H⟩ := by
  intro κ Θ a w hs
  have hy := hs.yields hj hb
  have := h κ Θ a w hs
  unfold wpList at this ⊢
  have hw : Region.wanted o (yielded all a.tmps) = true := by simp [Region.wanted, hg, hy]
  have hw' : Region.wanted { o with guard := none } (yielded all a.tmps) = true := rfl
  rw [if_pos hw]
  rw [if_pos hw'] at this
  exact this

theorem R_no {j s : Nat} {want b : Bool} (hg : o.guard = some (j, want)) (hj : (all[j]?).bind (·.dst) = some s) (hd : o.dst = some t) (ht : t < Γ.nt) (hb : lk σ s = .bool b) (hne : (b == want) = false) (h : AO P Γ all rest Q ⟨(t, .any) :: σ, H⟩) : AO P Γ all (o :: rest) Q ⟨σ, H⟩ := by
  intro κ Θ a w hs
  have hy := hs.yields hj hb
  have hne' : b ≠ want := by simpa using hne
  have hw : Region.wanted o (yielded all a.tmps) = false := by simp [Region.wanted, hg, hy, hne']
  unfold wpList
  rw [hw, if_neg (by simp), hd]
  exact h κ Θ _ w (hs.set ht (.of (.any _)) (by simp))

theorem R_box {T m : Nat} {x : Operand} {ds : List D} (hop : o.op = .box T x) (hd : o.dst = some t) (hg : o.guard = none) (ht : t < Γ.nt)
    (hc : (St.ev ⟨σ, H⟩ x).cellsOf = some ds) (hm : H.length = m) (hH : H ++ [.box ds] = H') (h : AO P Γ all rest Q ⟨(t, .ptr m 0) :: σ, H'⟩) : AO P Γ all (o :: rest) Q ⟨σ, H⟩ := by
  subst hm; subst hH; exact AO_box hop hd hg ht hc h

theorem R_alloc {T m : Nat} {zs : List D} (hop : o.op = .alloc T) (hd : o.dst = some t) (hg : o.guard = none) (ht : t < Γ.nt)
    (hz : tz P T = some zs) (hm : H.length = m) (hH : H ++ [.box zs] = H') (h : AO P Γ all rest Q ⟨(t, .ptr m 0) :: σ, H'⟩) : AO P Γ all (o :: rest) Q ⟨σ, H⟩ := by
  subst hm; subst hH; exact AO_alloc hop hd hg ht hz h

theorem R_store {T id off k : Nat} {x y : Operand} {cells ds cells' : List D} (hop : o.op = .store T x y) (hd : o.dst = none) (hg : o.guard = none)
    (hx : St.ev ⟨σ, H⟩ x = .ptr id off) (hH : H[id]? = some (.box cells)) (hc : (St.ev ⟨σ, H⟩ y).cellsOf = some ds) (hT : tinf P T = true) (hk : tsz P T = k) (hl : ds.length = k) (hfit : off + k ≤ cells.length)
    (hcells : cells.take off ++ ds ++ cells.drop (off + k) = cells') (hset : H.set id (.box cells') = H')
    (h : AO P Γ all rest Q ⟨σ, H'⟩) : AO P Γ all (o :: rest) Q ⟨σ, H⟩ := by
  subst hset; subst hcells; subst hk
  refine AO_store hop hd hg hx hH hc hT hl (by omega) ?_
  rw [hl]; exact h

/-- what an operation that makes or writes a box leaves: the next state -/
def peff (P : Program) (k : Nat) (o : Oper) (st : St) : Option St :=
  match o.op, o.dst with
  | .box _ x, some t => if t < k then match (st.ev x).cellsOf with | some ds => some ⟨(t, .ptr st.H.length 0) :: st.σ, st.H ++ [.box ds]⟩ | none => none else none
  | .alloc T, some t => if t < k then match tz P T with | some ds => some ⟨(t, .ptr st.H.length 0) :: st.σ, st.H ++ [.box ds]⟩ | none => none else none
  | .store T x y, none => match st.ev x with
    | .ptr id off => match st.H[id]?, (st.ev y).cellsOf with
      | some (.box cells), some ds => if tinf P T = true then if ds.length = tsz P T then if off + tsz P T ≤ cells.length then some ⟨st.σ, st.H.set id (.box (cells.take off ++ ds ++ cells.drop (off + tsz P T)))⟩ else none else none else none
      | _, _ => none
    | _ => none
  | _, _ => none

theorem R_eff {k : Nat} {st' : St} (hk : Γ.nt = k) (hg : o.guard = none) (hp : peff P k o ⟨σ, H⟩ = some st') (h : AO P Γ all rest Q st') : AO P Γ all (o :: rest) Q ⟨σ, H⟩ := by
  unfold peff at hp
  split at hp
  · split at hp
    · split at hp
      · cases hp; exact R_box (by assumption) (by assumption) hg (by rw [hk]; assumption) (by assumption) rfl rfl h
      · cases hp
    · cases hp
  · split at hp
    · split at hp
      · cases hp; exact R_alloc (by assumption) (by assumption) hg (by rw [hk]; assumption) (by assumption) rfl rfl h
      · cases hp
    · cases hp
  · split at hp
    · split at hp
      · split at hp
        · split at hp
          · split at hp
            · cases hp; exact R_store (by assumption) (by assumption) hg (by assumption) (by assumption) (by assumption) (by assumption) rfl (by assumption) (by assumption) rfl rfl h
            · cases hp
          · cases hp
        · cases hp
      · cases hp
    · cases hp
  · cases hp

theorem R_make {T e sz m : Nat} {x y : Operand} {k k' : IntKind} {c : Int} {zs : List D} (hop : o.op = .makeSlice T x y) (hd : o.dst = some t) (hg : o.guard = none) (ht : t < Γ.nt)
    (hT : tel P T = some (e, sz)) (hz : tz P e = some zs) (hsz : 0 < sz) (hx : St.ev ⟨σ, H⟩ x = .int k c) (hy : St.ev ⟨σ, H⟩ y = .int k' c) (h0 : 0 ≤ c) (hroom : tby P e * c.toNat ≤ 281474976710656) (hmax : c.toNat ≤ 4611686018427387904)
    (hm : H.length = m) (hH : H ++ [.row false e sz (List.replicate c.toNat zs)] = H')
    (h : AO P Γ all rest Q ⟨(t, .acc m) :: σ, H'⟩) : AO P Γ all (o :: rest) Q ⟨σ, H⟩ := by
  subst hm; subst hH; exact AO_makeSlice hop hd hg ht hT hz hsz hx hy h0 hroom hmax h

theorem R_storeRow {T id i sz off e k : Nat} {x y : Operand} {rows : List (List D)} {row ds row' : List D} (hop : o.op = .store T x y) (hd : o.dst = none) (hg : o.guard = none)
    (hx : St.ev ⟨σ, H⟩ x = .op id i sz off) (hH : H[id]? = some (.row false e sz rows)) (hrow : rows[i]? = some row) (hc : (St.ev ⟨σ, H⟩ y).cellsOf = some ds) (hp : ds.all D.isP = true) (hT : tinf P T = true) (hk : tsz P T = k) (hl : ds.length = k)
    (hfit : off + k ≤ sz) (hrow' : row.take off ++ ds ++ row.drop (off + k) = row') (hset : H.set id (.row false e sz (rows.set i row')) = H')
    (h : AO P Γ all rest Q ⟨σ, H'⟩) : AO P Γ all (o :: rest) Q ⟨σ, H⟩ := by
  subst hset; subst hrow'; subst hk
  refine AO_storeRow hop hd hg hx hH hrow hc hp hT hl (by omega) ?_
  rw [hl]; exact h

theorem R_freeze {ops : List Oper} (id : Nat) {e sz : Nat} {deep : Bool} {rows : List (List D)} {st' : St} (hH : H[id]? = some (.row deep e sz rows)) (hst : St.freeze ⟨σ, H⟩ id rows = st') (h : AO P Γ all ops Q st') : AO P Γ all ops Q ⟨σ, H⟩ := by
  subst hst; exact AO_freeze id hH h
theorem W_freeze {c : Code} (id : Nat) {e sz : Nat} {deep : Bool} {rows : List (List D)} {st' : St} (hH : H[id]? = some (.row deep e sz rows)) (hst : St.freeze ⟨σ, H⟩ id rows = st') (h : AW P Γ c Q st') : AW P Γ c Q ⟨σ, H⟩ := by
  subst hst; exact AW_freeze id hH h
theorem W_trim {c : Code} (keep : List Nat) (n : Nat) {st' : St} (hf : st.fits keep n = true) (ht : st.trim keep n = st') (h : AW P Γ c Q st') : AW P Γ c Q st := by
  subst ht; exact AW_trim keep n hf h

theorem W_cond {c : Operand} {x y : Code} {b : Bool} (hc : St.ev ⟨σ, H⟩ c = .bool b) (ht : b = true → AW P Γ x Q ⟨σ, H⟩) (hf : b = false → AW P Γ y Q ⟨σ, H⟩) : AW P Γ (.cond c x y) Q ⟨σ, H⟩ := AW_cond hc ht hf
theorem W_true {c : Operand} {x y : Code} (hc : St.ev ⟨σ, H⟩ c = .bool true) (h : AW P Γ x Q ⟨σ, H⟩) : AW P Γ (.cond c x y) Q ⟨σ, H⟩ := AW_cond hc (fun _ => h) (fun h => by cases h)
theorem W_false {c : Operand} {x y : Code} (hc : St.ev ⟨σ, H⟩ c = .bool false) (h : AW P Γ y Q ⟨σ, H⟩) : AW P Γ (.cond c x y) Q ⟨σ, H⟩ := AW_cond hc (fun h => by cases h) (fun _ => h)

theorem C_nil {K : St → Prop} (h : K ⟨σ, H⟩) : ACalm P Γ all K [] ⟨σ, H⟩ := h
theorem C_pv {K : St → Prop} (hd : o.dst = some t) (hg : o.guard = none) (ht : t < Γ.nt) (hv : pv P ⟨σ, H⟩ o.op = some d) (h : ACalm P Γ all K rest ⟨(t, d) :: σ, H⟩) : ACalm P Γ all K (o :: rest) ⟨σ, H⟩ :=
  ⟨t, d, ⟨hd, ht, .inl ⟨hg, .inl hv⟩⟩, h⟩
theorem C_call {K : St → Prop} {f : Nat} {xs : Array Operand} {ts : Array TypeId} {ds : List D} (hop : o.op = .call { callee := .value (.func f), args := xs, argTypes := ts }) (hd : o.dst = some t) (hg : o.guard = none)
    (ht : t < Γ.nt) (hds : xs.toList.map (St.ev ⟨σ, H⟩) = ds) (hp : ds.all D.pureV = true) (hgood : Good P f ds d) (hps : d.pureS = true) (h : ACalm P Γ all K rest ⟨(t, d) :: σ, H⟩) : ACalm P Γ all K (o :: rest) ⟨σ, H⟩ := by
  subst hds
  exact ⟨t, d, ⟨hd, ht, .inl ⟨hg, .inr ⟨f, xs, ts, hop, hp, hgood, hps⟩⟩⟩, h⟩
theorem C_yes_pv {K : St → Prop} {j s : Nat} {want : Bool} (hd : o.dst = some t) (hg : o.guard = some (j, want)) (hj : (all[j]?).bind (·.dst) = some s) (hb : lk σ s = .bool want) (ht : t < Γ.nt) (hv : pv P ⟨σ, H⟩ o.op = some d) (h : ACalm P Γ all K rest ⟨(t, d) :: σ, H⟩) : ACalm P Γ all K (o :: rest) ⟨σ, H⟩ :=
  ⟨t, d, ⟨hd, ht, .inr ⟨j, s, want, want, hg, hj, hb, .inl ⟨rfl, .inl hv⟩⟩⟩, h⟩
theorem C_yes_call {K : St → Prop} {j s : Nat} {want : Bool} {f : Nat} {xs : Array Operand} {ts : Array TypeId} {ds : List D} (hop : o.op = .call { callee := .value (.func f), args := xs, argTypes := ts }) (hd : o.dst = some t) (hg : o.guard = some (j, want)) (hj : (all[j]?).bind (·.dst) = some s) (hb : lk σ s = .bool want)
    (ht : t < Γ.nt) (hds : xs.toList.map (St.ev ⟨σ, H⟩) = ds) (hp : ds.all D.pureV = true) (hgood : Good P f ds d) (hps : d.pureS = true) (h : ACalm P Γ all K rest ⟨(t, d) :: σ, H⟩) : ACalm P Γ all K (o :: rest) ⟨σ, H⟩ := by
  subst hds
  exact ⟨t, d, ⟨hd, ht, .inr ⟨j, s, want, want, hg, hj, hb, .inl ⟨rfl, .inr ⟨f, xs, ts, hop, hp, hgood, hps⟩⟩⟩⟩, h⟩
theorem C_yes {K : St → Prop} {j s : Nat} {want : Bool} (hg : o.guard = some (j, want)) (hj : (all[j]?).bind (·.dst) = some s) (hb : lk σ s = .bool want) (h : ACalm P Γ all K ({ o with guard := none } :: rest) ⟨σ, H⟩) : ACalm P Γ all K (o :: rest) ⟨σ, H⟩ := by
  obtain ⟨t, d, ⟨hd, ht, hc⟩, hr⟩ := h
  refine ⟨t, d, ⟨hd, ht, ?_⟩, hr⟩
  rcases hc with ⟨_, hc⟩ | ⟨j', s', want', b', hg', _⟩
  · refine .inr ⟨j, s, want, want, hg, hj, hb, .inl ⟨rfl, ?_⟩⟩
    rcases hc with hc | hc
    · exact .inl hc
    · exact .inr hc
  · cases hg'
theorem C_no {K : St → Prop} {j s : Nat} {want b : Bool} (hd : o.dst = some t) (hg : o.guard = some (j, want)) (hj : (all[j]?).bind (·.dst) = some s) (hb : lk σ s = .bool b) (hne : (b == want) = false) (ht : t < Γ.nt) (h : ACalm P Γ all K rest ⟨(t, .any) :: σ, H⟩) : ACalm P Γ all K (o :: rest) ⟨σ, H⟩ :=
  ⟨t, .any, ⟨hd, ht, .inr ⟨j, s, want, b, hg, hj, hb, .inr ⟨by simpa using hne, rfl⟩⟩⟩, h⟩

theorem W_draw {id : Nat} {l l1 l2 : List Oper} (n : Nat) (hm : P.follows .mixedOrders = true) (hB : drawB l.toArray n = true) (h1 : l.take n = l1) (h2 : l.drop n = l2)
    (h : ACalm P Γ l.toArray (AO P Γ l.toArray l2 Q) l1 st) : AW P Γ (.region id l.toArray true) Q st := by
  subst h1; subst h2; exact AW_draw n hm hB h

/-- a loop whose state at the head is written out -/
theorem W_for {c : Code} (keep : List Nat) (m : Nat) (S : Nat → St) (I : Nat → Prop) (n : Nat) (hf0 : st.fits keep m = true) (h0 : st.trim keep m = S 0) (hI : I 0)
    (round : ∀ k, k ≤ n → I k → AW P Γ c (thenQ (fun st' => k < n ∧ st'.fits keep m = true ∧ st'.trim keep m = S (k + 1) ∧ I (k + 1)) Q) (S k)) : AW P Γ (.loop c) Q st := AW_for keep m S I n hf0 h0 hI round
end
end Go.Bx
