/- append onto a slice of the call's own, and stores into its rows, as rules of the abstract walk. No condition; plain lemmas. -/
import Derived.Test.YtoeenpcilfhjbaaNOps
namespace Go.Cx
set_option linter.unusedVariables false
set_option linter.unusedSimpArgs false
open Go.RowKit

section
variable {P : Program} {Γ : Ctx} {Q : Exit → St → Prop} {st : St} {κ : Nat → Option Value} {Θ : Nat → Nat} {a : Act} {w : World} {all : Array Oper} {rest : List Oper}

theorem run_append_none (w : World) (t ty e : TypeId) (i : TypeInfo) (ht : P.underlying t = some (.slice e)) (hi : P.info? e = some i) (b : Option Addr) (n cap : Nat) (hn : n ≤ cap) :
    (Builtin.append_ #[t, t] ty #[.slice b n cap, .slice none 0 0]).run P w = .ok (.slice b n cap) w := by
  cases b <;> simp [Builtin.append_, run_underlying ht, sizeOf, typeInfo, hi, Builtin.lenOf, Builtin.firstCells, hn, storeCells]

/-- what append takes over: 'v' is nil or a slice of the call's own, 'u' is what is appended -/
structure AppS (w : World) (Θ ρ : Nat → Nat) (e sz : Nat) (v : Value) (rows : List (List D)) (u1 : Bool) (i1 : Nat) (bs : List Nat) (cs : List Value) : Prop where
  rl : ∀ r ∈ rows, r.length = sz
  own : w.ownsRow 0 e sz v rows.length cs
  rd : Rds w cs rows.flatten bs
  zero : ∀ b ∈ bs, Θ b = 0
  top : ∀ g, v.ownBlock = some g → Θ g = i1 + 2
  uq : u1 = true → bs.Nodup ∧ ∀ b ∈ bs, ρ b = i1 + 1
  ful : u1 = true → RdF w (fcol e) 0 cs rows.flatten bs

structure AppX (w : World) (Θ ρ : Nat → Nat) (e sz : Nat) (u : Value) (rows : List (List D)) (u2 : Bool) (i2 : Nat) (bs : List Nat) (cs : List Value) : Prop where
  rl : ∀ r ∈ rows, r.length = sz
  at_ : (u = .slice none 0 0 ∧ rows = []) ∨ ∃ ad c, u = .slice (some ad) rows.length c ∧ ∀ j x, cs[j]? = some x → w.cell? (ad.add j) = some x
  rd : Rds w cs rows.flatten bs
  zero : ∀ b ∈ bs, Θ b = 0
  uq : u2 = true → bs.Nodup ∧ ∀ b ∈ bs, ρ b = i2 + 1
  ful : u2 = true → RdF w (fcol e) 0 cs rows.flatten bs

theorem append_run {T e sz i1 i2 : Nat} {v u : Value} {rows rows2 : List (List D)} {u1 u2 : Bool} {b1 b2 : List Nat} {c1 c2 : List Value} {ρ : Nat → Nat} {zs : List D} {ty : TypeId} (hT : tel P T = some (e, sz)) (hz : tz P e = some zs) (hsz : 0 < sz)
    (hS : AppS w Θ ρ e sz v rows u1 i1 b1 c1) (hX : AppX w Θ ρ e sz u rows2 u2 i2 b2 c2) (h63 : rows.length + rows2.length ≤ maxLen) (hby : (rows.length + rows2.length) * tby P e ≤ 140737488355328) :
    ∃ v' w', (Builtin.append_ #[T, T] ty #[v, u]).run P w = .ok v' w' ∧ w'.ownsRow 0 e sz v' (rows ++ rows2).length (c1 ++ c2) ∧ w.grownBy w' v.ownBlock ∧ (v'.ownBlock = v.ownBlock ∨ v'.ownBlock = some w.heap.size) ∧
      Rds w (c1 ++ c2) (rows ++ rows2).flatten (b1 ++ b2) := by
  obtain ⟨hu, _, htsz⟩ := tel_parts hT
  obtain ⟨i, z, hi, hz0, hzsz, hlen, hone, rfl⟩ := zero_cells hz
  have hisz : i.size = sz := by rw [← htsz]; simp [tsz, Program.cellsOf, hi]
  have hib : i.bytes = tby P e := by simp [tby, Program.bytesOf, hi]
  have hr : Rds w (c1 ++ c2) (rows ++ rows2).flatten (b1 ++ b2) := by rw [List.flatten_append]; exact hS.rd.app hX.rd
  have hc2 : c2.length = rows2.length * sz := by rw [hX.rd.length, flatten_len hX.rl]
  rcases hX.at_ with ⟨rfl, rfl⟩ | ⟨ad, c, rfl, hcell⟩
  · have hc : c2 = [] := List.eq_nil_of_length_eq_zero (by simpa using hc2)
    subst hc
    have hv : ∃ b n cap, v = .slice b n cap ∧ n ≤ cap := by
      rcases hS.own.2 with ⟨rfl, _⟩ | ⟨g, cap, cur, rfl, _, _, hn, _⟩
      · exact ⟨_, _, _, rfl, Nat.le_refl _⟩
      · exact ⟨_, _, _, rfl, hn⟩
    obtain ⟨b, n, cap, rfl, hn⟩ := hv
    exact ⟨_, w, run_append_none w T ty e i hu hi b n cap hn, by simpa using hS.own, ⟨rfl, rfl, rfl, Nat.le_refl _, fun _ _ _ => rfl⟩, .inl rfl, hr⟩
  · obtain ⟨v', w', q1, q2, q3, _, q5⟩ := run_append_own_at (P := P) w 0 T ty e i z sz (tby P e) hu hi hz0 hisz hib (by rw [hzsz, hisz]) hsz v rows.length c1 hS.own ad rows2.length c c2 hc2 hcell hX.rd.one h63 hby (Nat.zero_le _)
    exact ⟨v', w', q1, by simpa using q2, q3, q5, hr⟩

/-- append onto object i1 (or onto nil: then i1 is the new object's number) -/
theorem AO_append {o : Oper} {T e sz t : Nat} {s x : Operand} {rows rows2 : List (List D)} {zs : List D} {u : Bool} {ks : List Nat} (hop : o.op = .call { callee := .builtin .append, args := #[s, x], argTypes := #[T, T] })
    (hd : o.dst = some t) (hg : o.guard = none) (ht : t < Γ.nt) (hT : tel P T = some (e, sz)) (hz : tz P e = some zs) (hsz : 0 < sz)
    (h63 : rows.length + rows2.length ≤ maxLen) (hby : (rows.length + rows2.length) * tby P e ≤ 140737488355328)
    (hin : ∀ κ Θ a w ρ, Sim Γ st κ Θ a w → Uniq Γ st.H κ Θ w ρ → ∃ u1 u2 i1 i2 b1 b2 c1 c2, AppS w Θ ρ e sz (a.eval s) rows u1 i1 b1 c1 ∧ AppX w Θ ρ e sz (a.eval x) rows2 u2 i2 b2 c2 ∧
      (i1 ∈ ks ∨ i1 = st.H.length) ∧ (u = true → u1 = true ∧ u2 = true ∧ (b2 = [] ∨ (i2 ∈ ks ∧ i1 ≠ i2)) ∧ fok e sz = true))
    (h : AO P Γ all rest Q ⟨(t, .acc st.H.length) :: st.σ, kill st.H ks ++ [.row (rkOf u) e sz (rows ++ rows2)]⟩) : AO P Γ all (o :: rest) Q st := by
  intro κ Θ a w hs
  obtain ⟨ρ, hu⟩ := hs.uniq
  obtain ⟨u1, u2, i1, i2, b1, b2, c1, c2, hS, hX, hi1, hq⟩ := hin κ Θ a w ρ hs hu
  obtain ⟨v', w', hrun, hown, hgr, hat, hrd⟩ := append_run (P := P) (ty := o.type) hT hz hsz hS hX h63 hby
  refine wpList_plain hg fun K hK => ?_
  have hrun' : (execOp a.eval o).run P w = .ok (.value v') w' := by
    simp only [execOp, hop, resolve, invoke, builtin, Sem.run_bind, Sem.run_pure, Result.andThen_ok, List.map_toArray, List.map_cons, List.map_nil, hrun]
  unfold Oper.wp
  rw [hrun', Oper.upon_value, hd]
  let id := st.H.length
  let Θ' : Nat → Nat := fun b => if some b = v'.ownBlock then id + 2 else Θ b
  have hvt : ∀ g, v'.ownBlock = some g → Θ g = i1 + 2 ∨ g = w.heap.size := by
    intro g hgv
    rcases hat with h | h
    · exact .inl (hS.top g (h ▸ hgv))
    · rw [h] at hgv; cases hgv; exact .inr rfl
  have hnew : Θ w.heap.size = 0 := by
    cases h0 : Θ w.heap.size with
    | zero => rfl
    | succ n => exact absurd (hs.own w.heap.size (by omega)) (by omega)
  have k : Keeps w w' Θ Θ' (i1 + 2) := by
    refine ⟨by omega, hgr.os, hgr.tape, hgr.output, hgr.size, fun b hb hne => hgr.block b hb (fun e => hne (hS.top b e.symm)), fun b hb hne => ?_, fun b hb => ?_⟩
    · simp only [Θ']
      rw [if_neg]
      intro e
      rcases hvt b e.symm with h | h
      · exact hne h
      · omega
    · simp only [Θ'] at hb
      split at hb
      · rename_i e; exact (hown.lt b e.symm).2
      · exact Nat.lt_of_lt_of_le (hs.own b hb) hgr.size
  have hm : ∀ b, 2 ≤ Θ' b → Mine Γ b := by
    intro b hb
    simp only [Θ'] at hb
    split at hb
    · rename_i e
      rcases hvt b e.symm with h | h
      · exact hs.mine b (by omega)
      · exact .inl (by rw [h]; exact hs.base)
    · exact hs.mine b hb
  have hn := upd_old (hs.kout id (Nat.le_refl _)) (some v')
  have hv1 : v'.oneCell' = true := by
    rcases hown.2 with ⟨rfl, _⟩ | ⟨g, cap, cur, rfl, _⟩ <;> rfl
  have hz0 : ∀ b ∈ b1 ++ b2, Θ b = 0 := by
    intro b hb
    rcases List.mem_append.1 hb with hb | hb
    · exact hS.zero b hb
    · exact hX.zero b hb
  obtain ⟨hrd', hz'⟩ := Rds.over k hrd hz0
  have hrl : ∀ r ∈ rows ++ rows2, r.length = sz := by
    intro r hr
    rcases List.mem_append.1 hr with hr | hr
    · exact hS.rl r hr
    · exact hX.rl r hr
  have htop : ∀ g, v'.ownBlock = some g → Θ' g = id + 2 := fun g hgv => by simp only [Θ']; rw [if_pos hgv.symm]
  have key : ∀ (j : Nat) y, (kill st.H ks ++ [.row (rkOf u) e sz (rows ++ rows2)])[j]? = some y → (j = id ∧ y = .row (rkOf u) e sz (rows ++ rows2)) ∨ (j ≠ id ∧ (y = .gone ∨ (j ∉ ks ∧ st.H[j]? = some y))) := by
    intro j y hj
    rcases push_key j y hj with ⟨h1, h2⟩ | ⟨h1, h2⟩
    · rw [kill_length] at h1; exact .inl ⟨h1, h2⟩
    · rw [kill_length] at h1
      exact .inr ⟨h1, kill_get h2⟩
  have hne : ∀ (j : Nat) y, j ∉ ks → st.H[j]? = some y → j + 2 ≠ i1 + 2 := by
    intro j y hj hy
    have := (List.getElem?_eq_some_iff.1 hy).1
    rcases hi1 with h | h
    · intro e; exact hj (by have : j = i1 := by omega
                            rw [this]; exact h)
    · omega
  have hus := hs.uniqStay k hn hu
  let ρ' : Nat → Nat := fun b => if u = true ∧ (b ∈ b1 ∨ b ∈ b2) then id + 1 else ρ b
  have hold : ∀ (j : Nat) y, j ∉ ks → st.H[j]? = some y → ∀ b, ρ b = j + 1 → ρ' b = j + 1 := by
    intro j y hjk hy b hb
    simp only [ρ']
    rw [if_neg]
    · exact hb
    · rintro ⟨hu', hmem⟩
      obtain ⟨p1, p2, p3, _⟩ := hq hu'
      rcases hmem with h | h
      · have := (hS.uq p1).2 b h
        exact hne j _ hjk hy (by omega)
      · have := (hX.uq p2).2 b h
        rcases p3 with h0 | ⟨h0, _⟩
        · rw [h0] at h; cases h
        · have : j = i2 := by omega
          subst this; exact hjk h0
  have hU : Uniq Γ (kill st.H ks ++ [.row (rkOf u) e sz (rows ++ rows2)]) (upd κ id (some v')) Θ' w' ρ' := by
    refine ⟨fun b hb => ?_, fun j e' sz' rows' hj => ?_, fun j x hj => ?_⟩
    · simp only [ρ'] at hb
      split at hb
      · rename_i hc
        obtain ⟨hu', hmem⟩ := hc
        obtain ⟨q1, q2, q3, _⟩ := hq hu'
        rcases hmem with h | h
        · exact hus.1 b (by rw [(hS.uq q1).2 b h]; omega)
        · exact hus.1 b (by rw [(hX.uq q2).2 b h]; omega)
      · exact hus.1 b hb
    · rcases key j _ hj with ⟨rfl, hy⟩ | ⟨_, hy | ⟨hjk, hy⟩⟩
      · cases hu' : u with
        | false => rw [hu'] at hy; simp [rkOf] at hy
        | true =>
          rw [hu'] at hy
          simp only [rkOf, Ob.row.injEq, true_and] at hy
          obtain ⟨rfl, rfl, rfl⟩ := hy
          obtain ⟨q1, q2, q3, q8⟩ := hq hu'
          have hF : RdF w (fcol e') 0 (c1 ++ c2) (rows ++ rows2).flatten (b1 ++ b2) := by
            rw [List.flatten_append]
            refine (hS.ful q1).app ?_
            rw [flatten_len hS.rl]
            exact (hX.ful q2).rows q8
          refine ⟨v', c1 ++ c2, b1 ++ b2, upd_self _ _ _, hown, hF.over k hz0, ?_, fun b hb => ?_⟩
          · obtain ⟨n1, r1⟩ := hS.uq q1
            obtain ⟨n2, r2⟩ := hX.uq q2
            refine List.nodup_append.2 ⟨n1, n2, fun y hy z hz hyz => ?_⟩
            subst hyz
            rcases q3 with h | ⟨_, h⟩
            · rw [h] at hz; cases hz
            · have := r1 y hy; have := r2 y hz; omega
          · simp only [ρ']; rw [if_pos ⟨hu', List.mem_append.1 hb⟩]
      · cases hy
      · obtain ⟨v2, cs, bs, q1, q2, q3, q4, q5⟩ := hus.2.1 j e' sz' rows' (hne j _ hjk hy) hy
        exact ⟨v2, cs, bs, q1, q2, q3, q4, fun b hb => hold j _ hjk hy b (q5 b hb)⟩
    · rcases key j _ hj with ⟨rfl, hy⟩ | ⟨_, hy | ⟨hjk, hy⟩⟩
      · subst hy; exact UqM.plain2 (Ob.mvB_rkOf _ _ _ _)
      · subst hy; trivial
      · exact (hus.2.2 j x (hne j _ hjk hy) hy).re fun b hb => hold j _ hjk hy b hb
  have hs' : Sim Γ ⟨st.σ, kill st.H ks ++ [.row (rkOf u) e sz (rows ++ rows2)]⟩ (upd κ id (some v')) Θ' a w' := by
    refine hs.step k hm hn ?_ ?_ ?_ ⟨ρ', hU⟩
    · intro i hi
      simp only [List.length_append, List.length_cons, List.length_nil, kill_length] at hi
      unfold upd
      rw [if_neg (by omega)]
      exact hs.kout i (by omega)
    · intro i y hy
      unfold upd at hy
      split at hy
      · cases hy; exact hv1
      · exact hs.kone i y hy
    · intro j y hj
      rcases key j y hj with ⟨rfl, rfl⟩ | ⟨_, hy | ⟨hjk, hy⟩⟩
      · exact .inr (.inr ⟨hsz, hrl, v', _, _, upd_self _ _ _, hown, hrd', htop, by cases u <;> exact hz'⟩)
      · exact .inl hy
      · exact .inr (.inl ⟨hne j y hjk hy, hy⟩)
  refine hK _ _ (h _ _ _ _ (hs'.set (t := t) (d := .acc id) (bs := []) ht ?_ (by simp)))
  exact (RdC.acc id _ (upd_self _ _ _)).toS

/-! the two sides -/
def D.flatRows (rows : List (List D)) : Bool := rows.all fun r => r.all D.flat

theorem Rds.flat {vs : List Value} {ds : List D} {bs : List Nat} (h : Rds w vs ds bs) (hf : ds.all D.flat = true) : bs = [] := by
  induction ds generalizing vs bs with
  | nil => cases h; rfl
  | cons d ds ih =>
    simp only [List.all_cons, Bool.and_eq_true] at hf
    cases h with
    | cons v vs _ _ b1 b2 h1 h2 h3 => rw [h2.flat hf.1, ih h3 hf.2]; rfl

theorem appS_nil {e sz i1 : Nat} {ρ : Nat → Nat} : AppS w Θ ρ e sz (.slice none 0 0) [] true i1 [] [] :=
  ⟨by simp, World.ownsRow_nil w 0 e sz, .nil, by simp, by simp [Value.ownBlock], by simp, fun _ => .nil _⟩

theorem appS_acc {ρ : Nat → Nat} (hs : Sim Γ st κ Θ a w) (hu : Uniq Γ st.H κ Θ w ρ) {id e sz : Nat} {k : RK} {rows : List (List D)} {v : Value} (hk : κ id = some v) (hH : st.H[id]? = some (.row k e sz rows)) (ho : k.opn = true) :
    ∃ bs cs, AppS w Θ ρ e sz v rows k.ub id bs cs := by
  obtain ⟨_, hrl, v2, cs, bs, hk2, hown, hrs, hΘ, hz⟩ := hs.ob id _ hH
  rw [hk] at hk2; cases hk2
  cases k with
  | cl => simp [RK.opn] at ho
  | sh => exact ⟨bs, cs, hrl, hown, hrs, hz, hΘ, by simp [RK.ub], by simp [RK.ub]⟩
  | mv n => exact ⟨bs, cs, hrl, hown, hrs, hz, hΘ, by simp [RK.ub], by simp [RK.ub]⟩
  | ho p n =>
    obtain ⟨v2, c2, b2, q1, q2, q3, q4, q5, _⟩ := hu.more id _ hH
    rw [hk] at q1; cases q1
    exact ⟨b2, c2, hrl, q2, q3.rd, fun b hb => (hu.free b (by rw [q5 b hb]; omega)).1, hΘ, fun _ => ⟨q4, q5⟩, fun _ => q3⟩
  | uq =>
    obtain ⟨v2, c2, b2, q1, q2, q3, q4, q5⟩ := hu.rows id e sz rows hH
    rw [hk] at q1; cases q1
    exact ⟨b2, c2, hrl, q2, q3.rd, fun b hb => (hu.free b (by rw [q5 b hb]; omega)).1, hΘ, fun _ => ⟨q4, q5⟩, fun _ => q3⟩

theorem appX_acc {ρ : Nat → Nat} (hs : Sim Γ st κ Θ a w) (hu : Uniq Γ st.H κ Θ w ρ) {id e sz : Nat} {k : RK} {rows : List (List D)} {v : Value} (hk : κ id = some v) (hH : st.H[id]? = some (.row k e sz rows)) (ho : k.opn = true) :
    ∃ bs cs, AppX w Θ ρ e sz v rows k.ub id bs cs := by
  obtain ⟨bs, cs, h⟩ := appS_acc hs hu hk hH ho
  refine ⟨bs, cs, h.rl, ?_, h.rd, h.zero, h.uq, h.ful⟩
  rcases h.own.2 with ⟨rfl, hn⟩ | ⟨g, cap, cur, rfl, _⟩
  · exact .inl ⟨rfl, List.eq_nil_of_length_eq_zero hn⟩
  · exact .inr ⟨_, cap, rfl, h.own.cells (g := g) (by simp [Value.ownBlock])⟩

theorem AppX.sh {e e' sz : Nat} {ρ : Nat → Nat} {u : Value} {rows : List (List D)} {i : Nat} {bs : List Nat} {cs : List Value} (h : AppX w Θ ρ e' sz u rows false i bs cs) : AppX w Θ ρ e sz u rows false i bs cs :=
  ⟨h.rl, h.at_, h.rd, h.zero, h.uq, by simp⟩

theorem appX_nil {e sz i2 : Nat} {ρ : Nat → Nat} : AppX w Θ ρ e sz (.slice none 0 0) [] true i2 [] [] :=
  ⟨by simp, .inl ⟨rfl, rfl⟩, .nil, by simp, by simp, fun _ => .nil _⟩

theorem appX_sl {ρ : Nat → Nat} {v : Value} {rows : List (List D)} {bs : List Nat} {sz : Nat} (h : Rd w v (.sl rows) bs) (hz : ∀ b ∈ bs, Θ b = 0) (hrl : ∀ r ∈ rows, r.length = sz) (i2 : Nat) (fl : Bool) (hf : fl = true → D.flatRows rows = true) (e : Nat) (he : fl = true → fspec e = none) :
    ∃ b2 cs, AppX w Θ ρ e sz v rows fl i2 b2 cs ∧ (fl = true → b2 = []) := by
  cases h with
  | slNil => exact ⟨[], [], ⟨by simp, .inl ⟨rfl, rfl⟩, .nil, by simp, by simp, fun _ => .nil _⟩, by simp⟩
  | slEmpty ad cap hc => exact ⟨[], [], ⟨by simp, .inr ⟨ad, cap, rfl, by simp⟩, .nil, by simp, by simp, fun _ => .nil _⟩, by simp⟩
  | sl b off cap sz' _ cs bs' h0 h1 h2 h3 h4 h5 =>
    have hfl : fl = true → bs' = [] := fun e => h5.flat (by
      have := hf e
      unfold D.flatRows at this
      rw [List.all_eq_true] at this ⊢
      intro d hd
      obtain ⟨r, hr, hd'⟩ := List.mem_flatten.1 hd
      exact List.all_eq_true.1 (this r hr) d hd')
    refine ⟨bs', cs, ⟨hrl, .inr ⟨_, cap, rfl, fun j x hj => ?_⟩, h5, fun y hy => hz y (by simp [hy]), fun e => by rw [hfl e]; simp, fun e => .of h5 (fcol_none (he e))⟩, hfl⟩
    have := h4 j x hj
    simpa [Addr.add_lit] using this
end
end Go.Cx
