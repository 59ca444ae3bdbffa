/- What code does with a slice that is lent to it. No condition; plain lemmas. -/
import Derived.Test.YtoeenpcilfhjbaaDoorNLent
namespace Go.Cx
set_option linter.unusedVariables false
set_option linter.unusedSimpArgs false
open Go.RowKit

section
variable {P : Program} {Γ : Ctx} {Q : Exit → St → Prop} {st : St} {κ κ' : Nat → Option Value} {Θ Θ' : Nat → Nat} {a : Act} {w w' : World} {all : Array Oper} {rest : List Oper}

/-- SOME OBJECTS ARE TOLD ANEW, with whatever blocks they had, and new ones -/
theorem Sim.retell (hs : Sim Γ st κ Θ a w) (ms : List Nat) {H' : List Ob} (h1 : w'.os = w.os) (h2 : w'.tape = w.tape) (h3 : w'.output = w.output) (h4 : w.heap.size ≤ w'.heap.size)
    (hblock : ∀ b, b < w.heap.size → (∀ m ∈ ms, Θ b ≠ m + 2) → w'.heap[b]? = w.heap[b]?) (howner : ∀ b, b < w.heap.size → (∀ m ∈ ms, Θ b ≠ m + 2) → Θ' b = Θ b) (hown : ∀ b, Θ' b ≠ 0 → b < w'.heap.size)
    (hm : ∀ b, 2 ≤ Θ' b → Mine Γ b) (hn : ∀ (j : Nat) v, κ j = some v → κ' j = some v) (hko : ∀ i, H'.length ≤ i → κ' i = none) (hk1 : ∀ (i : Nat) u, κ' i = some u → u.oneCell' = true)
    (hob : ∀ (j : Nat) y, H'[j]? = some y → y = .gone ∨ (j ∉ ms ∧ st.H[j]? = some y) ∨ (ObRel w' κ' Θ' j y ∧ y.uqB = false)) : Sim Γ ⟨st.σ, H'⟩ κ' Θ' a w' := by
  have hs1 := hs.forget ms
  have hin : ∀ b, (ms.any (fun m => Θ b == m + 2)) = false → ∀ m ∈ ms, Θ b ≠ m + 2 := by
    intro b h m hm' he
    have : ms.any (fun m => Θ b == m + 2) = true := List.any_eq_true.2 ⟨m, hm', by simp [he]⟩
    rw [h] at this; cases this
  have hlt2 : ∀ b, (if ms.any (fun m => Θ b == m + 2) then st.H.length + 2 else Θ b) ≠ st.H.length + 2 → (ms.any (fun m => Θ b == m + 2)) = false := by
    intro b h
    cases hc : ms.any (fun m => Θ b == m + 2) with
    | false => rfl
    | true => simp [hc] at h
  have kk : Keeps w w' (fun b => if ms.any (fun m => Θ b == m + 2) then st.H.length + 2 else Θ b) Θ' (st.H.length + 2) := by
    refine ⟨by omega, h1, h2, h3, h4, fun b hb hne => hblock b hb (hin b (hlt2 b hne)), fun b hb hne => ?_, hown⟩
    have hc := hlt2 b hne
    rw [howner b hb (hin b hc)]
    simp [hc]
  obtain ⟨ρ, hu⟩ := hs1.uniq
  have hus := hs1.uniqStay kk hn hu
  refine hs1.step kk hm hn hko hk1 (fun j y hj => ?_) ⟨ρ, hus.1, fun id e sz rows hj => ?_, fun id y hj => ?_⟩
  · rcases hob j y hj with h | ⟨h, hy⟩ | ⟨h, _⟩
    · exact .inl h
    · have := (List.getElem?_eq_some_iff.1 hy).1
      exact .inr (.inl ⟨by omega, by rw [kill_other h]; exact hy⟩)
    · exact .inr (.inr h)
  · rcases hob id _ hj with h | ⟨h, hy⟩ | ⟨_, h⟩
    · cases h
    · have := (List.getElem?_eq_some_iff.1 hy).1
      exact hus.2.1 id e sz rows (by omega) (by rw [kill_other h]; exact hy)
    · simp [Ob.uqB] at h
  · rcases hob id _ hj with h | ⟨h, hy⟩ | ⟨_, h⟩
    · subst h; trivial
    · have := (List.getElem?_eq_some_iff.1 hy).1
      exact hus.2.2 id y (by omega) (by rw [kill_other h]; exact hy)
    · exact UqM.plain h

theorem Rd.sl_val {v : Value} {rows : List (List D)} {bs : List Nat} (h : Rd w v (.sl rows) bs) : (∃ q c, v = .slice q rows.length c) ∧ rows.length ≤ maxLen := by
  cases h with
  | slNil => exact ⟨⟨_, _, rfl⟩, by simp⟩
  | slEmpty => exact ⟨⟨_, _, rfl⟩, by simp⟩
  | sl b off cap sz _ cs bs hb h1 h2 => exact ⟨⟨_, _, rfl⟩, by omega⟩

theorem AO_lenL {o : Oper} {t T id sz : Nat} {x : Operand} {rows : List (List D)} {u : Option Value} (hop : o.op = .call { callee := .builtin .len, args := #[x], argTypes := #[T] }) (hd : o.dst = some t) (hg : o.guard = none) (ht : t < Γ.nt)
    (hT : (tel P T).isSome = true) (hx : st.ev x = .acc id) (hH : st.H[id]? = some (.lent sz rows u)) (h : AO P Γ all rest Q ⟨(t, .int .i64 rows.length) :: st.σ, st.H⟩) : AO P Γ all (o :: rest) Q st := by
  intro κ Θ a w hs
  obtain ⟨b1, r1, _⟩ := hs.ev x
  rw [hx] at r1
  obtain ⟨hk, _⟩ := r1.acc_inv
  obtain ⟨_, _, v, bs, hk2, hrd, _⟩ := hs.ob id _ hH
  rw [hk] at hk2; cases hk2
  obtain ⟨⟨q, c, hv⟩, hmax⟩ := hrd.sl_val
  obtain ⟨⟨e, sz'⟩, hT⟩ := Option.isSome_iff_exists.1 hT
  obtain ⟨hu, _, _⟩ := tel_parts hT
  refine wpList_plain hg fun K hK => ?_
  unfold Oper.wp
  have hrun : (execOp a.eval o).run P w = .ok (.value (.int .i64 rows.length)) w := by
    simp only [execOp, hop, resolve, invoke, builtin, List.map_toArray, List.map_cons, List.map_nil, hv]
    simp [Builtin.len_, run_underlying hu, goInt]
  rw [hrun, Oper.upon_value, hd]
  exact hK _ _ (h κ Θ _ w (hs.set (d := .int .i64 rows.length) (bs := []) ht (.of (.int _ _ (nat_in hmax))) (by simp)))

theorem AO_ixL {o : Oper} {t T id sz e m : Nat} {x i : Operand} {rows : List (List D)} {u : Option Value} {k : IntKind} {n : Int} (hop : o.op = .indexAddr T x i) (hd : o.dst = some t) (hg : o.guard = none) (ht : t < Γ.nt)
    (hT : tel P T = some (e, sz)) (hx : st.ev x = .acc id) (hi : st.ev i = .int k n) (hH : st.H[id]? = some (.lent sz rows u)) (hn : n = (m : Int)) (hm : m < rows.length) (h : AO P Γ all rest Q ⟨(t, .op id m sz 0) :: st.σ, st.H⟩) : AO P Γ all (o :: rest) Q st := by
  intro κ Θ a w hs
  obtain ⟨b1, r1, _⟩ := hs.ev x
  obtain ⟨b2, r2, _⟩ := hs.ev i
  rw [hx] at r1
  rw [hi] at r2
  have hiv := r2.int_inv
  obtain ⟨hk, _⟩ := r1.acc_inv
  obtain ⟨_, _, v, bs, hk2, hrd, _⟩ := hs.ob id _ hH
  rw [hk] at hk2; cases hk2
  obtain ⟨hu, hinf, htsz⟩ := tel_parts hT
  have hsz := run_size (P := P) hinf w
  subst hn
  generalize hvx : a.eval x = vx at hrd hk
  cases hrd with
  | slNil => simp at hm
  | slEmpty => simp at hm
  | sl b off cap sz' _ cs bs hb hcap hmax hrl hc hrs =>
    have hn' : 0 ≤ (m : Int) ∧ (m : Int) < (rows.length : Int) := ⟨by omega, by omega⟩
    refine wpList_plain hg fun K hK => ?_
    unfold Oper.wp
    have hrun : (execOp a.eval o).run P w = .ok (.value (.pointer (some ⟨b, off + (m * sz + 0), none⟩))) w := by
      simp only [execOp, hop, hvx, hiv]
      simp [Instr.indexAt, asIntOf, run_underlying hu, hn', hm, hsz, htsz, Addr.add_lit]
    rw [hrun, Oper.upon_value, hd]
    exact hK _ _ (h κ Θ _ w (hs.set (d := .op id m sz 0) (bs := []) ht (RdC.op id m sz 0 b off _ _ hk).toS (by simp)))

theorem flat_at {rows : List (List D)} {sz i off : Nat} {r : List D} {d : D} (hrl : ∀ r ∈ rows, r.length = sz) (hr : rows[i]? = some r) (hd : r[off]? = some d) : rows.flatten[i * sz + off]? = some d ∧ off < sz ∧ i * sz + off < rows.length * sz := by
  have h1 := hrl r (List.mem_of_getElem? hr)
  have h2 := (List.getElem?_eq_some_iff.1 hd).1
  have hmid := flatten_mid hrl hr
  have hlt := (List.getElem?_eq_some_iff.1 hr).1
  have hle : (i + 1) * sz ≤ rows.length * sz := Nat.mul_le_mul_right _ hlt
  rw [Nat.add_mul, Nat.one_mul] at hle
  refine ⟨?_, by omega, by omega⟩
  rw [← hmid, List.getElem?_take, if_pos (by omega), List.getElem?_drop] at hd
  exact hd

theorem AO_loadL {o : Oper} {t T id i sz off : Nat} {x : Operand} {rows : List (List D)} {r : List D} {d : D} {u : Option Value} (hop : o.op = .load T x) (hd : o.dst = some t) (hg : o.guard = none) (ht : t < Γ.nt)
    (hT : tagg P T = some false) (hx : st.ev x = .op id i sz off) (hH : st.H[id]? = some (.lent sz rows u)) (hr : rows[i]? = some r) (hc : r[off]? = some d) (hfl : d.flat = true) (h : AO P Γ all rest Q ⟨(t, d) :: st.σ, st.H⟩) : AO P Γ all (o :: rest) Q st := by
  intro κ Θ a w hs
  obtain ⟨b1, r1, _⟩ := hs.ev x
  rw [hx] at r1
  obtain ⟨g, o0, len, cap0, hk, hv⟩ := r1.op_inv
  obtain ⟨hrl, _, v, bs, hk2, hrd, _⟩ := hs.ob id _ hH
  rw [hk] at hk2; cases hk2
  obtain ⟨hf, _, _⟩ := flat_at hrl hr hc
  cases hrd with
  | slEmpty => simp at hr
  | sl _ _ _ sz' _ cs ns hb hcap hmax hrl' hcs hrs =>
    obtain ⟨c, b', h1, h2, h3, h4⟩ := hrs.at hf
    have L := run_load_cells (P := P) (w := w) hT (o := i * sz + off) hcs
    have hb' := h3.flat hfl
    subst hb'
    refine wpList_plain hg fun K hK => ?_
    unfold Oper.wp
    have hrun : (execOp a.eval o).run P w = .ok (.value c) w := by
      simp only [execOp, hop, hv]
      simp [L.2 rfl c h1]
    rw [hrun, Oper.upon_value, hd]
    exact hK _ _ (h κ Θ _ w (hs.set (d := d) (bs := []) ht (.of h3) (by simp)))

theorem Rds.mid3 {vs : List Value} {ds : List D} {bs : List Nat} (h : Rds w vs ds bs) {p : Nat} {d : D} (hd : ds[p]? = some d) :
    ∃ c b1 b2 b3, vs[p]? = some c ∧ c.oneCell' = true ∧ Rd w c d b2 ∧ bs = b1 ++ (b2 ++ b3) ∧ ∀ (e : D) (b4 : List Nat), Rd w c e b4 → Rds w vs (ds.set p e) (b1 ++ (b4 ++ b3)) := by
  obtain ⟨l, r, rfl, hl⟩ := mem_split hd
  obtain ⟨v1, v2, c1, c2, rfl, rfl, k1, k2⟩ := h.split
  cases k2 with
  | cons c vs _ _ b2 b3 h1 h2 h3 =>
    have hl1 : v1.length = p := by rw [k1.length]; exact hl
    refine ⟨c, c1, b2, b3, by rw [List.getElem?_append_right (by omega), hl1]; simp, h1, h2, rfl, fun e b4 he => ?_⟩
    have e1 : (l ++ d :: r).set p e = l ++ e :: r := by rw [List.set_append_right _ _ (by omega), hl]; simp
    rw [e1]
    exact k1.app (.cons _ _ _ _ _ _ h1 he h3)

theorem flatten_set1 {rows : List (List D)} {sz i off : Nat} {r : List D} {d e : D} (hrl : ∀ r ∈ rows, r.length = sz) (hr : rows[i]? = some r) (hd : r[off]? = some d) : (rows.set i (r.set off e)).flatten = rows.flatten.set (i * sz + off) e := by
  have hlt := (List.getElem?_eq_some_iff.1 hd).1
  have h1 := hrl r (List.mem_of_getElem? hr)
  have := flatten_set (rows := rows) (sz := sz) (i := i) (off := off) (row := r) (ds := [e]) hrl hr (by simp; omega)
  have e1 : r.set off e = r.take off ++ [e] ++ r.drop (off + [e].length) := by
    apply List.ext_getElem?
    intro j
    rw [List.getElem?_set]
    simp only [List.append_assoc, List.singleton_append, List.length_cons, List.length_nil, Nat.zero_add]
    by_cases hj : j < off
    · rw [if_neg (by omega), List.getElem?_append_left (by simp; omega), List.getElem?_take, if_pos hj]
    · rw [List.getElem?_append_right (by simp; omega), List.length_take, Nat.min_eq_left (by omega)]
      by_cases he : off = j
      · subst he; simp [hlt]
      · rw [if_neg he]
        obtain ⟨m, hm⟩ : ∃ m, j - off = m + 1 := ⟨j - off - 1, by omega⟩
        rw [hm, List.getElem?_cons_succ, List.getElem?_drop]
        congr 1; omega
  rw [e1, this]
  have hfl := flatten_len hrl
  obtain ⟨hf, _, hlt2⟩ := flat_at hrl hr hd
  apply List.ext_getElem?
  intro j
  rw [List.getElem?_set]
  simp only [List.append_assoc, List.singleton_append, List.length_cons, List.length_nil, Nat.zero_add]
  by_cases hj : j < i * sz + off
  · rw [if_neg (by omega), List.getElem?_append_left (by rw [List.length_take]; omega), List.getElem?_take, if_pos hj]
  · rw [List.getElem?_append_right (by rw [List.length_take]; omega), List.length_take, Nat.min_eq_left (by omega)]
    by_cases he : i * sz + off = j
    · subst he; rw [if_pos rfl, if_pos (by omega), Nat.sub_self]; rfl
    · rw [if_neg he]
      obtain ⟨m, hm⟩ : ∃ m, j - (i * sz + off) = m + 1 := ⟨j - (i * sz + off) - 1, by omega⟩
      rw [hm, List.getElem?_cons_succ, List.getElem?_drop]
      congr 1; omega

theorem set_len {rows : List (List D)} {sz i : Nat} {r : List D} (hrl : ∀ r ∈ rows, r.length = sz) (hr : r.length = sz) : ∀ x ∈ rows.set i r, x.length = sz := by
  intro x hx
  rcases List.mem_or_eq_of_mem_set hx with hx | rfl
  · exact hrl x hx
  · exact hr

/-- a slice that lies in a lent one is taken out for a while -/
theorem AO_split {o : Oper} {t T id i sz off sz2 : Nat} {x : Operand} {rows rows2 : List (List D)} {r : List D} {u : Option Value} (hop : o.op = .load T x) (hd : o.dst = some t) (hg : o.guard = none) (ht : t < Γ.nt)
    (hT : tagg P T = some false) (hx : st.ev x = .op id i sz off) (hH : st.H[id]? = some (.lent sz rows u)) (hr : rows[i]? = some r) (hc : r[off]? = some (.sl rows2)) (h2 : ∀ q ∈ rows2, q.length = sz2)
    (h : AO P Γ all rest Q ⟨(t, .acc st.H.length) :: st.σ, st.H.set id (.hole sz (rows.set i (r.set off .any)) u (i * sz + off) st.H.length) ++ [.lent sz2 rows2 none]⟩) : AO P Γ all (o :: rest) Q st := by
  intro κ Θ a w hs
  obtain ⟨b1, r1, _⟩ := hs.ev x
  rw [hx] at r1
  obtain ⟨g, o0, len, cap0, hk, hv⟩ := r1.op_inv
  obtain ⟨hrl, hux, v, bs, hk2, hrd, hnd, hbs⟩ := hs.ob id _ hH
  rw [hk] at hk2; cases hk2
  obtain ⟨hf, hoff, _⟩ := flat_at hrl hr hc
  cases hrd with
  | slEmpty => simp at hr
  | sl _ _ _ sz' _ cs ns hb hcap hmax hrl' hcs hrs =>
    obtain ⟨c, c1, c2, c3, h1, h1c, h3, rfl, hset⟩ := hrs.mid3 hf
    have L := run_load_cells (P := P) (w := w) hT (o := i * sz + off) hcs
    have hidlt : id < st.H.length := (List.getElem?_eq_some_iff.1 hH).1
    have hnew := hset .any [] (.any c)
    have hnd' := hnd
    simp only [List.nodup_cons, List.mem_append, not_or] at hnd'
    obtain ⟨⟨hg1, hg2, hg3⟩, hnd1⟩ := hnd'
    obtain ⟨n1, n2, n3⟩ := List.nodup_append.1 hnd1
    obtain ⟨n4, n5, n6⟩ := List.nodup_append.1 n2
    let Θ' : Nat → Nat := fun b => if b ∈ c2 then st.H.length + 2 else Θ b
    have hs' : Sim Γ ⟨st.σ, st.H.set id (.hole sz (rows.set i (r.set off .any)) u (i * sz + off) st.H.length) ++ [.lent sz2 rows2 none]⟩ (upd κ st.H.length (some c)) Θ' a w := by
      have hn := upd_old (hs.kout _ (Nat.le_refl _)) (some c)
      have htag : ∀ b ∈ c2, Θ b = id + 2 := fun b hb' => (hbs b (by simp [hb'])).1
      refine hs.retell [id] rfl rfl rfl (Nat.le_refl _) (fun _ _ _ => rfl) (fun b _ hne => ?_) (fun b hb' => ?_) (fun b hb' => ?_) hn (fun j hj => ?_) (fun j y hy => ?_) (fun j y hj => ?_)
      · simp only [Θ']
        rw [if_neg]
        intro hin
        exact hne id (by simp) (htag b hin)
      · simp only [Θ'] at hb'
        split at hb'
        · rename_i hin
          exact hs.own b (by rw [htag b hin]; omega)
        · exact hs.own b hb'
      · simp only [Θ'] at hb'
        split at hb'
        · rename_i hin
          exact hs.mine b (by rw [htag b hin]; omega)
        · exact hs.mine b hb'
      · simp only [List.length_append, List.length_set, List.length_cons, List.length_nil] at hj
        unfold upd
        rw [if_neg (by omega)]
        exact hs.kout j (by omega)
      · unfold upd at hy
        split at hy
        · cases hy; exact h1c
        · exact hs.kone j y hy
      · rcases push_key j y hj with ⟨hjl, rfl⟩ | ⟨hjl, hy⟩
        · right; right
          have hjn : j = st.H.length := by rw [hjl]; simp
          subst hjn
          refine ⟨⟨h2, by simp, c, c2, upd_self _ _ _, h3, n4, fun b hb' => ⟨by simp [Θ', hb'], (hbs b (by simp [hb'])).2⟩⟩, rfl⟩
        · rcases set_key j y hy with ⟨rfl, rfl⟩ | ⟨hne, hy'⟩
          · right; right
            refine ⟨⟨set_len hrl (by rw [List.length_set]; exact hrl r (List.mem_of_getElem? hr)), fun z hz => hn _ _ (hux z hz), _, g :: (c1 ++ ([] ++ c3)), hn _ _ hk, ⟨g, o0, cap0, cs, c1 ++ ([] ++ c3), by simp, hb, by simpa using hcap, hmax, hcs, ?_, rfl, c, h1, upd_self _ _ _⟩, ?_, fun b hb' => ?_⟩, rfl⟩
            · rw [flatten_set1 hrl hr hc]; exact hnew
            · simp only [List.nil_append, List.nodup_cons, List.mem_append, not_or]
              exact ⟨⟨hg1, hg3⟩, List.nodup_append.2 ⟨n1, n5, fun x hx y hy e => n3 x hx y (by simp [hy]) e⟩⟩
            · have hbm : b ∈ g :: (c1 ++ (c2 ++ c3)) := by
                simp only [List.nil_append, List.mem_cons, List.mem_append] at hb' ⊢
                rcases hb' with h | h | h <;> simp [h]
              refine ⟨?_, (hbs b hbm).2⟩
              simp only [Θ']
              rw [if_neg, (hbs b hbm).1]
              intro hin
              simp only [List.nil_append, List.mem_cons, List.mem_append] at hb'
              rcases hb' with h | h | h
              · subst h; exact hg2 hin
              · exact n3 b h b (by simp [hin]) rfl
              · exact n6 b hin b h rfl
          · exact .inr (.inl ⟨by simpa using hne, hy'⟩)
    refine wpList_plain hg fun K hK => ?_
    unfold Oper.wp
    have hrun : (execOp a.eval o).run P w = .ok (.value c) w := by
      simp only [execOp, hop, hv]
      simp [L.2 rfl c h1]
    rw [hrun, Oper.upon_value, hd]
    exact hK _ _ (h _ _ _ w (hs'.set (d := .acc st.H.length) (bs := []) ht (RdC.acc st.H.length c (upd_self _ _ _)).toS (by simp)))

/-- and put back -/
theorem AO_merge {id n i sz off sz2 : Nat} {rows rows2 : List (List D)} {r : List D} {d : D} {u u2 : Option Value} (hH : st.H[id]? = some (.hole sz rows u (i * sz + off) n)) (hN : st.H[n]? = some (.lent sz2 rows2 u2)) (hr : rows[i]? = some r) (hc : r[off]? = some d)
    (h : AO P Γ all rest Q ⟨st.σ, (st.H.set n .gone).set id (.lent sz (rows.set i (r.set off (.sl rows2))) u)⟩) : AO P Γ all rest Q st := by
  intro κ Θ a w hs
  obtain ⟨hrl, hux, v, bs, hk, ⟨b, o0, cap, cs, ns, rfl, h1, h2, h3, h4, h5, rfl, c, h6, h7⟩, hnd, hbs⟩ := hs.ob id _ hH
  obtain ⟨hrl2, _, v2, bs2, hk2, hrd2, hnd2, hbs2⟩ := hs.ob n _ hN
  rw [h7] at hk2; cases hk2
  obtain ⟨hf, hoff, _⟩ := flat_at hrl hr hc
  obtain ⟨c', c1, c2, c3, q1, q1c, q3, rfl, hset⟩ := h5.mid3 hf
  rw [h6] at q1; cases q1
  have hnew := hset (.sl rows2) bs2 hrd2
  have hne : n ≠ id := fun e => by subst e; rw [hH] at hN; cases hN
  have hidlt : id < st.H.length := (List.getElem?_eq_some_iff.1 hH).1
  have hnd' := hnd
  simp only [List.nodup_cons, List.mem_append, not_or] at hnd'
  obtain ⟨⟨hg1, hg2, hg3⟩, hnd1⟩ := hnd'
  obtain ⟨n1, n2, n3⟩ := List.nodup_append.1 hnd1
  obtain ⟨n4, n5, n6⟩ := List.nodup_append.1 n2
  have hdis : ∀ x ∈ bs2, ∀ y ∈ b :: (c1 ++ (c2 ++ c3)), x ≠ y := by
    intro x hx y hy e
    subst e
    have e1 := (hbs2 x hx).1
    have e2 := (hbs x hy).1
    omega
  let Θ' : Nat → Nat := fun x => if x ∈ bs2 then id + 2 else if Θ x = n + 2 then 1 else Θ x
  refine h κ Θ' a w (hs.retell [id, n] rfl rfl rfl (Nat.le_refl _) (fun _ _ _ => rfl) (fun x _ hnx => ?_) (fun x hx => ?_) (fun x hx => ?_) (fun _ _ h => h) (fun j hj => hs.kout j (by simpa using hj)) hs.kone (fun j y hj => ?_))
  · simp only [Θ']
    rw [if_neg (fun hin => hnx n (by simp) (hbs2 x hin).1), if_neg (hnx n (by simp))]
  · simp only [Θ'] at hx
    split at hx
    · rename_i hin; exact hs.own x (by rw [(hbs2 x hin).1]; omega)
    · split at hx
      · rename_i he; exact hs.own x (by rw [he]; omega)
      · exact hs.own x hx
  · simp only [Θ'] at hx
    split at hx
    · rename_i hin; exact hs.mine x (by rw [(hbs2 x hin).1]; omega)
    · split at hx
      · omega
      · exact hs.mine x hx
  · rcases set_key j y hj with ⟨rfl, rfl⟩ | ⟨hj1, hy⟩
    · right; right
      refine ⟨⟨set_len hrl (by rw [List.length_set]; exact hrl r (List.mem_of_getElem? hr)), hux, _, b :: (c1 ++ (bs2 ++ c3)), hk, ?_, ?_, fun x hx => ?_⟩, rfl⟩
      · have hl : (rows.set i (r.set off (.sl rows2))).length = rows.length := by simp
        have := Rd.sl (w := w) b o0 cap sz (rows.set i (r.set off (.sl rows2))) cs (c1 ++ (bs2 ++ c3)) h1 (by rw [hl]; exact h2) h3 (set_len hrl (by rw [List.length_set]; exact hrl r (List.mem_of_getElem? hr))) h4 (by rw [flatten_set1 hrl hr hc]; exact hnew)
        rw [hl] at this; exact this
      · simp only [List.nodup_cons, List.mem_append, not_or]
        refine ⟨⟨hg1, fun hin => hdis b hin b (by simp) rfl, hg3⟩, List.nodup_append.2 ⟨n1, List.nodup_append.2 ⟨hnd2, n5, fun x hx y hy e => hdis x hx y (by simp [hy]) e⟩, fun x hx y hy e => ?_⟩⟩
        rcases List.mem_append.1 hy with hy | hy
        · exact hdis y hy x (by simp [hx]) e.symm
        · exact n3 x hx y (by simp [hy]) e
      · by_cases hin : x ∈ bs2
        · exact ⟨by simp [Θ', hin], (hbs2 x hin).2⟩
        · have hbm : x ∈ b :: (c1 ++ (c2 ++ c3)) := by
            simp only [List.mem_cons, List.mem_append] at hx ⊢
            rcases hx with h | h | h | h
            · simp [h]
            · simp [h]
            · exact absurd h hin
            · simp [h]
          refine ⟨?_, (hbs x hbm).2⟩
          have e1 := (hbs x hbm).1
          simp only [Θ']
          rw [if_neg hin, if_neg (by omega), e1]
    · rcases set_key j y hy with ⟨rfl, rfl⟩ | ⟨hj2, hy'⟩
      · exact .inl rfl
      · exact .inr (.inl ⟨by simp [hj1, hj2], hy'⟩)

theorem Rds.setCells {vs : List Value} {ds es : List D} {us : List Value} {bs : List Nat} (h : Rds w vs ds bs) (p : Nat) (hp : p + es.length ≤ ds.length) (hu : Rds w us es []) :
    ∃ b', Rds w (vs.take p ++ us ++ vs.drop (p + us.length)) (ds.take p ++ es ++ ds.drop (p + es.length)) b' ∧ (∀ b ∈ b', b ∈ bs) ∧ (bs.Nodup → b'.Nodup) := by
  have e : ds = ds.take p ++ ((ds.drop p).take es.length ++ (ds.drop p).drop es.length) := by rw [List.take_append_drop, List.take_append_drop]
  rw [e] at h
  obtain ⟨v1, v2, b1, b2, rfl, rfl, k1, k2⟩ := h.split
  obtain ⟨v3, v4, b3, b4, rfl, rfl, k3, k4⟩ := k2.split
  have l1 : v1.length = p := by rw [k1.length]; simp; omega
  have l3 : v3.length = es.length := by rw [k3.length]; simp; omega
  have lu := hu.length
  have t1 : (v1 ++ (v3 ++ v4)).take p = v1 := List.take_left' l1
  have t2 : (v1 ++ (v3 ++ v4)).drop (p + us.length) = v4 := by
    rw [← List.drop_drop, List.drop_left' l1, lu, List.drop_left' l3]
  rw [t1, t2]
  rw [List.drop_drop] at k4
  refine ⟨b1 ++ [] ++ b4, (k1.app hu).app k4, fun b hb => ?_, fun hnd => ?_⟩
  · simp only [List.append_nil, List.mem_append] at hb ⊢
    rcases hb with h | h <;> simp [h]
  · obtain ⟨n1, n2, n3⟩ := List.nodup_append.1 hnd
    obtain ⟨_, n5, _⟩ := List.nodup_append.1 n2
    simp only [List.append_nil]
    exact List.nodup_append.2 ⟨n1, n5, fun x hx y hy e => n3 x hx y (by simp [hy]) e⟩

theorem AO_storeL {o : Oper} {T id i sz off : Nat} {x y : Operand} {rows : List (List D)} {r ds : List D} {u : Option Value} (hop : o.op = .store T x y) (hd : o.dst = none) (hg : o.guard = none)
    (hx : st.ev x = .op id i sz off) (hH : st.H[id]? = some (.lent sz rows u)) (hr : rows[i]? = some r) (hc : (st.ev y).cellsOf = some ds) (hfl : ds.all D.flat = true) (hT : tinf P T = true) (hl : ds.length = tsz P T) (hpos : 0 < ds.length) (hfit : off + ds.length ≤ sz)
    (h : AO P Γ all rest Q ⟨st.σ, st.H.set id (.lent sz (rows.set i (r.take off ++ ds ++ r.drop (off + ds.length))) u)⟩) : AO P Γ all (o :: rest) Q st := by
  intro κ Θ a w hs
  obtain ⟨b1, r1, _⟩ := hs.ev x
  obtain ⟨b2, r2, _⟩ := hs.ev y
  rw [hx] at r1
  obtain ⟨g, o0, len, cap0, hk, hv⟩ := r1.op_inv
  obtain ⟨hrl, hux, v, bs, hk2, hrd, hnd, hbs⟩ := hs.ob id _ hH
  rw [hk] at hk2; cases hk2
  have hcs0 := cells_rd hs.kone r2 hc
  have hl1 := hcs0.length
  have hflp : ds.all D.isP = true := by
    rw [List.all_eq_true] at hfl ⊢
    intro d hd'
    have := hfl d hd'
    cases d <;> first | rfl | (simp [D.flat] at this)
  have hcp := hcs0.pure hflp
  have hb2 := hcp.flat hfl
  subst hb2
  have hrow := hrl r (List.mem_of_getElem? hr)
  have hilt := (List.getElem?_eq_some_iff.1 hr).1
  have hile : (i + 1) * sz ≤ rows.length * sz := Nat.mul_le_mul_right _ hilt
  rw [Nat.add_mul, Nat.one_mul] at hile
  cases hrd with
  | slEmpty => simp at hr
  | sl _ _ _ sz' _ cs ns hb hcap hmax hrl' hcs hrs =>
    obtain ⟨hgT, hgw⟩ := hbs g (by simp)
    obtain ⟨cur, Tb, hgc⟩ := hgw
    have hfl' := flatten_len hrl
    have hcl : cs.length = rows.length * sz := by rw [hrs.length, hfl']
    -- the cells lie in the block
    have hcur : ∀ j c, cs[j]? = some c → cur[o0 + j]? = some c := by
      intro j c hj
      have := hcs j c hj
      simpa [World.cell?, hgc] using this
    have hfitc : o0 + (i * sz + off) + (a.eval y).cells.size ≤ cur.size := by
      have e1 : (a.eval y).cells.size = ds.length := by rw [← hl1]; simp
      rw [e1]
      have := hcur (i * sz + off + ds.length - 1) cs[i * sz + off + ds.length - 1] (List.getElem?_eq_getElem (by omega))
      have := (Array.getElem?_eq_some_iff.1 this).1
      omega
    have hsz2 : (a.eval y).cells.size = tsz P T := by rw [← hl, ← hl1]; simp
    have hst := run_storeAt (P := P) (T := T) (off := o0 + (i * sz + off)) hgc hsz2 (Option.isSome_iff_exists.1 hT) hfitc hcs0.one
    have hne : (a.eval y).cells.toList.length = ds.length := hl1
    let cur' : Array Value := (cur.toList.take (o0 + (i * sz + off)) ++ (a.eval y).cells.toList ++ cur.toList.drop (o0 + (i * sz + off) + (a.eval y).cells.toList.length)).toArray
    have hw' : ∀ x, x ≠ g → (w.setRow g cur').heap[x]? = w.heap[x]? := fun x hx => setRow_other w g x _ hx
    have hsame : ∀ x, x < w.heap.size → (∀ m ∈ [id], Θ x ≠ m + 2) → (w.setRow g cur').heap[x]? = w.heap[x]? := fun x _ hx => hw' x (fun e => hx id (by simp) (by rw [e]; exact hgT))
    simp only [List.nodup_cons] at hnd
    -- the nested blocks stay
    have hrs' : Rds (w.setRow g cur') cs rows.flatten ns := hrs.keep fun b hb' => hw' b (fun e => hnd.1 (e ▸ hb'))
    have hcp' : Rds (w.setRow g cur') (a.eval y).cells.toList ds [] := hcp.keep (by simp)
    obtain ⟨ns', q1, q2, q3⟩ := hrs'.setCells (i * sz + off) (by rw [hfl']; omega) hcp'
    have hfs := flatten_set (ds := ds) (off := off) hrl hr hfit
    have hl4 : (rows.set i (r.take off ++ ds ++ r.drop (off + ds.length))).length = rows.length := by simp
    have hrl4 : ∀ z ∈ rows.set i (r.take off ++ ds ++ r.drop (off + ds.length)), z.length = sz := set_len hrl (by simp; omega)
    have hcell : ∀ j c, (cs.take (i * sz + off) ++ (a.eval y).cells.toList ++ cs.drop (i * sz + off + (a.eval y).cells.toList.length))[j]? = some c → (w.setRow g cur').cell? ⟨g, o0 + j, none⟩ = some c := by
      intro j c hj
      have hgh : (w.setRow g cur').heap[g]? = some (.cells cur' Tb (0, 0)) := setRow_heap w g cur _ Tb _ hgc
      simp only [World.cell?, hgh]
      show cur'[o0 + j]? = some c
      simp only [cur', List.getElem?_toArray, List.append_assoc] at hj ⊢
      have hcz : o0 + (i * sz + off) ≤ cur.toList.length := by simp; omega
      by_cases hj1 : j < i * sz + off
      · rw [List.getElem?_append_left (by simp; omega), List.getElem?_take, if_pos hj1] at hj
        rw [List.getElem?_append_left (by rw [List.length_take]; omega), List.getElem?_take, if_pos (by omega)]
        have := hcur j c hj
        simpa using this
      · rw [List.getElem?_append_right (by rw [List.length_take]; omega), List.length_take, Nat.min_eq_left (by omega)] at hj
        rw [List.getElem?_append_right (by rw [List.length_take]; omega), List.length_take, Nat.min_eq_left hcz]
        rw [show o0 + j - (o0 + (i * sz + off)) = j - (i * sz + off) from by omega]
        by_cases hj2 : j - (i * sz + off) < (a.eval y).cells.toList.length
        · rw [List.getElem?_append_left hj2] at hj ⊢
          exact hj
        · rw [List.getElem?_append_right (by omega), List.getElem?_drop] at hj ⊢
          have := hcur _ c hj
          rw [← Array.getElem?_toList] at this
          rw [← this]; congr 1; omega
    refine wpList_plain hg fun K hK => ?_
    unfold Oper.wp
    have hrun : (execOp a.eval o).run P w = .ok .skip (w.setRow g cur') := by
      simp only [execOp, hop, hv]
      simp [hst, cur']
    rw [hrun, Oper.upon_skip, hd]
    refine hK _ _ (h κ Θ _ _ (hs.retell [id] rfl rfl rfl (by simp) hsame (fun _ _ _ => rfl) (fun b hb' => by simpa using hs.own b hb') hs.mine (fun _ _ h => h) (fun j hj => hs.kout j (by simpa using hj)) hs.kone (fun j z hj => ?_)))
    rcases set_key j z hj with ⟨rfl, rfl⟩ | ⟨hj1, hz⟩
    · right; right
      refine ⟨⟨hrl4, hux, _, g :: ns', hk, ?_, ?_, fun b hb' => ?_⟩, rfl⟩
      · have := Rd.sl (w := w.setRow g cur') g o0 cap0 sz (rows.set i (r.take off ++ ds ++ r.drop (off + ds.length))) _ ns' (by simpa using hb) (by rw [hl4]; exact hcap) hmax hrl4 hcell (by rw [hfs]; exact q1)
        rw [hl4] at this; exact this
      · simp only [List.nodup_cons]
        exact ⟨fun hin => hnd.1 (q2 g hin), q3 hnd.2⟩
      · rcases List.mem_cons.1 hb' with rfl | hin
        · exact ⟨hgT, ⟨_, Tb, setRow_heap w b cur _ Tb _ hgc⟩⟩
        · have hm := hbs b (by simp [q2 b hin])
          refine ⟨hm.1, ?_⟩
          obtain ⟨xs, T', hxs⟩ := hm.2
          exact ⟨xs, T', (hw' b (fun e => hnd.1 (e ▸ q2 b hin))).trans hxs⟩
    · exact .inr (.inl ⟨by simpa using hj1, hz⟩)
end
end Go.Cx
