/- Closed slices: what is handed over new may be kept closed (no one reads below it), so that a slice in its rows can be taken out, added to and put back. No condition; plain lemmas. -/
import Derived.Test.YtoeenpcilfhjbaaNTak
namespace Go.Cx
set_option linter.unusedVariables false
set_option linter.unusedSimpArgs false
open Go.RowKit

section
variable {P : Program} {Γ : Ctx} {Q : Exit → St → Prop} {st : St} {κ κ' : Nat → Option Value} {Θ Θ' : Nat → Nat} {a : Act} {w w' : World} {all : Array Oper} {rest : List Oper}

theorem RdF.mid3 {f : Nat → Option (TypeId × Nat)} {i : Nat} {vs : List Value} {ds : List D} {bs : List Nat} (h : RdF w f i vs ds bs) {p : Nat} {d : D} (hd : ds[p]? = some d) :
    ∃ c b1 b2 b3, vs[p]? = some c ∧ c.oneCell' = true ∧ Rd w c d b2 ∧ (∀ t, f (i + p) = some t → FullC w t c d b2) ∧ bs = b1 ++ (b2 ++ b3) ∧
      ∀ (e : D) (b4 : List Nat), Rd w c e b4 → (∀ t, f (i + p) = some t → FullC w t c e b4) → RdF w f i vs (ds.set p e) (b1 ++ (b4 ++ b3)) := by
  obtain ⟨l, r, rfl, hl⟩ := mem_split hd
  obtain ⟨v1, v2, c1, c2, rfl, rfl, k1, k2⟩ := h.split
  cases k2 with
  | cons _ c vs _ _ b2 b3 h1 h2 h4 h3 =>
    have hl1 : v1.length = p := by rw [k1.length]; exact hl
    refine ⟨c, c1, b2, b3, by rw [List.getElem?_append_right (by omega), hl1]; simp, h1, h2, fun t ht => h4 t (by rw [hl]; exact ht), rfl, fun e b4 he hf => ?_⟩
    have e1 : (l ++ d :: r).set p e = l ++ e :: r := by rw [List.set_append_right _ _ (by omega), hl]; simp
    rw [e1]
    exact k1.app (.cons _ _ _ _ _ _ _ h1 he (fun t ht => hf t (by rw [← hl]; exact ht)) h3)

/-- a slice in a row of a closed slice becomes a closed slice of its own -/
theorem Sim.takeCl (hs : Sim Γ st κ Θ a w) {m e sz i off e' sz' : Nat} {rows toks : List (List D)} {r : List D} (hH : st.H[m]? = some (.row .cl e sz rows)) (hr : rows[i]? = some r) (hd : r[off]? = some (.sl toks))
    (hfk : fok e sz = true) (hf : fcol e off = some (e', sz')) (hfe : uqT e' = true) :
    ∃ c v cs, κ m = some v ∧ w.ownsRow 0 e sz v rows.length cs ∧ cs[i * sz + off]? = some c ∧ ∃ Θ', Sim Γ ⟨st.σ, st.H.set m (.row .cl e sz (rows.set i (r.set off .any))) ++ [.row .cl e' sz' toks]⟩ (upd κ st.H.length (some c)) Θ' a w := by
  obtain ⟨ρ, hu⟩ := hs.uniq
  obtain ⟨hsz, hrl, v, cs, bs, hkm, hown, hrs, hΘ, hnd, hbs, hno, hF⟩ := hs.ob m _ hH
  have hrow := hrl r (List.mem_of_getElem? hr)
  have hofflt : off < r.length := (List.getElem?_eq_some_iff.1 hd).1
  have hilt : i < rows.length := (List.getElem?_eq_some_iff.1 hr).1
  have hcell : rows.flatten[i * sz + off]? = some (.sl toks) := (flat_at hrl hr hd).1
  obtain ⟨c, b1, bc, b3, q1, q2, q3, q4, rfl, q6⟩ := hF.mid3 hcell
  have hcol : fcol e (0 + (i * sz + off)) = some (e', sz') := by
    rw [show 0 + (i * sz + off) = off + i * sz by omega, fcol_shift hfk]; exact hf
  rcases q4 _ hcol with ⟨h, _⟩ | ⟨rows2, cs2, ns, hrows2, p1, p2, p3, p4, rfl⟩
  · cases h
  cases hrows2
  have hnew := q6 .any [] (.any _) (fun t _ => .inl ⟨rfl, rfl⟩)
  rw [← flatten_set1 (e := .any) hrl hr hd] at hnew
  obtain ⟨n1, n2, n3⟩ := List.nodup_append.1 hnd
  obtain ⟨n4, n5, n6⟩ := List.nodup_append.1 n2
  let bc := c.ownBlock.toList ++ ns
  let n := st.H.length
  let Θ' : Nat → Nat := fun b => if b ∈ bc then n + 2 else Θ b
  have hmlt : m < st.H.length := (List.getElem?_eq_some_iff.1 hH).1
  have hbcin : ∀ b ∈ bc, b ∈ b1 ++ (c.ownBlock.toList ++ ns ++ b3) := fun b hb => List.mem_append.2 (.inr (List.mem_append.2 (.inl hb)))
  have hk' : Keeps w w Θ Θ' (m + 2) := ⟨by omega, rfl, rfl, rfl, Nat.le_refl _, fun _ _ _ => rfl, fun b _ hne => if_neg (fun h => hne (hbs b (hbcin b h)).1), fun b hb => by
    by_cases hin : b ∈ bc
    · exact hs.own b (by rw [(hbs b (hbcin b hin)).1]; omega)
    · simp only [Θ'] at hb; rw [if_neg hin] at hb; exact hs.own b hb⟩
  have hmine : ∀ b, 2 ≤ Θ' b → Mine Γ b := fun b hb => by
    by_cases hin : b ∈ bc
    · exact hs.mine b (by rw [(hbs b (hbcin b hin)).1]; omega)
    · simp only [Θ'] at hb; rw [if_neg hin] at hb; exact hs.mine b hb
  have hkn := upd_old (hs.kout n (Nat.le_refl _)) (some c)
  have key : ∀ (j : Nat) x, (st.H.set m (.row .cl e sz (rows.set i (r.set off .any))) ++ [.row .cl e' sz' toks])[j]? = some x →
      (j = n ∧ x = .row .cl e' sz' toks) ∨ (j = m ∧ x = .row .cl e sz (rows.set i (r.set off .any))) ∨ (j ≠ m ∧ j < n ∧ st.H[j]? = some x) := by
    intro j x hj
    rcases push_key j x hj with ⟨h1, h2⟩ | ⟨h1, h2⟩
    · rw [List.length_set] at h1; exact .inl ⟨h1, h2⟩
    · rcases set_key j x h2 with ⟨h3, h4⟩ | ⟨h3, h4⟩
      · exact .inr (.inl ⟨h3, h4⟩)
      · exact .inr (.inr ⟨h3, (List.getElem?_eq_some_iff.1 h4).1, h4⟩)
  have hus := hs.uniqStay hk' hkn hu
  have hrest : ∀ b, b ∈ b1 ++ ([] ++ b3) → b ∉ bc ∧ b ∈ b1 ++ (c.ownBlock.toList ++ ns ++ b3) := by
    intro b hb
    rw [List.nil_append] at hb
    rcases List.mem_append.1 hb with hb | hb
    · exact ⟨fun h => n3 b hb b (List.mem_append.2 (.inl h)) rfl, List.mem_append.2 (.inl hb)⟩
    · exact ⟨fun h => n6 b h b hb rfl, List.mem_append.2 (.inr (List.mem_append.2 (.inr hb)))⟩
  refine ⟨c, v, cs, hkm, hown, q1, Θ', hs.step hk' hmine hkn (fun i hi => ?_) (fun i x hx => ?_) (fun j x hj => ?_) ⟨ρ, hus.1, fun id e2 sz2 rows2 h => ?_, fun id x h => ?_⟩⟩
  · simp only [List.length_append, List.length_set, List.length_cons, List.length_nil] at hi
    unfold upd
    rw [if_neg (by omega)]
    exact hs.kout i (by omega)
  · unfold upd at hx
    split at hx
    · cases hx; exact q2
    · exact hs.kone i x hx
  · rcases key j x hj with ⟨rfl, rfl⟩ | ⟨rfl, rfl⟩ | ⟨h1, h2, h3⟩
    · refine .inr (.inr ⟨p1, p2, c, cs2, ns, upd_self _ _ _, p3, p4, fun g hg => ?_, ?_, fun b hb => ⟨?_, ?_⟩, fun g hg hin => ?_, .of p4 (fcol_none (uqT_none hfe))⟩)
      · exact if_pos (List.mem_append.2 (.inl (by simp [hg])))
      · exact (List.nodup_append.1 n4).2.1
      · exact if_pos (List.mem_append.2 (.inr hb))
      · exact (hbs b (hbcin b (List.mem_append.2 (.inr hb)))).2
      · exact (List.nodup_append.1 n4).2.2 g (by simp [hg]) g hin rfl
    · have hrl' : ∀ x ∈ rows.set i (r.set off .any), x.length = sz := by
        intro x hx
        rcases List.mem_or_eq_of_mem_set hx with hx | rfl
        · exact hrl x hx
        · rw [List.length_set]; exact hrow
      refine .inr (.inr ⟨hsz, hrl', v, cs, _, hkn _ _ hkm, by rw [List.length_set]; exact hown, hnew.rd, fun g hg => ?_, ?_, fun b hb => ⟨?_, ?_⟩, fun g hg hin => ?_, hnew⟩)
      · simp only [Θ']
        rw [if_neg (fun h => hno g hg (hbcin g h))]
        exact hΘ g hg
      · rw [List.nil_append]
        exact List.nodup_append.2 ⟨n1, n5, fun x hx y hy => n3 x hx y (List.mem_append.2 (.inr hy))⟩
      · simp only [Θ']
        rw [if_neg (hrest b hb).1]
        exact (hbs b (hrest b hb).2).1
      · exact (hbs b (hrest b hb).2).2
      · exact hno g hg (hrest g hin).2
    · exact .inr (.inl ⟨by omega, h3⟩)
  · rcases key id _ h with ⟨_, h1⟩ | ⟨_, h1⟩ | ⟨h1, _, h3⟩
    · simp at h1
    · simp at h1
    · exact hus.2.1 id e2 sz2 rows2 (by omega) h3
  · rcases key id _ h with ⟨_, rfl⟩ | ⟨_, rfl⟩ | ⟨h1, _, h3⟩
    · exact UqM.plain2 rfl
    · exact UqM.plain2 rfl
    · exact hus.2.2 id x (by omega) h3

/-- GHOST: a slice in a row becomes an object of its own; the row's cell names it from now on -/
theorem Sim.ghost (hs : Sim Γ st κ Θ a w) {m e sz i off e' sz' : Nat} {rows toks : List (List D)} {r : List D} (hH : st.H[m]? = some (.row .uq e sz rows)) (hr : rows[i]? = some r) (hd : r[off]? = some (.sl toks))
    (hfk : fok e sz = true) (hf : fcol e off = some (e', sz')) :
    ∃ κ', Sim Γ ⟨st.σ, st.H.set m (.row (.ho (i * sz + off) st.H.length) e sz (rows.set i (r.set off .any))) ++ [.tf e' sz' toks]⟩ κ' Θ a w := by
  obtain ⟨ρ, hu⟩ := hs.uniq
  obtain ⟨hsz, hrl, v0, _, _, hk0, _, _, hΘ, _⟩ := hs.ob m _ hH
  obtain ⟨v, cs, bs, hkm, hown, hF, hnd, hρ⟩ := hu.rows m e sz rows hH
  rw [hk0] at hkm; cases hkm
  have hrow := hrl r (List.mem_of_getElem? hr)
  have hcell : rows.flatten[i * sz + off]? = some (.sl toks) := (flat_at hrl hr hd).1
  obtain ⟨c, b1, bc, b3, q1, q2, q3, q4, rfl, q6⟩ := hF.mid3 hcell
  have hcol : fcol e (0 + (i * sz + off)) = some (e', sz') := by
    rw [show 0 + (i * sz + off) = off + i * sz by omega, fcol_shift hfk]; exact hf
  have hfull := q4 _ hcol
  have hnew := q6 .any [] (.any _) (fun t _ => .inl ⟨rfl, rfl⟩)
  rw [← flatten_set1 (e := .any) hrl hr hd] at hnew
  obtain ⟨n1, n2, n3⟩ := List.nodup_append.1 hnd
  obtain ⟨n4, n5, n6⟩ := List.nodup_append.1 n2
  let n := st.H.length
  let ρ' : Nat → Nat := fun b => if b ∈ bc then n + 1 else ρ b
  have hmlt : m < st.H.length := (List.getElem?_eq_some_iff.1 hH).1
  have hbcin : ∀ b ∈ bc, b ∈ b1 ++ (bc ++ b3) := fun b hb => List.mem_append.2 (.inr (List.mem_append.2 (.inl hb)))
  have hz : ∀ b ∈ b1 ++ (bc ++ b3), Θ b = 0 := fun b hb => (hu.free b (by rw [hρ b hb]; omega)).1
  have hkn := upd_old (hs.kout n (Nat.le_refl _)) (some c)
  have hk' : Keeps w w Θ Θ (n + 2) := Keeps.refl hs.own (by omega)
  have key : ∀ (j : Nat) x, (st.H.set m (.row (.ho (i * sz + off) n) e sz (rows.set i (r.set off .any))) ++ [.tf e' sz' toks])[j]? = some x →
      (j = n ∧ x = .tf e' sz' toks) ∨ (j = m ∧ x = .row (.ho (i * sz + off) n) e sz (rows.set i (r.set off .any))) ∨ (j ≠ m ∧ j < n ∧ st.H[j]? = some x) := by
    intro j x hj
    rcases push_key j x hj with ⟨h1, h2⟩ | ⟨h1, h2⟩
    · rw [List.length_set] at h1; exact .inl ⟨h1, h2⟩
    · rcases set_key j x h2 with ⟨h3, h4⟩ | ⟨h3, h4⟩
      · exact .inr (.inl ⟨h3, h4⟩)
      · exact .inr (.inr ⟨h3, (List.getElem?_eq_some_iff.1 h4).1, h4⟩)
  have hus := hs.uniqStay hk' hkn hu
  have hrest : ∀ b, b ∈ b1 ++ ([] ++ b3) → b ∉ bc ∧ b ∈ b1 ++ (bc ++ b3) := by
    intro b hb
    rw [List.nil_append] at hb
    rcases List.mem_append.1 hb with hb | hb
    · exact ⟨fun h => n3 b hb b (List.mem_append.2 (.inl h)) rfl, List.mem_append.2 (.inl hb)⟩
    · exact ⟨fun h => n6 b h b hb rfl, List.mem_append.2 (.inr (List.mem_append.2 (.inr hb)))⟩
  have hnd' : (b1 ++ ([] ++ b3)).Nodup := by
    rw [List.nil_append]
    exact List.nodup_append.2 ⟨n1, n5, fun x hx y hy => n3 x hx y (List.mem_append.2 (.inr hy))⟩
  have hrl' : ∀ x ∈ rows.set i (r.set off .any), x.length = sz := by
    intro x hx
    rcases List.mem_or_eq_of_mem_set hx with hx | rfl
    · exact hrl x hx
    · rw [List.length_set]; exact hrow
  have hown' : w.ownsRow 0 e sz v0 (rows.set i (r.set off .any)).length cs := by rw [List.length_set]; exact hown
  have hre : ∀ (j : Nat), j ≠ m → ∀ b, ρ b = j + 1 → ρ' b = j + 1 := by
    intro j hj b hb
    simp only [ρ']
    rw [if_neg (fun h => by have := hρ b (hbcin b h); omega)]
    exact hb
  refine ⟨upd κ n (some c), hs.step hk' hs.mine hkn (fun i hi => ?_) (fun i x hx => ?_) (fun j x hj => ?_) ⟨ρ', fun b hb => ?_, fun id e2 sz2 rows2 h => ?_, fun id x h => ?_⟩⟩
  · simp only [List.length_append, List.length_set, List.length_cons, List.length_nil] at hi
    unfold upd
    rw [if_neg (by omega)]
    exact hs.kout i (by omega)
  · unfold upd at hx
    split at hx
    · cases hx; exact q2
    · exact hs.kone i x hx
  · rcases key j x hj with ⟨rfl, rfl⟩ | ⟨rfl, rfl⟩ | ⟨h1, h2, h3⟩
    · exact .inr (.inr ⟨c, bc, upd_self _ _ _, q3, fun b hb => hz b (hbcin b hb)⟩)
    · exact .inr (.inr ⟨hsz, hrl', v0, cs, _, hkn _ _ hk0, hown', hnew.rd, hΘ, fun b hb => hz b (hrest b hb).2⟩)
    · exact .inr (.inl ⟨by omega, h3⟩)
  · refine hus.1 b fun h0 => hb ?_
    simp only [ρ']
    rw [if_neg (fun h => by have := hρ b (hbcin b h); omega)]
    exact h0
  · rcases key id _ h with ⟨_, h1⟩ | ⟨_, h1⟩ | ⟨h1, h2, h3⟩
    · simp at h1
    · simp at h1
    · obtain ⟨v2, c2, b2, p1, p2, p3, p4, p5⟩ := hus.2.1 id e2 sz2 rows2 (by omega) h3
      exact ⟨v2, c2, b2, p1, p2, p3, p4, fun b hb => hre id h1 b (p5 b hb)⟩
  · rcases key id _ h with ⟨rfl, rfl⟩ | ⟨rfl, rfl⟩ | ⟨h1, h2, h3⟩
    · exact ⟨c, bc, upd_self _ _ _, hfull, q3.lt, n4, fun b hb => if_pos hb⟩
    · refine ⟨v0, cs, _, hkn _ _ hk0, hown', hnew, hnd', fun b hb => ?_, c, q1, upd_self _ _ _⟩
      simp only [ρ']
      rw [if_neg (hrest b hb).1]
      exact hρ b (hrest b hb).2
    · exact (hus.2.2 id x (by omega) h3).re fun b hb => hre id h1 b hb

/-! a slice that was taken out of a row, and that no one else looks into, becomes a slice of the call's own -/
def thinC : D → Bool
  | .acc _ => true
  | .ptr _ _ => true
  | .op _ _ _ _ => true
  | d => d.flat
theorem thinC_nil {v : Value} {d : D} {bs : List Nat} (h : RdC w κ v d bs) (ht : thinC d = true) : bs = [] := by
  cases h with
  | pure h => exact h.flat (by cases d <;> first | exact ht | cases h | (simp [thinC, D.flat] at ht))
  | acc id v hk => rfl
  | ptr id off b hk => rfl
  | op id i sz off b o0 len cap hk => rfl
theorem thinCs_nil : ∀ {ds : List D} {vs : List Value} {bs : List Nat}, RdCs w κ vs ds bs → ds.all thinC = true → bs = [] := by
  intro ds
  induction ds with
  | nil => intro vs bs h _; cases h; rfl
  | cons d ds ih =>
    intro vs bs h ht
    simp only [List.all_cons, Bool.and_eq_true] at ht
    cases h with
    | cons v vs _ _ b1 b2 h1 h2 h3 => rw [thinC_nil h2 ht.1, ih h3 ht.2]; rfl
theorem thinS_nil {v : Value} {d : D} {bs : List Nat} (h : RdS w κ v d bs) (ht : thinC d = true) : bs = [] := by
  cases h with
  | v h =>
    cases h with
    | cell h => exact thinC_nil h ht
    | agg cs ds bs h => simp [thinC, D.flat] at ht
  | tup vs ds bs h => simp [thinC, D.flat] at ht
theorem thin_lk {t : Nat} : ∀ {σ : List (Nat × D)}, (σ.all fun p => thinC p.2) = true → thinC (lk σ t) = true := by
  intro σ
  induction σ with
  | nil => intro _; rfl
  | cons p r ih =>
    intro h
    obtain ⟨s, d⟩ := p
    simp only [List.all_cons, Bool.and_eq_true] at h
    simp only [lk]
    split
    · exact h.1
    · exact ih h.2
/-- objects that stay as they are when object n's slice is no longer looked into; object 0 is the lent variable -/
def thinO (n : Nat) (j : Nat) (o : Ob) : Bool := match o with
  | .gone => true
  | .box cells => cells.all thinC
  | .pbx _ _ => j == 0
  | .row .uq _ _ _ => true
  | .row (.ho _ _) _ _ _ => true
  | .row .cl _ _ _ => true
  | .mp _ => true
  | .tf _ _ _ => j == n
  | _ => false
def thinH (n : Nat) : Nat → List Ob → Bool
  | _, [] => true
  | j, o :: H => thinO n j o && thinH n (j + 1) H
theorem thinH_get {n : Nat} : ∀ {H : List Ob} {k j : Nat} {o : Ob}, thinH n k H = true → H[j]? = some o → thinO n (k + j) o = true := by
  intro H
  induction H with
  | nil => intro k j o _ h; simp at h
  | cons x H ih =>
    intro k j o h hj
    simp only [thinH, Bool.and_eq_true] at h
    cases j with
    | zero => simp at hj; subst hj; exact h.1
    | succ j => have := ih h.2 (by simpa using hj); rwa [show k + 1 + j = k + (j + 1) by omega] at this

/-- a flat slice's blocks are told by its value -/
theorem Rd.again {w0 w : World} {c : Value} {rows0 rows1 : List (List D)} {bs0 bs1 : List Nat} (h0 : Rd w0 c (.sl rows0) bs0) (h1 : Rd w c (.sl rows1) bs1) (hf : D.flatRows rows1 = true) : ∃ bs, Rd w c (.sl rows1) bs ∧ ∀ b ∈ bs, b ∈ bs0 := by
  have key : ∀ (d : D), d = .sl rows1 → Rd w c d bs1 → ∃ bs, Rd w c (.sl rows1) bs ∧ ∀ b ∈ bs, b ∈ bs0 := by
    intro d hd h1
    cases h1 <;> simp only [reduceCtorEq, D.sl.injEq] at hd
    case slNil => subst hd; exact ⟨[], .slNil, by simp⟩
    case slEmpty a cap hc => subst hd; exact ⟨[], .slEmpty a cap hc, by simp⟩
    case sl b off cap sz rows cs bs h10 h2 h3 h4 h5 h6 =>
      subst hd
      have hbs : bs = [] := h6.flat (by
        unfold D.flatRows at hf
        rw [List.all_eq_true] at hf ⊢
        intro d hd
        obtain ⟨r, hr, hd'⟩ := List.mem_flatten.1 hd
        exact List.all_eq_true.1 (hf r hr) d hd')
      subst hbs
      cases rows with
      | nil => exact ⟨[], .slEmpty _ cap h3, by simp⟩
      | cons r rs =>
        refine ⟨[b], .sl b off cap sz (r :: rs) cs [] h10 h2 h3 h4 h5 h6, fun x hx => ?_⟩
        rw [List.mem_singleton.1 hx]
        have key2 : ∀ (v : Value) (d : D), v = .slice (some ⟨b, off, none⟩) (r :: rs).length cap → d = .sl rows0 → Rd w0 v d bs0 → b ∈ bs0 := by
          intro v d hv hd h
          cases h <;> simp only [reduceCtorEq, D.sl.injEq, Value.slice.injEq, Option.some.injEq, Addr.mk.injEq] at hd hv
          case slNil => exact hv.1.elim
          case slEmpty a cap' _ => simp at hv
          case sl b' off' cap' sz' rows' cs' bs' _ _ _ _ _ _ =>
            obtain ⟨⟨rfl, _⟩, _⟩ := hv
            simp
        exact key2 _ _ rfl rfl h0
  exact key _ rfl h1

theorem Sim.untf (hs : Sim Γ st κ Θ a w) {n e sz : Nat} {toks : List (List D)} (hH : st.H[n]? = some (.tf e sz toks)) (he : uqT e = true) {u : Value} {rows0 rows : List (List D)} {fl : List D} (hO : OldC Γ u rows0) (hrw : D.flatRows rows = true) (h0 : st.H[0]? = some (.pbx (.sl rows :: fl) u))
    (hfl : fl.all D.flat = true) (hσ : (st.σ.all fun p => thinC p.2) = true) (hT : thinH n 0 st.H = true) :
    ∃ Θ', Sim Γ ⟨st.σ, st.H.set n (.row .uq e sz toks)⟩ κ Θ' a w := by
  obtain ⟨ρ, hu⟩ := hs.uniq
  obtain ⟨v, bs, hkn, hfull, hlt, hnd, hρ⟩ := hu.more n _ hH
  have hnl : n < st.H.length := (List.getElem?_eq_some_iff.1 hH).1
  rcases hfull with ⟨h, _⟩ | ⟨rows2, cs2, ns, hrows2, p1, p2, p3, p4, rfl⟩
  · cases h
  cases hrows2
  simp only at p1 p2 p3
  obtain ⟨hnd1, hnd2, hnd3⟩ := List.nodup_append.1 hnd
  let Θ' : Nat → Nat := fun b => if v.ownBlock = some b then n + 2 else Θ b
  let ρ' : Nat → Nat := fun b => if v.ownBlock = some b then 0 else ρ b
  have htopρ : ∀ b, v.ownBlock = some b → ρ b = n + 1 := fun b hb => hρ b (List.mem_append.2 (.inl (by simp [hb])))
  have htopz : ∀ b, v.ownBlock = some b → Θ b = 0 := fun b hb => (hu.free b (by rw [htopρ b hb]; omega)).1
  have htopm : ∀ b, v.ownBlock = some b → Mine Γ b := fun b hb => by
    rcases (hu.free b (by rw [htopρ b hb]; omega)).2.1 with h | h
    · exact h
    · exact absurd h (hO.1 b)
  have hother : ∀ b, Θ b ≠ 0 → Θ' b = Θ b := fun b hb => if_neg fun h => hb (htopz b h)
  have hother2 : ∀ b, ρ b ≠ n + 1 → Θ' b = Θ b ∧ ρ' b = ρ b := fun b hb => ⟨if_neg fun h => hb (htopρ b h), if_neg fun h => hb (htopρ b h)⟩
  have key : ∀ (j : Nat) x, (st.H.set n (.row .uq e sz toks))[j]? = some x → (j = n ∧ x = .row .uq e sz toks) ∨ (j ≠ n ∧ st.H[j]? = some x) := fun j x hj => set_key j x hj
  have hnsz : ∀ b ∈ ns, Θ b = 0 ∧ v.ownBlock ≠ some b := fun b hb => ⟨(hu.free b (by rw [hρ b (List.mem_append.2 (.inr hb))]; omega)).1, fun h => hnd3 b (by simp [h]) b hb rfl⟩
  have hrow : ∀ (j e2 sz2 : Nat) rows2, j ≠ n → st.H[j]? = some (.row .uq e2 sz2 rows2) → ∃ v cs bs, κ j = some v ∧ w.ownsRow 0 e2 sz2 v rows2.length cs ∧ RdF w (fcol e2) 0 cs rows2.flatten bs ∧ bs.Nodup ∧ ∀ b ∈ bs, ρ' b = j + 1 ∧ Θ' b = 0 := by
    intro j e2 sz2 rows2 hj hjH
    obtain ⟨v2, c2, b2, q1, q2, q3, q4, q5⟩ := hu.rows j e2 sz2 rows2 hjH
    refine ⟨v2, c2, b2, q1, q2, q3, q4, fun b hb => ?_⟩
    have hb' := q5 b hb
    obtain ⟨r1, r2⟩ := hother2 b (by omega)
    exact ⟨r2.trans hb', r1.trans (hu.free b (by omega)).1⟩
  have hho : ∀ (j p m e2 sz2 : Nat) rows2, j ≠ n → st.H[j]? = some (.row (.ho p m) e2 sz2 rows2) → ∃ v cs bs, κ j = some v ∧ w.ownsRow 0 e2 sz2 v rows2.length cs ∧ RdF w (fcol e2) 0 cs rows2.flatten bs ∧ bs.Nodup ∧ (∀ b ∈ bs, ρ' b = j + 1 ∧ Θ' b = 0) ∧ ∃ c, cs[p]? = some c ∧ κ m = some c := by
    intro j p m e2 sz2 rows2 hj hjH
    obtain ⟨v2, c2, b2, q1, q2, q3, q4, q5, q6⟩ := hu.more j _ hjH
    refine ⟨v2, c2, b2, q1, q2, q3, q4, fun b hb => ?_, q6⟩
    have hb' := q5 b hb
    obtain ⟨r1, r2⟩ := hother2 b (by omega)
    exact ⟨r2.trans hb', r1.trans (hu.free b (by omega)).1⟩
  refine ⟨Θ', hs.defers, hs.size, fun i hi => hs.kout i (by simpa using hi), hs.kone, fun t => ?_, fun j o hj => ?_, fun b hb => ?_, fun b hb hx => ?_, fun b hb => ?_, hs.stays, ρ', fun b hb => ?_, fun j e2 sz2 rows2 hj => ?_, fun j o hj => ?_⟩
  · obtain ⟨bs, hr, _⟩ := hs.slot t
    have := thinS_nil hr (thin_lk hσ)
    subst this
    exact ⟨[], hr, by simp⟩
  · rcases key j o hj with ⟨rfl, rfl⟩ | ⟨hjn, hj'⟩
    · exact ⟨p1, p2, v, cs2, ns, hkn, p3, p4, fun g hg => if_pos hg, fun b hb => (if_neg (hnsz b hb).2).trans (hnsz b hb).1⟩
    · have hob := hs.ob j o hj'
      have hth := thinH_get hT hj'
      cases o with
      | gone => trivial
      | tk r => simp [thinO] at hth
      | lent s r u => simp [thinO] at hth
      | hole s r u p q => simp [thinO] at hth
      | tf e2 s2 r => simp only [thinO, Nat.zero_add, beq_iff_eq] at hth; exact absurd hth hjn
      | mp kv =>
        obtain ⟨g, es, c, q1, q2, q3, q4⟩ := hob
        exact ⟨g, es, c, q1, q2, (hother g (by omega)).trans q3, q4⟩
      | box cells =>
        obtain ⟨g, cs, T, q1, q2, q3, bs, q4, q5⟩ := hob
        have := thinCs_nil q4 hth
        subst this
        exact ⟨g, cs, T, q1, q2, (hother g (by omega)).trans q3, [], q4, by simp⟩
      | pbx cells u2 =>
        simp only [thinO, Nat.zero_add, beq_iff_eq] at hth
        subst hth
        rw [h0] at hj'; cases hj'
        obtain ⟨hK, g, cs, T, q1, q2, q3, bs, q4, q5⟩ := hob
        obtain ⟨_, c, bs0, r1, r2, r3⟩ := hO
        obtain ⟨z1, z2⟩ := hK.2 c r1 g cs T q1 q2
        refine ⟨hK, g, cs, T, q1, q2, (hother g (by omega)).trans q3, ?_⟩
        have hb0 : ∀ b ∈ bs0, w.heap[b]? = Γ.W0.heap[b]? ∧ Θ' b = 0 := by
          intro b hb
          obtain ⟨s1, s2, s3⟩ := r3 b hb
          refine ⟨hs.stays.block b s1 s2, ?_⟩
          have hne : ¬ v.ownBlock = some b := fun h => by
            rcases htopm b h with h | h
            · omega
            · exact s2 h
          exact (if_neg hne).trans ((hs.old b s1 s2).1.trans s3)
        rw [← Array.getElem?_toList] at z2
        generalize cs.toList = l at q4 z2
        cases q4 with
        | cons x xs _ _ b1 b2 k1 k2 k3 =>
          simp at z2; subst z2
          have r2w : Rd w x (.sl _) bs0 := r2.keep fun b hb => (hb0 b hb).1
          obtain ⟨bs4, r4, r5⟩ := r2w.again (by cases k2 with | pure h => exact h) hrw
          have hb2 : b2 = [] := thinCs_nil k3 (by
            rw [List.all_eq_true] at hfl ⊢
            intro d hd
            have := hfl d hd
            cases d <;> first | rfl | (simp [D.flat] at this))
          subst hb2
          exact ⟨bs4 ++ [], .cons _ _ _ _ _ _ k1 (.pure r4) k3, fun b hb => (hb0 b (r5 b (by simpa using hb))).2⟩
      | row k e2 sz2 rows2 =>
        obtain ⟨q1, q2, v2, cs3, bs3, q3, q4, q5, q6, q7⟩ := hob
        cases k with
        | sh => simp [thinO] at hth
        | mv m => simp [thinO] at hth
        | cl =>
          refine ⟨q1, q2, v2, cs3, bs3, q3, q4, q5, fun g hg => (hother g (by rw [q6 g hg]; omega)).trans (q6 g hg), q7.1, fun b hb => ⟨(hother b (by rw [(q7.2.1 b hb).1]; omega)).trans (q7.2.1 b hb).1, (q7.2.1 b hb).2⟩, q7.2.2⟩
        | uq =>
          obtain ⟨v4, c4, b4, r1, r2, r3, r4, r5⟩ := hrow j e2 sz2 rows2 hjn hj'
          rw [q3] at r1; cases r1
          exact ⟨q1, q2, v2, c4, b4, q3, r2, r3.rd, fun g hg => (hother g (by rw [q6 g hg]; omega)).trans (q6 g hg), fun b hb => (r5 b hb).2⟩
        | ho p m =>
          obtain ⟨v4, c4, b4, r1, r2, r3, r4, r5, _⟩ := hho j p m e2 sz2 rows2 hjn hj'
          rw [q3] at r1; cases r1
          exact ⟨q1, q2, v2, c4, b4, q3, r2, r3.rd, fun g hg => (hother g (by rw [q6 g hg]; omega)).trans (q6 g hg), fun b hb => (r5 b hb).2⟩
  · simp only [Θ'] at hb
    split at hb
    · rename_i h
      exact hlt b (List.mem_append.2 (.inl (by simp [h])))
    · exact hs.own b hb
  · have hne : ¬ v.ownBlock = some b := fun h => by
      rcases htopm b h with h | h
      · omega
      · exact hx h
    have e1 : Θ' b = Θ b := if_neg hne
    rw [e1]; exact hs.old b hb hx
  · by_cases h : v.ownBlock = some b
    · exact htopm b h
    · have e1 : Θ' b = Θ b := if_neg h
      rw [e1] at hb; exact hs.mine b hb
  · by_cases h : v.ownBlock = some b
    · exact absurd (if_pos h) hb
    · have e1 : Θ' b = Θ b := if_neg h
      have e2 : ρ' b = ρ b := if_neg h
      rw [e2] at hb; rw [e1]; exact hu.free b hb
  · rcases key j _ hj with ⟨rfl, h1⟩ | ⟨hjn, hj'⟩
    · simp only [Ob.row.injEq, true_and] at h1
      obtain ⟨rfl, rfl, rfl⟩ := h1
      exact ⟨v, cs2, ns, hkn, p3, .of p4 (fcol_none (uqT_none he)), hnd2, fun b hb => (if_neg (hnsz b hb).2).trans (hρ b (List.mem_append.2 (.inr hb)))⟩
    · obtain ⟨v4, c4, b4, r1, r2, r3, r4, r5⟩ := hrow j e2 sz2 rows2 hjn hj'
      exact ⟨v4, c4, b4, r1, r2, r3, r4, fun b hb => (r5 b hb).1⟩
  · rcases key j o hj with ⟨rfl, rfl⟩ | ⟨hjn, hj'⟩
    · exact UqM.plain2 rfl
    · have hth := thinH_get hT hj'
      cases o with
      | row k e2 sz2 rows2 =>
        cases k with
        | mv m => simp [thinO] at hth
        | ho p m =>
          obtain ⟨v4, c4, b4, r1, r2, r3, r4, r5, r6⟩ := hho j p m e2 sz2 rows2 hjn hj'
          exact ⟨v4, c4, b4, r1, r2, r3, r4, fun b hb => (r5 b hb).1, r6⟩
        | _ => trivial
      | tk r => simp [thinO] at hth
      | tf e2 s2 r => simp only [thinO, Nat.zero_add, beq_iff_eq] at hth; exact absurd hth hjn
      | _ => trivial

theorem AW_take {c : Code} {Q : Exit → St → Prop} {m e sz i off e' sz' : Nat} {rows toks : List (List D)} {r : List D} {u : Value} {rows0 rows1 : List (List D)} {fl : List D} (hO : OldC Γ u rows0) (hrw : D.flatRows rows1 = true) (hr : rows[i]? = some r) (hH : st.H[m]? = some (.row .uq e sz rows)) (hd : r[off]? = some (.sl toks)) (h0 : st.H[0]? = some (.pbx (.sl rows1 :: fl) u))
    (hfk : fok e sz = true) (hf : fcol e off = some (e', sz')) (he : uqT e' = true) (hfl : fl.all D.flat = true) (hσ : (st.σ.all fun p => thinC p.2) = true) (hT : thinH st.H.length 0 (st.H.set m (.row (.ho (i * sz + off) st.H.length) e sz (rows.set i (r.set off .any))) ++ [.tf e' sz' toks]) = true)
    (h : AW P Γ c Q ⟨st.σ, st.H.set m (.row (.ho (i * sz + off) st.H.length) e sz (rows.set i (r.set off .any))) ++ [.row .uq e' sz' toks]⟩) : AW P Γ c Q st := by
  intro κ Θ a w hs
  obtain ⟨κ1, hs1⟩ := hs.ghost hH hr hd hfk hf
  have hlen : (st.H.set m (.row (.ho (i * sz + off) st.H.length) e sz (rows.set i (r.set off .any)))).length = st.H.length := List.length_set
  have hm0 : m ≠ 0 := fun h => by subst h; rw [hH] at h0; cases h0
  have h0l : 0 < st.H.length := (List.getElem?_eq_some_iff.1 h0).1
  obtain ⟨Θ2, hs2⟩ := hs1.untf (n := st.H.length) (e := e') (sz := sz') (toks := toks) (by rw [List.getElem?_append_right (by omega), hlen]; simp) he hO hrw (fl := fl) (by rw [List.getElem?_append_left (by omega), List.getElem?_set_ne hm0]; exact h0) hfl hσ hT
  have e1 : (st.H.set m (.row (.ho (i * sz + off) st.H.length) e sz (rows.set i (r.set off .any))) ++ [Ob.tf e' sz' toks]).set st.H.length (.row .uq e' sz' toks) = st.H.set m (.row (.ho (i * sz + off) st.H.length) e sz (rows.set i (r.set off .any))) ++ [.row .uq e' sz' toks] := by
    rw [List.set_append_right _ _ (by omega), hlen]; simp
  rw [e1] at hs2
  exact h κ1 Θ2 a w hs2
end
end Go.Cx
