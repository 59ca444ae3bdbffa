/- The core of an abstract reading of Go's data: what a value shows in memory (D), which blocks it uses, and that this stays where those blocks stay. No condition; plain lemmas. -/
import Derived.WalkKit
import Derived.ProofKit
import Derived.Deep.LoopGhost
namespace Go.Cx
set_option linter.unusedVariables false
set_option linter.unusedSimpArgs false
open Go.RowKit

abbrev Bytes := List UInt8

/-- What a value shows. 'any': nothing is said. 'sl': a slice whose shown rows never change. 'acc', 'ptr', 'op': names of the call's own objects. 'fr': a slice that is handed over, new and whole; 'pt': a pointer to a variable that is lent (both in contracts alone). 'ifc': an interface's value, nil (false) or not. -/
inductive D where
  | any
  | nil
  | int (k : IntKind) (n : Int)
  | bool (b : Bool)
  | str (s : Bytes)
  | sl (rows : List (List D))
  | agg (cells : List D)
  | tup (vs : List D)
  | ep (row : List D) (off : Nat)
  | acc (id : Nat)
  | ptr (id off : Nat)
  | op (id i sz off : Nat)
  | val (v : Value)
  | fr (e : TypeId) (sz : Nat) (rows : List (List D))
  | fs (e : TypeId) (sz : Nat) (rows : List (List D))
  | pt (cells : List D)
  | ifc (b : Bool)

/-- a number that its kind can hold -/
def InR (k : IntKind) (n : Int) : Prop := k.min ≤ n ∧ n ≤ k.max
instance (k : IntKind) (n : Int) : Decidable (InR k n) := by unfold InR; infer_instance

theorem InR.wrap (k : IntKind) (n : Int) : InR k (k.wrap n) := by
  unfold InR
  cases k <;> simp [IntKind.min, IntKind.max, IntKind.wrap, IntKind.bits, IntKind.signed] <;> (try split) <;> omega
theorem InR.i64 {n : Int} : InR .i64 n ↔ -9223372036854775808 ≤ n ∧ n ≤ 9223372036854775807 := by
  simp [InR, IntKind.min, IntKind.max, IntKind.bits, IntKind.signed]
theorem InR.u8 {n : Int} : InR .u8 n ↔ 0 ≤ n ∧ n ≤ 255 := by
  simp [InR, IntKind.min, IntKind.max, IntKind.bits, IntKind.signed]
theorem InR.zero (k : IntKind) : InR k 0 := by
  unfold InR; cases k <;> simp [IntKind.min, IntKind.max, IntKind.bits, IntKind.signed]
theorem InR.down {k : IntKind} {n m : Int} (h : InR k n) (h0 : 0 ≤ m) (h1 : m ≤ n) : InR k m :=
  ⟨Int.le_trans (InR.zero k).1 h0, Int.le_trans h1 h.2⟩

mutual
/-- 'Rd w v d bs': in the world w the value v shows d, and reads the blocks bs for it. -/
inductive Rd (w : World) : Value → D → List Nat → Prop
  | any (v : Value) : Rd w v .any []
  | nil : Rd w (.slice none 0 0) .nil []
  | int (k : IntKind) (n : Int) : InR k n → Rd w (.int k n) (.int k n) []
  | bool (b : Bool) : Rd w (.bool b) (.bool b) []
  | str (s : ByteArray) : s.size ≤ maxLen → Rd w (.string s) (.str s.data.toList) []
  | val (v : Value) : Rd w v (.val v) []
  | slNil : Rd w (.slice none 0 0) (.sl []) []
  | slEmpty (a : Addr) (cap : Nat) : cap ≤ maxLen → Rd w (.slice (some a) 0 cap) (.sl []) []
  | sl (b off cap sz : Nat) (rows : List (List D)) (cs : List Value) (bs : List Nat) : b < w.heap.size → rows.length ≤ cap → cap ≤ maxLen →
      (∀ r ∈ rows, r.length = sz) → (∀ j c, cs[j]? = some c → w.cell? ⟨b, off + j, none⟩ = some c) → Rds w cs rows.flatten bs →
      Rd w (.slice (some ⟨b, off, none⟩) rows.length cap) (.sl rows) (b :: bs)
  | agg (cs : List Value) (ds : List D) (bs : List Nat) : Rds w cs ds bs → Rd w (.agg cs.toArray) (.agg ds) bs
  | ep (b off : Nat) (cs : List Value) (row : List D) (o : Nat) (bs : List Nat) : b < w.heap.size → (∀ j c, cs[j]? = some c → w.cell? ⟨b, off + j, none⟩ = some c) →
      Rds w cs row bs → Rd w (.pointer (some ⟨b, off + o, none⟩)) (.ep row o) (b :: bs)
  | ifc0 : Rd w .nilIface (.ifc false) []
  | ifc1 (t : TypeId) (v : Value) : Rd w (.iface t v) (.ifc true) []
/-- a list of cells -/
inductive Rds (w : World) : List Value → List D → List Nat → Prop
  | nil : Rds w [] [] []
  | cons (v : Value) (vs : List Value) (d : D) (ds : List D) (b1 b2 : List Nat) : v.oneCell' = true → Rd w v d b1 → Rds w vs ds b2 → Rds w (v :: vs) (d :: ds) (b1 ++ b2)
end

section
variable {w w' : World}

theorem cell_same {b o : Nat} (h : w'.heap[b]? = w.heap[b]?) : w'.cell? ⟨b, o, none⟩ = w.cell? ⟨b, o, none⟩ := World.cell?_of_block (a := ⟨b, o, none⟩) h

theorem lt_same {b : Nat} (hb : b < w.heap.size) (h : w'.heap[b]? = w.heap[b]?) : b < w'.heap.size := by
  rw [Array.getElem?_eq_getElem hb] at h
  exact (Array.getElem?_eq_some_iff.1 h).1

theorem keep_both :
    (∀ {v d bs}, Rd w v d bs → (∀ b ∈ bs, w'.heap[b]? = w.heap[b]?) → Rd w' v d bs) ∧
    (∀ {vs ds bs}, Rds w vs ds bs → (∀ b ∈ bs, w'.heap[b]? = w.heap[b]?) → Rds w' vs ds bs) := by
  have key : ∀ (m1 : ∀ v d bs, Rd w v d bs → Prop) (m2 : ∀ vs ds bs, Rds w vs ds bs → Prop),
      m1 = (fun v d bs _ => (∀ b ∈ bs, w'.heap[b]? = w.heap[b]?) → Rd w' v d bs) → m2 = (fun vs ds bs _ => (∀ b ∈ bs, w'.heap[b]? = w.heap[b]?) → Rds w' vs ds bs) →
      (∀ v d bs h, m1 v d bs h) ∧ (∀ vs ds bs h, m2 vs ds bs h) := by
    intro m1 m2 e1 e2
    subst e1; subst e2
    constructor
    all_goals intro v d bs h
    · refine Rd.rec (motive_1 := fun v d bs _ => (∀ b ∈ bs, w'.heap[b]? = w.heap[b]?) → Rd w' v d bs) (motive_2 := fun vs ds bs _ => (∀ b ∈ bs, w'.heap[b]? = w.heap[b]?) → Rds w' vs ds bs) ?_ ?_ ?_ ?_ ?_ ?_ ?_ ?_ ?_ ?_ ?_ ?_ ?_ ?_ ?_ h
      · intro v _; exact .any _
      · intro _; exact .nil
      · intro k n h _; exact .int _ _ h
      · intro b _; exact .bool _
      · intro s h _; exact .str _ h
      · intro v _; exact .val _
      · intro _; exact .slNil
      · intro a cap h _; exact .slEmpty a cap h
      · intro b off cap sz rows cs bs h0 h1 h2 h3 h4 _ ih hb
        exact .sl b off cap sz rows cs bs (lt_same h0 (hb b (by simp))) h1 h2 h3 (fun j c hc => (cell_same (hb b (by simp))).trans (h4 j c hc)) (ih (fun x hx => hb x (by simp [hx])))
      · intro cs ds bs _ ih hb; exact .agg cs ds bs (ih hb)
      · intro b off cs row o bs h0 h4 _ ih hb
        exact .ep b off cs row o bs (lt_same h0 (hb b (by simp))) (fun j c hc => (cell_same (hb b (by simp))).trans (h4 j c hc)) (ih (fun x hx => hb x (by simp [hx])))
      · intro _; exact .ifc0
      · intro t v _; exact .ifc1 t v
      · intro _; exact .nil
      · intro v vs d ds b1 b2 h1 _ _ ih1 ih2 hb; exact .cons v vs d ds b1 b2 h1 (ih1 (fun x hx => hb x (by simp [hx]))) (ih2 (fun x hx => hb x (by simp [hx])))
    · refine Rds.rec (motive_1 := fun v d bs _ => (∀ b ∈ bs, w'.heap[b]? = w.heap[b]?) → Rd w' v d bs) (motive_2 := fun vs ds bs _ => (∀ b ∈ bs, w'.heap[b]? = w.heap[b]?) → Rds w' vs ds bs) ?_ ?_ ?_ ?_ ?_ ?_ ?_ ?_ ?_ ?_ ?_ ?_ ?_ ?_ ?_ h
      · intro v _; exact .any _
      · intro _; exact .nil
      · intro k n h _; exact .int _ _ h
      · intro b _; exact .bool _
      · intro s h _; exact .str _ h
      · intro v _; exact .val _
      · intro _; exact .slNil
      · intro a cap h _; exact .slEmpty a cap h
      · intro b off cap sz rows cs bs h0 h1 h2 h3 h4 _ ih hb
        exact .sl b off cap sz rows cs bs (lt_same h0 (hb b (by simp))) h1 h2 h3 (fun j c hc => (cell_same (hb b (by simp))).trans (h4 j c hc)) (ih (fun x hx => hb x (by simp [hx])))
      · intro cs ds bs _ ih hb; exact .agg cs ds bs (ih hb)
      · intro b off cs row o bs h0 h4 _ ih hb
        exact .ep b off cs row o bs (lt_same h0 (hb b (by simp))) (fun j c hc => (cell_same (hb b (by simp))).trans (h4 j c hc)) (ih (fun x hx => hb x (by simp [hx])))
      · intro _; exact .ifc0
      · intro t v _; exact .ifc1 t v
      · intro _; exact .nil
      · intro v vs d ds b1 b2 h1 _ _ ih1 ih2 hb; exact .cons v vs d ds b1 b2 h1 (ih1 (fun x hx => hb x (by simp [hx]))) (ih2 (fun x hx => hb x (by simp [hx])))
  obtain ⟨k1, k2⟩ := key _ _ rfl rfl
  exact ⟨fun h => k1 _ _ _ h, fun h => k2 _ _ _ h⟩

theorem Rd.keep {v : Value} {d : D} {bs : List Nat} (h : Rd w v d bs) (hb : ∀ b ∈ bs, w'.heap[b]? = w.heap[b]?) : Rd w' v d bs := keep_both.1 h hb
theorem Rds.keep {vs : List Value} {ds : List D} {bs : List Nat} (h : Rds w vs ds bs) (hb : ∀ b ∈ bs, w'.heap[b]? = w.heap[b]?) : Rds w' vs ds bs := keep_both.2 h hb

theorem Rd.lt {v : Value} {d : D} {bs : List Nat} (h : Rd w v d bs) : ∀ b ∈ bs, b < w.heap.size := by
  refine Rd.rec (motive_1 := fun v d bs _ => ∀ b ∈ bs, b < w.heap.size) (motive_2 := fun vs ds bs _ => ∀ b ∈ bs, b < w.heap.size) ?_ ?_ ?_ ?_ ?_ ?_ ?_ ?_ ?_ ?_ ?_ ?_ ?_ ?_ ?_ h
  case refine_9 =>
    intro b off cap sz rows cs bs h0 h1 h2 h3 h4 _ ih x hx
    rcases List.mem_cons.1 hx with rfl | hx
    · exact h0
    · exact ih x hx
  case refine_10 => intro cs ds bs _ ih; exact ih
  case refine_11 =>
    intro b off cs row o bs h0 h4 _ ih x hx
    rcases List.mem_cons.1 hx with rfl | hx
    · exact h0
    · exact ih x hx
  case refine_15 =>
    intro v vs d ds b1 b2 h1 _ _ ih1 ih2 x hx
    rcases List.mem_append.1 hx with hx | hx
    · exact ih1 x hx
    · exact ih2 x hx
  all_goals intros; simp_all

theorem Rds.lt {vs : List Value} {ds : List D} {bs : List Nat} (h : Rds w vs ds bs) : ∀ b ∈ bs, b < w.heap.size := by
  induction ds generalizing vs bs with
  | nil => cases h; simp
  | cons d ds ih =>
    cases h with
    | cons v vs _ _ b1 b2 h1 h2 h3 =>
      intro x hx
      rcases List.mem_append.1 hx with hx | hx
      · exact h2.lt x hx
      · exact ih h3 x hx

theorem Rds.length {vs : List Value} {ds : List D} {bs : List Nat} (h : Rds w vs ds bs) : vs.length = ds.length := by
  induction ds generalizing vs bs with
  | nil => cases h; rfl
  | cons d ds ih => cases h with | cons v vs _ _ b1 b2 h1 h2 h3 => simp [ih h3]

theorem Rds.one {vs : List Value} {ds : List D} {bs : List Nat} (h : Rds w vs ds bs) : ∀ v ∈ vs, v.oneCell' = true := by
  induction ds generalizing vs bs with
  | nil => cases h; simp
  | cons d ds ih =>
    cases h with
    | cons v vs _ _ b1 b2 h1 h2 h3 =>
      intro u hu
      rcases List.mem_cons.1 hu with rfl | hu
      · exact h1
      · exact ih h3 u hu

theorem Rds.app {vs us : List Value} {ds es : List D} {bs cs : List Nat} (h : Rds w vs ds bs) (k : Rds w us es cs) : Rds w (vs ++ us) (ds ++ es) (bs ++ cs) := by
  induction ds generalizing vs bs with
  | nil => cases h; simpa using k
  | cons d ds ih =>
    cases h with
    | cons v vs _ _ b1 b2 h1 h2 h3 =>
      rw [List.append_assoc]
      exact .cons _ _ _ _ _ _ h1 h2 (ih h3)

theorem Rds.split {vs : List Value} {ds es : List D} {bs : List Nat} (h : Rds w vs (ds ++ es) bs) :
    ∃ v1 v2 b1 b2, vs = v1 ++ v2 ∧ bs = b1 ++ b2 ∧ Rds w v1 ds b1 ∧ Rds w v2 es b2 := by
  induction ds generalizing vs bs with
  | nil => exact ⟨[], vs, [], bs, by simp, by simp, .nil, h⟩
  | cons d ds ih =>
    cases h with
    | cons v vs _ _ b1 b2 h1 h2 h3 =>
      obtain ⟨v1, v2, c1, c2, rfl, rfl, k1, k2⟩ := ih h3
      exact ⟨v :: v1, v2, b1 ++ c1, c2, by simp, by simp, .cons _ _ _ _ _ _ h1 h2 k1, k2⟩

/-- the cells of a list from place i on, n of them -/
theorem Rds.mid {vs : List Value} {ds : List D} {bs : List Nat} (h : Rds w vs ds bs) (i n : Nat) :
    ∃ b, Rds w ((vs.drop i).take n) ((ds.drop i).take n) b ∧ ∀ x ∈ b, x ∈ bs := by
  have e : ds = ds.take i ++ ((ds.drop i).take n ++ (ds.drop i).drop n) := by rw [List.take_append_drop, List.take_append_drop]
  rw [e] at h
  obtain ⟨v1, v2, b1, b2, rfl, rfl, k1, k2⟩ := h.split
  obtain ⟨v3, v4, b3, b4, rfl, rfl, k3, k4⟩ := k2.split
  refine ⟨b3, ?_, by intro x hx; simp [hx]⟩
  have l1 := k1.length
  have l3 := k3.length
  by_cases hi : i ≤ ds.length
  · have h1 : v1.length = i := by rw [l1]; simp [hi]
    rw [List.drop_left' h1]
    by_cases hn : n ≤ (ds.drop i).length
    · have h3 : v3.length = n := by rw [l3, List.length_take]; omega
      rw [List.take_left' h3]; exact k3
    · have h4 : v4.length = 0 := by rw [k4.length]; simp at hn ⊢; omega
      have h4' : v4 = [] := List.eq_nil_of_length_eq_zero h4
      subst h4'
      have h3 : v3.length ≤ n := by rw [l3, List.length_take]; omega
      simp only [List.append_nil]
      rw [List.take_of_length_le h3]; exact k3
  · have h5 : ds.drop i = [] := List.drop_eq_nil_of_le (by omega)
    rw [h5] at k3 k4 ⊢
    simp only [List.take_nil, List.drop_nil] at k3 k4 ⊢
    cases k3
    cases k4
    have h1 : v1.length ≤ i := by rw [l1]; simp; omega
    simp [List.drop_of_length_le h1]
    exact .nil

theorem Rds.at {vs : List Value} {ds : List D} {bs : List Nat} (h : Rds w vs ds bs) {i : Nat} {d : D} (hd : ds[i]? = some d) :
    ∃ v b, vs[i]? = some v ∧ v.oneCell' = true ∧ Rd w v d b ∧ ∀ x ∈ b, x ∈ bs := by
  induction ds generalizing vs bs i with
  | nil => simp at hd
  | cons e ds ih =>
    cases h with
    | cons v vs _ _ b1 b2 h1 h2 h3 =>
      cases i with
      | zero => simp at hd; subst hd; exact ⟨v, b1, by simp, h1, h2, by intro x hx; simp [hx]⟩
      | succ i =>
        simp at hd
        obtain ⟨u, b, k1, k2, k3, k4⟩ := ih h3 hd
        exact ⟨u, b, by simpa using k1, k2, k3, fun x hx => by simp [k4 x hx]⟩
end

theorem flatten_len {α : Type} {rows : List (List α)} {sz : Nat} (h : ∀ r ∈ rows, r.length = sz) : rows.flatten.length = rows.length * sz := by
  induction rows with
  | nil => simp
  | cons r rows ih =>
    simp only [List.flatten_cons, List.length_append, List.length_cons]
    rw [ih (fun x hx => h x (by simp [hx])), h r (by simp), Nat.add_mul]; omega

theorem flatten_mid {α : Type} {rows : List (List α)} {sz : Nat} (h : ∀ r ∈ rows, r.length = sz) {i : Nat} {r : List α} (hr : rows[i]? = some r) :
    (rows.flatten.drop (i * sz)).take sz = r := by
  induction rows generalizing i with
  | nil => simp at hr
  | cons s rows ih =>
    have hs := h s (by simp)
    cases i with
    | zero =>
      simp at hr; subst hr
      simp only [Nat.zero_mul, List.drop_zero, List.flatten_cons]
      exact List.take_left' hs
    | succ i =>
      simp only [List.getElem?_cons_succ] at hr
      have := ih (fun x hx => h x (by simp [hx])) hr
      rw [List.flatten_cons, Nat.add_mul, Nat.one_mul, Nat.add_comm, ← List.drop_drop, List.drop_left' hs]
      exact this

/-! slices nested in rows, of which the block is as long as the capacity says -/
/-- of rows of type e: their width, a column, and the element's type and width of the slices in that column -/
def fspec (e : TypeId) : Option (Nat × Nat × TypeId × Nat) := none
def fcol (e : TypeId) (i : Nat) : Option (TypeId × Nat) := match fspec e with
  | some (m, off, t) => if i % m = off then some t else none
  | none => none
def fok (e : TypeId) (sz : Nat) : Bool := match fspec e with
  | some (m, _, _) => m == sz
  | none => true
theorem fcol_none {e : TypeId} (h : fspec e = none) (i : Nat) : fcol e i = none := by simp [fcol, h]
theorem fcol_shift {e : TypeId} {sz : Nat} (h : fok e sz = true) (i n : Nat) : fcol e (i + n * sz) = fcol e i := by
  unfold fcol
  unfold fok at h
  cases hf : fspec e with
  | none => rfl
  | some x =>
    obtain ⟨m, off, t⟩ := x
    rw [hf] at h
    have e1 : m = sz := by simpa using h
    subst e1
    simp only [Nat.add_mul_mod_self_right]

section
variable {w w' : World}
/-- a full slice in a cell -/
def FullC (w : World) (t : TypeId × Nat) (v : Value) (d : D) (bs : List Nat) : Prop :=
  (d = .any ∧ bs = []) ∨ ∃ rows cs ns, d = .sl rows ∧ 0 < t.2 ∧ (∀ r ∈ rows, r.length = t.2) ∧ w.ownsRow 0 t.1 t.2 v rows.length cs ∧ Rds w cs rows.flatten ns ∧ bs = v.ownBlock.toList ++ ns

theorem ownsRow_same {e : TypeId} {sz n : Nat} {v : Value} {cs : List Value} (h : w.ownsRow 0 e sz v n cs) (hb : ∀ g, v.ownBlock = some g → w'.heap[g]? = w.heap[g]?) : w'.ownsRow 0 e sz v n cs := by
  refine ⟨h.1, ?_⟩
  rcases h.2 with hn | ⟨g, cap, cur, rfl, h1, h2, rest⟩
  · exact .inl hn
  · exact .inr ⟨g, cap, cur, rfl, h1, (hb g (by simp [Value.ownBlock])).trans h2, rest⟩

theorem FullC.keep {t : TypeId × Nat} {v : Value} {d : D} {bs : List Nat} (h : FullC w t v d bs) (hb : ∀ b ∈ bs, w'.heap[b]? = w.heap[b]?) : FullC w' t v d bs := by
  rcases h with h | ⟨rows, cs, ns, rfl, h1, h2, h3, h4, rfl⟩
  · exact .inl h
  · exact .inr ⟨rows, cs, ns, rfl, h1, h2, ownsRow_same h3 (fun g hg => hb g (by simp [hg])), h4.keep (fun b hx => hb b (by simp [hx])), rfl⟩

/-- a list of cells, with what is told of the full ones -/
inductive RdF (w : World) (f : Nat → Option (TypeId × Nat)) : Nat → List Value → List D → List Nat → Prop
  | nil (i : Nat) : RdF w f i [] [] []
  | cons (i : Nat) (v : Value) (vs : List Value) (d : D) (ds : List D) (b1 b2 : List Nat) : v.oneCell' = true → Rd w v d b1 → (∀ t, f i = some t → FullC w t v d b1) → RdF w f (i + 1) vs ds b2 → RdF w f i (v :: vs) (d :: ds) (b1 ++ b2)

variable {f : Nat → Option (TypeId × Nat)}
theorem RdF.rd {i : Nat} {vs : List Value} {ds : List D} {bs : List Nat} (h : RdF w f i vs ds bs) : Rds w vs ds bs := by
  induction ds generalizing vs bs i with
  | nil => cases h; exact .nil
  | cons d ds ih => cases h with | cons _ v vs _ _ b1 b2 h1 h2 _ h3 => exact .cons _ _ _ _ _ _ h1 h2 (ih h3)
theorem RdF.of {i : Nat} {vs : List Value} {ds : List D} {bs : List Nat} (h : Rds w vs ds bs) (hf : ∀ j, f j = none) : RdF w f i vs ds bs := by
  induction ds generalizing vs bs i with
  | nil => cases h; exact .nil _
  | cons d ds ih => cases h with | cons v vs _ _ b1 b2 h1 h2 h3 => exact .cons _ _ _ _ _ _ _ h1 h2 (fun t ht => by rw [hf] at ht; cases ht) (ih h3)
theorem RdF.keep {i : Nat} {vs : List Value} {ds : List D} {bs : List Nat} (h : RdF w f i vs ds bs) (hb : ∀ b ∈ bs, w'.heap[b]? = w.heap[b]?) : RdF w' f i vs ds bs := by
  induction ds generalizing vs bs i with
  | nil => cases h; exact .nil _
  | cons d ds ih =>
    cases h with
    | cons _ v vs _ _ b1 b2 h1 h2 h4 h3 =>
      exact .cons _ _ _ _ _ _ _ h1 (h2.keep (fun b hx => hb b (by simp [hx]))) (fun t ht => (h4 t ht).keep (fun b hx => hb b (by simp [hx]))) (ih h3 (fun b hx => hb b (by simp [hx])))
theorem RdF.lt {i : Nat} {vs : List Value} {ds : List D} {bs : List Nat} (h : RdF w f i vs ds bs) : ∀ b ∈ bs, b < w.heap.size := h.rd.lt
theorem RdF.length {i : Nat} {vs : List Value} {ds : List D} {bs : List Nat} (h : RdF w f i vs ds bs) : vs.length = ds.length := h.rd.length
theorem RdF.one {i : Nat} {vs : List Value} {ds : List D} {bs : List Nat} (h : RdF w f i vs ds bs) : ∀ v ∈ vs, v.oneCell' = true := h.rd.one
theorem RdF.app {i : Nat} {vs us : List Value} {ds es : List D} {bs cs : List Nat} (h : RdF w f i vs ds bs) (k : RdF w f (i + ds.length) us es cs) : RdF w f i (vs ++ us) (ds ++ es) (bs ++ cs) := by
  induction ds generalizing vs bs i with
  | nil => cases h; simpa using k
  | cons d ds ih =>
    cases h with
    | cons _ v vs _ _ b1 b2 h1 h2 h4 h3 =>
      rw [List.append_assoc]
      exact .cons _ _ _ _ _ _ _ h1 h2 h4 (ih h3 (by rw [List.length_cons] at k; rwa [show i + 1 + ds.length = i + (ds.length + 1) by omega]))
theorem RdF.split {i : Nat} {vs : List Value} {ds es : List D} {bs : List Nat} (h : RdF w f i vs (ds ++ es) bs) :
    ∃ v1 v2 b1 b2, vs = v1 ++ v2 ∧ bs = b1 ++ b2 ∧ RdF w f i v1 ds b1 ∧ RdF w f (i + ds.length) v2 es b2 := by
  induction ds generalizing vs bs i with
  | nil => exact ⟨[], vs, [], bs, by simp, by simp, .nil _, h⟩
  | cons d ds ih =>
    cases h with
    | cons _ v vs _ _ b1 b2 h1 h2 h4 h3 =>
      obtain ⟨v1, v2, c1, c2, rfl, rfl, k1, k2⟩ := ih h3
      exact ⟨v :: v1, v2, b1 ++ c1, c2, by simp, by simp, .cons _ _ _ _ _ _ _ h1 h2 h4 k1, by rw [List.length_cons]; rwa [show i + (ds.length + 1) = i + 1 + ds.length by omega]⟩
/-- the column is what counts -/
theorem RdF.at_ {i k : Nat} {vs : List Value} {ds : List D} {bs : List Nat} (h : RdF w f i vs ds bs) (hf : ∀ j, f (k + j) = f (i + j)) : RdF w f k vs ds bs := by
  induction ds generalizing vs bs i k with
  | nil => cases h; exact .nil _
  | cons d ds ih =>
    cases h with
    | cons _ v vs _ _ b1 b2 h1 h2 h4 h3 =>
      exact .cons _ _ _ _ _ _ _ h1 h2 (fun t ht => h4 t ((hf 0).symm.trans ht)) (ih h3 fun j => by rw [Nat.add_assoc, Nat.add_assoc]; exact hf (1 + j))
theorem RdF.rows {e : TypeId} {sz i n : Nat} {vs : List Value} {ds : List D} {bs : List Nat} (hk : fok e sz = true) (h : RdF w (fcol e) i vs ds bs) : RdF w (fcol e) (i + n * sz) vs ds bs :=
  h.at_ fun j => by rw [show i + n * sz + j = (i + j) + n * sz by omega]; exact fcol_shift hk _ _
theorem RdF.rows' {e : TypeId} {sz i n : Nat} {vs : List Value} {ds : List D} {bs : List Nat} (hk : fok e sz = true) (h : RdF w (fcol e) (i + n * sz) vs ds bs) : RdF w (fcol e) i vs ds bs :=
  h.at_ fun j => by rw [show i + n * sz + j = (i + j) + n * sz by omega]; exact (fcol_shift hk _ _).symm
end

end Go.Cx
