/- Plain laws on what the laws' own helpers compute: sizes, copies, equality. No condition; plain lemmas. -/
import Derived.Test.YtoeenpcilfhjbaaDoorNData
namespace Go.Cx
set_option linter.unusedVariables false
set_option linter.unusedSimpArgs false
open Go.RowKit Go.Proofs

theorem beq_dec {α : Type} [DecidableEq α] [BEq α] [LawfulBEq α] (a b : α) : (a == b) = decide (a = b) := by rw [Bool.eq_iff_iff]; simp
def RdbL (cs : List D) : Prop := ∀ d ∈ cs, Rdb d
theorem RdbL.row {α : Type} {c : α → List D} {l : List α} (h : Rdb (.sl (l.map c))) : ∀ x ∈ l, RdbL (c x) := fun x hx d hd => (Rdb.sl h).2 (c x) (List.mem_map.2 ⟨x, hx, rfl⟩) d hd
theorem Rdb.len {α : Type} {c : α → List D} {l : List α} (h : Rdb (.sl (l.map c))) : l.length ≤ maxLen := by have := (Rdb.sl h).1; simpa using this

theorem Good.of_rdb {P : Program} {f : FuncId} {ds : List D} {d : D} (hf : ∃ fn, P.funcs[f]? = some fn ∧ fn.body.isSome = true ∧ (fn.name == "runtime.NumGoroutine") = false) (h : RdbL ds → Good P f ds d) : Good P f ds d :=
  ⟨hf, fun w Θ args bs hv hargs h1 h2 h3 => (h hargs.rdb).2 w Θ args bs hv hargs h1 h2 h3⟩

abbrev Big : Int := 1048576
/-- how much the laws' size test counts: elements and bytes -/
def wtL {α : Type} (w : α → Nat) (l : List α) : Nat := l.length + (l.map w).sum
def tw (s : Bytes) : Nat := s.length
theorem wtL_nil {α : Type} (w : α → Nat) : wtL w [] = 0 := rfl
theorem wtL_cons {α : Type} (w : α → Nat) (x : α) (l : List α) : wtL w (x :: l) = 1 + w x + wtL w l := by simp [wtL]; omega
theorem wtL_append {α : Type} (w : α → Nat) (a b : List α) : wtL w (a ++ b) = wtL w a + wtL w b := by
  induction a with
  | nil => simp [wtL]
  | cons x a ih => rw [List.cons_append, wtL_cons, wtL_cons, ih]; omega
theorem wtL_len {α : Type} (w : α → Nat) (l : List α) : l.length ≤ wtL w l := by unfold wtL; omega
theorem wtL_mem {α : Type} {w : α → Nat} {l : List α} {x : α} (h : x ∈ l) : w x + 1 ≤ wtL w l := by
  induction l with
  | nil => cases h
  | cons y l ih =>
    rw [wtL_cons]
    rcases List.mem_cons.1 h with rfl | h
    · omega
    · have := ih h; omega
theorem wtL_both {α : Type} {w : α → Nat} {l : List α} {x : α} (h : x ∈ l) : w x + l.length ≤ wtL w l := by
  induction l with
  | nil => cases h
  | cons y l ih =>
    rw [wtL_cons, List.length_cons]
    rcases List.mem_cons.1 h with rfl | h
    · have := wtL_len w l; omega
    · have := ih h; omega
theorem wrapS {n : Nat} {v : Int} (hn : n ≤ maxLen) (h0 : 0 ≤ v) (h1 : v ≤ 1048576) : IntKind.i64.wrap (v - (n : Int)) = v - (n : Int) := by
  unfold maxLen at hn
  exact wrap_in (InR.i64.2 (by omega))

/-- a size test: what is left, or none; n was counted -/
def Szs (o : Option Int) (v : Int) (n : Nat) : Prop := ∃ r, o = some r ∧ r ≤ v ∧ (0 ≤ r → (n : Int) ≤ v - r)
theorem Szs.str {n m : Nat} {v : Int} {k : Option Int} (hn : n ≤ maxLen) (h0 : 0 ≤ v) (h1 : v ≤ 1048576) (hk : 0 ≤ v - (n : Int) → IntKind.i64.wrap (v - (n : Int)) = v - (n : Int) → Szs k (v - (n : Int)) m) :
    Szs (bif decide (IntKind.i64.wrap (v - (n : Int)) < 0) then some (-1) else k) v (n + m) := by
  have hw := wrapS hn h0 h1
  rw [hw]
  by_cases c : v - (n : Int) < 0
  · exact ⟨-1, by simp [c], by omega, by omega⟩
  · obtain ⟨r, e1, e2, e3⟩ := hk (by omega) hw
    exact ⟨r, by simp [c, e1], by omega, fun h => by have := e3 h; omega⟩
theorem Szs.sub {o : Option Int} {v : Int} {k : Int → Option Int} {n m : Nat} (h : Szs o v n) (h1 : v ≤ 1048576) (h0 : 0 ≤ v) (hk : ∀ r, 0 ≤ r → r ≤ 1048576 → Szs (k r) r m) :
    Szs (o.bind fun y => bif decide (y < 0) then some (-1) else k y) v (n + m) := by
  obtain ⟨r, e1, e2, e3⟩ := h
  rw [e1]
  by_cases c : r < 0
  · exact ⟨-1, by simp [c], by omega, by omega⟩
  · obtain ⟨r', q1, q2, q3⟩ := hk r (by omega) (by omega)
    exact ⟨r', by simp [c, q1], by omega, fun h => by have := e3 (by omega); have := q3 h; omega⟩
theorem Szs.fin {v : Int} : Szs (some v) v 0 := ⟨v, rfl, Int.le_refl _, fun _ => by omega⟩
theorem Szs.eq {o : Option Int} {v : Int} {n m : Nat} (h : Szs o v n) (e : n = m) : Szs o v m := e ▸ h

theorem szL {α : Type} {w : α → Nat} {f : α → Int → Option Int} (L : List α → Nat → Int → Option Int) (hnil : ∀ i v, L [] i v = some v)
    (hcons : ∀ x xs i v, L (x :: xs) i v = (f x v).bind fun y => bif decide (y < 0) then some (-1) else L xs (i + 1) y) :
    ∀ (l : List α), (∀ x ∈ l, ∀ v, 0 ≤ v → v ≤ 1048576 → Szs (f x v) v (w x)) → ∀ i v, 0 ≤ v → v ≤ 1048576 → Szs (L l i v) v ((l.map w).sum) := by
  intro l
  induction l with
  | nil => intro _ i v _ _; rw [hnil]; exact .fin
  | cons x xs ih =>
    intro hf i v h0 h1
    rw [hcons]
    refine ((hf x (by simp) v h0 h1).sub h1 h0 (m := (xs.map w).sum) fun r r0 r1 => ?_).eq (by simp)
    exact ih (fun y hy => hf y (by simp [hy])) (i + 1) r r0 r1
theorem szS {α : Type} {c : α → List D} {w : α → Nat} {l : List α} {v : Int} {k : Int → Option Int} (hr : Rdb (.sl (l.map c))) (h0 : 0 ≤ v) (h1 : v ≤ 1048576)
    (hk : ∀ v', 0 ≤ v' → v' ≤ 1048576 → Szs (k v') v' ((l.map w).sum)) : Szs (bif decide (IntKind.i64.wrap (v - ((l.map c).length : Int)) < 0) then some (-1) else k (IntKind.i64.wrap (v - ((l.map c).length : Int)))) v (wtL w l) := by
  have hn : (l.map c).length ≤ maxLen := (Rdb.sl hr).1
  refine (Szs.str hn h0 h1 (m := (l.map w).sum) fun g e => ?_).eq (by simp [wtL])
  rw [e]
  exact hk _ g (by omega)

theorem toL {α : Type} {z : α} {c : α → List D} {f : α → Option α} {l : List α} (L : List α → Nat → List α → Option (List α)) (hnil : ∀ i w, L [] i w = some w)
    (hcons : ∀ x xs i w, L (x :: xs) i w = (f x).bind fun y => bif decide (i < (w.map c).length) then (w[i]?).bind (fun _ => L xs (i + 1) (w.set i y)) else none) (hf : ∀ x ∈ l, f x = some x) :
    L l 0 (List.replicate (((l.map c).length : Int)).toNat z) = some l := by
  have key : ∀ (rest pre : List α), l = pre ++ rest → L rest pre.length (pre ++ List.replicate rest.length z) = some l := by
    intro rest
    induction rest with
    | nil => intro pre h; rw [hnil, h]; simp
    | cons x xs ih =>
      intro pre h
      rw [hcons, hf x (by rw [h]; simp)]
      have e1 : decide (pre.length < ((pre ++ List.replicate (x :: xs).length z).map c).length) = true := by simp
      have e2 : (pre ++ List.replicate (x :: xs).length z)[pre.length]? = some z := by simp [List.replicate_succ]
      have e3 : (pre ++ List.replicate (x :: xs).length z).set pre.length x = (pre ++ [x]) ++ List.replicate xs.length z := by
        rw [List.length_cons, List.replicate_succ, List.set_append_right _ _ (Nat.le_refl _), Nat.sub_self, List.set_cons_zero]; simp
      simp only [Option.bind_some, e1, cond_true, e2, e3]
      have := ih (pre ++ [x]) (by rw [h]; simp)
      simpa using this
  have := key l [] rfl
  simpa using this

theorem roomB {n b : Nat} (hn : n ≤ 1048576) (hb : b ≤ 1000) : roomM (n : Int) b = true := by
  unfold roomM
  have h1 : b * n ≤ 1000 * 1048576 := Nat.mul_le_mul hb hn
  simp
  omega

theorem eqL {α : Type} [DecidableEq α] {f : α → α → Option Bool} {a b : List α} {c : α → List D} (L : Option Bool → List α → Nat → Option Bool) (hnil : ∀ k i, L k [] i = k)
    (hcons : ∀ k x xs i, L k (x :: xs) i = (atI b (i : Int)).bind fun y => (f x y).bind fun r => bif !r then some false else L k xs (i + 1)) (hf : ∀ x y, f x y = some (decide (x = y))) :
    (bif (((a.map c).length : Int) != ((b.map c).length : Int)) then some false else L (some true) a 0) = some (decide (a = b)) := by
  by_cases hl : a.length = b.length
  · have e : (((a.map c).length : Int) != ((b.map c).length : Int)) = false := by simp [hl]
    rw [e]
    have key : ∀ (ra rb pa pb : List α), a = pa ++ ra → b = pb ++ rb → pa.length = pb.length → L (some true) ra pa.length = some (decide (ra = rb)) := by
      intro ra
      induction ra with
      | nil =>
        intro rb pa pb h1 h2 h3
        rw [hnil]
        have : rb = [] := by
          have := congrArg List.length h1; have := congrArg List.length h2
          simp at *
          apply List.eq_nil_of_length_eq_zero; omega
        subst this; simp
      | cons x xs ih =>
        intro rb pa pb h1 h2 h3
        cases rb with
        | nil =>
          exfalso
          have := congrArg List.length h1; have := congrArg List.length h2
          simp at *
          omega
        | cons y ys =>
          rw [hcons]
          have e1 : atI b (pa.length : Int) = some y := by
            unfold atI
            have : b[pa.length]? = some y := by rw [h2, h3]; simp
            simp [this]
          rw [e1, Option.bind_some, hf, Option.bind_some]
          have := ih ys (pa ++ [x]) (pb ++ [y]) (by rw [h1]; simp) (by rw [h2]; simp) (by simp [h3])
          by_cases hxy : x = y
          · subst hxy
            simp only [decide_true, Bool.not_true, cond_false]
            simp only [List.length_append, List.length_cons, List.length_nil] at this
            rw [this]
            simp
          · simp [hxy]
    have := key a b [] [] rfl rfl rfl
    simpa using this
  · have e : (((a.map c).length : Int) != ((b.map c).length : Int)) = true := by simp; omega
    rw [e]
    have : a ≠ b := fun h => hl (by rw [h])
    simp [this]
/-! marks -/
def mkB : Int := 4611686018427387904
theorem wrapK {z : Int} (h0 : 0 ≤ z) (h1 : z ≤ 4611686018427387904) : IntKind.i64.wrap (z + 1) = z + 1 := wrap_in (InR.i64.2 (by omega))
end Go.Cx
