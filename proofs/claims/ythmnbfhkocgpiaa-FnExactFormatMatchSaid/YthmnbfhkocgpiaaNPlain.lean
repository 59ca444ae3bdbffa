/- Plain laws on what the laws' own helpers compute: sizes, copies, equality. No condition; plain lemmas. -/
import Derived.Test.YthmnbfhkocgpiaaNData
namespace Go.Cx
open Go.RowKit Go.Proofs

theorem beq_dec {α : Type} [DecidableEq α] [BEq α] [LawfulBEq α] (a b : α) : (a == b) = decide (a = b) := by rw [Bool.eq_iff_iff]; simp
def RdbL (cs : List D) : Prop := ∀ d ∈ cs, Rdb d
theorem RdbL.row {α : Type} {c : α → List D} {l : List α} (h : Rdb (.sl (l.map c))) : ∀ x ∈ l, RdbL (c x) := fun x hx d hd => (Rdb.sl h).2 (c x) (List.mem_map.2 ⟨x, hx, rfl⟩) d hd
theorem Rdb.len {α : Type} {c : α → List D} {l : List α} (h : Rdb (.sl (l.map c))) : l.length ≤ maxLen := by have := (Rdb.sl h).1; simpa using this

theorem Good.of_rdb {P : Program} {f : FuncId} {ds : List D} {d : D} (hf : ∃ fn, P.funcs[f]? = some fn ∧ fn.body.isSome = true ∧ (fn.name == "runtime.NumGoroutine") = false) (h : RdbL ds → Good P f ds d) : Good P f ds d :=
  ⟨hf, fun w Θ args bs hargs h1 h2 h3 => (h hargs.rdb).2 w Θ args bs hargs h1 h2 h3⟩

abbrev Big : Int := 1048576
def Sb (s : Bytes) : Prop := s.length ≤ 1048576
def Lb {α : Type} (bd : α → Prop) (l : List α) : Prop := l.length ≤ 1048576 ∧ ∀ x ∈ l, bd x
theorem wrapS {n : Nat} {v : Int} (hn : n ≤ maxLen) (h0 : 0 ≤ v) (h1 : v ≤ 1048576) : IntKind.i64.wrap (v - (n : Int)) = v - (n : Int) := by
  unfold maxLen at hn
  exact wrap_in (InR.i64.2 (by omega))

/-- what a size function tells -/
def Szs (o : Option Int) (v : Int) (p : Prop) : Prop := ∃ r, o = some r ∧ r ≤ v ∧ (0 ≤ r → p)
theorem Szs.str {n : Nat} {v : Int} {k : Option Int} {p : Prop} (hn : n ≤ maxLen) (h0 : 0 ≤ v) (h1 : v ≤ 1048576) (hk : 0 ≤ v - (n : Int) → IntKind.i64.wrap (v - (n : Int)) = v - (n : Int) → Szs k (v - (n : Int)) p) :
    Szs (bif decide (IntKind.i64.wrap (v - (n : Int)) < 0) then some (-1) else k) v p := by
  have e := wrapS hn h0 h1
  by_cases c : v - (n : Int) < 0
  · refine ⟨-1, by rw [e]; simp [c], by omega, by omega⟩
  · obtain ⟨r, q1, q2, q3⟩ := hk (by omega) e
    refine ⟨r, by rw [e]; simp [c, q1], by omega, q3⟩
theorem Szs.sub {o : Option Int} {v : Int} {k : Int → Option Int} {p q : Prop} (h : Szs o v q) (h1 : v ≤ 1048576) (h0 : 0 ≤ v) (hk : ∀ r, 0 ≤ r → r ≤ 1048576 → q → Szs (k r) r p) :
    Szs (o.bind fun y => bif decide (y < 0) then some (-1) else k y) v p := by
  obtain ⟨r, rfl, q2, q3⟩ := h
  by_cases c : r < 0
  · exact ⟨-1, by simp [c], by omega, by omega⟩
  · obtain ⟨r', e1, e2, e3⟩ := hk r (by omega) (by omega) (q3 (by omega))
    exact ⟨r', by simp [c, e1], by omega, e3⟩
theorem Szs.fin {v : Int} {p : Prop} (h : p) : Szs (some v) v p := ⟨v, rfl, Int.le_refl _, fun _ => h⟩

theorem szL {α : Type} {bd : α → Prop} {f : α → Int → Option Int} (L : List α → Nat → Int → Option Int) (hnil : ∀ i v, L [] i v = some v)
    (hcons : ∀ x xs i v, L (x :: xs) i v = (f x v).bind fun y => bif decide (y < 0) then some (-1) else L xs (i + 1) y) :
    ∀ (l : List α), (∀ x ∈ l, ∀ v, 0 ≤ v → v ≤ 1048576 → Szs (f x v) v (bd x)) → ∀ i v, 0 ≤ v → v ≤ 1048576 → Szs (L l i v) v (∀ x ∈ l, bd x) := by
  intro l
  induction l with
  | nil => intro _ i v _ _; rw [hnil]; exact .fin (by simp)
  | cons x xs ih =>
    intro hf i v h0 h1
    rw [hcons]
    refine (hf x (by simp) v h0 h1).sub h1 h0 fun r r0 r1 hb => ?_
    obtain ⟨r', e1, e2, e3⟩ := ih (fun y hy => hf y (by simp [hy])) (i + 1) r r0 r1
    exact ⟨r', e1, e2, fun h => by
      intro y hy
      rcases List.mem_cons.1 hy with rfl | hy
      · exact hb
      · exact e3 h y hy⟩
theorem szS {α : Type} {c : α → List D} {bd : α → Prop} {l : List α} {v : Int} {k : Int → Option Int} (hr : Rdb (.sl (l.map c))) (h0 : 0 ≤ v) (h1 : v ≤ 1048576)
    (hk : ∀ v', 0 ≤ v' → v' ≤ 1048576 → Szs (k v') v' (∀ x ∈ l, bd x)) : Szs (bif decide (IntKind.i64.wrap (v - ((l.map c).length : Int)) < 0) then some (-1) else k (IntKind.i64.wrap (v - ((l.map c).length : Int)))) v (Lb bd l) := by
  have hn : (l.map c).length ≤ maxLen := (Rdb.sl hr).1
  refine Szs.str hn h0 h1 fun g e => ?_
  rw [e]
  obtain ⟨r, q1, q2, q3⟩ := hk (v - ((l.map c).length : Int)) g (by omega)
  refine ⟨r, q1, q2, fun h => ⟨?_, q3 h⟩⟩
  simp only [List.length_map] at g
  omega

theorem toL {α : Type} {z : α} {c : α → List D} {f : α → Option α} {l : List α} (L : List α → Nat → List α → Option (List α)) (hnil : ∀ i w, L [] i w = some w)
    (hcons : ∀ x xs i w, L (x :: xs) i w = (f x).bind fun y => bif decide (i < (w.map c).length) then (w[i]?).bind (fun _ => L xs (i + 1) (w.set i y)) else none) (hf : ∀ x ∈ l, f x = some x) :
    L l 0 (List.replicate (((l.map c).length : Int)).toNat z) = some l := by
  have key : ∀ (rest pre : List α), l = pre ++ rest → L rest pre.length (pre ++ List.replicate rest.length z) = some l := by
    intro rest
    induction rest with
    | nil => intro pre h; rw [hnil, h]; simp
    | cons x xs ih =>
      intro pre h
      rw [hcons, hf x (by rw [h]; simp)]
      have e1 : decide (pre.length < ((pre ++ List.replicate (x :: xs).length z).map c).length) = true := by simp
      have e2 : (pre ++ List.replicate (x :: xs).length z)[pre.length]? = some z := by simp [List.replicate_succ]
      have e3 : (pre ++ List.replicate (x :: xs).length z).set pre.length x = (pre ++ [x]) ++ List.replicate xs.length z := by
        rw [List.length_cons, List.replicate_succ, List.set_append_right _ _ (Nat.le_refl _), Nat.sub_self, List.set_cons_zero]; simp
      simp only [Option.bind_some, e1, cond_true, e2, e3]
      have := ih (pre ++ [x]) (by rw [h]; simp)
      simpa using this
  have := key l [] rfl
  simpa using this

theorem roomB {n b : Nat} (hn : n ≤ 1048576) (hb : b ≤ 1000) : roomM (n : Int) b = true := by
  unfold roomM
  have h1 : b * n ≤ 1000 * 1048576 := Nat.mul_le_mul hb hn
  simp
  omega

theorem eqL {α : Type} [DecidableEq α] {f : α → α → Option Bool} {a b : List α} {c : α → List D} (L : Option Bool → List α → Nat → Option Bool) (hnil : ∀ k i, L k [] i = k)
    (hcons : ∀ k x xs i, L k (x :: xs) i = (atI b (i : Int)).bind fun y => (f x y).bind fun r => bif !r then some false else L k xs (i + 1)) (hf : ∀ x y, f x y = some (decide (x = y))) :
    (bif (((a.map c).length : Int) != ((b.map c).length : Int)) then some false else L (some true) a 0) = some (decide (a = b)) := by
  by_cases hl : a.length = b.length
  · have e : (((a.map c).length : Int) != ((b.map c).length : Int)) = false := by simp [hl]
    rw [e]
    have key : ∀ (ra rb pa pb : List α), a = pa ++ ra → b = pb ++ rb → pa.length = pb.length → L (some true) ra pa.length = some (decide (ra = rb)) := by
      intro ra
      induction ra with
      | nil =>
        intro rb pa pb h1 h2 h3
        rw [hnil]
        have : rb = [] := by
          have := congrArg List.length h1; have := congrArg List.length h2
          simp at *
          apply List.eq_nil_of_length_eq_zero; omega
        subst this; simp
      | cons x xs ih =>
        intro rb pa pb h1 h2 h3
        cases rb with
        | nil =>
          exfalso
          have := congrArg List.length h1; have := congrArg List.length h2
          simp at *
          omega
        | cons y ys =>
          rw [hcons]
          have e1 : atI b (pa.length : Int) = some y := by
            unfold atI
            have : b[pa.length]? = some y := by rw [h2, h3]; simp
            simp [this]
          rw [e1, Option.bind_some, hf, Option.bind_some]
          have := ih ys (pa ++ [x]) (pb ++ [y]) (by rw [h1]; simp) (by rw [h2]; simp) (by simp [h3])
          by_cases hxy : x = y
          · subst hxy
            simp only [decide_true, Bool.not_true, cond_false]
            simp only [List.length_append, List.length_cons, List.length_nil] at this
            rw [this]
            simp
          · simp [hxy]
    have := key a b [] [] rfl rfl rfl
    simpa using this
  · have e : (((a.map c).length : Int) != ((b.map c).length : Int)) = true := by simp; omega
    rw [e]
    have : a ≠ b := fun h => hl (by rw [h])
    simp [this]
end Go.Cx
