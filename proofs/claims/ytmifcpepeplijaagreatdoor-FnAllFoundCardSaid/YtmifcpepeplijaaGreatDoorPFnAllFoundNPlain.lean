/- Plain laws on what the laws' own helpers compute: sizes, copies, equality. No condition; plain lemmas. -/
import Derived.Test.YtmifcpepeplijaaGreatDoorPFnAllFoundNData
namespace Go.Cx
set_option linter.unusedVariables false
set_option linter.unusedSimpArgs false
open Go.RowKit Go.Proofs
theorem beq_dec {α : Type} [DecidableEq α] [BEq α] [LawfulBEq α] (a b : α) : (a == b) = decide (a = b) := by rw [Bool.eq_iff_iff]; simp
def RdbL (cs : List D) : Prop := ∀ d ∈ cs, Rdb d
theorem RdbL.row {α : Type} {c : α → List D} {l : List α} (h : Rdb (.sl (l.map c))) : ∀ x ∈ l, RdbL (c x) := fun x hx d hd => (Rdb.sl h).2 (c x) (List.mem_map.2 ⟨x, hx, rfl⟩) d hd
theorem Rdb.len {α : Type} {c : α → List D} {l : List α} (h : Rdb (.sl (l.map c))) : l.length ≤ maxLen := by have := (Rdb.sl h).1; simpa using this
theorem Good.of_rdb {P : Program} {f : FuncId} {ds : List D} {d : D} (hf : ∃ fn, P.funcs[f]? = some fn ∧ fn.body.isSome = true ∧ (fn.name == "runtime.NumGoroutine") = false) (h : RdbL ds → Good P f ds d) : Good P f ds d :=
  ⟨hf, fun w Θ args bs hv hargs h1 h2 h3 => (h hargs.rdb).2 w Θ args bs hv hargs h1 h2 h3⟩
/-- how much the laws' size test counts: elements and bytes -/
def wtL {α : Type} (w : α → Nat) (l : List α) : Nat := l.length + (l.map w).sum
def tw (s : Bytes) : Nat := s.length
theorem wtL_cons {α : Type} (w : α → Nat) (x : α) (l : List α) : wtL w (x :: l) = 1 + w x + wtL w l := by simp [wtL]; omega
theorem wtL_append {α : Type} (w : α → Nat) (a b : List α) : wtL w (a ++ b) = wtL w a + wtL w b := by
  induction a with
  | nil => simp [wtL]
  | cons x a ih => rw [List.cons_append, wtL_cons, wtL_cons, ih]; omega
theorem wtL_len {α : Type} (w : α → Nat) (l : List α) : l.length ≤ wtL w l := by unfold wtL; omega
theorem wtL_mem {α : Type} {w : α → Nat} {l : List α} {x : α} (h : x ∈ l) : w x + 1 ≤ wtL w l := by
  induction l with
  | nil => cases h
  | cons y l ih =>
    rw [wtL_cons]
    rcases List.mem_cons.1 h with rfl | h
    · omega
    · have := ih h; omega
theorem wrapS {n : Nat} {v : Int} (hn : n ≤ maxLen) (h0 : 0 ≤ v) (h1 : v ≤ 1048576) : IntKind.i64.wrap (v - (n : Int)) = v - (n : Int) := by
  unfold maxLen at hn
  exact wrap_in (InR.i64.2 (by omega))
/-- a size test: what is left, or none; n was counted -/
def Szs (o : Option Int) (v : Int) (n : Nat) : Prop := ∃ r, o = some r ∧ r ≤ v ∧ (0 ≤ r → (n : Int) ≤ v - r)
theorem Szs.str {n m : Nat} {v : Int} {k : Option Int} (hn : n ≤ maxLen) (h0 : 0 ≤ v) (h1 : v ≤ 1048576) (hk : 0 ≤ v - (n : Int) → IntKind.i64.wrap (v - (n : Int)) = v - (n : Int) → Szs k (v - (n : Int)) m) :
    Szs (bif decide (IntKind.i64.wrap (v - (n : Int)) < 0) then some (-1) else k) v (n + m) := by
  have hw := wrapS hn h0 h1
  rw [hw]
  by_cases c : v - (n : Int) < 0
  · exact ⟨-1, by simp [c], by omega, by omega⟩
  · obtain ⟨r, e1, e2, e3⟩ := hk (by omega) hw
    exact ⟨r, by simp [c, e1], by omega, fun h => by have := e3 h; omega⟩
theorem Szs.sub {o : Option Int} {v : Int} {k : Int → Option Int} {n m : Nat} (h : Szs o v n) (h1 : v ≤ 1048576) (h0 : 0 ≤ v) (hk : ∀ r, 0 ≤ r → r ≤ 1048576 → Szs (k r) r m) :
    Szs (o.bind fun y => bif decide (y < 0) then some (-1) else k y) v (n + m) := by
  obtain ⟨r, e1, e2, e3⟩ := h
  rw [e1]
  by_cases c : r < 0
  · exact ⟨-1, by simp [c], by omega, by omega⟩
  · obtain ⟨r', q1, q2, q3⟩ := hk r (by omega) (by omega)
    exact ⟨r', by simp [c, q1], by omega, fun h => by have := e3 (by omega); have := q3 h; omega⟩
theorem Szs.fin {v : Int} : Szs (some v) v 0 := ⟨v, rfl, Int.le_refl _, fun _ => by omega⟩
theorem eqL {α : Type} [DecidableEq α] {f : α → α → Option Bool} {a b : List α} {c : α → List D} (L : Option Bool → List α → Nat → Option Bool) (hnil : ∀ k i, L k [] i = k)
    (hcons : ∀ k x xs i, L k (x :: xs) i = (atI b (i : Int)).bind fun y => (f x y).bind fun r => bif !r then some false else L k xs (i + 1)) (hf : ∀ x y, f x y = some (decide (x = y))) :
    (bif (((a.map c).length : Int) != ((b.map c).length : Int)) then some false else L (some true) a 0) = some (decide (a = b)) := by
  by_cases hl : a.length = b.length
  · have e : (((a.map c).length : Int) != ((b.map c).length : Int)) = false := by simp [hl]
    rw [e]
    have key : ∀ (ra rb pa pb : List α), a = pa ++ ra → b = pb ++ rb → pa.length = pb.length → L (some true) ra pa.length = some (decide (ra = rb)) := by
      intro ra
      induction ra with
      | nil =>
        intro rb pa pb h1 h2 h3
        rw [hnil]
        have : rb = [] := by
          have := congrArg List.length h1; have := congrArg List.length h2
          simp at *
          apply List.eq_nil_of_length_eq_zero; omega
        subst this; simp
      | cons x xs ih =>
        intro rb pa pb h1 h2 h3
        cases rb with
        | nil =>
          exfalso
          have := congrArg List.length h1; have := congrArg List.length h2
          simp at *
          omega
        | cons y ys =>
          rw [hcons]
          have e1 : atI b (pa.length : Int) = some y := by
            unfold atI
            have : b[pa.length]? = some y := by rw [h2, h3]; simp
            simp [this]
          rw [e1, Option.bind_some, hf, Option.bind_some]
          have := ih ys (pa ++ [x]) (pb ++ [y]) (by rw [h1]; simp) (by rw [h2]; simp) (by simp [h3])
          by_cases hxy : x = y
          · subst hxy
            simp only [decide_true, Bool.not_true, cond_false]
            simp only [List.length_append, List.length_cons, List.length_nil] at this
            rw [this]
            simp
          · simp [hxy]
    have := key a b [] [] rfl rfl rfl
    simpa using this
  · have e : (((a.map c).length : Int) != ((b.map c).length : Int)) = true := by simp; omega
    rw [e]
    have : a ≠ b := fun h => hl (by rw [h])
    simp [this]
/-! marks -/
end Go.Cx
