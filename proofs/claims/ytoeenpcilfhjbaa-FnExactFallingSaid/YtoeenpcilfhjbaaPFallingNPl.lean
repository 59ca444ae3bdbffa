/- What the laws' own helpers compute: sizes, copies, equality, marks. No condition. -/
import Derived.Test.YtoeenpcilfhjbaaNPlain
import Derived.Test.YtoeenpcilfhjbaaPFallingNSz
import Derived.Test.YtoeenpcilfhjbaaPFallingNTo
import Derived.Test.YtoeenpcilfhjbaaPFallingNEq
import Derived.Test.YtoeenpcilfhjbaaPFallingNHd
namespace Go.Cx
open Go.RowKit Go.Proofs
set_option linter.unusedVariables false
set_option linter.unusedSimpArgs false
def mkL {α : Type} (w : α → Nat) (l : List α) : Nat := (l.map w).sum
theorem mkL_cons {α : Type} (w : α → Nat) (x : α) (l : List α) : mkL w (x :: l) = w x + mkL w l := by simp [mkL]
def zw (_ : Int) : Nat := 0
theorem zw_sum (l : List Int) : (l.map zw).sum = 0 := by
  induction l with
  | nil => rfl
  | cons x l ih => simp only [List.map_cons, List.sum_cons, ih]; rfl
/-- marks from k on, n of them; and they are found again -/
def MkOk {α : Type} (n : Nat) (mark : Int → Option (α × Int)) (held : α → Int → Option Int) : Prop := ∀ k : Int, 1 ≤ k → k + (n : Int) ≤ 4611686018427387904 → ∃ x, mark k = some (x, k + (n : Int)) ∧ held x k = some (k + (n : Int))
theorem toIntS_ok (l : List Int) (h : wtL zw l ≤ 1048576) : d_laws_toIntS l = some l := by
  unfold d_laws_toIntS
  rw [roomB (by rw [List.length_map]; exact Nat.le_trans (wtL_len _ _) h) (by decide)]
  exact toL (c := ixx) (f := (fun x => some x)) (d_laws_toIntS_L1 l (fun q => some q)) (fun _ _ => rfl) (fun _ _ _ _ => by simp only [d_laws_toIntS_L1, Option.bind_some]) (fun x hx => rfl)
theorem eqIntS_ok (a b : List Int) : d_laws_eqIntS a b = some (decide (a = b)) := by
  unfold d_laws_eqIntS
  exact eqL (c := ixx) (f := (fun x y => some (x == y))) (fun k => d_laws_eqIntS_L1 a b k) (fun _ _ => rfl) (fun _ _ _ _ => rfl) (fun x y => by rw [Option.some.injEq, Bool.eq_iff_iff]; simp)
theorem mkIntS_ok (l : List Int) : MkOk (mkL (fun _ => 1) l) (d_laws_markIntS l) d_laws_heldIntS := by
  have key : ∀ (rest dn : List Int) (v : Int), 1 ≤ v → v + (mkL (fun _ => 1) rest : Int) ≤ 4611686018427387904 → ∃ rest' : List Int, (∀ k, d_laws_markIntS_L1 k rest dn v = k (dn ++ rest') (v + (mkL (fun _ => 1) rest : Int))) ∧ ∀ a k i, d_laws_heldIntS_L1 a k rest' i v = k (v + (mkL (fun _ => 1) rest : Int)) := by
    intro rest
    induction rest with
    | nil => intro dn v _ _; exact ⟨[], fun k => by simp [d_laws_markIntS_L1, mkL], fun a k i => by simp [d_laws_heldIntS_L1, mkL]⟩
    | cons x xs ih =>
      intro dn v h0 h1
      rw [mkL_cons] at h1 ⊢
      obtain ⟨rest', p1, p2⟩ := ih (dn ++ [v]) (v + 1) (by omega) (by omega)
      refine ⟨v :: rest', fun k => ?_, fun a k i => ?_⟩
      · rw [d_laws_markIntS_L1]
        simp (disch := omega) only [wrapK, Option.bind_some]
        rw [p1]
        simp only [List.append_assoc, List.singleton_append]
        congr 1
        omega
      · rw [d_laws_heldIntS_L1]
        simp (disch := omega) only [wrapK, Option.bind_some, beq_self_eq_true, Bool.not_true, cond_false, bne_self_eq_false]
        rw [p2]
        congr 1
        omega
  intro k h0 h1
  obtain ⟨l', p1, p2⟩ := key l [] k h0 h1
  exact ⟨l', by unfold d_laws_markIntS; rw [p1]; rfl, by unfold d_laws_heldIntS; rw [p2]⟩
end Go.Cx
