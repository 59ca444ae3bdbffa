/- Numbers in falling order: what the reference and the program compute is one list. No condition but a bound on the list's length. -/
import Derived.Test.YtoeenpcilfhjbaaDoorPChoiceLineNPl
import Derived.Test.YtoeenpcilfhjbaaDoorPChoiceLineNFn1
import Derived.Test.YtoeenpcilfhjbaaDoorPChoiceLineSrM
namespace Go.Cx
open Go.RowKit Go.Proofs
set_option linter.unusedVariables false
set_option linter.unusedSimpArgs false
def Fall (l : List Int) : Prop := l.Pairwise fun x y => y ≤ x
theorem fallB_fall (l : List Int) : Fall (fallB l) := by
  have h := List.pairwise_mergeSort (le := fun x y : Int => !Go.Sr.ltR y x) (fun a b c h1 h2 => by simp [Go.Sr.ltR, Go.Sort.ltInt] at h1 h2 ⊢; omega) (fun a b => by simp [Go.Sr.ltR, Go.Sort.ltInt]; omega) l
  refine List.Pairwise.imp ?_ h
  intro a b h
  simpa [Go.Sr.ltR, Go.Sort.ltInt] using h
theorem fall_uniq {a b : List Int} (hp : a.Perm b) (ha : Fall a) (hb : Fall b) : a = b :=
  List.Perm.eq_of_pairwise (le := fun x y : Int => y ≤ x) (fun a b _ _ h1 h2 => by omega) ha hb hp
theorem fall_at {A B : List Int} {c : Int} : atI (A ++ c :: B) (A.length : Int) = some c := by
  unfold atI
  rw [decide_eq_true (by omega), cond_true]
  simp
theorem fall_in (a0 : List Int) (i : Nat) (x : Int) (K : Int → List Int → Option (List Int)) : ∀ (n : Nat) (A : List Int) (fu : Nat) (c : Int) (B : List Int), A.length = n → A.length ≤ 1048576 → A.length < fu → Fall A →
    ∃ A' D c', A = A' ++ D ∧ (∀ d ∈ D, d < x) ∧ (∀ y ∈ A', x ≤ y) ∧ d_spec_Falling_L2 a0 i x K fu (A.length : Int) (A ++ c :: B) = K (A'.length : Int) (A' ++ c' :: (D ++ B)) := by
  intro n
  induction n with
  | zero =>
    intro A fu c B hn hl hf hA
    have hA0 : A = [] := List.eq_nil_of_length_eq_zero hn
    subst hA0
    cases fu with
    | zero => simp at hf
    | succ fu =>
      refine ⟨[], [], c, rfl, by simp, by simp, ?_⟩
      rw [d_spec_Falling_L2]
      rfl
  | succ n ih =>
    intro A fu c B hn hl hf hA
    have hne : A ≠ [] := fun e => by rw [e] at hn; simp at hn
    have hAs : A = A.dropLast ++ [A.getLast hne] := (List.dropLast_concat_getLast hne).symm
    generalize A.dropLast = A1 at hAs
    generalize A.getLast hne = a at hAs
    clear hne
    subst hAs
    have hl1 : A1.length = n := by simpa using hn
    cases fu with
    | zero => simp at hf
    | succ fu =>
      have e1 : decide ((((A1 ++ [a]).length : Nat) : Int) > 0) = true := decide_eq_true (by omega)
      have e2 : IntKind.i64.wrap ((((A1 ++ [a]).length : Nat) : Int) - 1) = (A1.length : Int) := by
        rw [wrap_in (InR.i64.2 (by omega))]; omega
      have e3 : atI ((A1 ++ [a]) ++ c :: B) (A1.length : Int) = some a := by
        rw [List.append_assoc]; exact fall_at
      rw [d_spec_Falling_L2, e1, cond_true, e2, e3, Option.bind_some]
      by_cases hax : a < x
      · have e4 : atI ((A1 ++ [a]) ++ c :: B) (((A1 ++ [a]).length : Nat) : Int) = some c := fall_at
        have e5 : (((A1 ++ [a]) ++ c :: B)).set ((((A1 ++ [a]).length : Nat) : Int)).toNat a = A1 ++ a :: (a :: B) := by
          rw [Int.toNat_natCast, List.set_append_right _ _ (Nat.le_refl _), Nat.sub_self]
          simp
        rw [decide_eq_true hax, cond_true, e4, Option.bind_some, e5]
        obtain ⟨A', D, c', h1, h2, h3, h4⟩ := ih A1 fu a (a :: B) hl1 (by simp at hl; omega) (by simp at hf; omega) (List.Pairwise.sublist (List.sublist_append_left _ _) hA)
        refine ⟨A', D ++ [a], c', by rw [h1]; simp, fun d hd => ?_, h3, ?_⟩
        · rcases List.mem_append.1 hd with hd | hd
          · exact h2 d hd
          · simp at hd; subst hd; exact hax
        · rw [h4]; simp
      · rw [decide_eq_false hax, cond_false]
        refine ⟨A1 ++ [a], [], c, by simp, by simp, fun y hy => ?_, by simp⟩
        rcases List.mem_append.1 hy with hy | hy
        · have := (List.pairwise_append.1 hA).2.2 y hy a (by simp)
          have this : a ≤ y := this
          omega
        · simp at hy; subst hy; omega
theorem fall_room {n : Nat} (h : n ≤ 1048577) : room n 8 = true := by
  unfold room maxLen
  simp
  omega
theorem fall_out (a0 : List Int) (K : List Int → Option (List Int)) : ∀ (rest w : List Int) (i : Nat), Fall w → w.length + rest.length ≤ 1048576 → ∃ R, d_spec_Falling_L1 a0 K rest i w = K R ∧ Fall R ∧ R.Perm (w ++ rest) := by
  intro rest
  induction rest with
  | nil => intro w i hw hl; exact ⟨w, rfl, hw, by simp⟩
  | cons x xs ih =>
    intro w i hw hl
    simp only [List.length_cons] at hl
    rw [d_spec_Falling_L1, fall_room (by simp; omega), cond_true, List.length_map]
    obtain ⟨A', D, c', h1, h2, h3, h4⟩ := fall_in a0 i x (fun z2_5 q2_0 => (atI q2_0 z2_5).bind fun x166 => d_spec_Falling_L1 a0 K xs (i + 1) (q2_0.set z2_5.toNat x)) w.length w fuel x [] rfl (by omega) (by unfold fuel; omega) hw
    rw [h4, fall_at, Option.bind_some, Int.toNat_natCast, List.set_append_right _ _ (Nat.le_refl _), Nat.sub_self, List.set_cons_zero, List.append_nil]
    have hs : Fall (A' ++ x :: D) := by
      rw [h1] at hw
      obtain ⟨p1, p2, p3⟩ := List.pairwise_append.1 hw
      refine List.pairwise_append.2 ⟨p1, List.pairwise_cons.2 ⟨fun d hd => by have := h2 d hd; omega, p2⟩, fun y hy z hz => ?_⟩
      rcases List.mem_cons.1 hz with rfl | hz
      · exact h3 y hy
      · exact p3 y hy z hz
    have hp : (A' ++ x :: D).Perm (w ++ [x]) := by
      rw [h1]
      refine List.perm_middle.trans ?_
      exact (List.perm_append_singleton x (A' ++ D)).symm
    obtain ⟨R, e, hR, hRp⟩ := ih (A' ++ x :: D) (i + 1) hs (by have := hp.length_eq; simp at this ⊢; omega)
    refine ⟨R, e, hR, hRp.trans ?_⟩
    have := hp.append_right xs
    simpa using this
theorem sFalling (l : List Int) (h : l.length ≤ 1048576) : d_spec_Falling l = some (fallB l) := by
  unfold d_spec_Falling
  obtain ⟨R, e, hR, hp⟩ := fall_out l (fun q => some q) l [] 0 List.Pairwise.nil (by simpa using h)
  rw [e]
  have : R = fallB l := fall_uniq ((by simpa using hp : R.Perm l).trans (fallB_perm l).symm) hR (fallB_fall l)
  rw [this]
theorem iFalling (l : List Int) (h : l.length ≤ 1048576) : d_impl_Falling l = some (fallB l) := by
  unfold d_impl_Falling d_impl_copyInts
  rw [fall_room (by simp; omega), cond_true]
  simp
end Go.Cx
