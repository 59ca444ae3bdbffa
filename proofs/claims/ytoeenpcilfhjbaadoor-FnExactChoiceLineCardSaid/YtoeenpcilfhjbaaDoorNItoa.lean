/- The library's writing of a number as a text. The condition: the table that it reads holds the powers of ten (the statement lists it). -/
import Derived.Test.YtoeenpcilfhjbaaDoorNLib
import Derived.Shelf.Strconv.Itoa3
import Derived.WalkSmall
namespace Go.Cx
set_option linter.unusedVariables false
set_option linter.unusedSimpArgs false
open Go.RowKit Go.Proofs Go.Shelf Go.Lib

theorem itoa_len (n : Int) (h : InR .i64 n) : (itoa n).length ≤ 20 := by
  have h1 : -9223372036854775808 ≤ n := h.1
  have h2 : n ≤ 9223372036854775807 := h.2
  have key : ∀ u : Nat, u ≤ 9223372036854775808 → nDigits u ≤ 19 := by
    intro u hu
    by_cases h0 : u = 0
    · subst h0; rw [nDigits_small (by omega)]; omega
    · by_cases hk : nDigits u ≤ 19
      · exact hk
      · exfalso
        have key2 : ∀ (k v : Nat), v < 10 ^ k → 1 ≤ k → nDigits v ≤ k := by
          intro k
          induction k with
          | zero => intro v _ h; omega
          | succ k ih =>
            intro v hv _
            by_cases h10 : v < 10
            · rw [nDigits_small h10]; omega
            · rw [nDigits_big h10]
              have h3 : v / 10 < 10 ^ k := by rw [Nat.pow_succ] at hv; omega
              have hk1 : 1 ≤ k := by
                cases k with
                | zero => simp at hv; omega
                | succ k => omega
              have := ih (v / 10) h3 hk1
              omega
        have := key2 19 u (by omega) (by omega)
        omega
  unfold itoa
  split
  · rw [List.length_cons, decDigits_length]; have := key n.natAbs (by omega); omega
  · rw [decDigits_length]; have := key n.toNat (by omega); omega

theorem below_growN (w : World) (k : Nat) (os : Array Obj) : Below w.heap.size w (Sort.grow (w.drewN k) os) :=
  ⟨rfl, rfl, rfl, by show w.heap.size ≤ (w.heap ++ os).size; simp, fun b hb => by show (w.heap ++ os)[b]? = _; rw [Array.getElem?_append_left hb]⟩

theorem l_Itoa_good {P : Program} {ρ : Ren} (L : LaysM.n171 P ρ) {g : Nat} (hg : P.globalNamed "internal/strconv.uint64pow10" = some g) (hx : (g, fun cs : List Value => cs = pow10Tab.map fun z => Value.int .u64 z) ∈ varsList) {n : Int} :
    Good P (ρ.f 171) [.int .i64 n] (.str (itoa n)) := by
  refine ⟨⟨_, L.f171, rfl, rfl⟩, ?_⟩
  intro w Θ args bs hv ha _ _ _
  obtain _ | ⟨v1, _, _, _, b1, _, h1, ha⟩ := ha
  cases ha
  cases h1 with
  | int _ _ hr =>
    have h0 : -9223372036854775808 ≤ n := hr.1
    have h1 : n ≤ 9223372036854775807 := hr.2
    have hl := itoa_len n hr
    have ht : TabIs P w "internal/strconv.uint64pow10" .u64 pow10Tab := by
      obtain ⟨cs, h2, h3⟩ := hv.var hx hg
      have h4 : cs = (pow10Tab.map fun z => Value.int .u64 z).toArray := by rw [← h3]
      rw [h4] at h2
      exact h2
    have := Calls.txt (Θ := Θ) (r := ⟨(itoa n).toArray⟩) (by show (itoa n).toArray.size ≤ maxLen; rw [List.size_toArray]; unfold maxLen; omega)
      ((Any.strconv_Itoa L n h0 h1 w ht).mono fun e w' ⟨k1, k, os, k2⟩ => ⟨k1, by subst k2; exact below_growN w k os⟩)
    simpa using this
end Go.Cx
