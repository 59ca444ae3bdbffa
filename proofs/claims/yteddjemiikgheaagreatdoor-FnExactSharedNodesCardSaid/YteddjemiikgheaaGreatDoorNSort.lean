/- The library's sort of texts as a call that changes a slice. No condition; plain lemmas. -/
import Derived.Test.YteddjemiikgheaaGreatDoorNLib
import Derived.Test.YteddjemiikgheaaGreatDoorNMut
import Derived.Shelf.Sort.Plain
import Derived.Shelf.Slices.In.SortNone2
namespace Go.Cx
set_option linter.unusedVariables false
set_option linter.unusedSimpArgs false
open Go.RowKit Go.Proofs Go.Shelf Go.Sort

theorem Rds.strs_le {w : World} {xs : List Bytes} : ∀ {cs : List Value} {bs : List Nat}, Rds w cs (xs.map D.str) bs → ∀ x ∈ xs, x.length ≤ maxLen := by
  induction xs with
  | nil => intro cs bs h x hx; cases hx
  | cons x xs ih =>
    intro cs bs h y hy
    cases h with
    | cons v vs d ds b1 b2 h1 h2 h3 =>
      obtain ⟨s, _, e2, e3, _⟩ := h2.str_inv
      rcases List.mem_cons.1 hy with rfl | hy
      · rw [← e2]; exact e3
      · exact ih h3 y hy
theorem Rds.of_strs {w : World} : ∀ {xs : List Bytes}, (∀ x ∈ xs, x.length ≤ maxLen) → Rds w (xs.map encStr) (xs.map D.str) []
  | [], _ => .nil
  | x :: xs, h => by
    have h1 : Rd w (.string ⟨x.toArray⟩) (.str x) [] := by
      have := Rd.str (w := w) ⟨x.toArray⟩ (by have := h x (by simp); simpa [ByteArray.size] using this)
      simpa using this
    exact .cons _ _ _ _ [] [] rfl h1 (Rds.of_strs fun y hy => h y (by simp [hy]))

theorem flat_tx_all (xs : List Bytes) : (xs.map tx).flatten.all D.flat = true := by
  rw [flat_tx]
  simp [D.flat]

def sortB (xs : List Bytes) : List Bytes := xs.mergeSort fun x y => decide (x ≤ y)
theorem sortB_perm (xs : List Bytes) : (sortB xs).Perm xs := List.mergeSort_perm _ _

theorem l_Strings_good {P : Program} {ρ : Ren} (L : Lays.n192 P ρ) {e : TypeId} {xs : List Bytes} (hn : xs.length < 4611686018427387904) : GoodM P (ρ.f 192) e 1 (xs.map tx) ((sortB xs).map tx) := by
  refine ⟨⟨_, L.f192, rfl, rfl⟩, ?_⟩
  intro w v cs hsz hrl hown hrd
  rw [flat_tx] at hrd
  have hle := hrd.strs_le
  obtain ⟨ys, rfl, hys⟩ := hrd.strs
  have hlen : (sortB xs).length = xs.length := (sortB_perm xs).length_eq
  have hrl' : ∀ r ∈ (sortB xs).map tx, r.length = 1 := by
    intro r hr
    obtain ⟨x, _, rfl⟩ := List.mem_map.1 hr
    rfl
  rcases hown.2 with ⟨rfl, h0⟩ | ⟨g, cap, cur, rfl, hb, hgg, hnc, hcm, hcs, htake⟩
  · have hx : xs = [] := by simpa using h0
    subst hx
    refine (Any.sort_Strings_none L none 0 w).mono ?_
    rintro e' w' ⟨rfl, rfl⟩
    exact ⟨rfl, rfl, rfl, rfl, Nat.le_refl _, fun _ _ _ => rfl, hrl', [], ⟨by simp [hlen], .inl ⟨rfl, by simp [hlen]⟩⟩, by simpa [sortB] using Rds.nil⟩
  · rw [List.length_map] at hnc htake ⊢
    rw [Nat.mul_one] at htake hcs
    have hyl : ys.length = xs.length := by rw [← hys]; simp
    have hcur : ∀ j, j < xs.length → cur[j]? = some (encStr xs.toArray[j]!) := by
      intro j hj
      have h1 : (cur.toList.take xs.length)[j]? = cur[j]? := by rw [List.getElem?_take_of_lt hj]; simp
      rw [← h1, htake, List.getElem?_map]
      have hj' : j < ys.length := by omega
      rw [List.getElem?_eq_getElem hj']
      have : xs[j]? = some ys[j].data.toList := by rw [← hys, List.getElem?_map, List.getElem?_eq_getElem hj']; rfl
      have hx : xs.toArray[j]! = ys[j].data.toList := by
        rw [getElem!_pos _ _ (by simpa using hj)]
        rw [List.getElem?_eq_getElem hj] at this
        simpa using this
      rw [hx]
      simp [encStr]
    have hH : Holds encStr w g 0 xs.toArray := by
      intro j hj
      have hj : j < xs.length := by simpa using hj
      refine ⟨?_, ?_⟩
      · rw [← hcur j hj]
        simp [World.cell?, hgg]
      · simp [World.frozen?, hgg]
    have hblk : g < w.heap.size := (Array.getElem?_eq_some_iff.1 hgg).1
    refine (Any.sort_Strings L g 0 cap xs w hH hblk hn).mono ?_
    rintro e' w' ⟨rfl, n, os, rfl⟩
    have hheap : (grow (putRow encStr (Sort.ahead w n) g 0 (sortB xs).toArray) os).heap = (w.heap.modify g (onCells (putCells encStr 0 (sortB xs).toArray))) ++ os := rfl
    have hblock : ∀ b, b < w.heap.size → b ≠ g → (grow (putRow encStr (Sort.ahead w n) g 0 (sortB xs).toArray) os).heap[b]? = w.heap[b]? := by
      intro b hb hne
      rw [hheap, Array.getElem?_append_left (by simpa using hb), Array.getElem?_modify, if_neg (fun e => hne e.symm)]
    have hrow : (grow (putRow encStr (Sort.ahead w n) g 0 (sortB xs).toArray) os).heap[g]? = some (.cells (putCells encStr 0 (sortB xs).toArray cur) e (0, 0)) := by
      rw [hheap, Array.getElem?_append_left (by simpa using hblk), Array.getElem?_modify, if_pos rfl, hgg]
      rfl
    refine ⟨rfl, rfl, rfl, rfl, by show w.heap.size ≤ (grow (putRow encStr (Sort.ahead w n) g 0 (sortB xs).toArray) os).heap.size; rw [hheap]; simp, fun b hb hne => hblock b hb fun e => hne (by rw [e]; rfl), hrl', (sortB xs).map encStr, ⟨by simp, .inr ⟨g, cap, _, by simp [hlen], hb, hrow, by simpa [hlen] using hnc, hcm, by simp [putCells, hcs], ?_⟩⟩, ?_⟩
    · apply List.ext_getElem?
      intro j
      simp only [List.length_map, Nat.mul_one]
      by_cases hj : j < (sortB xs).length
      · have hj2 : j < cur.size := by omega
        rw [List.getElem?_take_of_lt hj, List.getElem?_map, List.getElem?_eq_getElem hj]
        simp [putCells, hj2, hj]
      · rw [List.getElem?_eq_none (by simp; omega), List.getElem?_eq_none (by simp; omega)]
    · rw [flat_tx]
      exact Rds.of_strs fun x hx => hle x ((sortB_perm xs).mem_iff.1 hx)
end Go.Cx
