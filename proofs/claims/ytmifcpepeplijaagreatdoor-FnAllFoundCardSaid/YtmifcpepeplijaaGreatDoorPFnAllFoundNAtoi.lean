/- The library's reading of a number, and its comparing of texts. The condition: the error variable that it hands on holds an interface value that is not nil (the statement lists it). -/
import Derived.Test.YtmifcpepeplijaaGreatDoorPFnAllFoundNItoa
import Derived.Shelf.Strconv.Atoi
import Derived.Shelf.Strconv.ErrVar
import Derived.Shelf.Small.Strs
import Derived.Lib.AtoiBound
namespace Go.Cx
set_option linter.unusedVariables false
set_option linter.unusedSimpArgs false
open Go.RowKit Go.Proofs Go.Shelf Go.Lib
theorem below_bytes (w : World) (t5 : TypeId) (t : ByteArray) : Below w.heap.size w (Lib.bytesWorld w t5 t) := Lib.bytesWorld_below _ _ _
/-- a number, and whether there was an error -/
def l_Atoi (s : Bytes) : Option (Int × Bool) := if s.length ≤ 18 then (match Lib.atoi s with | some n => some (n, false) | none => some (0, true)) else none
theorem l_Atoi_good {P : Program} {ρ : Ren} (L : LaysC.n172 P ρ) {g : Nat} (hg : P.globalNamed "strconv.ErrSyntax" = some g) (hx : (g, fun cs : List Value => ∃ tp p, cs = [Value.iface tp p]) ∈ varsList) {s : Bytes} {r : Int × Bool} (h : l_Atoi s = some r) :
    Good P (ρ.f 172) [.str s] (.tup [.int .i64 r.1, .ifc r.2]) := by
  refine ⟨⟨_, L.f172, rfl, rfl⟩, ?_⟩
  intro w Θ args bs hv ha _ _ _
  obtain _ | ⟨v1, _, _, _, b1, _, h1, ha⟩ := ha
  cases ha
  obtain ⟨y, rfl, rfl, _, _⟩ := h1.str_inv
  unfold l_Atoi at h
  split at h
  · rename_i hl
    have hl' : y.size ≤ 18 := by simpa using hl
    split at h
    · rename_i n hn
      cases h
      have hb := Lib.atoi_bound hn hl
      refine (Any.strconv_Atoi L.toM.ton172 y n hl' hn w).mono ?_
      rintro e w' ⟨rfl, t, rfl⟩
      exact ⟨_, [], [], [], rfl, below_bytes _ _ _, .tup [.int .i64 n, .nilIface] [.int .i64 n, .ifc false] [] [] [] (.cons _ _ _ _ [] [] [] [] [] [] (.cell (.pure (.int _ _ (InR.i64.2 (by omega))))) (.cons _ _ _ _ [] [] [] [] [] [] (.cell (.pure .ifc0)) .nil)), by simp, by simp, by simp, by simp, by simp⟩
    · rename_i hn
      cases h
      obtain ⟨cs, h2, tp, p, h3⟩ := hv.var hx hg
      have h4 : cs = #[.iface tp p] := by rw [← Array.toList_inj, h3]
      rw [h4] at h2
      refine (Any.strconv_Atoi_err_var L y hl' hn tp p w h2).mono ?_
      rintro e w' ⟨N, rfl, _, _, hbl⟩
      exact ⟨_, [], [], [], rfl, hbl, .tup [.int .i64 0, .iface _ _] [.int .i64 0, .ifc true] [] [] [] (.cons _ _ _ _ [] [] [] [] [] [] (.cell (.pure (.int _ _ (InR.zero _)))) (.cons _ _ _ _ [] [] [] [] [] [] (.cell (.pure (.ifc1 _ _))) .nil)), by simp, by simp, by simp, by simp, by simp⟩
  · cases h
theorem cmpB_in : ∀ (a b : Bytes), -1 ≤ Lib.compareBytes a b ∧ Lib.compareBytes a b ≤ 1
  | [], [] => by simp [Lib.compareBytes]
  | [], _ :: _ => by simp [Lib.compareBytes]
  | _ :: _, [] => by simp [Lib.compareBytes]
  | a :: xs, b :: ys => by
    simp only [Lib.compareBytes]
    split
    · omega
    · split
      · omega
      · exact cmpB_in xs ys
theorem l_Compare_good {P : Program} {ρ : Ren} (L : Lays.n106 P ρ) {a b : Bytes} : Good P (ρ.f 106) [.str a, .str b] (.int .i64 (Lib.compareBytes a b)) := by
  refine ⟨⟨_, L.f106, rfl, rfl⟩, ?_⟩
  intro w Θ args bs hv ha _ _ _
  obtain _ | ⟨v1, _, _, _, b1, _, h1, ha⟩ := ha
  obtain _ | ⟨v2, _, _, _, b2, _, h2, ha⟩ := ha
  cases ha
  obtain ⟨y, rfl, rfl, _, _⟩ := h1.str_inv
  obtain ⟨z, rfl, rfl, _, _⟩ := h2.str_inv
  have hc := cmpB_in y.data.toList z.data.toList
  refine (Any.strings_Compare L y z w).mono ?_
  rintro e w' ⟨rfl, rfl⟩
  exact ⟨_, [], [], [], rfl, Below.refl _ _, .v (.cell (.pure (.int _ _ (InR.i64.2 (by omega))))), by simp, by simp, by simp, by simp, by simp⟩
end Go.Cx
