/- Package variables whose contents a statement lists: the blocks that hold them, and that they stay. No condition; plain lemmas. -/
import Derived.Test.YtamlfpljmobdoaaDoorNCore
namespace Go.Cx
open Go.RowKit

/-- the variables: their blocks and what is known of their cells (by the seat's given rows) -/
def varsList : List (Nat × (List Value → Prop)) := [(1, fun cs : List Value => cs = [.int .u64 1, .int .u64 10, .int .u64 100, .int .u64 1000, .int .u64 10000, .int .u64 100000, .int .u64 1000000, .int .u64 10000000, .int .u64 100000000, .int .u64 1000000000, .int .u64 10000000000, .int .u64 100000000000, .int .u64 1000000000000, .int .u64 10000000000000, .int .u64 100000000000000, .int .u64 1000000000000000, .int .u64 10000000000000000, .int .u64 100000000000000000, .int .u64 1000000000000000000, .int .u64 10000000000000000000]), (2, fun cs : List Value => ∃ tp p, cs = [Value.iface tp p])]
def VsB (w : World) (B : Nat → Prop) : Prop := ∀ x ∈ varsList, B x.1 ∧ ∃ cs t z, w.heap[x.1]? = some (.cells cs t z) ∧ x.2 cs.toList
/-- the variables read as listed, in blocks that none of X is -/
def Vok (w : World) (X : Nat → Prop) : Prop := ∃ B : Nat → Prop, VsB w B ∧ ∀ b, B b → b < w.heap.size ∧ ¬ X b

theorem VsB.stays {w w' : World} {B : Nat → Prop} (h : VsB w B) (hb : ∀ b, B b → w'.heap[b]? = w.heap[b]?) : VsB w' B := fun x hx => by
  obtain ⟨h1, cs, t, z, h2, h3⟩ := h x hx
  exact ⟨h1, cs, t, z, by rw [hb _ h1, h2], h3⟩
theorem Vok.none {w : World} {X : Nat → Prop} (h : Vok w X) : Vok w fun _ => False := by
  obtain ⟨B, h1, h2⟩ := h
  exact ⟨B, h1, fun b hb => ⟨(h2 b hb).1, id⟩⟩
theorem Vok.cells {w : World} {X : Nat → Prop} (h : Vok w X) {g : Nat} {p : List Value → Prop} (hx : (g, p) ∈ varsList) : ∃ cs t z, w.heap[g]? = some (.cells cs t z) ∧ p cs.toList := by
  obtain ⟨B, h1, h2⟩ := h
  exact (h1 _ hx).2
theorem Vok.var {P : Program} {w : World} {X : Nat → Prop} (h : Vok w X) {g : Nat} {p : List Value → Prop} {name : String} (hx : (g, p) ∈ varsList) (hg : P.globalNamed name = some g) : ∃ cs, w.var? P name = some cs ∧ p cs.toList := by
  obtain ⟨cs, t, z, h1, h2⟩ := h.cells hx
  refine ⟨cs, ?_, h2⟩
  unfold World.var?
  rw [hg, Option.bind_some, h1]
/-- out of the variables' contents -/
theorem Vok.of_var {P : Program} {w : World} (hs : ∀ x ∈ varsList, ∃ name cs, P.globalNamed name = some x.1 ∧ w.var? P name = some cs ∧ x.2 cs.toList) : Vok w fun _ => False := by
  refine ⟨fun b => b ∈ varsList.map Prod.fst, fun x hx => ?_, fun b hb => ?_⟩
  · obtain ⟨name, cs, h1, h2, h3⟩ := hs x hx
    unfold World.var? at h2
    rw [h1, Option.bind_some] at h2
    refine ⟨List.mem_map.2 ⟨x, hx, rfl⟩, ?_⟩
    split at h2
    · rename_i cs' t z h4
      cases h2
      exact ⟨_, t, z, h4, h3⟩
    · cases h2
  · obtain ⟨x, hx, rfl⟩ := List.mem_map.1 hb
    obtain ⟨name, cs, h1, h2, h3⟩ := hs x hx
    unfold World.var? at h2
    rw [h1, Option.bind_some] at h2
    refine ⟨?_, id⟩
    split at h2
    · rename_i cs' t z h4
      exact (Array.getElem?_eq_some_iff.1 h4).1
    · cases h2
theorem Vok.nil {w : World} (h : varsList = []) : Vok w fun _ => False := by
  refine ⟨fun _ => False, ?_, fun _ hb => hb.elim⟩
  intro x hx
  rw [h] at hx
  cases hx
end Go.Cx
