/- Package variables whose contents a statement lists: the blocks that hold them, and that they stay. No condition; plain lemmas. -/
import Derived.Test.YtoeenpcilfhjbaaDoorNCore
namespace Go.Cx
set_option linter.unusedVariables false
set_option linter.unusedSimpArgs false
open Go.RowKit

/-- the variables: their blocks and what is known of their cells (by the seat's given rows) -/
def varsList : List (Nat × (List Value → Prop)) := [(0, fun cs : List Value => cs = [.int .u64 1, .int .u64 10, .int .u64 100, .int .u64 1000, .int .u64 10000, .int .u64 100000, .int .u64 1000000, .int .u64 10000000, .int .u64 100000000, .int .u64 1000000000, .int .u64 10000000000, .int .u64 100000000000, .int .u64 1000000000000, .int .u64 10000000000000, .int .u64 100000000000000, .int .u64 1000000000000000, .int .u64 10000000000000000, .int .u64 100000000000000000, .int .u64 1000000000000000000, .int .u64 10000000000000000000])]
def VsB (w : World) (B : Nat → Prop) : Prop := ∀ x ∈ varsList, B x.1 ∧ ∃ cs t z, w.heap[x.1]? = some (.cells cs t z) ∧ x.2 cs.toList
/-- the variables read as listed, in blocks that none of X is -/
def Vok (w : World) (X : Nat → Prop) : Prop := ∃ B : Nat → Prop, VsB w B ∧ ∀ b, B b → b < w.heap.size ∧ ¬ X b

/-- the variables whose contents are known to the last cell: what these show -/
def varsTab : List (Nat × List D) := []
def VarIn (g : Nat) (ds : List D) : Prop := ∃ p, (g, p) ∈ varsList ∧ ∀ cs : List Value, p cs → ∀ (o : Nat) d, ds[o]? = some d → ∃ v, cs[o]? = some v ∧ ∀ w, Rd w v d []
theorem strs_show {xs : List Bytes} (hx : ∀ x ∈ xs, x.length ≤ maxLen) {o : Nat} {d : D} (h : (xs.map D.str)[o]? = some d) : ∃ v, (xs.map fun b => Value.string ⟨b.toArray⟩)[o]? = some v ∧ ∀ w, Rd w v d [] := by
  rw [List.getElem?_map] at h
  cases hb : xs[o]? with
  | none => rw [hb] at h; cases h
  | some b =>
    rw [hb] at h
    cases h
    refine ⟨_, by rw [List.getElem?_map, hb]; rfl, fun w => ?_⟩
    have := Rd.str (w := w) ⟨b.toArray⟩ (by have := hx b (List.mem_of_getElem? hb); simpa [ByteArray.size] using this)
    simpa using this
theorem varsTab_ok : ∀ x ∈ varsTab, VarIn x.1 x.2 := by intro x hx; cases hx
def varAt (g o : Nat) : Option D := (varsTab.find? fun x => x.1 == g).bind fun x => x.2[o]?
theorem varAt_ok {g o : Nat} {d : D} (h : varAt g o = some d) : ∃ ds, VarIn g ds ∧ ds[o]? = some d := by
  unfold varAt at h
  cases hf : varsTab.find? fun x => x.1 == g with
  | none => rw [hf] at h; cases h
  | some x =>
    rw [hf, Option.bind_some] at h
    have h1 := List.find?_some hf
    have h2 := List.mem_of_find?_eq_some hf
    have e : x.1 = g := by simpa using h1
    exact ⟨x.2, by rw [← e]; exact varsTab_ok x h2, h⟩

def D.isStr : D → Bool | .str _ => true | _ => false
/-- all of a variable that holds texts -/
def varAll (g o n : Nat) : Option D := match varsTab.find? fun x => x.1 == g with
  | some x => if (x.2.all D.isStr && o == 0 && n == x.2.length) = true then some (.agg x.2) else none
  | none => none
theorem strs_rds {w : World} : ∀ {ds : List D} {cs : List Value}, (∀ d ∈ ds, d.isStr = true) → (∀ (o : Nat) d, ds[o]? = some d → ∃ v, cs[o]? = some v ∧ Rd w v d []) → ds.length ≤ cs.length ∧ Rds w (cs.take ds.length) ds []
  | [], cs, _, _ => ⟨by simp, by simpa using Rds.nil⟩
  | d :: ds, cs, h1, h2 => by
    obtain ⟨v, hv, hr⟩ := h2 0 d rfl
    cases cs with
    | nil => cases hv
    | cons c cs =>
      have e : c = v := by simpa using hv
      subst e
      obtain ⟨i1, i2⟩ := strs_rds (ds := ds) (cs := cs) (fun x hx => h1 x (by simp [hx])) (fun o x hx => h2 (o + 1) x hx)
      have hd := h1 d (by simp)
      refine ⟨by simpa using i1, ?_⟩
      rw [List.length_cons, List.take_succ_cons]
      have h1c : c.oneCell' = true := by
        cases d <;> first | cases hd | skip
        cases hr; rfl
      exact .cons c _ d ds [] [] h1c hr i2

theorem VsB.stays {w w' : World} {B : Nat → Prop} (h : VsB w B) (hb : ∀ b, B b → w'.heap[b]? = w.heap[b]?) : VsB w' B := fun x hx => by
  obtain ⟨h1, cs, t, z, h2, h3⟩ := h x hx
  exact ⟨h1, cs, t, z, by rw [hb _ h1, h2], h3⟩
theorem Vok.none {w : World} {X : Nat → Prop} (h : Vok w X) : Vok w fun _ => False := by
  obtain ⟨B, h1, h2⟩ := h
  exact ⟨B, h1, fun b hb => ⟨(h2 b hb).1, id⟩⟩
theorem Vok.cells {w : World} {X : Nat → Prop} (h : Vok w X) {g : Nat} {p : List Value → Prop} (hx : (g, p) ∈ varsList) : ∃ cs t z, w.heap[g]? = some (.cells cs t z) ∧ p cs.toList := by
  obtain ⟨B, h1, h2⟩ := h
  exact (h1 _ hx).2
theorem Vok.var {P : Program} {w : World} {X : Nat → Prop} (h : Vok w X) {g : Nat} {p : List Value → Prop} {name : String} (hx : (g, p) ∈ varsList) (hg : P.globalNamed name = some g) : ∃ cs, w.var? P name = some cs ∧ p cs.toList := by
  obtain ⟨cs, t, z, h1, h2⟩ := h.cells hx
  refine ⟨cs, ?_, h2⟩
  unfold World.var?
  rw [hg, Option.bind_some, h1]
/-- out of the variables' contents -/
theorem Vok.of_var {P : Program} {w : World} (hs : ∀ x ∈ varsList, ∃ name cs, P.globalNamed name = some x.1 ∧ w.var? P name = some cs ∧ x.2 cs.toList) : Vok w fun _ => False := by
  refine ⟨fun b => b ∈ varsList.map Prod.fst, fun x hx => ?_, fun b hb => ?_⟩
  · obtain ⟨name, cs, h1, h2, h3⟩ := hs x hx
    unfold World.var? at h2
    rw [h1, Option.bind_some] at h2
    refine ⟨List.mem_map.2 ⟨x, hx, rfl⟩, ?_⟩
    split at h2
    · rename_i cs' t z h4
      cases h2
      exact ⟨_, t, z, h4, h3⟩
    · cases h2
  · obtain ⟨x, hx, rfl⟩ := List.mem_map.1 hb
    obtain ⟨name, cs, h1, h2, h3⟩ := hs x hx
    unfold World.var? at h2
    rw [h1, Option.bind_some] at h2
    refine ⟨?_, id⟩
    split at h2
    · rename_i cs' t z h4
      exact (Array.getElem?_eq_some_iff.1 h4).1
    · cases h2
theorem Vok.nil {w : World} (h : varsList = []) : Vok w fun _ => False := by
  refine ⟨fun _ => False, ?_, fun _ hb => hb.elim⟩
  intro x hx
  rw [h] at hx
  cases hx
end Go.Cx
