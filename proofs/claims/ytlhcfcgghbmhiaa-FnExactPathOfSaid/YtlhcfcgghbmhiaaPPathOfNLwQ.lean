/- The conditions on the path to a node, in plain words. No condition but bounds. -/
import Derived.Test.YtlhcfcgghbmhiaaPPathOfNLwE
namespace Go.Cx
open Go.RowKit Go.Proofs
set_option linter.unusedVariables false
set_option linter.unusedSimpArgs false
theorem Node.cond_le' {x : Node} {n : Nat} (h : x.wt ≤ n) : x.cond.wt ≤ n := by simp only [Node.wt, Cond.wt] at h ⊢; omega
theorem Network.node_le' {n : Network} {k : Nat} (h : n.wt ≤ k) {x : Node} (hx : x ∈ n.nodes) : x.wt ≤ k := by simp only [Network.wt] at h; have := wtL_mem (w := Node.wt) hx; omega
theorem Network.nodes_le' {n : Network} {k : Nat} (h : n.wt ≤ k) : n.nodes.length ≤ k := by simp only [Network.wt] at h; have := wtL_len Node.wt n.nodes; omega
theorem rnB_nil (s : Bytes) : rnB [] s = s := rfl
theorem renC_nil (x : Cond) : renC [] x = x := by
  have : x.pat.args.map (rnB []) = x.pat.args := by
    rw [show (rnB []) = id from funext rnB_nil]; simp
  unfold renC
  rw [this]
  rfl
def natI (i : Nat) : Int := (i : Int)
/-- the numbers of the nodes on the way up -/
def upB (ns : List Node) : Nat → Nat → List Nat
  | 0, _ => []
  | k + 1, v => v :: (match ns[v]? with
    | some x => if 1 ≤ x.parent ∧ x.parent < (v : Int) then upB ns k x.parent.toNat else []
    | none => [])
def condAt (ns : List Node) (i : Nat) : Option Cond := (ns[i]?).map Node.cond
def pathC (ns : List Node) (k v : Nat) : List Cond := (upB ns k v).reverse.filterMap (condAt ns)
def pathB (ns : List Node) (v : Int) : List Cond := if 1 ≤ v ∧ v < (ns.length : Int) then pathC ns v.toNat v.toNat else []
theorem upB_succ {ns : List Node} {k v : Nat} {x : Node} (hx : ns[v]? = some x) : upB ns (k + 1) v = v :: (if 1 ≤ x.parent ∧ x.parent < (v : Int) then upB ns k x.parent.toNat else []) := by simp only [upB, hx]
theorem upB_lt (ns : List Node) : ∀ (k v : Nat), v < ns.length → ∀ i ∈ upB ns k v, i < ns.length
  | 0, v, _, i, hi => by cases hi
  | k + 1, v, hv, i, hi => by
    rw [upB] at hi
    rcases List.mem_cons.1 hi with rfl | hi
    · exact hv
    · split at hi
      · split at hi
        · rename_i x hx hp
          exact upB_lt ns k _ (by omega) i hi
        · cases hi
      · cases hi
theorem upB_len (ns : List Node) : ∀ (k v : Nat), (upB ns k v).length ≤ k
  | 0, v => by simp [upB]
  | k + 1, v => by
    rw [upB, List.length_cons]
    split
    · split
      · have := upB_len ns k (by assumption : Node).parent.toNat; omega
      · simp
    · simp
theorem pathC_len (ns : List Node) (k v : Nat) : (pathC ns k v).length ≤ k := by
  unfold pathC
  have h1 := List.length_filterMap_le (condAt ns) (upB ns k v).reverse
  have h2 := upB_len ns k v
  rw [List.length_reverse] at h1
  omega
theorem pathC_succ {ns : List Node} {k v : Nat} {x : Node} (hx : ns[v]? = some x) : pathC ns (k + 1) v = (if 1 ≤ x.parent ∧ x.parent < (v : Int) then pathC ns k x.parent.toNat else []) ++ [x.cond] := by
  have hc : condAt ns v = some x.cond := by unfold condAt; rw [hx]; rfl
  unfold pathC
  rw [upB_succ hx]
  by_cases hp : 1 ≤ x.parent ∧ x.parent < (v : Int)
  · rw [if_pos hp, if_pos hp]; simp [hc]
  · rw [if_neg hp, if_neg hp]; simp [hc]
theorem sCopyC (x : Cond) (h : x.pat.args.length ≤ 1099511627770) : d_spec_l4Copy x = some x := by
  unfold d_spec_l4Copy
  rw [sRen x [] h, Option.bind_some, renC_nil]
theorem iCopyC (x : Cond) (h : x.pat.args.length ≤ 1099511627770) : d_impl_copyCond x = some x := by
  unfold d_impl_copyCond d_impl_copyPattern
  rw [iTexts x.pat.args (by omega)]
  rfl
theorem sPathL (n : Network) (h : n.wt ≤ 1048576) (K : List Cond → Option (List Cond)) : ∀ (k v fu : Nat) (w : List Cond), v ≤ k → 1 ≤ v → v < n.nodes.length → k < fu → w.length + k ≤ 4194304 → d_spec_PathOf_L1 n K fu (v : Int) w = K (pathC n.nodes k v ++ w) := by
  have hl := Network.nodes_le' h
  intro k
  induction k with
  | zero => intro v fu w h1 h2; omega
  | succ k ih =>
    intro v fu w h1 h2 h3 h4 h5
    obtain ⟨fu, rfl⟩ : ∃ m, fu = m + 1 := ⟨fu - 1, by omega⟩
    have hx : n.nodes[v]? = some n.nodes[v] := List.getElem?_eq_getElem h3
    have hw := Network.node_le' h (List.getElem_mem h3)
    generalize hxe : n.nodes[v] = x at *
    have e1 : IntKind.i64.wrap ((((n.nodes.map Node.c).length : Int)) - 1) = ((n.nodes.length : Int)) - 1 := by rw [List.length_map]; exact wrap_in (InR.i64.2 (by omega))
    have e2 : (decide ((v : Int) ≥ 1) && decide ((v : Int) ≤ ((n.nodes.length : Int)) - 1)) = true := by simp; omega
    have e3 : atI n.nodes (v : Int) = some x := by unfold atI; rw [decide_eq_true (by omega), cond_true]; exact hx
    have e4 := sCopyC x.cond (by have := Fact.args_le (Cond.pat_le (Node.cond_le' hw)); omega)
    rw [d_spec_PathOf_L1, e1, in_eq, Option.bind_some, e2, cond_true, e3, Option.bind_some, e4, Option.bind_some, roomK (by simp; omega) (by decide), cond_true, pathC_succ hx]
    by_cases h6 : x.parent ≥ (v : Int)
    · rw [decide_eq_true h6, cond_true, if_neg (by omega)]; rfl
    · rw [decide_eq_false h6, cond_false]
      by_cases h7 : 1 ≤ x.parent
      · rw [if_pos ⟨h7, by omega⟩]
        obtain ⟨m, hm⟩ := Int.eq_ofNat_of_zero_le (by omega : 0 ≤ x.parent)
        rw [hm]
        rw [ih m fu ([x.cond] ++ w) (by omega) (by omega) (by omega) (by omega) (by simp; omega)]
        simp
      · rw [if_neg (by omega)]
        obtain ⟨fu, rfl⟩ : ∃ m, fu = m + 1 := ⟨fu - 1, by omega⟩
        have e5 : (decide (x.parent ≥ 1) && decide (x.parent ≤ ((n.nodes.length : Int)) - 1)) = false := by
          rw [decide_eq_false (by omega)]; rfl
        rw [d_spec_PathOf_L1, e1, in_eq, Option.bind_some, e5, cond_false]
        rfl
theorem sPath (n : Network) (v : Int) (h : n.wt ≤ 1048576) : d_spec_PathOf n v = some (pathB n.nodes v) := by
  have hl := Network.nodes_le' h
  unfold d_spec_PathOf pathB
  by_cases hv : 1 ≤ v ∧ v < (n.nodes.length : Int)
  · rw [if_pos hv]
    obtain ⟨m, rfl⟩ := Int.eq_ofNat_of_zero_le (by omega : 0 ≤ v)
    rw [sPathL n h _ m m fuel [] (Nat.le_refl _) (by omega) (by omega) (by unfold fuel; omega) (by simp; omega)]
    simp
  · rw [if_neg hv]
    have e1 : IntKind.i64.wrap ((((n.nodes.map Node.c).length : Int)) - 1) = ((n.nodes.length : Int)) - 1 := by rw [List.length_map]; exact wrap_in (InR.i64.2 (by omega))
    have e2 : (decide (v ≥ 1) && decide (v ≤ ((n.nodes.length : Int)) - 1)) = false := by
      by_cases h1 : 1 ≤ v
      · have h2 : ¬ v ≤ (n.nodes.length : Int) - 1 := by omega
        rw [decide_eq_false h2, Bool.and_false]
      · rw [decide_eq_false h1]; rfl
    rw [show fuel = 4194303 + 1 from rfl, d_spec_PathOf_L1, e1, in_eq, Option.bind_some, e2, cond_false]
theorem iPathL1 (n : Network) (h : n.wt ≤ 1048576) (K : List Int → Option (List Cond)) : ∀ (k v fu : Nat) (w : List Int), v ≤ k → 1 ≤ v → v < n.nodes.length → k < fu → w.length + k ≤ 4194304 → d_impl_PathOf_L1 n K fu (v : Int) w = K (w ++ (upB n.nodes k v).map natI) := by
  have hl := Network.nodes_le' h
  intro k
  induction k with
  | zero => intro v fu w h1 h2; omega
  | succ k ih =>
    intro v fu w h1 h2 h3 h4 h5
    obtain ⟨fu, rfl⟩ : ∃ m, fu = m + 1 := ⟨fu - 1, by omega⟩
    have hx : n.nodes[v]? = some n.nodes[v] := List.getElem?_eq_getElem h3
    generalize hxe : n.nodes[v] = x at *
    have e3 : atI n.nodes (v : Int) = some x := by unfold atI; rw [decide_eq_true (by omega), cond_true]; exact hx
    rw [d_impl_PathOf_L1, room1 (by omega) (by decide), cond_true, e3, Option.bind_some, upB_succ hx]
    by_cases h7 : x.parent < 1
    · rw [decide_eq_true h7, cond_true, if_neg (by omega)]; rfl
    · rw [decide_eq_false h7, cond_false]
      by_cases h6 : x.parent ≥ (v : Int)
      · rw [decide_eq_true h6, cond_true, if_neg (by omega)]; rfl
      · rw [decide_eq_false h6, cond_false, if_pos ⟨by omega, by omega⟩]
        obtain ⟨m, hm⟩ := Int.eq_ofNat_of_zero_le (by omega : 0 ≤ x.parent)
        rw [hm, ih m fu (w ++ [(v : Int)]) (by omega) (by omega) (by omega) (by omega) (by simp; omega)]
        simp [natI]
theorem iPathL2 (n : Network) (h : n.wt ≤ 1048576) (us : List Nat) (hus : ∀ i ∈ us, i < n.nodes.length) (hul : us.length ≤ 1048576) (K : List Cond → Option (List Cond)) : ∀ (j fu : Nat) (w : List Cond), j ≤ us.length → j < fu → w.length + j ≤ 4194304 → d_impl_PathOf_L2 n (us.map natI) K fu ((j : Int) - 1) w = K (w ++ ((us.take j).reverse.filterMap (condAt n.nodes))) := by
  intro j
  induction j with
  | zero =>
    intro fu w _ hf _
    obtain ⟨fu, rfl⟩ : ∃ m, fu = m + 1 := ⟨fu - 1, by omega⟩
    rw [d_impl_PathOf_L2, decide_eq_false (by omega), cond_false]
    simp
  | succ j ih =>
    intro fu w hj hf hw
    obtain ⟨fu, rfl⟩ : ∃ m, fu = m + 1 := ⟨fu - 1, by omega⟩
    have hlt : j < us.length := by omega
    have h3 := hus us[j] (List.getElem_mem hlt)
    have hx : n.nodes[us[j]]? = some n.nodes[us[j]] := List.getElem?_eq_getElem h3
    have hww := Network.node_le' h (List.getElem_mem h3)
    generalize hxe : n.nodes[us[j]] = x at *
    have e0 : ((j + 1 : Nat) : Int) - 1 = (j : Int) := by omega
    have e1 : atI (us.map natI) (j : Int) = some ((us[j] : Nat) : Int) := by
      unfold atI; rw [decide_eq_true (by omega), cond_true]
      show (us.map natI)[(j : Int).toNat]? = _
      rw [Int.toNat_natCast, List.getElem?_map, List.getElem?_eq_getElem hlt]; rfl
    have e3 : atI n.nodes ((us[j] : Nat) : Int) = some x := by unfold atI; rw [decide_eq_true (by omega), cond_true]; exact hx
    have e4 := iCopyC x.cond (by have := Fact.args_le (Cond.pat_le (Node.cond_le' hww)); omega)
    have e5 : IntKind.i64.wrap ((j : Int) - 1) = (j : Int) - 1 := wrap_in (InR.i64.2 (by omega))
    rw [e0, d_impl_PathOf_L2, decide_eq_true (by omega), cond_true, e1, Option.bind_some, e3, Option.bind_some, e4, Option.bind_some, room1 (by omega) (by decide), cond_true, e5, ih fu _ (by omega) (by omega) (by simp; omega)]
    have hc : condAt n.nodes us[j] = some x.cond := by unfold condAt; rw [hx]; rfl
    have ht : us.take (j + 1) = us.take j ++ [us[j]] := by rw [List.take_add_one, List.getElem?_eq_getElem hlt]; rfl
    rw [ht, List.reverse_append, List.filterMap_append]
    simp [hc]
theorem iPath (n : Network) (v : Int) (h : n.wt ≤ 1048576) : d_impl_PathOf n v = some (pathB n.nodes v) := by
  have hl := Network.nodes_le' h
  unfold d_impl_PathOf pathB
  rw [List.length_map]
  by_cases h1 : v < 1
  · rw [decide_eq_true h1, cond_true, if_neg (by omega)]
  · rw [decide_eq_false h1, cond_false]
    by_cases h2 : v ≥ (n.nodes.length : Int)
    · rw [decide_eq_true h2, cond_true, if_neg (by omega)]
    · rw [decide_eq_false h2, cond_false, if_pos ⟨by omega, by omega⟩]
      obtain ⟨m, rfl⟩ := Int.eq_ofNat_of_zero_le (by omega : 0 ≤ v)
      rw [iPathL1 n h _ m m fuel [] (Nat.le_refl _) (by omega) (by omega) (by unfold fuel; omega) (by simp; omega)]
      have hul := upB_len n.nodes m m
      have e5 : IntKind.i64.wrap ((((([] : List Int) ++ (upB n.nodes m m).map natI).map ixx).length : Int) - 1) = (((upB n.nodes m m).length : Nat) : Int) - 1 := by
        rw [List.nil_append, List.length_map, List.length_map]; exact wrap_in (InR.i64.2 (by omega))
      rw [e5, List.nil_append, iPathL2 n h (upB n.nodes m m) (upB_lt n.nodes m m (by omega)) (by omega) _ (upB n.nodes m m).length fuel [] (Nat.le_refl _) (by unfold fuel; omega) (by simp; omega), List.take_length]
      rfl
end Go.Cx
