/- impl.Falling: a copy of its numbers, sorted by the library through a reversed list. No condition; its contract. -/
import Derived.Test.YtoeenpcilfhjbaaDoorPChoiceLineSrL
import Derived.Test.YtoeenpcilfhjbaaDoorPChoiceLineSrQ
import Derived.Test.YtoeenpcilfhjbaaDoorPChoiceLineNCp
namespace Go.Cx
set_option linter.unusedVariables false
set_option linter.unusedSimpArgs false
open Go.RowKit Go.Proofs Go.Shelf Go.Sort Go.Sr
/-- numbers in falling order -/
def fallB (l : List Int) : List Int := l.mergeSort fun x y => !ltR y x
theorem fallB_perm (l : List Int) : (fallB l).Perm l := List.mergeSort_perm _ _
theorem fallB_len (l : List Int) : (fallB l).length = l.length := (fallB_perm l).length_eq
theorem ixs_rds {w : World} {xs : List Int} : ∀ {cs : List Value} {bs : List Nat}, Rds w cs (xs.map ixx).flatten bs → cs = xs.map (Value.int .i64) ∧ bs = [] ∧ ∀ x ∈ xs, InR .i64 x := by
  induction xs with
  | nil => intro cs bs h; cases h; exact ⟨rfl, rfl, by simp⟩
  | cons x xs ih =>
    intro cs bs h
    have h : Rds w cs (D.int .i64 x :: (xs.map ixx).flatten) bs := h
    cases h with
    | cons v vs d ds b1 b2 h1 h2 h3 =>
      cases h2 with
      | int _ _ hr =>
        obtain ⟨rfl, rfl, h4⟩ := ih h3
        exact ⟨rfl, rfl, by
          intro y hy
          rcases List.mem_cons.1 hy with rfl | hy
          · exact hr
          · exact h4 y hy⟩
theorem rds_ixs {w : World} : ∀ {xs : List Int}, (∀ x ∈ xs, InR .i64 x) → Rds w (xs.map (Value.int .i64)) (xs.map ixx).flatten []
  | [], _ => .nil
  | x :: xs, h => .cons _ _ _ _ [] [] rfl (.int _ _ (h x (by simp))) (rds_ixs fun y hy => h y (by simp [hy]))
theorem rev_call (v : Value) (w : World) : Calls Tryd.prog 33 #[.iface 61 v] w fun e w' => e = .returned (.iface 81 (.pointer (some ⟨w.heap.size, 0, none⟩))) ∧ w' = w.alloc (.cells #[.iface 61 v] 83) := by
  go_enter Tryd.func33, Tryd.ntmps33
  go_wp2
  go_ret
  exact ⟨rfl, rfl⟩
/-- what the sort leaves: the row, sorted -/
def Left (w1 : World) (v : Value) (xs : List Int) (w' : World) : Prop :=
  w'.os = w1.os ∧ w'.tape = w1.tape ∧ w'.output = w1.output ∧ w1.heap.size ≤ w'.heap.size ∧ (∀ b, b < w1.heap.size → v.ownBlock ≠ some b → w'.heap[b]? = w1.heap[b]?) ∧ w'.ownsRow 0 3 1 v xs.length ((fallB xs).map (Value.int .i64))
theorem sort_call {w1 : World} {v : Value} {xs : List Int} (hown : w1.ownsRow 0 3 1 v xs.length (xs.map (Value.int .i64))) (hlen : xs.length < 4611686018427387904) (o : Obj) (ho : o = .cells #[.iface 61 v] 83) :
    Calls Tryd.prog 32 #[.iface 81 (.pointer (some ⟨w1.heap.size, 0, none⟩))] (w1.alloc o) fun e w' => e = .returned (.tuple #[]) ∧ Left w1 v xs w' := by
  have hr : (w1.alloc o).cell? ⟨w1.heap.size, 0, none⟩ = some (.iface 61 v) := by rw [ho]; simp
  have eN : ∀ args w, (callFunc 107 args).run Tryd.prog w = .ok (.enter 107 args) w := enters_of Tryd.func107 (by kernel_rfl) rfl
  have hold : ∀ b, b < w1.heap.size → (w1.alloc o).heap[b]? = w1.heap[b]? := fun b hb => by
    show (w1.heap.push o)[b]? = _
    rw [Array.getElem?_push_lt hb, Array.getElem?_eq_getElem hb]
  have hsz : w1.heap.size ≤ (w1.alloc o).heap.size := by show w1.heap.size ≤ (w1.heap.push o).size; simp
  -- where nothing is moved
  have tiny : xs.length ≤ 1 → ∀ q, Left w1 v xs ((w1.alloc o).drewN q) := fun h1 q => by
    have e : fallB xs = xs := by
      match xs, h1 with
      | [], _ => simp [fallB]
      | [x], _ => simp [fallB]
    refine ⟨rfl, rfl, rfl, hsz, fun b hb _ => hold b hb, ?_⟩
    rw [e]
    refine ⟨hown.1, ?_⟩
    rcases hown.2 with hn | ⟨g, cap, cur, e1, e2, e3, e4⟩
    · exact .inl hn
    · exact .inr ⟨g, cap, cur, e1, e2, (hold g (Array.getElem?_eq_some_iff.1 e3).1).trans e3, e4⟩
  by_cases h1 : xs.length ≤ 1
  · have key : ∀ p c, v = .slice p xs.length c → Calls Tryd.prog 32 #[.iface 81 (.pointer (some ⟨w1.heap.size, 0, none⟩))] (w1.alloc o) fun e w' => e = .returned (.tuple #[]) ∧ Left w1 v xs w' := fun p c hv => by
      refine Calls.mono (sort_tiny (ρ := lays11_ren) (n := xs.length) lays11 (rv_len hr) eN (by rw [hv]; exact is_len p xs.length c _) h1) ?_
      rintro e w' ⟨rfl, q, rfl⟩
      exact ⟨rfl, tiny h1 q⟩
    rcases hown.2 with ⟨e1, e2⟩ | ⟨g, cap, cur, e1, _⟩
    · exact key none 0 (by rw [e2]; exact e1)
    · exact key _ cap e1
  · rcases hown.2 with ⟨e1, e2⟩ | ⟨g, cap, cur, rfl, hb, hgg, hnc, hcm, hcs, htake⟩
    · omega
    · rw [Nat.mul_one] at htake hcs
      have hblk : g < w1.heap.size := (Array.getElem?_eq_some_iff.1 hgg).1
      have hcur : ∀ j, j < xs.length → cur[j]? = some (Value.int .i64 xs.toArray[j]!) := by
        intro j hj
        have h2 : (cur.toList.take xs.length)[j]? = cur[j]? := by rw [List.getElem?_take_of_lt hj]; simp
        rw [← h2, htake, List.getElem?_map, List.getElem?_eq_getElem hj]
        simp [getElem!_pos, hj]
      have hg2 : (w1.alloc o).heap[g]? = some (.cells cur 3 (0, 0)) := (hold g hblk).trans hgg
      have hH : Holds (Value.int .i64) (w1.alloc o) g 0 xs.toArray := by
        intro j hj
        have hj : j < xs.length := by simpa using hj
        refine ⟨?_, ?_⟩
        · rw [← hcur j hj]
          simp [World.cell?, hg2]
        · simp [World.frozen?, hg2]
      have hblk2 : g < (w1.alloc o).heap.size := Nat.lt_of_lt_of_le hblk hsz
      have E := rv_ev (n := xs.length) (c := cap) (rb := w1.heap.size) (d := xs.toArray) hlen hblk2 (by show w1.heap.size < (w1.heap.push o).size; simp) (by omega) hr (by simp) hH
      refine Calls.mono (sort_w (ρ := lays11_ren) lays11 E swo_ltR (rv_len hr) eN (is_len _ _ _ _) xs.toArray (SW.start hH) (by simp) (by omega)) ?_
      rintro e w' ⟨rfl, d', ⟨hp, hs⟩, n, os, rfl⟩
      have hd' : d'.toList = fallB xs := by
        have h := sorted_unique_holds (lt := ltR) swo_ltR (fun x y h1 h2 => by simp [ltR, ltInt] at h1 h2; omega) xs.toArray d' (by simpa using hp) (by simpa using hs)
        simpa [fallB] using h
      have hl : (fallB xs).length = xs.length := fallB_len xs
      have hdl : d'.size = xs.length := by rw [← hl, ← hd']; simp
      refine ⟨rfl, rfl, rfl, rfl, ?_, fun b hb hne => ?_, ?_⟩
      · unfold sortWorld
        rw [size_grow, _root_.Go.Proofs.size_putRow]
        show w1.heap.size ≤ (w1.heap.push o).size + _
        simp; omega
      · have hgb : b ≠ g := fun e => hne (by rw [e]; rfl)
        have hheap : (sortWorld (Value.int .i64) (w1.alloc o) g 0 n d' os).heap = ((w1.alloc o).heap.modify g (onCells (putCells (Value.int .i64) 0 d'))) ++ os := rfl
        rw [hheap, Array.getElem?_append_left (by simpa using Nat.lt_of_lt_of_le hb hsz), Array.getElem?_modify, if_neg (fun e => hgb e.symm), hold b hb]
      · have hheap : (sortWorld (Value.int .i64) (w1.alloc o) g 0 n d' os).heap = ((w1.alloc o).heap.modify g (onCells (putCells (Value.int .i64) 0 d'))) ++ os := rfl
        have hrow : (sortWorld (Value.int .i64) (w1.alloc o) g 0 n d' os).heap[g]? = some (.cells (putCells (Value.int .i64) 0 d' cur) 3 (0, 0)) := by
          rw [hheap, Array.getElem?_append_left (by simpa using hblk2), Array.getElem?_modify, if_pos rfl, hg2]
          rfl
        refine ⟨by simp [hl], .inr ⟨g, cap, _, rfl, hb, hrow, hnc, hcm, by simp [putCells, hcs], ?_⟩⟩
        apply List.ext_getElem?
        intro j
        rw [Nat.mul_one, ← hd']
        by_cases hj : j < xs.length
        · have hj2 : j < cur.size := by omega
          have hj3 : j < d'.size := by omega
          rw [List.getElem?_take_of_lt hj, List.getElem?_map]
          simp [putCells, hj2, hj3]
        · rw [List.getElem?_eq_none (by simp; omega), List.getElem?_eq_none (by simp; omega)]
theorem fall_own {w w1 : World} {v : Value} {xs : List Int} {bs ts us : List Nat} (h : ResS w1 v (D.fr 3 1 (xs.map ixx)) bs ts us) (hus : ∀ b ∈ us, w.heap.size ≤ b ∧ Wr w1 b) (hB : Below w.heap.size w w1) (hl : xs.length < 4611686018427387904) :
    w1.ownsRow 0 3 1 v xs.length (xs.map (Value.int .i64)) ∧ xs.length < 4611686018427387904 ∧ (∀ x ∈ xs, InR .i64 x) ∧ v.oneCell' = true ∧ (∀ g, v.ownBlock = some g → w.heap.size ≤ g) ∧ Below w.heap.size w w1 := by
  cases h with
  | v h => cases h with
    | cell h => cases h with
      | pure h => cases h
      | fr =>
        rename_i cs ns h5 h1 h4 h2 h3
        obtain ⟨rfl, rfl, hr⟩ := ixs_rds h4.rd
        rw [List.length_map] at h3
        exact ⟨h3, hl, hr, h5, fun g hg => (hus g (by simp [hg])).1, hB⟩
theorem fall_end {w w1 w3 : World} {v : Value} {xs : List Int} {Θ : Nat → Nat} (hr : ∀ x ∈ xs, InR .i64 x) (h1 : v.oneCell' = true) (hg : ∀ g, v.ownBlock = some g → w.heap.size ≤ g) (hB : Below w.heap.size w w1) (hL : Left w1 v xs w3) :
    ∃ v' bs' ts us, Ending.returned v = .returned v' ∧ Below w.heap.size w w3 ∧ ResS w3 v' (D.fr 3 1 ((fallB xs).map ixx)) bs' ts us ∧ (∀ b ∈ bs', b < w.heap.size → Θ b = 0) ∧ (∀ b ∈ bs', b ∉ ts) ∧ us.Nodup ∧ (∀ b ∈ us, w.heap.size ≤ b ∧ Wr w3 b) ∧ ∀ b ∈ ts, b ∈ us := by
  obtain ⟨l1, l2, l3, l4, l5, l6⟩ := hL
  have hf : ∀ x ∈ fallB xs, InR .i64 x := fun x hx => hr x ((fallB_perm xs).mem_iff.1 hx)
  have hres : ResC w3 v (D.fr 3 1 ((fallB xs).map ixx)) [] v.ownBlock.toList (v.ownBlock.toList ++ []) :=
    .fr v _ 1 _ ((fallB xs).map (Value.int .i64)) [] (by decide) (by intro r hr; obtain ⟨x, _, rfl⟩ := List.mem_map.1 hr; rfl) (by rw [List.length_map, fallB_len]; exact l6) (.of (rds_ixs hf) (fcol_none rfl)) h1
  refine ⟨v, [], _, _, rfl, ⟨l1.trans hB.os, l2.trans hB.tape, l3.trans hB.output, Nat.le_trans hB.size l4, fun b hb => (l5 b (Nat.lt_of_lt_of_le hb hB.size) fun e => by have := hg b e; omega).trans (hB.block b hb)⟩, .v (.cell hres), by simp, by simp, ?_, ?_, by simp⟩
  · cases v.ownBlock <;> simp
  · intro b hb
    have hb : v.ownBlock = some b := by simpa using hb
    refine ⟨hg b hb, ?_⟩
    rcases l6.2 with ⟨rfl, _⟩ | ⟨g, cap, cur, rfl, _, hgg, _⟩
    · cases hb
    · cases hb
      exact ⟨cur, _, hgg⟩
def d_impl_Falling (a0_ : List Int) : Option (List Int) := (d_impl_copyInts a0_).bind fun x => some (fallB x)
set_option maxHeartbeats 1000000 in
theorem d_impl_Falling_good {a0_ : List Int} {r : List Int} (h : d_impl_Falling a0_ = some r) : Good Tryd.prog 18 [D.sl ((a0_).map ixx)] (D.fr 3 1 ((r).map ixx)) := by
  obtain ⟨x, hx, h⟩ := Option.bind_eq_some_iff.1 h
  cases h
  refine ⟨⟨_, Tryd.func18, rfl, rfl⟩, ?_⟩
  intro w Θ args bs hv ha hz hown h1
  have hcp := (d_impl_copyInts_good hx).2 w Θ args bs hv ha hz hown h1
  obtain _ | ⟨v1, _, _, _, b1, _, hr, ha⟩ := ha
  cases ha
  have HC : Aside _ := hcp
  have hl : Aside (x.length < 4611686018427387904) := by
    rw [d_impl_copyInts] at hx
    obtain ⟨h1, h⟩ := den_ok hx
    cases h
    have := (room_ok h1).2
    simp at this ⊢
    show a0_.length < _
    omega
  clear hcp hv hz hown h1
  have hsc : Aside (∀ (w1 : World) (v : Value), w1.ownsRow 0 3 1 v x.length (x.map (Value.int .i64)) → x.length < 4611686018427387904 → Calls Tryd.prog 32 #[.iface 81 (.pointer (some ⟨w1.heap.size, 0, none⟩))] (w1.alloc (.cells #[.iface 61 v] 83)) fun e w' => e = .returned (.tuple #[]) ∧ Left w1 v x w') := fun w1 v h1 h2 => sort_call h1 h2 _ rfl
  have hrc : Aside (∀ (v : Value) (w : World), Calls Tryd.prog 33 #[.iface 61 v] w _) := fun v w => rev_call v w
  go_enter Tryd.func18, Tryd.ntmps18
  go_wp2_with (first
    | (go_at_call 32; refine Calls.mono (hsc.out _ _ K.out.1 K.out.2.1) ?_; rintro e w3 ⟨rfl, hL⟩; have HL : Aside (Left w1 v x w3) := hL; clear hL)
    | (go_at_call 33; refine Calls.mono (hrc.out _ _) ?_; rintro e w2 ⟨rfl, rfl⟩)
    | (go_at_call 31; refine Calls.mono HC.out ?_; rintro e w1 ⟨v, bs', ts, us, rfl, hB, hR, hb1, hb2, hnd, hus, hts⟩; have K : Aside _ := fall_own hR hus hB hl.out; clear hR hB hb1 hb2 hnd hus hts))
  go_ret
  exact fall_end K.out.2.2.1 K.out.2.2.2.1 K.out.2.2.2.2.1 K.out.2.2.2.2.2 HL.out
#print axioms d_impl_Falling_good
end Go.Cx
