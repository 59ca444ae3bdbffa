/- The methods of a reversed list of numbers, as an interface value reaches them. No condition; plain lemmas. -/
import Derived.Test.YtoeenpcilfhjbaaDoorProg
import Derived.Test.YtoeenpcilfhjbaaDoorPChoiceLineSrK
import Derived.Shelf.RegionOpenPlain
import Derived.Sort.WalkB12s
import Derived.Sort.Walk0
import Derived.ChangeKeysEq
namespace Go.Sr
set_option linter.unusedVariables false
set_option linter.unusedSimpArgs false
open Go.Shelf Go.RowKit Go.Lib Go.Sort Go.Proofs
theorem wrap_ok (ts : Array TypeId) (T : TypeId) (a : Addr) (s1 s2 : ByteArray) : Builtin.ssaWrapNilChk_ ts T #[.pointer (some a), .string s1, .string s2] = pure (.pointer (some a)) := rfl
theorem method_load {P : Program} {T S t' : TypeId} {rb n : Nat} {v : Value} {w : World} {name : String} {i : TypeInfo} {m : Method} {fs : Array Field} {f : Field}
    (hi : P.info? T = some i) (hm : i.methods.find? (·.name == name) = some m) (hp : m.path = #[⟨S, 0, true⟩]) (hf : m.func = none) (hS : P.underlying S = some (.struct fs)) (h0 : fs[0]? = some f) (ho : f.offset = 0) (hz : ∀ w, (Go.sizeOf f.type).run P w = .ok 1 w) (ha : ∀ w, (isAgg f.type).run P w = .ok false w)
    (h : w.cell? ⟨rb, 0, none⟩ = some (.iface t' v)) : Sem.run P (method (n + 1) T (.pointer (some ⟨rb, 0, none⟩)) name) w = Sem.run P (method n t' v name) w := by
  simp [method, Sem.run_bind, run_typeInfo w hi, hm, hp, hf, follow, run_underlying hS, h0, ho, fieldPlace, hz, Place.get, loadVar, ha, h, asAddr, Addr.add, Result.andThen]
theorem method_deref {P : Program} {T S : TypeId} {rb n g : Nat} {x : Value} {w : World} {name : String} {i : TypeInfo} {m : Method}
    (hi : P.info? T = some i) (hm : i.methods.find? (·.name == name) = some m) (hp : m.path = #[]) (hf : m.func = some (g, false)) (hT : P.underlying T = some (.pointer S)) (hz : ∀ w, (Go.sizeOf S).run P w = .ok 1 w) (ha : ∀ w, (isAgg S).run P w = .ok true w)
    (h : w.cell? ⟨rb, 0, none⟩ = some x) : Sem.run P (method (n + 1) T (.pointer (some ⟨rb, 0, none⟩)) name) w = .ok (g, .agg #[x]) w := by
  simp [method, Sem.run_bind, run_typeInfo w hi, hm, hp, hf, follow, receiverAt, run_underlying hT, strVal, wrap_ok, hz, Place.get, loadVar, ha, loadCells, loadCellsFrom, h, asAddr, Addr.add, Result.andThen]
theorem is_find (v : Value) (w : World) : Sem.run Tryd.prog (method (Tryd.prog.types.size + 99) 61 v "Len") w = .ok (107, v) w ∧ Sem.run Tryd.prog (method (Tryd.prog.types.size + 99) 61 v "Swap") w = .ok (110, v) w ∧ Sem.run Tryd.prog (method (Tryd.prog.types.size + 100) 61 v "Less") w = .ok (108, v) w := ⟨by kernel_rfl, by kernel_rfl, by kernel_rfl⟩
def infoOf (P : Program) (T : TypeId) : TypeInfo := match P.info? T with | some i => i | none => default
def mOf (P : Program) (T : TypeId) (name : String) : Method := ((infoOf P T).methods.find? (·.name == name)).getD default
def fsOf (P : Program) (T : TypeId) : Array Field := match P.underlying T with | some (.struct fs) => fs | _ => #[]
def fOf (P : Program) (T : TypeId) : Field := ((fsOf P T)[0]?).getD default
theorem rv_len {rb : Nat} {v : Value} {w : World} (h : w.cell? ⟨rb, 0, none⟩ = some (.iface 61 v)) : Sem.run Tryd.prog (method (Tryd.prog.types.size + 100) 81 (.pointer (some ⟨rb, 0, none⟩)) "Len") w = .ok (107, v) w :=
  (method_load (n := Tryd.prog.types.size + 99) (i := infoOf Tryd.prog 81) (m := mOf Tryd.prog 81 "Len") (S := 83) (fs := fsOf Tryd.prog 83) (f := fOf Tryd.prog 83) (by kernel_rfl) (by kernel_rfl) (by kernel_rfl) (by kernel_rfl) (by kernel_rfl) (by kernel_rfl) (by kernel_rfl) (fun _ => by kernel_rfl) (fun _ => by kernel_rfl) h).trans (is_find v w).1
theorem rv_swap {rb : Nat} {v : Value} {w : World} (h : w.cell? ⟨rb, 0, none⟩ = some (.iface 61 v)) : Sem.run Tryd.prog (method (Tryd.prog.types.size + 100) 81 (.pointer (some ⟨rb, 0, none⟩)) "Swap") w = .ok (110, v) w :=
  (method_load (n := Tryd.prog.types.size + 99) (i := infoOf Tryd.prog 81) (m := mOf Tryd.prog 81 "Swap") (S := 83) (fs := fsOf Tryd.prog 83) (f := fOf Tryd.prog 83) (by kernel_rfl) (by kernel_rfl) (by kernel_rfl) (by kernel_rfl) (by kernel_rfl) (by kernel_rfl) (by kernel_rfl) (fun _ => by kernel_rfl) (fun _ => by kernel_rfl) h).trans (is_find v w).2.1
theorem rv_less {rb : Nat} {x : Value} {w : World} (h : w.cell? ⟨rb, 0, none⟩ = some x) : Sem.run Tryd.prog (method (Tryd.prog.types.size + 100) 81 (.pointer (some ⟨rb, 0, none⟩)) "Less") w = .ok (111, .agg #[x]) w :=
  method_deref (n := Tryd.prog.types.size + 99) (i := infoOf Tryd.prog 81) (m := mOf Tryd.prog 81 "Less") (S := 83) (by kernel_rfl) (by kernel_rfl) (by kernel_rfl) (by kernel_rfl) (by kernel_rfl) (fun _ => by kernel_rfl) (fun _ => by kernel_rfl) h
theorem is_len (p : Option Addr) (n c : Nat) (w : World) : Calls Tryd.prog 107 #[.slice p n c] w fun e w' => e = .returned (.int .i64 n) ∧ ∃ q, w' = w.drewN q := by
  go_enter Tryd.func107, Tryd.ntmps107
  go_wp2
  go_ret
  exact ⟨rfl, 0, rfl⟩
set_option maxHeartbeats 2000000 in
theorem is_less (blk off c size : Nat) (W : World) (G : Nat → Int) (hc : ∀ t, t < size → W.cell? ⟨blk, off + t, none⟩ = some (.int .i64 (G t))) (i j : Nat) (hi : i < size) (hj : j < size) (_hsz : size < 4611686018427387904) :
    Calls Tryd.prog 108 #[.slice (some ⟨blk, off, none⟩) size c, .int .i64 i, .int .i64 j] W fun e w' => e = .returned (.bool (decide (G i < G j))) ∧ ∃ q, w' = W.drewN q := by
  have ci := hc i hi
  have cj := hc j hj
  have mixed : Tryd.prog.follows .mixedOrders = true := by kernel_rfl
  clear hc
  go_enter Tryd.func108, Tryd.ntmps108
  go_wp2
  go_quiet_o (fail)
  go_wp2
  go_ret
  exact ⟨rfl, nq, rfl⟩
set_option maxHeartbeats 2000000 in
theorem is_swap (blk off c size : Nat) (W : World) (x y : Int) (i j : Nat) (hi : i < size) (hj : j < size) (_hsz : size < 4611686018427387904)
    (ci : W.cell? ⟨blk, off + i, none⟩ = some (.int .i64 x)) (cj : W.cell? ⟨blk, off + j, none⟩ = some (.int .i64 y)) (fi : W.frozen? ⟨blk, off + i, none⟩ = false) (fj : W.frozen? ⟨blk, off + j, none⟩ = false) :
    Calls Tryd.prog 110 #[.slice (some ⟨blk, off, none⟩) size c, .int .i64 i, .int .i64 j] W fun e w' => e = .returned (.tuple #[]) ∧ ∃ q, w' = ((W.setCell ⟨blk, off + i, none⟩ (.int .i64 y)).setCell ⟨blk, off + j, none⟩ (.int .i64 x)).drewN q := by
  obtain ⟨v', hy'⟩ := cell?_setCell_some (w := W) (p := ⟨blk, off + i, none⟩) (x := .int .i64 y) (q := ⟨blk, off + j, none⟩) cj
  have mixed : Tryd.prog.follows .mixedOrders = true := by kernel_rfl
  go_enter Tryd.func110, Tryd.ntmps110
  go_wp2
  go_region_o
  all_goals (try go_wp2)
  all_goals go_end0
  all_goals exact ⟨rfl, 1, rfl⟩
set_option maxHeartbeats 2000000 in
theorem rv_lessC (blk off c size : Nat) (W : World) (G : Nat → Int) (hc : ∀ t, t < size → W.cell? ⟨blk, off + t, none⟩ = some (.int .i64 (G t))) (hblk : blk < W.heap.size) (i j : Nat) (hi : i < size) (hj : j < size) (_hsz : size < 4611686018427387904) :
    Calls Tryd.prog 111 #[.agg #[.iface 61 (.slice (some ⟨blk, off, none⟩) size c)], .int .i64 i, .int .i64 j] W fun e w' => e = .returned (.bool (decide (G j < G i))) ∧ ∃ q o, w' = (W.alloc o).drewN q := by
  have hl : Aside (∀ o, Calls Tryd.prog 108 #[.slice (some ⟨blk, off, none⟩) size c, .int .i64 j, .int .i64 i] (W.alloc o) fun e w' => e = .returned (.bool (decide (G j < G i))) ∧ ∃ q, w' = (W.alloc o).drewN q) := fun o => is_less blk off c size (W.alloc o) G (fun t ht => by rw [← hc t ht]; exact World.cell?_alloc_lt W o _ hblk) j i hj hi _hsz
  have ml : ∀ w, Sem.run Tryd.prog (method (Tryd.prog.types.size + 100) 61 (.slice (some ⟨blk, off, none⟩) size c) "Less") w = .ok (108, .slice (some ⟨blk, off, none⟩) size c) w := fun w => (is_find _ w).2.2
  simp only [Tryd.types_size, Nat.reduceAdd] at ml
  clear hc
  go_enter Tryd.func111, Tryd.ntmps111
  go_wp2_with (go_at_call 108; refine (hl.out _).mono ?_; rintro e w' ⟨rfl, q, rfl⟩)
  go_ret
  exact ⟨rfl, q, _, rfl⟩
section
variable {enc : Int → Value} {w0 W : World} {blk off : Nat} {dk : Array Int}
theorem sw_cell (h : SW enc w0 blk off dk W) {rb : Nat} (hb : rb < w0.heap.size) (hne : rb ≠ blk) (k : Nat) : W.cell? ⟨rb, k, none⟩ = w0.cell? ⟨rb, k, none⟩ := by
  obtain ⟨n, os, rfl⟩ := h
  unfold sortWorld
  rw [cell?_grow _ _ _ (by show rb < (putRow _ _ _ _ _).heap.size; rw [_root_.Go.Proofs.size_putRow]; exact hb), cell?_putRow_other _ _ blk off _ _ (Or.inl hne)]
  rfl
def ltR (x y : Int) : Bool := ltInt y x
theorem swo_ltR : SWO ltR := ⟨fun x => swo_ltInt.irrefl x, fun x y z h1 h2 => swo_ltInt.trans z y x h2 h1, fun x y z h1 h2 => swo_ltInt.ntrans z y x h2 h1⟩
theorem kp_alloc (w : World) (o : Obj) (q : Nat) : Kp w ((w.alloc o).drewN q) := by
  refine ⟨?_, fun p hp => ?_, fun p hp => ?_⟩
  · show w.heap.size ≤ (w.heap.push o).size
    simp
  · rw [World.cell?_drewN]
    exact World.cell?_alloc_lt _ _ _ hp
  · exact World.frozen?_alloc_old _ _ _ (Nat.ne_of_lt hp)
theorem same_set (w : World) (b i j q : Nat) (x y : Value) : Same b w (((w.setCell ⟨b, i, none⟩ x).setCell ⟨b, j, none⟩ y).drewN q) := by
  refine ⟨?_, fun p hp => ?_, fun p hp => ?_⟩
  · show ((w.setCell ⟨b, i, none⟩ x).setCell ⟨b, j, none⟩ y).heap.size = _
    simp
  · rw [World.cell?_drewN, World.cell?_setCell_other _ _ _ _ (fun e => hp (by rw [← e])), World.cell?_setCell_other _ _ _ _ (fun e => hp (by rw [← e]))]
  · rw [World.frozen?_drewN]
    simp
theorem rv_ev {n c rb : Nat} {d : Array Int} {w0 : World} (hn : n < 4611686018427387904) (hblk : blk < w0.heap.size) (hrb : rb < w0.heap.size) (hne : rb ≠ blk) (hr : w0.cell? ⟨rb, 0, none⟩ = some (.iface 61 (.slice (some ⟨blk, 0, none⟩) n c))) (hd : d.size = n) (hH : Holds (Value.int .i64) w0 blk 0 d) :
    Ev Tryd.prog 81 (.pointer (some ⟨rb, 0, none⟩)) (.agg #[.iface 61 (.slice (some ⟨blk, 0, none⟩) n c)]) (.slice (some ⟨blk, 0, none⟩) n c) 111 110 (Value.int .i64) ltR w0 blk 0 n where
  hn := hn
  hb := hblk
  ml := fun dk W S => rv_less ((sw_cell S hrb hne 0).trans hr)
  ms := fun dk W S => rv_swap ((sw_cell S hrb hne 0).trans hr)
  el := enters_of Tryd.func111 (by kernel_rfl) rfl
  es := enters_of Tryd.func110 (by kernel_rfl) rfl
  less := fun dk W S hs i j hi hj => by
    have hW := S.holds hblk hH (hs.trans hd.symm)
    refine Calls.mono (rv_lessC blk 0 c n W (fun t => dk[t]!) (fun t ht => (hW t (by omega)).1) (S.lt hblk) i j hi hj hn) ?_
    rintro e w' ⟨rfl, q, o, rfl⟩
    exact ⟨rfl, (S.alloc o).drewN q, kp_alloc _ _ _⟩
  swap := fun dk W S hs i j hi hj => by
    have hW := S.holds hblk hH (hs.trans hd.symm)
    refine Calls.mono (is_swap blk 0 c n W dk[i]! dk[j]! i j hi hj hn (hW i (by omega)).1 (hW j (by omega)).1 (hW i (by omega)).2 (hW j (by omega)).2) ?_
    rintro e w' ⟨rfl, q, rfl⟩
    exact ⟨rfl, (S.swap hblk i j (by omega) (by omega)).drewN q, same_set _ _ _ _ _ _ _⟩
end
end Go.Sr
