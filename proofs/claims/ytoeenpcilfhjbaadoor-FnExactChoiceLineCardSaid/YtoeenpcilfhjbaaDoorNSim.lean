/- An abstract state (slots and the call's own objects), what it says of a frame and a world, and the rules of an abstract walk: each rule is a lemma on the kit's own 'wp'. No condition; plain lemmas. -/
import Derived.Test.YtoeenpcilfhjbaaDoorNVar
namespace Go.Cx
set_option linter.unusedVariables false
set_option linter.unusedSimpArgs false
open Go.RowKit

/-- what is fixed during one call: the world at its start, whose blocks are whose there, which blocks are lent to it, the frame's size; 'U': blocks below slices that were handed to it, which are its own now and stay as they are -/
structure Ctx where
  W0 : World
  Θ0 : Nat → Nat
  X : Nat → Prop
  nt : Nat
  U : Nat → Prop
  vs : Vok W0 X

/-- a slice of the call's own: 'sh' its rows may be shared; 'uq' its rows' own slices are no one else's; 'cl' likewise, and no one reads them; 'mv n': 'uq' from row n on, the rows ahead were taken out; 'ho p n': 'uq', but cell p holds the value of object n -/
inductive RK where
  | sh
  | uq
  | cl
  | mv (n : Nat)
  | ho (p n : Nat)

def RK.opn : RK → Bool
  | .cl => false
  | _ => true
def RK.ub : RK → Bool
  | .uq => true
  | .ho _ _ => true
  | _ => false
def RK.hand : RK → Bool
  | .sh => true
  | .uq => true
  | _ => false

/-- an object of the call's own ('tk': a slice that was taken out of a row, no one else's; 'tf': likewise, and it is full): a variable that is boxed ('pbx': one that is lent through a pointer v); a slice that it may append to and write into; a slice (lent, or closed) with all that lies below it, that it may write into -/
inductive Ob where
  | box (cells : List D)
  | pbx (cells : List D) (v : Value)
  | row (k : RK) (e : TypeId) (sz : Nat) (rows : List (List D))
  | lent (sz : Nat) (rows : List (List D)) (v : Option Value)
  | hole (sz : Nat) (rows : List (List D)) (v : Option Value) (p n : Nat)
  | mp (kv : List (D × D))
  | tk (rows : List (List D))
  | tf (e : TypeId) (sz : Nat) (rows : List (List D))
  | gone

def Ob.cs? : Ob → Option (List D)
  | .box c => some c
  | .pbx c _ => some c
  | _ => none
def Ob.re (o : Ob) (c : List D) : Ob := match o with
  | .pbx _ v => .pbx c v
  | _ => .box c

/-- how a lent variable is named: by its pointer; and by what its first cell holds from first to last, if that is told -/
def ptrOf (u : Value) : Value := match u with
  | .tuple ⟨[p, _]⟩ => p
  | u => u
def keptOf (u : Value) : Option Value := match u with
  | .tuple ⟨[_, c]⟩ => some c
  | _ => none
/-- may this variable be written at this cell -/
def Ob.keepB (o : Ob) (off : Nat) : Bool := match o with
  | .pbx cells _ => !(cells.length == 3) || Nat.ble 1 off
  | _ => true

structure St where
  σ : List (Nat × D)
  H : List Ob

def lk : List (Nat × D) → Nat → D
  | [], _ => .any
  | (t, d) :: r, n => if n = t then d else lk r n

def D.ofV : Value → D
  | .bool b => .bool b
  | .int k n => if InR k n then .int k n else .val (.int k n)
  | .string s => if s.size ≤ maxLen then .str s.data.toList else .val (.string s)
  | .slice none 0 0 => .nil
  | v => .val v

def St.ev (st : St) : Operand → D
  | .tmp t => lk st.σ t
  | .const v => D.ofV v
  | .global g => .val (.pointer (some ⟨g, 0, none⟩))
  | .func f => .val (.func (.func f) #[] #[])

def St.set (st : St) (t : Nat) (d : D) : St := ⟨(t, d) :: st.σ, st.H⟩
def St.put (st : St) (t : Option Nat) (d : D) : St := match t with | some t => st.set t d | none => st

/-- one cell, with names of own objects -/
inductive RdC (w : World) (κ : Nat → Option Value) : Value → D → List Nat → Prop
  | pure {v : Value} {d : D} {bs : List Nat} : Rd w v d bs → RdC w κ v d bs
  | acc (id : Nat) (v : Value) : κ id = some v → RdC w κ v (.acc id) []
  | ptr (id off b : Nat) : κ id = some (.pointer (some ⟨b, 0, none⟩)) → RdC w κ (.pointer (some ⟨b, off, none⟩)) (.ptr id off) []
  | op (id i sz off b o0 len cap : Nat) : κ id = some (.slice (some ⟨b, o0, none⟩) len cap) → RdC w κ (.pointer (some ⟨b, o0 + (i * sz + off), none⟩)) (.op id i sz off) []

inductive RdCs (w : World) (κ : Nat → Option Value) : List Value → List D → List Nat → Prop
  | nil : RdCs w κ [] [] []
  | cons (v : Value) (vs : List Value) (d : D) (ds : List D) (b1 b2 : List Nat) : v.oneCell' = true → RdC w κ v d b1 → RdCs w κ vs ds b2 → RdCs w κ (v :: vs) (d :: ds) (b1 ++ b2)

/-- a value: a cell or a struct of cells -/
inductive RdV (w : World) (κ : Nat → Option Value) : Value → D → List Nat → Prop
  | cell {v : Value} {d : D} {bs : List Nat} : RdC w κ v d bs → RdV w κ v d bs
  | agg (cs : List Value) (ds : List D) (bs : List Nat) : RdCs w κ cs ds bs → RdV w κ (.agg cs.toArray) (.agg ds) bs

inductive RdVs (w : World) (κ : Nat → Option Value) : List Value → List D → List Nat → Prop
  | nil : RdVs w κ [] [] []
  | cons (v : Value) (vs : List Value) (d : D) (ds : List D) (b1 b2 : List Nat) : RdV w κ v d b1 → RdVs w κ vs ds b2 → RdVs w κ (v :: vs) (d :: ds) (b1 ++ b2)

inductive RdS (w : World) (κ : Nat → Option Value) : Value → D → List Nat → Prop
  | v {v : Value} {d : D} {bs : List Nat} : RdV w κ v d bs → RdS w κ v d bs
  | tup (vs : List Value) (ds : List D) (bs : List Nat) : RdVs w κ vs ds bs → RdS w κ (.tuple vs.toArray) (.tup ds) bs

theorem RdS.of {w : World} {κ : Nat → Option Value} {v : Value} {d : D} {bs : List Nat} (h : Rd w v d bs) : RdS w κ v d bs := .v (.cell (.pure h))

/-- a block that may be written -/
def Wr (w : World) (b : Nat) : Prop := ∃ cs T, w.heap[b]? = some (.cells cs T (0, 0))

/-- a slice of which one cell holds the value of another object -/
def RdH (w : World) (κ : Nat → Option Value) (v : Value) (rows : List (List D)) (p n : Nat) (bs : List Nat) : Prop :=
  ∃ b off cap cs ns, v = .slice (some ⟨b, off, none⟩) rows.length cap ∧ b < w.heap.size ∧ rows.length ≤ cap ∧ cap ≤ maxLen ∧ (∀ j c, cs[j]? = some c → w.cell? ⟨b, off + j, none⟩ = some c) ∧ Rds w cs rows.flatten ns ∧ bs = b :: ns ∧
    ∃ c, cs[p]? = some c ∧ κ n = some c

/-- the entries of a map, each with what it shows -/
def KvRel (w : World) (es : List MapEntry) (kv : List (D × D)) : Prop :=
  es.length = kv.length ∧ ∀ (j : Nat) e p, es[j]? = some e → kv[j]? = some p → Rd w e.key p.1 [] ∧ Rd w e.val p.2 []
theorem KvRel.stay {w w' : World} {es : List MapEntry} {kv : List (D × D)} (h : KvRel w es kv) : KvRel w' es kv :=
  ⟨h.1, fun j e p h1 h2 => ⟨(h.2 j e p h1 h2).1.keep (by simp), (h.2 j e p h1 h2).2.keep (by simp)⟩⟩

/-- the first cell of a variable of three cells is as it was -/
def Kept (w : World) (κ : Nat → Option Value) (id : Nat) (u : Value) : Prop :=
  ∀ c, keptOf u = some c → ∀ g cs T, κ id = some (.pointer (some ⟨g, 0, none⟩)) → w.heap[g]? = some (.cells cs T (0, 0)) → cs.size = 3 ∧ cs[0]? = some c
theorem Kept.same {w w' : World} {κ κ' : Nat → Option Value} {id id' : Nat} {u : Value} {g : Nat} {cs : Array Value} {T : TypeId} (h : Kept w κ id u) (hk : κ id = some (.pointer (some ⟨g, 0, none⟩))) (hg : w.heap[g]? = some (.cells cs T (0, 0)))
    (hk' : κ' id' = some (.pointer (some ⟨g, 0, none⟩))) (hg' : w'.heap[g]? = some (.cells cs T (0, 0))) : Kept w' κ' id' u := by
  intro c hc g2 cs2 T2 h2 h3
  rw [hk'] at h2; cases h2
  rw [hg'] at h3; cases h3
  exact h c hc g cs T hk hg

/-- an object, as it lies in memory; 'Θ b': whose block b is: 0 nobody's, id + 2 object id's -/
def ObRel (w : World) (κ : Nat → Option Value) (Θ : Nat → Nat) (id : Nat) : Ob → Prop
  | .box cells => ∃ g cs T, κ id = some (.pointer (some ⟨g, 0, none⟩)) ∧ w.heap[g]? = some (.cells cs T (0, 0)) ∧ Θ g = id + 2 ∧
      ∃ bs, RdCs w κ cs.toList cells bs ∧ ∀ b ∈ bs, Θ b = 0
  | .pbx cells u => (κ id = some (ptrOf u) ∧ Kept w κ id u) ∧ ∃ g cs T, κ id = some (.pointer (some ⟨g, 0, none⟩)) ∧ w.heap[g]? = some (.cells cs T (0, 0)) ∧ Θ g = id + 2 ∧
      ∃ bs, RdCs w κ cs.toList cells bs ∧ ∀ b ∈ bs, Θ b = 0
  | .row k e sz rows => 0 < sz ∧ (∀ r ∈ rows, r.length = sz) ∧ ∃ v cs bs, κ id = some v ∧ w.ownsRow 0 e sz v rows.length cs ∧ Rds w cs rows.flatten bs ∧
      (∀ g, v.ownBlock = some g → Θ g = id + 2) ∧
      (match k with
        | .cl => bs.Nodup ∧ (∀ b ∈ bs, Θ b = id + 2 ∧ Wr w b) ∧ (∀ g, v.ownBlock = some g → g ∉ bs) ∧ RdF w (fcol e) 0 cs rows.flatten bs
        | _ => ∀ b ∈ bs, Θ b = 0)
  | .lent sz rows u => (∀ r ∈ rows, r.length = sz) ∧ (∀ x, u = some x → κ id = some x) ∧ ∃ v bs, κ id = some v ∧ Rd w v (.sl rows) bs ∧ bs.Nodup ∧ ∀ b ∈ bs, Θ b = id + 2 ∧ Wr w b
  | .hole sz rows u p n => (∀ r ∈ rows, r.length = sz) ∧ (∀ x, u = some x → κ id = some x) ∧ ∃ v bs, κ id = some v ∧ RdH w κ v rows p n bs ∧ bs.Nodup ∧ ∀ b ∈ bs, Θ b = id + 2 ∧ Wr w b
  | .mp kv => ∃ g es clock, κ id = some (.map (some g)) ∧ w.heap[g]? = some (.map es clock) ∧ Θ g = id + 2 ∧ KvRel w es.toList kv
  | .tk rows => ∃ v bs, κ id = some v ∧ Rd w v (.sl rows) bs ∧ ∀ b ∈ bs, Θ b = 0
  | .tf e sz rows => ∃ v bs, κ id = some v ∧ Rd w v (.sl rows) bs ∧ ∀ b ∈ bs, Θ b = 0
  | .gone => True

/-- new, or lent to the call -/
def Mine (Γ : Ctx) (b : Nat) : Prop := Γ.W0.heap.size ≤ b ∨ Γ.X b

def MineU (Γ : Ctx) (b : Nat) : Prop := Mine Γ b ∨ Γ.U b
theorem ObRel.cs {w : World} {κ : Nat → Option Value} {Θ : Nat → Nat} {id : Nat} {o : Ob} {cells : List D} (hc : o.cs? = some cells) (h : ObRel w κ Θ id o) :
    ∃ g cs T, κ id = some (.pointer (some ⟨g, 0, none⟩)) ∧ w.heap[g]? = some (.cells cs T (0, 0)) ∧ Θ g = id + 2 ∧ ∃ bs, RdCs w κ cs.toList cells bs ∧ ∀ b ∈ bs, Θ b = 0 := by
  cases o <;> simp only [Ob.cs?, reduceCtorEq, Option.some.injEq] at hc
  · subst hc; exact h
  · subst hc; exact h.2
theorem ObRel.ofCs {w w' : World} {κ κ' : Nat → Option Value} {Θ Θ' : Nat → Nat} {id : Nat} {o : Ob} {cells cells' : List D} (hc : o.cs? = some cells) (h : ObRel w κ Θ id o) (hk : ∀ v, κ id = some v → κ' id = some v)
    (hK : ∀ c u, o = .pbx c u → Kept w' κ' id u)
    (h' : ∃ g cs T, κ' id = some (.pointer (some ⟨g, 0, none⟩)) ∧ w'.heap[g]? = some (.cells cs T (0, 0)) ∧ Θ' g = id + 2 ∧ ∃ bs, RdCs w' κ' cs.toList cells' bs ∧ ∀ b ∈ bs, Θ' b = 0) : ObRel w' κ' Θ' id (o.re cells') := by
  cases o <;> simp only [Ob.cs?, reduceCtorEq, Option.some.injEq] at hc
  · exact h'
  · exact ⟨⟨hk _ h.1.1, hK _ _ rfl⟩, h'⟩

/-- what the call may not touch is as it was -/
structure Stays (Γ : Ctx) (w : World) : Prop where
  os : w.os = Γ.W0.os
  tape : w.tape = Γ.W0.tape
  output : w.output = Γ.W0.output
  size : Γ.W0.heap.size ≤ w.heap.size
  block : ∀ b, b < Γ.W0.heap.size → ¬ Γ.X b → w.heap[b]? = Γ.W0.heap[b]?

/-- what else is told by ρ: of a slice that was taken out, of rows of which the first n were taken out -/
def UqM (w : World) (κ : Nat → Option Value) (ρ : Nat → Nat) (id : Nat) : Ob → Prop
  | .row (.mv n) e sz rows => ∃ v cs bs, κ id = some v ∧ w.ownsRow 0 e sz v rows.length cs ∧ Rds w (cs.drop (n * sz)) (rows.drop n).flatten bs ∧ bs.Nodup ∧ ∀ b ∈ bs, ρ b = id + 1
  | .row (.ho p n) e sz rows => ∃ v cs bs, κ id = some v ∧ w.ownsRow 0 e sz v rows.length cs ∧ RdF w (fcol e) 0 cs rows.flatten bs ∧ bs.Nodup ∧ (∀ b ∈ bs, ρ b = id + 1) ∧ ∃ c, cs[p]? = some c ∧ κ n = some c
  | .tk rows => ∃ v bs, κ id = some v ∧ Rd w v (.sl rows) bs ∧ bs.Nodup ∧ ∀ b ∈ bs, ρ b = id + 1
  | .tf e sz rows => ∃ v bs, κ id = some v ∧ FullC w (e, sz) v (.sl rows) bs ∧ (∀ b ∈ bs, b < w.heap.size) ∧ bs.Nodup ∧ ∀ b ∈ bs, ρ b = id + 1
  | _ => True

/-- 'ρ b = id + 1': block b lies in the slices of object id's rows, and nowhere else -/
structure Uniq (Γ : Ctx) (H : List Ob) (κ : Nat → Option Value) (Θ : Nat → Nat) (w : World) (ρ : Nat → Nat) : Prop where
  free : ∀ b, ρ b ≠ 0 → Θ b = 0 ∧ MineU Γ b ∧ Wr w b
  rows : ∀ id e sz rows, H[id]? = some (.row .uq e sz rows) → ∃ v cs bs, κ id = some v ∧ w.ownsRow 0 e sz v rows.length cs ∧ RdF w (fcol e) 0 cs rows.flatten bs ∧ bs.Nodup ∧ ∀ b ∈ bs, ρ b = id + 1
  more : ∀ id o, H[id]? = some o → UqM w κ ρ id o

structure Sim (Γ : Ctx) (st : St) (κ : Nat → Option Value) (Θ : Nat → Nat) (a : Act) (w : World) : Prop where
  defers : a.defers = []
  size : a.tmps.size = Γ.nt
  kout : ∀ id, st.H.length ≤ id → κ id = none
  kone : ∀ (id : Nat) u, κ id = some u → u.oneCell' = true
  slot : ∀ t, ∃ bs, RdS w κ (a.tmps.getD t undef) (lk st.σ t) bs ∧ ∀ b ∈ bs, Θ b = 0
  ob : ∀ id o, st.H[id]? = some o → ObRel w κ Θ id o
  own : ∀ b, Θ b ≠ 0 → b < w.heap.size
  old : ∀ b, b < Γ.W0.heap.size → ¬ Γ.X b → Θ b = Γ.Θ0 b ∧ Θ b ≤ 1
  mine : ∀ b, 2 ≤ Θ b → Mine Γ b
  stays : Stays Γ w
  uniq : ∃ ρ, Uniq Γ st.H κ Θ w ρ

theorem Sim.vsb {Γ : Ctx} {st : St} {κ : Nat → Option Value} {Θ : Nat → Nat} {a : Act} {w : World} (h : Sim Γ st κ Θ a w) : ∃ B : Nat → Prop, VsB w B ∧ ∀ b, B b → b < Γ.W0.heap.size ∧ b < w.heap.size ∧ ¬ Γ.X b := by
  obtain ⟨B, h1, h2⟩ := Γ.vs
  exact ⟨B, h1.stays fun b hb => h.stays.block b (h2 b hb).1 (h2 b hb).2, fun b hb => ⟨(h2 b hb).1, Nat.lt_of_lt_of_le (h2 b hb).1 h.stays.size, (h2 b hb).2⟩⟩
theorem Sim.vok {Γ : Ctx} {st : St} {κ : Nat → Option Value} {Θ : Nat → Nat} {a : Act} {w : World} (h : Sim Γ st κ Θ a w) : Vok w fun _ => False := by
  obtain ⟨B, h1, h2⟩ := h.vsb
  exact ⟨B, h1, fun b hb => ⟨(h2 b hb).2.1, id⟩⟩

/-- the abstract walk: of code, of a list of operations -/
def AW (P : Program) (Γ : Ctx) (c : Code) (Q : Exit → St → Prop) (st : St) : Prop :=
  ∀ κ Θ a w, Sim Γ st κ Θ a w → c.wp P (fun e a' w' => ∃ st' κ' Θ', Sim Γ st' κ' Θ' a' w' ∧ Q e st') a w

def AO (P : Program) (Γ : Ctx) (all : Array Oper) (ops : List Oper) (Q : Exit → St → Prop) (st : St) : Prop :=
  ∀ κ Θ a w, Sim Γ st κ Θ a w → wpList P all (fun e a' w' => ∃ st' κ' Θ', Sim Γ st' κ' Θ' a' w' ∧ Q e st') ops a w

section
variable {P : Program} {Γ : Ctx} {Q : Exit → St → Prop} {st : St}

theorem AW_skip (h : Q .normal st) : AW P Γ .skip Q st := fun _ _ _ _ hs => wp_skip ⟨_, _, _, hs, h⟩
theorem AW_ret (h : Q .ret st) : AW P Γ .ret Q st := fun _ _ _ _ hs => wp_ret ⟨_, _, _, hs, h⟩
theorem AW_exit {id : Nat} (h : Q (.exit id) st) : AW P Γ (.exit id) Q st := fun _ _ _ _ hs => wp_exit ⟨_, _, _, hs, h⟩

def thenQ (next : St → Prop) (Q : Exit → St → Prop) : Exit → St → Prop
  | .normal, st => next st
  | e, st => Q e st
def blockQ (id : Nat) (Q : Exit → St → Prop) : Exit → St → Prop
  | .exit id', st => if id' = id then Q .normal st else Q (.exit id') st
  | e, st => Q e st

theorem AW_seq {x y : Code} (h : AW P Γ x (thenQ (AW P Γ y Q) Q) st) : AW P Γ (.seq x y) Q st := by
  intro κ Θ a w hs
  refine wp_seq (wp_mono (h κ Θ a w hs) ?_)
  rintro e a' w' ⟨st', κ', Θ', hs', hq⟩
  cases e with
  | normal => exact hq κ' Θ' a' w' hs'
  | exit id => exact ⟨_, _, _, hs', hq⟩
  | goto l => exact ⟨_, _, _, hs', hq⟩
  | ret => exact ⟨_, _, _, hs', hq⟩
  | panic c => exact ⟨_, _, _, hs', hq⟩
  | outgrown => exact ⟨_, _, _, hs', hq⟩

theorem AW_block {id : Nat} {c : Code} (h : AW P Γ c (blockQ id Q) st) : AW P Γ (.block id c) Q st := by
  intro κ Θ a w hs
  refine wp_block (wp_mono (h κ Θ a w hs) ?_)
  rintro e a' w' ⟨st', κ', Θ', hs', hq⟩
  cases e with
  | exit id' =>
    simp only [Exit.inBlock, blockQ] at hq ⊢
    split
    · rename_i he; rw [if_pos he] at hq; exact ⟨_, _, _, hs', hq⟩
    · rename_i he; rw [if_neg he] at hq; exact ⟨_, _, _, hs', hq⟩
  | normal => exact ⟨_, _, _, hs', hq⟩
  | goto l => exact ⟨_, _, _, hs', hq⟩
  | ret => exact ⟨_, _, _, hs', hq⟩
  | panic c => exact ⟨_, _, _, hs', hq⟩
  | outgrown => exact ⟨_, _, _, hs', hq⟩

theorem AW_region {id : Nat} {l : List Oper} (h : AO P Γ l.toArray l Q st) : AW P Γ (.region id l.toArray false) Q st :=
  fun κ Θ a w hs => wp_region_lit (h κ Θ a w hs)

theorem AO_nil {all : Array Oper} (h : Q .normal st) : AO P Γ all [] Q st := fun _ _ _ _ hs => wpList_nil ⟨_, _, _, hs, h⟩

theorem AW_mono {c : Code} {Q' : Exit → St → Prop} (h : AW P Γ c Q st) (hq : ∀ e st, Q e st → Q' e st) : AW P Γ c Q' st :=
  fun κ Θ a w hs => wp_mono (h κ Θ a w hs) fun _ _ _ ⟨st', κ', Θ', hs', q⟩ => ⟨st', κ', Θ', hs', hq _ _ q⟩

/-- a loop: the state at its head in round k, and what else is known there; 'n': at most so many rounds -/
theorem AW_loop {c : Code} (S : Nat → St) (I : Nat → Prop) (n : Nat) (h0 : st = S 0) (hI : I 0)
    (round : ∀ k, k ≤ n → I k → AW P Γ c (thenQ (fun st' => k < n ∧ st' = S (k + 1) ∧ I (k + 1)) Q) (S k)) : AW P Γ (.loop c) Q st := by
  subst h0
  intro κ Θ a w hs
  refine wp_loop_ghost (fun g a w => ∃ k κ Θ, k ≤ n ∧ g = n - k ∧ I k ∧ Sim Γ (S k) κ Θ a w) n ⟨0, κ, Θ, by omega, by omega, hI, hs⟩ ?_
  rintro g a w ⟨k, κ, Θ, hk, rfl, hIk, hs⟩
  refine wp_mono (round k hk hIk κ Θ a w hs) ?_
  rintro e a' w' ⟨st', κ', Θ', hs', hq⟩
  cases e with
  | normal =>
    obtain ⟨hlt, rfl, hI'⟩ := hq
    exact ⟨n - (k + 1), by omega, k + 1, κ', Θ', by omega, rfl, hI', hs'⟩
  | exit id => exact ⟨_, _, _, hs', hq⟩
  | goto l => exact ⟨_, _, _, hs', hq⟩
  | ret => exact ⟨_, _, _, hs', hq⟩
  | panic c => exact ⟨_, _, _, hs', hq⟩
  | outgrown => exact ⟨_, _, _, hs', hq⟩
end

/-! what a name or a scalar comes to -/
section
variable {w : World} {κ : Nat → Option Value} {v : Value} {bs : List Nat}
theorem RdS.int_inv {k : IntKind} {n : Int} (h : RdS w κ v (.int k n) bs) : v = .int k n := by
  cases h with | v h => cases h with | cell h => cases h with | pure h => cases h; rfl
theorem RdS.int_in {k : IntKind} {n : Int} (h : RdS w κ v (.int k n) bs) : InR k n := by
  cases h with | v h => cases h with | cell h => cases h with | pure h => cases h with | int _ _ hr => exact hr
theorem RdS.str_le {s : Bytes} (h : RdS w κ v (.str s) bs) : s.length ≤ maxLen := by
  cases h with | v h => cases h with | cell h => cases h with | pure h => cases h with | str x hx => simpa using hx
theorem RdS.bool_inv {b : Bool} (h : RdS w κ v (.bool b) bs) : v = .bool b := by
  cases h with | v h => cases h with | cell h => cases h with | pure h => cases h; rfl
theorem RdS.str_inv {s : Bytes} (h : RdS w κ v (.str s) bs) : ∃ x : ByteArray, v = .string x ∧ x.data.toList = s := by
  cases h with | v h => cases h with | cell h => cases h with | pure h => cases h; exact ⟨_, rfl, rfl⟩
theorem RdS.val_inv {u : Value} (h : RdS w κ v (.val u) bs) : v = u := by
  cases h with | v h => cases h with | cell h => cases h with | pure h => cases h; rfl
theorem RdS.nil_inv (h : RdS w κ v .nil bs) : v = .slice none 0 0 := by
  cases h with | v h => cases h with | cell h => cases h with | pure h => cases h; rfl
theorem RdS.sl_inv {rows : List (List D)} (h : RdS w κ v (.sl rows) bs) : Rd w v (.sl rows) bs := by
  cases h with | v h => cases h with | cell h => cases h with | pure h => exact h
theorem RdS.ep_inv {row : List D} {o : Nat} (h : RdS w κ v (.ep row o) bs) : Rd w v (.ep row o) bs := by
  cases h with | v h => cases h with | cell h => cases h with | pure h => exact h
theorem RdS.acc_inv {id : Nat} (h : RdS w κ v (.acc id) bs) : κ id = some v ∧ bs = [] := by
  cases h with | v h => cases h with | cell h => cases h with | pure h => cases h | acc _ _ hk => exact ⟨hk, rfl⟩
theorem RdS.ptr_inv {id off : Nat} (h : RdS w κ v (.ptr id off) bs) : ∃ b, κ id = some (.pointer (some ⟨b, 0, none⟩)) ∧ v = .pointer (some ⟨b, off, none⟩) := by
  cases h with | v h => cases h with | cell h => cases h with | pure h => cases h | ptr _ _ b hk => exact ⟨b, hk, rfl⟩

theorem RdS.op_inv {id i sz off : Nat} (h : RdS w κ v (.op id i sz off) bs) : ∃ b o0 len cap, κ id = some (.slice (some ⟨b, o0, none⟩) len cap) ∧ v = .pointer (some ⟨b, o0 + (i * sz + off), none⟩) := by
  cases h with | v h => cases h with | cell h => cases h with | pure h => cases h | op _ _ _ _ b o0 len cap hk => exact ⟨b, o0, len, cap, hk, rfl⟩

theorem RdCs.ofRds {vs : List Value} {ds : List D} (h : Rds w vs ds bs) : RdCs w κ vs ds bs := by
  induction ds generalizing vs bs with
  | nil => cases h; exact .nil
  | cons d ds ih => cases h with | cons v vs _ _ b1 b2 h1 h2 h3 => exact .cons _ _ _ _ _ _ h1 (.pure h2) (ih h3)

theorem ownsRow_zero {w : World} {e sz b o0 len cap n : Nat} {cs : List Value} (h : w.ownsRow 0 e sz (.slice (some ⟨b, o0, none⟩) len cap) n cs) : o0 = 0 := by
  rcases h.2 with ⟨h, _⟩ | ⟨g, cap, cur, h, _⟩
  · cases h
  · cases h; rfl

theorem RdS.agg_inv {ds : List D} (h : RdS w κ v (.agg ds) bs) : ∃ cs : List Value, v = .agg cs.toArray ∧ RdCs w κ cs ds bs := by
  cases h with
  | v h =>
    cases h with
    | cell h => cases h with | pure h => cases h with | agg cs _ _ h => exact ⟨cs, rfl, RdCs.ofRds h⟩
    | agg cs _ _ h => exact ⟨cs, rfl, h⟩

theorem RdCs.length {vs : List Value} {ds : List D} (h : RdCs w κ vs ds bs) : vs.length = ds.length := by
  induction ds generalizing vs bs with
  | nil => cases h; rfl
  | cons d ds ih => cases h with | cons v vs _ _ b1 b2 h1 h2 h3 => simp [ih h3]

theorem RdCs.one {vs : List Value} {ds : List D} (h : RdCs w κ vs ds bs) : ∀ v ∈ vs, v.oneCell' = true := by
  induction ds generalizing vs bs with
  | nil => cases h; simp
  | cons d ds ih =>
    cases h with
    | cons v vs _ _ b1 b2 h1 h2 h3 =>
      intro u hu
      rcases List.mem_cons.1 hu with rfl | hu
      · exact h1
      · exact ih h3 u hu

theorem RdCs.app {vs us : List Value} {ds es : List D} {cs : List Nat} (h : RdCs w κ vs ds bs) (k : RdCs w κ us es cs) : RdCs w κ (vs ++ us) (ds ++ es) (bs ++ cs) := by
  induction ds generalizing vs bs with
  | nil => cases h; simpa using k
  | cons d ds ih =>
    cases h with
    | cons v vs _ _ b1 b2 h1 h2 h3 =>
      rw [List.append_assoc]
      exact .cons _ _ _ _ _ _ h1 h2 (ih h3)

theorem RdCs.split {vs : List Value} {ds es : List D} (h : RdCs w κ vs (ds ++ es) bs) :
    ∃ v1 v2 b1 b2, vs = v1 ++ v2 ∧ bs = b1 ++ b2 ∧ RdCs w κ v1 ds b1 ∧ RdCs w κ v2 es b2 := by
  induction ds generalizing vs bs with
  | nil => exact ⟨[], vs, [], bs, by simp, by simp, .nil, h⟩
  | cons d ds ih =>
    cases h with
    | cons v vs _ _ b1 b2 h1 h2 h3 =>
      obtain ⟨v1, v2, c1, c2, rfl, rfl, k1, k2⟩ := ih h3
      exact ⟨v :: v1, v2, b1 ++ c1, c2, by simp, by simp, .cons _ _ _ _ _ _ h1 h2 k1, k2⟩

theorem RdCs.mid {vs : List Value} {ds : List D} (h : RdCs w κ vs ds bs) (i n : Nat) (hn : i + n ≤ ds.length) :
    ∃ b, RdCs w κ ((vs.drop i).take n) ((ds.drop i).take n) b ∧ ∀ x ∈ b, x ∈ bs := by
  have e : ds = ds.take i ++ ((ds.drop i).take n ++ (ds.drop i).drop n) := by rw [List.take_append_drop, List.take_append_drop]
  rw [e] at h
  obtain ⟨v1, v2, b1, b2, rfl, rfl, k1, k2⟩ := h.split
  obtain ⟨v3, v4, b3, b4, rfl, rfl, k3, k4⟩ := k2.split
  refine ⟨b3, ?_, by intro x hx; simp [hx]⟩
  have h1 : v1.length = i := by rw [k1.length]; simp; omega
  have h3 : v3.length = n := by rw [k3.length]; simp; omega
  rw [List.drop_left' h1, List.take_left' h3]
  exact k3

theorem RdCs.at {vs : List Value} {ds : List D} (h : RdCs w κ vs ds bs) {i : Nat} {d : D} (hd : ds[i]? = some d) :
    ∃ v b, vs[i]? = some v ∧ v.oneCell' = true ∧ RdC w κ v d b ∧ ∀ x ∈ b, x ∈ bs := by
  induction ds generalizing vs bs i with
  | nil => simp at hd
  | cons e ds ih =>
    cases h with
    | cons v vs _ _ b1 b2 h1 h2 h3 =>
      cases i with
      | zero => simp at hd; subst hd; exact ⟨v, b1, by simp, h1, h2, by intro x hx; simp [hx]⟩
      | succ i =>
        simp at hd
        obtain ⟨u, b, k1, k2, k3, k4⟩ := ih h3 hd
        exact ⟨u, b, by simpa using k1, k2, k3, fun x hx => by simp [k4 x hx]⟩

theorem ofV_rd (v : Value) : RdS w κ v (D.ofV v) [] := by
  unfold D.ofV
  split
  · exact .of (.bool _)
  · split
    · rename_i h; exact .of (.int _ _ h)
    · exact .of (.val _)
  · split
    · rename_i h; exact .of (.str _ h)
    · exact .of (.val _)
  · exact .of .nil
  · exact .of (.val _)
end

section
variable {Γ : Ctx} {st : St} {κ : Nat → Option Value} {Θ : Nat → Nat} {a : Act} {w : World}

theorem Sim.ev (h : Sim Γ st κ Θ a w) (x : Operand) : ∃ bs, RdS w κ (a.eval x) (st.ev x) bs ∧ ∀ b ∈ bs, Θ b = 0 := by
  cases x with
  | tmp t => exact h.slot t
  | const v => exact ⟨[], ofV_rd v, by simp⟩
  | global g => exact ⟨[], .of (.val _), by simp⟩
  | func f => exact ⟨[], .of (.val _), by simp⟩

theorem Sim.set (h : Sim Γ st κ Θ a w) {t : Nat} {v : Value} {d : D} {bs : List Nat} (ht : t < Γ.nt) (hv : RdS w κ v d bs) (hb : ∀ b ∈ bs, Θ b = 0) :
    Sim Γ (st.set t d) κ Θ (a.put (some t) v) w := by
  refine ⟨h.defers, by simp [Act.put, h.size], h.kout, h.kone, ?_, h.ob, h.own, h.old, h.mine, h.stays, h.uniq⟩
  intro u
  show ∃ bs, RdS w κ ((a.tmps.setIfInBounds t v).getD u undef) (if u = t then d else lk st.σ u) bs ∧ _
  have hsz := h.size
  by_cases hu : u = t
  · subst hu
    rw [if_pos rfl]
    have : (a.tmps.setIfInBounds u v).getD u undef = v := by
      simp [Array.getD_eq_getD_getElem?, hsz, ht]
    rw [this]
    exact ⟨bs, hv, hb⟩
  · rw [if_neg hu]
    have : (a.tmps.setIfInBounds t v).getD u undef = a.tmps.getD u undef := by
      simp [Array.getD_eq_getD_getElem?, Ne.symm hu]
    rw [this]
    exact h.slot u
end

end Go.Cx
