/- The operations that leave the world alone: what each gives in the abstract walk ('pv'), and that the model's own step gives a value that shows just this. No condition; plain lemmas. -/
import Derived.Test.YtoeenpcilfhjbaaDoorNSim
import Derived.MapKept
namespace Go.Cx
set_option linter.unusedVariables false
set_option linter.unusedSimpArgs false
open Go.RowKit

def tagg (P : Program) (t : TypeId) : Option Bool :=
  match P.underlying t with
  | some (.struct _) => some true
  | some (.array _ _) => some true
  | some _ => some false
  | none => none
def tsz (P : Program) (t : TypeId) : Nat := P.cellsOf t
def tfo (P : Program) (t f : Nat) : Option Nat :=
  match P.underlying t with
  | some (.struct fs) => (match fs[f]? with
    | some x => if (P.info? x.type).isSome ∧ P.cellsOf x.type ≠ 0 then some x.offset else none
    | none => none)
  | _ => none
def tft (P : Program) (t f : Nat) : Option (Nat × TypeId) :=
  match P.underlying t with
  | some (.struct fs) => (match fs[f]? with | some x => some (x.offset, x.type) | none => none)
  | _ => none
def tel (P : Program) (t : TypeId) : Option (TypeId × Nat) :=
  match P.underlying t with
  | some (.slice e) => if (P.info? e).isSome then some (e, P.cellsOf e) else none
  | _ => none
def tarr (P : Program) (t : TypeId) : Option (Nat × Nat) :=
  match P.underlying t with
  | some (.array n e) => if (P.info? e).isSome then some (P.cellsOf e, n) else none
  | _ => none
/-- an array whose elements are one cell -/
def telA (P : Program) (t : TypeId) : Option Nat := match P.underlying t with
  | some (.array n e) => (match tagg P e with | some false => if tsz P e = 1 then some n else none | _ => none)
  | _ => none
def tstr (P : Program) (t : TypeId) : Bool := match P.underlying t with | some .string => true | _ => false
def tint (P : Program) (t : TypeId) : Option IntKind := match P.underlying t with | some (.int k) => some k | _ => none

def tbool (P : Program) (t : TypeId) : Bool := match P.underlying t with | some .bool => true | _ => false
/-- a struct of two texts -/
def tpair (P : Program) (t : TypeId) : Bool := match P.underlying t with
  | some (.struct fs) => match fs.toList with
    | [f, g] => f.name != "_" && g.name != "_" && f.offset == 0 && g.offset == 1 && tstr P f.type && tstr P g.type && !P.stoodInHeld t && !P.eqGuardType P.depth t
    | _ => false
  | _ => false
/-- equality of bools, and of structs of two texts -/
def peq (P : Program) (op : BinOp) (t : TypeId) : D → D → Option D
  | .bool a, .bool b => if tbool P t = true then match op with | .eql => some (.bool (a == b)) | .neq => some (.bool (a != b)) | _ => none else none
  | .agg [.str a, .str b], .agg [.str c, .str d] => if tpair P t = true then match op with | .eql => some (.bool (a == c && b == d)) | .neq => some (.bool (!(a == c && b == d))) | _ => none else none
  | _, _ => none

def tifc (P : Program) (t : TypeId) : Bool := match P.underlying t with | some (.interface _) => true | _ => false
/-- an interface's value beside the literal nil -/
def pnil (P : Program) (op : BinOp) (t : TypeId) (x : D) (y : Operand) : Option D := match x, y with
  | .ifc b, .const .nilIface => (match tifc P t, op with | true, .eql => some (.bool (!b)) | true, .neq => some (.bool b) | _, _ => none)
  | _, _ => none
def pbin (op : BinOp) : D → D → Option D
  | .int k a, .int k' b =>
    if k = k' then
      match op with
      | .add => some (.int k (k.wrap (a + b)))
      | .sub => some (.int k (k.wrap (a - b)))
      | .mul => some (.int k (k.wrap (a * b)))
      | .quo => if 0 ≤ a ∧ 0 < b then some (.int k (a / b)) else none
      | .rem => if 0 ≤ a ∧ 0 < b then some (.int k (a % b)) else none
      | .eql => some (.bool (a == b))
      | .neq => some (.bool (a != b))
      | .lss => some (.bool (a < b))
      | .leq => some (.bool (a ≤ b))
      | .gtr => some (.bool (a > b))
      | .geq => some (.bool (a ≥ b))
      | _ => none
    else none
  | .str a, .str b =>
    match op with
    | .add => if a.length + b.length ≤ maxLen then some (.str (a ++ b)) else none
    | .eql => some (.bool (a == b))
    | .neq => some (.bool (!(a == b)))
    | .lss => some (.bool (Op.bytesLess a b))
    | .leq => some (.bool (Op.bytesLess a b || a == b))
    | .gtr => some (.bool (!(Op.bytesLess a b || a == b)))
    | .geq => some (.bool (!(Op.bytesLess a b)))
    | _ => none
  | _, _ => none

def pload (ag : Bool) (n : Nat) (row : List D) (off : Nat) : Option D :=
  if ag then (if off + n ≤ row.length then some (.agg ((row.drop off).take n)) else none) else row[off]?

/-- the bounds of a slice expression -/
def pcut (len : Nat) (lo hi : Option D) : Option (Nat × Nat) :=
  match (match hi with | none => some len | some (.int _ h) => if 0 ≤ h ∧ h.toNat ≤ len then some h.toNat else none | _ => none) with
  | none => none
  | some h => match (match lo with | none => some 0 | some (.int _ l) => if 0 ≤ l ∧ l.toNat ≤ h then some l.toNat else none | _ => none) with
    | none => none
    | some l => some (l, h)

/-- the smaller of two numbers -/
def iMin (a b : Int) : Int := if b < a then b else a
def pmin : D → D → Option D
  | .int k m, .int k' n => if k = k' then some (.int k (iMin m n)) else none
  | _, _ => none
def plen (P : Program) (st : St) (x : Operand) (t : TypeId) : Option D :=
  match st.ev x with
  | .str s => if tstr P t then some (.int .i64 s.length) else none
  | .sl rows => if (tel P t).isSome then some (.int .i64 rows.length) else none
  | .nil => if (tel P t).isSome then some (.int .i64 0) else none
  | .acc id => (match tel P t, st.H[id]? with | some _, some (.row _ _ _ rows) => some (.int .i64 rows.length) | _, _ => none)
  | _ => none

def D.cellsOf : D → Option (List D)
  | .agg ds => some ds
  | .any => none
  | .tup _ => none
  | .val v => if v.oneCell' then some [.val v] else none
  | d => some [d]

def tz (P : Program) (t : TypeId) : Option (List D) :=
  match P.info? t with
  | some i => (match i.zero with
    | some z => if z.cells.toList.all (fun c => c.oneCell') && z.cells.size == i.size then some (z.cells.toList.map D.ofV) else none
    | none => none)
  | none => none

def tplaces (P : Program) (t : TypeId) : Option (List (Nat × Nat)) :=
  match P.underlying t with
  | some (.struct fs) => fs.toList.mapM (fun f => (P.info? f.type).map fun i => (f.offset, i.size))
  | _ => none

def pfill (places : List (Nat × Nat)) (cells : List D) : List (Nat × D) → Option (List D)
  | [] => some cells
  | (i, d) :: rest => match places[i]?, d.cellsOf with
    | some (off, sz), some ds => if ds.length = sz ∧ off + sz ≤ cells.length then pfill places (cells.take off ++ ds ++ cells.drop (off + sz)) rest else none
    | _, _ => none

/-! maps -/
def keq : D → D → Option Bool
  | .str a, .str b => some (a == b)
  | .int k a, .int k' b => if k = k' then some (a == b) else none
  | _, _ => none
def keyD : TypeDesc → D → Bool
  | .string, .str _ => true
  | .int k, .int k' _ => decide (k = k')
  | _, _ => false
def kvFind (k : D) : List (D × D) → Option (Option D)
  | [] => some none
  | p :: r => match keq k p.1 with | some true => some (some p.2) | some false => kvFind k r | none => none
def kvPut (k v : D) : List (D × D) → Option (List (D × D))
  | [] => some [(k, v)]
  | p :: r => match keq k p.1 with | some true => some ((k, v) :: r) | some false => (kvPut k v r).map (p :: ·) | none => none
/-- a map's kind of key, and what a key that it lacks is worth -/
def tmap (P : Program) (T : TypeId) : Option (TypeDesc × D) :=
  match P.underlying T with
  | some (.map kt et) => (match P.underlying kt, P.info? et with
    | some d, some i => (match i.zero with | some z => if z.oneCell' = true then some (d, D.ofV z) else none | none => none)
    | _, _ => none)
  | _ => none
def plk (P : Program) (T : TypeId) (kv : List (D × D)) (k : D) (ok : Bool) : Option D :=
  match tmap P T with
  | some (kd, dz) => (match keyD kd k, kvFind k kv with
    | true, some (some d) => some (bif ok then .tup [d, .bool true] else d)
    | true, some none => some (bif ok then .tup [dz, .bool false] else dz)
    | _, _ => none)
  | none => none

/-- bits -/
def bandI (k : IntKind) (a b : Int) : Int := k.wrap ((BitVec.ofInt k.bits a &&& BitVec.ofInt k.bits b).toNat)
def borI (k : IntKind) (a b : Int) : Int := k.wrap ((BitVec.ofInt k.bits a ||| BitVec.ofInt k.bits b).toNat)
def bxorI (k : IntKind) (a b : Int) : Int := k.wrap ((BitVec.ofInt k.bits a ^^^ BitVec.ofInt k.bits b).toNat)
def shrI (k : IntKind) (a b : Int) : Int := a.fdiv (2 ^ (min b.toNat k.bits))
def pbit (op : BinOp) (x y : D) : Option D := match x, y with
  | .int k a, .int k' b => (match op with
    | .and => if k = k' then some (.int k (bandI k a b)) else none
    | .or => if k = k' then some (.int k (borI k a b)) else none
    | .xor => if k = k' then some (.int k (bxorI k a b)) else none
    | .shr => if 0 ≤ b then some (.int k (shrI k a b)) else none
    | _ => none)
  | _, _ => none
theorem InR.shr {k : IntKind} {a : Int} (h : InR k a) (b : Int) : InR k (shrI k a b) := by
  have hm : (0 : Int) < 2 ^ (min b.toNat k.bits) := Int.pow_pos (by decide)
  unfold shrI
  rw [Int.fdiv_eq_ediv_of_nonneg _ (Int.le_of_lt hm)]
  generalize (2 : Int) ^ (min b.toNat k.bits) = m at hm
  have hz := InR.zero k
  rcases Int.lt_or_le a 0 with h0 | h0
  · refine ⟨Int.le_trans h.1 (Int.le_ediv_of_mul_le hm ?_), Int.le_trans (Int.le_of_lt (Int.ediv_lt_of_lt_mul (b := 0) hm (by omega))) hz.2⟩
    have : a * m ≤ a * 1 := Int.mul_le_mul_of_nonpos_left (Int.le_of_lt h0) (by omega)
    omega
  · exact h.down (Int.ediv_nonneg h0 (Int.le_of_lt hm)) (Int.ediv_le_self m h0)

def pv (P : Program) (st : St) : Op → Option D
  | .lookup T x i ok => match st.ev x with
    | .acc id => (match st.H[id]? with | some (.mp kv) => plk P T kv (st.ev i) ok | _ => none)
    | _ => none
  | .build t parts => match tz P t, tplaces P t with
    | some zs, some ps => (pfill ps zs (parts.toList.map fun p => (p.1, st.ev p.2))).map D.agg
    | _, _ => none
  | .move x => some (st.ev x)
  | .assign x => some (st.ev x)
  | .pick c a b => match st.ev c with | .bool t => some (bif t then st.ev a else st.ev b) | _ => none
  | .binOp op t x y _ => match pbin op (st.ev x) (st.ev y) with | some d => some d | none => (match peq P op t (st.ev x) (st.ev y) with | some d => some d | none => (match pnil P op t (st.ev x) y with | some d => some d | none => pbit op (st.ev x) (st.ev y)))
  | .nilCheck x => match st.ev x with | .ptr i o => some (.ptr i o) | .op i a b c => some (.op i a b c) | .ep r o => some (.ep r o) | _ => none
  | .unOp .not _ x => match st.ev x with | .bool b => some (.bool (!b)) | _ => none
  | .unOp .neg _ x => match st.ev x with | .int k n => some (.int k (k.wrap (0 - n))) | _ => none
  | .convert s d x => match st.ev x, tint P s, tint P d with | .int _ n, some _, some k => some (.int k (k.wrap n)) | _, _, _ => none
  | .field t x f => match tft P t f, st.ev x with
    | some (off, ft), .agg cells => (match tagg P ft with | some ag => pload ag (tsz P ft) cells off | none => none)
    | _, _ => none
  | .fieldAddr t x f => match tfo P t f, st.ev x with
    | some o, .ptr id off => some (.ptr id (off + o))
    | some o, .ep row off => some (.ep row (off + o))
    | some o, .op id i sz off => some (.op id i sz (off + o))
    | _, _ => none
  | .indexAddr t x i => match tel P t, st.ev x, st.ev i with
    | some (_, sz), .sl rows, .int _ n => if 0 ≤ n then (match rows[n.toNat]? with | some row => if row.length = sz then some (.ep row 0) else none | none => none) else none
    | some (_, sz), .acc id, .int _ n => (match st.H[id]? with
      | some (.row _ _ sz' rows) => if sz = sz' ∧ 0 ≤ n ∧ n.toNat < rows.length then some (.op id n.toNat sz 0) else none
      | _ => none)
    | _, .val (.pointer (some ⟨g, o, none⟩)), .int _ n => (match tarr P t with
      | some (sz, len) => if 0 ≤ n ∧ n.toNat < len then some (.val (.pointer (some ⟨g, o + n.toNat * sz, none⟩))) else none
      | none => none)
    | _, _, _ => none
  | .load t x => match tagg P t, st.ev x with
    | some ag, .ep row off => pload ag (tsz P t) row off
    | some ag, .ptr id off => (match (st.H[id]?).bind Ob.cs? with | some cells => pload ag (tsz P t) cells off | none => none)
    | some ag, .op id i sz off => (match st.H[id]? with
      | some (.row (.ho p n) _ sz' _) => (match ag with | false => if sz' = sz ∧ i * sz + off = p then some (.acc n) else none | true => none)
      | some (.row k _ sz' rows) => (match rows[i]? with | some row => if sz' = sz ∧ k.opn = true ∧ off + (bif ag then tsz P t else 1) ≤ sz then pload ag (tsz P t) row off else none | none => none)
      | _ => none)
    | some ag, .val (.pointer (some ⟨g, o, none⟩)) => (match ag with | false => varAt g o | true => varAll g o (tsz P t))
    | _, _ => none
  | .extract x i => match st.ev x with | .tup vs => vs[i]? | _ => none
  | .index t x i => match tstr P t, st.ev x, st.ev i with
    | true, .str s, .int _ n => if 0 ≤ n then (match s[n.toNat]? with | some b => some (.int .u8 b.toNat) | none => none) else none
    | false, .agg cells, .int _ n => (match telA P t with | some len => if 0 ≤ n ∧ n < (len : Int) then cells[n.toNat]? else none | none => none)
    | _, _, _ => none
  | .slice t x lo hi none => match st.ev x with
    | .str s => if tstr P t then (match pcut s.length (lo.map st.ev) (hi.map st.ev) with | some (l, h) => some (.str ((s.take h).drop l)) | none => none) else none
    | .sl rows => (match tel P t, pcut rows.length (lo.map st.ev) (hi.map st.ev) with
      | some (_, sz), some (l, h) => if (rows.all (fun r => r.length == sz)) then some (.sl ((rows.take h).drop l)) else none
      | _, _ => none)
    | _ => none
  | .call c => match c.callee, c.args.toList, c.argTypes.toList with
    | .builtin .len, [x], [t] => plen P st x t
    | .builtin .min, [x, y], [_, _] => pmin (st.ev x) (st.ev y)
    | _, _, _ => none
  | _ => none

section
variable {P : Program} {Γ : Ctx} {st : St} {κ : Nat → Option Value} {Θ : Nat → Nat} {a : Act} {w : World}

/-- what an operation of this kind comes to -/
def Gives (P : Program) (κ : Nat → Option Value) (Θ : Nat → Nat) (a : Act) (w : World) (o : Oper) (d : D) : Prop :=
  ∃ v bs, (execOp a.eval o).run P w = .ok (.value v) w ∧ RdS w κ v d bs ∧ ∀ b ∈ bs, Θ b = 0

theorem nat_in {n : Nat} (h : n ≤ maxLen) : InR .i64 (n : Int) := by
  rw [InR.i64]; unfold maxLen at h; omega

theorem wrap_in {k : IntKind} {n : Int} (h : InR k n) : k.wrap n = n := by
  unfold InR at h
  cases k <;> simp [IntKind.min, IntKind.max, IntKind.wrap, IntKind.bits, IntKind.signed] at h ⊢ <;> (try split) <;> omega

theorem pbin_gives {o : Oper} {op : BinOp} {t t' : TypeId} {x y : Operand} {d : D} (hs : Sim Γ st κ Θ a w) (ho : o.op = .binOp op t x y t')
    (h : pbin op (st.ev x) (st.ev y) = some d) : Gives P κ Θ a w o d := by
  obtain ⟨b1, r1, _⟩ := hs.ev x
  obtain ⟨b2, r2, _⟩ := hs.ev y
  generalize st.ev x = dx at *
  generalize st.ev y = dy at *
  unfold pbin at h
  split at h
  · rename_i k p k' q
    split at h
    · rename_i hk
      subst hk
      have e1 := r1.int_inv
      have e2 := r2.int_inv
      cases op <;> simp only [Option.some.injEq, reduceCtorEq] at h
      case quo =>
        split at h
        · rename_i hq
          cases h
          have hq0 : q ≠ 0 := by omega
          have hle : p / q ≤ p := Int.ediv_le_self q hq.1
          have h0 : 0 ≤ p / q := Int.ediv_nonneg hq.1 (by omega)
          have hin := r1.int_in.down h0 hle
          have hw : k.wrap (p.tdiv q) = p / q := by
            rw [Int.tdiv_eq_ediv_of_nonneg hq.1]; exact wrap_in hin
          exact ⟨_, [], by simp [execOp, ho, e1, e2, binOp, eqGuard, Op.intDiv, hq0, hw], .of (.int _ _ hin), by simp⟩
        · cases h
      case rem =>
        split at h
        · rename_i hq
          cases h
          have hq0 : q ≠ 0 := by omega
          have h0 : 0 ≤ p % q := Int.emod_nonneg p hq0
          have hle : p % q ≤ p := by
            have h1 := Int.emod_add_mul_ediv p q
            have h2 : 0 ≤ q * (p / q) := Int.mul_nonneg (by omega) (Int.ediv_nonneg hq.1 (by omega))
            omega
          have hin := r1.int_in.down h0 hle
          have hw : p.tmod q = p % q := Int.tmod_eq_emod_of_nonneg hq.1
          exact ⟨_, [], by simp [execOp, ho, e1, e2, binOp, eqGuard, Op.intDiv, hq0, hw], .of (.int _ _ hin), by simp⟩
        · cases h
      all_goals subst h
      all_goals first
        | exact ⟨_, [], by simp [execOp, ho, e1, e2, binOp, eqGuard, Op.intArith], .of (.int _ _ (InR.wrap _ _)), by simp⟩
        | exact ⟨_, [], by simp [execOp, ho, e1, e2, binOp, eqGuard, Op.intCmp], .of (.bool _), by simp⟩
    · cases h
  · rename_i p q
    obtain ⟨u, e1, rfl⟩ := r1.str_inv
    obtain ⟨v, e2, rfl⟩ := r2.str_inv
    cases op <;> simp only [Option.some.injEq, reduceCtorEq] at h
    case add =>
      split at h
      · rename_i hl
        cases h
        have hsz : u.size + v.size ≤ 9223372036854775807 := by
          simp only [Array.length_toList, maxLen] at hl
          exact hl
        refine ⟨.string (u ++ v), [], ?_, ?_, by simp⟩
        · simp [execOp, ho, e1, e2, binOp, eqGuard, run_string_add_sum w u v hsz]
        · have := Rd.str (w := w) (u ++ v) (by rw [ByteArray.size_append']; unfold maxLen; omega)
          simp only [ByteArray.data_append, Array.toList_append] at this
          exact .of this
      · cases h
    all_goals subst h
    all_goals exact ⟨_, [], by simp [execOp, ho, e1, e2, binOp, eqGuard, Op.stringOp, ByteArray.toList_eq], .of (.bool _), by simp⟩
  · cases h


theorem run_isAgg {t : TypeId} {b : Bool} (h : tagg P t = some b) (w : World) : (isAgg t).run P w = .ok b w := by
  unfold tagg at h
  split at h <;> first
    | (rename_i hu; cases h; simp [isAgg, run_underlying hu])
    | (rename_i d _ _ hu; cases h; cases d <;> simp_all [isAgg, run_underlying hu])
    | cases h

theorem info_of_underlying {t : TypeId} {d : TypeDesc} (h : P.underlying t = some d) : ∃ i, P.info? t = some i := by
  unfold Program.underlying at h
  cases hi : P.info? t with
  | none => simp [hi] at h
  | some i => exact ⟨i, rfl⟩

theorem info_of_tagg {t : TypeId} {b : Bool} (h : tagg P t = some b) : ∃ i, P.info? t = some i := by
  unfold tagg at h
  split at h <;> first
    | (rename_i hu; exact info_of_underlying hu)
    | cases h

theorem run_size {t : TypeId} (h : ∃ i, P.info? t = some i) (w : World) : (sizeOf t).run P w = .ok (tsz P t) w := by
  obtain ⟨i, hi⟩ := h
  simp [sizeOf, typeInfo, hi, tsz, Program.cellsOf]

/-- a load from cells that are known -/
theorem run_load_cells {t : TypeId} {ag : Bool} (ht : tagg P t = some ag) {b off o : Nat} {cs : List Value}
    (hc : ∀ j c, cs[j]? = some c → w.cell? ⟨b, off + j, none⟩ = some c) :
    (ag = true → o + tsz P t ≤ cs.length → (Instr.loadAt t (.pointer (some ⟨b, off + o, none⟩))).run P w = .ok (.agg ((cs.drop o).take (tsz P t)).toArray) w) ∧
    (ag = false → ∀ c, cs[o]? = some c → (Instr.loadAt t (.pointer (some ⟨b, off + o, none⟩))).run P w = .ok c w) := by
  constructor
  · intro e hl
    subst e
    have hlen : ((cs.drop o).take (tsz P t)).length = tsz P t := by simp; omega
    have := run_loadCells_list (P := P) w ⟨b, off + o, none⟩ ((cs.drop o).take (tsz P t)) (by
      intro j v hj
      rw [Addr.add_lit]
      rw [List.getElem?_take] at hj
      split at hj
      · rw [List.getElem?_drop] at hj
        rw [Nat.add_assoc]
        exact hc _ _ hj
      · cases hj)
    rw [hlen] at this
    simp [Instr.loadAt, Instr.sureAddr, loadVar, run_isAgg ht, run_size (info_of_tagg ht), this]
  · intro e c hj
    subst e
    have := hc o c hj
    simp [Instr.loadAt, Instr.sureAddr, loadVar, run_isAgg ht, this]

theorem RdC.toS {v : Value} {d : D} {bs : List Nat} (h : RdC w κ v d bs) : RdS w κ v d bs := .v (.cell h)

theorem load_gives {o : Oper} {t : TypeId} {x : Operand} {d : D} (hs : Sim Γ st κ Θ a w) (ho : o.op = .load t x)
    (h : pv P st (.load t x) = some d) : Gives P κ Θ a w o d := by
  obtain ⟨b1, r1, z1⟩ := hs.ev x
  simp only [pv] at h
  split at h
  · rename_i ag row off ht hx
    rw [hx] at r1
    have hrd := r1.ep_inv
    generalize hvx : a.eval x = vx at hrd
    cases hrd with
    | ep b base cs _ _ bs h0 hc hrs =>
      have L := run_load_cells (P := P) (w := w) ht (o := off) hc
      unfold pload at h
      split at h
      · rename_i hag
        split at h
        · rename_i hl
          cases h
          have hl' : off + tsz P t ≤ cs.length := by rw [hrs.length]; exact hl
          obtain ⟨b', hm, hsub⟩ := hrs.mid off (tsz P t)
          exact ⟨_, b', by simp only [execOp, ho, hvx]; simp [L.1 hag hl'], .of (.agg _ _ _ hm), fun y hy => z1 y (by simp [hsub y hy])⟩
        · cases h
      · rename_i hag
        simp only [Bool.not_eq_true] at hag
        obtain ⟨v, b', hv, _, hr, hsub⟩ := hrs.at h
        exact ⟨v, b', by simp only [execOp, ho, hvx]; simp [L.2 hag v hv], .of hr, fun y hy => z1 y (by simp [hsub y hy])⟩
  · rename_i ag id off ht hx
    rw [hx] at r1
    obtain ⟨g, hk, hv⟩ := r1.ptr_inv
    split at h
    · rename_i cells hH
      obtain ⟨ob, hH, hob⟩ := Option.bind_eq_some_iff.1 hH
      obtain ⟨g', cs, T, hk', hg, hΘ, bs, hrs, hz⟩ := (hs.ob id _ hH).cs hob
      rw [hk] at hk'
      cases hk'
      have hc : ∀ j c, cs.toList[j]? = some c → w.cell? ⟨g, 0 + j, none⟩ = some c := by
        intro j c hj
        simp only [Nat.zero_add, World.cell?, hg]
        simpa using hj
      have L := run_load_cells (P := P) (w := w) ht (o := off) hc
      simp only [Nat.zero_add] at L
      unfold pload at h
      split at h
      · rename_i hag
        split at h
        · rename_i hl
          cases h
          have hl' : off + tsz P t ≤ cs.toList.length := by rw [hrs.length]; exact hl
          obtain ⟨b', hm, hsub⟩ := hrs.mid off (tsz P t) hl
          exact ⟨_, b', by simp only [execOp, ho, hv]; simp [L.1 hag hl'], .v (.agg _ _ _ hm), fun y hy => hz y (hsub y hy)⟩
        · cases h
      · rename_i hag
        simp only [Bool.not_eq_true] at hag
        obtain ⟨v, b', hv', _, hr, hsub⟩ := hrs.at h
        exact ⟨v, b', by simp only [execOp, ho, hv]; simp [L.2 hag v hv'], hr.toS, fun y hy => hz y (hsub y hy)⟩
    · cases h
  · rename_i ag id i sz off ht hx
    rw [hx] at r1
    obtain ⟨g, o0, len, cap, hk, hv⟩ := r1.op_inv
    split at h
    · rename_i p n e sz' rows hH
      split at h
      · split at h
        · rename_i hcond
          obtain ⟨rfl, rfl⟩ := hcond
          cases h
          obtain ⟨ρ, hu⟩ := hs.uniq
          obtain ⟨vk, cs, bs, hvk, hown, _, _, _, c, hc, hkc⟩ := hu.more id _ hH
          rw [hk] at hvk; cases hvk
          have ho0 := ownsRow_zero hown
          subst ho0
          rw [Nat.zero_add] at hv
          have hcells : ∀ j c, cs[j]? = some c → w.cell? ⟨g, 0 + j, none⟩ = some c := by
            intro j c hj
            have := hown.cells (g := g) (by simp [Value.ownBlock]) j c hj
            simpa [Addr.add_lit] using this
          have L := run_load_cells (P := P) (w := w) ht (o := i * sz' + off) hcells
          simp only [Nat.zero_add] at L
          exact ⟨c, [], by simp only [execOp, ho, hv]; simp [L.2 trivial c hc], (RdC.acc n c hkc).toS, by simp⟩
        · cases h
      · cases h
    · rename_i k e sz' rows hnh hH
      split at h
      · rename_i row hrow
        split at h
        · rename_i hcond
          obtain ⟨rfl, hk0, hoff⟩ := hcond
          obtain ⟨hsz, hrl, vk, cs, bs, hvk, hown, hrs, hΘ, hz⟩ := hs.ob id _ hH
          have hz0 : ∀ b ∈ bs, Θ b = 0 := by cases k <;> first | exact hz | simp [RK.opn] at hk0
          rw [hk] at hvk
          cases hvk
          have ho0 := ownsRow_zero hown
          subst ho0
          rw [Nat.zero_add] at hv
          have hrowlen : row.length = sz' := hrl row (List.mem_of_getElem? hrow)
          have hcells : ∀ j c, cs[j]? = some c → w.cell? ⟨g, 0 + j, none⟩ = some c := by
            intro j c hj
            have := hown.cells (g := g) (by simp [Value.ownBlock]) j c hj
            simpa [Addr.add_lit] using this
          have L := run_load_cells (P := P) (w := w) ht (o := i * sz' + off) hcells
          simp only [Nat.zero_add] at L
          have hrsl := hrs.length
          have hmid := flatten_mid hrl hrow
          have hlt : i < rows.length := (List.getElem?_eq_some_iff.1 hrow).1
          have hfl := flatten_len hrl
          have hle : (i + 1) * sz' ≤ rows.length * sz' := Nat.mul_le_mul_right _ hlt
          rw [Nat.add_mul, Nat.one_mul] at hle
          unfold pload at h
          split at h
          · rename_i hag
            subst hag
            simp only [cond_true] at hoff
            split at h
            · rename_i hl
              cases h
              have hl' : i * sz' + off + tsz P t ≤ cs.length := by rw [hrsl, hfl]; omega
              obtain ⟨b', hm, hsub⟩ := hrs.mid (i * sz' + off) (tsz P t)
              have e : (rows.flatten.drop (i * sz' + off)).take (tsz P t) = (row.drop off).take (tsz P t) := by
                rw [← hmid, List.drop_take, List.take_take, List.drop_drop, Nat.min_eq_left (by omega)]
              rw [e] at hm
              exact ⟨_, b', by simp only [execOp, ho, hv]; simp [L.1 rfl hl'], .of (.agg _ _ _ hm), fun y hy => hz0 y (hsub y hy)⟩
            · cases h
          · rename_i hag
            simp only [Bool.not_eq_true] at hag
            subst hag
            simp only [cond_false] at hoff
            have e : rows.flatten[i * sz' + off]? = some d := by
              rw [← hmid, List.getElem?_take, if_pos (by omega), List.getElem?_drop] at h
              exact h
            obtain ⟨v, b', hv', _, hr, hsub⟩ := hrs.at e
            exact ⟨v, b', by simp only [execOp, ho, hv]; simp [L.2 rfl v hv'], .of hr, fun y hy => hz0 y (hsub y hy)⟩
        · cases h
      · cases h
    · cases h
  · rename_i ag g o' ht hx
    rw [hx] at r1
    have hv := r1.val_inv
    split at h
    · obtain ⟨ds, ⟨p, hp, hcs⟩, hd⟩ := varAt_ok h
      obtain ⟨B, hB, _⟩ := hs.vsb
      obtain ⟨_, cs, T, z, hg, hpc⟩ := hB _ hp
      obtain ⟨v, hv2, hrd⟩ := hcs _ hpc _ _ hd
      have hc : ∀ j c, cs.toList[j]? = some c → w.cell? ⟨g, 0 + j, none⟩ = some c := by
        intro j c hj
        simp only [Nat.zero_add, World.cell?, hg]
        simpa using hj
      have L := (run_load_cells (P := P) (w := w) ht (o := o') hc).2 rfl v hv2
      rw [Nat.zero_add] at L
      exact ⟨v, [], by simp only [execOp, ho, hv]; simp [L], .of (hrd w), by simp⟩
    · unfold varAll at h
      split at h
      · rename_i x hf
        split at h
        · rename_i hcond
          cases h
          simp only [Bool.and_eq_true, beq_iff_eq] at hcond
          obtain ⟨⟨hal, ho0⟩, hsz⟩ := hcond
          subst ho0
          have h1 := List.find?_some hf
          have h2 := List.mem_of_find?_eq_some hf
          have e : x.1 = g := by simpa using h1
          obtain ⟨p, hp, hcs⟩ := varsTab_ok x h2
          rw [e] at hp
          obtain ⟨B, hB, _⟩ := hs.vsb
          obtain ⟨_, cs, T, z, hg, hpc⟩ := hB _ hp
          have hc : ∀ j c, cs.toList[j]? = some c → w.cell? ⟨g, 0 + j, none⟩ = some c := by
            intro j c hj
            simp only [Nat.zero_add, World.cell?, hg]
            simpa using hj
          obtain ⟨hle, hrs⟩ := strs_rds (w := w) (ds := x.2) (cs := cs.toList) (fun d hd => List.all_eq_true.1 hal d hd) (fun o d hd => by obtain ⟨v, hv2, hr⟩ := hcs _ hpc o d hd; exact ⟨v, hv2, hr w⟩)
          have L := (run_load_cells (P := P) (w := w) ht (o := 0) hc).1 rfl (by rw [Nat.zero_add, hsz]; exact hle)
          rw [Nat.zero_add, List.drop_zero, hsz] at L
          exact ⟨_, [], by simp only [execOp, ho, hv]; simp [L], .of (.agg _ _ _ hrs), by simp⟩
        · cases h
      · cases h
  · cases h


theorem field_gives {o : Oper} {t f : Nat} {x : Operand} {d : D} (hs : Sim Γ st κ Θ a w) (ho : o.op = .field t x f)
    (h : pv P st (.field t x f) = some d) : Gives P κ Θ a w o d := by
  obtain ⟨b1, r1, z1⟩ := hs.ev x
  simp only [pv] at h
  split at h
  · rename_i off ft cells ht hx
    rw [hx] at r1
    obtain ⟨cs, hv, hrs⟩ := r1.agg_inv
    unfold tft at ht
    split at ht
    · rename_i fs hu
      split at ht
      · rename_i fl hfl
        cases ht
        split at h
        · rename_i ag hta
          unfold pload at h
          split at h
          · rename_i hag
            subst hag
            split at h
            · rename_i hl
              cases h
              obtain ⟨b', hm, hsub⟩ := hrs.mid fl.offset (tsz P fl.type) hl
              refine ⟨.agg ((cs.drop fl.offset).take (tsz P fl.type)).toArray, b', ?_, .v (.agg _ _ _ hm), fun y hy => z1 y (hsub y hy)⟩
              have e : cs.toArray.extract fl.offset (fl.offset + tsz P fl.type) = ((cs.drop fl.offset).take (tsz P fl.type)).toArray := by
                rw [List.extract_toArray, List.extract_eq_take_drop]; congr 1; congr 1; omega
              simp only [execOp, ho, hv]
              simp [Instr.field, run_underlying hu, hfl, asAgg, part, run_isAgg hta, run_size (info_of_tagg hta), e]
            · cases h
          · rename_i hag
            simp only [Bool.not_eq_true] at hag
            subst hag
            obtain ⟨v, b', hv2, _, hr, hsub⟩ := hrs.at h
            refine ⟨v, b', ?_, .v (.cell hr), fun y hy => z1 y (hsub y hy)⟩
            simp only [execOp, ho, hv]
            simp [Instr.field, run_underlying hu, hfl, asAgg, part, run_isAgg hta, hv2]
        · cases h
      · cases ht
    · cases ht
  · cases h

theorem fieldAddr_gives {o : Oper} {t f : Nat} {x : Operand} {d : D} (hs : Sim Γ st κ Θ a w) (ho : o.op = .fieldAddr t x f)
    (h : pv P st (.fieldAddr t x f) = some d) : Gives P κ Θ a w o d := by
  obtain ⟨b1, r1, z1⟩ := hs.ev x
  have hf : ∀ {o' : Nat}, tfo P t f = some o' → ∀ (b off : Nat), (Instr.fieldAt t (.pointer (some ⟨b, off, none⟩)) f).run P w = .ok (.pointer (some ⟨b, off + o', none⟩)) w := by
    intro o' h b off
    unfold tfo at h
    split at h
    · rename_i fs hu
      split at h
      · rename_i fl hfl
        split at h
        · rename_i hc
          cases h
          obtain ⟨i, hi⟩ := Option.isSome_iff_exists.1 hc.1
          have hsz := run_size (P := P) ⟨i, hi⟩ w
          have h0 : tsz P fl.type ≠ 0 := hc.2
          simp [Instr.fieldAt, run_underlying hu, hfl, Instr.sureAddr, fieldPlace, hsz, h0, Addr.add_lit]
        · cases h
      · cases h
    · cases h
  simp only [pv] at h
  split at h
  · rename_i o' id off ht hx
    cases h
    rw [hx] at r1
    obtain ⟨g, hk, hv⟩ := r1.ptr_inv
    exact ⟨_, [], by simp only [execOp, ho, hv]; simp [hf ht g off], (RdC.ptr id (off + o') g hk).toS, by simp⟩
  · rename_i o' row off ht hx
    cases h
    rw [hx] at r1
    have hrd := r1.ep_inv
    generalize hvx : a.eval x = vx at hrd
    cases hrd with
    | ep b base cs _ _ bs h0 hc hrs =>
      refine ⟨.pointer (some ⟨b, base + off + o', none⟩), b :: bs, by simp only [execOp, ho, hvx]; simp [hf ht b (base + off)], ?_, z1⟩
      rw [Nat.add_assoc]
      exact .of (.ep b base cs row (off + o') bs h0 hc hrs)
  · rename_i o' id i sz off ht hx
    cases h
    rw [hx] at r1
    obtain ⟨g, o0, len, cap, hk, hv⟩ := r1.op_inv
    refine ⟨.pointer (some ⟨g, o0 + (i * sz + off) + o', none⟩), [], by simp only [execOp, ho, hv]; simp [hf ht g (o0 + (i * sz + off))], ?_, by simp⟩
    rw [Nat.add_assoc, Nat.add_assoc]
    exact (RdC.op id i sz (off + o') g o0 len cap hk).toS
  · cases h

theorem tel_parts {t e sz : Nat} (h : tel P t = some (e, sz)) : P.underlying t = some (.slice e) ∧ (∃ i, P.info? e = some i) ∧ tsz P e = sz := by
  unfold tel at h
  split at h
  · rename_i e' hu
    split at h
    · rename_i hi
      cases h
      exact ⟨hu, Option.isSome_iff_exists.1 hi, rfl⟩
    · cases h
  · cases h

theorem indexAddr_gives {o : Oper} {t : Nat} {x i : Operand} {d : D} (hs : Sim Γ st κ Θ a w) (ho : o.op = .indexAddr t x i)
    (h : pv P st (.indexAddr t x i) = some d) : Gives P κ Θ a w o d := by
  obtain ⟨b1, r1, z1⟩ := hs.ev x
  obtain ⟨b2, r2, z2⟩ := hs.ev i
  simp only [pv] at h
  split at h
  · rename_i e sz rows k n ht hx hi
    rw [hx] at r1
    rw [hi] at r2
    have hn := r2.int_inv
    obtain ⟨hu, hinf, htsz⟩ := tel_parts ht
    have hsz := run_size (P := P) hinf w
    split at h
    · rename_i h0
      split at h
      · rename_i row hrow
        split at h
        · rename_i hlen
          cases h
          have hrd := r1.sl_inv
          have hlt : n.toNat < rows.length := (List.getElem?_eq_some_iff.1 hrow).1
          generalize hvx : a.eval x = vx at hrd
          cases hrd with
          | slNil => simp at hrow
          | slEmpty => simp at hrow
          | sl b off cap sz' _ cs bs hb hcap hmax hrl hc hrs =>
            have hsz' : sz' = sz := by rw [← hrl row (List.mem_of_getElem? hrow)]; exact hlen
            subst hsz'
            obtain ⟨b', hm, hsub⟩ := hrs.mid (n.toNat * sz') sz'
            rw [flatten_mid hrl hrow] at hm
            have hn' : 0 ≤ n ∧ n < (rows.length : Int) := ⟨h0, by omega⟩
            refine ⟨.pointer (some ⟨b, off + n.toNat * sz', none⟩), b :: b', ?_, ?_, ?_⟩
            · simp only [execOp, ho, hvx, hn]
              simp [Instr.indexAt, asIntOf, run_underlying hu, hn', hsz, htsz, Addr.add_lit]
            · have hseg : ∀ j c, ((cs.drop (n.toNat * sz')).take sz')[j]? = some c → w.cell? ⟨b, off + n.toNat * sz' + j, none⟩ = some c := by
                intro j c hj
                rw [List.getElem?_take] at hj
                split at hj
                · rw [List.getElem?_drop] at hj
                  rw [Nat.add_assoc]
                  exact hc _ _ hj
                · cases hj
              exact .of (.ep b (off + n.toNat * sz') _ row 0 b' hb hseg hm)
            · intro y hy
              rcases List.mem_cons.1 hy with rfl | hy
              · exact z1 _ (by simp)
              · exact z1 _ (by simp [hsub y hy])
        · cases h
      · cases h
    · cases h
  · rename_i e sz id k n ht hx hi
    rw [hx] at r1
    rw [hi] at r2
    have hn := r2.int_inv
    obtain ⟨hv, _⟩ := r1.acc_inv
    obtain ⟨hu, hinf, htsz⟩ := tel_parts ht
    have hsz := run_size (P := P) hinf w
    split at h
    · rename_i dp e' sz' rows hH
      split at h
      · rename_i hc
        cases h
        obtain ⟨rfl, h0, hlt⟩ := hc
        obtain ⟨hsz0, hrl, vk, cs, bs, hvk, hown, hrs, hΘ, hz⟩ := hs.ob id _ hH
        rw [hv] at hvk
        cases hvk
        rcases hown.2 with ⟨hnil, hz0⟩ | ⟨g, cap, cur, hkv, _⟩
        · omega
        · have hn' : 0 ≤ n ∧ n < (rows.length : Int) := ⟨h0, by omega⟩
          refine ⟨_, [], ?_, (RdC.op id n.toNat sz 0 g 0 _ _ (hkv ▸ hv)).toS, by simp⟩
          simp only [execOp, ho, hn, hkv]
          simp [Instr.indexAt, asIntOf, run_underlying hu, hn', hsz, htsz, Addr.add_lit]
      · cases h
    · cases h
  · rename_i g o' kk n hx hi
    rw [hx] at r1
    rw [hi] at r2
    have hn := r2.int_inv
    have hv := r1.val_inv
    split at h
    · rename_i sz len hT
      split at h
      · rename_i hc
        cases h
        obtain ⟨h0, hlt⟩ := hc
        unfold tarr at hT
        split at hT
        · rename_i len' e hu
          split at hT
          · rename_i hinf
            cases hT
            have hsz := run_size (P := P) (Option.isSome_iff_exists.1 hinf) w
            have hn' : 0 ≤ n ∧ n < (len : Int) := ⟨h0, by omega⟩
            refine ⟨_, [], ?_, .of (.val _), by simp⟩
            simp only [execOp, ho, hn, hv]
            simp [Instr.indexAt, Instr.sureAddr, asIntOf, run_underlying hu, hn', hsz, tsz, Addr.add_lit]
          · cases hT
        · cases hT
      · cases h
    · cases h
  · cases h

theorem min_gives {o : Oper} {t t' : Nat} {x y : Operand} {d : D} (hs : Sim Γ st κ Θ a w) (ho : o.op = .call { callee := .builtin .min, args := #[x, y], argTypes := #[t, t'] })
    (h : pmin (st.ev x) (st.ev y) = some d) : Gives P κ Θ a w o d := by
  obtain ⟨b1, r1, z1⟩ := hs.ev x
  obtain ⟨b2, r2, z2⟩ := hs.ev y
  unfold pmin at h
  split at h
  · rename_i k m k' n hx hy
    split at h
    · rename_i hk
      subst hk
      cases h
      rw [hx] at r1; rw [hy] at r2
      have e1 := r1.int_inv
      have e2 := r2.int_inv
      refine ⟨.int k (iMin m n), [], ?_, .of (.int _ _ ?_), by simp⟩
      · simp only [execOp, ho, resolve, invoke, builtin, List.map_toArray, List.map_cons, List.map_nil, e1, e2]
        simp [Builtin.min_, Builtin.min2, iMin]
      · unfold iMin
        split
        · exact r2.int_in
        · exact r1.int_in
    · cases h
  · cases h
theorem len_gives {o : Oper} {t : Nat} {x : Operand} {d : D} (hs : Sim Γ st κ Θ a w) (ho : o.op = .call { callee := .builtin .len, args := #[x], argTypes := #[t] })
    (h : plen P st x t = some d) : Gives P κ Θ a w o d := by
  obtain ⟨b1, r1, z1⟩ := hs.ev x
  unfold plen at h
  split at h
  · rename_i s hx
    split at h
    · rename_i ht
      cases h
      rw [hx] at r1
      obtain ⟨u, hv, rfl⟩ := r1.str_inv
      have hu : P.underlying t = some .string := by
        unfold tstr at ht
        split at ht
        · assumption
        · cases ht
      refine ⟨.int .i64 (u.data.toList.length : Nat), [], ?_, .of (.int _ _ (nat_in r1.str_le)), by simp⟩
      simp only [execOp, ho, resolve, invoke, builtin, List.map_toArray, List.map_cons, List.map_nil, hv]
      simp [Builtin.len_, run_underlying hu, goInt]
    · cases h
  · rename_i rows hx
    split at h
    · rename_i ht
      cases h
      rw [hx] at r1
      obtain ⟨⟨e, sz⟩, ht⟩ := Option.isSome_iff_exists.1 ht
      obtain ⟨hu, _, _⟩ := tel_parts ht
      have hrd := r1.sl_inv
      generalize hvx : a.eval x = vx at hrd
      have hlen : ∃ q c, vx = .slice q rows.length c := by
        cases hrd with
        | slNil => exact ⟨_, _, rfl⟩
        | slEmpty => exact ⟨_, _, rfl⟩
        | sl => exact ⟨_, _, rfl⟩
      have hmax : rows.length ≤ maxLen := by
        cases hrd with
        | slNil => simp
        | slEmpty => simp
        | sl b off cap sz _ cs bs hb h1 h2 => omega
      obtain ⟨q, c, rfl⟩ := hlen
      refine ⟨.int .i64 rows.length, [], ?_, .of (.int _ _ (nat_in hmax)), by simp⟩
      simp only [execOp, ho, resolve, invoke, builtin, List.map_toArray, List.map_cons, List.map_nil, hvx]
      simp [Builtin.len_, run_underlying hu, goInt]
    · cases h
  · rename_i hx
    split at h
    · rename_i ht
      cases h
      rw [hx] at r1
      obtain ⟨⟨e, sz⟩, ht⟩ := Option.isSome_iff_exists.1 ht
      obtain ⟨hu, _, _⟩ := tel_parts ht
      have hv := r1.nil_inv
      refine ⟨.int .i64 0, [], ?_, .of (.int _ _ (InR.zero _)), by simp⟩
      simp only [execOp, ho, resolve, invoke, builtin, List.map_toArray, List.map_cons, List.map_nil, hv]
      simp [Builtin.len_, run_underlying hu, goInt]
    · cases h
  · rename_i id hx
    split at h
    · rename_i p dp e' sz' rows ht hH
      cases h
      rw [hx] at r1
      obtain ⟨hv, _⟩ := r1.acc_inv
      obtain ⟨e, sz⟩ := p
      obtain ⟨hu, _, _⟩ := tel_parts ht
      obtain ⟨hsz0, hrl, vk, cs, bs, hvk, hown, hrs, hΘ, hz⟩ := hs.ob id _ hH
      rw [hv] at hvk
      cases hvk
      have hlen : ∃ q c, a.eval x = .slice q rows.length c := by
        rcases hown.2 with ⟨hnil, hz0⟩ | ⟨g, cap, cur, hkv, _⟩
        · exact ⟨none, 0, by rw [hnil, hz0]⟩
        · exact ⟨_, _, hkv⟩
      have hmax : rows.length ≤ maxLen := by
        rcases hown.2 with ⟨hnil, hz0⟩ | ⟨g, cap, cur, hkv, _, _, h1, h2, _⟩
        · omega
        · omega
      obtain ⟨q, c, hk⟩ := hlen
      refine ⟨.int .i64 rows.length, [], ?_, .of (.int _ _ (nat_in hmax)), by simp⟩
      simp only [execOp, ho, resolve, invoke, builtin, List.map_toArray, List.map_cons, List.map_nil, hk]
      simp [Builtin.len_, run_underlying hu, goInt]
    · cases h
  · cases h


theorem RdVs.at {vs : List Value} {ds : List D} {bs : List Nat} (h : RdVs w κ vs ds bs) {i : Nat} {d : D} (hd : ds[i]? = some d) :
    ∃ v b, vs[i]? = some v ∧ RdV w κ v d b ∧ ∀ x ∈ b, x ∈ bs := by
  induction ds generalizing vs bs i with
  | nil => simp at hd
  | cons e ds ih =>
    cases h with
    | cons v vs _ _ b1 b2 h2 h3 =>
      cases i with
      | zero => simp at hd; subst hd; exact ⟨v, b1, by simp, h2, by intro x hx; simp [hx]⟩
      | succ i =>
        simp at hd
        obtain ⟨u, b, k1, k3, k4⟩ := ih h3 hd
        exact ⟨u, b, by simpa using k1, k3, fun x hx => by simp [k4 x hx]⟩

theorem RdS.tup_inv {v : Value} {ds : List D} {bs : List Nat} (h : RdS w κ v (.tup ds) bs) : ∃ vs : List Value, v = .tuple vs.toArray ∧ RdVs w κ vs ds bs := by
  cases h with
  | v h => cases h with | cell h => cases h with | pure h => cases h
  | tup vs _ _ h => exact ⟨vs, rfl, h⟩

theorem extract_gives {o : Oper} {i : Nat} {x : Operand} {d : D} (hs : Sim Γ st κ Θ a w) (ho : o.op = .extract x i)
    (h : pv P st (.extract x i) = some d) : Gives P κ Θ a w o d := by
  obtain ⟨b1, r1, z1⟩ := hs.ev x
  simp only [pv] at h
  split at h
  · rename_i vs hx
    rw [hx] at r1
    obtain ⟨us, hv, hr⟩ := r1.tup_inv
    obtain ⟨v, b, k1, k2, k3⟩ := hr.at h
    exact ⟨v, b, by simp only [execOp, ho, hv]; simp [Instr.extract, k1], .v k2, fun y hy => z1 y (k3 y hy)⟩
  · cases h

theorem tstr_under {t : Nat} (ht : tstr P t = true) : P.underlying t = some .string := by
  unfold tstr at ht
  split at ht
  · assumption
  · cases ht

theorem index_gives {o : Oper} {t : Nat} {x i : Operand} {d : D} (hs : Sim Γ st κ Θ a w) (ho : o.op = .index t x i)
    (h : pv P st (.index t x i) = some d) : Gives P κ Θ a w o d := by
  obtain ⟨b1, r1, z1⟩ := hs.ev x
  obtain ⟨b2, r2, z2⟩ := hs.ev i
  simp only [pv] at h
  split at h
  · rename_i s k n ht hx hi
    rw [hx] at r1
    rw [hi] at r2
    obtain ⟨u, hv, rfl⟩ := r1.str_inv
    have hn := r2.int_inv
    have hu := tstr_under ht
    split at h
    · rename_i h0
      split at h
      · rename_i b hb
        cases h
        have hlt : n.toNat < u.size := by
          have := (List.getElem?_eq_some_iff.1 hb).1
          simpa using this
        have hget : u[n.toNat]? = some b := by
          have hb' : u.data[n.toNat]? = some b := by simpa using hb
          rw [getElem?_pos u n.toNat hlt]
          rw [Array.getElem?_eq_some_iff] at hb'
          obtain ⟨_, he⟩ := hb'
          rw [← he]; rfl
        refine ⟨.int .u8 b.toNat, [], ?_, .of (.int _ _ (InR.u8.2 (by have := b.toNat_lt; omega))), by simp⟩
        simp only [execOp, ho, hv, hn]
        simp [Instr.index, asIntOf, run_underlying hu, h0, hget]
      · cases h
    · cases h
  · rename_i cells k n ht hx hi
    rw [hx] at r1
    rw [hi] at r2
    obtain ⟨cs, hv, hrs⟩ := r1.agg_inv
    have hn := r2.int_inv
    unfold telA at h
    split at h
    · rename_i len hT
      split at hT
      · rename_i len' e hu
        split at hT
        · rename_i hag
          split at hT
          · rename_i hsz
            cases hT
            split at h
            · rename_i hb
              obtain ⟨v, b', hv2, _, hr, hsub⟩ := hrs.at h
              refine ⟨v, b', ?_, .v (.cell hr), fun y hy => z1 y (hsub y hy)⟩
              simp only [execOp, ho, hv, hn]
              simp [Instr.index, asIntOf, run_underlying hu, hb, part, run_isAgg hag, run_size (info_of_tagg hag), hsz, hv2]
            · cases h
          · cases hT
        · cases hT
      · cases hT
    · cases h
  · cases h

theorem run_cut {lo hi : Option Operand} {l h' : Nat} {isSlice : Bool} {len cap : Nat} (hs : Sim Γ st κ Θ a w)
    (hlc : len ≤ cap) (h : pcut len (lo.map st.ev) (hi.map st.ev) = some (l, h')) :
    (Instr.sliceBounds isSlice len cap (lo.map a.eval) (hi.map a.eval) none).run P w = .ok (l, h', cap) w ∧ l ≤ h' ∧ h' ≤ len := by
  have hv : ∀ {x : Operand} {k : IntKind} {n : Int}, st.ev x = .int k n → a.eval x = .int k n := by
    intro x k n hx
    obtain ⟨b, r, _⟩ := hs.ev x
    rw [hx] at r
    exact r.int_inv
  unfold pcut at h
  cases hi with
  | none =>
    simp only [Option.map_none] at h ⊢
    cases lo with
    | none =>
      simp only [Option.map_none, Option.some.injEq, Prod.mk.injEq] at h ⊢
      obtain ⟨rfl, rfl⟩ := h
      exact ⟨by simp [Instr.sliceBounds], by omega, by omega⟩
    | some lo =>
      simp only [Option.map_some] at h ⊢
      cases hlo : st.ev lo <;> simp only [hlo, reduceCtorEq] at h
      rename_i k n
      split at h
      · cases h
      · rename_i l0 hm
        split at hm
        · rename_i hb
          cases hm; cases h
          have hb2 : 0 ≤ n ∧ n ≤ (h' : Int) := ⟨hb.1, by omega⟩
          exact ⟨by simp [Instr.sliceBounds, Instr.sliceBound, hv hlo, asIntOf, hb2], hb.2, by omega⟩
        · cases hm
  | some hi =>
    simp only [Option.map_some] at h ⊢
    cases hhi : st.ev hi <;> simp only [hhi, reduceCtorEq] at h
    rename_i k m
    split at h
    · cases h
    · rename_i h0 hm
      split at hm
      · rename_i hb
        cases hm
        have hb2 : 0 ≤ m ∧ m ≤ (cap : Int) := ⟨hb.1, by omega⟩
        cases lo with
        | none =>
          simp only [Option.map_none, Option.some.injEq, Prod.mk.injEq] at h ⊢
          obtain ⟨rfl, rfl⟩ := h
          exact ⟨by simp [Instr.sliceBounds, Instr.sliceBound, hv hhi, asIntOf, hb2], by omega, hb.2⟩
        | some lo =>
          simp only [Option.map_some] at h ⊢
          cases hlo : st.ev lo <;> simp only [hlo, reduceCtorEq] at h
          rename_i k' n
          split at h
          · cases h
          · rename_i l0 hm
            split at hm
            · rename_i hbl
              cases hm; cases h
              have hb3 : 0 ≤ n ∧ n ≤ max m 0 := ⟨hbl.1, by omega⟩
              exact ⟨by simp [Instr.sliceBounds, Instr.sliceBound, hv hhi, hv hlo, asIntOf, hb2, hb3], hbl.2, hb.2⟩
            · cases hm
      · cases hm

theorem rows_cut {rows : List (List D)} {sz l h' : Nat} (hrl : ∀ r ∈ rows, r.length = sz) (h1 : l ≤ h') (h2 : h' ≤ rows.length) :
    ((rows.take h').drop l).flatten = (rows.flatten.drop (l * sz)).take ((h' - l) * sz) := by
  have e : rows = (rows.take l) ++ (((rows.take h').drop l) ++ rows.drop h') := by
    have hA : rows.take h' = (rows.take h').take l ++ (rows.take h').drop l := (List.take_append_drop _ _).symm
    have hB : (rows.take h').take l = rows.take l := by rw [List.take_take, Nat.min_eq_left h1]
    rw [hB] at hA
    rw [← List.append_assoc, ← hA, List.take_append_drop]
  have l1 : (rows.take l).flatten.length = l * sz := by
    rw [flatten_len (fun r hr => hrl r (List.mem_of_mem_take hr)), List.length_take, Nat.min_eq_left (by omega)]
  have l2 : ((rows.take h').drop l).flatten.length = (h' - l) * sz := by
    rw [flatten_len (fun r hr => hrl r (List.mem_of_mem_take (List.mem_of_mem_drop hr))), List.length_drop, List.length_take, Nat.min_eq_left (by omega)]
  have hf : rows.flatten = (rows.take l).flatten ++ (((rows.take h').drop l).flatten ++ (rows.drop h').flatten) := by
    rw [← List.flatten_append, ← List.flatten_append, ← e]
  rw [hf, List.drop_left' l1, List.take_left' l2]

theorem slice_gives {o : Oper} {t : Nat} {x : Operand} {lo hi : Option Operand} {d : D} (hs : Sim Γ st κ Θ a w) (ho : o.op = .slice t x lo hi none)
    (h : pv P st (.slice t x lo hi none) = some d) : Gives P κ Θ a w o d := by
  obtain ⟨b1, r1, z1⟩ := hs.ev x
  simp only [pv] at h
  split at h
  · rename_i s hx
    rw [hx] at r1
    obtain ⟨u, hv, rfl⟩ := r1.str_inv
    split at h
    · rename_i ht
      have hu := tstr_under ht
      split at h
      · rename_i l h' hc
        cases h
        obtain ⟨hr, hl, hh⟩ := run_cut (P := P) (isSlice := false) (cap := u.data.toList.length) hs (Nat.le_refl _) hc
        have hsz : u.data.toList.length = u.size := by simp
        rw [hsz] at hr
        refine ⟨.string (u.extract l h'), [], ?_, ?_, by simp⟩
        · simp only [execOp, ho, hv]
          simp [Instr.sliceAt, Instr.slice, run_underlying hu, hr]
        · have := Rd.str (w := w) (u.extract l h') (by
            have h1 := r1.str_le
            simp at h1 ⊢
            omega)
          have e : (u.extract l h').data.toList = (u.data.toList.take h').drop l := by
            simp [ByteArray.data_extract, List.drop_take]
          rw [e] at this
          exact .of this
      · cases h
    · cases h
  · rename_i rows hx
    rw [hx] at r1
    have hrd := r1.sl_inv
    split at h
    · rename_i e sz l h' ht hc
      split at h
      · rename_i hall
        cases h
        obtain ⟨hu, hinf, htsz⟩ := tel_parts ht
        have hsz := run_size (P := P) hinf w
        have hrl : ∀ r ∈ rows, r.length = sz := by
          intro r hr
          have := List.all_eq_true.1 hall r hr
          simpa using this
        generalize hvx : a.eval x = vx at hrd
        have main : ∀ (q : Option Addr) (cap : Nat), vx = .slice q rows.length cap → rows.length ≤ cap →
            (execOp a.eval o).run P w = .ok (.value (.slice (if cap = l then q else q.map (·.add (l * sz))) (h' - l) (cap - l))) w ∧ l ≤ h' ∧ h' ≤ rows.length := by
          intro q cap hq hcap
          obtain ⟨hr, hl, hh⟩ := run_cut (P := P) (isSlice := true) (cap := cap) hs hcap hc
          refine ⟨?_, hl, hh⟩
          simp only [execOp, ho, hvx, hq]
          simp [Instr.sliceAt, Instr.slice, run_underlying hu, hr, hsz, htsz]
        cases hrd with
        | slNil =>
          obtain ⟨hr, hl, hh⟩ := main none 0 rfl (by simp)
          simp only [List.length_nil] at hh
          have e1 : h' = 0 := by omega
          have e2 : l = 0 := by omega
          subst e1; subst e2
          exact ⟨_, [], hr, by simpa using RdS.of (κ := κ) (Rd.slNil (w := w)), by simp⟩
        | slEmpty ad cap hm =>
          obtain ⟨hr, hl, hh⟩ := main (some ad) cap rfl (by simp)
          simp only [List.length_nil] at hh
          have e1 : h' = 0 := by omega
          have e2 : l = 0 := by omega
          subst e1; subst e2
          refine ⟨_, [], hr, ?_, by simp⟩
          have : (if cap = 0 then some ad else (some ad).map (·.add (0 * sz))) = some ad := by simp [Addr.add]
          rw [this]
          exact .of (by simpa using Rd.slEmpty (w := w) ad cap hm)
        | sl b off cap sz' _ cs bs hb hcap hmax hrl' hcc hrs =>
          obtain ⟨hr, hl, hh⟩ := main (some ⟨b, off, none⟩) cap rfl hcap
          by_cases he : h' = l
          · subst he
            refine ⟨_, [], hr, ?_, by simp⟩
            have e1 : (rows.take h').drop h' = [] := by simp
            rw [e1, Nat.sub_self]
            split
            · exact .of (.slEmpty _ _ (by omega))
            · simp only [Option.map_some]
              exact .of (.slEmpty _ _ (by omega))
          · have hne : cap ≠ l := by omega
            rw [if_neg hne, Option.map_some, Addr.add_lit] at hr
            obtain ⟨b', hm, hsub⟩ := hrs.mid (l * sz) ((h' - l) * sz)
            rw [← rows_cut hrl hl hh] at hm
            refine ⟨_, b :: b', hr, ?_, ?_⟩
            · have hlen : ((rows.take h').drop l).length = h' - l := by simp; omega
              rw [← hlen]
              refine .of (.sl b (off + l * sz) (cap - l) sz _ _ b' hb (by omega) (by omega) (fun r hr => hrl r (List.mem_of_mem_take (List.mem_of_mem_drop hr))) ?_ hm)
              intro j c hj
              rw [List.getElem?_take] at hj
              split at hj
              · rw [List.getElem?_drop] at hj
                rw [Nat.add_assoc]
                exact hcc _ _ hj
              · cases hj
            · intro y hy
              rcases List.mem_cons.1 hy with rfl | hy
              · exact z1 _ (by simp)
              · exact z1 _ (by simp [hsub y hy])
      · cases h
    · cases h
  · cases h

theorem one_cells {v : Value} (h : v.oneCell' = true) : v.cells.toList = [v] := by
  cases v <;> first | rfl | cases h

theorem RdC.one {v : Value} {d : D} {bs : List Nat} (h : RdC w κ v d bs) (hk : ∀ (id : Nat) u, κ id = some u → u.oneCell' = true) (hna : ∀ es, d ≠ .agg es) (hc : d.cellsOf = some [d]) : v.oneCell' = true := by
  cases h with
  | pure h =>
    cases h <;> first
      | rfl
      | (exfalso; exact hna _ rfl)
      | (simp [D.cellsOf] at hc; done)
      | (simp only [D.cellsOf] at hc; split at hc <;> first | assumption | cases hc)
  | acc i v h => exact hk i v h
  | ptr => rfl
  | op => rfl

/-- the cells of a value that is known -/
theorem cells_rd {v : Value} {d : D} {bs : List Nat} {ds : List D} (hk : ∀ (id : Nat) u, κ id = some u → u.oneCell' = true) (h : RdS w κ v d bs) (hc : d.cellsOf = some ds) : RdCs w κ v.cells.toList ds bs := by
  have single : ∀ {v d bs}, RdC w κ v d bs → (∀ es, d ≠ .agg es) → d.cellsOf = some [d] → RdCs w κ v.cells.toList [d] bs := by
    intro v d bs h hna hc
    have h1 := h.one hk hna hc
    rw [one_cells h1]
    have := RdCs.cons v [] d [] bs [] h1 h .nil
    simpa using this
  cases h with
  | tup => simp [D.cellsOf] at hc
  | v h =>
    cases h with
    | agg cs _ _ h => simp only [D.cellsOf, Option.some.injEq] at hc; subst hc; simpa [Value.cells] using h
    | cell h =>
      by_cases hagg : ∃ es, d = .agg es
      · obtain ⟨es, rfl⟩ := hagg
        simp only [D.cellsOf, Option.some.injEq] at hc
        subst hc
        cases h with
        | pure h => cases h with | agg cs _ _ h => simpa [Value.cells] using RdCs.ofRds (κ := κ) h
      · have e : ds = [d] := by
          cases d <;> simp only [D.cellsOf, Option.some.injEq, reduceCtorEq] at hc <;> first
            | exact hc.symm
            | (exfalso; exact hagg ⟨_, rfl⟩)
            | (split at hc <;> first | (simp at hc; exact hc.symm) | cases hc)
        subst e
        exact single h (fun es he => hagg ⟨es, he⟩) hc

theorem zero_cells {T : TypeId} {zs : List D} (hz : tz P T = some zs) : ∃ i z, P.info? T = some i ∧ i.zero = some z ∧ z.cells.size = i.size ∧ zs.length = i.size ∧ (∀ c ∈ z.cells.toList, c.oneCell' = true) ∧ zs = z.cells.toList.map D.ofV := by
  unfold tz at hz
  split at hz
  · rename_i i hi
    split at hz
    · rename_i z hz'
      split at hz
      · rename_i hc
        cases hz
        simp only [Bool.and_eq_true, List.all_eq_true, beq_iff_eq] at hc
        exact ⟨i, z, hi, hz', hc.2, by simp [hc.2], hc.1, rfl⟩
      · cases hz
    · cases hz
  · cases hz

theorem ofV_cells (cs : List Value) (h : ∀ c ∈ cs, c.oneCell' = true) : RdCs w κ cs (cs.map D.ofV) [] := by
  induction cs with
  | nil => exact .nil
  | cons c cs ih =>
    have hrd : Rd w c (D.ofV c) [] := by
      unfold D.ofV
      split
      · exact .bool _
      · split
        · rename_i h; exact .int _ _ h
        · exact .val _
      · split
        · rename_i h; exact .str _ h
        · exact .val _
      · exact .nil
      · exact .val _
    have := RdCs.cons (κ := κ) c cs _ _ [] [] (h c (by simp)) (.pure hrd) (ih (fun x hx => h x (by simp [hx])))
    simpa using this


theorem foldl_set (off : Nat) : ∀ (vs : List Value) (k : Nat) (cells : Array Value), off + k + vs.length ≤ cells.size →
    ((vs.zipIdx k).foldl (fun cs (x : Value × Nat) => cs.setIfInBounds (off + x.2) x.1) cells).toList = cells.toList.take (off + k) ++ vs ++ cells.toList.drop (off + k + vs.length) := by
  intro vs
  induction vs with
  | nil => intro k cells _; simp
  | cons v vs ih =>
    intro k cells h
    simp only [List.length_cons] at h
    rw [List.zipIdx_cons, List.foldl_cons, ih (k + 1) _ (by simp; omega)]
    simp only [Array.toList_setIfInBounds, List.length_cons]
    have hlt : off + k < cells.toList.length := by simp; omega
    rw [show off + (k + 1) = off + k + 1 from by omega, List.take_set, List.drop_set, if_pos (by omega)]
    rw [show off + k + 1 + vs.length = off + k + (vs.length + 1) from by omega]
    congr 1
    rw [show v :: vs = [v] ++ vs from rfl, ← List.append_assoc]
    congr 1
    rw [List.take_succ_eq_append_getElem hlt, List.set_append_right _ _ (by simp; omega)]
    have : (List.take (off + k) cells.toList).length = off + k := by rw [List.length_take]; omega
    rw [this, Nat.sub_self]; rfl

theorem fill_rd (hs : Sim Γ st κ Θ a w) {places : List (Nat × Nat)} : ∀ (parts : List (Nat × Operand)) (cs : Array Value) (cells ds : List D) (bs : List Nat),
    RdCs w κ cs.toList cells bs → (∀ b ∈ bs, Θ b = 0) → pfill places cells (parts.map fun p => (p.1, st.ev p.2)) = some ds →
    ∃ arr bs', Instr.fill (places.toArray[·]?) cs (parts.map fun p => (p.1, a.eval p.2)) = some arr ∧ RdCs w κ arr.toList ds bs' ∧ ∀ b ∈ bs', Θ b = 0 := by
  intro parts
  induction parts with
  | nil =>
    intro cs cells ds bs hr hz hf
    simp only [List.map_nil, pfill, Option.some.injEq] at hf
    subst hf
    exact ⟨cs, bs, rfl, hr, hz⟩
  | cons p parts ih =>
    intro cs cells ds bs hr hz hf
    · obtain ⟨i, x⟩ := p
      obtain ⟨b, hv, hb⟩ := hs.ev x
      generalize hvv : a.eval x = v at hv
      simp only [List.map_cons, pfill] at hf
      split at hf
      · rename_i off sz es hpl hes
        split at hf
        · rename_i hc
          have hcs := cells_rd hs.kone hv hes
          have hl1 := hcs.length
          have hl2 := hr.length
          have e : cells = cells.take off ++ ((cells.drop off).take sz ++ (cells.drop off).drop sz) := by rw [List.take_append_drop, List.take_append_drop]
          rw [e] at hr
          obtain ⟨v1, v2, c1, c2, hv12, rfl, k1, k2⟩ := hr.split
          obtain ⟨v3, v4, c3, c4, rfl, rfl, k3, k4⟩ := k2.split
          have l1 : v1.length = off := by rw [k1.length]; simp; omega
          have l3 : v3.length = sz := by rw [k3.length]; simp; omega
          have hvs : v.cells.size = sz := by rw [← hc.1, ← hl1]; simp
          have hcl : cs.size = cells.length := by rw [← hl2]; simp
          have hfold := foldl_set off v.cells.toList 0 cs (by simp; omega)
          simp only [Nat.add_zero, Array.length_toList, hvs] at hfold
          have e1 : cs.toList.take off = v1 := by rw [hv12]; exact List.take_left' l1
          have e4 : cs.toList.drop (off + sz) = v4 := by rw [hv12, ← List.drop_drop, List.drop_left' l1]; exact List.drop_left' l3
          rw [e1, e4] at hfold
          rw [List.drop_drop] at k4
          have hnew := (k1.app hcs).app k4
          obtain ⟨arr, bs', h1, h2, h3⟩ := ih (v.cells.zipIdx.foldl (fun cs (x : Value × Nat) => cs.setIfInBounds (off + x.2) x.1) cs) _ ds ((c1 ++ b) ++ c4)
            (by rw [← Array.foldl_toList, Array.toList_zipIdx, hfold]; exact hnew)
            (by
              intro x hx
              simp only [List.mem_append] at hx
              rcases hx with (hx | hx) | hx
              · exact hz x (by simp [hx])
              · exact hb x hx
              · exact hz x (by simp [hx])) hf
          refine ⟨arr, bs', ?_, h2, h3⟩
          simp only [List.map_cons, Instr.fill, List.getElem?_toArray, hpl, hvv]
          rw [if_neg (by simp; omega)]
          simpa using h1
        · cases hf
      · cases hf

theorem build_gives {o : Oper} {t : TypeId} {parts : Array (Nat × Operand)} {d : D} (hs : Sim Γ st κ Θ a w) (ho : o.op = .build t parts)
    (h : pv P st (.build t parts) = some d) : Gives P κ Θ a w o d := by
  simp only [pv] at h
  split at h
  · rename_i zs ps hz hp
    cases hf : pfill ps zs (parts.toList.map fun p => (p.1, st.ev p.2)) with
    | none => simp [hf] at h
    | some ds =>
      simp only [hf, Option.map_some, Option.some.injEq] at h
      subst h
      obtain ⟨i, z, hi, hz0, hsz, hlen, hone, rfl⟩ := zero_cells hz
      obtain ⟨arr, bs', h1, h2, h3⟩ := fill_rd hs parts.toList z.cells _ ds [] (ofV_cells z.cells.toList hone) (by simp) hf
      have hb : P.built t (parts.map fun (i, x) => (i, a.eval x)).toList = some arr := by
        unfold tplaces at hp
        split at hp
        · rename_i fs hu
          unfold Program.built
          simp only [hi, hu, hz0, hp]
          rw [Array.toList_map]
          exact h1
        · cases hp
      refine ⟨.agg arr, bs', ?_, ?_, h3⟩
      · simp only [execOp, ho]
        simp [run_build w t _ arr hb]
      · have := RdV.agg (w := w) (κ := κ) arr.toList ds bs' h2
        exact .v (by simpa using this)
  · cases h

theorem run_equalIn_bool {t : TypeId} {a b : Bool} (h : P.underlying t = some .bool) (d : Nat) : (Op.equalIn (d + 1) t (.bool a) (.bool b)).run P w = .ok (a == b) w := by
  simp [Op.equalIn, run_underlying h]
theorem run_equalIn_str {t : TypeId} {a b : ByteArray} (h : P.underlying t = some .string) (d : Nat) : (Op.equalIn (d + 1) t (.string a) (.string b)).run P w = .ok (a == b) w := by
  simp [Op.equalIn, run_underlying h]
theorem run_part_str {t : TypeId} (h : tstr P t = true) {xs : Array Value} {off : Nat} {v : Value} (hx : xs[off]? = some v) : (part t xs off).run P w = .ok v w := by
  simp [part, isAgg, run_underlying (tstr_under h), hx]
theorem run_equalIn_pair {t : TypeId} {a b c e : ByteArray} (h : tpair P t = true) (d : Nat) : (Op.equalIn (d + 2) t (.agg #[.string a, .string b]) (.agg #[.string c, .string e])).run P w = .ok (a == c && b == e) w := by
  unfold tpair at h
  split at h
  · rename_i fs hu
    split at h
    · rename_i f g hfs
      simp only [Bool.and_eq_true, bne_iff_ne, ne_eq, beq_iff_eq, Bool.not_eq_true'] at h
      obtain ⟨⟨⟨⟨⟨⟨⟨h1, h2⟩, h3⟩, h4⟩, h5⟩, h6⟩, h7⟩, h8⟩ := h
      have hfs' : fs = #[f, g] := by apply Array.toList_inj.mp; simpa using hfs
      subst hfs'
      have p1 := fun (xs : Array Value) (v : Value) (hx : xs[0]? = some v) => run_part_str (w := w) h5 hx
      have p2 := fun (xs : Array Value) (v : Value) (hx : xs[1]? = some v) => run_part_str (w := w) h6 hx
      have q1 := run_equalIn_str (P := P) (w := w) (a := a) (b := c) (tstr_under h5) d
      have q2 := run_equalIn_str (P := P) (w := w) (a := b) (b := e) (tstr_under h6) d
      rw [Op.equalIn]
      generalize (a == c) = r1 at q1 ⊢
      generalize (b == e) = r2 at q2 ⊢
      cases r1 <;> cases r2 <;> simp [run_underlying hu, h7, h1, h2, h3, h4, p1, p2, q1, q2]
    · cases h
  · cases h

theorem RdCs.two_str {κ : Nat → Option Value} {cs : List Value} {p q : Bytes} {bs : List Nat} (h : RdCs w κ cs [.str p, .str q] bs) : ∃ u v : ByteArray, cs = [.string u, .string v] ∧ u.data.toList = p ∧ v.data.toList = q := by
  cases h with
  | cons v1 vs _ _ b1 b2 _ h1 h2 =>
    cases h2 with
    | cons v2 vs' _ _ b3 b4 _ h3 h4 =>
      cases h4
      obtain ⟨u, rfl, hu⟩ := (RdS.v (.cell h1) : RdS w κ _ _ _).str_inv
      obtain ⟨v, rfl, hv⟩ := (RdS.v (.cell h3) : RdS w κ _ _ _).str_inv
      exact ⟨u, v, rfl, hu, hv⟩

theorem ba_beq (u v : ByteArray) : (u == v) = (u.data == v.data) := by cases u; cases v; rfl

theorem peq_gives {o : Oper} {op : BinOp} {t t' : TypeId} {x y : Operand} {d : D} (hs : Sim Γ st κ Θ a w) (ho : o.op = .binOp op t x y t')
    (h : peq P op t (st.ev x) (st.ev y) = some d) : Gives P κ Θ a w o d := by
  obtain ⟨b1, r1, _⟩ := hs.ev x
  obtain ⟨b2, r2, _⟩ := hs.ev y
  generalize st.ev x = dx at *
  generalize st.ev y = dy at *
  unfold peq at h
  split at h
  · rename_i p q
    split at h
    · rename_i hb
      have hu : P.underlying t = some .bool := by
        unfold tbool at hb; split at hb
        · assumption
        · cases hb
      have e1 := r1.bool_inv
      have e2 := r2.bool_inv
      have hq := run_equalIn_bool (P := P) (w := w) (a := p) (b := q) hu 9999
      have q' : (Op.equal t (.bool p) (.bool q)).run P w = .ok (p == q) w := hq
      cases op <;> simp only [Option.some.injEq, reduceCtorEq] at h
      all_goals subst h
      all_goals exact ⟨_, [], by (simp [execOp, ho, e1, e2, binOp, eqGuard, q']) <;> (cases p <;> cases q <;> rfl), .of (.bool _), by simp⟩
    · cases h
  · rename_i p1 p2 q1 q2
    split at h
    · rename_i hb
      obtain ⟨cs1, e1, k1⟩ := r1.agg_inv
      obtain ⟨cs2, e2, k2⟩ := r2.agg_inv
      obtain ⟨u1, u2, rfl, rfl, rfl⟩ := RdCs.two_str k1
      obtain ⟨v1, v2, rfl, rfl, rfl⟩ := RdCs.two_str k2
      have hg : P.eqGuardType P.depth t = false := by
        unfold tpair at hb
        split at hb
        · split at hb
          · simp only [Bool.and_eq_true, Bool.not_eq_true'] at hb; exact hb.2
          · cases hb
        · cases hb
      have q := run_equalIn_pair (P := P) (w := w) (a := u1) (b := u2) (c := v1) (e := v2) hb 9998
      have q' : (Op.equal t (.agg #[.string u1, .string u2]) (.agg #[.string v1, .string v2])).run P w = .ok (u1 == v1 && u2 == v2) w := q
      cases op <;> simp only [Option.some.injEq, reduceCtorEq] at h
      all_goals subst h
      all_goals exact ⟨_, [], by (simp [execOp, ho, e1, e2, binOp, eqGuard, hg, q']) <;> (rw [ba_beq, ba_beq]), .of (.bool _), by simp⟩
    · cases h
  · cases h

theorem RdS.ifc_inv {v : Value} {b : Bool} {bs : List Nat} (h : RdS w κ v (.ifc b) bs) : (b = false ∧ v = .nilIface) ∨ (b = true ∧ ∃ t u, v = .iface t u) := by
  cases h with | v h => cases h with | cell h => cases h with | pure h => cases h with
    | ifc0 => exact .inl ⟨rfl, rfl⟩
    | ifc1 t u => exact .inr ⟨rfl, t, u, rfl⟩
theorem run_equal_if {t : TypeId} {ms : Array (String × TypeId)} (hu : P.underlying t = some (.interface ms)) : (Op.equal t .nilIface .nilIface).run P w = .ok true w := by
  unfold Op.equal Op.maxDepth; rw [Op.equalIn]; simp [run_underlying hu]
theorem run_equal_if1 {t : TypeId} {ms : Array (String × TypeId)} {t1 : TypeId} {v1 : Value} (hu : P.underlying t = some (.interface ms)) : (Op.equal t (.iface t1 v1) .nilIface).run P w = .ok false w := by
  unfold Op.equal Op.maxDepth; rw [Op.equalIn]; simp [run_underlying hu]
theorem pbit_gives {o : Oper} {op : BinOp} {t t' : TypeId} {x y : Operand} {d : D} (hs : Sim Γ st κ Θ a w) (ho : o.op = .binOp op t x y t')
    (h : pbit op (st.ev x) (st.ev y) = some d) : Gives P κ Θ a w o d := by
  obtain ⟨b1, r1, _⟩ := hs.ev x
  obtain ⟨b2, r2, _⟩ := hs.ev y
  generalize st.ev x = dx at *
  generalize st.ev y = dy at *
  unfold pbit at h
  split at h
  · rename_i k p k' q
    have e1 := r1.int_inv
    have e2 := r2.int_inv
    cases op <;> simp only [reduceCtorEq] at h
    case shr =>
      split at h
      · rename_i hq
        cases h
        exact ⟨_, [], by simp [execOp, ho, e1, e2, binOp, eqGuard, Op.shift, show ¬ q < 0 by omega, shrI], .of (.int _ _ (r1.int_in.shr q)), by simp⟩
      · cases h
    all_goals
      split at h
      · rename_i hk
        subst hk
        cases h
        exact ⟨_, [], by simp [execOp, ho, e1, e2, binOp, eqGuard, Op.intBits, bandI, borI, bxorI], .of (.int _ _ (InR.wrap _ _)), by simp⟩
      · cases h
  · cases h

theorem pnil_gives {o : Oper} {op : BinOp} {t t' : TypeId} {x y : Operand} {d : D} (hs : Sim Γ st κ Θ a w) (ho : o.op = .binOp op t x y t')
    (h : pnil P op t (st.ev x) y = some d) : Gives P κ Θ a w o d := by
  obtain ⟨b1, r1, _⟩ := hs.ev x
  generalize st.ev x = dx at *
  unfold pnil at h
  split at h
  · rename_i b
    have hy : a.eval (.const .nilIface) = .nilIface := rfl
    have hT : ∀ {op'}, tifc P t = true → op = op' → ∃ ms, P.underlying t = some (.interface ms) := by
      intro _ ht _
      unfold tifc at ht
      split at ht
      · rename_i ms hu; exact ⟨ms, hu⟩
      · cases ht
    rcases r1.ifc_inv with ⟨rfl, hx⟩ | ⟨rfl, t1, v1, hx⟩
    · split at h
      · rename_i ht
        cases h
        obtain ⟨ms, hu⟩ := hT ht rfl
        exact ⟨.bool true, [], by simp [execOp, ho, hx, hy, binOp, eqGuard_nil_constR, run_equal_if hu], .of (.bool _), by simp⟩
      · rename_i ht
        cases h
        obtain ⟨ms, hu⟩ := hT ht rfl
        exact ⟨.bool false, [], by simp [execOp, ho, hx, hy, binOp, eqGuard_nil_constR, run_equal_if hu], .of (.bool _), by simp⟩
      · cases h
    · split at h
      · rename_i ht
        cases h
        obtain ⟨ms, hu⟩ := hT ht rfl
        exact ⟨.bool false, [], by simp [execOp, ho, hx, hy, binOp, eqGuard, run_equal_if1 hu], .of (.bool _), by simp⟩
      · rename_i ht
        cases h
        obtain ⟨ms, hu⟩ := hT ht rfl
        exact ⟨.bool true, [], by simp [execOp, ho, hx, hy, binOp, eqGuard, run_equal_if1 hu], .of (.bool _), by simp⟩
      · cases h
  · cases h

/-! maps: what is found -/
theorem KvRel.cons {w : World} {e : MapEntry} {es : List MapEntry} {p : D × D} {kv : List (D × D)} (h : KvRel w (e :: es) (p :: kv)) : Rd w e.key p.1 [] ∧ Rd w e.val p.2 [] ∧ KvRel w es kv :=
  ⟨(h.2 0 e p rfl rfl).1, (h.2 0 e p rfl rfl).2, by simpa using h.1, fun j e' p' h1 h2 => h.2 (j + 1) e' p' (by simpa using h1) (by simpa using h2)⟩
theorem ba_eq {x y : ByteArray} : (x == y) = (x.data.toList == y.data.toList) := by
  rw [Bool.eq_iff_iff, MapKept.bytes_beq, beq_iff_eq]
  constructor
  · intro h; rw [h]
  · intro h
    obtain ⟨a⟩ := x
    obtain ⟨b⟩ := y
    simp only at h
    rw [Array.toList_inj] at h
    rw [h]
theorem keq_now {w : World} {kd : TypeDesc} {k k' : D} {u u' : Value} {b : Bool} (hkd : keyD kd k = true) (hu : Rd w u k []) (hu' : Rd w u' k' []) (h : keq k k' = some b) : Instr.sameNow kd u u' = some b ∧ (b = true → u' = u) := by
  unfold keq at h
  split at h
  · rename_i s s'
    cases h
    cases hu with
    | str x hx =>
      cases hu' with
      | str y hy =>
        cases kd <;> simp [keyD] at hkd
        refine ⟨by simp only [Instr.sameNow]; rw [ba_eq], fun e => ?_⟩
        rw [← ba_eq, MapKept.bytes_beq] at e
        rw [e]
  · rename_i k1 a k2 b'
    split at h
    · rename_i e
      subst e
      cases h
      cases hu with
      | int _ _ hx =>
        cases hu' with
        | int _ _ hy =>
          cases kd <;> simp [keyD] at hkd
          refine ⟨by simp [Instr.sameNow], fun e => ?_⟩
          have : a = b' := by simpa using e
          rw [this]
    · cases h
  · cases h
theorem kv_find {w : World} {kd : TypeDesc} {k : D} {u : Value} (hkd : keyD kd k = true) (hu : Rd w u k []) : ∀ {es : List MapEntry} {kv : List (D × D)} {r : Option D} (i : Nat), KvRel w es kv → kvFind k kv = some r →
    (r = none ∧ Instr.findNow kd u es i = some none) ∨ ∃ d v j, r = some d ∧ Instr.findNow kd u es i = some (some (j, v)) ∧ Rd w v d [] := by
  intro es
  induction es with
  | nil =>
    intro kv r i hr h
    cases kv with
    | nil => cases h; exact .inl ⟨rfl, rfl⟩
    | cons p kv => exact absurd hr.1 (by simp)
  | cons e es ih =>
    intro kv r i hr h
    cases kv with
    | nil => exact absurd hr.1 (by simp)
    | cons p kv =>
      obtain ⟨r1, r2, r3⟩ := hr.cons
      simp only [kvFind] at h
      split at h
      · rename_i hq
        cases h
        exact .inr ⟨p.2, e.val, i, rfl, by simp [Instr.findNow, (keq_now hkd hu r1 hq).1], r2⟩
      · rename_i hq
        have := ih (i + 1) r3 h
        simpa [Instr.findNow, (keq_now hkd hu r1 hq).1] using this
      · cases h
theorem isKey_of {w : World} {kd : TypeDesc} {k : D} {u : Value} (hkd : keyD kd k = true) (hu : Rd w u k []) : MapKept.IsKey kd u := by
  cases kd <;> cases k <;> simp [keyD] at hkd
  all_goals cases hu
  · simp [MapKept.IsKey, hkd]
  · simp [MapKept.IsKey]
theorem keyD_flat {w : World} {κ : Nat → Option Value} {kd : TypeDesc} {k : D} {u : Value} {bs : List Nat} (hkd : keyD kd k = true) (hu : RdS w κ u k bs) : Rd w u k [] := by
  cases kd <;> cases k <;> simp [keyD] at hkd
  all_goals cases hu with | v h => cases h with | cell h => cases h with | pure h => cases h <;> (constructor; assumption)
theorem typeInfo_run {t : TypeId} {i : TypeInfo} (h : P.info? t = some i) {w : World} : (typeInfo t).run P w = .ok i w := by
  simp [typeInfo, h]
theorem tmap_parts {T : TypeId} {kd : TypeDesc} {dz : D} (h : tmap P T = some (kd, dz)) : ∃ kt et z, P.underlying T = some (.map kt et) ∧ P.underlying kt = some kd ∧ dz = D.ofV z ∧ ∀ w : World, (zeroValue et).run P w = .ok z w := by
  unfold tmap at h
  split at h
  · rename_i kt et h1
    split at h
    · rename_i d i h2 h3
      split at h
      · rename_i z h4
        split at h
        · cases h
          exact ⟨kt, et, z, h1, h2, rfl, fun w => by simp [zeroValue, typeInfo_run h3, h4]⟩
        · cases h
      · cases h
    · cases h
  · cases h
theorem lookup_gives {o : Oper} {T : Nat} {x i : Operand} {ok : Bool} {d : D} (hs : Sim Γ st κ Θ a w) (ho : o.op = .lookup T x i ok)
    (h : pv P st (.lookup T x i ok) = some d) : Gives P κ Θ a w o d := by
  simp only [pv] at h
  split at h
  · rename_i id hx
    split at h
    · rename_i kv hH
      obtain ⟨g, es, c, q1, q2, q3, q4⟩ := hs.ob id _ hH
      obtain ⟨bs, r, _⟩ := hs.ev x
      rw [hx] at r
      obtain ⟨hk, _⟩ := r.acc_inv
      rw [q1] at hk
      have hxv : a.eval x = .map (some g) := (Option.some.inj hk).symm
      obtain ⟨bi, ri, _⟩ := hs.ev i
      unfold plk at h
      split at h
      · rename_i kd dz hT
        obtain ⟨kt, et, z, t1, t2, t3, t4⟩ := tmap_parts hT
        have fin : ∀ (r : Option D), keyD kd (st.ev i) = true → kvFind (st.ev i) kv = some r → d = (match r with | some d => (bif ok then .tup [d, .bool true] else d) | none => (bif ok then .tup [dz, .bool false] else dz)) → Gives P κ Θ a w o d := by
          intro r hkd hf hd
          have hu := keyD_flat hkd ri
          have hck := MapKept.run_checkKey (P := P) (w := w) t2 (isKey_of hkd hu) es.isEmpty 9999
          rcases kv_find hkd hu 0 q4 hf with ⟨rfl, hn⟩ | ⟨d', v, j, rfl, hn, hv⟩
          · have hfk := MapKept.run_findKey (P := P) (w := w) t2 hn
            subst hd
            cases ok with
            | false => exact ⟨z, [], by simp [execOp, ho, hxv, Instr.lookup, run_underlying t1, MapKept.run_getObj_map q2, hck, hfk, t4], by rw [t3]; exact ofV_rd z, by simp⟩
            | true =>
              refine ⟨.tuple #[z, .bool false], [], by simp [execOp, ho, hxv, Instr.lookup, run_underlying t1, MapKept.run_getObj_map q2, hck, hfk, t4], ?_, by simp⟩
              have hz : RdV w κ z dz [] := by
                have := ofV_rd (w := w) (κ := κ) z
                rw [← t3] at this
                cases this with
                | v h => exact h
                | tup vs ds bs h => exact absurd t3 (by simp [D.ofV])
              exact .tup [z, .bool false] [dz, .bool false] [] (.cons _ _ _ _ [] [] hz (.cons _ _ _ _ [] [] (.cell (.pure (.bool _))) .nil))
          · have hfk := MapKept.run_findKey (P := P) (w := w) t2 hn
            subst hd
            cases ok with
            | false => exact ⟨v, [], by simp [execOp, ho, hxv, Instr.lookup, run_underlying t1, MapKept.run_getObj_map q2, hck, hfk], .of hv, by simp⟩
            | true =>
              refine ⟨.tuple #[v, .bool true], [], by simp [execOp, ho, hxv, Instr.lookup, run_underlying t1, MapKept.run_getObj_map q2, hck, hfk], ?_, by simp⟩
              exact .tup [v, .bool true] [d', .bool true] [] (.cons _ _ _ _ [] [] (.cell (.pure hv)) (.cons _ _ _ _ [] [] (.cell (.pure (.bool _))) .nil))
        split at h
        · rename_i d' h1 h2
          cases h
          exact fin _ h1 h2 rfl
        · rename_i h1 h2
          cases h
          exact fin _ h1 h2 rfl
        · cases h
      · cases h
    · cases h
  · cases h

theorem Rd.ep_ptr {w : World} {v : Value} {row : List D} {o : Nat} {bs : List Nat} (h : Rd w v (.ep row o) bs) : ∃ q, v = .pointer (some q) := by
  cases h; exact ⟨_, rfl⟩
theorem pv_gives {o : Oper} {d : D} (hs : Sim Γ st κ Θ a w) (h : pv P st o.op = some d) : Gives P κ Θ a w o d := by
  cases ho : o.op
  all_goals rw [ho] at h
  case load t x => exact load_gives hs ho h
  case lookup t x i ok => exact lookup_gives hs ho h
  case build t parts => exact build_gives hs ho h
  case fieldAddr t x f => exact fieldAddr_gives hs ho h
  case field t x f => exact field_gives hs ho h
  case indexAddr t x i => exact indexAddr_gives hs ho h
  case extract x i => exact extract_gives hs ho h
  case index t x i => exact index_gives hs ho h
  case binOp op t x y t' =>
    simp only [pv] at h
    split at h
    · rename_i e
      cases h
      exact pbin_gives hs ho e
    · split at h
      · rename_i e
        cases h
        exact peq_gives hs ho e
      · split at h
        · rename_i e
          cases h
          exact pnil_gives hs ho e
        · exact pbit_gives hs ho h
  case nilCheck x =>
    simp only [pv] at h
    obtain ⟨b, r, z⟩ := hs.ev x
    have hnn : ∀ q, a.eval x = .pointer (some q) → Gives P κ Θ a w o (st.ev x) := fun q hq => ⟨_, b, by simp [execOp, ho, hq], hq ▸ r, z⟩
    split at h <;> rename_i hx <;> cases h <;> rw [hx] at r hnn
    · obtain ⟨g, _, hv⟩ := r.ptr_inv
      exact hnn _ hv
    · obtain ⟨_, _, _, _, _, hv⟩ := r.op_inv
      exact hnn _ hv
    · obtain ⟨_, hv⟩ := Rd.ep_ptr r.ep_inv
      exact hnn _ hv
  case slice t x lo hi mx =>
    cases mx with
    | none => exact slice_gives hs ho h
    | some m => simp [pv] at h
  case move x =>
    simp only [pv, Option.some.injEq] at h
    subst h
    obtain ⟨b, r, z⟩ := hs.ev x
    exact ⟨_, b, by simp [execOp, ho], r, z⟩
  case assign x =>
    simp only [pv, Option.some.injEq] at h
    subst h
    obtain ⟨b, r, z⟩ := hs.ev x
    exact ⟨_, b, by simp [execOp, ho], r, z⟩
  case pick c x y =>
    simp only [pv] at h
    split at h
    · rename_i t hc
      cases h
      obtain ⟨b, r, z⟩ := hs.ev c
      rw [hc] at r
      have hv := r.bool_inv
      cases t
      · obtain ⟨b, r, z⟩ := hs.ev y
        exact ⟨_, b, by simp [execOp, ho, hv, asBool], r, z⟩
      · obtain ⟨b, r, z⟩ := hs.ev x
        exact ⟨_, b, by simp [execOp, ho, hv, asBool], r, z⟩
    · cases h
  case unOp op t x =>
    obtain ⟨b, r, z⟩ := hs.ev x
    cases op <;> simp only [pv, reduceCtorEq] at h
    case neg =>
      split at h
      · rename_i k n hx
        cases h
        rw [hx] at r
        have hv := r.int_inv
        exact ⟨_, [], by simp [execOp, ho, hv, Op.unary, Op.intArith], .of (.int _ _ (InR.wrap _ _)), by simp⟩
      · cases h
    case not =>
      split at h
      · rename_i bb hx
        cases h
        rw [hx] at r
        have hv := r.bool_inv
        exact ⟨_, [], by simp [execOp, ho, hv, Op.unary], .of (.bool _), by simp⟩
      · cases h
  case convert s d' x =>
    obtain ⟨b, r, z⟩ := hs.ev x
    simp only [pv] at h
    split at h
    · rename_i k0 n k1 k hx h1 h2
      cases h
      rw [hx] at r
      have hv := r.int_inv
      have u1 : P.underlying s = some (.int k1) := by
        unfold tint at h1; split at h1
        · cases h1; assumption
        · cases h1
      have u2 : P.underlying d' = some (.int k) := by
        unfold tint at h2; split at h2
        · cases h2; assumption
        · cases h2
      exact ⟨_, [], by simp [execOp, ho, hv, convert, run_underlying u1, run_underlying u2, Conv.intToInt], .of (.int _ _ (InR.wrap _ _)), by simp⟩
    · cases h
  case call c =>
    simp only [pv] at h
    split at h
    · rename_i x t h1 h2 h3
      refine len_gives hs (x := x) (t := t) ?_ h
      rw [ho]
      obtain ⟨callee, args, argTypes⟩ := c
      simp only at h1 h2 h3
      subst h1
      have e1 : args = #[x] := by cases args; simp_all
      have e2 : argTypes = #[t] := by cases argTypes; simp_all
      subst e1; subst e2; rfl
    · rename_i x y t t' h1 h2 h3
      refine min_gives hs (x := x) (y := y) (t := t) (t' := t') ?_ h
      rw [ho]
      obtain ⟨callee, args, argTypes⟩ := c
      simp only at h1 h2 h3
      subst h1
      have e1 : args = #[x, y] := by cases args; simp_all
      have e2 : argTypes = #[t, t'] := by cases argTypes; simp_all
      subst e1; subst e2; rfl
    · cases h
  all_goals simp [pv] at h

theorem AO_pv {Q : Exit → St → Prop} {all : Array Oper} {rest : List Oper} {o : Oper} {t : Nat} {d : D} (hd : o.dst = some t) (hg : o.guard = none) (ht : t < Γ.nt)
    (hv : pv P st o.op = some d) (h : AO P Γ all rest Q (st.set t d)) : AO P Γ all (o :: rest) Q st := by
  intro κ Θ a w hs
  obtain ⟨v, bs, hr, hrd, hz⟩ := pv_gives hs hv
  refine wpList_plain hg fun K hK => ?_
  unfold Oper.wp
  rw [hr, Oper.upon_value, hd]
  exact hK _ _ (h κ Θ _ w (hs.set ht hrd hz))

end
end Go.Cx
