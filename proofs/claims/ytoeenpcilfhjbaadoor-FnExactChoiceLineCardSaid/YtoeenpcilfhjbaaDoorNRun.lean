/- The abstract walk as a function: it runs straight code on an abstract state, takes its answers (tests, rows, results of calls) off a list, and tells what is owed for them. No condition; plain lemmas. -/
import Derived.Test.YtoeenpcilfhjbaaDoorNMap
import Derived.Test.YtoeenpcilfhjbaaDoorNTak
import Derived.Test.YtoeenpcilfhjbaaDoorNMut
import Derived.Laws.BytesArg
namespace Go.Cx
set_option linter.unusedVariables false
set_option linter.unusedSimpArgs false
open Go.RowKit

inductive An where
  | b (v : Bool)
  | row (r : List D)
  | ix (i : Nat)
  | ch (x : UInt8)
  | cut (l h : Nat)
  | d (x : D)
  | fl (v : Bool)
  | n (k : Nat)
  | n2 (π ρ : List Nat) (k m : Nat) (L X : List Nat)
  | sk (id : Nat)
  | pro (t : Nat)
  | pb (id off e sz : Nat)
  | vw (t : Nat)
  | cn (K o : List Nat)
  | hl (m : Nat) (K o : List Nat)
  | mu (id : Nat) (rows : List (List D))
  | dc (x : D)
  | gv (ms : List Nat) (outs : List Rw) (d : D)
  | mg (id i off : Nat) (r : List D)
  | ov (id : Nat) (rows : List (List D))
  | kv (m : List (D × D))
  | gp (nz : List (List (Option (Nat × Nat)))) (cells : List D) (d : D)
  | dn (cells : List D)
  | fz
  | nl (x : D)
  | ds (x : D)
  | mz (id : Nat)
  | tk (r : List D)
  | gf (nz : List (List (Option (Nat × Nat)))) (d : D)
  | hd

abbrev Owe := List Prop
def AllP : Owe → Prop
  | [] => True
  | p :: ps => p ∧ AllP ps
theorem AllP.app {p q : Owe} (h : AllP (p ++ q)) : AllP p ∧ AllP q := by
  induction p with
  | nil => exact ⟨trivial, h⟩
  | cons x p ih => exact ⟨⟨h.1, (ih h.2).1⟩, (ih h.2).2⟩

/-! a value -/
def valA (P : Program) (st : St) (op : Op) (A : List An) : Option (D × List An × Owe) := match op with
  | .indexAddr t x i => (match tel P t, st.ev x, st.ev i, A with
    | some (_, sz), .sl rows, .int _ n, .row r :: A => some (.ep r 0, A, [0 ≤ n ∧ rows[n.toNat]? = some r ∧ r.length = sz])
    | some (_, sz), .acc id, .int _ n, .ix k :: A => (match st.H[id]? with | some (.row _ _ sz' rows) => some (.op id k sz 0, A, [sz = sz' ∧ n = (k : Int) ∧ k < rows.length]) | _ => none)
    | _, .val (.pointer (some ⟨g, o, none⟩)), .int _ n, .ix k :: A => (match tarr P t with | some (sz, len) => some (.val (.pointer (some ⟨g, o + k * sz, none⟩)), A, [n = (k : Int) ∧ k < len]) | none => none)
    | _, _, _, _ => none)
  | .index t x i => (match tstr P t, st.ev x, st.ev i, A with
    | true, .str s, .int _ n, .ch c :: A => some (.int .u8 c.toNat, A, [0 ≤ n ∧ s[n.toNat]? = some c])
    | false, .agg cells, .int _ n, .d d :: A => (match telA P t with | some len => some (d, A, [(0 ≤ n ∧ n < (len : Int)) ∧ cells[n.toNat]? = some d]) | none => none)
    | _, _, _, _ => none)
  | .load t x => (match st.ev x with
    | .op id i sz off => (match tagg P t, st.H[id]?, A with
      | some false, some (.row (.ho p n) _ sz' _), .hd :: A => some (.acc n, A, [sz' = sz ∧ i * sz + off = p])
      | some ag, some (.row k _ sz' rows), .row r :: A => (match k with
        | .ho _ _ => none
        | _ => (match pload ag (tsz P t) r off with
          | some d => some (d, A, [sz' = sz ∧ k.opn = true ∧ rows[i]? = some r ∧ off + (bif ag then tsz P t else 1) ≤ sz])
          | none => none))
      | _, _, _ => none)
    | .val (.pointer (some ⟨g, o, none⟩)) => (match tagg P t, A with
      | some false, .d d :: A => some (d, A, [varAt g o = some d])
      | some true, A => (match varAll g o (tsz P t) with | some d => some (d, A, []) | none => none)
      | _, _ => none)
    | _ => (match pv P st op with | some d => some (d, A, []) | none => none))
  | .slice t x lo hi none => (match st.ev x, A with
    | .str s, .cut l h :: A => (match tstr P t with
      | true => some (.str ((s.take h).drop l), A, [pcut s.length (lo.map st.ev) (hi.map st.ev) = some (l, h)])
      | false => none)
    | .sl rows, .cut l h :: A => (match tel P t with
      | some (_, sz) => some (.sl ((rows.take h).drop l), A, [pcut rows.length (lo.map st.ev) (hi.map st.ev) = some (l, h) ∧ (rows.all fun r => r.length == sz) = true])
      | none => none)
    | _, _ => none)
  | .binOp op' t x y t' => (match op', st.ev x, st.ev y with
    | .add, .str a, .str b => some (.str (a ++ b), A, [a.length + b.length ≤ maxLen])
    | .quo, .int k a, .int k' b => some (.int k (a / b), A, [k = k' ∧ 0 ≤ a ∧ 0 < b])
    | .rem, .int k a, .int k' b => some (.int k (a % b), A, [k = k' ∧ 0 ≤ a ∧ 0 < b])
    | _, _, _ => (match pv P st op with | some d => some (d, A, []) | none => none))
  | .lookup T x i ok => (match st.ev x, A with
    | .acc id, .d d :: A => (match st.H[id]? with
      | some (.mp kv) => some (d, A, [plk P T kv (st.ev i) ok = some d])
      | _ => none)
    | _, _ => none)
  | .pick c a b => (match st.ev c, A with
    | .bool t, .b v :: A => (match v with | true => some (st.ev a, A, [t = true]) | false => some (st.ev b, A, [t = false]))
    | _, _ => none)
  | _ => (match pv P st op with | some d => some (d, A, []) | none => none)

theorem valA_pv {P : Program} {st : St} {op : Op} {A A' : List An} {d : D} {p : Owe} (h : valA P st op A = some (d, A', p)) (hp : AllP p) : pv P st op = some d := by
  have plain : ∀ {op}, (match pv P st op with | some d => some (d, A, ([] : Owe)) | none => none) = some (d, A', p) → pv P st op = some d := by
    intro op h
    split at h
    · cases h; assumption
    · cases h
  unfold valA at h
  split at h
  · rename_i t x i
    split at h
    · rename_i e sz rows kk n r A1 h1 h2 h3
      cases h
      obtain ⟨⟨q1, q2, q3⟩, _⟩ := hp
      simp only [pv, h1, h2, h3, q1, q2, if_true, q3]
    · rename_i e sz id kk n k A1 h1 h2 h3
      split at h
      · rename_i k' e' sz' rows hH
        cases h
        obtain ⟨⟨rfl, rfl, q3⟩, _⟩ := hp
        simp [pv, h1, h2, h3, hH, q3]
      · cases h
    · rename_i g o' kk n k A1 h2 h3
      split at h
      · rename_i sz len hT
        cases h
        obtain ⟨⟨rfl, q3⟩, _⟩ := hp
        simp [pv, h2, h3, hT, q3]
      · cases h
    · cases h
  · rename_i t x i
    split at h
    · rename_i s kk n c A1 h1 h2 h3
      cases h
      obtain ⟨⟨q1, q2⟩, _⟩ := hp
      simp only [pv, h1, h2, h3, q1, q2, if_true]
    · rename_i cells kk n d' A1 h1 h2 h3
      split at h
      · rename_i len hT
        cases h
        obtain ⟨⟨q1, q2⟩, _⟩ := hp
        simp only [pv, h1, h2, h3, hT, q1, q2, and_self, if_true]
      · cases h
    · cases h
  · rename_i t x
    split at h
    · rename_i id i sz off h1
      split at h
      · rename_i p' n e sz' rows A1 h2 h3
        cases h
        obtain ⟨⟨rfl, rfl⟩, _⟩ := hp
        simp only [pv, h2, h1, h3, and_self, if_true]
      · rename_i ag k e sz' rows r A1 h2 h3
        split at h
        · cases h
        · rename_i hnh
          split at h
          · rename_i d' hd
            cases h
            obtain ⟨⟨rfl, q2, q3, q4⟩, _⟩ := hp
            cases k with
            | ho p n => exact absurd rfl (hnh p n)
            | _ => simp only [pv, h2, h1, h3, q3, q2, q4, true_and, and_self, if_true, hd]
          · cases h
      · cases h
    · rename_i g o' h1
      split at h
      · rename_i d' A1 h2
        cases h
        simp only [pv, h2, h1]
        exact hp.1
      · rename_i h2
        split at h
        · rename_i d' hA
          cases h
          simp only [pv, h2, h1]
          exact hA
        · cases h
      · cases h
    · exact plain h
  · rename_i t x lo hi
    split at h
    · rename_i s l hh A1 h1
      split at h
      · rename_i h2
        cases h
        obtain ⟨q1, _⟩ := hp
        simp only [pv, h1, h2, q1, if_true]
      · cases h
    · rename_i rows l hh A1 h1
      split at h
      · rename_i e sz h2
        cases h
        obtain ⟨⟨q1, q2⟩, _⟩ := hp
        simp only [pv, h1, h2, q1, q2, if_true]
      · cases h
    · cases h
  · rename_i op' t x y t'
    split at h
    · rename_i a b h1 h2
      cases h
      obtain ⟨q1, _⟩ := hp
      simp only [pv, h1, h2, pbin, q1, if_true]
    · rename_i k a k' b h1 h2
      cases h
      obtain ⟨⟨rfl, q1, q2⟩, _⟩ := hp
      simp only [pv, h1, h2, pbin, q1, q2, if_true, and_self]
    · rename_i k a k' b h1 h2
      cases h
      obtain ⟨⟨rfl, q1, q2⟩, _⟩ := hp
      simp only [pv, h1, h2, pbin, q1, q2, if_true, and_self]
    · exact plain h
  · rename_i T x i ok
    split at h
    · rename_i id d' A1 h1
      split at h
      · rename_i kv hH
        cases h
        simp only [pv, h1, hH]
        exact hp.1
      · cases h
    · cases h
  · split at h
    · rename_i t v A1 h1
      split at h
      · cases h
        obtain ⟨rfl, _⟩ := hp
        simp [pv, h1]
      · cases h
        obtain ⟨rfl, _⟩ := hp
        simp [pv, h1]
    · cases h
  · exact plain h

/-! bytes as a text -/
def bytesOf : List (List D) → Option Bytes
  | [] => some []
  | r :: rs => match r, bytesOf rs with
    | [.int .u8 n], some bs => some (UInt8.ofNat n.toNat :: bs)
    | _, _ => none
theorem bytesOf_inv : ∀ {rows : List (List D)} {bs : Bytes}, bytesOf rows = some bs → ∃ xs : List Int, rows = xs.map (fun n => [D.int .u8 n]) ∧ bs = xs.map (fun n => UInt8.ofNat n.toNat) := by
  intro rows
  induction rows with
  | nil => intro bs h; cases h; exact ⟨[], rfl, rfl⟩
  | cons r rs ih =>
    intro bs h
    simp only [bytesOf] at h
    split at h
    · rename_i n bs' h1
      cases h
      obtain ⟨xs, rfl, rfl⟩ := ih h1
      exact ⟨n :: xs, rfl, rfl⟩
    · cases h

theorem flat_bytes : ∀ (xs : List Int), (xs.map (fun n => [D.int .u8 n])).flatten = xs.map (fun n => D.int .u8 n)
  | [] => rfl
  | n :: xs => by simp only [List.map_cons, List.flatten_cons, flat_bytes xs]; rfl

/-! a step -/
def proAt (A : List An) (t : Nat) : Option (List An) := match A with
  | .pro u :: A => if u = t then some A else none
  | _ => none
def apS (H : List Ob) (d : D) (e sz : Nat) : Option (List (List D) × Bool × List Nat) := match d with
  | .nil => some ([], true, [])
  | .acc m => (match H[m]? with
    | some (.row k e' sz' rows) => (match k with | .cl => none | .uq => (if e' = e ∧ sz' = sz then some (rows, true, [m]) else none) | .sh => (if e' = e ∧ sz' = sz then some (rows, false, [m]) else none) | .mv _ => none | .ho _ _ => none)
    | _ => none)
  | _ => none
/-- what is appended: rows, whether nothing of it is shared, which objects are given up, what is owed -/
def apX (H : List Ob) (d : D) (e sz : Nat) (A : List An) : Option (List (List D) × Bool × List Nat × List An × Owe) := match d, A with
  | .nil, A => some ([], true, [], A, [])
  | .acc m, A => (match H[m]? with
    | some (.row k e' sz' rows) => (match k with | .cl => none | .uq => (if e' = e ∧ sz' = sz then some (rows, true, [m], A, []) else none) | .sh => (if sz' = sz then some (rows, false, [m], A, []) else none) | .mv _ => none | .ho _ _ => none)
    | _ => none)
  | .sl rows, .fl f :: A => some (rows, f && uqT e, [], A, [(∀ r ∈ rows, r.length = sz) ∧ (f = true → D.flatRows rows = true)])
  | _, _ => none

/-- a slice that is lent -/
def lentOf (st : St) (d : D) : Option (Nat × Nat × List (List D) × Option Value) := match d with
  | .acc id => (match st.H[id]? with | some (.lent sz rows u) => some (id, sz, rows, u) | _ => none)
  | _ => none
theorem lentOf_inv {st : St} {d : D} {id sz : Nat} {rows : List (List D)} {u : Option Value} (h : lentOf st d = some (id, sz, rows, u)) : d = .acc id ∧ st.H[id]? = some (.lent sz rows u) := by
  unfold lentOf at h
  split at h
  · split at h
    · rename_i hH; cases h; exact ⟨rfl, hH⟩
    · cases h
  · cases h
/-- a place in a slice that is lent -/
def lentOp (st : St) (d : D) : Option (Nat × Nat × Nat × Nat × List (List D) × Option Value) := match d with
  | .op id i sz off => (match st.H[id]? with | some (.lent sz' rows u) => if sz' = sz then some (id, i, off, sz, rows, u) else none | _ => none)
  | _ => none
theorem lentOp_inv {st : St} {d : D} {id i off sz : Nat} {rows : List (List D)} {u : Option Value} (h : lentOp st d = some (id, i, off, sz, rows, u)) : d = .op id i sz off ∧ st.H[id]? = some (.lent sz rows u) := by
  unfold lentOp at h
  split at h
  · split at h
    · split at h
      · rename_i hH he; subst he; cases h; exact ⟨rfl, hH⟩
      · cases h
    · cases h
  · cases h
/-- a slice that was taken out is put back, if so told -/
def mergeO (H : List Ob) (A : List An) : Option (List Ob × List An × Owe) := match A with
  | .mg id i off r :: A => (match H[id]? with
    | some (.hole sz rows u p n) => (match H[n]?, r[off]? with
      | some (.lent _ rows2 _), some _ => some ((H.set n .gone).set id (.lent sz (rows.set i (r.set off (.sl rows2))) u), A, [rows[i]? = some r, p = i * sz + off])
      | _, _ => none)
    | _ => none)
  | A => some (H, A, [])

/-- the slices of a row's cells become objects -/
def takeC (n : Nat) : List D → List D × List Ob
  | [] => ([], [])
  | d :: ds => match d with
    | .sl rows => (.acc n :: (takeC (n + 1) ds).1, .tk rows :: (takeC (n + 1) ds).2)
    | d => (d :: (takeC n ds).1, (takeC n ds).2)
def takeOk (r : List D) : Bool := r.all fun d => match d with | .sl _ => true | d => d.flat

def stepO (P : Program) (nt : Nat) (o : Oper) (st : St) (A : List An) : Option (St × List An × Owe) := match o.op, o.dst with
  | .box _ x, some t => (if t < nt then match (st.ev x).cellsOf with | some ds => some (⟨(t, .ptr st.H.length 0) :: st.σ, st.H ++ [.box ds]⟩, A, []) | none => none else none)
  | .alloc T, some t => (if t < nt then match tz P T with | some ds => some (⟨(t, .ptr st.H.length 0) :: st.σ, st.H ++ [.box ds]⟩, A, []) | none => none else none)
  | .store T x y, none => (match st.ev x, (st.ev y).cellsOf with
    | .ptr id off, some ds => (match st.H[id]? with
      | some ob => (match ob.cs? with
        | some cells => (if tinf P T = true ∧ ds.length = tsz P T ∧ off + ds.length ≤ cells.length ∧ ob.keepB off = true then some (⟨st.σ, st.H.set id (ob.re (cells.take off ++ ds ++ cells.drop (off + ds.length)))⟩, A, []) else none)
        | none => none)
      | none => none)
    | .op id i sz off, some ds => (match st.H[id]?, absL st.H ds, A with
      | some (.lent sz' rows u), _, .row r :: A => (if tinf P T = true ∧ ds.length = tsz P T ∧ 0 < ds.length ∧ sz' = sz ∧ off + ds.length ≤ sz ∧ ds.all D.flat = true then
          some (⟨st.σ, st.H.set id (.lent sz (rows.set i (r.take off ++ ds ++ r.drop (off + ds.length))) u)⟩, A, [rows[i]? = some r]) else none)
      | some (.row k e sz' rows), some (es, ms), .row r :: A => (if tinf P T = true ∧ ds.length = tsz P T ∧ sz' = sz ∧ k.opn = true ∧ off + ds.length ≤ sz ∧ ms.Nodup ∧ id ∉ ms then
          some (⟨st.σ, (kill st.H ms).set id (.row (k.after (uqL st.H e off ds && fok e sz)) e sz (rows.set i (r.take off ++ es ++ r.drop (off + ds.length))))⟩, A, [rows[i]? = some r]) else none)
      | _, _, _ => none)
    | _, _ => none)
  | .makeMap _ none, some t => (if t < nt then some (⟨(t, .acc st.H.length) :: st.σ, st.H ++ [.mp []]⟩, A, []) else none)
  | .mapUpdate T x i y, none => (match tmap P T, st.ev x, A with
    | some (kd, _), .acc id, .kv m :: A => (match st.H[id]? with
      | some (.mp kv) => (if keyD kd (st.ev i) = true ∧ (st.ev y).scalar = true then some (⟨st.σ, st.H.set id (.mp m)⟩, A, [kvPut (st.ev i) (st.ev y) kv = some m]) else none)
      | _ => none)
    | _, _, _ => none)
  | .makeSlice T x y, some t => (match tel P T, st.ev x, st.ev y with
    | some (e, sz), .int _ n, .int _ n' => (match tz P e with
      | some zs => (if t < nt ∧ 0 < sz then some (⟨(t, .acc st.H.length) :: st.σ, st.H ++ [.row (rkOf (uqT e)) e sz (List.replicate n.toNat (zs.map D.softC))]⟩, A, [n' = n ∧ 0 ≤ n ∧ tby P e * n.toNat ≤ 281474976710656 ∧ n.toNat ≤ 4611686018427387904]) else none)
      | none => none)
    | _, _, _ => none)
  | .buildSlice T len parts, some t => (match tel P T with
    | some (e, sz) => (match tz P e with
      | some zs => (match pfill (rowPlaces len sz) (List.replicate len zs).flatten (parts.toList.map fun p => (p.1, st.ev p.2)) with
        | some ds => (match absL st.H ds with
          | some (es, ms) => (if t < nt ∧ 0 < sz ∧ len * sz ≤ 16777216 ∧ ms.Nodup then some (⟨(t, .acc st.H.length) :: st.σ, kill st.H ms ++ [.row (rkOf (uqL st.H e 0 ds)) e sz (chunk sz len es)]⟩, A, []) else none)
          | none => none)
        | none => none)
      | none => none)
    | none => none)
  | .call c, some t => (match c.callee, c.args.toList, c.argTypes.toList with
    | .builtin .append, [s, x], [T, T'] => (match tel P T with
      | some (e, sz) => (match tz P e, apS st.H (st.ev s) e sz, apX st.H (st.ev x) e sz A with
        | some _, some (rows, u1, k1), some (rows2, u2, k2, A, ow) => (if t < nt ∧ 0 < sz ∧ T' = T ∧ (k1 ++ k2).Nodup then
            some (⟨(t, .acc st.H.length) :: st.σ, kill st.H (k1 ++ k2) ++ [.row (rkOf ((u1 && u2) && fok e sz)) e sz (rows ++ rows2)]⟩, A, (rows.length + rows2.length ≤ maxLen ∧ (rows.length + rows2.length) * tby P e ≤ 140737488355328) :: ow) else none)
        | _, _, _ => none)
      | none => none)
    | .builtin .len, [x], [T] => (match lentOf st (st.ev x) with
      | some (_, _, rows, _) => (if t < nt ∧ (tel P T).isSome = true then some (⟨(t, .int .i64 rows.length) :: st.σ, st.H⟩, A, []) else none)
      | none => (if t < nt then match valA P st o.op A with | some (d, A, ow) => some (⟨(t, d) :: st.σ, st.H⟩, A, ow) | none => none else none))
    | .value (.func f), xs, _ => (match vwVs st.H (xs.map st.ev), A with
      | _, .gv ms outs d :: A => (match lentAt st.H ms with
        | some ins => (if t < nt ∧ ms.Nodup ∧ ((xs.map st.ev).all D.bare) = true then
            (match mergeO (putL st.H ms outs) A with
            | some (H', A', ow) => some (⟨(t, d) :: st.σ, H'⟩, A', GoodV P f ((xs.map st.ev).map (D.rnS ms)) ins outs d :: ow)
            | none => none) else none)
        | none => none)
      | _, .gp nz cells' d :: A => (match xs with
        | x0 :: xr => (match st.ev x0 with
          | .ptr id 0 => (match st.H[id]? with
            | some ob => (match ob.cs? with
              | some cells0 => (match retVs st.H nz (.agg cells0 :: xr.map st.ev) with
                | some (.agg cells :: ds, ms, qs) => (if t < nt ∧ ms.Nodup ∧ qs.Nodup ∧ (∀ m ∈ qs, m ∉ ms) then
                    some (⟨(t, (instS (st.H.length + (instCs st.H.length cells').2.length) d).1) :: st.σ, (kill st.H (ms ++ qs)).set id (ob.re (instCs st.H.length cells').1) ++ ((instCs st.H.length cells').2 ++ (instS (st.H.length + (instCs st.H.length cells').2.length) d).2)⟩, A, [GoodP P f cells cells' ds d]) else none)
                | _ => none)
              | none => none)
            | none => none)
          | _ => none)
        | [] => none)
      | some (ds, ms), .dn cells :: A => (if t < nt ∧ ms = [] then some (⟨(t, .ptr st.H.length 0) :: st.σ, st.H ++ [.box cells]⟩, A, [GoodN P f ds cells]) else none)
      | some (ds, _), .dc d :: A => (if t < nt ∧ d.ownS = true then some (⟨(t, (instS st.H.length d).1) :: st.σ, st.H ++ (instS st.H.length d).2.map Ob.close⟩, A, [Good P f ds d]) else none)
      | _, .ov id rows' :: A => (match st.H[id]? with
        | some (.row .uq e sz rows) => (if t < nt ∧ ((xs.map st.ev).all D.bare) = true ∧ uqT e = true then some (⟨(t, .acc st.H.length) :: st.σ, kill st.H [id] ++ [.row .uq e sz rows']⟩, A, [rows.flatten.all D.flat = true, GoodO P f ((xs.map st.ev).map (D.rnS [id])) e sz rows rows']) else none)
        | _ => none)
      | _, .mu id rows' :: A => (match xs, st.H[id]? with
        | [x], some (.row k e sz rows) => (match st.ev x with
          | .acc id' => (if t < nt ∧ id' = id ∧ k.hand = true ∧ uqT e = true then some (⟨(t, .tup []) :: st.σ, st.H.set id (.row k e sz rows')⟩, A, [rows.flatten.all D.flat = true, GoodM P f e sz rows rows']) else none)
          | _ => none)
        | _, _ => none)
      | some (ds, ms), .d d :: A => (if t < nt ∧ (ms = [] ∨ d.ownS = true) then some (⟨(t, (instS st.H.length d).1) :: st.σ, st.H ++ (instS st.H.length d).2⟩, A, [Good P f ds d]) else none)
      | _, .nl d :: A => (if t < nt ∧ (xs.map st.ev).all keepV = true then some (⟨(t, (instS st.H.length d).1) :: st.σ, st.H ++ (instS st.H.length d).2⟩, A, [Good P f (xs.map st.ev) d]) else none)
      | _, .gf nz d :: A => (match retVs st.H nz (xs.map st.ev) with
        | some (ds, ms, qs) => (if t < nt ∧ ms.Nodup ∧ qs.Nodup ∧ (∀ m ∈ qs, m ∉ ms) then some (⟨(t, (instS st.H.length d).1) :: st.σ, kill st.H (ms ++ qs) ++ (instS st.H.length d).2⟩, A, [GoodF P f ds d]) else none)
        | none => none)
      | _, _ => none)
    | _, _, _ => (if t < nt then match valA P st o.op A with | some (d, A, ow) => some (⟨(t, d) :: st.σ, st.H⟩, A, ow) | none => none else none))
  | .convert s d x, some t => (match st.ev x with
    | .acc id => (match st.H[id]?, tel P s with
      | some (.row _ _ _ rows), some (e, sz) => (match bytesOf rows with
        | some bs => (if t < nt ∧ sz = 1 ∧ tint P e = some .u8 ∧ tstr P d = true then some (⟨(t, .str bs) :: st.σ, st.H⟩, A, []) else none)
        | none => none)
      | _, _ => none)
    | _ => (if t < nt then match valA P st o.op A with | some (d, A, ow) => some (⟨(t, d) :: st.σ, st.H⟩, A, ow) | none => none else none))
  | .assign x, some t => (match proAt A t with
    | some A => (match st.ev x, tel P o.type with
      | .nil, some (e, sz) => (if t < nt ∧ 0 < sz then some (⟨(t, .acc st.H.length) :: st.σ, st.H ++ [.row .uq e sz []]⟩, A, []) else none)
      | _, _ => none)
    | none => (if t < nt then some (⟨(t, st.ev x) :: st.σ, st.H⟩, A, []) else none))
  | .slice T x none (some hi) none, some t => (match st.ev x with
    | .acc id => (match st.H[id]?, tel P T, st.ev hi, A with
      | some (.row .uq e sz rows), some (_, sz'), .int _ n, .cut 0 h :: A => (if t < nt ∧ sz' = sz then some (⟨(t, .acc st.H.length) :: st.σ, kill st.H [id] ++ [.row .uq e sz (rows.take h)]⟩, A, [n = ((h : Nat) : Int) ∧ h ≤ rows.length]) else none)
      | _, _, _, _ => none)
    | _ => (if t < nt then match valA P st o.op A with | some (d, A, ow) => some (⟨(t, d) :: st.σ, st.H⟩, A, ow) | none => none else none))
  | .slice T (.tmp s) (some lo) none none, some t => (match A, lk st.σ s with
    | .fz :: A, .acc id => (match st.H[id]? with
      | some (.row k e sz rows) => (if t < nt ∧ k.opn = true then match valA P ⟨(s, .sl rows) :: st.σ, st.H.set id .gone⟩ o.op A with | some (d, A, ow) => some (⟨(t, d) :: (s, .sl rows) :: st.σ, st.H.set id .gone⟩, A, ow) | none => none else none)
      | _ => none)
    | _, _ => (if t < nt then match valA P st o.op A with | some (d, A, ow) => some (⟨(t, d) :: st.σ, st.H⟩, A, ow) | none => none else none))
  | .indexAddr T x i, some t => (match lentOf st (st.ev x) with
    | some (id, sz, rows, _) => (match tel P T, st.ev i, A with
      | some (_, sz'), .int _ n, .ix m :: A => (if t < nt ∧ sz' = sz then some (⟨(t, .op id m sz 0) :: st.σ, st.H⟩, A, [n = (m : Int) ∧ m < rows.length]) else none)
      | _, _, _ => none)
    | none => (if t < nt then match valA P st o.op A with | some (d, A, ow) => some (⟨(t, d) :: st.σ, st.H⟩, A, ow) | none => none else none))
  | .load T x, some t => (match lentOp st (st.ev x) with
    | some (id, i, off, sz, rows, u) => (match tagg P T, A with
      | some false, .row r :: A => (match r[off]? with
        | some (.sl rows2) => (match tel P T with
          | some (_, sz2) => (if t < nt then some (⟨(t, .acc st.H.length) :: st.σ, st.H.set id (.hole sz (rows.set i (r.set off .any)) u (i * sz + off) st.H.length) ++ [.lent sz2 rows2 none]⟩, A, [rows[i]? = some r, ∀ q ∈ rows2, q.length = sz2]) else none)
          | none => none)
        | some d => (if t < nt ∧ d.flat = true then some (⟨(t, d) :: st.σ, st.H⟩, A, [rows[i]? = some r]) else none)
        | none => none)
      | _, _ => none)
    | none => (match A, st.ev x with
      | .tk r :: A, .op id i sz 0 => (match st.H[id]? with
        | some (.row (.mv n) e sz' rows) => (if t < nt ∧ sz' = sz ∧ tagg P T = some true ∧ tsz P T = sz then
            some (⟨(t, .agg (takeC st.H.length r).1) :: st.σ, st.H.set id (.row (.mv (n + 1)) e sz rows) ++ (takeC st.H.length r).2⟩, A, [i = n ∧ rows[n]? = some r ∧ takeOk r = true]) else none)
        | _ => none)
      | A, _ => (if t < nt then match valA P st o.op A with | some (d, A, ow) => some (⟨(t, d) :: st.σ, st.H⟩, A, ow) | none => none else none)))
  | op, some t => (if t < nt then match valA P st op A with | some (d, A, ow) => some (⟨(t, d) :: st.σ, st.H⟩, A, ow) | none => none else none)
  | _, none => none

section
variable {P : Program} {Γ : Ctx} {Q : Exit → St → Prop} {st : St} {all : Array Oper} {rest : List Oper}

theorem Sim.newNil {κ : Nat → Option Value} {Θ : Nat → Nat} {a : Act} {w : World} (hs : Sim Γ st κ Θ a w) (e sz : Nat) (hsz : 0 < sz) : Sim Γ ⟨st.σ, st.H ++ [.row .uq e sz []]⟩ (upd κ st.H.length (some (.slice none 0 0))) Θ a w := by
  obtain ⟨ρ, hu⟩ := hs.uniq
  refine hs.put [] push_key (upd_old (hs.kout _ (Nat.le_refl _)) _) ?_ ?_ (Keeps.refl hs.own (by omega)) hs.mine ?_ hu (by simp) ?_
  · intro i hi
    simp only [List.length_append, List.length_cons, List.length_nil] at hi
    unfold upd
    rw [if_neg (by omega)]
    exact hs.kout i (by omega)
  · intro i x hx
    unfold upd at hx
    split at hx
    · cases hx; rfl
    · exact hs.kone i x hx
  · exact ⟨hsz, by simp, _, [], [], upd_self _ _ _, World.ownsRow_nil w 0 e sz, .nil, by simp [Value.ownBlock], by simp⟩
  · intro e' sz' rows' he
    simp only [Ob.row.injEq, true_and] at he
    obtain ⟨rfl, rfl, rfl⟩ := he
    exact ⟨_, [], [], upd_self _ _ _, World.ownsRow_nil w 0 e sz, .nil _, by simp, by simp⟩

theorem AO_pro {o : Oper} {x : Operand} {t e sz : Nat} (hop : o.op = .assign x) (hd : o.dst = some t) (hg : o.guard = none) (ht : t < Γ.nt) (hx : st.ev x = .nil) (hsz : 0 < sz)
    (h : AO P Γ all rest Q ⟨(t, .acc st.H.length) :: st.σ, st.H ++ [.row .uq e sz []]⟩) : AO P Γ all (o :: rest) Q st := by
  intro κ Θ a w hs
  obtain ⟨bs, r, _⟩ := hs.ev x
  rw [hx] at r
  have hv := r.nil_inv
  have hp : pv P st o.op = some .nil := by rw [hop]; simp [pv, hx]
  obtain ⟨v, b2, hrun, hrd, hz⟩ := pv_gives hs hp
  have hv2 := hrd.nil_inv
  subst hv2
  refine wpList_plain hg fun K hK => ?_
  unfold Oper.wp
  rw [hrun, Oper.upon_value, hd]
  refine hK _ _ (h _ _ _ _ ((hs.newNil e sz hsz).set (t := t) (d := .acc st.H.length) (bs := []) ht ?_ (by simp)))
  exact (RdC.acc st.H.length _ (upd_self _ _ _)).toS

theorem RdCs.setAcc {κ : Nat → Option Value} {w : World} {n : Nat} (hk : κ n = some (.slice none 0 0)) : ∀ {vs : List Value} {ds : List D} {bs : List Nat}, RdCs w κ vs ds bs → ∀ {off : Nat}, ds[off]? = some .nil → ∃ bs', RdCs w κ vs (ds.set off (.acc n)) bs' ∧ ∀ b ∈ bs', b ∈ bs := by
  intro vs ds bs h
  induction h with
  | nil => intro off h; simp at h
  | cons v vs d ds b1 b2 h1 h2 h3 ih =>
    intro off h
    cases off with
    | zero =>
      simp only [List.getElem?_cons_zero, Option.some.injEq] at h
      subst h
      have hv : v = .slice none 0 0 := by
        cases h2 with
        | pure h2 => cases h2; rfl
      subst hv
      exact ⟨[] ++ b2, .cons _ _ _ _ _ _ h1 (.acc n _ hk) h3, fun b hb => by simp at hb; simp [hb]⟩
    | succ off =>
      obtain ⟨bs', q1, q2⟩ := ih (off := off) (by simpa using h)
      exact ⟨b1 ++ bs', .cons _ _ _ _ _ _ h1 h2 q1, fun b hb => by
        rcases List.mem_append.1 hb with hb | hb
        · exact List.mem_append.2 (.inl hb)
        · exact List.mem_append.2 (.inr (q2 b hb))⟩

/-- a nil cell of a variable becomes a slice of the call's own -/
def St.prom (st : St) (id off e sz : Nat) : Option St := match st.H[id]? with
  | some (.box cells) => (match cells[off]? with
    | some .nil => (if 0 < sz then some ⟨st.σ, (st.H ++ [Ob.row .uq e sz []]).set id (Ob.box (cells.set off (.acc st.H.length)))⟩ else none)
    | _ => none)
  | _ => none
theorem Sim.prom {κ : Nat → Option Value} {Θ : Nat → Nat} {a : Act} {w : World} {st' : St} {id off e sz : Nat} (hs : Sim Γ st κ Θ a w) (h : st.prom id off e sz = some st') : ∃ κ', Sim Γ st' κ' Θ a w := by
  unfold St.prom at h
  split at h
  · rename_i cells hH
    split at h
    · rename_i hc
      split at h
      · rename_i hsz
        cases h
        have hlt : id < st.H.length := (List.getElem?_eq_some_iff.1 hH).1
        have hs1 := hs.newNil e sz hsz
        refine ⟨_, hs1.defers, hs1.size, fun i hi => hs1.kout i (by simpa using hi), hs1.kone, hs1.slot, ?_, hs1.own, hs1.old, hs1.mine, hs1.stays, ?_⟩
        · intro j y hj
          simp only [List.getElem?_set] at hj
          split at hj
          · rename_i e1
            subst e1
            split at hj
            · cases hj
              obtain ⟨g, cs, T, q1, q2, q3, bs, q4, q5⟩ := hs1.ob id (.box cells) (by simpa [List.getElem?_append_left hlt] using hH)
              obtain ⟨bs', p1, p2⟩ := RdCs.setAcc (n := st.H.length) (upd_self _ _ _) q4 hc
              exact ⟨g, cs, T, q1, q2, q3, bs', p1, fun b hb => q5 b (p2 b hb)⟩
            · cases hj
          · exact hs1.ob j y hj
        · obtain ⟨ρ, hu⟩ := hs1.uniq
          refine ⟨ρ, hu.free, fun i e' sz' rows hi => hu.rows i e' sz' rows ?_, fun i o hi => ?_⟩
          · simp only [List.getElem?_set] at hi
            split at hi
            · split at hi <;> cases hi
            · exact hi
          · simp only [List.getElem?_set] at hi
            split at hi
            · split at hi
              · cases hi; trivial
              · cases hi
            · exact hu.more i o hi
      · cases h
    · cases h
  · cases h

/-- a slice whose rows' own slices were no one else's is taken as one that may share them -/
theorem Sim.share {κ : Nat → Option Value} {Θ : Nat → Nat} {a : Act} {w : World} {id e sz : Nat} {rows : List (List D)} (hs : Sim Γ st κ Θ a w) (hH : st.H[id]? = some (.row .uq e sz rows)) : Sim Γ ⟨st.σ, st.H.set id (.row .sh e sz rows)⟩ κ Θ a w := by
  have hlt : id < st.H.length := (List.getElem?_eq_some_iff.1 hH).1
  refine ⟨hs.defers, hs.size, fun i hi => hs.kout i (by simpa using hi), hs.kone, hs.slot, ?_, hs.own, hs.old, hs.mine, hs.stays, ?_⟩
  · intro j y hj
    simp only [List.getElem?_set, hlt, if_true] at hj
    split at hj
    · rename_i e1
      subst e1
      cases hj
      exact (show ObRel w κ Θ id (.row .uq e sz rows) from hs.ob id _ hH)
    · exact hs.ob j y hj
  · obtain ⟨ρ, hu⟩ := hs.uniq
    refine ⟨ρ, hu.free, fun i e' sz' rows' hi => hu.rows i e' sz' rows' ?_, fun i o hi => ?_⟩
    · simp only [List.getElem?_set, hlt, if_true] at hi
      split at hi
      · cases hi
      · exact hi
    · simp only [List.getElem?_set, hlt, if_true] at hi
      split at hi
      · cases hi; trivial
      · exact hu.more i o hi
/-- a slice out of whose rows slices will be taken: none so far -/
theorem Sim.mvz {κ : Nat → Option Value} {Θ : Nat → Nat} {a : Act} {w : World} {id e sz : Nat} {rows : List (List D)} (hs : Sim Γ st κ Θ a w) (hH : st.H[id]? = some (.row .uq e sz rows)) : Sim Γ ⟨st.σ, st.H.set id (.row (.mv 0) e sz rows)⟩ κ Θ a w := by
  have hlt : id < st.H.length := (List.getElem?_eq_some_iff.1 hH).1
  refine ⟨hs.defers, hs.size, fun i hi => hs.kout i (by simpa using hi), hs.kone, hs.slot, ?_, hs.own, hs.old, hs.mine, hs.stays, ?_⟩
  · intro j y hj
    simp only [List.getElem?_set, hlt, if_true] at hj
    split at hj
    · rename_i e1
      subst e1
      cases hj
      exact (show ObRel w κ Θ id (.row .uq e sz rows) from hs.ob id _ hH)
    · exact hs.ob j y hj
  · obtain ⟨ρ, hu⟩ := hs.uniq
    refine ⟨ρ, hu.free, fun i e' sz' rows' hi => hu.rows i e' sz' rows' ?_, fun i o hi => ?_⟩
    · simp only [List.getElem?_set, hlt, if_true] at hi
      split at hi
      · cases hi
      · exact hi
    · simp only [List.getElem?_set, hlt, if_true] at hi
      split at hi
      · rename_i e1
        subst e1
        cases hi
        obtain ⟨v, cs, bs, q1, q2, q3, q4, q5⟩ := hu.rows id e sz rows hH
        exact ⟨v, cs, bs, q1, q2, by simpa using q3.rd, q4, q5⟩
      · exact hu.more i o hi
def shares : List An → St → St × List An
  | .sk id :: A, st => (match st.H[id]? with
    | some (.row .uq e sz rows) => shares A ⟨st.σ, st.H.set id (.row .sh e sz rows)⟩
    | _ => (st, .sk id :: A))
  | .mz id :: A, st => (match st.H[id]? with
    | some (.row .uq e sz rows) => shares A ⟨st.σ, st.H.set id (.row (.mv 0) e sz rows)⟩
    | _ => (st, .mz id :: A))
  | A, st => (st, A)
theorem Sim.shares {κ : Nat → Option Value} {Θ : Nat → Nat} {a : Act} {w : World} : ∀ {A A1 : List An} {st st1 : St}, Sim Γ st κ Θ a w → shares A st = (st1, A1) → Sim Γ st1 κ Θ a w := by
  intro A
  induction A with
  | nil => intro A1 st st1 hs h; simp only [Cx.shares, Prod.mk.injEq] at h; obtain ⟨rfl, _⟩ := h; exact hs
  | cons x A ih =>
    intro A1 st st1 hs h
    cases x
    case sk id =>
      simp only [Cx.shares] at h
      split at h
      · rename_i e sz rows hH
        exact ih (hs.share hH) h
      · simp only [Prod.mk.injEq] at h; obtain ⟨rfl, _⟩ := h; exact hs
    case mz id =>
      simp only [Cx.shares] at h
      split at h
      · rename_i e sz rows hH
        exact ih (hs.mvz hH) h
      · simp only [Prod.mk.injEq] at h; obtain ⟨rfl, _⟩ := h; exact hs
    all_goals (simp only [Cx.shares, Prod.mk.injEq] at h; obtain ⟨rfl, _⟩ := h; exact hs)

theorem AO_conv {o : Oper} {s d : TypeId} {x : Operand} {t id e e' sz' : Nat} {k : RK} {rows : List (List D)} {bs : Bytes} (hop : o.op = .convert s d x) (hd : o.dst = some t) (hg : o.guard = none) (ht : t < Γ.nt) (hx : st.ev x = .acc id)
    (hH : st.H[id]? = some (.row k e' sz' rows)) (hT : tel P s = some (e, 1)) (he : tint P e = some .u8) (hs' : tstr P d = true) (hb : bytesOf rows = some bs) (h : AO P Γ all rest Q ⟨(t, .str bs) :: st.σ, st.H⟩) : AO P Γ all (o :: rest) Q st := by
  intro κ Θ a w hs
  obtain ⟨b0, r, _⟩ := hs.ev x
  rw [hx] at r
  obtain ⟨hk, _⟩ := r.acc_inv
  obtain ⟨hsz, hrl, v, cs, b1, hk2, hown, hrs, _, _⟩ := hs.ob id _ hH
  rw [hk] at hk2; cases hk2
  obtain ⟨xs, rfl, rfl⟩ := bytesOf_inv hb
  obtain ⟨hu, _, _⟩ := tel_parts hT
  have hue : P.underlying e = some (.int .u8) := by
    unfold tint at he
    split at he
    · rename_i k' hk'; cases he; exact hk'
    · cases he
  have hud := tstr_under hs'
  have hfl : (xs.map (fun n => [D.int .u8 n])).flatten = xs.map (fun n => D.int .u8 n) := flat_bytes xs
  rw [hfl] at hrs
  have hcs : ∀ (xs : List Int) (cs : List Value) (b : List Nat), Rds w cs (xs.map (fun n => D.int .u8 n)) b → cs = xs.map (Value.int .u8) := by
    intro xs
    induction xs with
    | nil => intro cs b h; cases h; rfl
    | cons n xs ih =>
      intro cs b h
      cases h with
      | cons v vs _ _ b1 b2 _ h2 h3 =>
        cases h2
        rw [ih _ _ h3]; rfl
  have hce := hcs xs cs b1 hrs
  have hlen : xs.length ≤ maxLen := by
    rcases hown.2 with ⟨_, hn⟩ | ⟨g, cap, cur, _, _, _, hnc, hcm, _⟩
    · simp at hn; rw [hn]; simp
    · simp at hnc; omega
  have hrun : (convert s d (a.eval x)).run P w = .ok (.string (strOfNums xs)) w := by
    rcases hown.2 with ⟨hv, hn⟩ | ⟨g, cap, cur, hv, _, hg, hnc, hcm, _, _⟩
    · have hx0 : xs = [] := by simpa using hn
      subst hx0
      rw [hv, run_convert_bytes_nil w s e hu hue 0 0 d hud]
      rfl
    · rw [hv]
      have hcell := hown.cells (g := g) (by rw [hv]; simp [Value.ownBlock])
      refine run_convert_bytes_arg w s e hu hue g 0 _ cap xs (by simp) (fun i hi => ?_) d hud
      have hi' : i < xs.length := by simpa using hi
      have := hcell i (.int .u8 (xs.getD i 0)) (by rw [hce]; simp [List.getD, List.getElem?_eq_getElem hi'])
      simpa [Addr.add_lit] using this
  refine wpList_plain hg fun K hK => ?_
  unfold Oper.wp
  have hrun' : (execOp a.eval o).run P w = .ok (.value (.string (strOfNums xs))) w := by
    simp only [execOp, hop]
    simp [hrun]
  rw [hrun', Oper.upon_value, hd]
  refine hK _ _ (h _ _ _ _ (hs.set (t := t) (bs := []) ht ?_ (by simp)))
  have hsl : (strOfNums xs).data.toList = xs.map (fun n => UInt8.ofNat n.toNat) := by simp [strOfNums]
  have hss : (strOfNums xs).size ≤ maxLen := by
    have : (strOfNums xs).size = xs.length := by
      have := congrArg List.length hsl
      simpa using this
    omega
  have := Rd.str (w := w) (strOfNums xs) hss
  rw [hsl] at this
  exact .of this

theorem AO_app {o : Oper} {t : Nat} {s x : Operand} {T e sz : Nat} {zs : List D} {rows rows2 : List (List D)} {u1 u2 : Bool} {k1 k2 : List Nat} {A A' : List An} {ow : Owe}
    (hop : o.op = .call { callee := .builtin .append, args := #[s, x], argTypes := #[T, T] }) (hd : o.dst = some t) (hg : o.guard = none) (ht : t < Γ.nt) (hT : tel P T = some (e, sz)) (hz : tz P e = some zs) (hsz : 0 < sz)
    (hS : apS st.H (st.ev s) e sz = some (rows, u1, k1)) (hX : apX st.H (st.ev x) e sz A = some (rows2, u2, k2, A', ow)) (how : AllP ow) (hnd : (k1 ++ k2).Nodup)
    (h63 : rows.length + rows2.length ≤ maxLen) (hby : (rows.length + rows2.length) * tby P e ≤ 140737488355328)
    (h : AO P Γ all rest Q ⟨(t, .acc st.H.length) :: st.σ, kill st.H (k1 ++ k2) ++ [.row (rkOf ((u1 && u2) && fok e sz)) e sz (rows ++ rows2)]⟩) : AO P Γ all (o :: rest) Q st := by
  refine AO_append hop hd hg ht hT hz hsz h63 hby ?_ h
  intro κ Θ a w ρ hs hu
  -- the slice
  have one : ∃ i1 b1 c1, AppS w Θ ρ e sz (a.eval s) rows u1 i1 b1 c1 ∧ ((k1 = [] ∧ i1 = st.H.length) ∨ k1 = [i1]) := by
    obtain ⟨bs, r, _⟩ := hs.ev s
    unfold apS at hS
    split at hS
    · rename_i hd'
      cases hS
      rw [hd'] at r
      have := r.nil_inv
      rw [this]
      exact ⟨st.H.length, [], [], appS_nil, .inl ⟨rfl, rfl⟩⟩
    · rename_i m hd'
      rw [hd'] at r
      obtain ⟨hk, _⟩ := r.acc_inv
      split at hS
      · rename_i k e' sz' rows' hH
        split at hS
        · cases hS
        · split at hS
          · rename_i hc
            obtain ⟨rfl, rfl⟩ := hc
            cases hS
            obtain ⟨b1, c1, hA⟩ := appS_acc hs hu hk hH rfl
            exact ⟨m, b1, c1, hA, .inr rfl⟩
          · cases hS
        · split at hS
          · rename_i hc
            obtain ⟨rfl, rfl⟩ := hc
            cases hS
            obtain ⟨b1, c1, hA⟩ := appS_acc hs hu hk hH rfl
            exact ⟨m, b1, c1, hA, .inr rfl⟩
          · cases hS
        · cases hS
        · cases hS
      · cases hS
    · cases hS
  have two : ∃ i2 b2 c2, AppX w Θ ρ e sz (a.eval x) rows2 u2 i2 b2 c2 ∧ (u2 = true → b2 = [] ∨ i2 ∈ k2) := by
    obtain ⟨bs, r, hz⟩ := hs.ev x
    unfold apX at hX
    split at hX
    · rename_i A1 hd'
      cases hX
      rw [hd'] at r
      have := r.nil_inv
      rw [this]
      exact ⟨0, [], [], appX_nil, fun _ => .inl rfl⟩
    · rename_i A1 m hd'
      rw [hd'] at r
      obtain ⟨hk, _⟩ := r.acc_inv
      split at hX
      · rename_i k e' sz' rows' hH
        split at hX
        · cases hX
        · split at hX
          · rename_i hc
            obtain ⟨rfl, rfl⟩ := hc
            cases hX
            obtain ⟨b1, c1, hA⟩ := appX_acc hs hu hk hH rfl
            exact ⟨m, b1, c1, hA, fun _ => .inr (by simp)⟩
          · cases hX
        · split at hX
          · rename_i hc
            subst hc
            cases hX
            obtain ⟨b1, c1, hA⟩ := appX_acc hs hu hk hH rfl
            exact ⟨m, b1, c1, hA.sh, fun _ => .inr (by simp)⟩
          · cases hX
        · cases hX
        · cases hX
      · cases hX
    · rename_i rows' f A1 hd'
      cases hX
      rw [hd'] at r
      obtain ⟨⟨q1, q2⟩, _⟩ := how
      obtain ⟨b2, c2, hA, hb⟩ := appX_sl (ρ := ρ) r.sl_inv hz q1 0 (f && uqT e) (fun hh => q2 (by simp only [Bool.and_eq_true] at hh; exact hh.1)) e (fun hh => uqT_none (by simp only [Bool.and_eq_true] at hh; exact hh.2))
      exact ⟨0, b2, c2, hA, fun e => .inl (hb e)⟩
    · cases hX
  obtain ⟨i1, b1, c1, hA, hk1⟩ := one
  obtain ⟨i2, b2, c2, hB, hk2⟩ := two
  refine ⟨u1, u2, i1, i2, b1, b2, c1, c2, hA, hB, ?_, fun hu' => ?_⟩
  · rcases hk1 with ⟨_, h⟩ | h
    · exact .inr h
    · exact .inl (by simp [h])
  · rw [Bool.and_eq_true] at hu'
    obtain ⟨hu', hfk⟩ := hu'
    simp only [Bool.and_eq_true] at hu'
    refine ⟨hu'.1, hu'.2, ?_, hfk⟩
    rcases hk2 hu'.2 with h | hmem
    · exact .inl h
    · refine .inr ⟨by simp [hmem], fun e => ?_⟩
      rcases hk1 with ⟨h1, h2⟩ | h1
      · -- onto nil: the number is new
        have hlt : i2 < st.H.length := by
          unfold apX at hX
          split at hX
          · cases hX; cases hmem
          · rename_i A1 m hd'
            split at hX
            · rename_i k e' sz' rows' hH
              have := (List.getElem?_eq_some_iff.1 hH).1
              split at hX
              · cases hX
              · split at hX
                · cases hX; simp at hmem; omega
                · cases hX
              · split at hX
                · cases hX; simp at hmem; omega
                · cases hX
              · cases hX
              · cases hX
            · cases hX
          · cases hX; cases hmem
          · cases hX
        omega
      · subst e
        have := (List.nodup_append.1 hnd).2.2 i1 (by simp [h1]) i1 hmem
        exact this rfl

theorem takeC_rd {κ : Nat → Option Value} {w : World} : ∀ {ds : List D} {n : Nat} {vs : List Value} {bs : List Nat}, Rds w vs ds bs → (∀ d ∈ ds, d.flat = true ∨ ∃ rows, d = .sl rows) → bs.Nodup →
    ∃ (us : List Value) (L : List (List Nat)), us.length = (takeC n ds).2.length ∧ L.length = us.length ∧ L.flatten = bs ∧
      (∀ (j : Nat) o, (takeC n ds).2[j]? = some o → ∃ rows u b, o = .tk rows ∧ us[j]? = some u ∧ u.oneCell' = true ∧ L[j]? = some b ∧ Rd w u (.sl rows) b) ∧
      (∀ κ' : Nat → Option Value, (∀ (j : Nat) u, us[j]? = some u → κ' (n + j) = some u) → RdCs w κ' vs (takeC n ds).1 []) := by
  intro ds
  induction ds with
  | nil => intro n vs bs h _ _; cases h; exact ⟨[], [], rfl, rfl, rfl, by simp [takeC], fun _ _ => .nil⟩
  | cons d ds ih =>
    intro n vs bs h hd hnd
    cases h with
    | cons v vs _ _ b1 b2 h1 h2 h3 =>
      obtain ⟨n1, n2, n3⟩ := List.nodup_append.1 hnd
      rcases hd d (by simp) with hf | ⟨rows, rfl⟩
      · have hb := h2.flat hf
        subst hb
        obtain ⟨us, L, q1, q2, q3, q4, q5⟩ := ih (n := n) h3 (fun x hx => hd x (by simp [hx])) n2
        have e : takeC n (d :: ds) = (d :: (takeC n ds).1, (takeC n ds).2) := by cases d <;> first | rfl | (simp [D.flat] at hf)
        rw [e]
        exact ⟨us, L, q1, q2, q3, q4, fun κ' hk => by simpa using RdCs.cons v vs d _ [] [] h1 (.pure h2) (q5 κ' hk)⟩
      · obtain ⟨us, L, q1, q2, q3, q4, q5⟩ := ih (n := n + 1) h3 (fun x hx => hd x (by simp [hx])) n2
        refine ⟨v :: us, b1 :: L, by simp [takeC, q1], by simp [q2], by simp [q3], fun j o hj => ?_, fun κ' hk => ?_⟩
        · cases j with
          | zero => simp [takeC] at hj; subst hj; exact ⟨rows, v, b1, rfl, rfl, h1, rfl, h2⟩
          | succ j =>
            obtain ⟨rows', u, b, r1, r2, r3, r4, r5⟩ := q4 j o (by simpa [takeC] using hj)
            exact ⟨rows', u, b, r1, by simpa using r2, r3, by simpa using r4, r5⟩
        · have := RdCs.cons v vs (.acc n) _ [] [] h1 (.acc n v (by have := hk 0 v rfl; simpa using this)) (q5 κ' (fun j u hj => by have := hk (j + 1) u (by simpa using hj); rw [← this]; congr 1; omega))
          simpa [takeC] using this
theorem takeOk_inv {r : List D} (h : takeOk r = true) : ∀ d ∈ r, d.flat = true ∨ ∃ rows, d = .sl rows := by
  intro d hd
  have := List.all_eq_true.1 h d hd
  cases d <;> first | exact .inr ⟨_, rfl⟩ | exact .inl this

/-- AN ELEMENT IS TAKEN OUT: its slices become the call's own -/
theorem AO_take {o : Oper} {T id i sz e t : Nat} {x : Operand} {rows : List (List D)} {r : List D} (hop : o.op = .load T x) (hd : o.dst = some t) (hg : o.guard = none) (ht : t < Γ.nt)
    (hx : st.ev x = .op id i sz 0) (hH : st.H[id]? = some (.row (.mv i) e sz rows)) (hrow : rows[i]? = some r) (hT : tagg P T = some true) (hsz : tsz P T = sz) (hok : takeOk r = true)
    (h : AO P Γ all rest Q ⟨(t, .agg (takeC st.H.length r).1) :: st.σ, st.H.set id (.row (.mv (i + 1)) e sz rows) ++ (takeC st.H.length r).2⟩) : AO P Γ all (o :: rest) Q st := by
  intro κ Θ a w hs
  obtain ⟨b1, r1, _⟩ := hs.ev x
  rw [hx] at r1
  obtain ⟨g, o0, len, cap, hk, hv⟩ := r1.op_inv
  obtain ⟨ρ, hu⟩ := hs.uniq
  obtain ⟨hsz0, hrl, vk0, cs0, bs0, hvk0, hown0, hrs0, hΘ, hz0⟩ := hs.ob id _ hH
  obtain ⟨vk, cs, bs, hvk, hown, hrs, hnd, hρ⟩ := hu.more id _ hH
  rw [hk] at hvk hvk0
  cases hvk; cases hvk0
  have ho0 := ownsRow_zero hown
  subst ho0
  rw [Nat.zero_add] at hv
  have hrowlen : r.length = sz := hrl r (List.mem_of_getElem? hrow)
  have hlt : i < rows.length := (List.getElem?_eq_some_iff.1 hrow).1
  have hdrop : rows.drop i = r :: rows.drop (i + 1) := by
    rw [List.drop_eq_getElem_cons hlt]
    congr 1
    rw [List.getElem?_eq_getElem hlt] at hrow
    exact Option.some.inj hrow
  rw [hdrop, List.flatten_cons] at hrs
  obtain ⟨v1, v2, c1, c2, hv12, hbs, k1, k2⟩ := hrs.split
  have l1 : v1.length = sz := by rw [k1.length, hrowlen]
  have hcells : ∀ j c, cs[j]? = some c → w.cell? ⟨g, 0 + j, none⟩ = some c := by
    intro j c hj
    have := hown.cells (g := g) (by simp [Value.ownBlock]) j c hj
    simpa [Addr.add_lit] using this
  have L0 := run_load_cells (P := P) (w := w) hT (o := i * sz + 0) hcells
  simp only [Nat.zero_add, Nat.add_zero] at L0 hv
  have hle : (i + 1) * sz ≤ rows.length * sz := Nat.mul_le_mul_right _ hlt
  rw [Nat.add_mul, Nat.one_mul] at hle
  have hclen := hown.1
  have hval : (cs.drop (i * sz)).take sz = v1 := by rw [hv12]; exact List.take_left' l1
  have hrun : (execOp a.eval o).run P w = .ok (.value (.agg v1.toArray)) w := by
    simp only [execOp, hop, hv]
    have := L0.1 trivial (by rw [hsz, hclen]; omega)
    rw [hsz, hval] at this
    simp [this]
  refine wpList_plain hg fun K hK => ?_
  unfold Oper.wp
  rw [hrun, Oper.upon_value, hd]
  rw [hbs] at hnd hρ
  obtain ⟨n1, n2, n3⟩ := List.nodup_append.1 hnd
  obtain ⟨us, L, q1, q2, q3, q4, q5⟩ := takeC_rd (κ := κ) (n := st.H.length) k1 (takeOk_inv hok) n1
  let N := st.H.length
  let κ' : Nat → Option Value := fun j => if j < N then κ j else us[j - N]?
  let ρ' : Nat → Nat := fun b => match ix (fun x : List Nat => x.contains b) L with | some j => N + j + 1 | none => ρ b
  have hn : ∀ (j : Nat) v, κ j = some v → κ' j = some v := by
    intro j v hj
    have : j < N := by
      rcases Nat.lt_or_ge j N with h | h
      · exact h
      · rw [hs.kout j h] at hj; cases hj
    simp only [κ']; rw [if_pos this]; exact hj
  have hk' : ∀ (j : Nat) u, us[j]? = some u → κ' (N + j) = some u := fun j u hj => by
    simp only [κ']; rw [if_neg (by omega), Nat.add_sub_cancel_left]; exact hj
  have hLnd : L.flatten.Nodup := by rw [q3]; exact n1
  have hρin : ∀ (j : Nat) x b, L[j]? = some x → b ∈ x → ρ' b = N + j + 1 := by
    intro j x b hj hb
    have : ix (fun x : List Nat => x.contains b) L = some j := ix_hit hj (by simpa using hb) (fun m y hm hy => by
      have hy' : b ∈ y := by simpa using hy
      exact Classical.byContradiction fun hne => by
        have key : ∀ (L : List (List Nat)), L.flatten.Nodup → ∀ (p q : Nat) x y, L[p]? = some x → L[q]? = some y → b ∈ x → b ∈ y → p = q := by
          intro L
          induction L with
          | nil => intro _ p q x y hp; simp at hp
          | cons z L ih =>
            intro hnd p q x y hp hq hbx hby
            simp only [List.flatten_cons] at hnd
            obtain ⟨m1, m2, m3⟩ := List.nodup_append.1 hnd
            cases p with
            | zero =>
              cases q with
              | zero => rfl
              | succ q =>
                simp at hp hq; subst hp
                exact absurd rfl (m3 b hbx b (List.mem_flatten.2 ⟨y, List.mem_of_getElem? hq, hby⟩))
            | succ p =>
              cases q with
              | zero =>
                simp at hp hq; subst hq
                exact absurd rfl (m3 b hby b (List.mem_flatten.2 ⟨x, List.mem_of_getElem? hp, hbx⟩))
              | succ q => simp at hp hq; rw [ih m2 p q x y hp hq hbx hby]
        exact hne (key L hLnd m j y x hm hj hy' hb))
    simp only [ρ', this]
  have hρout : ∀ b, b ∉ c1 → ρ' b = ρ b := by
    intro b hb
    simp only [ρ']
    cases hi : ix (fun x : List Nat => x.contains b) L with
    | none => rfl
    | some j =>
      obtain ⟨x, hx', hp⟩ := ix_some hi
      exact absurd (by rw [← q3]; exact List.mem_flatten.2 ⟨x, List.mem_of_getElem? hx', by simpa using hp⟩) hb
  have hidN : id < N := (List.getElem?_eq_some_iff.1 hH).1
  have key : ∀ (j : Nat) y, (st.H.set id (.row (.mv (i + 1)) e sz rows) ++ (takeC st.H.length r).2)[j]? = some y → (j = id ∧ y = .row (.mv (i + 1)) e sz rows) ∨ (j ≠ id ∧ j < N ∧ st.H[j]? = some y) ∨ ∃ m, j = N + m ∧ (takeC st.H.length r).2[m]? = some y := by
    intro j y hj
    by_cases hlt : j < N
    · rw [List.getElem?_append_left (by simpa using hlt)] at hj
      rcases set_key j y hj with h | ⟨h1, h2⟩
      · exact .inl h
      · exact .inr (.inl ⟨h1, hlt, h2⟩)
    · rw [List.getElem?_append_right (by simpa using hlt)] at hj
      exact .inr (.inr ⟨j - N, by omega, by simpa using hj⟩)
  have kk : Keeps w w Θ Θ (id + 2) := Keeps.refl hs.own (by omega)
  have hus := hs.uniqStay kk hn hu
  have hone : ∀ (j : Nat) u, κ' j = some u → u.oneCell' = true := by
    intro j u hj
    simp only [κ'] at hj
    split at hj
    · exact hs.kone j u hj
    · have hjl : j - N < (takeC st.H.length r).2.length := by rw [← q1]; exact (List.getElem?_eq_some_iff.1 hj).1
      obtain ⟨_, u', _, _, r2, r3, _⟩ := q4 (j - N) _ (List.getElem?_eq_getElem hjl)
      rw [hj] at r2; cases r2; exact r3
  have hz1 : ∀ b ∈ c1, Θ b = 0 := fun b hb => (hu.free b (by rw [hρ b (by simp [hb])]; omega)).1
  have hs' : Sim Γ ⟨st.σ, st.H.set id (.row (.mv (i + 1)) e sz rows) ++ (takeC st.H.length r).2⟩ κ' Θ a w := by
    refine hs.step kk hs.mine hn (fun j hj => ?_) hone (fun j y hj => ?_) ⟨ρ', fun b hb => ?_, fun j e2 sz2 rows2 hj => ?_, fun j y hj => ?_⟩
    · simp only [List.length_append, List.length_set] at hj
      simp only [κ']
      rw [if_neg (by omega)]
      exact List.getElem?_eq_none (by rw [q1]; exact Nat.le_sub_of_add_le' hj)
    · rcases key j y hj with ⟨rfl, rfl⟩ | ⟨h1, h2, h3⟩ | ⟨m, rfl, hm⟩
      · exact .inr (.inr ⟨hsz0, hrl, _, cs0, bs0, hn _ _ hk, hown0, hrs0, hΘ, hz0⟩)
      · exact .inr (.inl ⟨by omega, h3⟩)
      · obtain ⟨rows', u, b, rfl, r2, r3, r4, r5⟩ := q4 m y hm
        exact .inr (.inr ⟨u, b, hk' m u r2, r5, fun x hx' => hz1 x (by rw [← q3]; exact List.mem_flatten.2 ⟨b, List.mem_of_getElem? r4, hx'⟩)⟩)
    · by_cases hb' : b ∈ c1
      · exact hus.1 b (by rw [hρ b (by simp [hb'])]; omega)
      · rw [hρout b hb'] at hb; exact hus.1 b hb
    · rcases key j _ hj with ⟨_, h⟩ | ⟨h1, h2, h3⟩ | ⟨m, rfl, hm⟩
      · cases h
      · obtain ⟨v', cs', bs', p1, p2, p3, p4, p5⟩ := hus.2.1 j e2 sz2 rows2 (by omega) h3
        refine ⟨v', cs', bs', p1, p2, p3, p4, fun b hb => ?_⟩
        rw [hρout b (fun hb' => by have := hρ b (by simp [hb']); have := p5 b hb; omega)]
        exact p5 b hb
      · obtain ⟨_, _, _, h, _⟩ := q4 m _ hm; cases h
    · rcases key j _ hj with ⟨rfl, rfl⟩ | ⟨h1, h2, h3⟩ | ⟨m, rfl, hm⟩
      · refine ⟨_, cs, c2, hn _ _ hk, hown, ?_, n2, fun b hb => ?_⟩
        · have e1 : cs.drop ((i + 1) * sz) = v2 := by
            rw [Nat.add_mul, Nat.one_mul, ← List.drop_drop, hv12]; exact List.drop_left' l1
          rw [e1]; exact k2
        · rw [hρout b (fun hb' => n3 b hb' b hb rfl)]
          exact hρ b (by simp [hb])
      · refine (hus.2.2 j y (by omega) h3).re fun b hb => ?_
        rw [hρout b (fun hb' => by have := hρ b (by simp [hb']); omega)]
        exact hb
      · obtain ⟨rows', u, b, rfl, r2, r3, r4, r5⟩ := q4 m y hm
        have hsub : ∀ x ∈ b, ρ' x = N + m + 1 := fun x hx' => hρin m b x r4 hx'
        have hbnd : b.Nodup := by
          have key2 : ∀ (L : List (List Nat)), L.flatten.Nodup → ∀ x ∈ L, x.Nodup := by
            intro L
            induction L with
            | nil => intro _ x hx'; cases hx'
            | cons z L ih =>
              intro hnd x hx'
              simp only [List.flatten_cons] at hnd
              obtain ⟨m1, m2, _⟩ := List.nodup_append.1 hnd
              rcases List.mem_cons.1 hx' with rfl | hx'
              · exact m1
              · exact ih m2 x hx'
          exact key2 L hLnd b (List.mem_of_getElem? r4)
        exact ⟨u, b, hk' m u r2, r5, hbnd, hsub⟩
  refine hK _ _ (h κ' Θ _ w (hs'.set (t := t) ht (.v (.agg v1 _ [] (q5 κ' hk'))) (by simp)))

theorem AO_val {o : Oper} {t : Nat} {d : D} {A A' : List An} {p : Owe} (hd : o.dst = some t) (hg : o.guard = none) (ht : t < Γ.nt) (hv : valA P st o.op A = some (d, A', p)) (hp : AllP p) (h : AO P Γ all rest Q ⟨(t, d) :: st.σ, st.H⟩) :
    AO P Γ all (o :: rest) Q st := AO_pv hd hg ht (valA_pv hv hp) h

/-- an own slice is given up: from then on it is only looked into -/
theorem AO_freeze {o : Oper} {s id e sz : Nat} {k : RK} {rows : List (List D)} (hx : lk st.σ s = .acc id) (hH : st.H[id]? = some (.row k e sz rows)) (hk : k.opn = true)
    (h : AO P Γ all (o :: rest) Q ⟨(s, .sl rows) :: st.σ, st.H.set id .gone⟩) : AO P Γ all (o :: rest) Q st := by
  intro κ Θ a w hs
  obtain ⟨ρ, hu⟩ := hs.uniq
  obtain ⟨Θ', ρ', hs', _, ⟨v, bs, hkm, hrd, hz, _⟩, _⟩ := hs.melt hu hH hk
  obtain ⟨bx, rx, _⟩ := hs.slot s
  rw [hx] at rx
  obtain ⟨hkx, _⟩ := rx.acc_inv
  have hv : a.tmps.getD s undef = v := by rw [hkm] at hkx; cases hkx; rfl
  refine h κ Θ' a w ⟨hs'.defers, hs'.size, hs'.kout, hs'.kone, fun u => ?_, hs'.ob, hs'.own, hs'.old, hs'.mine, hs'.stays, hs'.uniq⟩
  show ∃ bs, RdS w κ (a.tmps.getD u undef) (if u = s then .sl rows else lk st.σ u) bs ∧ _
  by_cases hus : u = s
  · subst hus
    rw [if_pos rfl, hv]
    exact ⟨bs, .of hrd, hz⟩
  · rw [if_neg hus]
    exact hs'.slot u

theorem call_eta (c : Call) {callee : Callee} {xs : List Operand} {ts : List TypeId} (h1 : c.callee = callee) (h2 : c.args.toList = xs) (h3 : c.argTypes.toList = ts) : c = { callee := callee, args := xs.toArray, argTypes := ts.toArray } := by
  cases c; simp only at h1 h2 h3; subst h1; subst h2; subst h3; simp

theorem mergeO_sound {H H' : List Ob} {A A' : List An} {p : Owe} {σ : List (Nat × D)} (h : mergeO H A = some (H', A', p)) (hp : AllP p) (hn : AO P Γ all rest Q ⟨σ, H'⟩) : AO P Γ all rest Q ⟨σ, H⟩ := by
  unfold mergeO at h
  split at h
  · split at h
    · rename_i sz rows u p' n hH
      split at h
      · rename_i sz2 rows2 u2 d hN hc
        cases h
        have he := hp.2.1
        subst he
        exact AO_merge (st := ⟨σ, H⟩) hH hN hp.1 hc hn
      · cases h
    · cases h
  · cases h
    exact hn

/-- A STEP IS SOUND -/
theorem AO_step {o : Oper} {A A' : List An} {st' : St} {p : Owe} {nt : Nat} (hnt : Γ.nt = nt) (hg : o.guard = none) (h : stepO P nt o st A = some (st', A', p)) (hp : AllP p) (hn : AO P Γ all rest Q st') : AO P Γ all (o :: rest) Q st := by
  subst hnt
  unfold stepO at h
  split at h
  · rename_i T x t hop hd
    split at h
    · split at h
      · cases h; exact AO_box hop hd hg (by assumption) (by assumption) hn
      · cases h
    · cases h
  · rename_i T t hop hd
    split at h
    · split at h
      · cases h; exact AO_alloc hop hd hg (by assumption) (by assumption) hn
      · cases h
    · cases h
  · rename_i T x y hop hd
    split at h
    · rename_i id off ds h1 h2
      split at h
      · rename_i ob h3
        split at h
        · rename_i cells h4
          split at h
          · rename_i hc
            cases h
            exact AO_store hop hd hg h1 h3 h4 h2 hc.1 hc.2.1 hc.2.2.1 hc.2.2.2 hn
          · cases h
        · cases h
      · cases h
    · rename_i id i sz off ds h1 h2
      split at h
      · rename_i sz' rows u _ r A1 h3
        split at h
        · rename_i hc
          obtain ⟨c1, c2, c3, rfl, c5, c6⟩ := hc
          cases h
          exact AO_storeL hop hd hg h1 h3 hp.1 h2 c6 c1 c2 c3 c5 hn
        · cases h
      · rename_i k e sz' rows es ms r A1 h3 h4
        split at h
        · rename_i hc
          obtain ⟨c1, c2, rfl, c4, c5, c6, c7⟩ := hc
          cases h
          exact AO_storeRow hop hd hg h1 h3 c4 hp.1 h2 h4 c6 c7 c1 c2 c5 hn
        · cases h
      · cases h
    · cases h
  · rename_i T t hop hd
    split at h
    · cases h; exact AO_makeMap hop hd hg (by assumption) hn
    · cases h
  · rename_i T x i y hop hd
    split at h
    · rename_i kd dz id m A1 h1 h2
      split at h
      · rename_i kv h3
        split at h
        · rename_i hc
          cases h
          exact AO_mapUpdate hop hd hg h1 h2 h3 hc.1 hc.2 hp.1 hn
        · cases h
      · cases h
    · cases h
  · rename_i T x y t hop hd
    split at h
    · rename_i e sz k n k' n' h1 h2 h3
      split at h
      · rename_i zs h4
        split at h
        · rename_i hc
          cases h
          obtain ⟨⟨rfl, q2, q3, q4⟩, _⟩ := hp
          exact AO_makeSlice hop hd hg hc.1 h1 h4 hc.2 h2 h3 q2 q3 q4 hn
        · cases h
      · cases h
    · cases h
  · rename_i T len parts t hop hd
    split at h
    · rename_i e sz h1
      split at h
      · rename_i zs h2
        split at h
        · rename_i ds h3
          split at h
          · rename_i es ms h4
            split at h
            · rename_i hc
              cases h
              exact AO_buildSlice hop hd hg hc.1 h1 h2 hc.2.1 hc.2.2.1 h3 h4 hc.2.2.2 hn
            · cases h
          · cases h
        · cases h
      · cases h
    · cases h
  · rename_i c t hop hd
    split at h
    · rename_i s x T T' h1 h2 h3
      split at h
      · rename_i e sz h4
        split at h
        · rename_i zs rows u1 k1 rows2 u2 k2 A1 ow h5 h6 h7
          split at h
          · rename_i hc
            obtain ⟨c1, c2, rfl, c4⟩ := hc
            cases h
            obtain ⟨⟨q1, q2⟩, q3⟩ := hp
            exact AO_app (hop.trans (congrArg Op.call (call_eta c h1 h2 h3))) hd hg c1 h4 h5 c2 h6 h7 q3 c4 q1 q2 hn
          · cases h
        · cases h
      · cases h
    · rename_i x T h1 h2 h3
      split at h
      · rename_i id sz rows u h4
        obtain ⟨h5, h6⟩ := lentOf_inv h4
        split at h
        · rename_i hc
          cases h
          exact AO_lenL (hop.trans (congrArg Op.call (call_eta c h1 h2 h3))) hd hg hc.1 hc.2 h5 h6 hn
        · cases h
      · split at h
        · split at h
          · rename_i d A1 ow h4
            cases h
            exact AO_val hd hg (by assumption) h4 hp hn
          · cases h
        · cases h
    · rename_i f xs ts h1
      split at h
      · rename_i ms outs d A1 h4
        split at h
        · rename_i ins h5
          split at h
          · rename_i hc
            obtain ⟨c1, c2, c3⟩ := hc
            split at h
            · rename_i H' A2 ow h6
              cases h
              exact AO_callV (hop.trans (congrArg Op.call (call_eta c h1 rfl rfl))) hd hg c1 c2 h5 (by simpa using c3) (by simpa using hp.1) (mergeO_sound h6 hp.2 hn)
            · cases h
          · cases h
        · cases h
      · rename_i nz cells' d A1 h4
        split at h
        · rename_i x0 xr h5
          split at h
          · rename_i id h6
            split at h
            · rename_i ob h7
              split at h
              · rename_i cells0 h8
                split at h
                · rename_i cells ds ms qs h9
                  split at h
                  · rename_i hc
                    obtain ⟨c1, c2, c3, c4⟩ := hc
                    cases h
                    exact AO_callP (hop.trans (congrArg Op.call (call_eta c h1 rfl rfl))) hd hg c1 (by simpa using h5) h6 h7 h8 h9 c2 c3 c4 hp.1 hn
                  · cases h
                · cases h
              · cases h
            · cases h
          · cases h
        · cases h
      · rename_i ds ms cells A1 h4
        split at h
        · rename_i hc
          obtain ⟨c1, rfl⟩ := hc
          cases h
          exact AO_callN (hop.trans (congrArg Op.call (call_eta c h1 rfl rfl))) hd hg c1 (by simpa using h4) hp.1 hn
        · cases h
      · rename_i ds ms d A1 h4
        split at h
        · rename_i hc
          cases h
          exact AO_callC (hop.trans (congrArg Op.call (call_eta c h1 rfl rfl))) hd hg hc.1 (by simpa using h4) hc.2 hp.1 hn
        · cases h
      · rename_i id rows' A1 h4
        split at h
        · rename_i e sz rows h5
          split at h
          · rename_i hc
            obtain ⟨c1, c3⟩ := hc
            cases h
            exact AO_callO (hop.trans (congrArg Op.call (call_eta c h1 rfl rfl))) hd hg c1 h5 c3.2 hp.1 (by simpa using c3.1) (by simpa using hp.2.1) hn
          · cases h
        · cases h
      · rename_i id rows' A1 h4
        split at h
        · rename_i x k e sz rows h5 h6
          split at h
          · rename_i id' h7
            split at h
            · rename_i hc
              obtain ⟨c1, rfl, c3⟩ := hc
              cases h
              have e1 : c.args = #[x] := by rw [← Array.toList_inj]; simpa using h5
              refine AO_callM (ts := c.argTypes) (hop.trans (congrArg Op.call ?_)) (fun t' ht' => ?_) hg h7 h6 c3.1 c3.2 hp.1 hp.2.1 ?_
              · rw [← e1]; exact call_eta c h1 rfl rfl
              · rw [hd] at ht'; cases ht'; exact c1
              · rw [hd]; exact hn
            · cases h
          · cases h
        · cases h
      · rename_i ds ms d A1 h4
        split at h
        · rename_i hc
          cases h
          exact AO_call (hop.trans (congrArg Op.call (call_eta c h1 rfl rfl))) hd hg hc.1 (by simpa using h4) hc.2 hp.1 hn
        · cases h
      · rename_i d A1
        split at h
        · rename_i hc
          cases h
          exact AO_callK (hop.trans (congrArg Op.call (call_eta c h1 rfl rfl))) hd hg hc.1 (by simpa using hc.2) (by simpa using hp.1) hn
        · cases h
      · rename_i nz d A1
        split at h
        · rename_i ds ms qs h9
          split at h
          · rename_i hc
            obtain ⟨c1, c2, c3, c4⟩ := hc
            cases h
            exact AO_callF (hop.trans (congrArg Op.call (call_eta c h1 rfl rfl))) hd hg c1 h9 c2 c3 c4 hp.1 hn
          · cases h
        · cases h
      · cases h
    · split at h
      · split at h
        · rename_i d A1 ow h4
          cases h
          exact AO_val hd hg (by assumption) h4 hp hn
        · cases h
      · cases h
  · rename_i s d x t hop hd
    split at h
    · rename_i id h1
      split at h
      · rename_i k e' sz' rows e sz h2 h3
        split at h
        · rename_i bs h4
          split at h
          · rename_i hc
            obtain ⟨c1, rfl, c3, c4⟩ := hc
            cases h
            exact AO_conv hop hd hg c1 h1 h2 h3 c3 c4 h4 hn
          · cases h
        · cases h
      · cases h
    · split at h
      · split at h
        · rename_i d A1 ow h4
          cases h
          exact AO_val hd hg (by assumption) h4 hp hn
        · cases h
      · cases h
  · rename_i x t hop hd
    split at h
    · rename_i A1
      split at h
      · rename_i e sz h1 h2
        split at h
        · rename_i hc
          cases h
          exact AO_pro hop hd hg hc.1 h1 hc.2 hn
        · cases h
      · cases h
    · split at h
      · cases h
        exact AO_pv hd hg (by assumption) (by rw [hop]; rfl) hn
      · cases h
  · rename_i T x hi t hop hd
    split at h
    · rename_i id h1
      split at h
      · rename_i e sz rows e' sz' kk n hh A1 h2 h3 h4
        split at h
        · rename_i hc
          obtain ⟨c1, rfl⟩ := hc
          cases h
          exact AO_cutO hop hd hg c1 h3 h1 h2 (by rw [h4, hp.1.1]) hp.1.2 hn
        · cases h
      · cases h
    · split at h
      · split at h
        · rename_i d A1 ow h4
          cases h
          exact AO_val hd hg (by assumption) h4 hp hn
        · cases h
      · cases h
  · rename_i T s lo t hop hd
    split at h
    · rename_i A0 id h1
      split at h
      · rename_i k e sz rows h2
        split at h
        · rename_i hc
          split at h
          · rename_i d A1 ow h4
            cases h
            exact AO_freeze h1 h2 hc.2 (AO_val hd hg hc.1 h4 hp hn)
          · cases h
        · cases h
      · cases h
    · split at h
      · split at h
        · rename_i d A1 ow h4
          cases h
          exact AO_val hd hg (by assumption) h4 hp hn
        · cases h
      · cases h
  · rename_i T x i t hop hd
    split at h
    · rename_i id sz rows u h1
      obtain ⟨h2, h3⟩ := lentOf_inv h1
      split at h
      · rename_i e sz' k n m A1 h4 h5
        split at h
        · rename_i hc
          obtain ⟨c1, rfl⟩ := hc
          cases h
          exact AO_ixL hop hd hg c1 h4 h2 h5 h3 hp.1.1 hp.1.2 hn
        · cases h
      · cases h
    · split at h
      · split at h
        · rename_i d A1 ow h4
          cases h
          exact AO_val hd hg (by assumption) h4 hp hn
        · cases h
      · cases h
  · rename_i T x t hop hd
    split at h
    · rename_i id i off sz rows u h1
      obtain ⟨h2, h3⟩ := lentOp_inv h1
      split at h
      · rename_i r A1 h4
        split at h
        · rename_i rows2 h5
          split at h
          · rename_i e sz2 h6
            split at h
            · rename_i hc
              cases h
              exact AO_split hop hd hg hc h4 h2 h3 hp.1 h5 hp.2.1 hn
            · cases h
          · cases h
        · rename_i d _ h5
          split at h
          · rename_i hc
            cases h
            exact AO_loadL hop hd hg hc.1 h4 h2 h3 hp.1 h5 hc.2 hn
          · cases h
        · cases h
      · cases h
    · split at h
      · rename_i r A1 id i sz h1
        split at h
        · rename_i n e sz' rows h2
          split at h
          · rename_i hc
            obtain ⟨c1, rfl, c3, c4⟩ := hc
            cases h
            obtain ⟨⟨rfl, q2, q3⟩, _⟩ := hp
            exact AO_take hop hd hg c1 h1 h2 q2 c3 c4 q3 hn
          · cases h
        · cases h
      · split at h
        · split at h
          · rename_i d A1 ow h4
            cases h
            exact AO_val hd hg (by assumption) h4 hp hn
          · cases h
        · cases h
  · split at h
    · split at h
      · rename_i d A1 ow h4
        cases h
        exact AO_val (by assumption) hg (by assumption) h4 hp hn
      · cases h
    · cases h
  · cases h

theorem step_dst {o : Oper} {A A' : List An} {st' : St} {p : Owe} {nt : Nat} (hnt : Γ.nt = nt) (h : stepO P nt o st A = some (st', A', p)) : ∀ {t : Nat}, o.dst = some t → t < Γ.nt := by
  intro t ht
  subst hnt
  unfold stepO at h
  split at h
  all_goals first
    | (rename_i hd; rw [ht] at hd; cases hd; done)
    | skip
  all_goals (try (rename_i hd; rw [ht] at hd; cases hd))
  all_goals (repeat' split at h)
  all_goals (try cases h)
  all_goals first
    | assumption
    | (have hc : _ ∧ _ := by assumption
       exact hc.1)
    | (simp_all; done)
end
end Go.Cx
