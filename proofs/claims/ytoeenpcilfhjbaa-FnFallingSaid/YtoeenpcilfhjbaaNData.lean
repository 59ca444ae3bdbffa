/- The program's data as plain Lean structures, and how they lie in cells. No condition; plain definitions. -/
import Derived.Test.YtoeenpcilfhjbaaNOr
import Derived.Test.YtoeenpcilfhjbaaNCl
import Derived.Test.YtoeenpcilfhjbaaProg
import Derived.KernelRfl
namespace Go.Cx
set_option linter.unusedVariables false
set_option linter.unusedSimpArgs false
open Go.RowKit Go.Proofs

structure Fact where
  rel : Bytes
  args : List Bytes
  deriving DecidableEq
structure Pair where
  var : Bytes
  value : Bytes
  deriving DecidableEq
structure Cond where
  kind : Int
  pat : Fact
  left : Bytes
  right : Bytes
  deriving DecidableEq
structure Action where
  kind : Int
  pat : Fact
  deriving DecidableEq
structure Rule where
  name : Bytes
  prio : Int
  conds : List Cond
  acts : List Action
  deriving DecidableEq
structure Token where
  facts : List Fact
  bind : List Pair
  deriving DecidableEq
structure Match where
  rule : Bytes
  facts : List Fact
  bind : List Pair
  deriving DecidableEq
structure Alpha where
  shape : Fact
  facts : List Fact
  deriving DecidableEq
structure Node where
  parent : Int
  cond : Cond
  alpha : Int
  tokens : List Token
  deriving DecidableEq
structure Network where
  rules : List Rule
  ends : List Int
  alphas : List Alpha
  nodes : List Node
  facts : List Fact
  tries : Int
  deriving DecidableEq
structure Stamp where
  fact : Fact
  time : Int
  deriving DecidableEq
structure Firing where
  rule : Bytes
  times : List Int
  deriving DecidableEq
structure Choice where
  mtch : Match
  prio : Int
  times : List Int
  spec : Int
  order : Int
  deriving DecidableEq

structure Cur where
  b : List Int
  i : Int
  h : Int
  deriving DecidableEq

abbrev tx (s : Bytes) : List D := [.str s]
abbrev ixx (n : Int) : List D := [.int .i64 n]
abbrev bx (b : Bool) : List D := [.bool b]
abbrev yx (n : Int) : List D := [.int .u8 n]
abbrev dT (l : List Bytes) : D := .sl (l.map tx)
abbrev dI (l : List Int) : D := .sl (l.map ixx)
abbrev Fact.c (x : Fact) : List D := [.str x.rel, dT x.args]
abbrev Pair.c (x : Pair) : List D := [.str x.var, .str x.value]
abbrev Cond.c (x : Cond) : List D := [.int .i64 x.kind, .str x.pat.rel, dT x.pat.args, .str x.left, .str x.right]
abbrev Action.c (x : Action) : List D := [.int .i64 x.kind, .str x.pat.rel, dT x.pat.args]
abbrev Rule.c (x : Rule) : List D := [.str x.name, .int .i64 x.prio, .sl (x.conds.map Cond.c), .sl (x.acts.map Action.c)]
abbrev Token.c (x : Token) : List D := [.sl (x.facts.map Fact.c), .sl (x.bind.map Pair.c)]
abbrev Match.c (x : Match) : List D := [.str x.rule, .sl (x.facts.map Fact.c), .sl (x.bind.map Pair.c)]
abbrev Alpha.c (x : Alpha) : List D := [.str x.shape.rel, dT x.shape.args, .sl (x.facts.map Fact.c)]
abbrev Node.c (x : Node) : List D := [.int .i64 x.parent, .int .i64 x.cond.kind, .str x.cond.pat.rel, dT x.cond.pat.args, .str x.cond.left, .str x.cond.right, .int .i64 x.alpha, .sl (x.tokens.map Token.c)]
abbrev Network.c (x : Network) : List D := [.sl (x.rules.map Rule.c), dI x.ends, .sl (x.alphas.map Alpha.c), .sl (x.nodes.map Node.c), .sl (x.facts.map Fact.c), .int .i64 x.tries]
abbrev Stamp.c (x : Stamp) : List D := [.str x.fact.rel, dT x.fact.args, .int .i64 x.time]
abbrev Firing.c (x : Firing) : List D := [.str x.rule, dI x.times]
abbrev Choice.c (x : Choice) : List D := [.str x.mtch.rule, .sl (x.mtch.facts.map Fact.c), .sl (x.mtch.bind.map Pair.c), .int .i64 x.prio, dI x.times, .int .i64 x.spec, .int .i64 x.order]
abbrev Cur.c (x : Cur) : List D := [.sl (x.b.map yx), .int .i64 x.i, .int .i64 x.h]

def bodyOf (fn : Func) : Code := match fn.body with
  | some c => c
  | none => .skip

theorem mix : Try.prog.follows .mixedOrders = true := by kernel_rfl

theorem AW_N {P : Program} {Γ : Ctx} {Q : Exit → St → Prop} {N N' : Nat → St → Prop} {c : Code} {K K0 : List Fr} {st : St} (hd : depth K = depth K0) (hN : ∀ d, d < depth K0 → N' d = N d) (t : AW P Γ c (KQ P Γ N Q K) st) : AW P Γ c (KQ P Γ N' Q K) st := by
  rw [KQ_congr (N := N') (N' := N) K (fun d h => hN d (by omega))]; exact t
theorem AW_st {P : Program} {Γ : Ctx} {Q : Exit → St → Prop} {c : Code} {s s' : St} (h : s = s') (t : AW P Γ c Q s') : AW P Γ c Q s := by rw [h]; exact t
theorem flat_rows {α : Type} {c : α → List D} (hc : ∀ x, (c x).all D.flat = true) (l : List α) : (l.map c).flatten.all D.flat = true := by
  induction l with
  | nil => rfl
  | cons x l ih => rw [List.map_cons, List.flatten_cons, List.all_append, hc, ih]; rfl

/-! short names for what the generated walks say often -/
abbrev bT : An := .b true
abbrev bF : An := .b false
/-! new slices that are only looked into -/
theorem Good.sh {P : Program} {f : FuncId} {ds : List D} {d : D} (h : Good P f ds d) (hd : (match d with | .tup _ => false | _ => true) = true := by kernel_rfl) : Good P f ds d.shV := by
  refine ⟨h.1, fun w Θ args bs h1 h2 h3 h4 h5 => (h.2 w Θ args bs h1 h2 h3 h4 h5).mono ?_⟩
  rintro x w' ⟨v, bs', ts, us, rfl, hb, hr, hz, ht, hnd, hfr, hsub⟩
  cases hr with
  | v hv =>
    obtain ⟨b, q, s⟩ := hv.shownIn
    refine ⟨v, b, [], [], rfl, hb, .v (.cell (.pure q)), fun y hy hlt => ?_, by simp, by simp, by simp, by simp⟩
    rcases s y hy with h | h
    · exact hz y h hlt
    · exact absurd (hfr y h).1 (by omega)
  | tup => cases hd
theorem ResVs.shownIn {w : World} {vs : List Value} {ds : List D} {bs ts us : List Nat} (h : ResVs w vs ds bs ts us) : ∃ b, ResVs w vs (ds.map D.shV) b [] [] ∧ ∀ x ∈ b, x ∈ bs ∨ x ∈ us := by
  induction h with
  | nil => exact ⟨_, .nil, by simp⟩
  | cons v vs d ds b1 b2 t1 t2 u1 u2 h2 _ ih =>
    obtain ⟨b, q, s⟩ := h2.shownIn
    obtain ⟨b', q', s'⟩ := ih
    refine ⟨_, .cons _ _ _ _ b b' [] [] [] [] (.cell (.pure q)) q', fun x hx => ?_⟩
    rcases List.mem_append.1 hx with h | h
    · rcases s x h with h | h <;> simp [h]
    · rcases s' x h with h | h <;> simp [h]
theorem Good.shT {P : Program} {f : FuncId} {ds es : List D} (h : Good P f ds (.tup es)) : Good P f ds (.tup (es.map D.shV)) := by
  refine ⟨h.1, fun w Θ args bs h1 h2 h3 h4 h5 => (h.2 w Θ args bs h1 h2 h3 h4 h5).mono ?_⟩
  rintro x w' ⟨v, bs', ts, us, rfl, hb, hr, hz, ht, hnd, hfr, hsub⟩
  cases hr with
  | v hv =>
    cases hv with
    | cell hc => cases hc with
      | pure hp => cases hp
  | tup vs _ _ _ _ hvs =>
    obtain ⟨b, q, s⟩ := hvs.shownIn
    refine ⟨_, b, [], [], rfl, hb, .tup _ _ _ _ _ q, fun y hy hlt => ?_, by simp, by simp, by simp, by simp⟩
    rcases s y hy with h | h
    · exact hz y h hlt
    · exact absurd (hfr y h).1 (by omega)
/-- answers, with what they owe paid -/
structure Pre (A : List An) (p : Owe) : Prop where
  h : AllP p
theorem pre0 : Pre [] [] := ⟨trivial⟩
theorem AllP.join {p q : Owe} (h : AllP p) (k : AllP q) : AllP (p ++ q) := by
  induction p with
  | nil => exact k
  | cons x p ih => exact ⟨h.1, ih h.2⟩
theorem Pre.ext {A : List An} {p : Owe} (o : Pre A p) (B : List An) {q : Owe} (hq : AllP q) : Pre (A ++ B) (p ++ q) := ⟨o.h.join hq⟩
section
variable {A : List An} {p : Owe}
theorem Pre.b (o : Pre A p) {c v : Bool} (h : c = v) : Pre (A ++ [.b v]) (p ++ [c = v]) := o.ext _ ⟨h, trivial⟩
theorem Pre.r (o : Pre A p) (n : Nat) {c v : Bool} (h : c = v) : Pre (A ++ List.replicate n (.b v)) (p ++ List.replicate n (c = v)) := o.ext _ (by
  induction n with
  | zero => trivial
  | succ n ih => exact ⟨h, ih⟩)
theorem Pre.T (o : Pre A p) (n : Nat) : Pre (A ++ List.replicate n bT) (p ++ List.replicate n (true = true)) := o.r n rfl
theorem Pre.F (o : Pre A p) (n : Nat) : Pre (A ++ List.replicate n bF) (p ++ List.replicate n (false = false)) := o.r n rfl
theorem Pre.g (o : Pre A p) {f : FuncId} {ds : List D} {d : D} (h : Good Try.prog f ds d) : Pre (A ++ [.d d]) (p ++ [Good Try.prog f ds d]) := o.ext _ ⟨h, trivial⟩
theorem Pre.gs (o : Pre A p) {f : FuncId} {ds : List D} {d : D} (h : Good Try.prog f ds d) : Pre (A ++ [.ds d]) (p ++ [Good Try.prog f ds d]) := o.ext _ ⟨h, trivial⟩
theorem Pre.hp (o : Pre A p) (nz : List (List (Option (Nat × Nat)))) {f : FuncId} {cells cells' ds : List D} {d : D} (h : GoodP Try.prog f cells cells' ds d) : Pre (A ++ [.gp nz cells' d]) (p ++ [GoodP Try.prog f cells cells' ds d]) := o.ext _ ⟨h, trivial⟩
theorem Pre.hf (o : Pre A p) (nz : List (List (Option (Nat × Nat)))) {f : FuncId} {ds : List D} {d : D} (h : GoodF Try.prog f ds d) : Pre (A ++ [.gf nz d]) (p ++ [GoodF Try.prog f ds d]) := o.ext _ ⟨h, trivial⟩
theorem Pre.hn (o : Pre A p) {f : FuncId} {ds cells : List D} (h : GoodN Try.prog f ds cells) : Pre (A ++ [.dn cells]) (p ++ [GoodN Try.prog f ds cells]) := o.ext _ ⟨h, trivial⟩
theorem Pre.x (o : Pre A p) (a : An) {q : Prop} (h : q) : Pre (A ++ [a]) (p ++ [q]) := o.ext _ ⟨h, trivial⟩
theorem Pre.w (o : Pre A p) {q : Prop} (h : q) : Pre (A ++ []) (p ++ [q]) := o.ext _ ⟨h, trivial⟩
theorem Pre.a (o : Pre A p) (B : List An) : Pre (A ++ B) (p ++ []) := o.ext _ (q := []) trivial
theorem Pre.l (o : Pre A p) {n : Int} {rows : List (List D)} {r : List D} {sz : Nat} (h : 0 ≤ n ∧ rows[n.toNat]? = some r ∧ r.length = sz) : Pre (A ++ [.row r]) (p ++ [0 ≤ n ∧ rows[n.toNat]? = some r ∧ r.length = sz]) := o.ext _ ⟨h, trivial⟩
theorem Pre.i (o : Pre A p) {sz sz' m k : Nat} {n : Int} (h : sz = sz' ∧ n = ((k : Nat) : Int) ∧ k < m) : Pre (A ++ [.ix k]) (p ++ [sz = sz' ∧ n = ((k : Nat) : Int) ∧ k < m]) := o.ext _ ⟨h, trivial⟩
theorem Pre.o (o : Pre A p) (sz n : Nat) (k : RK) {rows : List (List D)} {i : Nat} {r : List D} (h : rows[i]? = some r) (hk : k.opn = true := by kernel_rfl) (hn : Nat.ble n sz = true := by kernel_rfl) : Pre (A ++ [.row r]) (p ++ [sz = sz ∧ k.opn = true ∧ rows[i]? = some r ∧ n ≤ sz]) := o.ext _ ⟨⟨rfl, hk, h, Nat.le_of_ble_eq_true hn⟩, trivial⟩
theorem Pre.c (o : Pre A p) {s : Bytes} {i : Int} {b : UInt8} (h : atI s i = some b) : Pre (A ++ [.ch b]) (p ++ [0 ≤ i ∧ s[i.toNat]? = some b]) := o.ext _ ⟨at_str h, trivial⟩
theorem Pre.lt {α : Type} {l xs : List α} {i : Nat} {x : α} (o : Pre A p) (f : α → List D) (h : l.drop i = x :: xs) : Pre (A ++ [bT]) (p ++ [decide ((i : Int) < ((l.map f).length : Int)) = true]) := o.b (ltm_true f (drop_cons h).2.1)
theorem Pre.ge {α : Type} {l : List α} {i : Nat} (o : Pre A p) (f : α → List D) (h : l.drop i = []) : Pre (A ++ [bF]) (p ++ [decide ((i : Int) < ((l.map f).length : Int)) = false]) := o.b (ltm_false f (drop_nil h))
end
theorem dc {α : Type} {l : List α} {k : Nat} {x : α} {xs : List α} (h : l.drop k = x :: xs) : l[k]? = some x := (drop_cons h).1
theorem dn {α : Type} {l : List α} {k : Nat} {x : α} {xs : List α} (h : l.drop k = x :: xs) : l.drop (k + 1) = xs := (drop_cons h).2.2
theorem iS {α : Type} {l : List α} {k : Nat} {x : α} {xs : List α} (h : l.drop k = x :: xs) (hn : l.length ≤ maxLen) : IntKind.i64.wrap ((k : Int) + 1) = ((k + 1 : Nat) : Int) := i64_succ (drop_cons h).2.1 hn
theorem cut_ok {n : Int} {m : Nat} (h : (decide (0 ≤ n) && decide (n.toNat ≤ m)) = true) : n = ((n.toNat : Nat) : Int) ∧ n.toNat ≤ m := by
  simp only [Bool.and_eq_true, decide_eq_true_eq] at h; exact ⟨by omega, h.2⟩
theorem mA {α β : Type} (f : α → β) : (∀ a b : List α, (a ++ b).map f = a.map f ++ b.map f) ∧ (∀ (x : α) (a : List α), (x :: a).map f = f x :: a.map f) ∧ ([] : List α).map f = [] ∧ (∀ (l : List α) (i : Nat) (x : α), (l.set i x).map f = (l.map f).set i (f x)) ∧ (∀ (n : Nat) (x : α), (List.replicate n x).map f = List.replicate n (f x)) ∧ (∀ (l : List α) (n : Nat), (l.take n).map f = (l.map f).take n) :=
  ⟨fun _ _ => List.map_append, fun _ _ => rfl, rfl, fun _ _ _ => List.map_set, fun _ _ => List.map_replicate, fun _ _ => List.map_take⟩
section
variable {Γ : Ctx} {N N1 : Nat → St → Prop} {fn : Func} {k : Kd} {nt : Nat} {A : List An} {p : Owe} {c c' : Code} {K K' K0 : List Fr} {st st' : St}
theorem Pre.ret (o : Pre A p) (hnt : Γ.nt = nt) (h : go Try.prog (k.rf Try.prog fn) nt 2000 (.run c) K st A = some (.ret k.d0, p) := by kernel_rfl) : AW Try.prog Γ c (KQ Try.prog Γ N (k.qq Try.prog fn) K) st := AW_goK (n := 2000) A _ hnt mix h o.h rfl
theorem Pre.rts (o : Pre A p) (hnt : Γ.nt = nt) (d : D) (hd : d = k.d0) (h : go Try.prog (k.rf Try.prog fn) nt 2000 (.run c) K st A = some (.ret d, p) := by kernel_rfl) : AW Try.prog Γ c (KQ Try.prog Γ N (k.qq Try.prog fn) K) st := AW_goK (n := 2000) A _ hnt mix h o.h hd
theorem Pre.cs (o : Pre A p) (hnt : Γ.nt = nt) {n : Nat} (hS : N1 (depth K') = AWr Try.prog Γ c' (KQ Try.prog Γ N (k.qq Try.prog fn) K') n) (S : St) (e : S = st') (t : AWr Try.prog Γ c' (KQ Try.prog Γ N (k.qq Try.prog fn) K') n st')
    (h : go Try.prog (k.rf Try.prog fn) nt 2000 (.run c) K st A = some (.cont (depth K') S, p) := by kernel_rfl) : AW Try.prog Γ c (KQ Try.prog Γ N1 (k.qq Try.prog fn) K) st := AW_goK (n := 2000) A _ hnt mix h o.h ((congrFun hS _).mpr (by rw [e]; exact t))
theorem Pre.cf (o : Pre A p) (hnt : Γ.nt = nt) {n : Nat} (hS : N1 (depth K') = AWr Try.prog Γ c' (KQ Try.prog Γ N (k.qq Try.prog fn) K') n) (t : AWr Try.prog Γ c' (KQ Try.prog Γ N (k.qq Try.prog fn) K') n st')
    (h : go Try.prog (k.rf Try.prog fn) nt 2000 (.run c) K st A = some (.cont (depth K') st', p) := by kernel_rfl) : AW Try.prog Γ c (KQ Try.prog Γ N1 (k.qq Try.prog fn) K) st := o.cs hnt hS _ rfl t h
theorem Pre.ct (o : Pre A p) (hnt : Γ.nt = nt) {n i : Nat} {S : Int → St} (hS : N1 (depth K') = AWr Try.prog Γ c' (KQ Try.prog Γ N (k.qq Try.prog fn) K') n) (hi : IntKind.i64.wrap ((i : Int) + 1) = ((i + 1 : Nat) : Int)) (t : AWr Try.prog Γ c' (KQ Try.prog Γ N (k.qq Try.prog fn) K') n (S ((i + 1 : Nat) : Int)))
    (h : go Try.prog (k.rf Try.prog fn) nt 2000 (.run c) K st A = some (.cont (depth K') (S (IntKind.i64.wrap ((i : Int) + 1))), p) := by kernel_rfl) : AW Try.prog Γ c (KQ Try.prog Γ N1 (k.qq Try.prog fn) K) st := o.cs hnt hS _ (congrArg S hi) t h
theorem Pre.exs (o : Pre A p) (hnt : Γ.nt = nt) (hN : ∀ d, d < depth K0 → N1 d = N d) (S : St) (e : S = st') (t : AW Try.prog Γ c' (KQ Try.prog Γ N (k.qq Try.prog fn) K') st') (hd : depth K' = depth K0 := by kernel_rfl) (h : go Try.prog (k.rf Try.prog fn) nt 2000 (.run c) K st A = some (.at_ c' K' S, p) := by kernel_rfl) :
    AW Try.prog Γ c (KQ Try.prog Γ N1 (k.qq Try.prog fn) K) st := AW_goK (n := 2000) A _ hnt mix h o.h (AW_N (K0 := K0) hd hN (by rw [e]; exact t))
theorem Pre.ex (o : Pre A p) (hnt : Γ.nt = nt) (hN : ∀ d, d < depth K0 → N1 d = N d) (t : AW Try.prog Γ c' (KQ Try.prog Γ N (k.qq Try.prog fn) K') st') (hd : depth K' = depth K0 := by kernel_rfl) (h : go Try.prog (k.rf Try.prog fn) nt 2000 (.run c) K st A = some (.at_ c' K' st', p) := by kernel_rfl) :
    AW Try.prog Γ c (KQ Try.prog Γ N1 (k.qq Try.prog fn) K) st := o.exs hnt hN _ rfl t hd h
theorem Pre.lps (o : Pre A p) (hnt : Γ.nt = nt) {n : Nat} (S : St) (e : S = st') (t : AWr Try.prog Γ c' (KQ Try.prog Γ N (k.qq Try.prog fn) K') n st') (h : go Try.prog (k.rf Try.prog fn) nt 2000 (.run c) K st A = some (.lp c' K' S, p) := by kernel_rfl) :
    AW Try.prog Γ c (KQ Try.prog Γ N (k.qq Try.prog fn) K) st := AW_goK (n := 2000) A _ hnt mix h o.h (AW_st e (AW_of_r t))
theorem Pre.lp (o : Pre A p) (hnt : Γ.nt = nt) {n : Nat} (t : AWr Try.prog Γ c' (KQ Try.prog Γ N (k.qq Try.prog fn) K') n st') (h : go Try.prog (k.rf Try.prog fn) nt 2000 (.run c) K st A = some (.lp c' K' st', p) := by kernel_rfl) :
    AW Try.prog Γ c (KQ Try.prog Γ N (k.qq Try.prog fn) K) st := o.lps hnt _ rfl t h
/-! the same for a drawn region, told of all orders -/
def isN2 : List An → Bool
  | .n2 _ _ _ _ _ _ :: _ => true
  | _ => false
theorem n2_ok {A : List An} (h : isN2 A = true) : ∃ π ρ k m L X A1, A = .n2 π ρ k m L X :: A1 := by
  unfold isN2 at h
  split at h
  · exact ⟨_, _, _, _, _, _, _, rfl⟩
  · cases h
variable {ops : Array Oper}
theorem Pre.retO (o : Pre A p) (hnt : Γ.nt = nt) (h : go Try.prog (k.rf Try.prog fn) nt 2000 (.run (.region 0 ops true)) K st A = some (.ret k.d0, p) := by kernel_rfl) (hA : isN2 A = true := by kernel_rfl) : AnyOk Try.prog Γ ops (KQ Try.prog Γ N (k.qq Try.prog fn) K) st := go_any (n := 1999) _ hnt mix h (n2_ok hA) o.h rfl
theorem Pre.rtsO (o : Pre A p) (hnt : Γ.nt = nt) (d : D) (hd : d = k.d0) (h : go Try.prog (k.rf Try.prog fn) nt 2000 (.run (.region 0 ops true)) K st A = some (.ret d, p) := by kernel_rfl) (hA : isN2 A = true := by kernel_rfl) : AnyOk Try.prog Γ ops (KQ Try.prog Γ N (k.qq Try.prog fn) K) st := go_any (n := 1999) _ hnt mix h (n2_ok hA) o.h hd
theorem Pre.csO (o : Pre A p) (hnt : Γ.nt = nt) {n : Nat} (hS : N1 (depth K') = AWr Try.prog Γ c' (KQ Try.prog Γ N (k.qq Try.prog fn) K') n) (S : St) (e : S = st') (t : AWr Try.prog Γ c' (KQ Try.prog Γ N (k.qq Try.prog fn) K') n st')
    (h : go Try.prog (k.rf Try.prog fn) nt 2000 (.run (.region 0 ops true)) K st A = some (.cont (depth K') S, p) := by kernel_rfl) (hA : isN2 A = true := by kernel_rfl) : AnyOk Try.prog Γ ops (KQ Try.prog Γ N1 (k.qq Try.prog fn) K) st := go_any (n := 1999) _ hnt mix h (n2_ok hA) o.h ((congrFun hS _).mpr (by rw [e]; exact t))
theorem Pre.cfO (o : Pre A p) (hnt : Γ.nt = nt) {n : Nat} (hS : N1 (depth K') = AWr Try.prog Γ c' (KQ Try.prog Γ N (k.qq Try.prog fn) K') n) (t : AWr Try.prog Γ c' (KQ Try.prog Γ N (k.qq Try.prog fn) K') n st')
    (h : go Try.prog (k.rf Try.prog fn) nt 2000 (.run (.region 0 ops true)) K st A = some (.cont (depth K') st', p) := by kernel_rfl) (hA : isN2 A = true := by kernel_rfl) : AnyOk Try.prog Γ ops (KQ Try.prog Γ N1 (k.qq Try.prog fn) K) st := o.csO hnt hS _ rfl t h hA
theorem Pre.ctO (o : Pre A p) (hnt : Γ.nt = nt) {n i : Nat} {S : Int → St} (hS : N1 (depth K') = AWr Try.prog Γ c' (KQ Try.prog Γ N (k.qq Try.prog fn) K') n) (hi : IntKind.i64.wrap ((i : Int) + 1) = ((i + 1 : Nat) : Int)) (t : AWr Try.prog Γ c' (KQ Try.prog Γ N (k.qq Try.prog fn) K') n (S ((i + 1 : Nat) : Int)))
    (h : go Try.prog (k.rf Try.prog fn) nt 2000 (.run (.region 0 ops true)) K st A = some (.cont (depth K') (S (IntKind.i64.wrap ((i : Int) + 1))), p) := by kernel_rfl) (hA : isN2 A = true := by kernel_rfl) : AnyOk Try.prog Γ ops (KQ Try.prog Γ N1 (k.qq Try.prog fn) K) st := o.csO hnt hS _ (congrArg S hi) t h hA
theorem Pre.lpsO (o : Pre A p) (hnt : Γ.nt = nt) {n : Nat} (S : St) (e : S = st') (t : AWr Try.prog Γ c' (KQ Try.prog Γ N (k.qq Try.prog fn) K') n st') (h : go Try.prog (k.rf Try.prog fn) nt 2000 (.run (.region 0 ops true)) K st A = some (.lp c' K' S, p) := by kernel_rfl) (hA : isN2 A = true := by kernel_rfl) :
    AnyOk Try.prog Γ ops (KQ Try.prog Γ N (k.qq Try.prog fn) K) st := go_any (n := 1999) _ hnt mix h (n2_ok hA) o.h (AW_st e (AW_of_r t))
theorem Pre.lpO (o : Pre A p) (hnt : Γ.nt = nt) {n : Nat} (t : AWr Try.prog Γ c' (KQ Try.prog Γ N (k.qq Try.prog fn) K') n st') (h : go Try.prog (k.rf Try.prog fn) nt 2000 (.run (.region 0 ops true)) K st A = some (.lp c' K' st', p) := by kernel_rfl) (hA : isN2 A = true := by kernel_rfl) :
    AnyOk Try.prog Γ ops (KQ Try.prog Γ N (k.qq Try.prog fn) K) st := o.lpsO hnt _ rfl t h hA
end
theorem oF {ps : Owe} (t : AllP ps) : AllP ((false = false) :: ps) := ⟨rfl, t⟩
theorem oT {ps : Owe} (t : AllP ps) : AllP ((true = true) :: ps) := ⟨rfl, t⟩
theorem owr {p : Prop} {ps : Owe} (n : Nat) (h : p) (t : AllP ps) : AllP (List.replicate n p ++ ps) := by
  induction n with
  | zero => exact t
  | succ n ih => exact ⟨h, ih⟩
abbrev lc (f : Func) (p : List Nat) : Code := (dig (bodyOf f) p []).1
abbrev lk' (f : Func) (p : List Nat) : List Fr := (dig (bodyOf f) p []).2
abbrev Ax (Γ : Ctx) (N : Nat → St → Prop) (f : Func) (k : Kd) (p : List Nat) (s : St) : Prop := AW Try.prog Γ (lc f p) (KQ Try.prog Γ N (k.qq Try.prog f) (lk' f p)) s
abbrev Ar (Γ : Ctx) (N : Nat → St → Prop) (f : Func) (k : Kd) (p : List Nat) (n : Nat) (s : St) : Prop := AWr Try.prog Γ (lc f (p ++ [0])) (KQ Try.prog Γ N (k.qq Try.prog f) (lk' f p)) n s
/-- contracts out of a walk of a whole function -/
theorem gd {f : FuncId} {fn : Func} {ds : List D} {d : D} (hf : Try.prog.funcs[f]? = some fn) (nz : List (List (Option (Nat × Nat)))) (nt : Nat) (h : (∀ d ∈ ds, Rdb d) → ∀ Γ : Ctx, Γ.nt = nt → AW Try.prog Γ (bodyOf fn) (KQ Try.prog Γ (fun _ _ => False) ((Kd.q nz d).qq Try.prog fn) []) ⟨args0 0 ds, []⟩)
    (hb : fn.body = some (bodyOf fn) := by kernel_rfl) (hn : (fn.name == "runtime.NumGoroutine") = false := by kernel_rfl) (hl : Nat.ble ds.length fn.ntmps = true := by kernel_rfl) (ht : fn.ntmps = nt := by kernel_rfl) : Good Try.prog f ds d :=
  Good.of hf hb hn (Nat.le_of_ble_eq_true hl) fun hr Γ hΓ => h hr Γ (hΓ.trans ht)
theorem gdN {f : FuncId} {fn : Func} {ds cells : List D} (hf : Try.prog.funcs[f]? = some fn) (nt : Nat) (h : (∀ d ∈ ds, Rdb d) → ∀ Γ : Ctx, Γ.nt = nt → AW Try.prog Γ (bodyOf fn) (KQ Try.prog Γ (fun _ _ => False) ((Kd.n cells).qq Try.prog fn) []) ⟨args0 0 ds, []⟩)
    (hb : fn.body = some (bodyOf fn) := by kernel_rfl) (hn : (fn.name == "runtime.NumGoroutine") = false := by kernel_rfl) (hl : Nat.ble ds.length fn.ntmps = true := by kernel_rfl) (ht : fn.ntmps = nt := by kernel_rfl) : GoodN Try.prog f ds cells :=
  GoodN.of hf hb hn (Nat.le_of_ble_eq_true hl) fun hr Γ hΓ => h hr Γ (hΓ.trans ht)
theorem gdP {f : FuncId} {fn : Func} {cells cells' ds : List D} {d : D} (hf : Try.prog.funcs[f]? = some fn) (nz : List (List (Option (Nat × Nat)))) (nt : Nat) (cells1 ds1 : List D) (obs : List Ob)
    (h : (∀ x ∈ (D.agg cells :: ds).map D.shV, Rdb x) → ∀ (v0 : Value) (Γ : Ctx), Γ.nt = nt → AW Try.prog Γ (bodyOf fn) (KQ Try.prog Γ (fun _ _ => False) ((Kd.p nz v0 cells' d).qq Try.prog fn) []) ⟨args0 0 (.ptr 0 0 :: ds1), .pbx cells1 v0 :: obs⟩)
    (hI : instVs 1 (.agg cells :: ds) = (.agg cells1 :: ds1, obs) := by kernel_rfl) (hb : fn.body = some (bodyOf fn) := by kernel_rfl) (hn : (fn.name == "runtime.NumGoroutine") = false := by kernel_rfl) (hl : Nat.ble (ds1.length + 1) fn.ntmps = true := by kernel_rfl) (ht : fn.ntmps = nt := by kernel_rfl) : GoodP Try.prog f cells cells' ds d :=
  GoodP.of hf hb hn hI (Nat.le_of_ble_eq_true hl) fun hr v0 Γ hΓ _ => h hr v0 Γ (hΓ.trans ht)
/-- likewise, and what the lent variable's first cell shows is told to be old -/
theorem gdPK {f : FuncId} {fn : Func} {rows : List (List D)} {x1 x2 : D} {cells' ds : List D} {d : D} (hf : Try.prog.funcs[f]? = some fn) (nz : List (List (Option (Nat × Nat)))) (nt : Nat) (ds1 : List D)
    (h : (∀ x ∈ (D.agg [.sl rows, x1, x2] :: ds).map D.shV, Rdb x) → ∀ (v0 : Value) (Γ : Ctx), Γ.nt = nt → OldC Γ v0 rows → AW Try.prog Γ (bodyOf fn) (KQ Try.prog Γ (fun _ _ => False) ((Kd.p nz v0 cells' d).qq Try.prog fn) []) ⟨args0 0 (.ptr 0 0 :: ds1), [.pbx [.sl rows, x1, x2] v0]⟩)
    (hI : instVs 1 (.agg [.sl rows, x1, x2] :: ds) = (.agg [.sl rows, x1, x2] :: ds1, []) := by kernel_rfl) (hb : fn.body = some (bodyOf fn) := by kernel_rfl) (hn : (fn.name == "runtime.NumGoroutine") = false := by kernel_rfl) (hl : Nat.ble (ds1.length + 1) fn.ntmps = true := by kernel_rfl) (ht : fn.ntmps = nt := by kernel_rfl) : GoodP Try.prog f [.sl rows, x1, x2] cells' ds d :=
  GoodP.of hf hb hn hI (Nat.le_of_ble_eq_true hl) fun hr v0 Γ hΓ hO => h hr v0 Γ (hΓ.trans ht) (hO rfl rfl rows rfl)
theorem gdF {f : FuncId} {fn : Func} {ds : List D} {d : D} (hf : Try.prog.funcs[f]? = some fn) (nz : List (List (Option (Nat × Nat)))) (nt : Nat) (ds1 : List D) (obs : List Ob)
    (h : (∀ x ∈ ds.map D.shV, Rdb x) → ∀ (Γ : Ctx), Γ.nt = nt → AW Try.prog Γ (bodyOf fn) (KQ Try.prog Γ (fun _ _ => False) ((Kd.q nz d).qq Try.prog fn) []) ⟨args0 0 ds1, obs⟩)
    (hI : instVs 0 ds = (ds1, obs) := by kernel_rfl) (hb : fn.body = some (bodyOf fn) := by kernel_rfl) (hn : (fn.name == "runtime.NumGoroutine") = false := by kernel_rfl) (hl : Nat.ble ds1.length fn.ntmps = true := by kernel_rfl) (ht : fn.ntmps = nt := by kernel_rfl) : GoodF Try.prog f ds d :=
  GoodF.of hf hb hn hI (Nat.le_of_ble_eq_true hl) fun hr Γ hΓ => h hr Γ (hΓ.trans ht)
theorem flat_yx (l : List Int) : D.flatRows (l.map yx) = true := by
  unfold D.flatRows
  rw [List.all_eq_true]
  intro r hr
  obtain ⟨x, _, rfl⟩ := List.mem_map.1 hr
  rfl
theorem ho_ix {α : Type} {l : List α} {i : Int} {x : α} (f : α → List D) (sz : Nat) (h : atI l i = some x) {r : List D} : sz = sz ∧ i = ((i.toNat : Nat) : Int) ∧ i.toNat < ((l.map f).set i.toNat r).length := by
  rw [List.length_set]; exact own_at f sz h
theorem ho_at {α : Type} {l : List α} {i : Int} {x : α} (f : α → List D) (r : List D) (h : atI l i = some x) : ((l.map f).set i.toNat r)[i.toNat]? = some r := List.getElem?_set_self (own_at f 0 h).2.2
theorem own_ld {rows : List (List D)} {i sz n : Nat} {r : List D} {k : RK} (hk : k.opn = true) (h : rows[i]? = some r) (hn : n ≤ sz) : sz = sz ∧ k.opn = true ∧ rows[i]? = some r ∧ n ≤ sz := ⟨rfl, hk, h, hn⟩
end Go.Cx
