/- What functions of the program compute, and the walks that show it. No condition. -/
import Derived.Test.YteddjemiikgheaaGreatDoorNData
namespace Go.Cx
open Go.RowKit Go.Proofs
set_option linter.unusedVariables false
set_option linter.unusedSimpArgs false
set_option maxRecDepth 100000
variable {Γ : Ctx} {N : Nat → St → Prop}
def d_laws_toStringS_L1 (a0_ : List Bytes) (k1 : List Bytes → Option (List Bytes)) : List Bytes → Nat → List Bytes → Option (List Bytes)
  | [], i1, w1_0 => (k1 (w1_0))
  | x1_ :: xs1, i1, w1_0 => (bif decide (i1 < ((w1_0).map tx).length) then (((w1_0)[i1]?).bind fun x30 => (d_laws_toStringS_L1 a0_ k1 xs1 (i1 + 1) ((w1_0).set i1 x1_))) else none)
def d_laws_toStringS (a0_ : List Bytes) : Option (List Bytes) := (bif roomM ((((a0_).map tx).length : Int)) 16 then (d_laws_toStringS_L1 a0_ (fun (q1_0 : List Bytes) => (some (q1_0))) (a0_) 0 (List.replicate ((((a0_).map tx).length : Int)).toNat ([] : Bytes))) else none)
def d_laws_toStringS_S1 (a0_ : List Bytes) (W0 : List (List D)) (ix_ : Int) : St := ⟨[(0, D.sl ((a0_).map tx)), (3, D.acc 0), (4, D.int .i64 (ix_))], [Ob.row .uq 9 1 (W0)]⟩
theorem d_laws_toStringS_L1w (hΓ : Γ.nt = 22) {a0_ : List Bytes} {r : List Bytes} {k1 : List Bytes → Option (List Bytes)} (hE1 : ∀ (q1_0 : List Bytes), k1 q1_0 = some r → Ax Γ N Tryz.f182 (.q [[some (9, 1)]] (D.fr 9 1 ((r).map tx))) [1, 1, 1] ⟨[(3, D.acc 0)], [Ob.row .uq 9 1 ((q1_0).map tx)]⟩) (hm1 : (a0_).length ≤ maxLen) : ∀ (rest : List Bytes) (i1 : Nat) (w1_0 : List Bytes), (a0_).drop i1 = rest → d_laws_toStringS_L1 a0_ k1 rest i1 w1_0 = some r → Ar Γ N Tryz.f182 (.q [[some (9, 1)]] (D.fr 9 1 ((r).map tx))) [1, 1, 0, 1, 0] (rest.length + 1) (d_laws_toStringS_S1 a0_ ((w1_0).map tx) ((i1 : Int))) := by
  intro rest
  induction rest with
  | nil =>
    intro i1 w1_0 hd1 h
    rw [d_laws_toStringS_L1] at h
    refine AWr_succ fun N1 hN1 hS1 => ?_
    exact ((pre0.ge tx hd1).a [.hl 0 [3] [0]]).ex hΓ hN1 (hE1 (w1_0) h)
  | cons x1_ xs1 ih1 =>
    intro i1 w1_0 hd1 h
    rw [d_laws_toStringS_L1] at h
    refine AWr_succ fun N1 hN1 hS1 => ?_
    obtain ⟨h29, h⟩ := den_ok h
    obtain ⟨x30, h31, h⟩ := den_bind h
    exact (((((pre0.lt tx hd1).l (map_row tx 1 (dc hd1) rfl)).i (own_ix 1 h29)).w (show ((w1_0).map tx)[i1]? = some [D.str (x30)] from map_get tx h31)).a [.row [D.str (x30)], .cn [0, 3, 4] [0]]).cs hΓ hS1 (d_laws_toStringS_S1 a0_ (((w1_0).map tx).set i1 [D.str (x1_)]) (IntKind.i64.wrap (((i1 : Int)) + (1)))) (by first | (simp only [iS hd1 hm1, mA] <;> rfl) | (simp only [iS hd1 hm1, mA, Fact.c, Pair.c, Cond.c, Action.c, Rule.c, Token.c, Match.c, Alpha.c, Node.c, Network.c, Stamp.c] <;> rfl)) (ih1 (i1 + 1) ((w1_0).set i1 x1_) (dn hd1) h)
theorem d_laws_toStringS_good {a0_ : List Bytes} {r : List Bytes} (h : d_laws_toStringS a0_ = some r) : Good Tryz.prog 182 [D.sl ((a0_).map tx)] (D.fr 9 1 ((r).map tx)) := by
  refine gd Tryz.func182 [[some (9, 1)]] 22 fun hr Γ hΓ => ?_
  rw [d_laws_toStringS] at h
  obtain ⟨h1, h⟩ := den_ok h
  refine ((pre0.w (roomM_ok h1)).a [.cn [0, 3, 4] [0]]).lps hΓ (d_laws_toStringS_S1 a0_ (List.replicate ((((a0_).map tx).length : Int)).toNat [D.str ([])]) 0) (by first | (simp only [mA] <;> rfl) | (simp only [mA, Fact.c, Pair.c, Cond.c, Action.c, Rule.c, Token.c, Match.c, Alpha.c, Node.c, Network.c, Stamp.c] <;> rfl)) (d_laws_toStringS_L1w hΓ (fun q1_0 h => ?_) (by have := (Rdb.sl (hr _ (List.mem_of_getElem? (i := 0) rfl))).1; simpa using this) (a0_) 0 (List.replicate ((((a0_).map tx).length : Int)).toNat ([] : Bytes)) rfl h)
  have h := den_some h; subst h; exact pre0.ret hΓ
def d_laws_toPattern (a0_ : Fact) : Option Fact := ((d_laws_toStringS (a0_.args)).bind fun y1 => (some ((⟨a0_.rel, y1⟩ : Fact))))
theorem d_laws_toPattern_good {a0_ : Fact} {r : Fact} (h : d_laws_toPattern a0_ = some r) : Good Tryz.prog 165 [D.agg (Fact.c a0_)] (D.agg [D.str (r.rel), D.fr 9 1 ((r.args).map tx)]) := by
  refine gd Tryz.func165 [[none, some (9, 1)]] 12 fun hr Γ hΓ => ?_
  rw [d_laws_toPattern] at h
  obtain ⟨y1, h2, h⟩ := den_bind h
  cases h; exact (pre0.g (d_laws_toStringS_good h2)).ret hΓ
def d_laws_toCond (a0_ : Cond) : Option Cond := ((d_laws_toPattern (a0_.pat)).bind fun y1 => (some ((⟨a0_.kind, y1, a0_.left, a0_.right⟩ : Cond))))
theorem d_laws_toCond_good {a0_ : Cond} {r : Cond} (h : d_laws_toCond a0_ = some r) : Good Tryz.prog 128 [D.agg (Cond.c a0_)] (D.agg [D.int .i64 (r.kind), D.str (r.pat.rel), D.fr 9 1 ((r.pat.args).map tx), D.str (r.left), D.str (r.right)]) := by
  refine gd Tryz.func128 [[none, none, some (9, 1), none, none]] 18 fun hr Γ hΓ => ?_
  rw [d_laws_toCond] at h
  obtain ⟨y1, h2, h⟩ := den_bind h
  cases h; exact (pre0.g (d_laws_toPattern_good h2)).ret hΓ
def d_laws_toCondS_L1 (a0_ : List Cond) (k1 : List Cond → Option (List Cond)) : List Cond → Nat → List Cond → Option (List Cond)
  | [], i1, w1_0 => (k1 (w1_0))
  | x1_ :: xs1, i1, w1_0 => ((d_laws_toCond (x1_)).bind fun y41 => (bif decide (i1 < ((w1_0).map Cond.c).length) then (((w1_0)[i1]?).bind fun x44 => (d_laws_toCondS_L1 a0_ k1 xs1 (i1 + 1) ((w1_0).set i1 y41))) else none))
def d_laws_toCondS (a0_ : List Cond) : Option (List Cond) := (bif roomM ((((a0_).map Cond.c).length : Int)) 80 then (d_laws_toCondS_L1 a0_ (fun (q1_0 : List Cond) => (some (q1_0))) (a0_) 0 (List.replicate ((((a0_).map Cond.c).length : Int)).toNat (⟨(0 : Int), (⟨([] : Bytes), []⟩ : Fact), ([] : Bytes), ([] : Bytes)⟩ : Cond))) else none)
def d_laws_toCondS_S1 (a0_ : List Cond) (W0 : List (List D)) (ix_ : Int) : St := ⟨[(0, D.sl ((a0_).map Cond.c)), (3, D.acc 0), (4, D.int .i64 (ix_))], [Ob.row .uq 73 5 (W0)]⟩
theorem d_laws_toCondS_L1w (hΓ : Γ.nt = 23) {a0_ : List Cond} {r : List Cond} {k1 : List Cond → Option (List Cond)} (hE1 : ∀ (q1_0 : List Cond), k1 q1_0 = some r → Ax Γ N Tryz.f78 (.q [[some (73, 5)]] (D.fr 73 5 ((r).map Cond.c))) [1, 1, 1] ⟨[(3, D.acc 0)], [Ob.row .uq 73 5 ((q1_0).map Cond.c)]⟩) (hm1 : (a0_).length ≤ maxLen) : ∀ (rest : List Cond) (i1 : Nat) (w1_0 : List Cond), (a0_).drop i1 = rest → d_laws_toCondS_L1 a0_ k1 rest i1 w1_0 = some r → Ar Γ N Tryz.f78 (.q [[some (73, 5)]] (D.fr 73 5 ((r).map Cond.c))) [1, 1, 0, 1, 0] (rest.length + 1) (d_laws_toCondS_S1 a0_ ((w1_0).map Cond.c) ((i1 : Int))) := by
  intro rest
  induction rest with
  | nil =>
    intro i1 w1_0 hd1 h
    rw [d_laws_toCondS_L1] at h
    refine AWr_succ fun N1 hN1 hS1 => ?_
    exact ((pre0.ge Cond.c hd1).a [.hl 0 [3] [0]]).ex hΓ hN1 (hE1 (w1_0) h)
  | cons x1_ xs1 ih1 =>
    intro i1 w1_0 hd1 h
    rw [d_laws_toCondS_L1] at h
    refine AWr_succ fun N1 hN1 hS1 => ?_
    obtain ⟨y41, h42, h⟩ := den_bind h
    obtain ⟨h43, h⟩ := den_ok h
    obtain ⟨x44, h45, h⟩ := den_bind h
    exact ((((((pre0.lt Cond.c hd1).l (map_row Cond.c 5 (dc hd1) rfl)).g (d_laws_toCond_good h42)).i (own_ix 5 h43)).w (show ((w1_0).map Cond.c)[i1]? = some [D.int .i64 (x44.kind), D.str (x44.pat.rel), D.sl ((x44.pat.args).map tx), D.str (x44.left), D.str (x44.right)] from map_get Cond.c h45)).a [.row [D.int .i64 (x44.kind), D.str (x44.pat.rel), D.sl ((x44.pat.args).map tx), D.str (x44.left), D.str (x44.right)], .cn [0, 3, 4] [0]]).cs hΓ hS1 (d_laws_toCondS_S1 a0_ (((w1_0).map Cond.c).set i1 [D.int .i64 (y41.kind), D.str (y41.pat.rel), D.sl ((y41.pat.args).map tx), D.str (y41.left), D.str (y41.right)]) (IntKind.i64.wrap (((i1 : Int)) + (1)))) (by first | (simp only [iS hd1 hm1, mA] <;> rfl) | (simp only [iS hd1 hm1, mA, Fact.c, Pair.c, Cond.c, Action.c, Rule.c, Token.c, Match.c, Alpha.c, Node.c, Network.c, Stamp.c] <;> rfl)) (ih1 (i1 + 1) ((w1_0).set i1 y41) (dn hd1) h)
theorem d_laws_toCondS_good {a0_ : List Cond} {r : List Cond} (h : d_laws_toCondS a0_ = some r) : Good Tryz.prog 78 [D.sl ((a0_).map Cond.c)] (D.fr 73 5 ((r).map Cond.c)) := by
  refine gd Tryz.func78 [[some (73, 5)]] 23 fun hr Γ hΓ => ?_
  rw [d_laws_toCondS] at h
  obtain ⟨h1, h⟩ := den_ok h
  refine ((pre0.w (roomM_ok h1)).a [.cn [0, 3, 4] [0]]).lps hΓ (d_laws_toCondS_S1 a0_ (List.replicate ((((a0_).map Cond.c).length : Int)).toNat [D.int .i64 (0), D.str ([]), D.sl ([]), D.str ([]), D.str ([])]) 0) (by first | (simp only [mA] <;> rfl) | (simp only [mA, Fact.c, Pair.c, Cond.c, Action.c, Rule.c, Token.c, Match.c, Alpha.c, Node.c, Network.c, Stamp.c] <;> rfl)) (d_laws_toCondS_L1w hΓ (fun q1_0 h => ?_) (by have := (Rdb.sl (hr _ (List.mem_of_getElem? (i := 0) rfl))).1; simpa using this) (a0_) 0 (List.replicate ((((a0_).map Cond.c).length : Int)).toNat (⟨(0 : Int), (⟨([] : Bytes), []⟩ : Fact), ([] : Bytes), ([] : Bytes)⟩ : Cond)) rfl h)
  have h := den_some h; subst h; exact pre0.ret hΓ
def d_laws_toAction (a0_ : Action) : Option Action := ((d_laws_toPattern (a0_.pat)).bind fun y1 => (some ((⟨a0_.kind, y1⟩ : Action))))
theorem d_laws_toAction_good {a0_ : Action} {r : Action} (h : d_laws_toAction a0_ = some r) : Good Tryz.prog 129 [D.agg (Action.c a0_)] (D.agg [D.int .i64 (r.kind), D.str (r.pat.rel), D.fr 9 1 ((r.pat.args).map tx)]) := by
  refine gd Tryz.func129 [[none, none, some (9, 1)]] 12 fun hr Γ hΓ => ?_
  rw [d_laws_toAction] at h
  obtain ⟨y1, h2, h⟩ := den_bind h
  cases h; exact (pre0.g (d_laws_toPattern_good h2)).ret hΓ
def d_laws_toActionS_L1 (a0_ : List Action) (k1 : List Action → Option (List Action)) : List Action → Nat → List Action → Option (List Action)
  | [], i1, w1_0 => (k1 (w1_0))
  | x1_ :: xs1, i1, w1_0 => ((d_laws_toAction (x1_)).bind fun y41 => (bif decide (i1 < ((w1_0).map Action.c).length) then (((w1_0)[i1]?).bind fun x44 => (d_laws_toActionS_L1 a0_ k1 xs1 (i1 + 1) ((w1_0).set i1 y41))) else none))
def d_laws_toActionS (a0_ : List Action) : Option (List Action) := (bif roomM ((((a0_).map Action.c).length : Int)) 48 then (d_laws_toActionS_L1 a0_ (fun (q1_0 : List Action) => (some (q1_0))) (a0_) 0 (List.replicate ((((a0_).map Action.c).length : Int)).toNat (⟨(0 : Int), (⟨([] : Bytes), []⟩ : Fact)⟩ : Action))) else none)
def d_laws_toActionS_S1 (a0_ : List Action) (W0 : List (List D)) (ix_ : Int) : St := ⟨[(0, D.sl ((a0_).map Action.c)), (3, D.acc 0), (4, D.int .i64 (ix_))], [Ob.row .uq 100 3 (W0)]⟩
theorem d_laws_toActionS_L1w (hΓ : Γ.nt = 23) {a0_ : List Action} {r : List Action} {k1 : List Action → Option (List Action)} (hE1 : ∀ (q1_0 : List Action), k1 q1_0 = some r → Ax Γ N Tryz.f79 (.q [[some (100, 3)]] (D.fr 100 3 ((r).map Action.c))) [1, 1, 1] ⟨[(3, D.acc 0)], [Ob.row .uq 100 3 ((q1_0).map Action.c)]⟩) (hm1 : (a0_).length ≤ maxLen) : ∀ (rest : List Action) (i1 : Nat) (w1_0 : List Action), (a0_).drop i1 = rest → d_laws_toActionS_L1 a0_ k1 rest i1 w1_0 = some r → Ar Γ N Tryz.f79 (.q [[some (100, 3)]] (D.fr 100 3 ((r).map Action.c))) [1, 1, 0, 1, 0] (rest.length + 1) (d_laws_toActionS_S1 a0_ ((w1_0).map Action.c) ((i1 : Int))) := by
  intro rest
  induction rest with
  | nil =>
    intro i1 w1_0 hd1 h
    rw [d_laws_toActionS_L1] at h
    refine AWr_succ fun N1 hN1 hS1 => ?_
    exact ((pre0.ge Action.c hd1).a [.hl 0 [3] [0]]).ex hΓ hN1 (hE1 (w1_0) h)
  | cons x1_ xs1 ih1 =>
    intro i1 w1_0 hd1 h
    rw [d_laws_toActionS_L1] at h
    refine AWr_succ fun N1 hN1 hS1 => ?_
    obtain ⟨y41, h42, h⟩ := den_bind h
    obtain ⟨h43, h⟩ := den_ok h
    obtain ⟨x44, h45, h⟩ := den_bind h
    exact ((((((pre0.lt Action.c hd1).l (map_row Action.c 3 (dc hd1) rfl)).g (d_laws_toAction_good h42)).i (own_ix 3 h43)).w (show ((w1_0).map Action.c)[i1]? = some [D.int .i64 (x44.kind), D.str (x44.pat.rel), D.sl ((x44.pat.args).map tx)] from map_get Action.c h45)).a [.row [D.int .i64 (x44.kind), D.str (x44.pat.rel), D.sl ((x44.pat.args).map tx)], .cn [0, 3, 4] [0]]).cs hΓ hS1 (d_laws_toActionS_S1 a0_ (((w1_0).map Action.c).set i1 [D.int .i64 (y41.kind), D.str (y41.pat.rel), D.sl ((y41.pat.args).map tx)]) (IntKind.i64.wrap (((i1 : Int)) + (1)))) (by first | (simp only [iS hd1 hm1, mA] <;> rfl) | (simp only [iS hd1 hm1, mA, Fact.c, Pair.c, Cond.c, Action.c, Rule.c, Token.c, Match.c, Alpha.c, Node.c, Network.c, Stamp.c] <;> rfl)) (ih1 (i1 + 1) ((w1_0).set i1 y41) (dn hd1) h)
theorem d_laws_toActionS_good {a0_ : List Action} {r : List Action} (h : d_laws_toActionS a0_ = some r) : Good Tryz.prog 79 [D.sl ((a0_).map Action.c)] (D.fr 100 3 ((r).map Action.c)) := by
  refine gd Tryz.func79 [[some (100, 3)]] 23 fun hr Γ hΓ => ?_
  rw [d_laws_toActionS] at h
  obtain ⟨h1, h⟩ := den_ok h
  refine ((pre0.w (roomM_ok h1)).a [.cn [0, 3, 4] [0]]).lps hΓ (d_laws_toActionS_S1 a0_ (List.replicate ((((a0_).map Action.c).length : Int)).toNat [D.int .i64 (0), D.str ([]), D.sl ([])]) 0) (by first | (simp only [mA] <;> rfl) | (simp only [mA, Fact.c, Pair.c, Cond.c, Action.c, Rule.c, Token.c, Match.c, Alpha.c, Node.c, Network.c, Stamp.c] <;> rfl)) (d_laws_toActionS_L1w hΓ (fun q1_0 h => ?_) (by have := (Rdb.sl (hr _ (List.mem_of_getElem? (i := 0) rfl))).1; simpa using this) (a0_) 0 (List.replicate ((((a0_).map Action.c).length : Int)).toNat (⟨(0 : Int), (⟨([] : Bytes), []⟩ : Fact)⟩ : Action)) rfl h)
  have h := den_some h; subst h; exact pre0.ret hΓ
def d_laws_toRule (a0_ : Rule) : Option Rule := ((d_laws_toCondS (a0_.conds)).bind fun y1 => ((d_laws_toActionS (a0_.acts)).bind fun y3 => (some ((⟨a0_.name, a0_.prio, y1, y3⟩ : Rule)))))
theorem d_laws_toRule_good {a0_ : Rule} {r : Rule} (h : d_laws_toRule a0_ = some r) : Good Tryz.prog 30 [D.agg (Rule.c a0_)] (D.agg [D.str (r.name), D.int .i64 (r.prio), D.fr 73 5 ((r.conds).map Cond.c), D.fr 100 3 ((r.acts).map Action.c)]) := by
  refine gd Tryz.func30 [[none, none, some (73, 5), some (100, 3)]] 19 fun hr Γ hΓ => ?_
  rw [d_laws_toRule] at h
  obtain ⟨y1, h2, h⟩ := den_bind h
  obtain ⟨y3, h4, h⟩ := den_bind h
  cases h; exact ((pre0.g (d_laws_toCondS_good h2)).g (d_laws_toActionS_good h4)).ret hΓ
def d_laws_toRuleS_L1 (a0_ : List Rule) (k1 : List Rule → Option (List Rule)) : List Rule → Nat → List Rule → Option (List Rule)
  | [], i1, w1_0 => (k1 (w1_0))
  | x1_ :: xs1, i1, w1_0 => ((d_laws_toRule (x1_)).bind fun y41 => (bif decide (i1 < ((w1_0).map Rule.c).length) then (((w1_0)[i1]?).bind fun x44 => (d_laws_toRuleS_L1 a0_ k1 xs1 (i1 + 1) ((w1_0).set i1 y41))) else none))
def d_laws_toRuleS (a0_ : List Rule) : Option (List Rule) := (bif roomM ((((a0_).map Rule.c).length : Int)) 72 then (d_laws_toRuleS_L1 a0_ (fun (q1_0 : List Rule) => (some (q1_0))) (a0_) 0 (List.replicate ((((a0_).map Rule.c).length : Int)).toNat (⟨([] : Bytes), (0 : Int), [], []⟩ : Rule))) else none)
def d_laws_toRuleS_S1 (a0_ : List Rule) (W0 : List (List D)) (ix_ : Int) : St := ⟨[(0, D.sl ((a0_).map Rule.c)), (3, D.acc 0), (4, D.int .i64 (ix_))], [Ob.row .uq 31 4 (W0)]⟩
theorem d_laws_toRuleS_L1w (hΓ : Γ.nt = 23) {a0_ : List Rule} {r : List Rule} {k1 : List Rule → Option (List Rule)} (hE1 : ∀ (q1_0 : List Rule), k1 q1_0 = some r → Ax Γ N Tryz.f13 (.q [[some (31, 4)]] (D.fr 31 4 ((r).map Rule.c))) [1, 1, 1] ⟨[(3, D.acc 0)], [Ob.row .uq 31 4 ((q1_0).map Rule.c)]⟩) (hm1 : (a0_).length ≤ maxLen) : ∀ (rest : List Rule) (i1 : Nat) (w1_0 : List Rule), (a0_).drop i1 = rest → d_laws_toRuleS_L1 a0_ k1 rest i1 w1_0 = some r → Ar Γ N Tryz.f13 (.q [[some (31, 4)]] (D.fr 31 4 ((r).map Rule.c))) [1, 1, 0, 1, 0] (rest.length + 1) (d_laws_toRuleS_S1 a0_ ((w1_0).map Rule.c) ((i1 : Int))) := by
  intro rest
  induction rest with
  | nil =>
    intro i1 w1_0 hd1 h
    rw [d_laws_toRuleS_L1] at h
    refine AWr_succ fun N1 hN1 hS1 => ?_
    exact ((pre0.ge Rule.c hd1).a [.hl 0 [3] [0]]).ex hΓ hN1 (hE1 (w1_0) h)
  | cons x1_ xs1 ih1 =>
    intro i1 w1_0 hd1 h
    rw [d_laws_toRuleS_L1] at h
    refine AWr_succ fun N1 hN1 hS1 => ?_
    obtain ⟨y41, h42, h⟩ := den_bind h
    obtain ⟨h43, h⟩ := den_ok h
    obtain ⟨x44, h45, h⟩ := den_bind h
    exact ((((((pre0.lt Rule.c hd1).l (map_row Rule.c 4 (dc hd1) rfl)).g (d_laws_toRule_good h42)).i (own_ix 4 h43)).w (show ((w1_0).map Rule.c)[i1]? = some [D.str (x44.name), D.int .i64 (x44.prio), D.sl ((x44.conds).map Cond.c), D.sl ((x44.acts).map Action.c)] from map_get Rule.c h45)).a [.row [D.str (x44.name), D.int .i64 (x44.prio), D.sl ((x44.conds).map Cond.c), D.sl ((x44.acts).map Action.c)], .cn [0, 3, 4] [0]]).cs hΓ hS1 (d_laws_toRuleS_S1 a0_ (((w1_0).map Rule.c).set i1 [D.str (y41.name), D.int .i64 (y41.prio), D.sl ((y41.conds).map Cond.c), D.sl ((y41.acts).map Action.c)]) (IntKind.i64.wrap (((i1 : Int)) + (1)))) (by first | (simp only [iS hd1 hm1, mA] <;> rfl) | (simp only [iS hd1 hm1, mA, Fact.c, Pair.c, Cond.c, Action.c, Rule.c, Token.c, Match.c, Alpha.c, Node.c, Network.c, Stamp.c] <;> rfl)) (ih1 (i1 + 1) ((w1_0).set i1 y41) (dn hd1) h)
theorem d_laws_toRuleS_good {a0_ : List Rule} {r : List Rule} (h : d_laws_toRuleS a0_ = some r) : Good Tryz.prog 13 [D.sl ((a0_).map Rule.c)] (D.fr 31 4 ((r).map Rule.c)) := by
  refine gd Tryz.func13 [[some (31, 4)]] 23 fun hr Γ hΓ => ?_
  rw [d_laws_toRuleS] at h
  obtain ⟨h1, h⟩ := den_ok h
  refine ((pre0.w (roomM_ok h1)).a [.cn [0, 3, 4] [0]]).lps hΓ (d_laws_toRuleS_S1 a0_ (List.replicate ((((a0_).map Rule.c).length : Int)).toNat [D.str ([]), D.int .i64 (0), D.sl ([]), D.sl ([])]) 0) (by first | (simp only [mA] <;> rfl) | (simp only [mA, Fact.c, Pair.c, Cond.c, Action.c, Rule.c, Token.c, Match.c, Alpha.c, Node.c, Network.c, Stamp.c] <;> rfl)) (d_laws_toRuleS_L1w hΓ (fun q1_0 h => ?_) (by have := (Rdb.sl (hr _ (List.mem_of_getElem? (i := 0) rfl))).1; simpa using this) (a0_) 0 (List.replicate ((((a0_).map Rule.c).length : Int)).toNat (⟨([] : Bytes), (0 : Int), [], []⟩ : Rule)) rfl h)
  have h := den_some h; subst h; exact pre0.ret hΓ
end Go.Cx
