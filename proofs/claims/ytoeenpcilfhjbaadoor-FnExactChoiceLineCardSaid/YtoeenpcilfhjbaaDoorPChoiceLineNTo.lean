/- What functions of the program compute, and the walks that show it. No condition. -/
import Derived.Test.YtoeenpcilfhjbaaDoorNData
namespace Go.Cx
open Go.RowKit Go.Proofs
set_option linter.unusedVariables false
set_option linter.unusedSimpArgs false
set_option maxRecDepth 100000
variable {Γ : Ctx} {N : Nat → St → Prop}
def d_laws_toStringS_L1 (a0_ : List Bytes) (k1 : List Bytes → Option (List Bytes)) : List Bytes → Nat → List Bytes → Option (List Bytes)
  | [], i1, w1_0 => (k1 (w1_0))
  | x1_ :: xs1, i1, w1_0 => (bif decide (i1 < ((w1_0).map tx).length) then (((w1_0)[i1]?).bind fun x30 => (d_laws_toStringS_L1 a0_ k1 xs1 (i1 + 1) ((w1_0).set i1 x1_))) else none)
def d_laws_toStringS (a0_ : List Bytes) : Option (List Bytes) := (bif roomM ((((a0_).map tx).length : Int)) 16 then (d_laws_toStringS_L1 a0_ (fun (q1_0 : List Bytes) => (some (q1_0))) (a0_) 0 (List.replicate ((((a0_).map tx).length : Int)).toNat ([] : Bytes))) else none)
def d_laws_toStringS_S1 (a0_ : List Bytes) (W0 : List (List D)) (ix_ : Int) : St := ⟨[(0, D.sl ((a0_).map tx)), (3, D.acc 0), (4, D.int .i64 (ix_))], [Ob.row .uq 9 1 (W0)]⟩
theorem d_laws_toStringS_L1w (hΓ : Γ.nt = 22) {a0_ : List Bytes} {r : List Bytes} {k1 : List Bytes → Option (List Bytes)} (hE1 : ∀ (q1_0 : List Bytes), k1 q1_0 = some r → Ax Γ N Tryd.f58 (.q [[some (9, 1)]] (D.fr 9 1 ((r).map tx))) [1, 1, 1] ⟨[(3, D.acc 0)], [Ob.row .uq 9 1 ((q1_0).map tx)]⟩) (hm1 : (a0_).length ≤ maxLen) : ∀ (rest : List Bytes) (i1 : Nat) (w1_0 : List Bytes), (a0_).drop i1 = rest → d_laws_toStringS_L1 a0_ k1 rest i1 w1_0 = some r → Ar Γ N Tryd.f58 (.q [[some (9, 1)]] (D.fr 9 1 ((r).map tx))) [1, 1, 0, 1, 0] (rest.length + 1) (d_laws_toStringS_S1 a0_ ((w1_0).map tx) ((i1 : Int))) := by
  intro rest
  induction rest with
  | nil =>
    intro i1 w1_0 hd1 h
    rw [d_laws_toStringS_L1] at h
    refine AWr_succ fun N1 hN1 hS1 => ?_
    exact ((pre0.ge tx hd1).a [.hl 0 [3] [0]]).ex hΓ hN1 (hE1 (w1_0) h)
  | cons x1_ xs1 ih1 =>
    intro i1 w1_0 hd1 h
    rw [d_laws_toStringS_L1] at h
    refine AWr_succ fun N1 hN1 hS1 => ?_
    obtain ⟨h29, h⟩ := den_ok h
    obtain ⟨x30, h31, h⟩ := den_bind h
    exact (((((pre0.lt tx hd1).l (map_row tx 1 (dc hd1) rfl)).i (own_ix 1 h29)).w (show ((w1_0).map tx)[i1]? = some [D.str (x30)] from map_get tx h31)).a [.row [D.str (x30)], .cn [0, 3, 4] [0]]).cs hΓ hS1 (d_laws_toStringS_S1 a0_ (((w1_0).map tx).set i1 [D.str (x1_)]) (IntKind.i64.wrap (((i1 : Int)) + (1)))) (by first | (simp only [iS hd1 hm1, mA] <;> rfl) | (simp only [iS hd1 hm1, mA, Fact.c, Pair.c, Cond.c, Action.c, Rule.c, Token.c, Match.c, Alpha.c, Node.c, Network.c, Stamp.c] <;> rfl)) (ih1 (i1 + 1) ((w1_0).set i1 x1_) (dn hd1) h)
theorem d_laws_toStringS_good {a0_ : List Bytes} {r : List Bytes} (h : d_laws_toStringS a0_ = some r) : Good Tryd.prog 58 [D.sl ((a0_).map tx)] (D.fr 9 1 ((r).map tx)) := by
  refine gd Tryd.func58 [[some (9, 1)]] 22 fun hr Γ hΓ => ?_
  rw [d_laws_toStringS] at h
  obtain ⟨h1, h⟩ := den_ok h
  refine ((pre0.w (roomM_ok h1)).a [.cn [0, 3, 4] [0]]).lps hΓ (d_laws_toStringS_S1 a0_ (List.replicate ((((a0_).map tx).length : Int)).toNat [D.str ([])]) 0) (by first | (simp only [mA] <;> rfl) | (simp only [mA, Fact.c, Pair.c, Cond.c, Action.c, Rule.c, Token.c, Match.c, Alpha.c, Node.c, Network.c, Stamp.c] <;> rfl)) (d_laws_toStringS_L1w hΓ (fun q1_0 h => ?_) (by have := (Rdb.sl (hr _ (List.mem_of_getElem? (i := 0) rfl))).1; simpa using this) (a0_) 0 (List.replicate ((((a0_).map tx).length : Int)).toNat ([] : Bytes)) rfl h)
  have h := den_some h; subst h; exact pre0.ret hΓ
def d_laws_toFact (a0_ : Fact) : Option Fact := ((d_laws_toStringS (a0_.args)).bind fun y1 => (some ((⟨a0_.rel, y1⟩ : Fact))))
theorem d_laws_toFact_good {a0_ : Fact} {r : Fact} (h : d_laws_toFact a0_ = some r) : Good Tryd.prog 44 [D.agg (Fact.c a0_)] (D.agg [D.str (r.rel), D.fr 9 1 ((r.args).map tx)]) := by
  refine gd Tryd.func44 [[none, some (9, 1)]] 12 fun hr Γ hΓ => ?_
  rw [d_laws_toFact] at h
  obtain ⟨y1, h2, h⟩ := den_bind h
  cases h; exact (pre0.g (d_laws_toStringS_good h2)).ret hΓ
def d_laws_toFactS_L1 (a0_ : List Fact) (k1 : List Fact → Option (List Fact)) : List Fact → Nat → List Fact → Option (List Fact)
  | [], i1, w1_0 => (k1 (w1_0))
  | x1_ :: xs1, i1, w1_0 => ((d_laws_toFact (x1_)).bind fun y41 => (bif decide (i1 < ((w1_0).map Fact.c).length) then (((w1_0)[i1]?).bind fun x44 => (d_laws_toFactS_L1 a0_ k1 xs1 (i1 + 1) ((w1_0).set i1 y41))) else none))
def d_laws_toFactS (a0_ : List Fact) : Option (List Fact) := (bif roomM ((((a0_).map Fact.c).length : Int)) 40 then (d_laws_toFactS_L1 a0_ (fun (q1_0 : List Fact) => (some (q1_0))) (a0_) 0 (List.replicate ((((a0_).map Fact.c).length : Int)).toNat (⟨([] : Bytes), []⟩ : Fact))) else none)
def d_laws_toFactS_S1 (a0_ : List Fact) (W0 : List (List D)) (ix_ : Int) : St := ⟨[(0, D.sl ((a0_).map Fact.c)), (3, D.acc 0), (4, D.int .i64 (ix_))], [Ob.row .uq 71 2 (W0)]⟩
theorem d_laws_toFactS_L1w (hΓ : Γ.nt = 23) {a0_ : List Fact} {r : List Fact} {k1 : List Fact → Option (List Fact)} (hE1 : ∀ (q1_0 : List Fact), k1 q1_0 = some r → Ax Γ N Tryd.f27 (.q [[some (71, 2)]] (D.fr 71 2 ((r).map Fact.c))) [1, 1, 1] ⟨[(3, D.acc 0)], [Ob.row .uq 71 2 ((q1_0).map Fact.c)]⟩) (hm1 : (a0_).length ≤ maxLen) : ∀ (rest : List Fact) (i1 : Nat) (w1_0 : List Fact), (a0_).drop i1 = rest → d_laws_toFactS_L1 a0_ k1 rest i1 w1_0 = some r → Ar Γ N Tryd.f27 (.q [[some (71, 2)]] (D.fr 71 2 ((r).map Fact.c))) [1, 1, 0, 1, 0] (rest.length + 1) (d_laws_toFactS_S1 a0_ ((w1_0).map Fact.c) ((i1 : Int))) := by
  intro rest
  induction rest with
  | nil =>
    intro i1 w1_0 hd1 h
    rw [d_laws_toFactS_L1] at h
    refine AWr_succ fun N1 hN1 hS1 => ?_
    exact ((pre0.ge Fact.c hd1).a [.hl 0 [3] [0]]).ex hΓ hN1 (hE1 (w1_0) h)
  | cons x1_ xs1 ih1 =>
    intro i1 w1_0 hd1 h
    rw [d_laws_toFactS_L1] at h
    refine AWr_succ fun N1 hN1 hS1 => ?_
    obtain ⟨y41, h42, h⟩ := den_bind h
    obtain ⟨h43, h⟩ := den_ok h
    obtain ⟨x44, h45, h⟩ := den_bind h
    exact ((((((pre0.lt Fact.c hd1).l (map_row Fact.c 2 (dc hd1) rfl)).g (d_laws_toFact_good h42)).i (own_ix 2 h43)).w (show ((w1_0).map Fact.c)[i1]? = some [D.str (x44.rel), D.sl ((x44.args).map tx)] from map_get Fact.c h45)).a [.row [D.str (x44.rel), D.sl ((x44.args).map tx)], .cn [0, 3, 4] [0]]).cs hΓ hS1 (d_laws_toFactS_S1 a0_ (((w1_0).map Fact.c).set i1 [D.str (y41.rel), D.sl ((y41.args).map tx)]) (IntKind.i64.wrap (((i1 : Int)) + (1)))) (by first | (simp only [iS hd1 hm1, mA] <;> rfl) | (simp only [iS hd1 hm1, mA, Fact.c, Pair.c, Cond.c, Action.c, Rule.c, Token.c, Match.c, Alpha.c, Node.c, Network.c, Stamp.c] <;> rfl)) (ih1 (i1 + 1) ((w1_0).set i1 y41) (dn hd1) h)
theorem d_laws_toFactS_good {a0_ : List Fact} {r : List Fact} (h : d_laws_toFactS a0_ = some r) : Good Tryd.prog 27 [D.sl ((a0_).map Fact.c)] (D.fr 71 2 ((r).map Fact.c)) := by
  refine gd Tryd.func27 [[some (71, 2)]] 23 fun hr Γ hΓ => ?_
  rw [d_laws_toFactS] at h
  obtain ⟨h1, h⟩ := den_ok h
  refine ((pre0.w (roomM_ok h1)).a [.cn [0, 3, 4] [0]]).lps hΓ (d_laws_toFactS_S1 a0_ (List.replicate ((((a0_).map Fact.c).length : Int)).toNat [D.str ([]), D.sl ([])]) 0) (by first | (simp only [mA] <;> rfl) | (simp only [mA, Fact.c, Pair.c, Cond.c, Action.c, Rule.c, Token.c, Match.c, Alpha.c, Node.c, Network.c, Stamp.c] <;> rfl)) (d_laws_toFactS_L1w hΓ (fun q1_0 h => ?_) (by have := (Rdb.sl (hr _ (List.mem_of_getElem? (i := 0) rfl))).1; simpa using this) (a0_) 0 (List.replicate ((((a0_).map Fact.c).length : Int)).toNat (⟨([] : Bytes), []⟩ : Fact)) rfl h)
  have h := den_some h; subst h; exact pre0.ret hΓ
def d_laws_toPair (a0_ : Pair) : Option Pair := (some (a0_))
theorem d_laws_toPair_good {a0_ : Pair} {r : Pair} (h : d_laws_toPair a0_ = some r) : Good Tryd.prog 45 [D.agg (Pair.c a0_)] (D.agg [D.str (r.var), D.str (r.value)]) := by
  refine gd Tryd.func45 [[none, none]] 11 fun hr Γ hΓ => ?_
  rw [d_laws_toPair] at h
  have h := den_some h; subst h; exact pre0.ret hΓ
def d_laws_toPairS_L1 (a0_ : List Pair) (k1 : List Pair → Option (List Pair)) : List Pair → Nat → List Pair → Option (List Pair)
  | [], i1, w1_0 => (k1 (w1_0))
  | x1_ :: xs1, i1, w1_0 => ((d_laws_toPair (x1_)).bind fun y41 => (bif decide (i1 < ((w1_0).map Pair.c).length) then (((w1_0)[i1]?).bind fun x44 => (d_laws_toPairS_L1 a0_ k1 xs1 (i1 + 1) ((w1_0).set i1 y41))) else none))
def d_laws_toPairS (a0_ : List Pair) : Option (List Pair) := (bif roomM ((((a0_).map Pair.c).length : Int)) 32 then (d_laws_toPairS_L1 a0_ (fun (q1_0 : List Pair) => (some (q1_0))) (a0_) 0 (List.replicate ((((a0_).map Pair.c).length : Int)).toNat (⟨([] : Bytes), ([] : Bytes)⟩ : Pair))) else none)
def d_laws_toPairS_S1 (a0_ : List Pair) (W0 : List (List D)) (ix_ : Int) : St := ⟨[(0, D.sl ((a0_).map Pair.c)), (3, D.acc 0), (4, D.int .i64 (ix_))], [Ob.row .uq 75 2 (W0)]⟩
theorem d_laws_toPairS_L1w (hΓ : Γ.nt = 23) {a0_ : List Pair} {r : List Pair} {k1 : List Pair → Option (List Pair)} (hE1 : ∀ (q1_0 : List Pair), k1 q1_0 = some r → Ax Γ N Tryd.f28 (.q [[some (75, 2)]] (D.fr 75 2 ((r).map Pair.c))) [1, 1, 1] ⟨[(3, D.acc 0)], [Ob.row .uq 75 2 ((q1_0).map Pair.c)]⟩) (hm1 : (a0_).length ≤ maxLen) : ∀ (rest : List Pair) (i1 : Nat) (w1_0 : List Pair), (a0_).drop i1 = rest → d_laws_toPairS_L1 a0_ k1 rest i1 w1_0 = some r → Ar Γ N Tryd.f28 (.q [[some (75, 2)]] (D.fr 75 2 ((r).map Pair.c))) [1, 1, 0, 1, 0] (rest.length + 1) (d_laws_toPairS_S1 a0_ ((w1_0).map Pair.c) ((i1 : Int))) := by
  intro rest
  induction rest with
  | nil =>
    intro i1 w1_0 hd1 h
    rw [d_laws_toPairS_L1] at h
    refine AWr_succ fun N1 hN1 hS1 => ?_
    exact ((pre0.ge Pair.c hd1).a [.hl 0 [3] [0]]).ex hΓ hN1 (hE1 (w1_0) h)
  | cons x1_ xs1 ih1 =>
    intro i1 w1_0 hd1 h
    rw [d_laws_toPairS_L1] at h
    refine AWr_succ fun N1 hN1 hS1 => ?_
    obtain ⟨y41, h42, h⟩ := den_bind h
    obtain ⟨h43, h⟩ := den_ok h
    obtain ⟨x44, h45, h⟩ := den_bind h
    exact ((((((pre0.lt Pair.c hd1).l (map_row Pair.c 2 (dc hd1) rfl)).g (d_laws_toPair_good h42)).i (own_ix 2 h43)).w (show ((w1_0).map Pair.c)[i1]? = some [D.str (x44.var), D.str (x44.value)] from map_get Pair.c h45)).a [.row [D.str (x44.var), D.str (x44.value)], .cn [0, 3, 4] [0]]).cs hΓ hS1 (d_laws_toPairS_S1 a0_ (((w1_0).map Pair.c).set i1 [D.str (y41.var), D.str (y41.value)]) (IntKind.i64.wrap (((i1 : Int)) + (1)))) (by first | (simp only [iS hd1 hm1, mA] <;> rfl) | (simp only [iS hd1 hm1, mA, Fact.c, Pair.c, Cond.c, Action.c, Rule.c, Token.c, Match.c, Alpha.c, Node.c, Network.c, Stamp.c] <;> rfl)) (ih1 (i1 + 1) ((w1_0).set i1 y41) (dn hd1) h)
theorem d_laws_toPairS_good {a0_ : List Pair} {r : List Pair} (h : d_laws_toPairS a0_ = some r) : Good Tryd.prog 28 [D.sl ((a0_).map Pair.c)] (D.fr 75 2 ((r).map Pair.c)) := by
  refine gd Tryd.func28 [[some (75, 2)]] 23 fun hr Γ hΓ => ?_
  rw [d_laws_toPairS] at h
  obtain ⟨h1, h⟩ := den_ok h
  refine ((pre0.w (roomM_ok h1)).a [.cn [0, 3, 4] [0]]).lps hΓ (d_laws_toPairS_S1 a0_ (List.replicate ((((a0_).map Pair.c).length : Int)).toNat [D.str ([]), D.str ([])]) 0) (by first | (simp only [mA] <;> rfl) | (simp only [mA, Fact.c, Pair.c, Cond.c, Action.c, Rule.c, Token.c, Match.c, Alpha.c, Node.c, Network.c, Stamp.c] <;> rfl)) (d_laws_toPairS_L1w hΓ (fun q1_0 h => ?_) (by have := (Rdb.sl (hr _ (List.mem_of_getElem? (i := 0) rfl))).1; simpa using this) (a0_) 0 (List.replicate ((((a0_).map Pair.c).length : Int)).toNat (⟨([] : Bytes), ([] : Bytes)⟩ : Pair)) rfl h)
  have h := den_some h; subst h; exact pre0.ret hΓ
def d_laws_toMatch (a0_ : Match) : Option Match := ((d_laws_toFactS (a0_.facts)).bind fun y1 => ((d_laws_toPairS (a0_.bind)).bind fun y3 => (some ((⟨a0_.rule, y1, y3⟩ : Match)))))
theorem d_laws_toMatch_good {a0_ : Match} {r : Match} (h : d_laws_toMatch a0_ = some r) : Good Tryd.prog 15 [D.agg (Match.c a0_)] (D.agg [D.str (r.rule), D.fr 71 2 ((r.facts).map Fact.c), D.fr 75 2 ((r.bind).map Pair.c)]) := by
  refine gd Tryd.func15 [[none, some (71, 2), some (75, 2)]] 16 fun hr Γ hΓ => ?_
  rw [d_laws_toMatch] at h
  obtain ⟨y1, h2, h⟩ := den_bind h
  obtain ⟨y3, h4, h⟩ := den_bind h
  cases h; exact ((pre0.g (d_laws_toFactS_good h2)).g (d_laws_toPairS_good h4)).ret hΓ
def d_laws_toIntS_L1 (a0_ : List Int) (k1 : List Int → Option (List Int)) : List Int → Nat → List Int → Option (List Int)
  | [], i1, w1_0 => (k1 (w1_0))
  | x1_ :: xs1, i1, w1_0 => (bif decide (i1 < ((w1_0).map ixx).length) then (((w1_0)[i1]?).bind fun x30 => (d_laws_toIntS_L1 a0_ k1 xs1 (i1 + 1) ((w1_0).set i1 x1_))) else none)
def d_laws_toIntS (a0_ : List Int) : Option (List Int) := (bif roomM ((((a0_).map ixx).length : Int)) 8 then (d_laws_toIntS_L1 a0_ (fun (q1_0 : List Int) => (some (q1_0))) (a0_) 0 (List.replicate ((((a0_).map ixx).length : Int)).toNat (0 : Int))) else none)
def d_laws_toIntS_S1 (a0_ : List Int) (W0 : List (List D)) (ix_ : Int) : St := ⟨[(0, D.sl ((a0_).map ixx)), (3, D.acc 0), (4, D.int .i64 (ix_))], [Ob.row .uq 3 1 (W0)]⟩
theorem d_laws_toIntS_L1w (hΓ : Γ.nt = 22) {a0_ : List Int} {r : List Int} {k1 : List Int → Option (List Int)} (hE1 : ∀ (q1_0 : List Int), k1 q1_0 = some r → Ax Γ N Tryd.f16 (.q [[some (3, 1)]] (D.fr 3 1 ((r).map ixx))) [1, 1, 1] ⟨[(3, D.acc 0)], [Ob.row .uq 3 1 ((q1_0).map ixx)]⟩) (hm1 : (a0_).length ≤ maxLen) : ∀ (rest : List Int) (i1 : Nat) (w1_0 : List Int), (a0_).drop i1 = rest → d_laws_toIntS_L1 a0_ k1 rest i1 w1_0 = some r → Ar Γ N Tryd.f16 (.q [[some (3, 1)]] (D.fr 3 1 ((r).map ixx))) [1, 1, 0, 1, 0] (rest.length + 1) (d_laws_toIntS_S1 a0_ ((w1_0).map ixx) ((i1 : Int))) := by
  intro rest
  induction rest with
  | nil =>
    intro i1 w1_0 hd1 h
    rw [d_laws_toIntS_L1] at h
    refine AWr_succ fun N1 hN1 hS1 => ?_
    exact ((pre0.ge ixx hd1).a [.hl 0 [3] [0]]).ex hΓ hN1 (hE1 (w1_0) h)
  | cons x1_ xs1 ih1 =>
    intro i1 w1_0 hd1 h
    rw [d_laws_toIntS_L1] at h
    refine AWr_succ fun N1 hN1 hS1 => ?_
    obtain ⟨h29, h⟩ := den_ok h
    obtain ⟨x30, h31, h⟩ := den_bind h
    exact (((((pre0.lt ixx hd1).l (map_row ixx 1 (dc hd1) rfl)).i (own_ix 1 h29)).w (show ((w1_0).map ixx)[i1]? = some [D.int .i64 (x30)] from map_get ixx h31)).a [.row [D.int .i64 (x30)], .cn [0, 3, 4] [0]]).cs hΓ hS1 (d_laws_toIntS_S1 a0_ (((w1_0).map ixx).set i1 [D.int .i64 (x1_)]) (IntKind.i64.wrap (((i1 : Int)) + (1)))) (by first | (simp only [iS hd1 hm1, mA] <;> rfl) | (simp only [iS hd1 hm1, mA, Fact.c, Pair.c, Cond.c, Action.c, Rule.c, Token.c, Match.c, Alpha.c, Node.c, Network.c, Stamp.c] <;> rfl)) (ih1 (i1 + 1) ((w1_0).set i1 x1_) (dn hd1) h)
theorem d_laws_toIntS_good {a0_ : List Int} {r : List Int} (h : d_laws_toIntS a0_ = some r) : Good Tryd.prog 16 [D.sl ((a0_).map ixx)] (D.fr 3 1 ((r).map ixx)) := by
  refine gd Tryd.func16 [[some (3, 1)]] 22 fun hr Γ hΓ => ?_
  rw [d_laws_toIntS] at h
  obtain ⟨h1, h⟩ := den_ok h
  refine ((pre0.w (roomM_ok h1)).a [.cn [0, 3, 4] [0]]).lps hΓ (d_laws_toIntS_S1 a0_ (List.replicate ((((a0_).map ixx).length : Int)).toNat [D.int .i64 (0)]) 0) (by first | (simp only [mA] <;> rfl) | (simp only [mA, Fact.c, Pair.c, Cond.c, Action.c, Rule.c, Token.c, Match.c, Alpha.c, Node.c, Network.c, Stamp.c] <;> rfl)) (d_laws_toIntS_L1w hΓ (fun q1_0 h => ?_) (by have := (Rdb.sl (hr _ (List.mem_of_getElem? (i := 0) rfl))).1; simpa using this) (a0_) 0 (List.replicate ((((a0_).map ixx).length : Int)).toNat (0 : Int)) rfl h)
  have h := den_some h; subst h; exact pre0.ret hΓ
def d_laws_toChoice (a0_ : Choice) : Option Choice := ((d_laws_toMatch (a0_.mtch)).bind fun y1 => ((d_laws_toIntS (a0_.times)).bind fun y3 => (some ((⟨y1, a0_.prio, y3, a0_.spec, a0_.order⟩ : Choice)))))
theorem d_laws_toChoice_good {a0_ : Choice} {r : Choice} (h : d_laws_toChoice a0_ = some r) : Good Tryd.prog 6 [D.agg (Choice.c a0_)] (D.agg [D.str (r.mtch.rule), D.fr 71 2 ((r.mtch.facts).map Fact.c), D.fr 75 2 ((r.mtch.bind).map Pair.c), D.int .i64 (r.prio), D.fr 3 1 ((r.times).map ixx), D.int .i64 (r.spec), D.int .i64 (r.order)]) := by
  refine gd Tryd.func6 [[none, some (71, 2), some (75, 2), none, some (3, 1), none, none]] 22 fun hr Γ hΓ => ?_
  rw [d_laws_toChoice] at h
  obtain ⟨y1, h2, h⟩ := den_bind h
  obtain ⟨y3, h4, h⟩ := den_bind h
  cases h; exact ((pre0.g (d_laws_toMatch_good h2)).g (d_laws_toIntS_good h4)).ret hΓ
end Go.Cx
