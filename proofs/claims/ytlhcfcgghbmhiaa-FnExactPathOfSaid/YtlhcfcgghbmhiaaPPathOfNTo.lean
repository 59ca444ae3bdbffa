/- What functions of the program compute, and the walks that show it. No condition. -/
import Derived.Test.YtlhcfcgghbmhiaaNData
namespace Go.Cx
open Go.RowKit Go.Proofs
set_option linter.unusedVariables false
set_option linter.unusedSimpArgs false
set_option maxRecDepth 100000
variable {Γ : Ctx} {N : Nat → St → Prop}
def d_laws_toIntS_L1 (a0_ : List Int) (k1 : List Int → Option (List Int)) : List Int → Nat → List Int → Option (List Int)
  | [], i1, w1_0 => (k1 (w1_0))
  | x1_ :: xs1, i1, w1_0 => (bif decide (i1 < ((w1_0).map ixx).length) then (((w1_0)[i1]?).bind fun x30 => (d_laws_toIntS_L1 a0_ k1 xs1 (i1 + 1) ((w1_0).set i1 x1_))) else none)
def d_laws_toIntS (a0_ : List Int) : Option (List Int) := (bif roomM ((((a0_).map ixx).length : Int)) 8 then (d_laws_toIntS_L1 a0_ (fun (q1_0 : List Int) => (some (q1_0))) (a0_) 0 (List.replicate ((((a0_).map ixx).length : Int)).toNat (0 : Int))) else none)
def d_laws_toIntS_S1 (a0_ : List Int) (W0 : List (List D)) (ix_ : Int) : St := ⟨[(0, D.sl ((a0_).map ixx)), (3, D.acc 0), (4, D.int .i64 (ix_))], [Ob.row .uq 3 1 (W0)]⟩
theorem d_laws_toIntS_L1w (hΓ : Γ.nt = 22) {a0_ : List Int} {r : List Int} {k1 : List Int → Option (List Int)} (hE1 : ∀ (q1_0 : List Int), k1 q1_0 = some r → Ax Γ N Try.f10 (.q [[some (3, 1)]] (D.fr 3 1 ((r).map ixx))) [1, 1, 1] ⟨[(3, D.acc 0)], [Ob.row .uq 3 1 ((q1_0).map ixx)]⟩) (hm1 : (a0_).length ≤ maxLen) : ∀ (rest : List Int) (i1 : Nat) (w1_0 : List Int), (a0_).drop i1 = rest → d_laws_toIntS_L1 a0_ k1 rest i1 w1_0 = some r → Ar Γ N Try.f10 (.q [[some (3, 1)]] (D.fr 3 1 ((r).map ixx))) [1, 1, 0, 1, 0] (rest.length + 1) (d_laws_toIntS_S1 a0_ ((w1_0).map ixx) ((i1 : Int))) := by
  intro rest
  induction rest with
  | nil =>
    intro i1 w1_0 hd1 h
    rw [d_laws_toIntS_L1] at h
    refine AWr_succ fun N1 hN1 hS1 => ?_
    exact ((pre0.ge ixx hd1).a [.hl 0 [3] [0]]).ex hΓ hN1 (hE1 (w1_0) h)
  | cons x1_ xs1 ih1 =>
    intro i1 w1_0 hd1 h
    rw [d_laws_toIntS_L1] at h
    refine AWr_succ fun N1 hN1 hS1 => ?_
    obtain ⟨h29, h⟩ := den_ok h
    obtain ⟨x30, h31, h⟩ := den_bind h
    exact (((((pre0.lt ixx hd1).l (map_row ixx 1 (dc hd1) rfl)).i (own_ix 1 h29)).w (show ((w1_0).map ixx)[i1]? = some [D.int .i64 (x30)] from map_get ixx h31)).a [.row [D.int .i64 (x30)], .cn [0, 3, 4] [0]]).cs hΓ hS1 (d_laws_toIntS_S1 a0_ (((w1_0).map ixx).set i1 [D.int .i64 (x1_)]) (IntKind.i64.wrap (((i1 : Int)) + (1)))) (by first | (simp only [iS hd1 hm1, mA] <;> rfl) | (simp only [iS hd1 hm1, mA, Fact.c, Pair.c, Cond.c, Action.c, Rule.c, Token.c, Match.c, Alpha.c, Node.c, Network.c, Stamp.c] <;> rfl)) (ih1 (i1 + 1) ((w1_0).set i1 x1_) (dn hd1) h)
theorem d_laws_toIntS_good {a0_ : List Int} {r : List Int} (h : d_laws_toIntS a0_ = some r) : Good Try.prog 10 [D.sl ((a0_).map ixx)] (D.fr 3 1 ((r).map ixx)) := by
  refine gd Try.func10 [[some (3, 1)]] 22 fun hr Γ hΓ => ?_
  rw [d_laws_toIntS] at h
  obtain ⟨h1, h⟩ := den_ok h
  refine ((pre0.w (roomM_ok h1)).a [.cn [0, 3, 4] [0]]).lps hΓ (d_laws_toIntS_S1 a0_ (List.replicate ((((a0_).map ixx).length : Int)).toNat [D.int .i64 (0)]) 0) (by first | (simp only [mA] <;> rfl) | (simp only [mA, Fact.c, Pair.c, Cond.c, Action.c, Rule.c, Token.c, Match.c, Alpha.c, Node.c, Network.c, Stamp.c] <;> rfl)) (d_laws_toIntS_L1w hΓ (fun q1_0 h => ?_) (by have := (Rdb.sl (hr _ (List.mem_of_getElem? (i := 0) rfl))).1; simpa using this) (a0_) 0 (List.replicate ((((a0_).map ixx).length : Int)).toNat (0 : Int)) rfl h)
  have h := den_some h; subst h; exact pre0.ret hΓ
def d_laws_toStringS_L1 (a0_ : List Bytes) (k1 : List Bytes → Option (List Bytes)) : List Bytes → Nat → List Bytes → Option (List Bytes)
  | [], i1, w1_0 => (k1 (w1_0))
  | x1_ :: xs1, i1, w1_0 => (bif decide (i1 < ((w1_0).map tx).length) then (((w1_0)[i1]?).bind fun x30 => (d_laws_toStringS_L1 a0_ k1 xs1 (i1 + 1) ((w1_0).set i1 x1_))) else none)
def d_laws_toStringS (a0_ : List Bytes) : Option (List Bytes) := (bif roomM ((((a0_).map tx).length : Int)) 16 then (d_laws_toStringS_L1 a0_ (fun (q1_0 : List Bytes) => (some (q1_0))) (a0_) 0 (List.replicate ((((a0_).map tx).length : Int)).toNat ([] : Bytes))) else none)
def d_laws_toStringS_S1 (a0_ : List Bytes) (W0 : List (List D)) (ix_ : Int) : St := ⟨[(0, D.sl ((a0_).map tx)), (3, D.acc 0), (4, D.int .i64 (ix_))], [Ob.row .uq 9 1 (W0)]⟩
theorem d_laws_toStringS_L1w (hΓ : Γ.nt = 22) {a0_ : List Bytes} {r : List Bytes} {k1 : List Bytes → Option (List Bytes)} (hE1 : ∀ (q1_0 : List Bytes), k1 q1_0 = some r → Ax Γ N Try.f97 (.q [[some (9, 1)]] (D.fr 9 1 ((r).map tx))) [1, 1, 1] ⟨[(3, D.acc 0)], [Ob.row .uq 9 1 ((q1_0).map tx)]⟩) (hm1 : (a0_).length ≤ maxLen) : ∀ (rest : List Bytes) (i1 : Nat) (w1_0 : List Bytes), (a0_).drop i1 = rest → d_laws_toStringS_L1 a0_ k1 rest i1 w1_0 = some r → Ar Γ N Try.f97 (.q [[some (9, 1)]] (D.fr 9 1 ((r).map tx))) [1, 1, 0, 1, 0] (rest.length + 1) (d_laws_toStringS_S1 a0_ ((w1_0).map tx) ((i1 : Int))) := by
  intro rest
  induction rest with
  | nil =>
    intro i1 w1_0 hd1 h
    rw [d_laws_toStringS_L1] at h
    refine AWr_succ fun N1 hN1 hS1 => ?_
    exact ((pre0.ge tx hd1).a [.hl 0 [3] [0]]).ex hΓ hN1 (hE1 (w1_0) h)
  | cons x1_ xs1 ih1 =>
    intro i1 w1_0 hd1 h
    rw [d_laws_toStringS_L1] at h
    refine AWr_succ fun N1 hN1 hS1 => ?_
    obtain ⟨h29, h⟩ := den_ok h
    obtain ⟨x30, h31, h⟩ := den_bind h
    exact (((((pre0.lt tx hd1).l (map_row tx 1 (dc hd1) rfl)).i (own_ix 1 h29)).w (show ((w1_0).map tx)[i1]? = some [D.str (x30)] from map_get tx h31)).a [.row [D.str (x30)], .cn [0, 3, 4] [0]]).cs hΓ hS1 (d_laws_toStringS_S1 a0_ (((w1_0).map tx).set i1 [D.str (x1_)]) (IntKind.i64.wrap (((i1 : Int)) + (1)))) (by first | (simp only [iS hd1 hm1, mA] <;> rfl) | (simp only [iS hd1 hm1, mA, Fact.c, Pair.c, Cond.c, Action.c, Rule.c, Token.c, Match.c, Alpha.c, Node.c, Network.c, Stamp.c] <;> rfl)) (ih1 (i1 + 1) ((w1_0).set i1 x1_) (dn hd1) h)
theorem d_laws_toStringS_good {a0_ : List Bytes} {r : List Bytes} (h : d_laws_toStringS a0_ = some r) : Good Try.prog 97 [D.sl ((a0_).map tx)] (D.fr 9 1 ((r).map tx)) := by
  refine gd Try.func97 [[some (9, 1)]] 22 fun hr Γ hΓ => ?_
  rw [d_laws_toStringS] at h
  obtain ⟨h1, h⟩ := den_ok h
  refine ((pre0.w (roomM_ok h1)).a [.cn [0, 3, 4] [0]]).lps hΓ (d_laws_toStringS_S1 a0_ (List.replicate ((((a0_).map tx).length : Int)).toNat [D.str ([])]) 0) (by first | (simp only [mA] <;> rfl) | (simp only [mA, Fact.c, Pair.c, Cond.c, Action.c, Rule.c, Token.c, Match.c, Alpha.c, Node.c, Network.c, Stamp.c] <;> rfl)) (d_laws_toStringS_L1w hΓ (fun q1_0 h => ?_) (by have := (Rdb.sl (hr _ (List.mem_of_getElem? (i := 0) rfl))).1; simpa using this) (a0_) 0 (List.replicate ((((a0_).map tx).length : Int)).toNat ([] : Bytes)) rfl h)
  have h := den_some h; subst h; exact pre0.ret hΓ
def d_laws_toPattern (a0_ : Fact) : Option Fact := ((d_laws_toStringS (a0_.args)).bind fun y1 => (some ((⟨a0_.rel, y1⟩ : Fact))))
theorem d_laws_toPattern_good {a0_ : Fact} {r : Fact} (h : d_laws_toPattern a0_ = some r) : Good Try.prog 94 [D.agg (Fact.c a0_)] (D.agg [D.str (r.rel), D.fr 9 1 ((r.args).map tx)]) := by
  refine gd Try.func94 [[none, some (9, 1)]] 12 fun hr Γ hΓ => ?_
  rw [d_laws_toPattern] at h
  obtain ⟨y1, h2, h⟩ := den_bind h
  cases h; exact (pre0.g (d_laws_toStringS_good h2)).ret hΓ
def d_laws_toCond (a0_ : Cond) : Option Cond := ((d_laws_toPattern (a0_.pat)).bind fun y1 => (some ((⟨a0_.kind, y1, a0_.left, a0_.right⟩ : Cond))))
theorem d_laws_toCond_good {a0_ : Cond} {r : Cond} (h : d_laws_toCond a0_ = some r) : Good Try.prog 95 [D.agg (Cond.c a0_)] (D.agg [D.int .i64 (r.kind), D.str (r.pat.rel), D.fr 9 1 ((r.pat.args).map tx), D.str (r.left), D.str (r.right)]) := by
  refine gd Try.func95 [[none, none, some (9, 1), none, none]] 18 fun hr Γ hΓ => ?_
  rw [d_laws_toCond] at h
  obtain ⟨y1, h2, h⟩ := den_bind h
  cases h; exact (pre0.g (d_laws_toPattern_good h2)).ret hΓ
def d_laws_toCondS_L1 (a0_ : List Cond) (k1 : List Cond → Option (List Cond)) : List Cond → Nat → List Cond → Option (List Cond)
  | [], i1, w1_0 => (k1 (w1_0))
  | x1_ :: xs1, i1, w1_0 => ((d_laws_toCond (x1_)).bind fun y41 => (bif decide (i1 < ((w1_0).map Cond.c).length) then (((w1_0)[i1]?).bind fun x44 => (d_laws_toCondS_L1 a0_ k1 xs1 (i1 + 1) ((w1_0).set i1 y41))) else none))
def d_laws_toCondS (a0_ : List Cond) : Option (List Cond) := (bif roomM ((((a0_).map Cond.c).length : Int)) 80 then (d_laws_toCondS_L1 a0_ (fun (q1_0 : List Cond) => (some (q1_0))) (a0_) 0 (List.replicate ((((a0_).map Cond.c).length : Int)).toNat (⟨(0 : Int), (⟨([] : Bytes), []⟩ : Fact), ([] : Bytes), ([] : Bytes)⟩ : Cond))) else none)
def d_laws_toCondS_S1 (a0_ : List Cond) (W0 : List (List D)) (ix_ : Int) : St := ⟨[(0, D.sl ((a0_).map Cond.c)), (3, D.acc 0), (4, D.int .i64 (ix_))], [Ob.row .uq 70 5 (W0)]⟩
theorem d_laws_toCondS_L1w (hΓ : Γ.nt = 23) {a0_ : List Cond} {r : List Cond} {k1 : List Cond → Option (List Cond)} (hE1 : ∀ (q1_0 : List Cond), k1 q1_0 = some r → Ax Γ N Try.f92 (.q [[some (70, 5)]] (D.fr 70 5 ((r).map Cond.c))) [1, 1, 1] ⟨[(3, D.acc 0)], [Ob.row .uq 70 5 ((q1_0).map Cond.c)]⟩) (hm1 : (a0_).length ≤ maxLen) : ∀ (rest : List Cond) (i1 : Nat) (w1_0 : List Cond), (a0_).drop i1 = rest → d_laws_toCondS_L1 a0_ k1 rest i1 w1_0 = some r → Ar Γ N Try.f92 (.q [[some (70, 5)]] (D.fr 70 5 ((r).map Cond.c))) [1, 1, 0, 1, 0] (rest.length + 1) (d_laws_toCondS_S1 a0_ ((w1_0).map Cond.c) ((i1 : Int))) := by
  intro rest
  induction rest with
  | nil =>
    intro i1 w1_0 hd1 h
    rw [d_laws_toCondS_L1] at h
    refine AWr_succ fun N1 hN1 hS1 => ?_
    exact ((pre0.ge Cond.c hd1).a [.hl 0 [3] [0]]).ex hΓ hN1 (hE1 (w1_0) h)
  | cons x1_ xs1 ih1 =>
    intro i1 w1_0 hd1 h
    rw [d_laws_toCondS_L1] at h
    refine AWr_succ fun N1 hN1 hS1 => ?_
    obtain ⟨y41, h42, h⟩ := den_bind h
    obtain ⟨h43, h⟩ := den_ok h
    obtain ⟨x44, h45, h⟩ := den_bind h
    exact ((((((pre0.lt Cond.c hd1).l (map_row Cond.c 5 (dc hd1) rfl)).g (d_laws_toCond_good h42)).i (own_ix 5 h43)).w (show ((w1_0).map Cond.c)[i1]? = some [D.int .i64 (x44.kind), D.str (x44.pat.rel), D.sl ((x44.pat.args).map tx), D.str (x44.left), D.str (x44.right)] from map_get Cond.c h45)).a [.row [D.int .i64 (x44.kind), D.str (x44.pat.rel), D.sl ((x44.pat.args).map tx), D.str (x44.left), D.str (x44.right)], .cn [0, 3, 4] [0]]).cs hΓ hS1 (d_laws_toCondS_S1 a0_ (((w1_0).map Cond.c).set i1 [D.int .i64 (y41.kind), D.str (y41.pat.rel), D.sl ((y41.pat.args).map tx), D.str (y41.left), D.str (y41.right)]) (IntKind.i64.wrap (((i1 : Int)) + (1)))) (by first | (simp only [iS hd1 hm1, mA] <;> rfl) | (simp only [iS hd1 hm1, mA, Fact.c, Pair.c, Cond.c, Action.c, Rule.c, Token.c, Match.c, Alpha.c, Node.c, Network.c, Stamp.c] <;> rfl)) (ih1 (i1 + 1) ((w1_0).set i1 y41) (dn hd1) h)
theorem d_laws_toCondS_good {a0_ : List Cond} {r : List Cond} (h : d_laws_toCondS a0_ = some r) : Good Try.prog 92 [D.sl ((a0_).map Cond.c)] (D.fr 70 5 ((r).map Cond.c)) := by
  refine gd Try.func92 [[some (70, 5)]] 23 fun hr Γ hΓ => ?_
  rw [d_laws_toCondS] at h
  obtain ⟨h1, h⟩ := den_ok h
  refine ((pre0.w (roomM_ok h1)).a [.cn [0, 3, 4] [0]]).lps hΓ (d_laws_toCondS_S1 a0_ (List.replicate ((((a0_).map Cond.c).length : Int)).toNat [D.int .i64 (0), D.str ([]), D.sl ([]), D.str ([]), D.str ([])]) 0) (by first | (simp only [mA] <;> rfl) | (simp only [mA, Fact.c, Pair.c, Cond.c, Action.c, Rule.c, Token.c, Match.c, Alpha.c, Node.c, Network.c, Stamp.c] <;> rfl)) (d_laws_toCondS_L1w hΓ (fun q1_0 h => ?_) (by have := (Rdb.sl (hr _ (List.mem_of_getElem? (i := 0) rfl))).1; simpa using this) (a0_) 0 (List.replicate ((((a0_).map Cond.c).length : Int)).toNat (⟨(0 : Int), (⟨([] : Bytes), []⟩ : Fact), ([] : Bytes), ([] : Bytes)⟩ : Cond)) rfl h)
  have h := den_some h; subst h; exact pre0.ret hΓ
def d_laws_toAction (a0_ : Action) : Option Action := ((d_laws_toPattern (a0_.pat)).bind fun y1 => (some ((⟨a0_.kind, y1⟩ : Action))))
theorem d_laws_toAction_good {a0_ : Action} {r : Action} (h : d_laws_toAction a0_ = some r) : Good Try.prog 110 [D.agg (Action.c a0_)] (D.agg [D.int .i64 (r.kind), D.str (r.pat.rel), D.fr 9 1 ((r.pat.args).map tx)]) := by
  refine gd Try.func110 [[none, none, some (9, 1)]] 12 fun hr Γ hΓ => ?_
  rw [d_laws_toAction] at h
  obtain ⟨y1, h2, h⟩ := den_bind h
  cases h; exact (pre0.g (d_laws_toPattern_good h2)).ret hΓ
def d_laws_toActionS_L1 (a0_ : List Action) (k1 : List Action → Option (List Action)) : List Action → Nat → List Action → Option (List Action)
  | [], i1, w1_0 => (k1 (w1_0))
  | x1_ :: xs1, i1, w1_0 => ((d_laws_toAction (x1_)).bind fun y41 => (bif decide (i1 < ((w1_0).map Action.c).length) then (((w1_0)[i1]?).bind fun x44 => (d_laws_toActionS_L1 a0_ k1 xs1 (i1 + 1) ((w1_0).set i1 y41))) else none))
def d_laws_toActionS (a0_ : List Action) : Option (List Action) := (bif roomM ((((a0_).map Action.c).length : Int)) 48 then (d_laws_toActionS_L1 a0_ (fun (q1_0 : List Action) => (some (q1_0))) (a0_) 0 (List.replicate ((((a0_).map Action.c).length : Int)).toNat (⟨(0 : Int), (⟨([] : Bytes), []⟩ : Fact)⟩ : Action))) else none)
def d_laws_toActionS_S1 (a0_ : List Action) (W0 : List (List D)) (ix_ : Int) : St := ⟨[(0, D.sl ((a0_).map Action.c)), (3, D.acc 0), (4, D.int .i64 (ix_))], [Ob.row .uq 166 3 (W0)]⟩
theorem d_laws_toActionS_L1w (hΓ : Γ.nt = 23) {a0_ : List Action} {r : List Action} {k1 : List Action → Option (List Action)} (hE1 : ∀ (q1_0 : List Action), k1 q1_0 = some r → Ax Γ N Try.f93 (.q [[some (166, 3)]] (D.fr 166 3 ((r).map Action.c))) [1, 1, 1] ⟨[(3, D.acc 0)], [Ob.row .uq 166 3 ((q1_0).map Action.c)]⟩) (hm1 : (a0_).length ≤ maxLen) : ∀ (rest : List Action) (i1 : Nat) (w1_0 : List Action), (a0_).drop i1 = rest → d_laws_toActionS_L1 a0_ k1 rest i1 w1_0 = some r → Ar Γ N Try.f93 (.q [[some (166, 3)]] (D.fr 166 3 ((r).map Action.c))) [1, 1, 0, 1, 0] (rest.length + 1) (d_laws_toActionS_S1 a0_ ((w1_0).map Action.c) ((i1 : Int))) := by
  intro rest
  induction rest with
  | nil =>
    intro i1 w1_0 hd1 h
    rw [d_laws_toActionS_L1] at h
    refine AWr_succ fun N1 hN1 hS1 => ?_
    exact ((pre0.ge Action.c hd1).a [.hl 0 [3] [0]]).ex hΓ hN1 (hE1 (w1_0) h)
  | cons x1_ xs1 ih1 =>
    intro i1 w1_0 hd1 h
    rw [d_laws_toActionS_L1] at h
    refine AWr_succ fun N1 hN1 hS1 => ?_
    obtain ⟨y41, h42, h⟩ := den_bind h
    obtain ⟨h43, h⟩ := den_ok h
    obtain ⟨x44, h45, h⟩ := den_bind h
    exact ((((((pre0.lt Action.c hd1).l (map_row Action.c 3 (dc hd1) rfl)).g (d_laws_toAction_good h42)).i (own_ix 3 h43)).w (show ((w1_0).map Action.c)[i1]? = some [D.int .i64 (x44.kind), D.str (x44.pat.rel), D.sl ((x44.pat.args).map tx)] from map_get Action.c h45)).a [.row [D.int .i64 (x44.kind), D.str (x44.pat.rel), D.sl ((x44.pat.args).map tx)], .cn [0, 3, 4] [0]]).cs hΓ hS1 (d_laws_toActionS_S1 a0_ (((w1_0).map Action.c).set i1 [D.int .i64 (y41.kind), D.str (y41.pat.rel), D.sl ((y41.pat.args).map tx)]) (IntKind.i64.wrap (((i1 : Int)) + (1)))) (by first | (simp only [iS hd1 hm1, mA] <;> rfl) | (simp only [iS hd1 hm1, mA, Fact.c, Pair.c, Cond.c, Action.c, Rule.c, Token.c, Match.c, Alpha.c, Node.c, Network.c, Stamp.c] <;> rfl)) (ih1 (i1 + 1) ((w1_0).set i1 y41) (dn hd1) h)
theorem d_laws_toActionS_good {a0_ : List Action} {r : List Action} (h : d_laws_toActionS a0_ = some r) : Good Try.prog 93 [D.sl ((a0_).map Action.c)] (D.fr 166 3 ((r).map Action.c)) := by
  refine gd Try.func93 [[some (166, 3)]] 23 fun hr Γ hΓ => ?_
  rw [d_laws_toActionS] at h
  obtain ⟨h1, h⟩ := den_ok h
  refine ((pre0.w (roomM_ok h1)).a [.cn [0, 3, 4] [0]]).lps hΓ (d_laws_toActionS_S1 a0_ (List.replicate ((((a0_).map Action.c).length : Int)).toNat [D.int .i64 (0), D.str ([]), D.sl ([])]) 0) (by first | (simp only [mA] <;> rfl) | (simp only [mA, Fact.c, Pair.c, Cond.c, Action.c, Rule.c, Token.c, Match.c, Alpha.c, Node.c, Network.c, Stamp.c] <;> rfl)) (d_laws_toActionS_L1w hΓ (fun q1_0 h => ?_) (by have := (Rdb.sl (hr _ (List.mem_of_getElem? (i := 0) rfl))).1; simpa using this) (a0_) 0 (List.replicate ((((a0_).map Action.c).length : Int)).toNat (⟨(0 : Int), (⟨([] : Bytes), []⟩ : Fact)⟩ : Action)) rfl h)
  have h := den_some h; subst h; exact pre0.ret hΓ
def d_laws_toRule (a0_ : Rule) : Option Rule := ((d_laws_toCondS (a0_.conds)).bind fun y1 => ((d_laws_toActionS (a0_.acts)).bind fun y3 => (some ((⟨a0_.name, a0_.prio, y1, y3⟩ : Rule)))))
theorem d_laws_toRule_good {a0_ : Rule} {r : Rule} (h : d_laws_toRule a0_ = some r) : Good Try.prog 63 [D.agg (Rule.c a0_)] (D.agg [D.str (r.name), D.int .i64 (r.prio), D.fr 70 5 ((r.conds).map Cond.c), D.fr 166 3 ((r.acts).map Action.c)]) := by
  refine gd Try.func63 [[none, none, some (70, 5), some (166, 3)]] 19 fun hr Γ hΓ => ?_
  rw [d_laws_toRule] at h
  obtain ⟨y1, h2, h⟩ := den_bind h
  obtain ⟨y3, h4, h⟩ := den_bind h
  cases h; exact ((pre0.g (d_laws_toCondS_good h2)).g (d_laws_toActionS_good h4)).ret hΓ
def d_laws_toRuleS_L1 (a0_ : List Rule) (k1 : List Rule → Option (List Rule)) : List Rule → Nat → List Rule → Option (List Rule)
  | [], i1, w1_0 => (k1 (w1_0))
  | x1_ :: xs1, i1, w1_0 => ((d_laws_toRule (x1_)).bind fun y41 => (bif decide (i1 < ((w1_0).map Rule.c).length) then (((w1_0)[i1]?).bind fun x44 => (d_laws_toRuleS_L1 a0_ k1 xs1 (i1 + 1) ((w1_0).set i1 y41))) else none))
def d_laws_toRuleS (a0_ : List Rule) : Option (List Rule) := (bif roomM ((((a0_).map Rule.c).length : Int)) 72 then (d_laws_toRuleS_L1 a0_ (fun (q1_0 : List Rule) => (some (q1_0))) (a0_) 0 (List.replicate ((((a0_).map Rule.c).length : Int)).toNat (⟨([] : Bytes), (0 : Int), [], []⟩ : Rule))) else none)
def d_laws_toRuleS_S1 (a0_ : List Rule) (W0 : List (List D)) (ix_ : Int) : St := ⟨[(0, D.sl ((a0_).map Rule.c)), (3, D.acc 0), (4, D.int .i64 (ix_))], [Ob.row .uq 120 4 (W0)]⟩
theorem d_laws_toRuleS_L1w (hΓ : Γ.nt = 23) {a0_ : List Rule} {r : List Rule} {k1 : List Rule → Option (List Rule)} (hE1 : ∀ (q1_0 : List Rule), k1 q1_0 = some r → Ax Γ N Try.f37 (.q [[some (120, 4)]] (D.fr 120 4 ((r).map Rule.c))) [1, 1, 1] ⟨[(3, D.acc 0)], [Ob.row .uq 120 4 ((q1_0).map Rule.c)]⟩) (hm1 : (a0_).length ≤ maxLen) : ∀ (rest : List Rule) (i1 : Nat) (w1_0 : List Rule), (a0_).drop i1 = rest → d_laws_toRuleS_L1 a0_ k1 rest i1 w1_0 = some r → Ar Γ N Try.f37 (.q [[some (120, 4)]] (D.fr 120 4 ((r).map Rule.c))) [1, 1, 0, 1, 0] (rest.length + 1) (d_laws_toRuleS_S1 a0_ ((w1_0).map Rule.c) ((i1 : Int))) := by
  intro rest
  induction rest with
  | nil =>
    intro i1 w1_0 hd1 h
    rw [d_laws_toRuleS_L1] at h
    refine AWr_succ fun N1 hN1 hS1 => ?_
    exact ((pre0.ge Rule.c hd1).a [.hl 0 [3] [0]]).ex hΓ hN1 (hE1 (w1_0) h)
  | cons x1_ xs1 ih1 =>
    intro i1 w1_0 hd1 h
    rw [d_laws_toRuleS_L1] at h
    refine AWr_succ fun N1 hN1 hS1 => ?_
    obtain ⟨y41, h42, h⟩ := den_bind h
    obtain ⟨h43, h⟩ := den_ok h
    obtain ⟨x44, h45, h⟩ := den_bind h
    exact ((((((pre0.lt Rule.c hd1).l (map_row Rule.c 4 (dc hd1) rfl)).g (d_laws_toRule_good h42)).i (own_ix 4 h43)).w (show ((w1_0).map Rule.c)[i1]? = some [D.str (x44.name), D.int .i64 (x44.prio), D.sl ((x44.conds).map Cond.c), D.sl ((x44.acts).map Action.c)] from map_get Rule.c h45)).a [.row [D.str (x44.name), D.int .i64 (x44.prio), D.sl ((x44.conds).map Cond.c), D.sl ((x44.acts).map Action.c)], .cn [0, 3, 4] [0]]).cs hΓ hS1 (d_laws_toRuleS_S1 a0_ (((w1_0).map Rule.c).set i1 [D.str (y41.name), D.int .i64 (y41.prio), D.sl ((y41.conds).map Cond.c), D.sl ((y41.acts).map Action.c)]) (IntKind.i64.wrap (((i1 : Int)) + (1)))) (by first | (simp only [iS hd1 hm1, mA] <;> rfl) | (simp only [iS hd1 hm1, mA, Fact.c, Pair.c, Cond.c, Action.c, Rule.c, Token.c, Match.c, Alpha.c, Node.c, Network.c, Stamp.c] <;> rfl)) (ih1 (i1 + 1) ((w1_0).set i1 y41) (dn hd1) h)
theorem d_laws_toRuleS_good {a0_ : List Rule} {r : List Rule} (h : d_laws_toRuleS a0_ = some r) : Good Try.prog 37 [D.sl ((a0_).map Rule.c)] (D.fr 120 4 ((r).map Rule.c)) := by
  refine gd Try.func37 [[some (120, 4)]] 23 fun hr Γ hΓ => ?_
  rw [d_laws_toRuleS] at h
  obtain ⟨h1, h⟩ := den_ok h
  refine ((pre0.w (roomM_ok h1)).a [.cn [0, 3, 4] [0]]).lps hΓ (d_laws_toRuleS_S1 a0_ (List.replicate ((((a0_).map Rule.c).length : Int)).toNat [D.str ([]), D.int .i64 (0), D.sl ([]), D.sl ([])]) 0) (by first | (simp only [mA] <;> rfl) | (simp only [mA, Fact.c, Pair.c, Cond.c, Action.c, Rule.c, Token.c, Match.c, Alpha.c, Node.c, Network.c, Stamp.c] <;> rfl)) (d_laws_toRuleS_L1w hΓ (fun q1_0 h => ?_) (by have := (Rdb.sl (hr _ (List.mem_of_getElem? (i := 0) rfl))).1; simpa using this) (a0_) 0 (List.replicate ((((a0_).map Rule.c).length : Int)).toNat (⟨([] : Bytes), (0 : Int), [], []⟩ : Rule)) rfl h)
  have h := den_some h; subst h; exact pre0.ret hΓ
def d_laws_toFact (a0_ : Fact) : Option Fact := ((d_laws_toStringS (a0_.args)).bind fun y1 => (some ((⟨a0_.rel, y1⟩ : Fact))))
theorem d_laws_toFact_good {a0_ : Fact} {r : Fact} (h : d_laws_toFact a0_ = some r) : Good Try.prog 66 [D.agg (Fact.c a0_)] (D.agg [D.str (r.rel), D.fr 9 1 ((r.args).map tx)]) := by
  refine gd Try.func66 [[none, some (9, 1)]] 12 fun hr Γ hΓ => ?_
  rw [d_laws_toFact] at h
  obtain ⟨y1, h2, h⟩ := den_bind h
  cases h; exact (pre0.g (d_laws_toStringS_good h2)).ret hΓ
def d_laws_toFactS_L1 (a0_ : List Fact) (k1 : List Fact → Option (List Fact)) : List Fact → Nat → List Fact → Option (List Fact)
  | [], i1, w1_0 => (k1 (w1_0))
  | x1_ :: xs1, i1, w1_0 => ((d_laws_toFact (x1_)).bind fun y41 => (bif decide (i1 < ((w1_0).map Fact.c).length) then (((w1_0)[i1]?).bind fun x44 => (d_laws_toFactS_L1 a0_ k1 xs1 (i1 + 1) ((w1_0).set i1 y41))) else none))
def d_laws_toFactS (a0_ : List Fact) : Option (List Fact) := (bif roomM ((((a0_).map Fact.c).length : Int)) 40 then (d_laws_toFactS_L1 a0_ (fun (q1_0 : List Fact) => (some (q1_0))) (a0_) 0 (List.replicate ((((a0_).map Fact.c).length : Int)).toNat (⟨([] : Bytes), []⟩ : Fact))) else none)
def d_laws_toFactS_S1 (a0_ : List Fact) (W0 : List (List D)) (ix_ : Int) : St := ⟨[(0, D.sl ((a0_).map Fact.c)), (3, D.acc 0), (4, D.int .i64 (ix_))], [Ob.row .uq 126 2 (W0)]⟩
theorem d_laws_toFactS_L1w (hΓ : Γ.nt = 23) {a0_ : List Fact} {r : List Fact} {k1 : List Fact → Option (List Fact)} (hE1 : ∀ (q1_0 : List Fact), k1 q1_0 = some r → Ax Γ N Try.f40 (.q [[some (126, 2)]] (D.fr 126 2 ((r).map Fact.c))) [1, 1, 1] ⟨[(3, D.acc 0)], [Ob.row .uq 126 2 ((q1_0).map Fact.c)]⟩) (hm1 : (a0_).length ≤ maxLen) : ∀ (rest : List Fact) (i1 : Nat) (w1_0 : List Fact), (a0_).drop i1 = rest → d_laws_toFactS_L1 a0_ k1 rest i1 w1_0 = some r → Ar Γ N Try.f40 (.q [[some (126, 2)]] (D.fr 126 2 ((r).map Fact.c))) [1, 1, 0, 1, 0] (rest.length + 1) (d_laws_toFactS_S1 a0_ ((w1_0).map Fact.c) ((i1 : Int))) := by
  intro rest
  induction rest with
  | nil =>
    intro i1 w1_0 hd1 h
    rw [d_laws_toFactS_L1] at h
    refine AWr_succ fun N1 hN1 hS1 => ?_
    exact ((pre0.ge Fact.c hd1).a [.hl 0 [3] [0]]).ex hΓ hN1 (hE1 (w1_0) h)
  | cons x1_ xs1 ih1 =>
    intro i1 w1_0 hd1 h
    rw [d_laws_toFactS_L1] at h
    refine AWr_succ fun N1 hN1 hS1 => ?_
    obtain ⟨y41, h42, h⟩ := den_bind h
    obtain ⟨h43, h⟩ := den_ok h
    obtain ⟨x44, h45, h⟩ := den_bind h
    exact ((((((pre0.lt Fact.c hd1).l (map_row Fact.c 2 (dc hd1) rfl)).g (d_laws_toFact_good h42)).i (own_ix 2 h43)).w (show ((w1_0).map Fact.c)[i1]? = some [D.str (x44.rel), D.sl ((x44.args).map tx)] from map_get Fact.c h45)).a [.row [D.str (x44.rel), D.sl ((x44.args).map tx)], .cn [0, 3, 4] [0]]).cs hΓ hS1 (d_laws_toFactS_S1 a0_ (((w1_0).map Fact.c).set i1 [D.str (y41.rel), D.sl ((y41.args).map tx)]) (IntKind.i64.wrap (((i1 : Int)) + (1)))) (by first | (simp only [iS hd1 hm1, mA] <;> rfl) | (simp only [iS hd1 hm1, mA, Fact.c, Pair.c, Cond.c, Action.c, Rule.c, Token.c, Match.c, Alpha.c, Node.c, Network.c, Stamp.c] <;> rfl)) (ih1 (i1 + 1) ((w1_0).set i1 y41) (dn hd1) h)
theorem d_laws_toFactS_good {a0_ : List Fact} {r : List Fact} (h : d_laws_toFactS a0_ = some r) : Good Try.prog 40 [D.sl ((a0_).map Fact.c)] (D.fr 126 2 ((r).map Fact.c)) := by
  refine gd Try.func40 [[some (126, 2)]] 23 fun hr Γ hΓ => ?_
  rw [d_laws_toFactS] at h
  obtain ⟨h1, h⟩ := den_ok h
  refine ((pre0.w (roomM_ok h1)).a [.cn [0, 3, 4] [0]]).lps hΓ (d_laws_toFactS_S1 a0_ (List.replicate ((((a0_).map Fact.c).length : Int)).toNat [D.str ([]), D.sl ([])]) 0) (by first | (simp only [mA] <;> rfl) | (simp only [mA, Fact.c, Pair.c, Cond.c, Action.c, Rule.c, Token.c, Match.c, Alpha.c, Node.c, Network.c, Stamp.c] <;> rfl)) (d_laws_toFactS_L1w hΓ (fun q1_0 h => ?_) (by have := (Rdb.sl (hr _ (List.mem_of_getElem? (i := 0) rfl))).1; simpa using this) (a0_) 0 (List.replicate ((((a0_).map Fact.c).length : Int)).toNat (⟨([] : Bytes), []⟩ : Fact)) rfl h)
  have h := den_some h; subst h; exact pre0.ret hΓ
def d_laws_toAlpha (a0_ : Alpha) : Option Alpha := ((d_laws_toPattern (a0_.shape)).bind fun y1 => ((d_laws_toFactS (a0_.facts)).bind fun y3 => (some ((⟨y1, y3⟩ : Alpha)))))
theorem d_laws_toAlpha_good {a0_ : Alpha} {r : Alpha} (h : d_laws_toAlpha a0_ = some r) : Good Try.prog 64 [D.agg (Alpha.c a0_)] (D.agg [D.str (r.shape.rel), D.fr 9 1 ((r.shape.args).map tx), D.fr 126 2 ((r.facts).map Fact.c)]) := by
  refine gd Try.func64 [[none, some (9, 1), some (126, 2)]] 13 fun hr Γ hΓ => ?_
  rw [d_laws_toAlpha] at h
  obtain ⟨y1, h2, h⟩ := den_bind h
  obtain ⟨y3, h4, h⟩ := den_bind h
  cases h; exact ((pre0.g (d_laws_toPattern_good h2)).g (d_laws_toFactS_good h4)).ret hΓ
def d_laws_toAlphaS_L1 (a0_ : List Alpha) (k1 : List Alpha → Option (List Alpha)) : List Alpha → Nat → List Alpha → Option (List Alpha)
  | [], i1, w1_0 => (k1 (w1_0))
  | x1_ :: xs1, i1, w1_0 => ((d_laws_toAlpha (x1_)).bind fun y41 => (bif decide (i1 < ((w1_0).map Alpha.c).length) then (((w1_0)[i1]?).bind fun x44 => (d_laws_toAlphaS_L1 a0_ k1 xs1 (i1 + 1) ((w1_0).set i1 y41))) else none))
def d_laws_toAlphaS (a0_ : List Alpha) : Option (List Alpha) := (bif roomM ((((a0_).map Alpha.c).length : Int)) 64 then (d_laws_toAlphaS_L1 a0_ (fun (q1_0 : List Alpha) => (some (q1_0))) (a0_) 0 (List.replicate ((((a0_).map Alpha.c).length : Int)).toNat (⟨(⟨([] : Bytes), []⟩ : Fact), []⟩ : Alpha))) else none)
def d_laws_toAlphaS_S1 (a0_ : List Alpha) (W0 : List (List D)) (ix_ : Int) : St := ⟨[(0, D.sl ((a0_).map Alpha.c)), (3, D.acc 0), (4, D.int .i64 (ix_))], [Ob.row .uq 123 3 (W0)]⟩
theorem d_laws_toAlphaS_L1w (hΓ : Γ.nt = 23) {a0_ : List Alpha} {r : List Alpha} {k1 : List Alpha → Option (List Alpha)} (hE1 : ∀ (q1_0 : List Alpha), k1 q1_0 = some r → Ax Γ N Try.f38 (.q [[some (123, 3)]] (D.fr 123 3 ((r).map Alpha.c))) [1, 1, 1] ⟨[(3, D.acc 0)], [Ob.row .uq 123 3 ((q1_0).map Alpha.c)]⟩) (hm1 : (a0_).length ≤ maxLen) : ∀ (rest : List Alpha) (i1 : Nat) (w1_0 : List Alpha), (a0_).drop i1 = rest → d_laws_toAlphaS_L1 a0_ k1 rest i1 w1_0 = some r → Ar Γ N Try.f38 (.q [[some (123, 3)]] (D.fr 123 3 ((r).map Alpha.c))) [1, 1, 0, 1, 0] (rest.length + 1) (d_laws_toAlphaS_S1 a0_ ((w1_0).map Alpha.c) ((i1 : Int))) := by
  intro rest
  induction rest with
  | nil =>
    intro i1 w1_0 hd1 h
    rw [d_laws_toAlphaS_L1] at h
    refine AWr_succ fun N1 hN1 hS1 => ?_
    exact ((pre0.ge Alpha.c hd1).a [.hl 0 [3] [0]]).ex hΓ hN1 (hE1 (w1_0) h)
  | cons x1_ xs1 ih1 =>
    intro i1 w1_0 hd1 h
    rw [d_laws_toAlphaS_L1] at h
    refine AWr_succ fun N1 hN1 hS1 => ?_
    obtain ⟨y41, h42, h⟩ := den_bind h
    obtain ⟨h43, h⟩ := den_ok h
    obtain ⟨x44, h45, h⟩ := den_bind h
    exact ((((((pre0.lt Alpha.c hd1).l (map_row Alpha.c 3 (dc hd1) rfl)).g (d_laws_toAlpha_good h42)).i (own_ix 3 h43)).w (show ((w1_0).map Alpha.c)[i1]? = some [D.str (x44.shape.rel), D.sl ((x44.shape.args).map tx), D.sl ((x44.facts).map Fact.c)] from map_get Alpha.c h45)).a [.row [D.str (x44.shape.rel), D.sl ((x44.shape.args).map tx), D.sl ((x44.facts).map Fact.c)], .cn [0, 3, 4] [0]]).cs hΓ hS1 (d_laws_toAlphaS_S1 a0_ (((w1_0).map Alpha.c).set i1 [D.str (y41.shape.rel), D.sl ((y41.shape.args).map tx), D.sl ((y41.facts).map Fact.c)]) (IntKind.i64.wrap (((i1 : Int)) + (1)))) (by first | (simp only [iS hd1 hm1, mA] <;> rfl) | (simp only [iS hd1 hm1, mA, Fact.c, Pair.c, Cond.c, Action.c, Rule.c, Token.c, Match.c, Alpha.c, Node.c, Network.c, Stamp.c] <;> rfl)) (ih1 (i1 + 1) ((w1_0).set i1 y41) (dn hd1) h)
theorem d_laws_toAlphaS_good {a0_ : List Alpha} {r : List Alpha} (h : d_laws_toAlphaS a0_ = some r) : Good Try.prog 38 [D.sl ((a0_).map Alpha.c)] (D.fr 123 3 ((r).map Alpha.c)) := by
  refine gd Try.func38 [[some (123, 3)]] 23 fun hr Γ hΓ => ?_
  rw [d_laws_toAlphaS] at h
  obtain ⟨h1, h⟩ := den_ok h
  refine ((pre0.w (roomM_ok h1)).a [.cn [0, 3, 4] [0]]).lps hΓ (d_laws_toAlphaS_S1 a0_ (List.replicate ((((a0_).map Alpha.c).length : Int)).toNat [D.str ([]), D.sl ([]), D.sl ([])]) 0) (by first | (simp only [mA] <;> rfl) | (simp only [mA, Fact.c, Pair.c, Cond.c, Action.c, Rule.c, Token.c, Match.c, Alpha.c, Node.c, Network.c, Stamp.c] <;> rfl)) (d_laws_toAlphaS_L1w hΓ (fun q1_0 h => ?_) (by have := (Rdb.sl (hr _ (List.mem_of_getElem? (i := 0) rfl))).1; simpa using this) (a0_) 0 (List.replicate ((((a0_).map Alpha.c).length : Int)).toNat (⟨(⟨([] : Bytes), []⟩ : Fact), []⟩ : Alpha)) rfl h)
  have h := den_some h; subst h; exact pre0.ret hΓ
def d_laws_toPair (a0_ : Pair) : Option Pair := (some (a0_))
theorem d_laws_toPair_good {a0_ : Pair} {r : Pair} (h : d_laws_toPair a0_ = some r) : Good Try.prog 119 [D.agg (Pair.c a0_)] (D.agg [D.str (r.var), D.str (r.value)]) := by
  refine gd Try.func119 [[none, none]] 11 fun hr Γ hΓ => ?_
  rw [d_laws_toPair] at h
  have h := den_some h; subst h; exact pre0.ret hΓ
def d_laws_toPairS_L1 (a0_ : List Pair) (k1 : List Pair → Option (List Pair)) : List Pair → Nat → List Pair → Option (List Pair)
  | [], i1, w1_0 => (k1 (w1_0))
  | x1_ :: xs1, i1, w1_0 => ((d_laws_toPair (x1_)).bind fun y41 => (bif decide (i1 < ((w1_0).map Pair.c).length) then (((w1_0)[i1]?).bind fun x44 => (d_laws_toPairS_L1 a0_ k1 xs1 (i1 + 1) ((w1_0).set i1 y41))) else none))
def d_laws_toPairS (a0_ : List Pair) : Option (List Pair) := (bif roomM ((((a0_).map Pair.c).length : Int)) 32 then (d_laws_toPairS_L1 a0_ (fun (q1_0 : List Pair) => (some (q1_0))) (a0_) 0 (List.replicate ((((a0_).map Pair.c).length : Int)).toNat (⟨([] : Bytes), ([] : Bytes)⟩ : Pair))) else none)
def d_laws_toPairS_S1 (a0_ : List Pair) (W0 : List (List D)) (ix_ : Int) : St := ⟨[(0, D.sl ((a0_).map Pair.c)), (3, D.acc 0), (4, D.int .i64 (ix_))], [Ob.row .uq 185 2 (W0)]⟩
theorem d_laws_toPairS_L1w (hΓ : Γ.nt = 23) {a0_ : List Pair} {r : List Pair} {k1 : List Pair → Option (List Pair)} (hE1 : ∀ (q1_0 : List Pair), k1 q1_0 = some r → Ax Γ N Try.f116 (.q [[some (185, 2)]] (D.fr 185 2 ((r).map Pair.c))) [1, 1, 1] ⟨[(3, D.acc 0)], [Ob.row .uq 185 2 ((q1_0).map Pair.c)]⟩) (hm1 : (a0_).length ≤ maxLen) : ∀ (rest : List Pair) (i1 : Nat) (w1_0 : List Pair), (a0_).drop i1 = rest → d_laws_toPairS_L1 a0_ k1 rest i1 w1_0 = some r → Ar Γ N Try.f116 (.q [[some (185, 2)]] (D.fr 185 2 ((r).map Pair.c))) [1, 1, 0, 1, 0] (rest.length + 1) (d_laws_toPairS_S1 a0_ ((w1_0).map Pair.c) ((i1 : Int))) := by
  intro rest
  induction rest with
  | nil =>
    intro i1 w1_0 hd1 h
    rw [d_laws_toPairS_L1] at h
    refine AWr_succ fun N1 hN1 hS1 => ?_
    exact ((pre0.ge Pair.c hd1).a [.hl 0 [3] [0]]).ex hΓ hN1 (hE1 (w1_0) h)
  | cons x1_ xs1 ih1 =>
    intro i1 w1_0 hd1 h
    rw [d_laws_toPairS_L1] at h
    refine AWr_succ fun N1 hN1 hS1 => ?_
    obtain ⟨y41, h42, h⟩ := den_bind h
    obtain ⟨h43, h⟩ := den_ok h
    obtain ⟨x44, h45, h⟩ := den_bind h
    exact ((((((pre0.lt Pair.c hd1).l (map_row Pair.c 2 (dc hd1) rfl)).g (d_laws_toPair_good h42)).i (own_ix 2 h43)).w (show ((w1_0).map Pair.c)[i1]? = some [D.str (x44.var), D.str (x44.value)] from map_get Pair.c h45)).a [.row [D.str (x44.var), D.str (x44.value)], .cn [0, 3, 4] [0]]).cs hΓ hS1 (d_laws_toPairS_S1 a0_ (((w1_0).map Pair.c).set i1 [D.str (y41.var), D.str (y41.value)]) (IntKind.i64.wrap (((i1 : Int)) + (1)))) (by first | (simp only [iS hd1 hm1, mA] <;> rfl) | (simp only [iS hd1 hm1, mA, Fact.c, Pair.c, Cond.c, Action.c, Rule.c, Token.c, Match.c, Alpha.c, Node.c, Network.c, Stamp.c] <;> rfl)) (ih1 (i1 + 1) ((w1_0).set i1 y41) (dn hd1) h)
theorem d_laws_toPairS_good {a0_ : List Pair} {r : List Pair} (h : d_laws_toPairS a0_ = some r) : Good Try.prog 116 [D.sl ((a0_).map Pair.c)] (D.fr 185 2 ((r).map Pair.c)) := by
  refine gd Try.func116 [[some (185, 2)]] 23 fun hr Γ hΓ => ?_
  rw [d_laws_toPairS] at h
  obtain ⟨h1, h⟩ := den_ok h
  refine ((pre0.w (roomM_ok h1)).a [.cn [0, 3, 4] [0]]).lps hΓ (d_laws_toPairS_S1 a0_ (List.replicate ((((a0_).map Pair.c).length : Int)).toNat [D.str ([]), D.str ([])]) 0) (by first | (simp only [mA] <;> rfl) | (simp only [mA, Fact.c, Pair.c, Cond.c, Action.c, Rule.c, Token.c, Match.c, Alpha.c, Node.c, Network.c, Stamp.c] <;> rfl)) (d_laws_toPairS_L1w hΓ (fun q1_0 h => ?_) (by have := (Rdb.sl (hr _ (List.mem_of_getElem? (i := 0) rfl))).1; simpa using this) (a0_) 0 (List.replicate ((((a0_).map Pair.c).length : Int)).toNat (⟨([] : Bytes), ([] : Bytes)⟩ : Pair)) rfl h)
  have h := den_some h; subst h; exact pre0.ret hΓ
def d_laws_toToken (a0_ : Token) : Option Token := ((d_laws_toFactS (a0_.facts)).bind fun y1 => ((d_laws_toPairS (a0_.bind)).bind fun y3 => (some ((⟨y1, y3⟩ : Token)))))
theorem d_laws_toToken_good {a0_ : Token} {r : Token} (h : d_laws_toToken a0_ = some r) : Good Try.prog 111 [D.agg (Token.c a0_)] (D.agg [D.fr 126 2 ((r.facts).map Fact.c), D.fr 185 2 ((r.bind).map Pair.c)]) := by
  refine gd Try.func111 [[some (126, 2), some (185, 2)]] 13 fun hr Γ hΓ => ?_
  rw [d_laws_toToken] at h
  obtain ⟨y1, h2, h⟩ := den_bind h
  obtain ⟨y3, h4, h⟩ := den_bind h
  cases h; exact ((pre0.g (d_laws_toFactS_good h2)).g (d_laws_toPairS_good h4)).ret hΓ
def d_laws_toTokenS_L1 (a0_ : List Token) (k1 : List Token → Option (List Token)) : List Token → Nat → List Token → Option (List Token)
  | [], i1, w1_0 => (k1 (w1_0))
  | x1_ :: xs1, i1, w1_0 => ((d_laws_toToken (x1_)).bind fun y41 => (bif decide (i1 < ((w1_0).map Token.c).length) then (((w1_0)[i1]?).bind fun x44 => (d_laws_toTokenS_L1 a0_ k1 xs1 (i1 + 1) ((w1_0).set i1 y41))) else none))
def d_laws_toTokenS (a0_ : List Token) : Option (List Token) := (bif roomM ((((a0_).map Token.c).length : Int)) 48 then (d_laws_toTokenS_L1 a0_ (fun (q1_0 : List Token) => (some (q1_0))) (a0_) 0 (List.replicate ((((a0_).map Token.c).length : Int)).toNat (⟨[], []⟩ : Token))) else none)
def d_laws_toTokenS_S1 (a0_ : List Token) (W0 : List (List D)) (ix_ : Int) : St := ⟨[(0, D.sl ((a0_).map Token.c)), (3, D.acc 0), (4, D.int .i64 (ix_))], [Ob.row .uq 168 2 (W0)]⟩
theorem d_laws_toTokenS_L1w (hΓ : Γ.nt = 23) {a0_ : List Token} {r : List Token} {k1 : List Token → Option (List Token)} (hE1 : ∀ (q1_0 : List Token), k1 q1_0 = some r → Ax Γ N Try.f96 (.q [[some (168, 2)]] (D.fr 168 2 ((r).map Token.c))) [1, 1, 1] ⟨[(3, D.acc 0)], [Ob.row .uq 168 2 ((q1_0).map Token.c)]⟩) (hm1 : (a0_).length ≤ maxLen) : ∀ (rest : List Token) (i1 : Nat) (w1_0 : List Token), (a0_).drop i1 = rest → d_laws_toTokenS_L1 a0_ k1 rest i1 w1_0 = some r → Ar Γ N Try.f96 (.q [[some (168, 2)]] (D.fr 168 2 ((r).map Token.c))) [1, 1, 0, 1, 0] (rest.length + 1) (d_laws_toTokenS_S1 a0_ ((w1_0).map Token.c) ((i1 : Int))) := by
  intro rest
  induction rest with
  | nil =>
    intro i1 w1_0 hd1 h
    rw [d_laws_toTokenS_L1] at h
    refine AWr_succ fun N1 hN1 hS1 => ?_
    exact ((pre0.ge Token.c hd1).a [.hl 0 [3] [0]]).ex hΓ hN1 (hE1 (w1_0) h)
  | cons x1_ xs1 ih1 =>
    intro i1 w1_0 hd1 h
    rw [d_laws_toTokenS_L1] at h
    refine AWr_succ fun N1 hN1 hS1 => ?_
    obtain ⟨y41, h42, h⟩ := den_bind h
    obtain ⟨h43, h⟩ := den_ok h
    obtain ⟨x44, h45, h⟩ := den_bind h
    exact ((((((pre0.lt Token.c hd1).l (map_row Token.c 2 (dc hd1) rfl)).g (d_laws_toToken_good h42)).i (own_ix 2 h43)).w (show ((w1_0).map Token.c)[i1]? = some [D.sl ((x44.facts).map Fact.c), D.sl ((x44.bind).map Pair.c)] from map_get Token.c h45)).a [.row [D.sl ((x44.facts).map Fact.c), D.sl ((x44.bind).map Pair.c)], .cn [0, 3, 4] [0]]).cs hΓ hS1 (d_laws_toTokenS_S1 a0_ (((w1_0).map Token.c).set i1 [D.sl ((y41.facts).map Fact.c), D.sl ((y41.bind).map Pair.c)]) (IntKind.i64.wrap (((i1 : Int)) + (1)))) (by first | (simp only [iS hd1 hm1, mA] <;> rfl) | (simp only [iS hd1 hm1, mA, Fact.c, Pair.c, Cond.c, Action.c, Rule.c, Token.c, Match.c, Alpha.c, Node.c, Network.c, Stamp.c] <;> rfl)) (ih1 (i1 + 1) ((w1_0).set i1 y41) (dn hd1) h)
theorem d_laws_toTokenS_good {a0_ : List Token} {r : List Token} (h : d_laws_toTokenS a0_ = some r) : Good Try.prog 96 [D.sl ((a0_).map Token.c)] (D.fr 168 2 ((r).map Token.c)) := by
  refine gd Try.func96 [[some (168, 2)]] 23 fun hr Γ hΓ => ?_
  rw [d_laws_toTokenS] at h
  obtain ⟨h1, h⟩ := den_ok h
  refine ((pre0.w (roomM_ok h1)).a [.cn [0, 3, 4] [0]]).lps hΓ (d_laws_toTokenS_S1 a0_ (List.replicate ((((a0_).map Token.c).length : Int)).toNat [D.sl ([]), D.sl ([])]) 0) (by first | (simp only [mA] <;> rfl) | (simp only [mA, Fact.c, Pair.c, Cond.c, Action.c, Rule.c, Token.c, Match.c, Alpha.c, Node.c, Network.c, Stamp.c] <;> rfl)) (d_laws_toTokenS_L1w hΓ (fun q1_0 h => ?_) (by have := (Rdb.sl (hr _ (List.mem_of_getElem? (i := 0) rfl))).1; simpa using this) (a0_) 0 (List.replicate ((((a0_).map Token.c).length : Int)).toNat (⟨[], []⟩ : Token)) rfl h)
  have h := den_some h; subst h; exact pre0.ret hΓ
def d_laws_toNode (a0_ : Node) : Option Node := ((d_laws_toCond (a0_.cond)).bind fun y1 => ((d_laws_toTokenS (a0_.tokens)).bind fun y3 => (some ((⟨a0_.parent, y1, a0_.alpha, y3⟩ : Node)))))
theorem d_laws_toNode_good {a0_ : Node} {r : Node} (h : d_laws_toNode a0_ = some r) : Good Try.prog 65 [D.agg (Node.c a0_)] (D.agg [D.int .i64 (r.parent), D.int .i64 (r.cond.kind), D.str (r.cond.pat.rel), D.fr 9 1 ((r.cond.pat.args).map tx), D.str (r.cond.left), D.str (r.cond.right), D.int .i64 (r.alpha), D.fr 168 2 ((r.tokens).map Token.c)]) := by
  refine gd Try.func65 [[none, none, none, some (9, 1), none, none, none, some (168, 2)]] 19 fun hr Γ hΓ => ?_
  rw [d_laws_toNode] at h
  obtain ⟨y1, h2, h⟩ := den_bind h
  obtain ⟨y3, h4, h⟩ := den_bind h
  cases h; exact ((pre0.g (d_laws_toCond_good h2)).g (d_laws_toTokenS_good h4)).ret hΓ
def d_laws_toNodeS_L1 (a0_ : List Node) (k1 : List Node → Option (List Node)) : List Node → Nat → List Node → Option (List Node)
  | [], i1, w1_0 => (k1 (w1_0))
  | x1_ :: xs1, i1, w1_0 => ((d_laws_toNode (x1_)).bind fun y41 => (bif decide (i1 < ((w1_0).map Node.c).length) then (((w1_0)[i1]?).bind fun x44 => (d_laws_toNodeS_L1 a0_ k1 xs1 (i1 + 1) ((w1_0).set i1 y41))) else none))
def d_laws_toNodeS (a0_ : List Node) : Option (List Node) := (bif roomM ((((a0_).map Node.c).length : Int)) 120 then (d_laws_toNodeS_L1 a0_ (fun (q1_0 : List Node) => (some (q1_0))) (a0_) 0 (List.replicate ((((a0_).map Node.c).length : Int)).toNat (⟨(0 : Int), (⟨(0 : Int), (⟨([] : Bytes), []⟩ : Fact), ([] : Bytes), ([] : Bytes)⟩ : Cond), (0 : Int), []⟩ : Node))) else none)
def d_laws_toNodeS_S1 (a0_ : List Node) (W0 : List (List D)) (ix_ : Int) : St := ⟨[(0, D.sl ((a0_).map Node.c)), (3, D.acc 0), (4, D.int .i64 (ix_))], [Ob.row .uq 74 8 (W0)]⟩
theorem d_laws_toNodeS_L1w (hΓ : Γ.nt = 23) {a0_ : List Node} {r : List Node} {k1 : List Node → Option (List Node)} (hE1 : ∀ (q1_0 : List Node), k1 q1_0 = some r → Ax Γ N Try.f39 (.q [[some (74, 8)]] (D.fr 74 8 ((r).map Node.c))) [1, 1, 1] ⟨[(3, D.acc 0)], [Ob.row .uq 74 8 ((q1_0).map Node.c)]⟩) (hm1 : (a0_).length ≤ maxLen) : ∀ (rest : List Node) (i1 : Nat) (w1_0 : List Node), (a0_).drop i1 = rest → d_laws_toNodeS_L1 a0_ k1 rest i1 w1_0 = some r → Ar Γ N Try.f39 (.q [[some (74, 8)]] (D.fr 74 8 ((r).map Node.c))) [1, 1, 0, 1, 0] (rest.length + 1) (d_laws_toNodeS_S1 a0_ ((w1_0).map Node.c) ((i1 : Int))) := by
  intro rest
  induction rest with
  | nil =>
    intro i1 w1_0 hd1 h
    rw [d_laws_toNodeS_L1] at h
    refine AWr_succ fun N1 hN1 hS1 => ?_
    exact ((pre0.ge Node.c hd1).a [.hl 0 [3] [0]]).ex hΓ hN1 (hE1 (w1_0) h)
  | cons x1_ xs1 ih1 =>
    intro i1 w1_0 hd1 h
    rw [d_laws_toNodeS_L1] at h
    refine AWr_succ fun N1 hN1 hS1 => ?_
    obtain ⟨y41, h42, h⟩ := den_bind h
    obtain ⟨h43, h⟩ := den_ok h
    obtain ⟨x44, h45, h⟩ := den_bind h
    exact ((((((pre0.lt Node.c hd1).l (map_row Node.c 8 (dc hd1) rfl)).g (d_laws_toNode_good h42)).i (own_ix 8 h43)).w (show ((w1_0).map Node.c)[i1]? = some [D.int .i64 (x44.parent), D.int .i64 (x44.cond.kind), D.str (x44.cond.pat.rel), D.sl ((x44.cond.pat.args).map tx), D.str (x44.cond.left), D.str (x44.cond.right), D.int .i64 (x44.alpha), D.sl ((x44.tokens).map Token.c)] from map_get Node.c h45)).a [.row [D.int .i64 (x44.parent), D.int .i64 (x44.cond.kind), D.str (x44.cond.pat.rel), D.sl ((x44.cond.pat.args).map tx), D.str (x44.cond.left), D.str (x44.cond.right), D.int .i64 (x44.alpha), D.sl ((x44.tokens).map Token.c)], .cn [0, 3, 4] [0]]).cs hΓ hS1 (d_laws_toNodeS_S1 a0_ (((w1_0).map Node.c).set i1 [D.int .i64 (y41.parent), D.int .i64 (y41.cond.kind), D.str (y41.cond.pat.rel), D.sl ((y41.cond.pat.args).map tx), D.str (y41.cond.left), D.str (y41.cond.right), D.int .i64 (y41.alpha), D.sl ((y41.tokens).map Token.c)]) (IntKind.i64.wrap (((i1 : Int)) + (1)))) (by first | (simp only [iS hd1 hm1, mA] <;> rfl) | (simp only [iS hd1 hm1, mA, Fact.c, Pair.c, Cond.c, Action.c, Rule.c, Token.c, Match.c, Alpha.c, Node.c, Network.c, Stamp.c] <;> rfl)) (ih1 (i1 + 1) ((w1_0).set i1 y41) (dn hd1) h)
theorem d_laws_toNodeS_good {a0_ : List Node} {r : List Node} (h : d_laws_toNodeS a0_ = some r) : Good Try.prog 39 [D.sl ((a0_).map Node.c)] (D.fr 74 8 ((r).map Node.c)) := by
  refine gd Try.func39 [[some (74, 8)]] 23 fun hr Γ hΓ => ?_
  rw [d_laws_toNodeS] at h
  obtain ⟨h1, h⟩ := den_ok h
  refine ((pre0.w (roomM_ok h1)).a [.cn [0, 3, 4] [0]]).lps hΓ (d_laws_toNodeS_S1 a0_ (List.replicate ((((a0_).map Node.c).length : Int)).toNat [D.int .i64 (0), D.int .i64 (0), D.str ([]), D.sl ([]), D.str ([]), D.str ([]), D.int .i64 (0), D.sl ([])]) 0) (by first | (simp only [mA] <;> rfl) | (simp only [mA, Fact.c, Pair.c, Cond.c, Action.c, Rule.c, Token.c, Match.c, Alpha.c, Node.c, Network.c, Stamp.c] <;> rfl)) (d_laws_toNodeS_L1w hΓ (fun q1_0 h => ?_) (by have := (Rdb.sl (hr _ (List.mem_of_getElem? (i := 0) rfl))).1; simpa using this) (a0_) 0 (List.replicate ((((a0_).map Node.c).length : Int)).toNat (⟨(0 : Int), (⟨(0 : Int), (⟨([] : Bytes), []⟩ : Fact), ([] : Bytes), ([] : Bytes)⟩ : Cond), (0 : Int), []⟩ : Node)) rfl h)
  have h := den_some h; subst h; exact pre0.ret hΓ
def d_laws_toNetwork (a0_ : Network) : Option Network := ((d_laws_toRuleS (a0_.rules)).bind fun y1 => ((d_laws_toIntS (a0_.ends)).bind fun y3 => ((d_laws_toAlphaS (a0_.alphas)).bind fun y5 => ((d_laws_toNodeS (a0_.nodes)).bind fun y7 => ((d_laws_toFactS (a0_.facts)).bind fun y9 => (some ((⟨y1, y3, y5, y7, y9, a0_.tries⟩ : Network))))))))
theorem d_laws_toNetwork_good {a0_ : Network} {r : Network} (h : d_laws_toNetwork a0_ = some r) : Good Try.prog 16 [D.agg (Network.c a0_)] (D.agg [D.fr 120 4 ((r.rules).map Rule.c), D.fr 3 1 ((r.ends).map ixx), D.fr 123 3 ((r.alphas).map Alpha.c), D.fr 74 8 ((r.nodes).map Node.c), D.fr 126 2 ((r.facts).map Fact.c), D.int .i64 (r.tries)]) := by
  refine gd Try.func16 [[some (120, 4), some (3, 1), some (123, 3), some (74, 8), some (126, 2), none]] 28 fun hr Γ hΓ => ?_
  rw [d_laws_toNetwork] at h
  obtain ⟨y1, h2, h⟩ := den_bind h
  obtain ⟨y3, h4, h⟩ := den_bind h
  obtain ⟨y5, h6, h⟩ := den_bind h
  obtain ⟨y7, h8, h⟩ := den_bind h
  obtain ⟨y9, h10, h⟩ := den_bind h
  cases h; exact (((((pre0.g (d_laws_toRuleS_good h2)).g (d_laws_toIntS_good h4)).g (d_laws_toAlphaS_good h6)).g (d_laws_toNodeS_good h8)).g (d_laws_toFactS_good h10)).ret hΓ
end Go.Cx
