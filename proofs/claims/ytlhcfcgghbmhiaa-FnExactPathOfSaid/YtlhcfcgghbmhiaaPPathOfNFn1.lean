/- What functions of the program compute, and the walks that show it. No condition. -/
import Derived.Test.YtlhcfcgghbmhiaaNLay
namespace Go.Cx
open Go.RowKit Go.Proofs
set_option linter.unusedVariables false
set_option linter.unusedSimpArgs false
set_option maxRecDepth 100000
variable {Γ : Ctx} {N : Nat → St → Prop}
def d_spec_l1In (a0_ : Int) (a1_ : Int) (a2_ : Int) : Option Bool := (bif decide ((a0_ : Int) ≥ (a1_)) then (some (decide ((a0_ : Int) ≤ (a2_)))) else (some (false)))
theorem d_spec_l1In_good {a0_ : Int} {a1_ : Int} {a2_ : Int} {r : Bool} (h : d_spec_l1In a0_ a1_ a2_ = some r) : Good Try.prog 35 [D.int .i64 (a0_), D.int .i64 (a1_), D.int .i64 (a2_)] (D.bool (r)) := by
  refine gd Try.func35 [[none]] 15 fun hr Γ hΓ => ?_
  rw [d_spec_l1In] at h
  obtain ⟨h1, h⟩ | ⟨h1, h⟩ := den_if h
  · cases h; exact (pre0.r 4 h1).ret hΓ
  · have h := den_some h; subst h; exact (pre0.r 4 h1).ret hΓ
def d_spec_l4Renamed_L1 (a0_ : Bytes) (a1_ : List Pair) (k1 : Option Bytes) : List Pair → Nat → Option Bytes
  | [], i1 => (k1 )
  | x1_ :: xs1, i1 => (bif (x1_.var : Bytes) == (a0_) then (some (x1_.value)) else (d_spec_l4Renamed_L1 a0_ a1_ k1 xs1 (i1 + 1) ))
def d_spec_l4Renamed (a0_ : Bytes) (a1_ : List Pair) : Option Bytes := (d_spec_l4Renamed_L1 a0_ a1_ (some (a0_)) (a1_) 0 )
def d_spec_l4Renamed_S1 (a0_ : Bytes) (a1_ : List Pair) (ix_ : Int) : St := ⟨[(0, D.str (a0_)), (1, D.sl ((a1_).map Pair.c)), (5, D.int .i64 (ix_))], []⟩
theorem d_spec_l4Renamed_L1w (hΓ : Γ.nt = 25) {a0_ : Bytes} {a1_ : List Pair} {r : Bytes} {k1 : Option Bytes} (hE1 : k1 = some r → Ax Γ N Try.f91 (.q [[none]] (D.str (r))) [1, 1] ⟨[(0, D.str (a0_))], []⟩) (hm1 : (a1_).length ≤ maxLen) : ∀ (rest : List Pair) (i1 : Nat) , (a1_).drop i1 = rest → d_spec_l4Renamed_L1 a0_ a1_ k1 rest i1  = some r → Ar Γ N Try.f91 (.q [[none]] (D.str (r))) [1, 0, 1, 0] (rest.length + 1) (d_spec_l4Renamed_S1 a0_ a1_ ((i1 : Int))) := by
  intro rest
  induction rest with
  | nil =>
    intro i1  hd1 h
    rw [d_spec_l4Renamed_L1] at h
    refine AWr_succ fun N1 hN1 hS1 => ?_
    exact ((pre0.ge Pair.c hd1).a [.hl 0 [0] []]).ex hΓ hN1 (hE1 h)
  | cons x1_ xs1 ih1 =>
    intro i1  hd1 h
    rw [d_spec_l4Renamed_L1] at h
    refine AWr_succ fun N1 hN1 hS1 => ?_
    have o2_ := ((pre0.lt Pair.c hd1).l (map_row Pair.c 2 (dc hd1) rfl))
    obtain ⟨h13, h⟩ | ⟨h13, h⟩ := den_if h
    · cases h; exact ((o2_.b h13).l (map_row Pair.c 2 (dc hd1) rfl)).ret hΓ
    · exact ((o2_.b h13).a [.cn [0, 1, 5] []]).ct hΓ hS1 (iS hd1 hm1) (ih1 (i1 + 1)  (dn hd1) h)
theorem d_spec_l4Renamed_good {a0_ : Bytes} {a1_ : List Pair} {r : Bytes} (h : d_spec_l4Renamed a0_ a1_ = some r) : Good Try.prog 91 [D.str (a0_), D.sl ((a1_).map Pair.c)] (D.str (r)) := by
  refine gd Try.func91 [[none]] 25 fun hr Γ hΓ => ?_
  rw [d_spec_l4Renamed] at h
  refine (pre0.a [.cn [0, 1, 5] []]).lp hΓ (d_spec_l4Renamed_L1w hΓ (fun h => ?_) (by have := (Rdb.sl (hr _ (List.mem_of_getElem? (i := 1) rfl))).1; simpa using this) (a1_) 0  rfl h)
  have h := den_some h; subst h; exact pre0.ret hΓ
def d_spec_RenameCond_L1 (a0_ : Cond) (a1_ : List Pair) (y1 : Bytes) (y3 : Bytes) (k1 : List Bytes → Option Cond) : List Bytes → Nat → List Bytes → Option Cond
  | [], i1, w1_3 => (k1 (w1_3))
  | x1_ :: xs1, i1, w1_3 => ((d_spec_l4Renamed (x1_) (a1_)).bind fun y31 => (bif room (((w1_3).map tx).length + ([[D.str (y31)]]).length) 16 then (d_spec_RenameCond_L1 a0_ a1_ y1 y3 k1 xs1 (i1 + 1) ((w1_3) ++ ([y31]))) else none))
def d_spec_RenameCond (a0_ : Cond) (a1_ : List Pair) : Option Cond := ((d_spec_l4Renamed (a0_.left) (a1_)).bind fun y1 => ((d_spec_l4Renamed (a0_.right) (a1_)).bind fun y3 => (d_spec_RenameCond_L1 a0_ a1_ y1 y3 (fun (q1_2 : List Bytes) => (some ((⟨a0_.kind, (⟨a0_.pat.rel, q1_2⟩ : Fact), y1, y3⟩ : Cond)))) (a0_.pat.args) 0 (([] : List Bytes)))))
def d_spec_RenameCond_S1 (a0_ : Cond) (a1_ : List Pair) (y1 : Bytes) (y3 : Bytes) (W0 : List (List D)) (ix_ : Int) : St := ⟨[(1, D.sl ((a1_).map Pair.c)), (2, D.ptr 0 0), (4, D.ptr 1 0), (5, D.ptr 2 0), (6, D.int .i64 (ix_))], [Ob.box (Cond.c a0_), Ob.box [D.int .i64 (0), D.str ([]), D.nil, D.str ([]), D.str ([])], Ob.box [D.int .i64 (a0_.kind), D.str (a0_.pat.rel), D.acc 3, D.str (y1), D.str (y3)], Ob.row .uq 9 1 (W0)]⟩
theorem d_spec_RenameCond_L1w (hΓ : Γ.nt = 46) {a0_ : Cond} {a1_ : List Pair} {y1 : Bytes} {y3 : Bytes} {r : Cond} {k1 : List Bytes → Option Cond} (hE1 : ∀ (q1_2 : List Bytes), k1 q1_2 = some r → Ax Γ N Try.f62 (.q [[none, none, some (9, 1), none, none]] (D.agg [D.int .i64 (r.kind), D.str (r.pat.rel), D.fr 9 1 ((r.pat.args).map tx), D.str (r.left), D.str (r.right)])) [1, 1, 1] ⟨[(4, D.ptr 0 0), (5, D.ptr 1 0)], [Ob.box [D.int .i64 (0), D.str ([]), D.nil, D.str ([]), D.str ([])], Ob.box [D.int .i64 (a0_.kind), D.str (a0_.pat.rel), D.acc 2, D.str (y1), D.str (y3)], Ob.row .uq 9 1 ((q1_2).map tx)]⟩) (hm1 : (a0_.pat.args).length ≤ maxLen) : ∀ (rest : List Bytes) (i1 : Nat) (w1_3 : List Bytes), (a0_.pat.args).drop i1 = rest → d_spec_RenameCond_L1 a0_ a1_ y1 y3 k1 rest i1 w1_3 = some r → Ar Γ N Try.f62 (.q [[none, none, some (9, 1), none, none]] (D.agg [D.int .i64 (r.kind), D.str (r.pat.rel), D.fr 9 1 ((r.pat.args).map tx), D.str (r.left), D.str (r.right)])) [1, 1, 0, 1, 0] (rest.length + 1) (d_spec_RenameCond_S1 a0_ a1_ y1 y3 ((w1_3).map tx) ((i1 : Int))) := by
  intro rest
  induction rest with
  | nil =>
    intro i1 w1_3 hd1 h
    rw [d_spec_RenameCond_L1] at h
    refine AWr_succ fun N1 hN1 hS1 => ?_
    exact ((pre0.ge tx hd1).a [.hl 0 [4, 5] [1, 2, 3]]).ex hΓ hN1 (hE1 (w1_3) h)
  | cons x1_ xs1 ih1 =>
    intro i1 w1_3 hd1 h
    rw [d_spec_RenameCond_L1] at h
    refine AWr_succ fun N1 hN1 hS1 => ?_
    obtain ⟨y31, h32, h⟩ := den_bind h
    obtain ⟨h33, h⟩ := den_ok h
    exact ((((((pre0.lt tx hd1).a [.n 12]).l (map_row tx 1 (dc hd1) rfl)).g (d_spec_l4Renamed_good h32)).w (room_ok h33)).a [.cn [1, 2, 4, 5, 6] [0, 1, 2, 5]]).cs hΓ hS1 (d_spec_RenameCond_S1 a0_ a1_ y1 y3 (((w1_3).map tx) ++ ([[D.str (y31)]])) (IntKind.i64.wrap (((i1 : Int)) + (1)))) (by first | (simp only [iS hd1 hm1, mA] <;> rfl) | (simp only [iS hd1 hm1, mA, Fact.c, Pair.c, Cond.c, Action.c, Rule.c, Token.c, Match.c, Alpha.c, Node.c, Network.c, Stamp.c] <;> rfl)) (ih1 (i1 + 1) ((w1_3) ++ ([y31])) (dn hd1) h)
theorem d_spec_RenameCond_good {a0_ : Cond} {a1_ : List Pair} {r : Cond} (h : d_spec_RenameCond a0_ a1_ = some r) : Good Try.prog 62 [D.agg (Cond.c a0_), D.sl ((a1_).map Pair.c)] (D.agg [D.int .i64 (r.kind), D.str (r.pat.rel), D.fr 9 1 ((r.pat.args).map tx), D.str (r.left), D.str (r.right)]) := by
  refine gd Try.func62 [[none, none, some (9, 1), none, none]] 46 fun hr Γ hΓ => ?_
  rw [d_spec_RenameCond] at h
  obtain ⟨y1, h2, h⟩ := den_bind h
  obtain ⟨y3, h4, h⟩ := den_bind h
  refine ((((pre0.a [.n 16]).g (d_spec_l4Renamed_good h2)).g (d_spec_l4Renamed_good h4)).a [.pb 2 2 9 1, .cn [1, 2, 4, 5, 6] [0, 1, 2, 3]]).lp hΓ (d_spec_RenameCond_L1w hΓ (fun q1_2 h => ?_) (by have := (Rdb.sl (Rdb.agg (hr _ (List.mem_of_getElem? (i := 0) rfl)) (.sl ((a0_.pat.args).map tx)) (by simp))).1; simpa using this) (a0_.pat.args) 0 (([] : List Bytes)) rfl h)
  cases h; exact pre0.ret hΓ
def d_spec_l4Copy (a0_ : Cond) : Option Cond := ((d_spec_RenameCond (a0_) ([])).bind fun y1 => (some (y1)))
theorem d_spec_l4Copy_good {a0_ : Cond} {r : Cond} (h : d_spec_l4Copy a0_ = some r) : Good Try.prog 36 [D.agg (Cond.c a0_)] (D.agg [D.int .i64 (r.kind), D.str (r.pat.rel), D.fr 9 1 ((r.pat.args).map tx), D.str (r.left), D.str (r.right)]) := by
  refine gd Try.func36 [[none, none, some (9, 1), none, none]] 5 fun hr Γ hΓ => ?_
  rw [d_spec_l4Copy] at h
  obtain ⟨y1, h2, h⟩ := den_bind h
  have h := den_some h; subst h; exact ((pre0.a [.d (D.agg [D.int .i64 (y1.kind), D.str (y1.pat.rel), D.fr 9 1 ((y1.pat.args).map tx), D.str (y1.left), D.str (y1.right)])]).w (show Good Try.prog 62 [D.agg (Cond.c (a0_)), D.sl ([])] (D.agg [D.int .i64 (y1.kind), D.str (y1.pat.rel), D.fr 9 1 ((y1.pat.args).map tx), D.str (y1.left), D.str (y1.right)]) from by first | (simpa only [List.map_append, List.map_cons, List.map_nil, List.map_drop, List.map_take] using d_spec_RenameCond_good h2) | exact d_spec_RenameCond_good h2)).ret hΓ
def d_spec_PathOf_L1 (a0_ : Network) (k1 : List Cond → Option (List Cond)) : Nat → Int → List Cond → Option (List Cond)
  | 0, _, _ => none
  | n1 + 1, v1_1, w1_1 => ((d_spec_l1In (v1_1) (1) (IntKind.i64.wrap (((((a0_.nodes).map Node.c).length : Int)) - (1)))).bind fun y28 => (bif y28 then ((atI (a0_.nodes) (v1_1)).bind fun x31 => ((d_spec_l4Copy (x31.cond)).bind fun y33 => (bif room (([[D.int .i64 (y33.kind), D.str (y33.pat.rel), D.sl ((y33.pat.args).map tx), D.str (y33.left), D.str (y33.right)]]).length + ((w1_1).map Cond.c).length) 80 then (bif decide ((x31.parent : Int) ≥ (v1_1)) then (k1 (([y33]) ++ (w1_1))) else (d_spec_PathOf_L1 a0_ k1 n1 (x31.parent) (([y33]) ++ (w1_1)))) else none))) else (k1 (w1_1))))
def d_spec_PathOf (a0_ : Network) (a1_ : Int) : Option (List Cond) := (d_spec_PathOf_L1 a0_ (fun (q1_0 : List Cond) => (some (q1_0))) fuel (a1_) (([] : List Cond)))
def d_spec_PathOf_S1 (a0_ : Network) (v1_1 : Int) (W1 : List (List D)) : St := ⟨[(1, D.int .i64 (v1_1)), (2, D.ptr 0 0), (5, D.acc 1)], [Ob.box (Network.c a0_), Ob.row .uq 70 5 (W1)]⟩
theorem d_spec_PathOf_L1w (hΓ : Γ.nt = 35) {a0_ : Network} {r : List Cond} {k1 : List Cond → Option (List Cond)} (hE1 : ∀ (q1_0 : List Cond), k1 q1_0 = some r → Ax Γ N Try.f15 (.q [[some (70, 5)]] (D.fr 70 5 ((r).map Cond.c))) [1, 1, 1] ⟨[(5, D.acc 0)], [Ob.row .uq 70 5 ((q1_0).map Cond.c)]⟩) : ∀ (n1 : Nat) (v1_1 : Int) (w1_1 : List Cond), d_spec_PathOf_L1 a0_ k1 n1 v1_1 w1_1 = some r → Ar Γ N Try.f15 (.q [[some (70, 5)]] (D.fr 70 5 ((r).map Cond.c))) [1, 1, 0, 0] n1 (d_spec_PathOf_S1 a0_ v1_1 ((w1_1).map Cond.c)) := by
  intro n
  induction n with
  | zero => intro v1_1 w1_1 h; simp [d_spec_PathOf_L1] at h
  | succ n1 ih1 =>
    intro v1_1 w1_1 h
    rw [d_spec_PathOf_L1] at h
    refine AWr_succ fun N1 hN1 hS1 => ?_
    obtain ⟨y28, h29, h⟩ := den_bind h
    obtain ⟨h30, h⟩ | ⟨h30, h⟩ := den_if h
    · obtain ⟨x31, h32, h⟩ := den_bind h
      obtain ⟨y33, h34, h⟩ := den_bind h
      obtain ⟨h35, h⟩ := den_ok h
      have o2_ := ((((((pre0.g (d_spec_l1In_good h29)).b h30).l (at_row Node.c 8 h32 rfl)).g (d_spec_l4Copy_good h34)).w (room_ok h35)).l (at_row Node.c 8 h32 rfl))
      obtain ⟨h36, h⟩ | ⟨h36, h⟩ := den_if h
      · exact ((o2_.b h36).a [.hl 0 [5] [4]]).exs hΓ hN1 ⟨[(5, D.acc 0)], [Ob.row .uq 70 5 (([[D.int .i64 (y33.kind), D.str (y33.pat.rel), D.sl ((y33.pat.args).map tx), D.str (y33.left), D.str (y33.right)]]) ++ ((w1_1).map Cond.c))]⟩ (by first | (simp only [mA] <;> rfl) | (simp only [mA, Fact.c, Pair.c, Cond.c, Action.c, Rule.c, Token.c, Match.c, Alpha.c, Node.c, Network.c, Stamp.c] <;> rfl)) (hE1 (([y33]) ++ (w1_1)) h)
      · exact ((o2_.b h36).a [.cn [1, 2, 5] [0, 4]]).cs hΓ hS1 (d_spec_PathOf_S1 a0_ (x31.parent) (([[D.int .i64 (y33.kind), D.str (y33.pat.rel), D.sl ((y33.pat.args).map tx), D.str (y33.left), D.str (y33.right)]]) ++ ((w1_1).map Cond.c))) (by first | (simp only [mA] <;> rfl) | (simp only [mA, Fact.c, Pair.c, Cond.c, Action.c, Rule.c, Token.c, Match.c, Alpha.c, Node.c, Network.c, Stamp.c] <;> rfl)) (ih1 (x31.parent) (([y33]) ++ (w1_1)) h)
    · exact (((pre0.g (d_spec_l1In_good h29)).b h30).a [.hl 0 [5] [1]]).ex hΓ hN1 (hE1 (w1_1) h)
theorem d_spec_PathOf_good {a0_ : Network} {a1_ : Int} {r : List Cond} (h : d_spec_PathOf a0_ a1_ = some r) : Good Try.prog 15 [D.agg (Network.c a0_), D.int .i64 (a1_)] (D.fr 70 5 ((r).map Cond.c)) := by
  refine gd Try.func15 [[some (70, 5)]] 35 fun hr Γ hΓ => ?_
  rw [d_spec_PathOf] at h
  refine (pre0.a [.cn [1, 2, 5] [0, 1]]).lp hΓ (d_spec_PathOf_L1w hΓ (fun q1_0 h => ?_) fuel (a1_) (([] : List Cond)) h)
  have h := den_some h; subst h; exact pre0.ret hΓ
def d_impl_copyTexts (a0_ : List Bytes) : Option (List Bytes) := (bif room ((([] : List (List D))).length + ((a0_).map tx).length) 16 then (some ((([] : List Bytes)) ++ (a0_))) else none)
theorem d_impl_copyTexts_good {a0_ : List Bytes} {r : List Bytes} (h : d_impl_copyTexts a0_ = some r) : Good Try.prog 98 [D.sl ((a0_).map tx)] (D.fr 9 1 ((r).map tx)) := by
  refine gd Try.func98 [[some (9, 1)]] 5 fun hr Γ hΓ => ?_
  rw [d_impl_copyTexts] at h
  obtain ⟨h1, h⟩ := den_ok h
  cases h; exact (((pre0.w (room_ok h1)).w (show (∀ r ∈ ((a0_).map tx), r.length = 1) ∧ (true = true → D.flatRows ((a0_).map tx) = true) from ⟨by simp, by simp [D.flatRows, D.flat]⟩)).a [.pro 2, .fl true]).rts hΓ (D.fr 9 1 ((([] : List (List D))) ++ ((a0_).map tx))) (by first | rfl | (simp only [mA] <;> rfl))
def d_impl_copyPattern (a0_ : Fact) : Option Fact := ((d_impl_copyTexts (a0_.args)).bind fun y1 => (some ((⟨a0_.rel, y1⟩ : Fact))))
theorem d_impl_copyPattern_good {a0_ : Fact} {r : Fact} (h : d_impl_copyPattern a0_ = some r) : Good Try.prog 67 [D.agg (Fact.c a0_)] (D.agg [D.str (r.rel), D.fr 9 1 ((r.args).map tx)]) := by
  refine gd Try.func67 [[none, some (9, 1)]] 9 fun hr Γ hΓ => ?_
  rw [d_impl_copyPattern] at h
  obtain ⟨y1, h2, h⟩ := den_bind h
  cases h; exact ((pre0.a [.n 5]).g (d_impl_copyTexts_good h2)).ret hΓ
def d_impl_copyCond (a0_ : Cond) : Option Cond := ((d_impl_copyPattern (a0_.pat)).bind fun y1 => (some ((⟨a0_.kind, y1, a0_.left, a0_.right⟩ : Cond))))
theorem d_impl_copyCond_good {a0_ : Cond} {r : Cond} (h : d_impl_copyCond a0_ = some r) : Good Try.prog 41 [D.agg (Cond.c a0_)] (D.agg [D.int .i64 (r.kind), D.str (r.pat.rel), D.fr 9 1 ((r.pat.args).map tx), D.str (r.left), D.str (r.right)]) := by
  refine gd Try.func41 [[none, none, some (9, 1), none, none]] 8 fun hr Γ hΓ => ?_
  rw [d_impl_copyCond] at h
  obtain ⟨y1, h2, h⟩ := den_bind h
  cases h; exact (pre0.g (d_impl_copyPattern_good h2)).ret hΓ
def d_impl_PathOf_L1 (a0_ : Network) (k1 : List Int → Option (List Cond)) : Nat → Int → List Int → Option (List Cond)
  | 0, _, _ => none
  | n1 + 1, v1_1, w1_1 => (bif room (((w1_1).map ixx).length + ([[D.int .i64 (v1_1)]]).length) 8 then ((atI (a0_.nodes) (v1_1)).bind fun x19 => (bif decide ((x19.parent : Int) < (1)) then (k1 ((w1_1) ++ ([v1_1]))) else (bif decide ((x19.parent : Int) ≥ (v1_1)) then (k1 ((w1_1) ++ ([v1_1]))) else (d_impl_PathOf_L1 a0_ k1 n1 (x19.parent) ((w1_1) ++ ([v1_1])))))) else none)
def d_impl_PathOf_L2 (a0_ : Network) (q1_1 : List Int) (k2 : List Cond → Option (List Cond)) : Nat → Int → List Cond → Option (List Cond)
  | 0, _, _ => none
  | n2 + 1, v2_8, w2_2 => (bif decide ((v2_8 : Int) ≥ (0)) then ((atI (q1_1) (v2_8)).bind fun x48 => ((atI (a0_.nodes) (x48)).bind fun x50 => ((d_impl_copyCond (x50.cond)).bind fun y52 => (bif room (((w2_2).map Cond.c).length + ([[D.int .i64 (y52.kind), D.str (y52.pat.rel), D.sl ((y52.pat.args).map tx), D.str (y52.left), D.str (y52.right)]]).length) 80 then (d_impl_PathOf_L2 a0_ q1_1 k2 n2 (IntKind.i64.wrap ((v2_8) - (1))) ((w2_2) ++ ([y52]))) else none)))) else (k2 (w2_2)))
def d_impl_PathOf (a0_ : Network) (a1_ : Int) : Option (List Cond) := (bif decide ((a1_ : Int) < (1)) then (some ([])) else (bif decide ((a1_ : Int) ≥ ((((a0_.nodes).map Node.c).length : Int))) then (some ([])) else (d_impl_PathOf_L1 a0_ (fun (q1_1 : List Int) => (d_impl_PathOf_L2 a0_ q1_1 (fun (q2_0 : List Cond) => (some (q2_0))) fuel (IntKind.i64.wrap (((((q1_1).map ixx).length : Int)) - (1))) (([] : List Cond)))) fuel (a1_) (([] : List Int)))))
def d_impl_PathOf_S1 (a0_ : Network) (v1_1 : Int) (W1 : List (List D)) : St := ⟨[(1, D.int .i64 (v1_1)), (2, D.ptr 0 0), (5, D.acc 1)], [Ob.box (Network.c a0_), Ob.row .uq 3 1 (W1)]⟩
theorem d_impl_PathOf_L1w (hΓ : Γ.nt = 57) {a0_ : Network} {r : List Cond} {k1 : List Int → Option (List Cond)} (hE1 : ∀ (q1_1 : List Int), k1 q1_1 = some r → Ax Γ N Try.f17 (.q [[some (70, 5)]] (D.fr 70 5 ((r).map Cond.c))) [1, 1, 1, 1] ⟨[(2, D.ptr 0 0), (5, D.acc 1)], [Ob.box (Network.c a0_), Ob.row .uq 3 1 ((q1_1).map ixx)]⟩) : ∀ (n1 : Nat) (v1_1 : Int) (w1_1 : List Int), d_impl_PathOf_L1 a0_ k1 n1 v1_1 w1_1 = some r → Ar Γ N Try.f17 (.q [[some (70, 5)]] (D.fr 70 5 ((r).map Cond.c))) [1, 1, 1, 0, 0] n1 (d_impl_PathOf_S1 a0_ v1_1 ((w1_1).map ixx)) := by
  intro n
  induction n with
  | zero => intro v1_1 w1_1 h; simp [d_impl_PathOf_L1] at h
  | succ n1 ih1 =>
    intro v1_1 w1_1 h
    rw [d_impl_PathOf_L1] at h
    refine AWr_succ fun N1 hN1 hS1 => ?_
    obtain ⟨h18, h⟩ := den_ok h
    obtain ⟨x19, h20, h⟩ := den_bind h
    have o3_ := ((pre0.w (room_ok h18)).l (at_row Node.c 8 h20 rfl))
    obtain ⟨h21, h⟩ | ⟨h21, h⟩ := den_if h
    · exact (((o3_.r 4 h21).T 1).a [.hl 0 [2, 5] [0, 3]]).exs hΓ hN1 ⟨[(2, D.ptr 0 0), (5, D.acc 1)], [Ob.box (Network.c a0_), Ob.row .uq 3 1 (((w1_1).map ixx) ++ ([[D.int .i64 (v1_1)]]))]⟩ (by first | (simp only [mA] <;> rfl) | (simp only [mA, Fact.c, Pair.c, Cond.c, Action.c, Rule.c, Token.c, Match.c, Alpha.c, Node.c, Network.c, Stamp.c] <;> rfl)) (hE1 ((w1_1) ++ ([v1_1])) h)
    · have o4_ := (o3_.r 4 h21)
      obtain ⟨h22, h⟩ | ⟨h22, h⟩ := den_if h
      · exact ((o4_.b h22).a [.hl 0 [2, 5] [0, 3]]).exs hΓ hN1 ⟨[(2, D.ptr 0 0), (5, D.acc 1)], [Ob.box (Network.c a0_), Ob.row .uq 3 1 (((w1_1).map ixx) ++ ([[D.int .i64 (v1_1)]]))]⟩ (by first | (simp only [mA] <;> rfl) | (simp only [mA, Fact.c, Pair.c, Cond.c, Action.c, Rule.c, Token.c, Match.c, Alpha.c, Node.c, Network.c, Stamp.c] <;> rfl)) (hE1 ((w1_1) ++ ([v1_1])) h)
      · exact ((o4_.b h22).a [.cn [1, 2, 5] [0, 3]]).cs hΓ hS1 (d_impl_PathOf_S1 a0_ (x19.parent) (((w1_1).map ixx) ++ ([[D.int .i64 (v1_1)]]))) (by first | (simp only [mA] <;> rfl) | (simp only [mA, Fact.c, Pair.c, Cond.c, Action.c, Rule.c, Token.c, Match.c, Alpha.c, Node.c, Network.c, Stamp.c] <;> rfl)) (ih1 (x19.parent) ((w1_1) ++ ([v1_1])) h)
def d_impl_PathOf_S2 (a0_ : Network) (q1_1 : List Int) (v2_8 : Int) (W1 : List (List D)) : St := ⟨[(2, D.ptr 0 0), (5, D.acc 1), (7, D.acc 2), (8, D.int .i64 (v2_8))], [Ob.box (Network.c a0_), Ob.row .uq 3 1 ((q1_1).map ixx), Ob.row .uq 70 5 (W1)]⟩
theorem d_impl_PathOf_L2w (hΓ : Γ.nt = 57) {a0_ : Network} {q1_1 : List Int} {r : List Cond} {k2 : List Cond → Option (List Cond)} (hE2 : ∀ (q2_0 : List Cond), k2 q2_0 = some r → Ax Γ N Try.f17 (.q [[some (70, 5)]] (D.fr 70 5 ((r).map Cond.c))) [1, 1, 1, 1, 1, 1] ⟨[(7, D.acc 0)], [Ob.row .uq 70 5 ((q2_0).map Cond.c)]⟩) : ∀ (n2 : Nat) (v2_8 : Int) (w2_2 : List Cond), d_impl_PathOf_L2 a0_ q1_1 k2 n2 v2_8 w2_2 = some r → Ar Γ N Try.f17 (.q [[some (70, 5)]] (D.fr 70 5 ((r).map Cond.c))) [1, 1, 1, 1, 1, 0, 1, 0] n2 (d_impl_PathOf_S2 a0_ q1_1 v2_8 ((w2_2).map Cond.c)) := by
  intro n
  induction n with
  | zero => intro v2_8 w2_2 h; simp [d_impl_PathOf_L2] at h
  | succ n2 ih2 =>
    intro v2_8 w2_2 h
    rw [d_impl_PathOf_L2] at h
    refine AWr_succ fun N2 hN2 hS2 => ?_
    obtain ⟨h47, h⟩ | ⟨h47, h⟩ := den_if h
    · obtain ⟨x48, h49, h⟩ := den_bind h
      obtain ⟨x50, h51, h⟩ := den_bind h
      obtain ⟨y52, h53, h⟩ := den_bind h
      obtain ⟨h54, h⟩ := den_ok h
      exact ((((((((pre0.b h47).a [.n2 [0, 1, 2, 3, 4, 5, 6, 7, 8, 9, 10, 11, 12, 13] [0, 1, 2, 3, 4, 5, 6, 7, 8, 9, 10, 11, 12, 13] 11 12 [0] []]).i (own_at ixx 1 h49)).o 1 1 .uq (map_get ixx (atI_get h49))).l (at_row Node.c 8 h51 rfl)).g (d_impl_copyCond_good h53)).w (room_ok h54)).a [.cn [2, 5, 7, 8] [0, 1, 5]]).cs hΓ hS2 (d_impl_PathOf_S2 a0_ q1_1 (IntKind.i64.wrap ((v2_8) - (1))) (((w2_2).map Cond.c) ++ ([[D.int .i64 (y52.kind), D.str (y52.pat.rel), D.sl ((y52.pat.args).map tx), D.str (y52.left), D.str (y52.right)]]))) (by first | (simp only [mA] <;> rfl) | (simp only [mA, Fact.c, Pair.c, Cond.c, Action.c, Rule.c, Token.c, Match.c, Alpha.c, Node.c, Network.c, Stamp.c] <;> rfl)) (ih2 (IntKind.i64.wrap ((v2_8) - (1))) ((w2_2) ++ ([y52])) h)
    · exact ((pre0.b h47).a [.hl 0 [7] [2]]).ex hΓ hN2 (hE2 (w2_2) h)
theorem d_impl_PathOf_good {a0_ : Network} {a1_ : Int} {r : List Cond} (h : d_impl_PathOf a0_ a1_ = some r) : Good Try.prog 17 [D.agg (Network.c a0_), D.int .i64 (a1_)] (D.fr 70 5 ((r).map Cond.c)) := by
  refine gd Try.func17 [[some (70, 5)]] 57 fun hr Γ hΓ => ?_
  rw [d_impl_PathOf] at h
  obtain ⟨h1, h⟩ | ⟨h1, h⟩ := den_if h
  · cases h; exact ((pre0.r 6 h1).T 1).ret hΓ
  · have o5_ := (pre0.r 6 h1)
    obtain ⟨h2, h⟩ | ⟨h2, h⟩ := den_if h
    · cases h; exact (o5_.b h2).ret hΓ
    · refine ((o5_.b h2).a [.pro 5, .cn [1, 2, 5] [0, 1]]).lp hΓ (d_impl_PathOf_L1w hΓ (fun q1_1 h => ?_) fuel (a1_) (([] : List Int)) h)
      refine (pre0.a [.pro 7, .cn [2, 5, 7, 8] [0, 1, 2]]).lp hΓ (d_impl_PathOf_L2w hΓ (fun q2_0 h => ?_) fuel (IntKind.i64.wrap (((((q1_1).map ixx).length : Int)) - (1))) (([] : List Cond)) h)
      have h := den_some h; subst h; exact pre0.ret hΓ
end Go.Cx
