/- What functions of the program compute, and the walks that show it. No condition. -/
import Derived.Test.YtpglgncmlcpgdaaPFnRuleVarsNFn1
namespace Go.Cx
open Go.RowKit Go.Proofs
set_option linter.unusedVariables false
set_option linter.unusedSimpArgs false
set_option maxRecDepth 100000
variable {Γ : Ctx} {N : Nat → St → Prop}
def d_laws_big (a0_ : List Int) : Option Bool := (some (decide (((((a0_).map yx).length : Int) : Int) > (4096))))
theorem d_laws_big_good {a0_ : List Int} {r : Bool} (h : d_laws_big a0_ = some r) : Good Try.prog 4 [D.sl ((a0_).map yx)] (D.bool (r)) := by
  refine gd Try.func4 [[none]] 6 fun hr Γ hΓ => ?_
  rw [d_laws_big] at h
  cases h; exact pre0.ret hΓ
def d_laws_hasText_L1 (a0_ : List Bytes) (a1_ : Bytes) (k1 : Option Bool) : List Bytes → Nat → Option Bool
  | [], i1 => (k1 )
  | x1_ :: xs1, i1 => (bif (x1_ : Bytes) == (a1_) then (some (true)) else (d_laws_hasText_L1 a0_ a1_ k1 xs1 (i1 + 1) ))
def d_laws_hasText (a0_ : List Bytes) (a1_ : Bytes) : Option Bool := (d_laws_hasText_L1 a0_ a1_ (some (false)) (a0_) 0 )
def d_laws_hasText_S1 (a0_ : List Bytes) (a1_ : Bytes) (ix_ : Int) : St := ⟨[(0, D.sl ((a0_).map tx)), (1, D.str (a1_)), (5, D.int .i64 (ix_))], []⟩
theorem d_laws_hasText_L1w (hΓ : Γ.nt = 18) {a0_ : List Bytes} {a1_ : Bytes} {r : Bool} {k1 : Option Bool} (hE1 : k1 = some r → Ax Γ N Try.f8 (.q [[none]] (D.bool (r))) [1, 1] ⟨[], []⟩) (hm1 : (a0_).length ≤ maxLen) : ∀ (rest : List Bytes) (i1 : Nat) , (a0_).drop i1 = rest → d_laws_hasText_L1 a0_ a1_ k1 rest i1  = some r → Ar Γ N Try.f8 (.q [[none]] (D.bool (r))) [1, 0, 1, 0] (rest.length + 1) (d_laws_hasText_S1 a0_ a1_ ((i1 : Int))) := by
  intro rest
  induction rest with
  | nil =>
    intro i1  hd1 h
    rw [d_laws_hasText_L1] at h
    refine AWr_succ fun N1 hN1 hS1 => ?_
    exact ((pre0.ge tx hd1).a [.hl 0 [] []]).ex hΓ hN1 (hE1 h)
  | cons x1_ xs1 ih1 =>
    intro i1  hd1 h
    rw [d_laws_hasText_L1] at h
    refine AWr_succ fun N1 hN1 hS1 => ?_
    have o2_ := ((pre0.lt tx hd1).l (map_row tx 1 (dc hd1) rfl))
    obtain ⟨h13, h⟩ | ⟨h13, h⟩ := den_if h
    · have h := den_some h; subst h; exact (o2_.b h13).ret hΓ
    · exact ((o2_.b h13).a [.cn [0, 1, 5] []]).ct hΓ hS1 (iS hd1 hm1) (ih1 (i1 + 1)  (dn hd1) h)
theorem d_laws_hasText_good {a0_ : List Bytes} {a1_ : Bytes} {r : Bool} (h : d_laws_hasText a0_ a1_ = some r) : Good Try.prog 8 [D.sl ((a0_).map tx), D.str (a1_)] (D.bool (r)) := by
  refine gd Try.func8 [[none]] 18 fun hr Γ hΓ => ?_
  rw [d_laws_hasText] at h
  refine (pre0.a [.cn [0, 1, 5] []]).lp hΓ (d_laws_hasText_L1w hΓ (fun h => ?_) (by have := (Rdb.sl (hr _ (List.mem_of_getElem? (i := 0) rfl))).1; simpa using this) (a0_) 0  rfl h)
  have h := den_some h; subst h; exact pre0.ret hΓ
def d_laws_FnRuleVars_L1 (y4 : Rule × Int) (y6 : List Bytes) (y8 : List Bytes) (y10 : List Bytes) (y12 : List Bytes) (k1 : Option Bool) : List Bytes → Nat → Option Bool
  | [], i1 => (k1 )
  | x1_ :: xs1, i1 => ((d_laws_hasText (y8) (x1_)).bind fun y61 => (bif !(y61) then (some (false)) else ((d_laws_hasText (y10) (x1_)).bind fun y64 => (bif !(y64) then (some (false)) else ((d_laws_hasText (y12) (x1_)).bind fun y67 => (bif !(y67) then (some (false)) else (d_laws_FnRuleVars_L1 y4 y6 y8 y10 y12 k1 xs1 (i1 + 1) )))))))
def d_laws_FnRuleVars_L3 (y4 : Rule × Int) (y10 : List Bytes) (y12 : List Bytes) (i2 : Nat) (y189 : List Bytes) (k3 : Option Bool) : List Bytes → Nat → Option Bool
  | [], i3 => (k3 )
  | x3_ :: xs3, i3 => ((d_laws_hasText (y10) (x3_)).bind fun y212 => (bif !(y212) then (some (false)) else (d_laws_FnRuleVars_L3 y4 y10 y12 i2 y189 k3 xs3 (i3 + 1) )))
def d_laws_FnRuleVars_L2 (y4 : Rule × Int) (y10 : List Bytes) (y12 : List Bytes) (k2 : Option Bool) : List Action → Nat → Option Bool
  | [], i2 => (k2 )
  | x2_ :: xs2, i2 => ((d_spec_VarsOf (x2_.pat)).bind fun y189 => (bif decide ((y189).length ≤ maxLen) then (d_laws_FnRuleVars_L3 y4 y10 y12 i2 y189 (d_laws_FnRuleVars_L2 y4 y10 y12 k2 xs2 (i2 + 1) ) (y189) 0 ) else none))
def d_laws_FnRuleVars (a0_ : List Int) : Option Bool := ((d_laws_big (a0_)).bind fun y1 => (bif y1 then (some (true)) else ((d_spec_DrawBoundVars (a0_)).bind fun y4 => ((d_impl_BoundVars (y4.1) (y4.2)).bind fun y6 => ((d_impl_BoundVars (y4.1) (IntKind.i64.wrap ((y4.2) + (1)))).bind fun y8 => ((d_impl_BoundVars (y4.1) ((((y4.1.conds).map Cond.c).length : Int))).bind fun y10 => ((d_impl_RuleVars (y4.1)).bind fun y12 => (bif decide ((y6).length ≤ maxLen) then (d_laws_FnRuleVars_L1 y4 y6 y8 y10 y12 ((d_spec_IsRule (y4.1)).bind fun y70 => (bif !(y70) then (some (true)) else (bif decide ((y4.1.acts).length ≤ maxLen) then (d_laws_FnRuleVars_L2 y4 y10 y12 (some (decide (((((y12).map tx).length : Int) : Int) ≤ (6)))) (y4.1.acts) 0 ) else none))) (y6) 0 ) else none))))))))
def d_laws_FnRuleVars_S1 (y4 : Rule × Int) (y6 : List Bytes) (y8 : List Bytes) (y10 : List Bytes) (y12 : List Bytes) (ix_ : Int) : St := ⟨[(3, D.ptr 0 0), (5, D.acc 1), (6, D.acc 2), (7, D.acc 3), (8, D.acc 4), (9, D.int .i64 (ix_))], [Ob.box [D.str (y4.1.name), D.int .i64 (y4.1.prio), D.sl ((y4.1.conds).map Cond.c), D.sl ((y4.1.acts).map Action.c)], Ob.row .uq 9 1 ((y6).map tx), Ob.row .uq 9 1 ((y8).map tx), Ob.row .uq 9 1 ((y10).map tx), Ob.row .uq 9 1 ((y12).map tx)]⟩
theorem d_laws_FnRuleVars_L1w (hΓ : Γ.nt = 98) {y4 : Rule × Int} {y6 : List Bytes} {y8 : List Bytes} {y10 : List Bytes} {y12 : List Bytes} {r : Bool} {k1 : Option Bool} (hE1 : k1 = some r → Ax Γ N Try.f3 (.q [[none]] (D.bool (r))) [1, 1, 1, 1, 1, 1, 1, 1] ⟨[(3, D.ptr 0 0), (7, D.acc 1), (8, D.acc 2)], [Ob.box [D.str (y4.1.name), D.int .i64 (y4.1.prio), D.sl ((y4.1.conds).map Cond.c), D.sl ((y4.1.acts).map Action.c)], Ob.row .uq 9 1 ((y10).map tx), Ob.row .uq 9 1 ((y12).map tx)]⟩) (hm1 : (y6).length ≤ maxLen) : ∀ (rest : List Bytes) (i1 : Nat) , (y6).drop i1 = rest → d_laws_FnRuleVars_L1 y4 y6 y8 y10 y12 k1 rest i1  = some r → Ar Γ N Try.f3 (.q [[none]] (D.bool (r))) [1, 1, 1, 1, 1, 1, 1, 0, 1, 0] (rest.length + 1) (d_laws_FnRuleVars_S1 y4 y6 y8 y10 y12 ((i1 : Int))) := by
  intro rest
  induction rest with
  | nil =>
    intro i1  hd1 h
    rw [d_laws_FnRuleVars_L1] at h
    refine AWr_succ fun N1 hN1 hS1 => ?_
    exact ((pre0.ge tx hd1).a [.hl 0 [3, 7, 8] [0, 3, 4]]).ex hΓ hN1 (hE1 h)
  | cons x1_ xs1 ih1 =>
    intro i1  hd1 h
    rw [d_laws_FnRuleVars_L1] at h
    refine AWr_succ fun N1 hN1 hS1 => ?_
    obtain ⟨y61, h62, h⟩ := den_bind h
    have o9_ := ((((pre0.lt tx hd1).i (own_ixl tx 1 (dc hd1))).o 1 1 .uq (map_get tx (dc hd1))).g (d_laws_hasText_good h62))
    obtain ⟨h63, h⟩ | ⟨h63, h⟩ := den_if h
    · have h := den_some h; subst h; exact ((o9_.r 8 h63).T 9).ret hΓ
    · obtain ⟨y64, h65, h⟩ := den_bind h
      have o10_ := (((((((o9_.r 4 h63).i (own_ixl tx 1 (dc hd1))).b h63).o 1 1 .uq (map_get tx (dc hd1))).b h63).g (d_laws_hasText_good h65)).r 2 h63)
      obtain ⟨h66, h⟩ | ⟨h66, h⟩ := den_if h
      · have h := den_some h; subst h; exact ((o10_.r 8 h66).T 1).ret hΓ
      · obtain ⟨y67, h68, h⟩ := den_bind h
        have o11_ := (((((((o10_.r 4 h66).i (own_ixl tx 1 (dc hd1))).b h66).o 1 1 .uq (map_get tx (dc hd1))).b h66).g (d_laws_hasText_good h68)).r 2 h66)
        obtain ⟨h69, h⟩ | ⟨h69, h⟩ := den_if h
        · have h := den_some h; subst h; exact (o11_.b h69).ret hΓ
        · exact ((o11_.b h69).a [.cn [3, 5, 6, 7, 8, 9] [0, 1, 2, 3, 4]]).ct hΓ hS1 (iS hd1 hm1) (ih1 (i1 + 1)  (dn hd1) h)
def d_laws_FnRuleVars_S2 (y4 : Rule × Int) (y10 : List Bytes) (y12 : List Bytes) (ix_ : Int) : St := ⟨[(3, D.ptr 0 0), (7, D.acc 1), (8, D.acc 2), (10, D.int .i64 (ix_))], [Ob.box [D.str (y4.1.name), D.int .i64 (y4.1.prio), D.sl ((y4.1.conds).map Cond.c), D.sl ((y4.1.acts).map Action.c)], Ob.row .uq 9 1 ((y10).map tx), Ob.row .uq 9 1 ((y12).map tx)]⟩
def d_laws_FnRuleVars_S3 (y4 : Rule × Int) (y10 : List Bytes) (y12 : List Bytes) (i2 : Nat) (y189 : List Bytes) (ix_ : Int) : St := ⟨[(3, D.ptr 0 0), (7, D.acc 1), (8, D.acc 2), (10, D.int .i64 ((i2 : Int))), (11, D.acc 3), (12, D.int .i64 (ix_))], [Ob.box [D.str (y4.1.name), D.int .i64 (y4.1.prio), D.sl ((y4.1.conds).map Cond.c), D.sl ((y4.1.acts).map Action.c)], Ob.row .uq 9 1 ((y10).map tx), Ob.row .uq 9 1 ((y12).map tx), Ob.row .uq 9 1 ((y189).map tx)]⟩
theorem d_laws_FnRuleVars_L3w (hΓ : Γ.nt = 98) {y4 : Rule × Int} {y10 : List Bytes} {y12 : List Bytes} {i2 : Nat} {y189 : List Bytes} {r : Bool} {k3 : Option Bool} (hE3 : k3 = some r → Ax Γ N Try.f3 (.q [[none]] (D.bool (r))) [1, 1, 1, 1, 1, 1, 1, 1, 1, 0, 1, 0, 0, 1, 1] ⟨[(3, D.ptr 0 0), (7, D.acc 1), (8, D.acc 2), (10, D.int .i64 ((i2 : Int)))], [Ob.box [D.str (y4.1.name), D.int .i64 (y4.1.prio), D.sl ((y4.1.conds).map Cond.c), D.sl ((y4.1.acts).map Action.c)], Ob.row .uq 9 1 ((y10).map tx), Ob.row .uq 9 1 ((y12).map tx)]⟩) (hm3 : (y189).length ≤ maxLen) : ∀ (rest : List Bytes) (i3 : Nat) , (y189).drop i3 = rest → d_laws_FnRuleVars_L3 y4 y10 y12 i2 y189 k3 rest i3  = some r → Ar Γ N Try.f3 (.q [[none]] (D.bool (r))) [1, 1, 1, 1, 1, 1, 1, 1, 1, 0, 1, 0, 0, 1, 0, 0, 1, 1, 0] (rest.length + 1) (d_laws_FnRuleVars_S3 y4 y10 y12 i2 y189 ((i3 : Int))) := by
  intro rest
  induction rest with
  | nil =>
    intro i3  hd3 h
    rw [d_laws_FnRuleVars_L3] at h
    refine AWr_succ fun N3 hN3 hS3 => ?_
    exact ((pre0.ge tx hd3).a [.hl 3 [3, 7, 8, 10] [0, 1, 2]]).ex hΓ hN3 (hE3 h)
  | cons x3_ xs3 ih3 =>
    intro i3  hd3 h
    rw [d_laws_FnRuleVars_L3] at h
    refine AWr_succ fun N3 hN3 hS3 => ?_
    obtain ⟨y212, h213, h⟩ := den_bind h
    have o16_ := ((((pre0.lt tx hd3).i (own_ixl tx 1 (dc hd3))).o 1 1 .uq (map_get tx (dc hd3))).g (d_laws_hasText_good h213))
    obtain ⟨h214, h⟩ | ⟨h214, h⟩ := den_if h
    · have h := den_some h; subst h; exact (o16_.b h214).ret hΓ
    · exact ((o16_.b h214).a [.cn [3, 7, 8, 10, 11, 12] [0, 1, 2, 3]]).ct hΓ hS3 (iS hd3 hm3) (ih3 (i3 + 1)  (dn hd3) h)
theorem d_laws_FnRuleVars_L2w (hΓ : Γ.nt = 98) {y4 : Rule × Int} {y10 : List Bytes} {y12 : List Bytes} {r : Bool} {k2 : Option Bool} (hE2 : k2 = some r → Ax Γ N Try.f3 (.q [[none]] (D.bool (r))) [1, 1, 1, 1, 1, 1, 1, 1, 1, 1] ⟨[(8, D.acc 0)], [Ob.row .uq 9 1 ((y12).map tx)]⟩) (hm2 : (y4.1.acts).length ≤ maxLen) : ∀ (rest : List Action) (i2 : Nat) , (y4.1.acts).drop i2 = rest → d_laws_FnRuleVars_L2 y4 y10 y12 k2 rest i2  = some r → Ar Γ N Try.f3 (.q [[none]] (D.bool (r))) [1, 1, 1, 1, 1, 1, 1, 1, 1, 0, 1, 0] (rest.length + 1) (d_laws_FnRuleVars_S2 y4 y10 y12 ((i2 : Int))) := by
  intro rest
  induction rest with
  | nil =>
    intro i2  hd2 h
    rw [d_laws_FnRuleVars_L2] at h
    refine AWr_succ fun N2 hN2 hS2 => ?_
    exact ((pre0.ge Action.c hd2).a [.hl 0 [8] [2]]).ex hΓ hN2 (hE2 h)
  | cons x2_ xs2 ih2 =>
    intro i2  hd2 h
    rw [d_laws_FnRuleVars_L2] at h
    refine AWr_succ fun N2 hN2 hS2 => ?_
    obtain ⟨y189, h190, h⟩ := den_bind h
    obtain ⟨h215, h⟩ := den_ok h
    refine ((((pre0.lt Action.c hd2).l (map_row Action.c 3 (dc hd2) rfl)).g (d_spec_VarsOf_good h190)).a [.cn [3, 7, 8, 10, 11, 12] [0, 1, 2, 3]]).lp hΓ (d_laws_FnRuleVars_L3w hΓ (fun h => ?_) (of_decide_eq_true h215) (y189) 0  rfl h)
    exact (pre0.a [.cn [3, 7, 8, 10] [0, 1, 2]]).ct hΓ hS2 (iS hd2 hm2) (ih2 (i2 + 1)  (dn hd2) h)
theorem d_laws_FnRuleVars_good {a0_ : List Int} {r : Bool} (h : d_laws_FnRuleVars a0_ = some r) : Good Try.prog 3 [D.sl ((a0_).map yx)] (D.bool (r)) := by
  refine gd Try.func3 [[none]] 98 fun hr Γ hΓ => ?_
  rw [d_laws_FnRuleVars] at h
  obtain ⟨y1, h2, h⟩ := den_bind h
  obtain ⟨h3, h⟩ | ⟨h3, h⟩ := den_if h
  · have h := den_some h; subst h; exact ((pre0.g (d_laws_big_good h2)).b h3).ret hΓ
  · obtain ⟨y4, h5, h⟩ := den_bind h
    obtain ⟨y6, h7, h⟩ := den_bind h
    obtain ⟨y8, h9, h⟩ := den_bind h
    obtain ⟨y10, h11, h⟩ := den_bind h
    obtain ⟨y12, h13, h⟩ := den_bind h
    obtain ⟨h217, h⟩ := den_ok h
    refine ((((((((pre0.g (d_laws_big_good h2)).b h3).g (d_spec_DrawBoundVars_good h5)).g (d_impl_BoundVars_good h7)).g (d_impl_BoundVars_good h9)).g (d_impl_BoundVars_good h11)).g (d_impl_RuleVars_good h13)).a [.cn [3, 5, 6, 7, 8, 9] [0, 1, 2, 3, 4]]).lp hΓ (d_laws_FnRuleVars_L1w hΓ (fun h => ?_) (of_decide_eq_true h217) (y6) 0  rfl h)
    obtain ⟨y70, h71, h⟩ := den_bind h
    obtain ⟨h72, h⟩ | ⟨h72, h⟩ := den_if h
    · have h := den_some h; subst h; exact ((pre0.g (d_spec_IsRule_good h71)).b h72).ret hΓ
    · obtain ⟨h216, h⟩ := den_ok h
      refine (((pre0.g (d_spec_IsRule_good h71)).b h72).a [.cn [3, 7, 8, 10] [0, 1, 2]]).lp hΓ (d_laws_FnRuleVars_L2w hΓ (fun h => ?_) (of_decide_eq_true h216) (y4.1.acts) 0  rfl h)
      cases h; exact pre0.ret hΓ
end Go.Cx
