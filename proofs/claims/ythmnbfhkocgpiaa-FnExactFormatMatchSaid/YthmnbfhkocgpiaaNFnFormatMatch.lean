/- What functions of the program compute, and the walks that show it. No condition. -/
import Derived.Test.YthmnbfhkocgpiaaNLay
namespace Go.Cx
open Go.RowKit Go.Proofs
set_option linter.unusedVariables false
set_option linter.unusedSimpArgs false
set_option maxRecDepth 100000
def d_spec_l1In (a0_ : Int) (a1_ : Int) (a2_ : Int) : Option Bool := (bif decide ((a0_ : Int) ≥ (a1_)) then (some (decide ((a0_ : Int) ≤ (a2_)))) else (some (false)))
theorem d_spec_l1In_good {a0_ : Int} {a1_ : Int} {a2_ : Int} {r : Bool} (h : d_spec_l1In a0_ a1_ a2_ = some r) : Good Try.prog 25 [D.int .i64 (a0_), D.int .i64 (a1_), D.int .i64 (a2_)] (D.bool (r)) := by
  refine Good.of (c := bodyOf Try.f25) Try.func25 rfl (by decide) (by simp [Try.f25]) ?_
  intro hr Γ hΓ
  have hΓ : Γ.nt = 15 := hΓ
  rw [d_spec_l1In] at h
  refine (show AW Try.prog Γ (bodyOf Try.f25) (KQ Try.prog Γ (fun _ _ => False) (RetQ Try.prog Try.f25 (D.bool (r))) []) _ from ?_)
  rcases den_if h with ⟨h1, h⟩ | ⟨h1, h⟩
  · have h := den_some h
    subst h
    exact AW_go (n := 2000) [[none]] [.b true, .b true, .b true, .b true] (.ret (D.bool (decide ((a0_ : Int) ≤ (a2_))))) hΓ mix (by kernel_rfl) (ow (h1) (ow (h1) (ow (h1) (ow (h1) ow0)))) rfl
  · have h := den_some h
    subst h
    exact AW_go (n := 2000) [[none]] [.b false, .b false, .b false, .b false] (.ret (D.bool (false))) hΓ mix (by kernel_rfl) (ow (h1) (ow (h1) (ow (h1) (ow (h1) ow0)))) rfl

def d_spec_IsAtom_L1 (a0_ : Bytes) (k1 : Option Bool) : Nat → Int → Option Bool
  | 0, _ => none
  | n1 + 1, v1_3 => (bif decide ((v1_3 : Int) < (((a0_).length : Int))) then ((atI (a0_) (v1_3)).bind fun b29 => ((d_spec_l1In (IntKind.i64.wrap (b29.toNat)) (97) (122)).bind fun y31 => (bif !(y31) then ((d_spec_l1In (IntKind.i64.wrap (b29.toNat)) (48) (57)).bind fun y34 => (bif !(y34) then (some (false)) else (d_spec_IsAtom_L1 a0_ k1 n1 (IntKind.i64.wrap ((v1_3) + (1)))))) else (d_spec_IsAtom_L1 a0_ k1 n1 (IntKind.i64.wrap ((v1_3) + (1))))))) else (k1 ))

def d_spec_IsAtom (a0_ : Bytes) : Option Bool := (d_spec_IsAtom_L1 a0_ ((d_spec_l1In (((a0_).length : Int)) (1) (8)).bind fun y37 => (some (y37))) fuel (0))
theorem d_spec_IsAtom_L1w {Γ : Ctx} (hΓ : Γ.nt = 27) {N : Nat → St → Prop} {a0_ : Bytes} {r : Bool} {k1 : Option Bool} (hE1 : k1 = some r → AW Try.prog Γ (dig (bodyOf Try.f24) [1, 1] []).1 (KQ Try.prog Γ N (RetQ Try.prog Try.f24 (D.bool (r))) (dig (bodyOf Try.f24) [1, 1] []).2) ⟨[(0, D.str (a0_))], []⟩) : ∀ (n1 : Nat) (v1_3 : Int), d_spec_IsAtom_L1 a0_ k1 n1 v1_3 = some r → AWr Try.prog Γ (dig (bodyOf Try.f24) [1, 0, 1, 0, 0] []).1 (KQ Try.prog Γ N (RetQ Try.prog Try.f24 (D.bool (r))) (dig (bodyOf Try.f24) [1, 0, 1, 0] []).2) n1 ⟨[(0, D.str (a0_)), (3, D.int .i64 (v1_3))], []⟩ := by
  intro n
  induction n with
  | zero => intro v1_3 h; simp [d_spec_IsAtom_L1] at h
  | succ n1 ih1 =>
    intro v1_3 h
    rw [d_spec_IsAtom_L1] at h
    refine AWr_succ fun N1 hN1 hS1 => ?_
    rcases den_if h with ⟨h28, h⟩ | ⟨h28, h⟩
    · obtain ⟨b29, h30, h⟩ := den_bind h
      obtain ⟨y31, h32, h⟩ := den_bind h
      rcases den_if h with ⟨h33, h⟩ | ⟨h33, h⟩
      · obtain ⟨y34, h35, h⟩ := den_bind h
        rcases den_if h with ⟨h36, h⟩ | ⟨h36, h⟩
        · have h := den_some h
          subst h
          exact AW_go (n := 2000) [[none]] [.b true, .ch b29, .d (D.bool (y31)), .b true, .b true, .b true, .ch b29, .b true, .b true, .d (D.bool (y34)), .b true, .b true, .b true] (.ret (D.bool (false))) hΓ mix (by kernel_rfl) (ow (h28) (ow (at_str h30) (ow (d_spec_l1In_good h32) (ow (h33) (ow (h33) (ow (h33) (ow (at_str h30) (ow (h33) (ow (h33) (ow (d_spec_l1In_good h35) (ow (h33) (ow (h33) (ow (h36) ow0))))))))))))) rfl
        · have t := ih1 (IntKind.i64.wrap ((v1_3) + (1))) h
          refine AW_go (n := 2000) [[none]] [.b true, .ch b29, .d (D.bool (y31)), .b true, .b true, .b true, .ch b29, .b true, .b true, .d (D.bool (y34)), .b true, .b true, .b false, .cn [0, 3] []] (.cont 0 ⟨[(0, D.str (a0_)), (3, D.int .i64 (IntKind.i64.wrap ((v1_3) + (1))))], []⟩) hΓ mix (by kernel_rfl) (ow (h28) (ow (at_str h30) (ow (d_spec_l1In_good h32) (ow (h33) (ow (h33) (ow (h33) (ow (at_str h30) (ow (h33) (ow (h33) (ow (d_spec_l1In_good h35) (ow (h33) (ow (h33) (ow (h36) ow0))))))))))))) ?_
          refine (congrFun hS1 _).mpr ?_
          first | exact t | (simp only [List.map_append, List.map_cons, List.map_nil, List.map_set] at t ⊢; exact t)
      · have t := ih1 (IntKind.i64.wrap ((v1_3) + (1))) h
        refine AW_go (n := 2000) [[none]] [.b true, .ch b29, .d (D.bool (y31)), .b false, .b false, .b false, .b false, .b false, .b false, .b false, .b false, .cn [0, 3] []] (.cont 0 ⟨[(0, D.str (a0_)), (3, D.int .i64 (IntKind.i64.wrap ((v1_3) + (1))))], []⟩) hΓ mix (by kernel_rfl) (ow (h28) (ow (at_str h30) (ow (d_spec_l1In_good h32) (ow (h33) (ow (h33) (ow (h33) (ow (h33) (ow (h33) (ow (h33) (ow (h33) (ow (show (false) = false from rfl) ow0))))))))))) ?_
        refine (congrFun hS1 _).mpr ?_
        first | exact t | (simp only [List.map_append, List.map_cons, List.map_nil, List.map_set] at t ⊢; exact t)
    · have t := AW_N (N := N) (N' := N1) (K0 := (dig (bodyOf Try.f24) [1, 0, 1, 0] []).2) (by kernel_rfl) hN1 (hE1  h)
      refine AW_go (n := 2000) [[none]] [.b false, .hl 0 [0] []] (.at_ (dig (bodyOf Try.f24) [1, 1] []).1 (dig (bodyOf Try.f24) [1, 1] []).2 ⟨[(0, D.str (a0_))], []⟩) hΓ mix (by kernel_rfl) (ow (h28) ow0) ?_
      first | exact t | (simp only [List.map_append, List.map_cons, List.map_nil, List.map_set] at t ⊢; exact t)

theorem d_spec_IsAtom_good {a0_ : Bytes} {r : Bool} (h : d_spec_IsAtom a0_ = some r) : Good Try.prog 24 [D.str (a0_)] (D.bool (r)) := by
  refine Good.of (c := bodyOf Try.f24) Try.func24 rfl (by decide) (by simp [Try.f24]) ?_
  intro hr Γ hΓ
  have hΓ : Γ.nt = 27 := hΓ
  rw [d_spec_IsAtom] at h
  refine (show AW Try.prog Γ (bodyOf Try.f24) (KQ Try.prog Γ (fun _ _ => False) (RetQ Try.prog Try.f24 (D.bool (r))) []) _ from ?_)
  refine AW_go (n := 2000) [[none]] [.cn [0, 3] []] (.lp (dig (bodyOf Try.f24) [1, 0, 1, 0, 0] []).1 (dig (bodyOf Try.f24) [1, 0, 1, 0] []).2 ⟨[(0, D.str (a0_)), (3, D.int .i64 (0))], []⟩) hΓ mix (by kernel_rfl) ow0 (AW_st (by first | rfl | (simp only [List.map_append, List.map_cons, List.map_nil, List.map_set, List.map_replicate] <;> rfl)) (AW_of_r (d_spec_IsAtom_L1w hΓ (fun h => ?_) fuel (0) h)))
  obtain ⟨y37, h38, h⟩ := den_bind h
  have h := den_some h
  subst h
  exact AW_go (n := 2000) [[none]] [.d (D.bool (y37))] (.ret (D.bool (y37))) hΓ mix (by kernel_rfl) (ow (d_spec_l1In_good h38) ow0) rfl

def d_spec_IsName (a0_ : Bytes) : Option Bool := ((d_spec_IsAtom (a0_)).bind fun y1 => (bif y1 then ((atI (a0_) (0)).bind fun b4 => ((d_spec_l1In (IntKind.i64.wrap (b4.toNat)) (97) (122)).bind fun y6 => (some (y6)))) else (some (false))))
theorem d_spec_IsName_good {a0_ : Bytes} {r : Bool} (h : d_spec_IsName a0_ = some r) : Good Try.prog 12 [D.str (a0_)] (D.bool (r)) := by
  refine Good.of (c := bodyOf Try.f12) Try.func12 rfl (by decide) (by simp [Try.f12]) ?_
  intro hr Γ hΓ
  have hΓ : Γ.nt = 11 := hΓ
  rw [d_spec_IsName] at h
  refine (show AW Try.prog Γ (bodyOf Try.f12) (KQ Try.prog Γ (fun _ _ => False) (RetQ Try.prog Try.f12 (D.bool (r))) []) _ from ?_)
  obtain ⟨y1, h2, h⟩ := den_bind h
  rcases den_if h with ⟨h3, h⟩ | ⟨h3, h⟩
  · obtain ⟨b4, h5, h⟩ := den_bind h
    obtain ⟨y6, h7, h⟩ := den_bind h
    have h := den_some h
    subst h
    exact AW_go (n := 2000) [[none]] [.d (D.bool (y1)), .b true, .b true, .ch b4, .b true, .b true, .d (D.bool (y6)), .b true] (.ret (D.bool (y6))) hΓ mix (by kernel_rfl) (ow (d_spec_IsAtom_good h2) (ow (h3) (ow (h3) (ow (at_str h5) (ow (h3) (ow (h3) (ow (d_spec_l1In_good h7) (ow (h3) ow0)))))))) rfl
  · have h := den_some h
    subst h
    exact AW_go (n := 2000) [[none]] [.d (D.bool (y1)), .b false, .b false, .b false, .b false, .b false] (.ret (D.bool (false))) hΓ mix (by kernel_rfl) (ow (d_spec_IsAtom_good h2) (ow (h3) (ow (h3) (ow (h3) (ow (h3) (ow (h3) ow0)))))) rfl

def d_spec_IsFact_L1 (a0_ : Fact) (k1 : Option Bool) : List Bytes → Nat → Option Bool
  | [], i1 => (k1 )
  | x1_ :: xs1, i1 => ((d_spec_IsAtom (x1_)).bind fun y21 => (bif !(y21) then (some (false)) else (d_spec_IsFact_L1 a0_ k1 xs1 (i1 + 1) )))

def d_spec_IsFact (a0_ : Fact) : Option Bool := (d_spec_IsFact_L1 a0_ ((d_spec_IsName (a0_.rel)).bind fun y24 => (bif y24 then (some (decide (((((a0_.args).map tx).length : Int) : Int) ≤ (3)))) else (some (false)))) (a0_.args) 0 )
theorem d_spec_IsFact_L1w {Γ : Ctx} (hΓ : Γ.nt = 27) {N : Nat → St → Prop} {a0_ : Fact} {r : Bool} {k1 : Option Bool} (hE1 : k1 = some r → AW Try.prog Γ (dig (bodyOf Try.f21) [1, 1] []).1 (KQ Try.prog Γ N (RetQ Try.prog Try.f21 (D.bool (r))) (dig (bodyOf Try.f21) [1, 1] []).2) ⟨[(1, D.ptr 0 0)], [Ob.box (Fact.c a0_)]⟩) (hm1 : (a0_.args).length ≤ maxLen) : ∀ (rest : List Bytes) (i1 : Nat) , (a0_.args).drop i1 = rest → d_spec_IsFact_L1 a0_ k1 rest i1  = some r → AWr Try.prog Γ (dig (bodyOf Try.f21) [1, 0, 1, 0, 0] []).1 (KQ Try.prog Γ N (RetQ Try.prog Try.f21 (D.bool (r))) (dig (bodyOf Try.f21) [1, 0, 1, 0] []).2) (rest.length + 1) ⟨[(1, D.ptr 0 0), (3, D.int .i64 ((i1 : Int)))], [Ob.box (Fact.c a0_)]⟩ := by
  intro rest
  induction rest with
  | nil =>
    intro i1  hd1 h
    rw [d_spec_IsFact_L1] at h
    refine AWr_succ fun N1 hN1 hS1 => ?_
    have t := AW_N (N := N) (N' := N1) (K0 := (dig (bodyOf Try.f21) [1, 0, 1, 0] []).2) (by kernel_rfl) hN1 (hE1  h)
    refine AW_go (n := 2000) [[none]] [.b false, .hl 0 [1] [0]] (.at_ (dig (bodyOf Try.f21) [1, 1] []).1 (dig (bodyOf Try.f21) [1, 1] []).2 ⟨[(1, D.ptr 0 0)], [Ob.box (Fact.c a0_)]⟩) hΓ mix (by kernel_rfl) (ow ((ltm_false tx (drop_nil hd1))) ow0) ?_
    first | exact t | (simp only [List.map_append, List.map_cons, List.map_nil, List.map_set] at t ⊢; exact t)
  | cons x1_ xs1 ih1 =>
    intro i1  hd1 h
    rw [d_spec_IsFact_L1] at h
    refine AWr_succ fun N1 hN1 hS1 => ?_
    obtain ⟨y21, h22, h⟩ := den_bind h
    rcases den_if h with ⟨h23, h⟩ | ⟨h23, h⟩
    · have h := den_some h
      subst h
      exact AW_go (n := 2000) [[none]] [.b true, .row (tx x1_), .d (D.bool (y21)), .b true] (.ret (D.bool (false))) hΓ mix (by kernel_rfl) (ow ((ltm_true tx (drop_cons hd1).2.1)) (ow (map_row tx 1 (drop_cons hd1).1 rfl) (ow (d_spec_IsAtom_good h22) (ow (h23) ow0)))) rfl
    · have t := ih1 (i1 + 1)  (drop_cons hd1).2.2 h
      refine AW_go (n := 2000) [[none]] [.b true, .row (tx x1_), .d (D.bool (y21)), .b false, .cn [1, 3] [0]] (.cont 0 ⟨[(1, D.ptr 0 0), (3, D.int .i64 (IntKind.i64.wrap (((i1 : Int)) + (1))))], [Ob.box (Fact.c a0_)]⟩) hΓ mix (by kernel_rfl) (ow ((ltm_true tx (drop_cons hd1).2.1)) (ow (map_row tx 1 (drop_cons hd1).1 rfl) (ow (d_spec_IsAtom_good h22) (ow (h23) ow0)))) ?_
      refine (congrFun hS1 _).mpr ?_
      rw [i64_succ (drop_cons hd1).2.1 hm1]
      first | exact t | (simp only [List.map_append, List.map_cons, List.map_nil, List.map_set] at t ⊢; exact t)

theorem d_spec_IsFact_good {a0_ : Fact} {r : Bool} (h : d_spec_IsFact a0_ = some r) : Good Try.prog 21 [D.agg (Fact.c a0_)] (D.bool (r)) := by
  refine Good.of (c := bodyOf Try.f21) Try.func21 rfl (by decide) (by simp [Try.f21]) ?_
  intro hr Γ hΓ
  have hΓ : Γ.nt = 27 := hΓ
  rw [d_spec_IsFact] at h
  refine (show AW Try.prog Γ (bodyOf Try.f21) (KQ Try.prog Γ (fun _ _ => False) (RetQ Try.prog Try.f21 (D.bool (r))) []) _ from ?_)
  refine AW_go (n := 2000) [[none]] [.cn [1, 3] [0]] (.lp (dig (bodyOf Try.f21) [1, 0, 1, 0, 0] []).1 (dig (bodyOf Try.f21) [1, 0, 1, 0] []).2 ⟨[(1, D.ptr 0 0), (3, D.int .i64 (0))], [Ob.box (Fact.c a0_)]⟩) hΓ mix (by kernel_rfl) ow0 (AW_st (by first | rfl | (simp only [List.map_append, List.map_cons, List.map_nil, List.map_set, List.map_replicate] <;> rfl)) (AW_of_r (d_spec_IsFact_L1w hΓ (fun h => ?_) (by have := (Rdb.sl (Rdb.agg (hr _ (List.mem_of_getElem? (i := 0) rfl)) (.sl ((a0_.args).map tx)) (by simp))).1; simpa using this) (a0_.args) 0  rfl h)))
  obtain ⟨y24, h25, h⟩ := den_bind h
  rcases den_if h with ⟨h26, h⟩ | ⟨h26, h⟩
  · have h := den_some h
    subst h
    exact AW_go (n := 2000) [[none]] [.d (D.bool (y24)), .b true, .b true, .b true, .b true, .b true] (.ret (D.bool (decide (((((a0_.args).map tx).length : Int) : Int) ≤ (3))))) hΓ mix (by kernel_rfl) (ow (d_spec_IsName_good h25) (ow (h26) (ow (h26) (ow (h26) (ow (h26) (ow (h26) ow0)))))) rfl
  · have h := den_some h
    subst h
    exact AW_go (n := 2000) [[none]] [.d (D.bool (y24)), .b false, .b false, .b false, .b false, .b false] (.ret (D.bool (false))) hΓ mix (by kernel_rfl) (ow (d_spec_IsName_good h25) (ow (h26) (ow (h26) (ow (h26) (ow (h26) (ow (h26) ow0)))))) rfl

def d_spec_Join_L1 (a0_ : List Bytes) (a1_ : Bytes) (k1 : Bytes → Option Bytes) : List Bytes → Nat → Bytes → Option Bytes
  | [], i1, v1_5 => (k1 (v1_5))
  | x1_ :: xs1, i1, v1_5 => (bif decide (((i1 : Int) : Int) > (0)) then (bif decide ((v1_5 : Bytes).length + (a1_ : Bytes).length ≤ maxLen) then (bif decide (((v1_5) ++ (a1_) : Bytes).length + (x1_ : Bytes).length ≤ maxLen) then (d_spec_Join_L1 a0_ a1_ k1 xs1 (i1 + 1) (((v1_5) ++ (a1_)) ++ (x1_))) else none) else none) else (bif decide ((v1_5 : Bytes).length + (x1_ : Bytes).length ≤ maxLen) then (d_spec_Join_L1 a0_ a1_ k1 xs1 (i1 + 1) ((v1_5) ++ (x1_))) else none))

def d_spec_Join (a0_ : List Bytes) (a1_ : Bytes) : Option Bytes := (d_spec_Join_L1 a0_ a1_ (fun (z1_5 : Bytes) => (some (z1_5))) (a0_) 0 ([]))
theorem d_spec_Join_L1w {Γ : Ctx} (hΓ : Γ.nt = 25) {N : Nat → St → Prop} {a0_ : List Bytes} {a1_ : Bytes} {r : Bytes} {k1 : Bytes → Option Bytes} (hE1 : ∀ (z1_5 : Bytes), k1 z1_5 = some r → AW Try.prog Γ (dig (bodyOf Try.f23) [1, 1, 1] []).1 (KQ Try.prog Γ N (RetQ Try.prog Try.f23 (D.str (r))) (dig (bodyOf Try.f23) [1, 1, 1] []).2) ⟨[(5, D.str (z1_5))], []⟩) (hm1 : (a0_).length ≤ maxLen) : ∀ (rest : List Bytes) (i1 : Nat) (v1_5 : Bytes), (a0_).drop i1 = rest → d_spec_Join_L1 a0_ a1_ k1 rest i1 v1_5 = some r → AWr Try.prog Γ (dig (bodyOf Try.f23) [1, 1, 0, 1, 0, 0] []).1 (KQ Try.prog Γ N (RetQ Try.prog Try.f23 (D.str (r))) (dig (bodyOf Try.f23) [1, 1, 0, 1, 0] []).2) (rest.length + 1) ⟨[(0, D.sl ((a0_).map tx)), (1, D.str (a1_)), (5, D.str (v1_5)), (6, D.int .i64 ((i1 : Int)))], []⟩ := by
  intro rest
  induction rest with
  | nil =>
    intro i1 v1_5 hd1 h
    rw [d_spec_Join_L1] at h
    refine AWr_succ fun N1 hN1 hS1 => ?_
    have t := AW_N (N := N) (N' := N1) (K0 := (dig (bodyOf Try.f23) [1, 1, 0, 1, 0] []).2) (by kernel_rfl) hN1 (hE1 (v1_5) h)
    refine AW_go (n := 2000) [[none]] [.b false, .hl 0 [5] []] (.at_ (dig (bodyOf Try.f23) [1, 1, 1] []).1 (dig (bodyOf Try.f23) [1, 1, 1] []).2 ⟨[(5, D.str (v1_5))], []⟩) hΓ mix (by kernel_rfl) (ow ((ltm_false tx (drop_nil hd1))) ow0) ?_
    first | exact t | (simp only [List.map_append, List.map_cons, List.map_nil, List.map_set] at t ⊢; exact t)
  | cons x1_ xs1 ih1 =>
    intro i1 v1_5 hd1 h
    rw [d_spec_Join_L1] at h
    refine AWr_succ fun N1 hN1 hS1 => ?_
    rcases den_if h with ⟨h29, h⟩ | ⟨h29, h⟩
    · obtain ⟨h30, h⟩ := den_ok h
      obtain ⟨h31, h⟩ := den_ok h
      have t := ih1 (i1 + 1) (((v1_5) ++ (a1_)) ++ (x1_)) (drop_cons hd1).2.2 h
      refine AW_go (n := 2000) [[none]] [.b true, .b true, .row (tx x1_), .cn [0, 1, 5, 6] []] (.cont 0 ⟨[(0, D.sl ((a0_).map tx)), (1, D.str (a1_)), (5, D.str (((v1_5) ++ (a1_)) ++ (x1_))), (6, D.int .i64 (IntKind.i64.wrap (((i1 : Int)) + (1))))], []⟩) hΓ mix (by kernel_rfl) (ow ((ltm_true tx (drop_cons hd1).2.1)) (ow (h29) (ow (of_decide_eq_true h30) (ow (map_row tx 1 (drop_cons hd1).1 rfl) (ow (of_decide_eq_true h31) ow0))))) ?_
      refine (congrFun hS1 _).mpr ?_
      rw [i64_succ (drop_cons hd1).2.1 hm1]
      first | exact t | (simp only [List.map_append, List.map_cons, List.map_nil, List.map_set] at t ⊢; exact t)
    · obtain ⟨h32, h⟩ := den_ok h
      have t := ih1 (i1 + 1) ((v1_5) ++ (x1_)) (drop_cons hd1).2.2 h
      refine AW_go (n := 2000) [[none]] [.b true, .b false, .row (tx x1_), .cn [0, 1, 5, 6] []] (.cont 0 ⟨[(0, D.sl ((a0_).map tx)), (1, D.str (a1_)), (5, D.str ((v1_5) ++ (x1_))), (6, D.int .i64 (IntKind.i64.wrap (((i1 : Int)) + (1))))], []⟩) hΓ mix (by kernel_rfl) (ow ((ltm_true tx (drop_cons hd1).2.1)) (ow (h29) (ow (map_row tx 1 (drop_cons hd1).1 rfl) (ow (of_decide_eq_true h32) ow0)))) ?_
      refine (congrFun hS1 _).mpr ?_
      rw [i64_succ (drop_cons hd1).2.1 hm1]
      first | exact t | (simp only [List.map_append, List.map_cons, List.map_nil, List.map_set] at t ⊢; exact t)

theorem d_spec_Join_good {a0_ : List Bytes} {a1_ : Bytes} {r : Bytes} (h : d_spec_Join a0_ a1_ = some r) : Good Try.prog 23 [D.sl ((a0_).map tx), D.str (a1_)] (D.str (r)) := by
  refine Good.of (c := bodyOf Try.f23) Try.func23 rfl (by decide) (by simp [Try.f23]) ?_
  intro hr Γ hΓ
  have hΓ : Γ.nt = 25 := hΓ
  rw [d_spec_Join] at h
  refine (show AW Try.prog Γ (bodyOf Try.f23) (KQ Try.prog Γ (fun _ _ => False) (RetQ Try.prog Try.f23 (D.str (r))) []) _ from ?_)
  refine AW_go (n := 2000) [[none]] [.cn [0, 1, 5, 6] []] (.lp (dig (bodyOf Try.f23) [1, 1, 0, 1, 0, 0] []).1 (dig (bodyOf Try.f23) [1, 1, 0, 1, 0] []).2 ⟨[(0, D.sl ((a0_).map tx)), (1, D.str (a1_)), (5, D.str ([])), (6, D.int .i64 (0))], []⟩) hΓ mix (by kernel_rfl) ow0 (AW_st (by first | rfl | (simp only [List.map_append, List.map_cons, List.map_nil, List.map_set, List.map_replicate] <;> rfl)) (AW_of_r (d_spec_Join_L1w hΓ (fun z1_5 h => ?_) (by have := (Rdb.sl (hr _ (List.mem_of_getElem? (i := 0) rfl))).1; simpa using this) (a0_) 0 ([]) rfl h)))
  have h := den_some h
  subst h
  exact AW_go (n := 2000) [[none]] [] (.ret (D.str (z1_5))) hΓ mix (by kernel_rfl) ow0 rfl

def d_spec_FormatFact (a0_ : Fact) : Option Bytes := ((d_spec_IsFact (a0_)).bind fun y1 => (bif !(y1) then (some ([])) else (bif decide ((a0_.rel : Bytes).length + ([40] : Bytes).length ≤ maxLen) then ((d_spec_Join (a0_.args) ([44])).bind fun y5 => (bif decide (((a0_.rel) ++ ([40]) : Bytes).length + (y5 : Bytes).length ≤ maxLen) then (bif decide ((((a0_.rel) ++ ([40])) ++ (y5) : Bytes).length + ([41] : Bytes).length ≤ maxLen) then (some ((((a0_.rel) ++ ([40])) ++ (y5)) ++ ([41]))) else none) else none)) else none)))
theorem d_spec_FormatFact_good {a0_ : Fact} {r : Bytes} (h : d_spec_FormatFact a0_ = some r) : Good Try.prog 22 [D.agg (Fact.c a0_)] (D.str (r)) := by
  refine Good.of (c := bodyOf Try.f22) Try.func22 rfl (by decide) (by simp [Try.f22]) ?_
  intro hr Γ hΓ
  have hΓ : Γ.nt = 14 := hΓ
  rw [d_spec_FormatFact] at h
  refine (show AW Try.prog Γ (bodyOf Try.f22) (KQ Try.prog Γ (fun _ _ => False) (RetQ Try.prog Try.f22 (D.str (r))) []) _ from ?_)
  obtain ⟨y1, h2, h⟩ := den_bind h
  rcases den_if h with ⟨h3, h⟩ | ⟨h3, h⟩
  · have h := den_some h
    subst h
    exact AW_go (n := 2000) [[none]] [.d (D.bool (y1)), .b true] (.ret (D.str ([]))) hΓ mix (by kernel_rfl) (ow (d_spec_IsFact_good h2) (ow (h3) ow0)) rfl
  · obtain ⟨h4, h⟩ := den_ok h
    obtain ⟨y5, h6, h⟩ := den_bind h
    obtain ⟨h7, h⟩ := den_ok h
    obtain ⟨h8, h⟩ := den_ok h
    have h := den_some h
    subst h
    exact AW_go (n := 2000) [[none]] [.d (D.bool (y1)), .b false, .n 6, .d (D.str (y5))] (.ret (D.str ((((a0_.rel) ++ ([40])) ++ (y5)) ++ ([41])))) hΓ mix (by kernel_rfl) (ow (d_spec_IsFact_good h2) (ow (h3) (ow (of_decide_eq_true h4) (ow (d_spec_Join_good h6) (ow (of_decide_eq_true h7) (ow (of_decide_eq_true h8) ow0)))))) (by first | rfl | (simp only [List.map_append, List.map_cons, List.map_nil, List.map_set] <;> rfl))

def d_spec_FormatFacts_L1 (a0_ : List Fact) (k1 : List Bytes → Option Bytes) : List Fact → Nat → List Bytes → Option Bytes
  | [], i1, w1_0 => (k1 (w1_0))
  | x1_ :: xs1, i1, w1_0 => ((d_spec_IsFact (x1_)).bind fun y42 => (bif !(y42) then (some ([])) else ((d_spec_FormatFact (x1_)).bind fun y45 => (bif room (((w1_0).map tx).length + ([[D.str (y45)]]).length) 16 then (d_spec_FormatFacts_L1 a0_ k1 xs1 (i1 + 1) ((w1_0) ++ ([y45]))) else none))))

def d_spec_FormatFacts (a0_ : List Fact) : Option Bytes := (d_spec_FormatFacts_L1 a0_ (fun (q1_0 : List Bytes) => (bif ((((q1_0).map tx).length : Int) : Int) == (0) then (some ([45])) else ((d_spec_Join (q1_0) ([32])).bind fun y49 => (some (y49))))) (a0_) 0 (([] : List Bytes)))
theorem d_spec_FormatFacts_L1w {Γ : Ctx} (hΓ : Γ.nt = 31) {N : Nat → St → Prop} {a0_ : List Fact} {r : Bytes} {k1 : List Bytes → Option Bytes} (hE1 : ∀ (q1_0 : List Bytes), k1 q1_0 = some r → AW Try.prog Γ (dig (bodyOf Try.f11) [1, 1, 1] []).1 (KQ Try.prog Γ N (RetQ Try.prog Try.f11 (D.str (r))) (dig (bodyOf Try.f11) [1, 1, 1] []).2) ⟨[(3, D.acc 0)], [Ob.row .uq 9 1 ((q1_0).map tx)]⟩) (hm1 : (a0_).length ≤ maxLen) : ∀ (rest : List Fact) (i1 : Nat) (w1_0 : List Bytes), (a0_).drop i1 = rest → d_spec_FormatFacts_L1 a0_ k1 rest i1 w1_0 = some r → AWr Try.prog Γ (dig (bodyOf Try.f11) [1, 1, 0, 1, 0, 0] []).1 (KQ Try.prog Γ N (RetQ Try.prog Try.f11 (D.str (r))) (dig (bodyOf Try.f11) [1, 1, 0, 1, 0] []).2) (rest.length + 1) ⟨[(0, D.sl ((a0_).map Fact.c)), (3, D.acc 0), (4, D.int .i64 ((i1 : Int)))], [Ob.row .uq 9 1 ((w1_0).map tx)]⟩ := by
  intro rest
  induction rest with
  | nil =>
    intro i1 w1_0 hd1 h
    rw [d_spec_FormatFacts_L1] at h
    refine AWr_succ fun N1 hN1 hS1 => ?_
    have t := AW_N (N := N) (N' := N1) (K0 := (dig (bodyOf Try.f11) [1, 1, 0, 1, 0] []).2) (by kernel_rfl) hN1 (hE1 (w1_0) h)
    refine AW_go (n := 2000) [[none]] [.b false, .hl 0 [3] [0]] (.at_ (dig (bodyOf Try.f11) [1, 1, 1] []).1 (dig (bodyOf Try.f11) [1, 1, 1] []).2 ⟨[(3, D.acc 0)], [Ob.row .uq 9 1 ((w1_0).map tx)]⟩) hΓ mix (by kernel_rfl) (ow ((ltm_false Fact.c (drop_nil hd1))) ow0) ?_
    first | exact t | (simp only [List.map_append, List.map_cons, List.map_nil, List.map_set] at t ⊢; exact t)
  | cons x1_ xs1 ih1 =>
    intro i1 w1_0 hd1 h
    rw [d_spec_FormatFacts_L1] at h
    refine AWr_succ fun N1 hN1 hS1 => ?_
    obtain ⟨y42, h43, h⟩ := den_bind h
    rcases den_if h with ⟨h44, h⟩ | ⟨h44, h⟩
    · have h := den_some h
      subst h
      exact AW_go (n := 2000) [[none]] [.b true, .row (Fact.c x1_), .d (D.bool (y42)), .b true] (.ret (D.str ([]))) hΓ mix (by kernel_rfl) (ow ((ltm_true Fact.c (drop_cons hd1).2.1)) (ow (map_row Fact.c 2 (drop_cons hd1).1 rfl) (ow (d_spec_IsFact_good h43) (ow (h44) ow0)))) rfl
    · obtain ⟨y45, h46, h⟩ := den_bind h
      obtain ⟨h47, h⟩ := den_ok h
      have t := ih1 (i1 + 1) ((w1_0) ++ ([y45])) (drop_cons hd1).2.2 h
      refine AW_go (n := 2000) [[none]] [.b true, .row (Fact.c x1_), .d (D.bool (y42)), .b false, .row (Fact.c x1_), .d (D.str (y45)), .cn [0, 3, 4] [2]] (.cont 0 ⟨[(0, D.sl ((a0_).map Fact.c)), (3, D.acc 0), (4, D.int .i64 (IntKind.i64.wrap (((i1 : Int)) + (1))))], [Ob.row .uq 9 1 (((w1_0).map tx) ++ ([[D.str (y45)]]))]⟩) hΓ mix (by kernel_rfl) (ow ((ltm_true Fact.c (drop_cons hd1).2.1)) (ow (map_row Fact.c 2 (drop_cons hd1).1 rfl) (ow (d_spec_IsFact_good h43) (ow (h44) (ow (map_row Fact.c 2 (drop_cons hd1).1 rfl) (ow (d_spec_FormatFact_good h46) (ow (room_ok h47) ow0))))))) ?_
      refine (congrFun hS1 _).mpr ?_
      rw [i64_succ (drop_cons hd1).2.1 hm1]
      first | exact t | (simp only [List.map_append, List.map_cons, List.map_nil, List.map_set] at t ⊢; exact t)

theorem d_spec_FormatFacts_good {a0_ : List Fact} {r : Bytes} (h : d_spec_FormatFacts a0_ = some r) : Good Try.prog 11 [D.sl ((a0_).map Fact.c)] (D.str (r)) := by
  refine Good.of (c := bodyOf Try.f11) Try.func11 rfl (by decide) (by simp [Try.f11]) ?_
  intro hr Γ hΓ
  have hΓ : Γ.nt = 31 := hΓ
  rw [d_spec_FormatFacts] at h
  refine (show AW Try.prog Γ (bodyOf Try.f11) (KQ Try.prog Γ (fun _ _ => False) (RetQ Try.prog Try.f11 (D.str (r))) []) _ from ?_)
  refine AW_go (n := 2000) [[none]] [.cn [0, 3, 4] [0]] (.lp (dig (bodyOf Try.f11) [1, 1, 0, 1, 0, 0] []).1 (dig (bodyOf Try.f11) [1, 1, 0, 1, 0] []).2 ⟨[(0, D.sl ((a0_).map Fact.c)), (3, D.acc 0), (4, D.int .i64 (0))], [Ob.row .uq 9 1 (([] : List (List D)))]⟩) hΓ mix (by kernel_rfl) ow0 (AW_st (by first | rfl | (simp only [List.map_append, List.map_cons, List.map_nil, List.map_set, List.map_replicate] <;> rfl)) (AW_of_r (d_spec_FormatFacts_L1w hΓ (fun q1_0 h => ?_) (by have := (Rdb.sl (hr _ (List.mem_of_getElem? (i := 0) rfl))).1; simpa using this) (a0_) 0 (([] : List Bytes)) rfl h)))
  rcases den_if h with ⟨h48, h⟩ | ⟨h48, h⟩
  · have h := den_some h
    subst h
    exact AW_go (n := 2000) [[none]] [.b true] (.ret (D.str ([45]))) hΓ mix (by kernel_rfl) (ow (h48) ow0) rfl
  · obtain ⟨y49, h50, h⟩ := den_bind h
    have h := den_some h
    subst h
    exact AW_go (n := 2000) [[none]] [.b false, .d (D.str (y49))] (.ret (D.str (y49))) hΓ mix (by kernel_rfl) (ow (h48) (ow (d_spec_Join_good h50) ow0)) rfl

def d_spec_FormatMatch (a0_ : Match) : Option Bytes := ((d_spec_FormatFacts (a0_.facts)).bind fun y1 => ((d_spec_IsName (a0_.rule)).bind fun y3 => (bif !(y3) then (some ([])) else (bif (y1 : Bytes) == ([]) then (some ([])) else (bif decide ((a0_.rule : Bytes).length + ([58, 32] : Bytes).length ≤ maxLen) then (bif decide (((a0_.rule) ++ ([58, 32]) : Bytes).length + (y1 : Bytes).length ≤ maxLen) then (some (((a0_.rule) ++ ([58, 32])) ++ (y1))) else none) else none)))))
theorem d_spec_FormatMatch_good {a0_ : Match} {r : Bytes} (h : d_spec_FormatMatch a0_ = some r) : Good Try.prog 5 [D.agg (Match.c a0_)] (D.str (r)) := by
  refine Good.of (c := bodyOf Try.f5) Try.func5 rfl (by decide) (by simp [Try.f5]) ?_
  intro hr Γ hΓ
  have hΓ : Γ.nt = 20 := hΓ
  rw [d_spec_FormatMatch] at h
  refine (show AW Try.prog Γ (bodyOf Try.f5) (KQ Try.prog Γ (fun _ _ => False) (RetQ Try.prog Try.f5 (D.str (r))) []) _ from ?_)
  obtain ⟨y1, h2, h⟩ := den_bind h
  obtain ⟨y3, h4, h⟩ := den_bind h
  rcases den_if h with ⟨h5, h⟩ | ⟨h5, h⟩
  · have h := den_some h
    subst h
    exact AW_go (n := 2000) [[none]] [.d (D.str (y1)), .d (D.bool (y3)), .b true, .b true, .b true, .b true] (.ret (D.str ([]))) hΓ mix (by kernel_rfl) (ow (d_spec_FormatFacts_good h2) (ow (d_spec_IsName_good h4) (ow (h5) (ow (h5) (ow (h5) (ow (show (true) = true from rfl) ow0)))))) rfl
  · rcases den_if h with ⟨h6, h⟩ | ⟨h6, h⟩
    · have h := den_some h
      subst h
      exact AW_go (n := 2000) [[none]] [.d (D.str (y1)), .d (D.bool (y3)), .b false, .b false, .b false, .b true] (.ret (D.str ([]))) hΓ mix (by kernel_rfl) (ow (d_spec_FormatFacts_good h2) (ow (d_spec_IsName_good h4) (ow (h5) (ow (h5) (ow (h5) (ow (h6) ow0)))))) rfl
    · obtain ⟨h7, h⟩ := den_ok h
      obtain ⟨h8, h⟩ := den_ok h
      have h := den_some h
      subst h
      exact AW_go (n := 2000) [[none]] [.d (D.str (y1)), .d (D.bool (y3)), .b false, .b false, .b false, .b false] (.ret (D.str (((a0_.rule) ++ ([58, 32])) ++ (y1)))) hΓ mix (by kernel_rfl) (ow (d_spec_FormatFacts_good h2) (ow (d_spec_IsName_good h4) (ow (h5) (ow (h5) (ow (h5) (ow (h6) (ow (of_decide_eq_true h7) (ow (of_decide_eq_true h8) ow0)))))))) (by first | rfl | (simp only [List.map_append, List.map_cons, List.map_nil, List.map_set] <;> rfl))

def d_impl_IsAtom_L1 (a0_ : Bytes) (k1 : Option Bool) : Nat → Int → Option Bool
  | 0, _ => none
  | n1 + 1, v1_3 => (bif decide ((v1_3 : Int) < (((a0_).length : Int))) then ((atI (a0_) (v1_3)).bind fun b31 => (bif decide ((b31.toNat : Int) < (97)) then (bif decide ((b31.toNat : Int) < (48)) then (some (false)) else (bif decide ((b31.toNat : Int) > (57)) then (some (false)) else (d_impl_IsAtom_L1 a0_ k1 n1 (IntKind.i64.wrap ((v1_3) + (1)))))) else (bif decide ((b31.toNat : Int) > (122)) then (bif decide ((b31.toNat : Int) < (48)) then (some (false)) else (bif decide ((b31.toNat : Int) > (57)) then (some (false)) else (d_impl_IsAtom_L1 a0_ k1 n1 (IntKind.i64.wrap ((v1_3) + (1)))))) else (d_impl_IsAtom_L1 a0_ k1 n1 (IntKind.i64.wrap ((v1_3) + (1))))))) else (k1 ))

def d_impl_IsAtom (a0_ : Bytes) : Option Bool := (bif decide ((((a0_).length : Int) : Int) < (1)) then (some (false)) else (bif decide ((((a0_).length : Int) : Int) > (8)) then (some (false)) else (d_impl_IsAtom_L1 a0_ (some (true)) fuel (0))))
theorem d_impl_IsAtom_L1w {Γ : Ctx} (hΓ : Γ.nt = 40) {N : Nat → St → Prop} {a0_ : Bytes} {r : Bool} {k1 : Option Bool} (hE1 : k1 = some r → AW Try.prog Γ (dig (bodyOf Try.f31) [1, 1, 1] []).1 (KQ Try.prog Γ N (RetQ Try.prog Try.f31 (D.bool (r))) (dig (bodyOf Try.f31) [1, 1, 1] []).2) ⟨[], []⟩) : ∀ (n1 : Nat) (v1_3 : Int), d_impl_IsAtom_L1 a0_ k1 n1 v1_3 = some r → AWr Try.prog Γ (dig (bodyOf Try.f31) [1, 1, 0, 1, 0, 0] []).1 (KQ Try.prog Γ N (RetQ Try.prog Try.f31 (D.bool (r))) (dig (bodyOf Try.f31) [1, 1, 0, 1, 0] []).2) n1 ⟨[(0, D.str (a0_)), (3, D.int .i64 (v1_3))], []⟩ := by
  intro n
  induction n with
  | zero => intro v1_3 h; simp [d_impl_IsAtom_L1] at h
  | succ n1 ih1 =>
    intro v1_3 h
    rw [d_impl_IsAtom_L1] at h
    refine AWr_succ fun N1 hN1 hS1 => ?_
    rcases den_if h with ⟨h30, h⟩ | ⟨h30, h⟩
    · obtain ⟨b31, h32, h⟩ := den_bind h
      rcases den_if h with ⟨h33, h⟩ | ⟨h33, h⟩
      · rcases den_if h with ⟨h34, h⟩ | ⟨h34, h⟩
        · have h := den_some h
          subst h
          exact AW_go (n := 2000) [[none]] [.b true, .ch b31, .b true, .b true, .b true, .b true, .b true, .b true, .b true, .b true, .ch b31, .b true, .b true, .b true, .b true, .b true, .b true, .b true, .b true, .b true, .b true] (.ret (D.bool (false))) hΓ mix (by kernel_rfl) (ow (h30) (ow (at_str h32) (ow (h33) (ow (h33) (ow (h33) (ow (h33) (ow (h33) (ow (show (true) = true from rfl) (ow (show (true) = true from rfl) (ow (show (true) = true from rfl) (ow (at_str h32) (ow (show (true) = true from rfl) (ow (show (true) = true from rfl) (ow (h34) (ow (h34) (ow (h34) (ow (h34) (ow (show (true) = true from rfl) (ow (h34) (ow (show (true) = true from rfl) (ow (show (true) = true from rfl) ow0))))))))))))))))))))) rfl
        · rcases den_if h with ⟨h35, h⟩ | ⟨h35, h⟩
          · have h := den_some h
            subst h
            exact AW_go (n := 2000) [[none]] [.b true, .ch b31, .b true, .b true, .b true, .b true, .b true, .b true, .b true, .b true, .ch b31, .b true, .b true, .b false, .b false, .b false, .ch b31, .b false, .b true, .b false, .b true, .b true] (.ret (D.bool (false))) hΓ mix (by kernel_rfl) (ow (h30) (ow (at_str h32) (ow (h33) (ow (h33) (ow (h33) (ow (h33) (ow (h33) (ow (show (true) = true from rfl) (ow (show (true) = true from rfl) (ow (show (true) = true from rfl) (ow (at_str h32) (ow (show (true) = true from rfl) (ow (show (true) = true from rfl) (ow (h34) (ow (h34) (ow (h34) (ow (at_str h32) (ow (h34) (ow (show (true) = true from rfl) (ow (h34) (ow (show (true) = true from rfl) (ow (h35) ow0)))))))))))))))))))))) rfl
          · have t := ih1 (IntKind.i64.wrap ((v1_3) + (1))) h
            refine AW_go (n := 2000) [[none]] [.b true, .ch b31, .b true, .b true, .b true, .b true, .b true, .b true, .b true, .b true, .ch b31, .b true, .b true, .b false, .b false, .b false, .ch b31, .b false, .b true, .b false, .b true, .b false, .cn [0, 3] []] (.cont 0 ⟨[(0, D.str (a0_)), (3, D.int .i64 (IntKind.i64.wrap ((v1_3) + (1))))], []⟩) hΓ mix (by kernel_rfl) (ow (h30) (ow (at_str h32) (ow (h33) (ow (h33) (ow (h33) (ow (h33) (ow (h33) (ow (show (true) = true from rfl) (ow (show (true) = true from rfl) (ow (show (true) = true from rfl) (ow (at_str h32) (ow (show (true) = true from rfl) (ow (show (true) = true from rfl) (ow (h34) (ow (h34) (ow (h34) (ow (at_str h32) (ow (h34) (ow (show (true) = true from rfl) (ow (h34) (ow (show (true) = true from rfl) (ow (h35) ow0)))))))))))))))))))))) ?_
            refine (congrFun hS1 _).mpr ?_
            first | exact t | (simp only [List.map_append, List.map_cons, List.map_nil, List.map_set] at t ⊢; exact t)
      · rcases den_if h with ⟨h36, h⟩ | ⟨h36, h⟩
        · rcases den_if h with ⟨h37, h⟩ | ⟨h37, h⟩
          · have h := den_some h
            subst h
            exact AW_go (n := 2000) [[none]] [.b true, .ch b31, .b false, .b false, .b false, .ch b31, .b false, .b false, .b true, .b true, .b true, .ch b31, .b true, .b true, .b true, .b true, .b true, .b true, .b true, .b true, .b true, .b true] (.ret (D.bool (false))) hΓ mix (by kernel_rfl) (ow (h30) (ow (at_str h32) (ow (h33) (ow (h33) (ow (h33) (ow (at_str h32) (ow (h33) (ow (h33) (ow (h36) (ow (h36) (ow (h36) (ow (at_str h32) (ow (h36) (ow (h36) (ow (h37) (ow (h37) (ow (h37) (ow (h37) (ow (h36) (ow (h37) (ow (h36) (ow (show (true) = true from rfl) ow0)))))))))))))))))))))) rfl
          · rcases den_if h with ⟨h38, h⟩ | ⟨h38, h⟩
            · have h := den_some h
              subst h
              exact AW_go (n := 2000) [[none]] [.b true, .ch b31, .b false, .b false, .b false, .ch b31, .b false, .b false, .b true, .b true, .b true, .ch b31, .b true, .b true, .b false, .b false, .b false, .ch b31, .b false, .b true, .b false, .b true, .b true] (.ret (D.bool (false))) hΓ mix (by kernel_rfl) (ow (h30) (ow (at_str h32) (ow (h33) (ow (h33) (ow (h33) (ow (at_str h32) (ow (h33) (ow (h33) (ow (h36) (ow (h36) (ow (h36) (ow (at_str h32) (ow (h36) (ow (h36) (ow (h37) (ow (h37) (ow (h37) (ow (at_str h32) (ow (h37) (ow (h36) (ow (h37) (ow (h36) (ow (h38) ow0))))))))))))))))))))))) rfl
            · have t := ih1 (IntKind.i64.wrap ((v1_3) + (1))) h
              refine AW_go (n := 2000) [[none]] [.b true, .ch b31, .b false, .b false, .b false, .ch b31, .b false, .b false, .b true, .b true, .b true, .ch b31, .b true, .b true, .b false, .b false, .b false, .ch b31, .b false, .b true, .b false, .b true, .b false, .cn [0, 3] []] (.cont 0 ⟨[(0, D.str (a0_)), (3, D.int .i64 (IntKind.i64.wrap ((v1_3) + (1))))], []⟩) hΓ mix (by kernel_rfl) (ow (h30) (ow (at_str h32) (ow (h33) (ow (h33) (ow (h33) (ow (at_str h32) (ow (h33) (ow (h33) (ow (h36) (ow (h36) (ow (h36) (ow (at_str h32) (ow (h36) (ow (h36) (ow (h37) (ow (h37) (ow (h37) (ow (at_str h32) (ow (h37) (ow (h36) (ow (h37) (ow (h36) (ow (h38) ow0))))))))))))))))))))))) ?_
              refine (congrFun hS1 _).mpr ?_
              first | exact t | (simp only [List.map_append, List.map_cons, List.map_nil, List.map_set] at t ⊢; exact t)
        · have t := ih1 (IntKind.i64.wrap ((v1_3) + (1))) h
          refine AW_go (n := 2000) [[none]] [.b true, .ch b31, .b false, .b false, .b false, .ch b31, .b false, .b false, .b false, .b false, .b false, .b false, .b false, .b false, .b false, .b false, .b false, .b false, .b false, .b false, .cn [0, 3] []] (.cont 0 ⟨[(0, D.str (a0_)), (3, D.int .i64 (IntKind.i64.wrap ((v1_3) + (1))))], []⟩) hΓ mix (by kernel_rfl) (ow (h30) (ow (at_str h32) (ow (h33) (ow (h33) (ow (h33) (ow (at_str h32) (ow (h33) (ow (h33) (ow (h36) (ow (h36) (ow (h36) (ow (h36) (ow (h36) (ow (h36) (ow (h36) (ow (show (false) = false from rfl) ow0)))))))))))))))) ?_
          refine (congrFun hS1 _).mpr ?_
          first | exact t | (simp only [List.map_append, List.map_cons, List.map_nil, List.map_set] at t ⊢; exact t)
    · have t := AW_N (N := N) (N' := N1) (K0 := (dig (bodyOf Try.f31) [1, 1, 0, 1, 0] []).2) (by kernel_rfl) hN1 (hE1  h)
      refine AW_go (n := 2000) [[none]] [.b false, .hl 0 [] []] (.at_ (dig (bodyOf Try.f31) [1, 1, 1] []).1 (dig (bodyOf Try.f31) [1, 1, 1] []).2 ⟨[], []⟩) hΓ mix (by kernel_rfl) (ow (h30) ow0) ?_
      first | exact t | (simp only [List.map_append, List.map_cons, List.map_nil, List.map_set] at t ⊢; exact t)

theorem d_impl_IsAtom_good {a0_ : Bytes} {r : Bool} (h : d_impl_IsAtom a0_ = some r) : Good Try.prog 31 [D.str (a0_)] (D.bool (r)) := by
  refine Good.of (c := bodyOf Try.f31) Try.func31 rfl (by decide) (by simp [Try.f31]) ?_
  intro hr Γ hΓ
  have hΓ : Γ.nt = 40 := hΓ
  rw [d_impl_IsAtom] at h
  refine (show AW Try.prog Γ (bodyOf Try.f31) (KQ Try.prog Γ (fun _ _ => False) (RetQ Try.prog Try.f31 (D.bool (r))) []) _ from ?_)
  rcases den_if h with ⟨h1, h⟩ | ⟨h1, h⟩
  · have h := den_some h
    subst h
    exact AW_go (n := 2000) [[none]] [.b true, .b true, .b true, .b true, .b true] (.ret (D.bool (false))) hΓ mix (by kernel_rfl) (ow (h1) (ow (h1) (ow (h1) (ow (h1) (ow (show (true) = true from rfl) ow0))))) rfl
  · rcases den_if h with ⟨h2, h⟩ | ⟨h2, h⟩
    · have h := den_some h
      subst h
      exact AW_go (n := 2000) [[none]] [.b false, .b false, .b false, .b false, .b true] (.ret (D.bool (false))) hΓ mix (by kernel_rfl) (ow (h1) (ow (h1) (ow (h1) (ow (h1) (ow (h2) ow0))))) rfl
    · refine AW_go (n := 2000) [[none]] [.b false, .b false, .b false, .b false, .b false, .cn [0, 3] []] (.lp (dig (bodyOf Try.f31) [1, 1, 0, 1, 0, 0] []).1 (dig (bodyOf Try.f31) [1, 1, 0, 1, 0] []).2 ⟨[(0, D.str (a0_)), (3, D.int .i64 (0))], []⟩) hΓ mix (by kernel_rfl) (ow (h1) (ow (h1) (ow (h1) (ow (h1) (ow (h2) ow0))))) (AW_st (by first | rfl | (simp only [List.map_append, List.map_cons, List.map_nil, List.map_set, List.map_replicate] <;> rfl)) (AW_of_r (d_impl_IsAtom_L1w hΓ (fun h => ?_) fuel (0) h)))
      have h := den_some h
      subst h
      exact AW_go (n := 2000) [[none]] [] (.ret (D.bool (true))) hΓ mix (by kernel_rfl) ow0 rfl

def d_impl_IsName (a0_ : Bytes) : Option Bool := ((d_impl_IsAtom (a0_)).bind fun y1 => (bif y1 then ((atI (a0_) (0)).bind fun b4 => (some (decide ((b4.toNat : Int) ≥ (97))))) else (some (false))))
theorem d_impl_IsName_good {a0_ : Bytes} {r : Bool} (h : d_impl_IsName a0_ = some r) : Good Try.prog 16 [D.str (a0_)] (D.bool (r)) := by
  refine Good.of (c := bodyOf Try.f16) Try.func16 rfl (by decide) (by simp [Try.f16]) ?_
  intro hr Γ hΓ
  have hΓ : Γ.nt = 10 := hΓ
  rw [d_impl_IsName] at h
  refine (show AW Try.prog Γ (bodyOf Try.f16) (KQ Try.prog Γ (fun _ _ => False) (RetQ Try.prog Try.f16 (D.bool (r))) []) _ from ?_)
  obtain ⟨y1, h2, h⟩ := den_bind h
  rcases den_if h with ⟨h3, h⟩ | ⟨h3, h⟩
  · obtain ⟨b4, h5, h⟩ := den_bind h
    have h := den_some h
    subst h
    exact AW_go (n := 2000) [[none]] [.d (D.bool (y1)), .b true, .b true, .ch b4, .b true, .b true] (.ret (D.bool (decide ((b4.toNat : Int) ≥ (97))))) hΓ mix (by kernel_rfl) (ow (d_impl_IsAtom_good h2) (ow (h3) (ow (h3) (ow (at_str h5) (ow (h3) (ow (h3) ow0)))))) rfl
  · have h := den_some h
    subst h
    exact AW_go (n := 2000) [[none]] [.d (D.bool (y1)), .b false, .b false, .b false, .b false] (.ret (D.bool (false))) hΓ mix (by kernel_rfl) (ow (d_impl_IsAtom_good h2) (ow (h3) (ow (h3) (ow (h3) (ow (h3) ow0))))) rfl

def d_impl_IsFact_L1 (a0_ : Fact) (k1 : Option Bool) : List Bytes → Nat → Option Bool
  | [], i1 => (k1 )
  | x1_ :: xs1, i1 => ((d_impl_IsAtom (x1_)).bind fun y25 => (bif !(y25) then (some (false)) else (d_impl_IsFact_L1 a0_ k1 xs1 (i1 + 1) )))

def d_impl_IsFact (a0_ : Fact) : Option Bool := ((d_impl_IsName (a0_.rel)).bind fun y1 => (bif !(y1) then (some (false)) else (bif decide (((((a0_.args).map tx).length : Int) : Int) > (3)) then (some (false)) else (d_impl_IsFact_L1 a0_ (some (true)) (a0_.args) 0 ))))
theorem d_impl_IsFact_L1w {Γ : Ctx} (hΓ : Γ.nt = 26) {N : Nat → St → Prop} {a0_ : Fact} {r : Bool} {k1 : Option Bool} (hE1 : k1 = some r → AW Try.prog Γ (dig (bodyOf Try.f28) [1, 1, 1] []).1 (KQ Try.prog Γ N (RetQ Try.prog Try.f28 (D.bool (r))) (dig (bodyOf Try.f28) [1, 1, 1] []).2) ⟨[], []⟩) (hm1 : (a0_.args).length ≤ maxLen) : ∀ (rest : List Bytes) (i1 : Nat) , (a0_.args).drop i1 = rest → d_impl_IsFact_L1 a0_ k1 rest i1  = some r → AWr Try.prog Γ (dig (bodyOf Try.f28) [1, 1, 0, 1, 0, 0] []).1 (KQ Try.prog Γ N (RetQ Try.prog Try.f28 (D.bool (r))) (dig (bodyOf Try.f28) [1, 1, 0, 1, 0] []).2) (rest.length + 1) ⟨[(16, D.sl ((a0_.args).map tx)), (17, D.int .i64 ((((a0_.args).map tx).length : Int))), (18, D.int .i64 ((i1 : Int)))], []⟩ := by
  intro rest
  induction rest with
  | nil =>
    intro i1  hd1 h
    rw [d_impl_IsFact_L1] at h
    refine AWr_succ fun N1 hN1 hS1 => ?_
    have t := AW_N (N := N) (N' := N1) (K0 := (dig (bodyOf Try.f28) [1, 1, 0, 1, 0] []).2) (by kernel_rfl) hN1 (hE1  h)
    refine AW_go (n := 2000) [[none]] [.b false, .hl 0 [] []] (.at_ (dig (bodyOf Try.f28) [1, 1, 1] []).1 (dig (bodyOf Try.f28) [1, 1, 1] []).2 ⟨[], []⟩) hΓ mix (by kernel_rfl) (ow ((ltm_false tx (drop_nil hd1))) ow0) ?_
    first | exact t | (simp only [List.map_append, List.map_cons, List.map_nil, List.map_set] at t ⊢; exact t)
  | cons x1_ xs1 ih1 =>
    intro i1  hd1 h
    rw [d_impl_IsFact_L1] at h
    refine AWr_succ fun N1 hN1 hS1 => ?_
    obtain ⟨y25, h26, h⟩ := den_bind h
    rcases den_if h with ⟨h27, h⟩ | ⟨h27, h⟩
    · have h := den_some h
      subst h
      exact AW_go (n := 2000) [[none]] [.b true, .row (tx x1_), .d (D.bool (y25)), .b true] (.ret (D.bool (false))) hΓ mix (by kernel_rfl) (ow ((ltm_true tx (drop_cons hd1).2.1)) (ow (map_row tx 1 (drop_cons hd1).1 rfl) (ow (d_impl_IsAtom_good h26) (ow (h27) ow0)))) rfl
    · have t := ih1 (i1 + 1)  (drop_cons hd1).2.2 h
      refine AW_go (n := 2000) [[none]] [.b true, .row (tx x1_), .d (D.bool (y25)), .b false, .cn [16, 17, 18] []] (.cont 0 ⟨[(16, D.sl ((a0_.args).map tx)), (17, D.int .i64 ((((a0_.args).map tx).length : Int))), (18, D.int .i64 (IntKind.i64.wrap (((i1 : Int)) + (1))))], []⟩) hΓ mix (by kernel_rfl) (ow ((ltm_true tx (drop_cons hd1).2.1)) (ow (map_row tx 1 (drop_cons hd1).1 rfl) (ow (d_impl_IsAtom_good h26) (ow (h27) ow0)))) ?_
      refine (congrFun hS1 _).mpr ?_
      rw [i64_succ (drop_cons hd1).2.1 hm1]
      first | exact t | (simp only [List.map_append, List.map_cons, List.map_nil, List.map_set] at t ⊢; exact t)

theorem d_impl_IsFact_good {a0_ : Fact} {r : Bool} (h : d_impl_IsFact a0_ = some r) : Good Try.prog 28 [D.agg (Fact.c a0_)] (D.bool (r)) := by
  refine Good.of (c := bodyOf Try.f28) Try.func28 rfl (by decide) (by simp [Try.f28]) ?_
  intro hr Γ hΓ
  have hΓ : Γ.nt = 26 := hΓ
  rw [d_impl_IsFact] at h
  refine (show AW Try.prog Γ (bodyOf Try.f28) (KQ Try.prog Γ (fun _ _ => False) (RetQ Try.prog Try.f28 (D.bool (r))) []) _ from ?_)
  obtain ⟨y1, h2, h⟩ := den_bind h
  rcases den_if h with ⟨h3, h⟩ | ⟨h3, h⟩
  · have h := den_some h
    subst h
    exact AW_go (n := 2000) [[none]] [.d (D.bool (y1)), .b true, .b true, .b true, .b true, .b true, .b true] (.ret (D.bool (false))) hΓ mix (by kernel_rfl) (ow (d_impl_IsName_good h2) (ow (h3) (ow (h3) (ow (h3) (ow (h3) (ow (h3) (ow (show (true) = true from rfl) ow0))))))) rfl
  · rcases den_if h with ⟨h4, h⟩ | ⟨h4, h⟩
    · have h := den_some h
      subst h
      exact AW_go (n := 2000) [[none]] [.d (D.bool (y1)), .b false, .b false, .b false, .b false, .b false, .b true] (.ret (D.bool (false))) hΓ mix (by kernel_rfl) (ow (d_impl_IsName_good h2) (ow (h3) (ow (h3) (ow (h3) (ow (h3) (ow (h3) (ow (h4) ow0))))))) rfl
    · refine AW_go (n := 2000) [[none]] [.d (D.bool (y1)), .b false, .b false, .b false, .b false, .b false, .b false, .cn [16, 17, 18] []] (.lp (dig (bodyOf Try.f28) [1, 1, 0, 1, 0, 0] []).1 (dig (bodyOf Try.f28) [1, 1, 0, 1, 0] []).2 ⟨[(16, D.sl ((a0_.args).map tx)), (17, D.int .i64 ((((a0_.args).map tx).length : Int))), (18, D.int .i64 (0))], []⟩) hΓ mix (by kernel_rfl) (ow (d_impl_IsName_good h2) (ow (h3) (ow (h3) (ow (h3) (ow (h3) (ow (h3) (ow (h4) ow0))))))) (AW_st (by first | rfl | (simp only [List.map_append, List.map_cons, List.map_nil, List.map_set, List.map_replicate] <;> rfl)) (AW_of_r (d_impl_IsFact_L1w hΓ (fun h => ?_) (by have := (Rdb.sl (Rdb.agg (hr _ (List.mem_of_getElem? (i := 0) rfl)) (.sl ((a0_.args).map tx)) (by simp))).1; simpa using this) (a0_.args) 0  rfl h)))
      have h := den_some h
      subst h
      exact AW_go (n := 2000) [[none]] [] (.ret (D.bool (true))) hΓ mix (by kernel_rfl) ow0 rfl


def d_impl_Join (a0_ : List Bytes) (a1_ : Bytes) : Option Bytes := ((d_strings_Join (a0_) (a1_)).bind fun y1 => (some (y1)))
theorem d_impl_Join_good {a0_ : List Bytes} {a1_ : Bytes} {r : Bytes} (h : d_impl_Join a0_ a1_ = some r) : Good Try.prog 30 [D.sl ((a0_).map tx), D.str (a1_)] (D.str (r)) := by
  refine Good.of (c := bodyOf Try.f30) Try.func30 rfl (by decide) (by simp [Try.f30]) ?_
  intro hr Γ hΓ
  have hΓ : Γ.nt = 8 := hΓ
  rw [d_impl_Join] at h
  refine (show AW Try.prog Γ (bodyOf Try.f30) (KQ Try.prog Γ (fun _ _ => False) (RetQ Try.prog Try.f30 (D.str (r))) []) _ from ?_)
  obtain ⟨y1, h2, h⟩ := den_bind h
  have h := den_some h
  subst h
  exact AW_go (n := 2000) [[none]] [.d (D.str (y1))] (.ret (D.str (y1))) hΓ mix (by kernel_rfl) (ow (d_strings_Join_good h2) ow0) rfl

def d_impl_FormatFact (a0_ : Fact) : Option Bytes := ((d_impl_IsFact (a0_)).bind fun y1 => (bif !(y1) then (some ([])) else (bif decide ((a0_.rel : Bytes).length + ([40] : Bytes).length ≤ maxLen) then ((d_impl_Join (a0_.args) ([44])).bind fun y5 => (bif decide (((a0_.rel) ++ ([40]) : Bytes).length + (y5 : Bytes).length ≤ maxLen) then (bif decide ((((a0_.rel) ++ ([40])) ++ (y5) : Bytes).length + ([41] : Bytes).length ≤ maxLen) then (some ((((a0_.rel) ++ ([40])) ++ (y5)) ++ ([41]))) else none) else none)) else none)))
theorem d_impl_FormatFact_good {a0_ : Fact} {r : Bytes} (h : d_impl_FormatFact a0_ = some r) : Good Try.prog 29 [D.agg (Fact.c a0_)] (D.str (r)) := by
  refine Good.of (c := bodyOf Try.f29) Try.func29 rfl (by decide) (by simp [Try.f29]) ?_
  intro hr Γ hΓ
  have hΓ : Γ.nt = 14 := hΓ
  rw [d_impl_FormatFact] at h
  refine (show AW Try.prog Γ (bodyOf Try.f29) (KQ Try.prog Γ (fun _ _ => False) (RetQ Try.prog Try.f29 (D.str (r))) []) _ from ?_)
  obtain ⟨y1, h2, h⟩ := den_bind h
  rcases den_if h with ⟨h3, h⟩ | ⟨h3, h⟩
  · have h := den_some h
    subst h
    exact AW_go (n := 2000) [[none]] [.d (D.bool (y1)), .b true] (.ret (D.str ([]))) hΓ mix (by kernel_rfl) (ow (d_impl_IsFact_good h2) (ow (h3) ow0)) rfl
  · obtain ⟨h4, h⟩ := den_ok h
    obtain ⟨y5, h6, h⟩ := den_bind h
    obtain ⟨h7, h⟩ := den_ok h
    obtain ⟨h8, h⟩ := den_ok h
    have h := den_some h
    subst h
    exact AW_go (n := 2000) [[none]] [.d (D.bool (y1)), .b false, .n 6, .d (D.str (y5))] (.ret (D.str ((((a0_.rel) ++ ([40])) ++ (y5)) ++ ([41])))) hΓ mix (by kernel_rfl) (ow (d_impl_IsFact_good h2) (ow (h3) (ow (of_decide_eq_true h4) (ow (d_impl_Join_good h6) (ow (of_decide_eq_true h7) (ow (of_decide_eq_true h8) ow0)))))) (by first | rfl | (simp only [List.map_append, List.map_cons, List.map_nil, List.map_set] <;> rfl))

def d_impl_FormatFacts_L1 (a0_ : List Fact) (k1 : List Bytes → Option Bytes) : List Fact → Nat → List Bytes → Option Bytes
  | [], i1, w1_0 => (k1 (w1_0))
  | x1_ :: xs1, i1, w1_0 => ((d_impl_IsFact (x1_)).bind fun y43 => (bif !(y43) then (some ([])) else ((d_impl_FormatFact (x1_)).bind fun y46 => (bif room (((w1_0).map tx).length + ([[D.str (y46)]]).length) 16 then (d_impl_FormatFacts_L1 a0_ k1 xs1 (i1 + 1) ((w1_0) ++ ([y46]))) else none))))

def d_impl_FormatFacts (a0_ : List Fact) : Option Bytes := (bif ((((a0_).map Fact.c).length : Int) : Int) == (0) then (some ([45])) else (d_impl_FormatFacts_L1 a0_ (fun (q1_0 : List Bytes) => ((d_impl_Join (q1_0) ([32])).bind fun y49 => (some (y49)))) (a0_) 0 (([] : List Bytes))))
theorem d_impl_FormatFacts_L1w {Γ : Ctx} (hΓ : Γ.nt = 26) {N : Nat → St → Prop} {a0_ : List Fact} {r : Bytes} {k1 : List Bytes → Option Bytes} (hE1 : ∀ (q1_0 : List Bytes), k1 q1_0 = some r → AW Try.prog Γ (dig (bodyOf Try.f15) [1, 1, 1, 1] []).1 (KQ Try.prog Γ N (RetQ Try.prog Try.f15 (D.str (r))) (dig (bodyOf Try.f15) [1, 1, 1, 1] []).2) ⟨[(3, D.acc 0)], [Ob.row .uq 9 1 ((q1_0).map tx)]⟩) (hm1 : (a0_).length ≤ maxLen) : ∀ (rest : List Fact) (i1 : Nat) (w1_0 : List Bytes), (a0_).drop i1 = rest → d_impl_FormatFacts_L1 a0_ k1 rest i1 w1_0 = some r → AWr Try.prog Γ (dig (bodyOf Try.f15) [1, 1, 1, 0, 1, 0, 0] []).1 (KQ Try.prog Γ N (RetQ Try.prog Try.f15 (D.str (r))) (dig (bodyOf Try.f15) [1, 1, 1, 0, 1, 0] []).2) (rest.length + 1) ⟨[(3, D.acc 0), (9, D.sl ((a0_).map Fact.c)), (10, D.int .i64 ((((a0_).map Fact.c).length : Int))), (11, D.int .i64 ((i1 : Int)))], [Ob.row .uq 9 1 ((w1_0).map tx)]⟩ := by
  intro rest
  induction rest with
  | nil =>
    intro i1 w1_0 hd1 h
    rw [d_impl_FormatFacts_L1] at h
    refine AWr_succ fun N1 hN1 hS1 => ?_
    have t := AW_N (N := N) (N' := N1) (K0 := (dig (bodyOf Try.f15) [1, 1, 1, 0, 1, 0] []).2) (by kernel_rfl) hN1 (hE1 (w1_0) h)
    refine AW_go (n := 2000) [[none]] [.b false, .hl 0 [3] [0]] (.at_ (dig (bodyOf Try.f15) [1, 1, 1, 1] []).1 (dig (bodyOf Try.f15) [1, 1, 1, 1] []).2 ⟨[(3, D.acc 0)], [Ob.row .uq 9 1 ((w1_0).map tx)]⟩) hΓ mix (by kernel_rfl) (ow ((ltm_false Fact.c (drop_nil hd1))) ow0) ?_
    first | exact t | (simp only [List.map_append, List.map_cons, List.map_nil, List.map_set] at t ⊢; exact t)
  | cons x1_ xs1 ih1 =>
    intro i1 w1_0 hd1 h
    rw [d_impl_FormatFacts_L1] at h
    refine AWr_succ fun N1 hN1 hS1 => ?_
    obtain ⟨y43, h44, h⟩ := den_bind h
    rcases den_if h with ⟨h45, h⟩ | ⟨h45, h⟩
    · have h := den_some h
      subst h
      exact AW_go (n := 2000) [[none]] [.b true, .row (Fact.c x1_), .d (D.bool (y43)), .b true] (.ret (D.str ([]))) hΓ mix (by kernel_rfl) (ow ((ltm_true Fact.c (drop_cons hd1).2.1)) (ow (map_row Fact.c 2 (drop_cons hd1).1 rfl) (ow (d_impl_IsFact_good h44) (ow (h45) ow0)))) rfl
    · obtain ⟨y46, h47, h⟩ := den_bind h
      obtain ⟨h48, h⟩ := den_ok h
      have t := ih1 (i1 + 1) ((w1_0) ++ ([y46])) (drop_cons hd1).2.2 h
      refine AW_go (n := 2000) [[none]] [.b true, .row (Fact.c x1_), .d (D.bool (y43)), .b false, .d (D.str (y46)), .cn [3, 9, 10, 11] [3]] (.cont 0 ⟨[(3, D.acc 0), (9, D.sl ((a0_).map Fact.c)), (10, D.int .i64 ((((a0_).map Fact.c).length : Int))), (11, D.int .i64 (IntKind.i64.wrap (((i1 : Int)) + (1))))], [Ob.row .uq 9 1 (((w1_0).map tx) ++ ([[D.str (y46)]]))]⟩) hΓ mix (by kernel_rfl) (ow ((ltm_true Fact.c (drop_cons hd1).2.1)) (ow (map_row Fact.c 2 (drop_cons hd1).1 rfl) (ow (d_impl_IsFact_good h44) (ow (h45) (ow (d_impl_FormatFact_good h47) (ow (room_ok h48) ow0)))))) ?_
      refine (congrFun hS1 _).mpr ?_
      rw [i64_succ (drop_cons hd1).2.1 hm1]
      first | exact t | (simp only [List.map_append, List.map_cons, List.map_nil, List.map_set] at t ⊢; exact t)

theorem d_impl_FormatFacts_good {a0_ : List Fact} {r : Bytes} (h : d_impl_FormatFacts a0_ = some r) : Good Try.prog 15 [D.sl ((a0_).map Fact.c)] (D.str (r)) := by
  refine Good.of (c := bodyOf Try.f15) Try.func15 rfl (by decide) (by simp [Try.f15]) ?_
  intro hr Γ hΓ
  have hΓ : Γ.nt = 26 := hΓ
  rw [d_impl_FormatFacts] at h
  refine (show AW Try.prog Γ (bodyOf Try.f15) (KQ Try.prog Γ (fun _ _ => False) (RetQ Try.prog Try.f15 (D.str (r))) []) _ from ?_)
  rcases den_if h with ⟨h1, h⟩ | ⟨h1, h⟩
  · have h := den_some h
    subst h
    exact AW_go (n := 2000) [[none]] [.b true] (.ret (D.str ([45]))) hΓ mix (by kernel_rfl) (ow (h1) ow0) rfl
  · refine AW_go (n := 2000) [[none]] [.b false, .pro 3, .cn [3, 9, 10, 11] [0]] (.lp (dig (bodyOf Try.f15) [1, 1, 1, 0, 1, 0, 0] []).1 (dig (bodyOf Try.f15) [1, 1, 1, 0, 1, 0] []).2 ⟨[(3, D.acc 0), (9, D.sl ((a0_).map Fact.c)), (10, D.int .i64 ((((a0_).map Fact.c).length : Int))), (11, D.int .i64 (0))], [Ob.row .uq 9 1 (([] : List (List D)))]⟩) hΓ mix (by kernel_rfl) (ow (h1) ow0) (AW_st (by first | rfl | (simp only [List.map_append, List.map_cons, List.map_nil, List.map_set, List.map_replicate] <;> rfl)) (AW_of_r (d_impl_FormatFacts_L1w hΓ (fun q1_0 h => ?_) (by have := (Rdb.sl (hr _ (List.mem_of_getElem? (i := 0) rfl))).1; simpa using this) (a0_) 0 (([] : List Bytes)) rfl h)))
    obtain ⟨y49, h50, h⟩ := den_bind h
    have h := den_some h
    subst h
    exact AW_go (n := 2000) [[none]] [.d (D.str (y49))] (.ret (D.str (y49))) hΓ mix (by kernel_rfl) (ow (d_impl_Join_good h50) ow0) rfl

def d_impl_FormatMatch (a0_ : Match) : Option Bytes := ((d_impl_FormatFacts (a0_.facts)).bind fun y1 => ((d_impl_IsName (a0_.rule)).bind fun y3 => (bif !(y3) then (some ([])) else (bif (y1 : Bytes) == ([]) then (some ([])) else (bif decide ((a0_.rule : Bytes).length + ([58, 32] : Bytes).length ≤ maxLen) then (bif decide (((a0_.rule) ++ ([58, 32]) : Bytes).length + (y1 : Bytes).length ≤ maxLen) then (some (((a0_.rule) ++ ([58, 32])) ++ (y1))) else none) else none)))))
theorem d_impl_FormatMatch_good {a0_ : Match} {r : Bytes} (h : d_impl_FormatMatch a0_ = some r) : Good Try.prog 7 [D.agg (Match.c a0_)] (D.str (r)) := by
  refine Good.of (c := bodyOf Try.f7) Try.func7 rfl (by decide) (by simp [Try.f7]) ?_
  intro hr Γ hΓ
  have hΓ : Γ.nt = 20 := hΓ
  rw [d_impl_FormatMatch] at h
  refine (show AW Try.prog Γ (bodyOf Try.f7) (KQ Try.prog Γ (fun _ _ => False) (RetQ Try.prog Try.f7 (D.str (r))) []) _ from ?_)
  obtain ⟨y1, h2, h⟩ := den_bind h
  obtain ⟨y3, h4, h⟩ := den_bind h
  rcases den_if h with ⟨h5, h⟩ | ⟨h5, h⟩
  · have h := den_some h
    subst h
    exact AW_go (n := 2000) [[none]] [.d (D.str (y1)), .d (D.bool (y3)), .b true, .b true, .b true, .b true] (.ret (D.str ([]))) hΓ mix (by kernel_rfl) (ow (d_impl_FormatFacts_good h2) (ow (d_impl_IsName_good h4) (ow (h5) (ow (h5) (ow (h5) (ow (show (true) = true from rfl) ow0)))))) rfl
  · rcases den_if h with ⟨h6, h⟩ | ⟨h6, h⟩
    · have h := den_some h
      subst h
      exact AW_go (n := 2000) [[none]] [.d (D.str (y1)), .d (D.bool (y3)), .b false, .b false, .b false, .b true] (.ret (D.str ([]))) hΓ mix (by kernel_rfl) (ow (d_impl_FormatFacts_good h2) (ow (d_impl_IsName_good h4) (ow (h5) (ow (h5) (ow (h5) (ow (h6) ow0)))))) rfl
    · obtain ⟨h7, h⟩ := den_ok h
      obtain ⟨h8, h⟩ := den_ok h
      have h := den_some h
      subst h
      exact AW_go (n := 2000) [[none]] [.d (D.str (y1)), .d (D.bool (y3)), .b false, .b false, .b false, .b false] (.ret (D.str (((a0_.rule) ++ ([58, 32])) ++ (y1)))) hΓ mix (by kernel_rfl) (ow (d_impl_FormatFacts_good h2) (ow (d_impl_IsName_good h4) (ow (h5) (ow (h5) (ow (h5) (ow (h6) (ow (of_decide_eq_true h7) (ow (of_decide_eq_true h8) ow0)))))))) (by first | rfl | (simp only [List.map_append, List.map_cons, List.map_nil, List.map_set] <;> rfl))

end Go.Cx
