/- What functions of the program compute, and the walks that show it. No condition. -/
import Derived.Test.YtamlfpljmobdoaaDoorNData
namespace Go.Cx
open Go.RowKit Go.Proofs
set_option linter.unusedVariables false
set_option linter.unusedSimpArgs false
set_option maxRecDepth 100000
def d_laws_eqStringS_L1 (a0_ : List Bytes) (a1_ : List Bytes) (k1 : Option Bool) : List Bytes → Nat → Option Bool
  | [], i1 => (k1 )
  | x1_ :: xs1, i1 => ((atI (a1_) ((i1 : Int))).bind fun x22 => (bif !((x1_ : Bytes) == (x22)) then (some (false)) else (d_laws_eqStringS_L1 a0_ a1_ k1 xs1 (i1 + 1) )))
def d_laws_eqStringS (a0_ : List Bytes) (a1_ : List Bytes) : Option Bool := (bif ((((a0_).map tx).length : Int) : Int) != ((((a1_).map tx).length : Int)) then (some (false)) else (d_laws_eqStringS_L1 a0_ a1_ (some (true)) (a0_) 0 ))
theorem d_laws_eqStringS_L1w {Γ : Ctx} (hΓ : Γ.nt = 26) {N : Nat → St → Prop} {a0_ : List Bytes} {a1_ : List Bytes} {r : Bool} {k1 : Option Bool} (hE1 : k1 = some r → AW Tryd.prog Γ (dig (bodyOf Tryd.f79) [1, 1, 1] []).1 (KQ Tryd.prog Γ N (RetQ Tryd.prog Tryd.f79 (D.bool (r))) (dig (bodyOf Tryd.f79) [1, 1, 1] []).2) ⟨[], []⟩) (hm1 : (a0_).length ≤ maxLen) : ∀ (rest : List Bytes) (i1 : Nat) , (a0_).drop i1 = rest → d_laws_eqStringS_L1 a0_ a1_ k1 rest i1  = some r → AWr Tryd.prog Γ (dig (bodyOf Tryd.f79) [1, 1, 0, 1, 0, 0] []).1 (KQ Tryd.prog Γ N (RetQ Tryd.prog Tryd.f79 (D.bool (r))) (dig (bodyOf Tryd.f79) [1, 1, 0, 1, 0] []).2) (rest.length + 1) ⟨[(0, D.sl ((a0_).map tx)), (1, D.sl ((a1_).map tx)), (5, D.int .i64 ((i1 : Int)))], []⟩ := by
  intro rest
  induction rest with
  | nil =>
    intro i1  hd1 h
    rw [d_laws_eqStringS_L1] at h
    refine AWr_succ fun N1 hN1 hS1 => ?_
    have t := AW_N (N := N) (N' := N1) (K0 := (dig (bodyOf Tryd.f79) [1, 1, 0, 1, 0] []).2) (by kernel_rfl) hN1 (hE1  h)
    refine AW_go (n := 2000) [[none]] [.b false, .hl 0 [] []] (.at_ (dig (bodyOf Tryd.f79) [1, 1, 1] []).1 (dig (bodyOf Tryd.f79) [1, 1, 1] []).2 ⟨[], []⟩) hΓ mix (by kernel_rfl) (ow ((ltm_false tx (drop_nil hd1))) ow0) ?_
    first | exact t | (simp only [List.map_append, List.map_cons, List.map_nil, List.map_set] at t ⊢; exact t)
  | cons x1_ xs1 ih1 =>
    intro i1  hd1 h
    rw [d_laws_eqStringS_L1] at h
    refine AWr_succ fun N1 hN1 hS1 => ?_
    obtain ⟨x22, h23, h⟩ := den_bind h
    rcases den_if h with ⟨h24, h⟩ | ⟨h24, h⟩
    · have h := den_some h
      subst h
      exact AW_go (n := 2000) [[none]] [.b true, .n 8, .row (tx x1_), .row (tx x22), .b true] (.ret (D.bool (false))) hΓ mix (by kernel_rfl) (ow ((ltm_true tx (drop_cons hd1).2.1)) (ow (map_row tx 1 (drop_cons hd1).1 rfl) (ow (at_row tx 1 h23 rfl) (ow (h24) ow0)))) rfl
    · have t := ih1 (i1 + 1)  (drop_cons hd1).2.2 h
      refine AW_go (n := 2000) [[none]] [.b true, .n 8, .row (tx x1_), .row (tx x22), .b false, .cn [0, 1, 5] []] (.cont 0 ⟨[(0, D.sl ((a0_).map tx)), (1, D.sl ((a1_).map tx)), (5, D.int .i64 (IntKind.i64.wrap (((i1 : Int)) + (1))))], []⟩) hΓ mix (by kernel_rfl) (ow ((ltm_true tx (drop_cons hd1).2.1)) (ow (map_row tx 1 (drop_cons hd1).1 rfl) (ow (at_row tx 1 h23 rfl) (ow (h24) ow0)))) ?_
      refine (congrFun hS1 _).mpr ?_
      rw [i64_succ (drop_cons hd1).2.1 hm1]
      first | exact t | (simp only [List.map_append, List.map_cons, List.map_nil, List.map_set] at t ⊢; exact t)
theorem d_laws_eqStringS_good {a0_ : List Bytes} {a1_ : List Bytes} {r : Bool} (h : d_laws_eqStringS a0_ a1_ = some r) : Good Tryd.prog 79 [D.sl ((a0_).map tx), D.sl ((a1_).map tx)] (D.bool (r)) := by
  refine Good.of (c := bodyOf Tryd.f79) Tryd.func79 rfl (by decide) (by simp [Tryd.f79]) ?_
  intro hr Γ hΓ
  have hΓ : Γ.nt = 26 := hΓ
  rw [d_laws_eqStringS] at h
  refine (show AW Tryd.prog Γ (bodyOf Tryd.f79) (KQ Tryd.prog Γ (fun _ _ => False) (RetQ Tryd.prog Tryd.f79 (D.bool (r))) []) _ from ?_)
  rcases den_if h with ⟨h1, h⟩ | ⟨h1, h⟩
  · have h := den_some h
    subst h
    exact AW_go (n := 2000) [[none]] [.b true] (.ret (D.bool (false))) hΓ mix (by kernel_rfl) (ow (h1) ow0) rfl
  · refine AW_go (n := 2000) [[none]] [.b false, .cn [0, 1, 5] []] (.lp (dig (bodyOf Tryd.f79) [1, 1, 0, 1, 0, 0] []).1 (dig (bodyOf Tryd.f79) [1, 1, 0, 1, 0] []).2 ⟨[(0, D.sl ((a0_).map tx)), (1, D.sl ((a1_).map tx)), (5, D.int .i64 (0))], []⟩) hΓ mix (by kernel_rfl) (ow (h1) ow0) (AW_st (by first | rfl | (simp only [List.map_append, List.map_cons, List.map_nil, List.map_set, List.map_replicate] <;> rfl)) (AW_of_r (d_laws_eqStringS_L1w hΓ (fun h => ?_) (by have := (Rdb.sl (hr _ (List.mem_of_getElem? (i := 0) rfl))).1; simpa using this) (a0_) 0  rfl h)))
    have h := den_some h
    subst h
    exact AW_go (n := 2000) [[none]] [] (.ret (D.bool (true))) hΓ mix (by kernel_rfl) ow0 rfl
def d_laws_eqFact (a0_ : Fact) (a1_ : Fact) : Option Bool := (bif !((a0_.rel : Bytes) == (a1_.rel)) then (some (false)) else ((d_laws_eqStringS (a0_.args) (a1_.args)).bind fun y2 => (bif !(y2) then (some (false)) else (some (true)))))
theorem d_laws_eqFact_good {a0_ : Fact} {a1_ : Fact} {r : Bool} (h : d_laws_eqFact a0_ a1_ = some r) : Good Tryd.prog 59 [D.agg (Fact.c a0_), D.agg (Fact.c a1_)] (D.bool (r)) := by
  refine Good.of (c := bodyOf Tryd.f59) Tryd.func59 rfl (by decide) (by simp [Tryd.f59]) ?_
  intro hr Γ hΓ
  have hΓ : Γ.nt = 16 := hΓ
  rw [d_laws_eqFact] at h
  refine (show AW Tryd.prog Γ (bodyOf Tryd.f59) (KQ Tryd.prog Γ (fun _ _ => False) (RetQ Tryd.prog Tryd.f59 (D.bool (r))) []) _ from ?_)
  rcases den_if h with ⟨h1, h⟩ | ⟨h1, h⟩
  · have h := den_some h
    subst h
    exact AW_go (n := 2000) [[none]] [.b true] (.ret (D.bool (false))) hΓ mix (by kernel_rfl) (ow (h1) ow0) rfl
  · obtain ⟨y2, h3, h⟩ := den_bind h
    rcases den_if h with ⟨h4, h⟩ | ⟨h4, h⟩
    · have h := den_some h
      subst h
      exact AW_go (n := 2000) [[none]] [.b false, .d (D.bool (y2)), .b true] (.ret (D.bool (false))) hΓ mix (by kernel_rfl) (ow (h1) (ow (d_laws_eqStringS_good h3) (ow (h4) ow0))) rfl
    · have h := den_some h
      subst h
      exact AW_go (n := 2000) [[none]] [.b false, .d (D.bool (y2)), .b false] (.ret (D.bool (true))) hΓ mix (by kernel_rfl) (ow (h1) (ow (d_laws_eqStringS_good h3) (ow (h4) ow0))) rfl
def d_laws_eqStamp (a0_ : Stamp) (a1_ : Stamp) : Option Bool := ((d_laws_eqFact (a0_.fact) (a1_.fact)).bind fun y1 => (bif !(y1) then (some (false)) else (bif (a0_.time : Int) != (a1_.time) then (some (false)) else (some (true)))))
theorem d_laws_eqStamp_good {a0_ : Stamp} {a1_ : Stamp} {r : Bool} (h : d_laws_eqStamp a0_ a1_ = some r) : Good Tryd.prog 36 [D.agg (Stamp.c a0_), D.agg (Stamp.c a1_)] (D.bool (r)) := by
  refine Good.of (c := bodyOf Tryd.f36) Tryd.func36 rfl (by decide) (by simp [Tryd.f36]) ?_
  intro hr Γ hΓ
  have hΓ : Γ.nt = 16 := hΓ
  rw [d_laws_eqStamp] at h
  refine (show AW Tryd.prog Γ (bodyOf Tryd.f36) (KQ Tryd.prog Γ (fun _ _ => False) (RetQ Tryd.prog Tryd.f36 (D.bool (r))) []) _ from ?_)
  obtain ⟨y1, h2, h⟩ := den_bind h
  rcases den_if h with ⟨h3, h⟩ | ⟨h3, h⟩
  · have h := den_some h
    subst h
    exact AW_go (n := 2000) [[none]] [.d (D.bool (y1)), .b true] (.ret (D.bool (false))) hΓ mix (by kernel_rfl) (ow (d_laws_eqFact_good h2) (ow (h3) ow0)) rfl
  · rcases den_if h with ⟨h4, h⟩ | ⟨h4, h⟩
    · have h := den_some h
      subst h
      exact AW_go (n := 2000) [[none]] [.d (D.bool (y1)), .b false, .b true] (.ret (D.bool (false))) hΓ mix (by kernel_rfl) (ow (d_laws_eqFact_good h2) (ow (h3) (ow (h4) ow0))) rfl
    · have h := den_some h
      subst h
      exact AW_go (n := 2000) [[none]] [.d (D.bool (y1)), .b false, .b false] (.ret (D.bool (true))) hΓ mix (by kernel_rfl) (ow (d_laws_eqFact_good h2) (ow (h3) (ow (h4) ow0))) rfl
def d_laws_eqStampS_L1 (a0_ : List Stamp) (a1_ : List Stamp) (k1 : Option Bool) : List Stamp → Nat → Option Bool
  | [], i1 => (k1 )
  | x1_ :: xs1, i1 => ((atI (a1_) ((i1 : Int))).bind fun x30 => ((d_laws_eqStamp (x1_) (x30)).bind fun y32 => (bif !(y32) then (some (false)) else (d_laws_eqStampS_L1 a0_ a1_ k1 xs1 (i1 + 1) ))))
def d_laws_eqStampS (a0_ : List Stamp) (a1_ : List Stamp) : Option Bool := (bif ((((a0_).map Stamp.c).length : Int) : Int) != ((((a1_).map Stamp.c).length : Int)) then (some (false)) else (d_laws_eqStampS_L1 a0_ a1_ (some (true)) (a0_) 0 ))
theorem d_laws_eqStampS_L1w {Γ : Ctx} (hΓ : Γ.nt = 27) {N : Nat → St → Prop} {a0_ : List Stamp} {a1_ : List Stamp} {r : Bool} {k1 : Option Bool} (hE1 : k1 = some r → AW Tryd.prog Γ (dig (bodyOf Tryd.f15) [1, 1, 1] []).1 (KQ Tryd.prog Γ N (RetQ Tryd.prog Tryd.f15 (D.bool (r))) (dig (bodyOf Tryd.f15) [1, 1, 1] []).2) ⟨[], []⟩) (hm1 : (a0_).length ≤ maxLen) : ∀ (rest : List Stamp) (i1 : Nat) , (a0_).drop i1 = rest → d_laws_eqStampS_L1 a0_ a1_ k1 rest i1  = some r → AWr Tryd.prog Γ (dig (bodyOf Tryd.f15) [1, 1, 0, 1, 0, 0] []).1 (KQ Tryd.prog Γ N (RetQ Tryd.prog Tryd.f15 (D.bool (r))) (dig (bodyOf Tryd.f15) [1, 1, 0, 1, 0] []).2) (rest.length + 1) ⟨[(0, D.sl ((a0_).map Stamp.c)), (1, D.sl ((a1_).map Stamp.c)), (5, D.int .i64 ((i1 : Int)))], []⟩ := by
  intro rest
  induction rest with
  | nil =>
    intro i1  hd1 h
    rw [d_laws_eqStampS_L1] at h
    refine AWr_succ fun N1 hN1 hS1 => ?_
    have t := AW_N (N := N) (N' := N1) (K0 := (dig (bodyOf Tryd.f15) [1, 1, 0, 1, 0] []).2) (by kernel_rfl) hN1 (hE1  h)
    refine AW_go (n := 2000) [[none]] [.b false, .hl 0 [] []] (.at_ (dig (bodyOf Tryd.f15) [1, 1, 1] []).1 (dig (bodyOf Tryd.f15) [1, 1, 1] []).2 ⟨[], []⟩) hΓ mix (by kernel_rfl) (ow ((ltm_false Stamp.c (drop_nil hd1))) ow0) ?_
    first | exact t | (simp only [List.map_append, List.map_cons, List.map_nil, List.map_set] at t ⊢; exact t)
  | cons x1_ xs1 ih1 =>
    intro i1  hd1 h
    rw [d_laws_eqStampS_L1] at h
    refine AWr_succ fun N1 hN1 hS1 => ?_
    obtain ⟨x30, h31, h⟩ := den_bind h
    obtain ⟨y32, h33, h⟩ := den_bind h
    rcases den_if h with ⟨h34, h⟩ | ⟨h34, h⟩
    · have h := den_some h
      subst h
      exact AW_go (n := 2000) [[none]] [.b true, .n 8, .row (Stamp.c x1_), .row (Stamp.c x30), .d (D.bool (y32)), .b true] (.ret (D.bool (false))) hΓ mix (by kernel_rfl) (ow ((ltm_true Stamp.c (drop_cons hd1).2.1)) (ow (map_row Stamp.c 3 (drop_cons hd1).1 rfl) (ow (at_row Stamp.c 3 h31 rfl) (ow (d_laws_eqStamp_good h33) (ow (h34) ow0))))) rfl
    · have t := ih1 (i1 + 1)  (drop_cons hd1).2.2 h
      refine AW_go (n := 2000) [[none]] [.b true, .n 8, .row (Stamp.c x1_), .row (Stamp.c x30), .d (D.bool (y32)), .b false, .cn [0, 1, 5] []] (.cont 0 ⟨[(0, D.sl ((a0_).map Stamp.c)), (1, D.sl ((a1_).map Stamp.c)), (5, D.int .i64 (IntKind.i64.wrap (((i1 : Int)) + (1))))], []⟩) hΓ mix (by kernel_rfl) (ow ((ltm_true Stamp.c (drop_cons hd1).2.1)) (ow (map_row Stamp.c 3 (drop_cons hd1).1 rfl) (ow (at_row Stamp.c 3 h31 rfl) (ow (d_laws_eqStamp_good h33) (ow (h34) ow0))))) ?_
      refine (congrFun hS1 _).mpr ?_
      rw [i64_succ (drop_cons hd1).2.1 hm1]
      first | exact t | (simp only [List.map_append, List.map_cons, List.map_nil, List.map_set] at t ⊢; exact t)
theorem d_laws_eqStampS_good {a0_ : List Stamp} {a1_ : List Stamp} {r : Bool} (h : d_laws_eqStampS a0_ a1_ = some r) : Good Tryd.prog 15 [D.sl ((a0_).map Stamp.c), D.sl ((a1_).map Stamp.c)] (D.bool (r)) := by
  refine Good.of (c := bodyOf Tryd.f15) Tryd.func15 rfl (by decide) (by simp [Tryd.f15]) ?_
  intro hr Γ hΓ
  have hΓ : Γ.nt = 27 := hΓ
  rw [d_laws_eqStampS] at h
  refine (show AW Tryd.prog Γ (bodyOf Tryd.f15) (KQ Tryd.prog Γ (fun _ _ => False) (RetQ Tryd.prog Tryd.f15 (D.bool (r))) []) _ from ?_)
  rcases den_if h with ⟨h1, h⟩ | ⟨h1, h⟩
  · have h := den_some h
    subst h
    exact AW_go (n := 2000) [[none]] [.b true] (.ret (D.bool (false))) hΓ mix (by kernel_rfl) (ow (h1) ow0) rfl
  · refine AW_go (n := 2000) [[none]] [.b false, .cn [0, 1, 5] []] (.lp (dig (bodyOf Tryd.f15) [1, 1, 0, 1, 0, 0] []).1 (dig (bodyOf Tryd.f15) [1, 1, 0, 1, 0] []).2 ⟨[(0, D.sl ((a0_).map Stamp.c)), (1, D.sl ((a1_).map Stamp.c)), (5, D.int .i64 (0))], []⟩) hΓ mix (by kernel_rfl) (ow (h1) ow0) (AW_st (by first | rfl | (simp only [List.map_append, List.map_cons, List.map_nil, List.map_set, List.map_replicate] <;> rfl)) (AW_of_r (d_laws_eqStampS_L1w hΓ (fun h => ?_) (by have := (Rdb.sl (hr _ (List.mem_of_getElem? (i := 0) rfl))).1; simpa using this) (a0_) 0  rfl h)))
    have h := den_some h
    subst h
    exact AW_go (n := 2000) [[none]] [] (.ret (D.bool (true))) hΓ mix (by kernel_rfl) ow0 rfl
end Go.Cx
