/- sort.Sort over such an interface value: a sorted permutation of the row. -/
import Derived.Test.YtoeenpcilfhjbaaPFallingSrJ
namespace Go.Sr
set_option linter.unusedVariables false
set_option linter.unusedSimpArgs false
open Go.Shelf Go.RowKit Go.Lib Go.Sort Go.Proofs
variable {P : Program} {ρ : Ren} {α : Type} [Inhabited α] {T : TypeId} {rv rl rs : Value} {gl gs : Nat} {enc : α → Value} {lt : α → α → Bool} {w0 : World} {blk off n : Nat}
set_option maxHeartbeats 1000000 in
set_option maxRecDepth 100000 in
/-- one element or none: the length alone is asked for -/
theorem sort_tiny (L : LaysGt.n11 P ρ) {gn : Nat} {rn : Value} (mN : Sem.run P (method (P.types.size + 100) T rv "Len") w0 = .ok (gn, rn) w0) (eN : ∀ args w, (callFunc gn args).run P w = .ok (.enter gn args) w)
    (hlen : Calls P gn #[rn] w0 fun e w' => e = .returned (.int .i64 n) ∧ ∃ q, w' = w0.drewN q) (hn : n ≤ 1) :
    Calls P (ρ.f 11) #[.iface T rv] w0 fun e w' => e = .returned (.tuple #[]) ∧ ∃ q, w' = w0.drewN q := by
  have mixed := L.mixed; have t0 := L.t0; have a0 := L.a0; have z0 := L.z0; have v0 := L.v0; have t3 := L.t3; have a3 := L.a3; have z3 := L.z3; have v3 := L.v3; have t4 := L.t4; have a4 := L.a4; have z4 := L.z4; have v4 := L.v4; have t5 := L.t5; have a5 := L.a5; have z5 := L.z5; have v5 := L.v5; have t9 := L.t9; have a9 := L.a9; have z9 := L.z9; have v9 := L.v9; have t26 := L.t26; have a26 := L.a26; have z26 := L.z26; have v26 := L.v26; have t38 := L.t38; have a38 := L.a38; have z38 := L.z38; have v38 := L.v38; have t43 := L.t43; have a43 := L.a43; have z43 := L.z43; have v43 := L.v43; have t45 := L.t45; have a45 := L.a45; have z45 := L.z45; have v45 := L.v45; have t47 := L.t47; have a47 := L.a47; have z47 := L.z47; have v47 := L.v47; have t56 := L.t56; have a56 := L.a56; have z56 := L.z56; have v56 := L.v56; have t58 := L.t58; have a58 := L.a58; have z58 := L.z58; have v58 := L.v58; have t60 := L.t60; have a60 := L.a60; have z60 := L.z60; have v60 := L.v60; have t61 := L.t61; have a61 := L.a61; have z61 := L.z61; have v61 := L.v61; have t65 := L.t65; have a65 := L.a65; have z65 := L.z65; have v65 := L.v65; have t67 := L.t67; have a67 := L.a67; have z67 := L.z67; have v67 := L.v67; have t71 := L.t71; have a71 := L.a71; have z71 := L.z71; have v71 := L.v71; have t73 := L.t73; have a73 := L.a73; have z73 := L.z73; have v73 := L.v73; have t74 := L.t74; have a74 := L.a74; have z74 := L.z74; have v74 := L.v74
  have hc : Aside _ := hlen
  clear hlen
  go_enter L.f11, BodyGt.n11_ntmps ρ
  go_wp2_with (go_at_fn gn; refine Calls.mono hc.out ?_; rintro e w' ⟨rfl, q, rfl⟩)
  all_goals first | (exfalso; omega) | ((try simp only [Exit.inBlock, Exit.then]); refine bodyPost_ret (results_none rfl _ _ _) rfl ?_; exact ⟨rfl, q, rfl⟩)
set_option maxHeartbeats 1000000 in
set_option maxRecDepth 100000 in
theorem sort_w (L : LaysGt.n11 P ρ) (E : Ev P T rv rl rs gl gs enc lt w0 blk off n) (hO : SWO lt) {gn : Nat} {rn : Value} (mN : Sem.run P (method (P.types.size + 100) T rv "Len") w0 = .ok (gn, rn) w0) (eN : ∀ args w, (callFunc gn args).run P w = .ok (.enter gn args) w)
    (hlen : Calls P gn #[rn] w0 fun e w' => e = .returned (.int .i64 n) ∧ ∃ q, w' = w0.drewN q) (d : Array α) (hS : SW enc w0 blk off d w0) (hd : d.size = n) (h2 : 2 ≤ n) :
    Calls P (ρ.f 11) #[.iface T rv] w0 fun e w' => e = .returned (.tuple #[]) ∧ ∃ d', (PermIn 0 n d d' ∧ SortedIn lt 0 n d') ∧ SW enc w0 blk off d' w' := by
  have mixed := L.mixed; have t0 := L.t0; have a0 := L.a0; have z0 := L.z0; have v0 := L.v0; have t3 := L.t3; have a3 := L.a3; have z3 := L.z3; have v3 := L.v3; have t4 := L.t4; have a4 := L.a4; have z4 := L.z4; have v4 := L.v4; have t5 := L.t5; have a5 := L.a5; have z5 := L.z5; have v5 := L.v5; have t9 := L.t9; have a9 := L.a9; have z9 := L.z9; have v9 := L.v9; have t26 := L.t26; have a26 := L.a26; have z26 := L.z26; have v26 := L.v26; have t38 := L.t38; have a38 := L.a38; have z38 := L.z38; have v38 := L.v38; have t43 := L.t43; have a43 := L.a43; have z43 := L.z43; have v43 := L.v43; have t45 := L.t45; have a45 := L.a45; have z45 := L.z45; have v45 := L.v45; have t47 := L.t47; have a47 := L.a47; have z47 := L.z47; have v47 := L.v47; have t56 := L.t56; have a56 := L.a56; have z56 := L.z56; have v56 := L.v56; have t58 := L.t58; have a58 := L.a58; have z58 := L.z58; have v58 := L.v58; have t60 := L.t60; have a60 := L.a60; have z60 := L.z60; have v60 := L.v60; have t61 := L.t61; have a61 := L.a61; have z61 := L.z61; have v61 := L.v61; have t65 := L.t65; have a65 := L.a65; have z65 := L.z65; have v65 := L.v65; have t67 := L.t67; have a67 := L.a67; have z67 := L.z67; have v67 := L.v67; have t71 := L.t71; have a71 := L.a71; have z71 := L.z71; have v71 := L.v71; have t73 := L.t73; have a73 := L.a73; have z73 := L.z73; have v73 := L.v73; have t74 := L.t74; have a74 := L.a74; have z74 := L.z74; have v74 := L.v74
  have hn := E.hn
  have e17 : ∀ args w, (callFunc (ρ.f 17) args).run P w = .ok (.enter (ρ.f 17) args) w := enters_of L.f17 (by kernel_rfl) rfl
  have e18 : ∀ args w, (callFunc (ρ.f 18) args).run P w = .ok (.enter (ρ.f 18) args) w := enters_of L.f18 (by kernel_rfl) rfl
  have hb := fun w => Any.bits_Len (LaysGg.n13.bits (({ L with } : LaysGt.n17 P ρ).elder)) (n : Int) w (by omega) (by omega)
  change ∀ w, Calls P (ρ.f 17) _ w _ at hb
  have wr : IntKind.u64.wrap (n : Int) = n := by simp [IntKind.wrap, IntKind.bits, IntKind.signed]; omega
  have hlim : Lib.bitLen n < 4611686018427387904 := Nat.lt_of_le_of_lt (Lib.bitLen_le n 62 (by omega) (by omega)) (by omega)
  have hp : Aside _ := fun q => pdqsort_w (P := P) (ρ := ρ) { L with } E hO (n + 1) 0 n (Lib.bitLen n) d (w0.drewN q) (by omega) (hS.drewN q) hd (Nat.zero_le _) (Nat.le_refl _) hlim (Or.inl rfl)
  have HL : Aside _ := hlen
  have HB : Aside _ := hb
  clear hS hlen hb hlim
  go_enter L.f11, BodyGt.n11_ntmps ρ
  go_wp2_with (first
    | (go_at_fn gn; refine Calls.mono HL.out ?_; rintro e w' ⟨rfl, q, rfl⟩)
    | (go_at_fn (ρ.f 17); refine Calls.mono (HB.out _) ?_; rintro e w' ⟨rfl, rfl⟩)
    | (go_at_fn (ρ.f 18); refine Calls.mono (hp.out _) ?_; rintro e w' ⟨rfl, d', h1, h2⟩))
  all_goals first
    | (exfalso; omega)
    | (go_end0; exact ⟨rfl, d', h1, h2⟩)
#print axioms sort_tiny
#print axioms sort_w
end Go.Sr
