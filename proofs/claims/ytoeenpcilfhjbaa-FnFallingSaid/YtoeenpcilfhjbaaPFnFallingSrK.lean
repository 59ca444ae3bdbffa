import Derived.Test.YtoeenpcilfhjbaaPFnFallingSrE
import Derived.Test.YtoeenpcilfhjbaaPFnFallingSrI
import Derived.Sort.AssemblyPlain
import Derived.Sort.Walk13
/- pdqsort over such an interface value: a sorted permutation of the range. -/
namespace Go.Sr
set_option linter.unusedVariables false
set_option linter.unusedSimpArgs false
open Go.Shelf Go.RowKit Go.Lib Go.Sort Go.Proofs
variable {P : Program} {ρ : Ren} {α : Type} [Inhabited α] {T : TypeId} {rv rl rs : Value} {gl gs : Nat} {enc : α → Value} {lt : α → α → Bool} {w0 : World} {blk off n : Nat}
/-- what a sorted permutation of [a', b) makes of the whole -/
structure Pg (lt : α → α → Bool) (n a b : Nat) (d : Array α) (a' b' : Nat) (dk : Array α) : Prop where
  size : dk.size = n
  below : Below lt a' b' dk
  fin : ∀ R, PermIn a' b' dk R → SortedIn lt a' b' R → PermIn a b d R ∧ SortedIn lt a b R
theorem Pg.step {a b a' b' : Nat} {d dk d1 : Array α} (h : Pg lt n a b d a' b' dk) (hb : b' ≤ n) (p : PermIn a' b' dk d1) : Pg lt n a b d a' b' d1 :=
  ⟨p.1.trans h.size, h.below.perm (by rw [h.size]; exact hb) p, fun R hR hs => h.fin R (permIn_trans _ _ _ _ _ p hR) hs⟩
theorem Pg.eq (hO : SWO lt) {a b a' b' pv mid : Nat} {d d3 d4 : Array α} (h : Pg lt n a b d a' b' d3) (hb : b' ≤ n) (ha0 : 0 < a') (h1 : a' ≤ pv) (h2 : pv < b') (hnl : lt d3[a' - 1]! d3[pv]! = false) (hx : partitionEqual lt d3 a' b' pv = (mid, d4)) :
    a' < mid ∧ mid ≤ b' ∧ Pg lt n a b d mid b' d4 := by
  obtain ⟨r1, r2, r3, r4, r5⟩ := round_eq hO (partitionEqual_holds lt) ha0 h1 h2 (by rw [h.size]; exact hb) h.below hnl hx
  exact ⟨r1, r2, r3.trans h.size, r4, fun R hR hs => h.fin R (r5 R hR hs).1 (r5 R hR hs).2⟩
theorem Pg.part (hO : SWO lt) {a b a' b' pv mid : Nat} {ap : Bool} {d d3 d4 : Array α} (h : Pg lt n a b d a' b' d3) (hb : b' ≤ n) (h1 : a' ≤ pv) (h2 : pv < b') (hx : partition lt d3 a' b' pv = (mid, ap, d4)) :
    a' ≤ mid ∧ mid < b' ∧ d4.size = n ∧ Below lt a' mid d4 ∧ Below lt (mid + 1) b' d4 ∧ (∀ L, PermIn a' mid d4 L → SortedIn lt a' mid L → Pg lt n a b d (mid + 1) b' L) ∧ (∀ L, PermIn (mid + 1) b' d4 L → SortedIn lt (mid + 1) b' L → Pg lt n a b d a' mid L) := by
  obtain ⟨r1, r2, r3, r4, r5, r6, r7⟩ := round_part hO (partition_holds lt) h1 h2 (by rw [h.size]; exact hb) h.below hx
  exact ⟨r1, r2, r3.trans h.size, r4, r5, fun L hL hs => ⟨hL.1.trans (r3.trans h.size), (r6 L hL hs).1, fun R hR hsR => h.fin R ((r6 L hL hs).2 R hR hsR).1 ((r6 L hL hs).2 R hR hsR).2⟩,
    fun L hL hs => ⟨hL.1.trans (r3.trans h.size), (r7 L hL hs).1, fun R hR hsR => h.fin R ((r7 L hL hs).2 R hR hsR).1 ((r7 L hL hs).2 R hR hsR).2⟩⟩
set_option maxHeartbeats 12800000 in
set_option maxRecDepth 1000000 in
theorem pdqsort_w (L : LaysGt.n18 P ρ) (E : Ev P T rv rl rs gl gs enc lt w0 blk off n) (hO : SWO lt) :
    ∀ (N a b limit : Nat) (d : Array α) (w : World), b - a < N → SW enc w0 blk off d w → d.size = n → a ≤ b → b ≤ n → limit < 4611686018427387904 → Below lt a b d →
    Calls P (ρ.f 18) #[.iface T rv, .int .i64 a, .int .i64 b, .int .i64 limit] w fun e w' => e = .returned (.tuple #[]) ∧ ∃ d', (PermIn a b d d' ∧ SortedIn lt a b d') ∧ SW enc w0 blk off d' w' := by
  have mixed := L.mixed; have t0 := L.t0; have a0 := L.a0; have z0 := L.z0; have v0 := L.v0; have t3 := L.t3; have a3 := L.a3; have z3 := L.z3; have v3 := L.v3; have t4 := L.t4; have a4 := L.a4; have z4 := L.z4; have v4 := L.v4; have t5 := L.t5; have a5 := L.a5; have z5 := L.z5; have v5 := L.v5; have t9 := L.t9; have a9 := L.a9; have z9 := L.z9; have v9 := L.v9; have t26 := L.t26; have a26 := L.a26; have z26 := L.z26; have v26 := L.v26; have t38 := L.t38; have a38 := L.a38; have z38 := L.z38; have v38 := L.v38; have t43 := L.t43; have a43 := L.a43; have z43 := L.z43; have v43 := L.v43; have t45 := L.t45; have a45 := L.a45; have z45 := L.z45; have v45 := L.v45; have t47 := L.t47; have a47 := L.a47; have z47 := L.z47; have v47 := L.v47; have t56 := L.t56; have a56 := L.a56; have z56 := L.z56; have v56 := L.v56; have t58 := L.t58; have a58 := L.a58; have z58 := L.z58; have v58 := L.v58; have t60 := L.t60; have a60 := L.a60; have z60 := L.z60; have v60 := L.v60; have t61 := L.t61; have a61 := L.a61; have z61 := L.z61; have v61 := L.v61; have t65 := L.t65; have a65 := L.a65; have z65 := L.z65; have v65 := L.v65; have t67 := L.t67; have a67 := L.a67; have z67 := L.z67; have v67 := L.v67; have t71 := L.t71; have a71 := L.a71; have z71 := L.z71; have v71 := L.v71; have t73 := L.t73; have a73 := L.a73; have z73 := L.z73; have v73 := L.v73; have t74 := L.t74; have a74 := L.a74; have z74 := L.z74; have v74 := L.v74
  have el := E.el; have hn := E.hn
  have e33 : ∀ args w, (callFunc (ρ.f 33) args).run P w = .ok (.enter (ρ.f 33) args) w := enters_of L.f33 (by kernel_rfl) rfl
  have e34 : ∀ args w, (callFunc (ρ.f 34) args).run P w = .ok (.enter (ρ.f 34) args) w := enters_of L.f34 (by kernel_rfl) rfl
  have e35 : ∀ args w, (callFunc (ρ.f 35) args).run P w = .ok (.enter (ρ.f 35) args) w := enters_of L.f35 (by kernel_rfl) rfl
  have e36 : ∀ args w, (callFunc (ρ.f 36) args).run P w = .ok (.enter (ρ.f 36) args) w := enters_of L.f36 (by kernel_rfl) rfl
  have e37 : ∀ args w, (callFunc (ρ.f 37) args).run P w = .ok (.enter (ρ.f 37) args) w := enters_of L.f37 (by kernel_rfl) rfl
  have e38 : ∀ args w, (callFunc (ρ.f 38) args).run P w = .ok (.enter (ρ.f 38) args) w := enters_of L.f38 (by kernel_rfl) rfl
  have e39 : ∀ args w, (callFunc (ρ.f 39) args).run P w = .ok (.enter (ρ.f 39) args) w := enters_of L.f39 (by kernel_rfl) rfl
  have e40 : ∀ args w, (callFunc (ρ.f 40) args).run P w = .ok (.enter (ρ.f 40) args) w := enters_of L.f40 (by kernel_rfl) rfl
  have e18 : ∀ args w, (callFunc (ρ.f 18) args).run P w = .ok (.enter (ρ.f 18) args) w := enters_of L.f18 (by kernel_rfl) rfl
  intro N
  induction N with
  | zero => intro _ _ _ _ _ h; exact absurd h (Nat.not_lt_zero _)
  | succ N ih0 =>
    intro a b limit d w hN hS hd hab hb hlimit hBel0
    have ih : Aside _ := ih0
    clear ih0
    have S0 : Aside (SW enc w0 blk off d w) := hS
    have G0 : Aside (Pg lt n a b d a b d) := ⟨hd, hBel0, fun R h1 h2 => ⟨h1, h2⟩⟩
    clear hS hd hBel0
    go_enter L.f18, BodyGt.n18_ntmps ρ
    go_wp2
    go_loopg [1, 2, 3, 8, 9] (b - a) (fun k s1 s2 s3 s8 s9 wr => ∃ (a' b' lim : Nat) (wb wp : Bool) (dk : Array α), s1 = .int .i64 a' ∧ s2 = .int .i64 b' ∧ s3 = .int .i64 lim ∧ s8 = .bool wb ∧ s9 = .bool wp ∧
      a' ≤ b' ∧ b' ≤ n ∧ b' - a' ≤ k ∧ k ≤ b - a ∧ lim ≤ limit ∧ Aside (Pg lt n a b d a' b' dk) ∧ Aside (SW enc w0 blk off dk wr))
    case atStart => exact ⟨a, b, limit, true, true, d, rfl, rfl, rfl, rfl, rfl, hab, hb, Nat.le_refl _, Nat.le_refl _, Nat.le_refl _, G0, S0⟩
    case round =>
      clear S0 G0
      obtain ⟨a', b', lim, wb, wp, dk, rfl, rfl, rfl, rfl, rfl, hab', hb', hk, hkN, hlim, G, S⟩ := hrel
      by_cases h12 : b' - a' ≤ 12
      · -- length <= maxInsertion
        have h12z : (b' : Int) - (a' : Int) ≤ 12 := by omega
        have hc : Aside _ := insertionSort_w (ρ := ρ) { L with } E a' b' dk wr S.out G.out.size hab' hb'
        go_wp2_with (go_at_fn (ρ.f 33); refine Calls.mono hc.out ?_; rintro e w1 ⟨rfl, hw1⟩)
        (try simp only [Exit.inBlock, Exit.then]); refine bodyPost_ret (results_none rfl _ _ _) rfl ?_
        have hh := insertionSort_holds hO dk a' b' hab' (by rw [G.out.size]; exact hb')
        exact ⟨rfl, _, G.out.fin _ hh.1 hh.2, hw1⟩
      · have h12z : ¬ ((b' : Int) - (a' : Int) ≤ 12) := by omega
        by_cases hl0 : lim = 0
        · -- limit == 0
          subst hl0
          have hc : Aside _ := heapSort_w (ρ := ρ) { L with } E a' b' dk wr S.out G.out.size hab' hb'
          go_wp2_with (go_at_fn (ρ.f 34); refine Calls.mono hc.out ?_; rintro e w1 ⟨rfl, hw1⟩)
          (try simp only [Exit.inBlock, Exit.then]); refine bodyPost_ret (results_none rfl _ _ _) rfl ?_
          have hh := heapSort_holds hO dk a' b' hab' (by rw [G.out.size]; exact hb')
          exact ⟨rfl, _, G.out.fin _ hh.1 hh.2, hw1⟩
        · have hl0z : ¬ ((lim : Int) = 0) := by omega
          go_upto_if 35 with fail
          go_cut [3] from 19 (fun s3 wc => ∃ (lim2 : Nat) (d1 : Array α), s3 = .int .i64 lim2 ∧ lim2 ≤ lim ∧ Aside (Pg lt n a b d a' b' d1) ∧ Aside (SW enc w0 blk off d1 wc))
          case first =>
            cases wb
            · have hc : Aside _ := breakPatterns_w (ρ := ρ) { L with } E a' b' dk wr S.out G.out.size (by omega) hb'
              go_wp2_with (go_at_fn (ρ.f 35); refine Calls.mono hc.out ?_; rintro e w1 ⟨rfl, d1, hp1, hw1⟩)
              go_meet
              case rel =>
                refine ⟨lim - 1, d1, ?_, by omega, G.out.step hb' hp1, hw1⟩
                congr 1
                omega
            · go_wp2_with fail
              go_meet
              case rel => exact ⟨lim, dk, rfl, Nat.le_refl _, G, S⟩
          case rest =>
            clear G S
            obtain ⟨lim2, d1, rfl, hlim2, G, S⟩ := hcut
            have hc : Aside _ := choosePivot_w (ρ := ρ) { L with } E a' b' d1 wc S.out G.out.size (by omega) hb'
            go_upto_if 50 with (go_at_fn (ρ.f 36); refine Calls.mono hc.out ?_; rintro e w2 ⟨pv, ht, rfl, ⟨hpv1, hpv2⟩, hw2⟩)
            clear hc S
            have S : Aside (SW enc w0 blk off d1 w2) := hw2
            clear hw2
            go_cut [11, 12] from 19 (fun s11 s12 wc => ∃ (pv2 : Nat) (ht2 : Int) (d2 : Array α), s11 = .int .i64 pv2 ∧ s12 = .int .i64 ht2 ∧ a' ≤ pv2 ∧ pv2 < b' ∧ Aside (Pg lt n a b d a' b' d2) ∧ Aside (SW enc w0 blk off d2 wc))
            case first =>
              by_cases hh : ht = 2
              · subst hh
                have hc : Aside _ := reverseRange_w (ρ := ρ) { L with } E a' b' d1 w2 S.out G.out.size (by omega) hb'
                go_wp2_with (go_at_fn (ρ.f 37); refine Calls.mono hc.out ?_; rintro e w3 ⟨rfl, d2, hp2, hw3⟩)
                go_meet
                case rel =>
                  refine ⟨b' - 1 - (pv - a'), 1, d2, ?_, rfl, by omega, by omega, G.out.step hb' hp2, hw3⟩
                  congr 1
                  omega
              · go_wp2_with fail
                go_meet
                case rel => exact ⟨pv, ht, d1, rfl, rfl, hpv1, hpv2, G, S⟩
            case rest =>
              clear G S hpv1 hpv2
              obtain ⟨pv2, ht2, d2, rfl, rfl, hpv1, hpv2, G, S⟩ := hcut
              go_upto_region 15 with fail
              go_cut [12, 68] from 19 (fun s12 s68 wx => ∃ t : Bool, s68 = .bool t ∧ s12 = .int .i64 ht2 ∧ wx = wc)
              case first =>
                by_cases hh : ht2 = 1
                · subst hh
                  cases wb <;> cases wp <;>
                    (go_wp2_with fail
                     go_meet
                     exact ⟨_, rfl, rfl, rfl⟩)
                · cases wb <;> cases wp <;>
                    (go_wp2_with fail
                     go_meet
                     exact ⟨_, rfl, rfl, rfl⟩)
              case rest =>
                obtain ⟨t68, rfl, rfl, rfl⟩ := hcut
                go_upto_if 68 with fail
                go_cut [] from 19 (fun wx => ∃ d3 : Array α, Aside (Pg lt n a b d a' b' d3) ∧ Aside (SW enc w0 blk off d3 wx))
                case first =>
                  cases t68
                  · go_wp2_with fail
                    go_meet
                    case rel => exact ⟨d2, G, S⟩
                  · have hc : Aside _ := partialIns_w (ρ := ρ) { L with } E a' b' d2 wc S.out G.out.size (by omega) hb'
                    obtain ⟨pi, hpi⟩ : ∃ pi, pi = partialInsertionSort lt d2 a' b' := ⟨_, rfl⟩
                    rw [← hpi] at hc
                    obtain ⟨d3, ok⟩ := pi
                    have hpp : Aside _ := partialInsertionSort_holds hO d2 a' b' (by omega) (by rw [G.out.size]; exact hb') G.out.below
                    rw [← hpi] at hpp
                    clear hpi
                    cases ok
                    · go_wp2_with (go_at_fn (ρ.f 38); refine Calls.mono hc.out ?_; rintro e w4 ⟨rfl, hw4⟩)
                      go_meet
                      case rel => exact ⟨d3, G.out.step hb' hpp.out.1, hw4⟩
                    · go_wp2_with (go_at_fn (ρ.f 38); refine Calls.mono hc.out ?_; rintro e w4 ⟨rfl, hw4⟩)
                      (try simp only [Exit.inBlock, Exit.then]); refine bodyPost_ret (results_none rfl _ _ _) rfl ?_
                      exact ⟨rfl, d3, G.out.fin _ hpp.out.1 (hpp.out.2 (by simp)), hw4⟩
                case rest =>
                  clear G S
                  obtain ⟨d3, G, S⟩ := hcut
                  go_upto_region 17 with fail
                  go_cut [82] from 19 (fun s82 wx => ∃ c : Bool, s82 = .bool c ∧ Hid (c = (decide (a' > 0) && !lt d3[a' - 1]! d3[pv2]!)) ∧ Aside (SW enc w0 blk off d3 wx))
                  case first =>
                    rcases Nat.eq_zero_or_pos a' with ha0 | ha0
                    · have ha0z : decide ((a' : Int) > 0) = false := decide_eq_false (by omega)
                      go_wp2_with fail
                      go_meet
                      case rel => exact ⟨false, rfl, (by show false = (decide (a' > 0) && !lt d3[a' - 1]! d3[pv2]!); simp [ha0]), S⟩
                    · have ha0z : (a' : Int) > 0 := by omega
                      have ml := E.ml d3 wc S.out
                      cases hlv : lt d3[a' - 1]! d3[pv2]!
                      all_goals
                        have hl : Aside _ := E.less0 S.out G.out.size (i := a' - 1) (j := pv2) (by omega) (by omega) hlv
                        have HV : Hid _ := hlv
                        clear hlv
                        go_wp2_with (go_at_fn gl; refine (hl.out _ _ (by omega) rfl).mono ?_; rintro e w' ⟨rfl, hq, _⟩)
                        go_meet
                        refine ⟨_, rfl, ?_, hq⟩
                        show _ = (decide (a' > 0) && !lt d3[a' - 1]! d3[pv2]!)
                        rw [HV.out]
                        simp [ha0]
                  case rest =>
                    clear S
                    obtain ⟨c82, rfl, HC, S⟩ := hcut
                    cases c82
                    · -- partition; the smaller side by a call of itself
                      have hc : Aside _ := partition_w (ρ := ρ) { L with } E a' b' pv2 d3 wc S.out G.out.size hpv1 hpv2 hb'
                      obtain ⟨x, hx⟩ : ∃ x, x = partition lt d3 a' b' pv2 := ⟨_, rfl⟩
                      rw [← hx] at hc
                      obtain ⟨mid, ap, d4⟩ := x
                      obtain ⟨r1, r2, r3, r4, r5, r6, r7⟩ := G.out.part hO hb' hpv1 hpv2 hx.symm
                      have Q : Aside (d4.size = n ∧ Below lt a' mid d4 ∧ Below lt (mid + 1) b' d4 ∧ (∀ L, PermIn a' mid d4 L → SortedIn lt a' mid L → Pg lt n a b d (mid + 1) b' L) ∧ (∀ L, PermIn (mid + 1) b' d4 L → SortedIn lt (mid + 1) b' L → Pg lt n a b d a' mid L)) := ⟨r3, r4, r5, r6, r7⟩
                      clear hx r3 r4 r5 r6 r7
                      go_upto_if 108 with (go_at_fn (ρ.f 40); refine Calls.mono hc.out ?_; rintro e w7 ⟨rfl, hw7⟩)
                      clear S hc
                      have S : Aside (SW enc w0 blk off d4 w7) := hw7
                      clear hw7
                      by_cases h4 : mid - a' < b' - mid
                      · have h4z : (mid : Int) - (a' : Int) < (b' : Int) - (mid : Int) := by omega
                        have hih : Aside _ := ih.out a' mid lim2 d4 w7 (by omega) S.out Q.out.1 (by omega) (by omega) (by omega) Q.out.2.1
                        go_wp2_with (go_at_fn (ρ.f 18); refine Calls.mono hih.out ?_; rintro e w8 ⟨rfl, d5, hp5, hw8⟩)
                        go_roundg (b' - (mid + 1))
                        case measure => omega
                        case rel =>
                          refine ⟨mid + 1, b', lim2, decide (mid - a' ≥ (b' - a') / 8), ap, d5, by simp, rfl, rfl, ?_, rfl, by omega, by omega, Nat.le_refl _, by omega, by omega, Q.out.2.2.2.1 d5 hp5.1 hp5.2, hw8⟩
                          exact congrArg Value.bool (eighth (by omega) (by omega))
                      · have h4z : ¬ ((mid : Int) - (a' : Int) < (b' : Int) - (mid : Int)) := by omega
                        have hih : Aside _ := ih.out (mid + 1) b' lim2 d4 w7 (by omega) S.out Q.out.1 (by omega) (by omega) (by omega) Q.out.2.2.1
                        rw [show ((mid + 1 : Nat) : Int) = (mid : Int) + 1 by omega] at hih
                        go_wp2_with (go_at_fn (ρ.f 18); refine Calls.mono hih.out ?_; rintro e w8 ⟨rfl, d5, hp5, hw8⟩)
                        go_roundg (mid - a')
                        case measure => omega
                        case rel =>
                          refine ⟨a', mid, lim2, decide (b' - mid ≥ (b' - a') / 8), ap, d5, rfl, rfl, rfl, ?_, rfl, by omega, by omega, Nat.le_refl _, by omega, by omega, Q.out.2.2.2.2 d5 hp5.1 hp5.2, hw8⟩
                          exact congrArg Value.bool (eighth (by omega) (by omega))
                    · -- partitionEqual; a = mid
                      have h87 := HC.out.symm
                      simp only [Bool.and_eq_true, decide_eq_true_eq, Bool.not_eq_true'] at h87
                      have hc : Aside _ := partitionEqual_w (ρ := ρ) { L with } E a' b' pv2 d3 wc S.out G.out.size hpv1 hpv2 hb'
                      obtain ⟨x, hx⟩ : ∃ x, x = partitionEqual lt d3 a' b' pv2 := ⟨_, rfl⟩
                      rw [← hx] at hc
                      obtain ⟨mid, d4⟩ := x
                      obtain ⟨r1, r2, r3⟩ := G.out.eq hO hb' h87.1 hpv1 hpv2 h87.2 hx.symm
                      have Q : Aside (Pg lt n a b d mid b' d4) := r3
                      clear hx r3 h87
                      go_wp2_with (go_at_fn (ρ.f 39); refine Calls.mono hc.out ?_; rintro e w7 ⟨rfl, hw7⟩)
                      go_roundg (b' - mid)
                      case measure => omega
                      case rel => exact ⟨mid, b', lim2, wb, wp, d4, rfl, rfl, rfl, rfl, rfl, r2, hb', Nat.le_refl _, by omega, by omega, Q, hw7⟩
#print axioms pdqsort_w
end Go.Sr

/- sort.Sort over such an interface value: a sorted permutation of the row. -/
namespace Go.Sr
set_option linter.unusedVariables false
set_option linter.unusedSimpArgs false
open Go.Shelf Go.RowKit Go.Lib Go.Sort Go.Proofs
variable {P : Program} {ρ : Ren} {α : Type} [Inhabited α] {T : TypeId} {rv rl rs : Value} {gl gs : Nat} {enc : α → Value} {lt : α → α → Bool} {w0 : World} {blk off n : Nat}
set_option maxHeartbeats 1000000 in
set_option maxRecDepth 100000 in
/-- one element or none: the length alone is asked for -/
theorem sort_tiny (L : LaysGt.n11 P ρ) {gn : Nat} {rn : Value} (mN : Sem.run P (method (P.types.size + 100) T rv "Len") w0 = .ok (gn, rn) w0) (eN : ∀ args w, (callFunc gn args).run P w = .ok (.enter gn args) w)
    (hlen : Calls P gn #[rn] w0 fun e w' => e = .returned (.int .i64 n) ∧ ∃ q, w' = w0.drewN q) (hn : n ≤ 1) :
    Calls P (ρ.f 11) #[.iface T rv] w0 fun e w' => e = .returned (.tuple #[]) ∧ ∃ q, w' = w0.drewN q := by
  have mixed := L.mixed; have t0 := L.t0; have a0 := L.a0; have z0 := L.z0; have v0 := L.v0; have t3 := L.t3; have a3 := L.a3; have z3 := L.z3; have v3 := L.v3; have t4 := L.t4; have a4 := L.a4; have z4 := L.z4; have v4 := L.v4; have t5 := L.t5; have a5 := L.a5; have z5 := L.z5; have v5 := L.v5; have t9 := L.t9; have a9 := L.a9; have z9 := L.z9; have v9 := L.v9; have t26 := L.t26; have a26 := L.a26; have z26 := L.z26; have v26 := L.v26; have t38 := L.t38; have a38 := L.a38; have z38 := L.z38; have v38 := L.v38; have t43 := L.t43; have a43 := L.a43; have z43 := L.z43; have v43 := L.v43; have t45 := L.t45; have a45 := L.a45; have z45 := L.z45; have v45 := L.v45; have t47 := L.t47; have a47 := L.a47; have z47 := L.z47; have v47 := L.v47; have t56 := L.t56; have a56 := L.a56; have z56 := L.z56; have v56 := L.v56; have t58 := L.t58; have a58 := L.a58; have z58 := L.z58; have v58 := L.v58; have t60 := L.t60; have a60 := L.a60; have z60 := L.z60; have v60 := L.v60; have t61 := L.t61; have a61 := L.a61; have z61 := L.z61; have v61 := L.v61; have t65 := L.t65; have a65 := L.a65; have z65 := L.z65; have v65 := L.v65; have t67 := L.t67; have a67 := L.a67; have z67 := L.z67; have v67 := L.v67; have t71 := L.t71; have a71 := L.a71; have z71 := L.z71; have v71 := L.v71; have t73 := L.t73; have a73 := L.a73; have z73 := L.z73; have v73 := L.v73; have t74 := L.t74; have a74 := L.a74; have z74 := L.z74; have v74 := L.v74
  have hc : Aside _ := hlen
  clear hlen
  go_enter L.f11, BodyGt.n11_ntmps ρ
  go_wp2_with (go_at_fn gn; refine Calls.mono hc.out ?_; rintro e w' ⟨rfl, q, rfl⟩)
  all_goals first | (exfalso; omega) | ((try simp only [Exit.inBlock, Exit.then]); refine bodyPost_ret (results_none rfl _ _ _) rfl ?_; exact ⟨rfl, q, rfl⟩)
set_option maxHeartbeats 1000000 in
set_option maxRecDepth 100000 in
theorem sort_w (L : LaysGt.n11 P ρ) (E : Ev P T rv rl rs gl gs enc lt w0 blk off n) (hO : SWO lt) {gn : Nat} {rn : Value} (mN : Sem.run P (method (P.types.size + 100) T rv "Len") w0 = .ok (gn, rn) w0) (eN : ∀ args w, (callFunc gn args).run P w = .ok (.enter gn args) w)
    (hlen : Calls P gn #[rn] w0 fun e w' => e = .returned (.int .i64 n) ∧ ∃ q, w' = w0.drewN q) (d : Array α) (hS : SW enc w0 blk off d w0) (hd : d.size = n) (h2 : 2 ≤ n) :
    Calls P (ρ.f 11) #[.iface T rv] w0 fun e w' => e = .returned (.tuple #[]) ∧ ∃ d', (PermIn 0 n d d' ∧ SortedIn lt 0 n d') ∧ SW enc w0 blk off d' w' := by
  have mixed := L.mixed; have t0 := L.t0; have a0 := L.a0; have z0 := L.z0; have v0 := L.v0; have t3 := L.t3; have a3 := L.a3; have z3 := L.z3; have v3 := L.v3; have t4 := L.t4; have a4 := L.a4; have z4 := L.z4; have v4 := L.v4; have t5 := L.t5; have a5 := L.a5; have z5 := L.z5; have v5 := L.v5; have t9 := L.t9; have a9 := L.a9; have z9 := L.z9; have v9 := L.v9; have t26 := L.t26; have a26 := L.a26; have z26 := L.z26; have v26 := L.v26; have t38 := L.t38; have a38 := L.a38; have z38 := L.z38; have v38 := L.v38; have t43 := L.t43; have a43 := L.a43; have z43 := L.z43; have v43 := L.v43; have t45 := L.t45; have a45 := L.a45; have z45 := L.z45; have v45 := L.v45; have t47 := L.t47; have a47 := L.a47; have z47 := L.z47; have v47 := L.v47; have t56 := L.t56; have a56 := L.a56; have z56 := L.z56; have v56 := L.v56; have t58 := L.t58; have a58 := L.a58; have z58 := L.z58; have v58 := L.v58; have t60 := L.t60; have a60 := L.a60; have z60 := L.z60; have v60 := L.v60; have t61 := L.t61; have a61 := L.a61; have z61 := L.z61; have v61 := L.v61; have t65 := L.t65; have a65 := L.a65; have z65 := L.z65; have v65 := L.v65; have t67 := L.t67; have a67 := L.a67; have z67 := L.z67; have v67 := L.v67; have t71 := L.t71; have a71 := L.a71; have z71 := L.z71; have v71 := L.v71; have t73 := L.t73; have a73 := L.a73; have z73 := L.z73; have v73 := L.v73; have t74 := L.t74; have a74 := L.a74; have z74 := L.z74; have v74 := L.v74
  have hn := E.hn
  have e17 : ∀ args w, (callFunc (ρ.f 17) args).run P w = .ok (.enter (ρ.f 17) args) w := enters_of L.f17 (by kernel_rfl) rfl
  have e18 : ∀ args w, (callFunc (ρ.f 18) args).run P w = .ok (.enter (ρ.f 18) args) w := enters_of L.f18 (by kernel_rfl) rfl
  have hb := fun w => Any.bits_Len (LaysGg.n13.bits (({ L with } : LaysGt.n17 P ρ).elder)) (n : Int) w (by omega) (by omega)
  change ∀ w, Calls P (ρ.f 17) _ w _ at hb
  have wr : IntKind.u64.wrap (n : Int) = n := by simp [IntKind.wrap, IntKind.bits, IntKind.signed]; omega
  have hlim : Lib.bitLen n < 4611686018427387904 := Nat.lt_of_le_of_lt (Lib.bitLen_le n 62 (by omega) (by omega)) (by omega)
  have hp : Aside _ := fun q => pdqsort_w (P := P) (ρ := ρ) { L with } E hO (n + 1) 0 n (Lib.bitLen n) d (w0.drewN q) (by omega) (hS.drewN q) hd (Nat.zero_le _) (Nat.le_refl _) hlim (Or.inl rfl)
  have HL : Aside _ := hlen
  have HB : Aside _ := hb
  clear hS hlen hb hlim
  go_enter L.f11, BodyGt.n11_ntmps ρ
  go_wp2_with (first
    | (go_at_fn gn; refine Calls.mono HL.out ?_; rintro e w' ⟨rfl, q, rfl⟩)
    | (go_at_fn (ρ.f 17); refine Calls.mono (HB.out _) ?_; rintro e w' ⟨rfl, rfl⟩)
    | (go_at_fn (ρ.f 18); refine Calls.mono (hp.out _) ?_; rintro e w' ⟨rfl, d', h1, h2⟩))
  all_goals first
    | (exfalso; omega)
    | (go_end0; exact ⟨rfl, d', h1, h2⟩)
#print axioms sort_tiny
#print axioms sort_w
end Go.Sr
