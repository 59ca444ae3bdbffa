/- FnCovers: what covers a pattern matches all that it matches; patterns that cover each other have one shape. No condition. -/
import Derived.Test.YtdckcgjimblpkaaDoorPCoversNLwL
import Derived.Test.YtdckcgjimblpkaaDoorPCoversNLwM
import Derived.Test.YtdckcgjimblpkaaDoorPCoversNLawFnCovers
namespace Go.Cx
open Go.RowKit Go.Proofs
set_option linter.unusedVariables false
set_option linter.unusedSimpArgs false
namespace LawCovers
theorem loop1 {p q : Fact} (hp : SmallF 4 p) (hq : SmallF 4 q) (hc : Cov p q) (K : List Bytes → List Bytes → Option Bool) (l : List Fact) (hl : SmallL 100 l) : ∀ (m : Nat) (fu : Nat) (v : Nat), l.length = v + m → m < fu →
    d_laws_FnCovers_L1 (p, q) K fu (v : Int) l p.args q.args = K p.args q.args := by
  intro m
  induction m with
  | zero =>
    intro fu v hv hf
    cases fu with
    | zero => omega
    | succ fu =>
      have e : decide ((v : Int) < (((l.map Fact.c).length : Int))) = false := by simp; omega
      rw [d_laws_FnCovers_L1, e, cond_false]
  | succ m ih =>
    intro fu v hv hf
    cases fu with
    | zero => omega
    | succ fu =>
      have hl1 := hl.1
      have hlt : v < l.length := by omega
      have e : decide ((v : Int) < (((l.map Fact.c).length : Int))) = true := by simp; omega
      have e1 : atI l (v : Int) = some l[v] := by unfold atI; rw [decide_eq_true (by omega), cond_true]; exact List.getElem?_eq_getElem hlt
      have hx := hl.2 l[v] (List.getElem_mem hlt)
      have e2 : d_spec_MatchFact (⟨q.rel, q.args⟩ : Fact) l[v] [] = some (matF q l[v] []) := sMat q l[v] [] (hq.wt (by decide)) (hx.wt (by decide)) PB.nil
      have e3 : d_impl_MatchFact (⟨p.rel, p.args⟩ : Fact) l[v] [] = some (matF p l[v] []) := iMat p l[v] [] (hp.wt (by decide)) (hx.wt (by decide)) PB.nil
      have e4 : IntKind.i64.wrap ((v : Int) + 1) = ((v + 1 : Nat) : Int) := by rw [wrap_in (InR.i64.2 (by omega))]; rfl
      rw [d_laws_FnCovers_L1, e, cond_true, e1, Option.bind_some, e2, Option.bind_some, e3, Option.bind_some, e4, ih fu (v + 1) (by omega) (by omega)]
      cases hm : (matF q l[v] []).2 with
      | false => rfl
      | true => rw [cov_mat hc hm]; rfl
theorem loop2 {p q : Fact} (hp : SmallF 4 p) (hq : SmallF 4 q) (hc : Cov p q) (K : Option Bool) (l0 : List Fact) : ∀ (l : List Fact) (i : Nat), (∀ x ∈ l, SmallF 4 x) → d_laws_FnCovers_L2 (p, q) l0 K l i = K := by
  intro l
  induction l with
  | nil => intro i _; rfl
  | cons x xs ih =>
    intro i hl
    have hx := hl x (by simp)
    rw [d_laws_FnCovers_L2, sMat q x [] (hq.wt (by decide)) (hx.wt (by decide)) PB.nil, Option.bind_some, iMat p x [] (hp.wt (by decide)) (hx.wt (by decide)) PB.nil, Option.bind_some, ih (i + 1) (fun y hy => hl y (by simp [hy]))]
    cases hm : (matF q x []).2 with
    | false => rfl
    | true => rw [cov_mat hc hm]; rfl
theorem fin {p q : Fact} (hp : SmallF 4 p) (hq : SmallF 4 q) (hc : Cov p q) : ((d_impl_CoversPattern q p).bind fun y65 => (bif !(y65) then (some (true)) else ((d_impl_ShapeOf p).bind fun y68 => ((d_impl_ShapeOf q).bind fun y70 => ((d_spec_SamePattern (y68) (y70)).bind fun y72 => (some (y72))))))) = some true := by
  obtain ⟨r, e, hr⟩ := iCov q p (hq.wt (by decide)) (hp.wt (by decide))
  rw [e, Option.bind_some]
  cases r with
  | false => rfl
  | true =>
    rw [Bool.not_true, cond_false, iShape p (hp.wt (by decide)), Option.bind_some, iShape q (hq.wt (by decide)), Option.bind_some, sSameP, Option.bind_some, decide_eq_true (cov_shape hc (hr rfl))]
theorem law_ok (code : List Int) : d_laws_FnCovers code = some true := by
  unfold d_laws_FnCovers d_laws_big
  rw [Option.bind_some, List.length_map]
  by_cases hl : (code.length : Int) > 4096
  · rw [decide_eq_true hl, cond_true]
  have hc4 : code.length ≤ 4096 := by omega
  rw [decide_eq_false hl, cond_false]
  obtain ⟨p, q, e0, hp, hq⟩ := sDrawCov code hc4
  have wp := hp.wt (by decide)
  have wq := hq.wt (by decide)
  rw [e0, Option.bind_some, iCovSelf p wp, Option.bind_some, sPat p wp, Option.bind_some, bne_self_eq_false, cond_false]
  obtain ⟨r, e1, hr⟩ := iCov p q wp wq
  rw [e1, Option.bind_some]
  cases r with
  | false => rfl
  | true =>
    have hc := hr rfl
    obtain ⟨p2, b, e2, _, hb⟩ := sDrawInst code hc4
    obtain ⟨l, e3, hl⟩ := sDrawAreF code hc4
    obtain ⟨f, ok, e4, hf⟩ := sInst q b hq hb (by decide)
    have hl1 := hl.1
    rw [Bool.not_true, cond_false, e2, Option.bind_some, e3, Option.bind_some, e4, Option.bind_some]
    cases ok with
    | true =>
      rw [cond_true, room1 (w := l) (c := Fact.c) (y := [D.str f.rel, D.sl (f.args.map tx)]) (by omega) (by decide), cond_true]
      refine Eq.trans (loop1 hp hq hc _ (l ++ [f]) ⟨by simp; omega, fun x hx => ?_⟩ (l ++ [f]).length fuel 0 (by simp) (by simp; unfold fuel; omega)) (fin hp hq hc)
      rcases List.mem_append.1 hx with h | h
      · exact hl.2 x h
      · simp at h; subst h; exact hf
    | false =>
      have e5 : decide (l.length ≤ maxLen) = true := decide_eq_true (Nat.le_trans hl1 (by decide))
      rw [cond_false, e5, cond_true]
      exact Eq.trans (loop2 hp hq hc _ l l 0 hl.2) (fin hp hq hc)
theorem law_good (code : List Int) : Good Tryd.prog 4 [.sl (code.map yx)] (.bool true) := d_laws_FnCovers_good (law_ok code)
end LawCovers
end Go.Cx
