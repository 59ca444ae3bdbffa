/- Patterns that cover, and patterns that match, as maps of terms: what covers matches more, and patterns that cover each other have one shape. No condition but bounds on sizes. -/
import Derived.Test.YtpglgncmlcpgdaaGreatDoorPFnPlainNLwK
import Derived.Test.YtpglgncmlcpgdaaGreatDoorPFnPlainNLwG
namespace Go.Cx
open Go.RowKit Go.Proofs
set_option linter.unusedVariables false
set_option linter.unusedSimpArgs false
/-! matching as a map of terms -/
theorem findP_set_ne {t v val : Bytes} (h : v ≠ t) : ∀ (w : List Pair), findP t (setP v val w) = findP t w
  | [] => by
    have : (v == t) = false := by simpa using h
    simp only [setP, findP, this, cond_false]
  | x :: xs => by
    have hv : (v == t) = false := by simpa using h
    rw [setP]
    cases !(Op.bytesLess x.var v || x.var == v) with
    | true => rw [cond_true, findP]; simp only [hv, cond_false]
    | false => rw [cond_false, findP, findP, findP_set_ne h xs]
theorem findP_set {v val : Bytes} : ∀ (w : List Pair), findP v w = none → findP v (setP v val w) = some val
  | [], _ => by simp [setP, findP]
  | x :: xs, h => by
    rw [findP] at h
    rw [setP]
    cases hx : x.var == v with
    | true => rw [hx] at h; cases h
    | false =>
      rw [hx, cond_false] at h
      cases !(Op.bytesLess x.var v || false) with
      | true => rw [cond_true, findP]; simp
      | false => rw [cond_false, findP, hx, cond_false]; exact findP_set xs h
theorem chainP_cons (p : Option Pair) (x : Pair) (xs : List Pair) : chainP p (x :: xs) = (varB x.var && (atomB x.value && ((match p with | some q => Op.bytesLess q.var x.var | none => true) && chainP (some x) xs))) := by
  cases p <;> rfl
theorem chain_set {v val : Bytes} (hv : varB v = true) (ha : atomB val = true) : ∀ (w : List Pair) (p : Option Pair), chainP p w = true → findP v w = none → (∀ q, p = some q → Op.bytesLess q.var v = true) → chainP p (setP v val w) = true
  | [], p, _, _, hp => by
    simp only [setP, chainP, hv, ha, Bool.true_and, Bool.and_true]
    cases p with
    | none => rfl
    | some q => exact hp q rfl
  | x :: xs, p, hc, hf, hp => by
    rw [chainP_cons] at hc
    simp only [Bool.and_eq_true] at hc
    obtain ⟨c1, c2, c3, c4⟩ := hc
    rw [findP] at hf
    cases hx : x.var == v with
    | true => rw [hx] at hf; cases hf
    | false =>
      rw [hx, cond_false] at hf
      rw [setP, hx, Bool.or_false]
      cases hl : Op.bytesLess x.var v with
      | true =>
        rw [Bool.not_true, cond_false, chainP_cons]
        simp only [Bool.and_eq_true]
        exact ⟨c1, c2, c3, chain_set hv ha xs (some x) c4 hf (fun q hq => by cases hq; exact hl)⟩
      | false =>
        have h2 : Op.bytesLess v x.var = true := by
          cases h3 : Op.bytesLess v x.var with
          | true => rfl
          | false =>
            have := bl_tri hl h3
            rw [this] at hx; simp at hx
        rw [Bool.not_false, cond_true, chainP_cons]
        simp only [Bool.and_eq_true]
        refine ⟨hv, ha, ?_, ?_⟩
        · cases p with
          | none => rfl
          | some q => exact hp q rfl
        · rw [chainP_cons]
          simp only [Bool.and_eq_true]
          exact ⟨c1, c2, h2, c4⟩
theorem bind_set {v val : Bytes} {w : List Pair} (hv : varB v = true) (ha : atomB val = true) (hb : bindB w = true) (hf : findP v w = none) (hl : w.length ≠ 6) : bindB (setP v val w) = true := by
  have h6 := bindB_len hb
  unfold bindB at hb ⊢
  rw [Bool.and_eq_true] at hb ⊢
  exact ⟨chain_set hv ha w none hb.1 hf (fun q h => by cases h), by rw [setP_len]; simp; omega⟩
/-! patterns that cover each other have one shape -/
theorem term_of {p : Fact} (h : patB p = true) : ∀ t ∈ p.args, termB t = true := by
  unfold patB at h
  rw [Bool.and_eq_true] at h
  exact fun t ht => List.all_eq_true.1 h.1 t ht
end Go.Cx
