/- Calls that change a slice that they are handed: flat rows. No condition; plain lemmas. -/
import Derived.Test.YtoeenpcilfhjbaaNCall
namespace Go.Cx
set_option linter.unusedVariables false
set_option linter.unusedSimpArgs false
open Go.RowKit

/-- f is handed a slice that is the caller's own and shows rows; afterwards it shows rows'; all else stays -/
def GoodM (P : Program) (f : FuncId) (e : TypeId) (sz : Nat) (rows rows' : List (List D)) : Prop :=
  (∃ fn, P.funcs[f]? = some fn ∧ fn.body.isSome = true ∧ (fn.name == "runtime.NumGoroutine") = false) ∧
  ∀ (w : World) (v : Value) (cs : List Value), 0 < sz → (∀ r ∈ rows, r.length = sz) → w.ownsRow 0 e sz v rows.length cs → Rds w cs rows.flatten [] →
    Calls P f #[v] w (fun x w' => x = .returned (.tuple #[]) ∧ w'.os = w.os ∧ w'.tape = w.tape ∧ w'.output = w.output ∧ w.heap.size ≤ w'.heap.size ∧
      (∀ b, b < w.heap.size → v.ownBlock ≠ some b → w'.heap[b]? = w.heap[b]?) ∧ (∀ r ∈ rows', r.length = sz) ∧ ∃ cs', w'.ownsRow 0 e sz v rows'.length cs' ∧ Rds w' cs' rows'.flatten [])

section
variable {P : Program} {Γ : Ctx} {Q : Exit → St → Prop} {st : St} {κ : Nat → Option Value} {Θ : Nat → Nat} {a : Act} {w : World} {all : Array Oper} {rest : List Oper}

theorem AO_callM {o : Oper} {f id e sz : Nat} {x : Operand} {ts : Array TypeId} {k0 : RK} {rows rows' : List (List D)} (hop : o.op = .call { callee := .value (.func f), args := #[x], argTypes := ts }) (hd : ∀ t, o.dst = some t → t < Γ.nt) (hg : o.guard = none)
    (hx : st.ev x = .acc id) (hH : st.H[id]? = some (.row k0 e sz rows)) (hk0 : k0.hand = true) (hfe : uqT e = true) (hfl : rows.flatten.all D.flat = true) (hgood : GoodM P f e sz rows rows')
    (h : AO P Γ all rest Q (St.put ⟨st.σ, st.H.set id (.row k0 e sz rows')⟩ o.dst (.tup []))) : AO P Γ all (o :: rest) Q st := by
  intro κ Θ a w hs
  obtain ⟨b1, r1, _⟩ := hs.ev x
  rw [hx] at r1
  obtain ⟨hkv, _⟩ := r1.acc_inv
  obtain ⟨hsz, hrl, v, cs, bs, hk1, hown, hrd, htop, hz⟩ := hs.ob id _ hH
  rw [hkv] at hk1
  cases hk1
  have hbs := hrd.flat hfl
  subst hbs
  obtain ⟨ρ, hu⟩ := hs.uniq
  refine wpList_plain hg fun K hK => ?_
  unfold Oper.wp
  rw [run_call hop hgood.1, Oper.upon_enter]
  have e1 : (#[x] : Array Operand).map a.eval = #[a.eval x] := by simp
  rw [e1]
  refine (hgood.2 w _ cs hsz hrl hown hrd).mono ?_
  rintro e' w' ⟨rfl, k1, k2, k3, k4, k5, hrl', cs', hown', hrd'⟩
  have kk : Keeps w w' Θ Θ (id + 2) := ⟨by omega, k1, k2, k3, k4, fun b hb ht => k5 b hb fun e => ht (htop b e), fun _ _ _ => rfl, fun b hb => Nat.lt_of_lt_of_le (hs.own b hb) k4⟩
  have hs' : Sim Γ ⟨st.σ, st.H.set id (.row k0 e sz rows')⟩ κ Θ a w' := by
    refine hs.put [] set_key (fun _ _ h => h) (fun i hi => hs.kout i (by simpa using hi)) hs.kone kk hs.mine ?_ hu (by simp) ?_ ?_
    · refine ⟨hsz, hrl', _, cs', [], hkv, hown', hrd', htop, ?_⟩
      cases k0 with
      | cl => simp [RK.hand] at hk0
      | mv n => simp [RK.hand] at hk0
      | ho p n => simp [RK.hand] at hk0
      | sh => simp
      | uq => simp
    · intro e2 sz2 rows2 he
      cases he
      exact ⟨_, cs', [], hkv, hown', .of hrd' (fcol_none (uqT_none hfe)), by simp, by simp⟩
    · cases k0 with
      | mv n => simp [RK.hand] at hk0
      | ho p n => simp [RK.hand] at hk0
      | _ => rfl
  show K (a.put o.dst (.tuple #[])) w'
  refine hK _ _ (h κ Θ _ w' ?_)
  cases hdst : o.dst with
  | none => exact hs'
  | some t => exact hs'.set (hd t hdst) (.tup [] [] [] .nil) (by simp)
end
end Go.Cx
