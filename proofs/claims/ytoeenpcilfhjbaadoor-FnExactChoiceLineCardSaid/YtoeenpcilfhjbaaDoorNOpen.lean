/- From the kit's reading of a call's arguments to what they show (Rd), by the types' shapes; and the frame of a statement's proof. No condition; plain lemmas. -/
import Derived.Test.YtoeenpcilfhjbaaDoorNGo
namespace Go.Cx
set_option linter.unusedVariables false
set_option linter.unusedSimpArgs false
open Go.RowKit

inductive Sh where
  | int (k : IntKind)
  | str
  | bool
  | sl (row : List Sh)

mutual
inductive Conf : Sh → D → Prop
  | int (k : IntKind) (n : Int) : Conf (.int k) (.int k n)
  | str (s : Bytes) : Conf .str (.str s)
  | bool (b : Bool) : Conf .bool (.bool b)
  | sl (row : List Sh) (rows : List (List D)) : (∀ r ∈ rows, Confs row r) → Conf (.sl row) (.sl rows)
inductive Confs : List Sh → List D → Prop
  | nil : Confs [] []
  | cons (s : Sh) (ss : List Sh) (d : D) (ds : List D) : Conf s d → Confs ss ds → Confs (s :: ss) (d :: ds)
end

theorem Confs.app {s1 s2 : List Sh} {d1 d2 : List D} (h1 : Confs s1 d1) (h2 : Confs s2 d2) : Confs (s1 ++ s2) (d1 ++ d2) := by
  induction s1 generalizing d1 with
  | nil => cases h1; exact h2
  | cons s s1 ih => cases h1 with | cons _ _ d ds h h' => exact .cons _ _ _ _ h (ih h')

theorem Confs.length {s : List Sh} {d : List D} (h : Confs s d) : d.length = s.length := by
  induction s generalizing d with
  | nil => cases h; rfl
  | cons s ss ih => cases h with | cons _ _ d ds h h' => simp [ih h']

def offsOk (P : Program) : Nat → List Field → List (List Sh) → Bool
  | _, [], [] => true
  | off, f :: fs, r :: rs => (f.offset == off) && (r.length == P.cellsOf f.type) && offsOk P (off + r.length) fs rs
  | _, _, _ => false

def flatT (P : Program) : Nat → TypeId → Option (List Sh)
  | 0, _ => none
  | n + 1, t => match P.underlying t with
    | some .bool => some [.bool]
    | some (.int k) => some [.int k]
    | some .string => some [.str]
    | some (.slice e) => (flatT P n e).bind fun r => if r.length = P.cellsOf e ∧ 0 < r.length then some [.sl r] else none
    | some (.struct fs) => (fs.toList.mapM fun f => flatT P n f.type).bind fun rs => if offsOk P 0 fs.toList rs = true ∧ rs.flatten.length = P.cellsOf t then some rs.flatten else none
    | _ => none

theorem mapM_all {α β : Type} {f : α → Option β} : ∀ {l : List α} {ys : List β}, l.mapM f = some ys → ys.length = l.length ∧ ∀ (i : Nat) x, l[i]? = some x → ∃ y, ys[i]? = some y ∧ f x = some y := by
  intro l
  induction l with
  | nil => intro ys h; simp at h; subst h; simp
  | cons a l ih =>
    intro ys h
    simp only [List.mapM_cons, Option.bind_eq_bind, Option.pure_def] at h
    cases ha : f a with
    | none => simp [ha] at h
    | some b =>
      cases hl : l.mapM f with
      | none => simp [ha, hl] at h
      | some bs =>
        simp [ha, hl] at h
        subst h
        obtain ⟨h1, h2⟩ := ih hl
        refine ⟨by simp [h1], fun i x hx => ?_⟩
        cases i with
        | zero => simp at hx; subst hx; exact ⟨b, by simp, ha⟩
        | succ i => simp at hx; obtain ⟨y, k1, k2⟩ := h2 i x hx; exact ⟨y, by simpa using k1, k2⟩

section
variable {P : Program} {w : World} {H : Type} {enc : TypeId × Value → H} {base : Nat} {sp : Nat → Bool} {held : Bool}

theorem cells_some {a : Addr} {n : Nat} {cs : List Value} (h : w.cells? base a n = some cs) : cs.length = n ∧ ∀ (j : Nat) c, cs[j]? = some c → w.cell? (a.add j) = some c := by
  unfold World.cells? at h
  split at h
  · obtain ⟨h1, h2⟩ := mapM_all h
    refine ⟨by simpa using h1, fun j c hj => ?_⟩
    have hlt : j < n := by have := (List.getElem?_eq_some_iff.1 hj).1; rw [h1] at this; simpa using this
    obtain ⟨y, k1, k2⟩ := h2 j j (by simp [hlt])
    rw [hj] at k1
    cases k1
    exact k2
  · cases h

theorem lit_in {k : IntKind} {n : Int} (h : (Lit.int k n).wf = true) : InR k n := by
  simpa [Lit.wf, InR] using h

theorem trod_rd : ∀ (fuel : Nat) {t : TypeId} {cs : List Value} {d : DataW H} {ps : List MemPlace} {n : Nat} {shs : List Sh},
    DataW.trod enc P w base sp held fuel t cs = some (d, ps) → flatT P n t = some shs → ∃ ds bs, Rds w cs ds bs ∧ Confs shs ds := by
  intro fuel
  induction fuel with
  | zero => intro t cs d ps n shs h; simp [DataW.trod] at h
  | succ fuel ih =>
    intro t cs d ps n shs h hf
    cases n with
    | zero => simp [flatT] at hf
    | succ n =>
      simp only [flatT] at hf
      simp only [DataW.trod] at h
      split at hf
      · rename_i hu
        cases hf
        simp only [hu] at h
        split at h <;> rename_i h1 <;> try (simp at h1; done)
        all_goals try (cases h; done)
        all_goals simp at h1
        exact ⟨[.bool _], [], .cons _ _ _ _ [] [] rfl (.bool _) .nil, .cons _ _ _ _ (.bool _) .nil⟩
      · rename_i k hu
        cases hf
        simp only [hu] at h
        split at h <;> rename_i h1 <;> try (simp at h1; done)
        all_goals try (cases h; done)
        all_goals simp at h1
        rename_i k1 k2 m _
        subst h1
        split at h
        · rename_i hc
          obtain ⟨rfl, hwf⟩ := hc
          exact ⟨[.int _ _], [], .cons _ _ _ _ [] [] rfl (.int _ _ (lit_in hwf)) .nil, .cons _ _ _ _ (.int _ _) .nil⟩
        · cases h
      · rename_i hu
        cases hf
        simp only [hu] at h
        split at h <;> rename_i h1 <;> try (simp at h1; done)
        all_goals try (cases h; done)
        all_goals simp at h1
        split at h
        · rename_i hc
          exact ⟨[.str _], [], .cons _ _ _ _ [] [] rfl (.str _ hc) .nil, .cons _ _ _ _ (.str _) .nil⟩
        · cases h
      · rename_i e hu
        cases hr : flatT P n e with
        | none => simp [hr] at hf
        | some r =>
          simp only [hr, Option.bind_some] at hf
          split at hf
          · rename_i hsz
            cases hf
            simp only [hu] at h
            split at h <;> rename_i h1 <;> try (simp at h1; done)
            all_goals try (cases h; done)
            all_goals simp at h1
            · exact ⟨[.sl []], [], .cons _ _ _ _ [] [] rfl .slNil .nil, .cons _ _ _ _ (.sl _ _ (by simp)) .nil⟩
            · rename_i a len cap
              try subst h1
              split at h
              · rename_i hc
                cases hm : (List.range len).mapM (fun i => (w.cells? base (a.add (i * P.cellsOf e)) (P.cellsOf e)).bind (DataW.trod enc P w base sp held fuel e)) with
                | none => simp [hm] at h
                | some elems =>
                  obtain ⟨_, hall⟩ := mapM_all hm
                  have hel : ∀ i, i < len → ∃ cs ds bs, w.cells? base (a.add (i * P.cellsOf e)) (P.cellsOf e) = some cs ∧ Rds w cs ds bs ∧ Confs r ds := by
                    intro i hi
                    obtain ⟨y, _, hy⟩ := hall i i (by simp [hi])
                    obtain ⟨cs, hcs, hy⟩ := Option.bind_eq_some_iff.1 hy
                    obtain ⟨ds, bs, k1, k2⟩ := ih (d := y.1) (ps := y.2) hy hr
                    exact ⟨cs, ds, bs, hcs, k1, k2⟩
                  by_cases hl0 : len = 0
                  · subst hl0
                    exact ⟨[.sl []], [], .cons _ _ _ _ [] [] rfl (.slEmpty a cap hc.2.2) .nil, .cons _ _ _ _ (.sl _ _ (by simp)) .nil⟩
                  · -- the address is a plain one
                    obtain ⟨cs0, ds0, bs0, hcs0, hr0, hcf0⟩ := hel 0 (by omega)
                    obtain ⟨hl1, hat⟩ := cells_some hcs0
                    have hpos : 0 < cs0.length := by rw [hl1]; omega
                    have hc0 := hat 0 cs0[0] (List.getElem?_eq_getElem hpos)
                    have ha0 : (a.add (0 * P.cellsOf e)).add 0 = a := by simp [Addr.add]
                    rw [ha0] at hc0
                    obtain ⟨b, off, spot⟩ := a
                    have hspot : spot = none := by
                      cases spot with
                      | none => rfl
                      | some x =>
                        unfold World.cell? at hc0
                        split at hc0
                        · simp at hc0
                        · cases hc0
                    subst hspot
                    have hb : b < w.heap.size := World.block_lt_of_cell? w _ hc0
                    have build : ∀ m, m ≤ len → ∃ (rows : List (List D)) (cs : List Value) (bs : List Nat), rows.length = m ∧ cs.length = m * P.cellsOf e ∧ (∀ (j : Nat) c, cs[j]? = some c → w.cell? ⟨b, off + j, none⟩ = some c) ∧
                        Rds w cs rows.flatten bs ∧ ∀ x ∈ rows, Confs r x := by
                      intro m
                      induction m with
                      | zero => intro _; exact ⟨[], [], [], rfl, by simp, by simp, .nil, by simp⟩
                      | succ m ihm =>
                        intro hm1
                        obtain ⟨rows, cs, bs, q1, q2, q3, q4, q5⟩ := ihm (by omega)
                        obtain ⟨cs', ds', bs', g1, g2, g3⟩ := hel m (by omega)
                        obtain ⟨g4, g5⟩ := cells_some g1
                        refine ⟨rows ++ [ds'], cs ++ cs', bs ++ bs', by simp [q1], by simp [q2, g4, Nat.add_mul], ?_, ?_, ?_⟩
                        · intro j c hj
                          by_cases hlt : j < cs.length
                          · rw [List.getElem?_append_left hlt] at hj
                            exact q3 j c hj
                          · rw [List.getElem?_append_right (by omega)] at hj
                            have := g5 _ c hj
                            rw [Addr.add_lit, Addr.add_lit, q2] at this
                            have e1 : off + m * P.cellsOf e + (j - m * P.cellsOf e) = off + j := by omega
                            rw [e1] at this
                            exact this
                        · rw [List.flatten_append]
                          have := q4.app g2
                          simpa using this
                        · intro x hx
                          rcases List.mem_append.1 hx with hx | hx
                          · exact q5 x hx
                          · simp at hx; subst hx; exact g3
                    obtain ⟨rows, cs, bs, q1, q2, q3, q4, q5⟩ := build len (Nat.le_refl _)
                    subst q1
                    refine ⟨[.sl rows], b :: bs, ?_, .cons _ _ _ _ (.sl _ _ q5) .nil⟩
                    have := Rds.cons (w := w) _ [] _ [] _ [] rfl (Rd.sl b off cap r.length rows cs bs hb hc.2.1 hc.2.2 (fun x hx => (q5 x hx).length) q3 q4) .nil
                    simpa using this
              · cases h
          · cases hf
      · rename_i fs hu
        cases hr : fs.toList.mapM (fun f => flatT P n f.type) with
        | none => simp [hr] at hf
        | some rs =>
          simp only [hr, Option.bind_some] at hf
          split at hf
          · rename_i hok
            cases hf
            simp only [hu] at h
            split at h
            · rename_i hlen
              cases hm : fs.toList.mapM (fun f => DataW.trod enc P w base sp held fuel f.type ((cs.drop f.offset).take (P.cellsOf f.type))) with
              | none => simp [hm] at h
              | some xs =>
                have go : ∀ (fl : List Field) (rl : List (List Sh)) (xl : List (DataW H × List MemPlace)) (off : Nat), fl.mapM (fun f => flatT P n f.type) = some rl →
                    fl.mapM (fun f => DataW.trod enc P w base sp held fuel f.type ((cs.drop f.offset).take (P.cellsOf f.type))) = some xl → offsOk P off fl rl = true →
                    ∃ ds bs, Rds w ((cs.drop off).take rl.flatten.length) ds bs ∧ Confs rl.flatten ds := by
                  intro fl
                  induction fl with
                  | nil =>
                    intro rl xl off h1 _ _
                    simp at h1
                    subst h1
                    exact ⟨[], [], by simpa using Rds.nil, .nil⟩
                  | cons f fl ihf =>
                    intro rl xl off h1 h2 h3
                    simp only [List.mapM_cons, Option.bind_eq_bind, Option.pure_def] at h1 h2
                    cases a1 : flatT P n f.type with
                    | none => simp [a1] at h1
                    | some r1 =>
                      cases a2 : fl.mapM (fun f => flatT P n f.type) with
                      | none => simp [a1, a2] at h1
                      | some rl' =>
                        simp [a1, a2] at h1
                        subst h1
                        cases b1 : DataW.trod enc P w base sp held fuel f.type ((cs.drop f.offset).take (P.cellsOf f.type)) with
                        | none => simp [b1] at h2
                        | some x1 =>
                          cases b2 : fl.mapM (fun f => DataW.trod enc P w base sp held fuel f.type ((cs.drop f.offset).take (P.cellsOf f.type))) with
                          | none => simp [b1, b2] at h2
                          | some xl' =>
                            simp only [offsOk, Bool.and_eq_true, beq_iff_eq] at h3
                            obtain ⟨⟨o1, o2⟩, o3⟩ := h3
                            obtain ⟨ds1, bs1, k1, k2⟩ := ih (d := x1.1) (ps := x1.2) b1 a1
                            obtain ⟨ds2, bs2, k3, k4⟩ := ihf rl' xl' (off + r1.length) a2 b2 o3
                            refine ⟨ds1 ++ ds2, bs1 ++ bs2, ?_, by simpa using k2.app k4⟩
                            have e1 : (cs.drop off).take (r1 :: rl').flatten.length = (cs.drop f.offset).take (P.cellsOf f.type) ++ (cs.drop (off + r1.length)).take rl'.flatten.length := by
                              rw [o1, ← o2, List.flatten_cons, List.length_append, ← List.drop_drop, List.take_add]
                            rw [e1]
                            exact k1.app k3
                obtain ⟨ds, bs, k1, k2⟩ := go fs.toList rs xs 0 hr hm hok.1
                rw [List.drop_zero, hok.2, ← hlen, List.take_length] at k1
                exact ⟨ds, bs, k1, k2⟩
            · cases h
          · cases hf
      · cases hf

/-- an argument of a type's shape -/
def ArgC (P : Program) (n : Nat) (t : TypeId) (d : D) : Prop :=
  (tagg P t = some true ∧ ∃ shs cells, flatT P n t = some shs ∧ d = .agg cells ∧ Confs shs cells) ∨ (tagg P t = some false ∧ ∃ sh, flatT P n t = some [sh] ∧ Conf sh d)

inductive ArgsC (P : Program) (n : Nat) : List TypeId → List D → Prop
  | nil : ArgsC P n [] []
  | cons (t : TypeId) (ts : List TypeId) (d : D) (ds : List D) : ArgC P n t d → ArgsC P n ts ds → ArgsC P n (t :: ts) (d :: ds)

/-- what the types of a statement's parameters must be -/
def argOk (P : Program) (n : Nat) (t : TypeId) : Bool :=
  match tagg P t, flatT P n t with
  | some true, some _ => (match P.underlying t with | some (.struct _) => true | _ => false)
  | some false, some [_] => true
  | _, _ => false

theorem open_arg {n : Nat} {t : TypeId} {v : Value} {d : DataW H} {ps : List MemPlace} (hok : argOk P n t = true) (hval : Value.okWide P w .any base t v) (h : DataW.Trod enc P w 0 sp held t v d ps) :
    ∃ x bs, Rd w v x bs ∧ ArgC P n t x := by
  obtain ⟨fuel, h⟩ := h
  unfold argOk at hok
  split at hok
  · rename_i shs ht hf
    split at hok
    · rename_i fs hu
      unfold Value.okWide at hval
      simp only [hu] at hval
      obtain ⟨cs, rfl, _⟩ := hval
      obtain ⟨ds, bs, k1, k2⟩ := trod_rd fuel h hf
      refine ⟨.agg ds, bs, ?_, .inl ⟨ht, shs, ds, hf, rfl, k2⟩⟩
      have := Rd.agg (w := w) cs.toList ds bs k1
      simpa using this
    · cases hok
  · rename_i sh ht hf
    have hone : v.oneCell' = true := by
      unfold tagg at ht
      split at ht <;> first
        | (cases ht; done)
        | skip
      rename_i dsc h1 h2 hu
      unfold Value.okWide at hval
      rw [hu] at hval
      cases v with
      | agg cs =>
        cases dsc <;> first
          | (exfalso; exact h1 _ rfl)
          | (exfalso; exact h2 _ _ rfl)
          | (simp [Cell.okWide, Cell.ok, hu] at hval)
      | tuple vs =>
        cases dsc <;> first
          | (exfalso; exact h1 _ rfl)
          | (exfalso; exact h2 _ _ rfl)
          | (simp [Cell.okWide, Cell.ok, hu] at hval)
      | _ => rfl
    rw [one_cells hone] at h
    obtain ⟨ds, bs, k1, k2⟩ := trod_rd fuel h hf
    cases k2 with
    | cons _ _ x ds' hx hn =>
      cases hn
      cases k1 with
      | cons _ _ _ _ b1 b2 _ hrd hn => exact ⟨x, b1, hrd, .inr ⟨ht, sh, hf, hx⟩⟩
  · cases hok

theorem open_args {n : Nat} : ∀ {ts : List TypeId} {vs : List Value} {ds : List (DataW H)} {ps : List MemPlace}, (∀ t ∈ ts, argOk P n t = true) →
    (∀ (j : Nat) t v, ts[j]? = some t → vs[j]? = some v → Value.okWide P w .any base t v) → DataW.TrodAll enc P w 0 sp held ts vs ds ps →
    ∃ xs bs, Rda w vs xs bs ∧ ArgsC P n ts xs ∧ ds.length = ts.length := by
  intro ts
  induction ts with
  | nil =>
    intro vs ds ps _ _ h
    cases vs with
    | nil => cases ds with
      | nil => exact ⟨[], [], .nil, .nil, rfl⟩
      | cons => cases h
    | cons => cases ds <;> cases h
  | cons t ts ih =>
    intro vs ds ps hok hval h
    cases vs with
    | nil => cases h
    | cons v vs =>
      cases ds with
      | nil => cases h
      | cons d ds =>
        obtain ⟨p, q, h1, h2, rfl⟩ := h
        obtain ⟨x, b1, k1, k2⟩ := open_arg (hok t (by simp)) (hval 0 t v rfl rfl) h1
        obtain ⟨xs, b2, k3, k4, k5⟩ := ih (fun u hu => hok u (by simp [hu])) (fun j u y hj hv => hval (j + 1) u y (by simpa using hj) (by simpa using hv)) h2
        exact ⟨x :: xs, b1 ++ b2, .cons _ _ _ _ _ _ k1 k3, .cons _ _ _ _ k2 k4, by simp [k5]⟩

theorem trodAll_stays {W W' : World} (hl : laidOutB P = true) (hb : Below W.heap.size W W') (spn : Nat → Bool) : ∀ {ts : List TypeId} {vs : List Value} {ds : List (DataW H)} {ps : List MemPlace},
    (∀ t ∈ ts, P.readableRec t = true ∧ t < P.types.size) → DataW.TrodAll enc P W 0 (fun _ => true) true ts vs ds ps → (∀ x ∈ ps, x.block < W.heap.size) → (∀ x ∈ ps, spn x.block = true) →
    DataW.TrodAll enc P W' 0 spn true ts vs ds ps := by
  intro ts
  induction ts with
  | nil => intro vs ds ps _ h _ _; cases vs <;> cases ds <;> first | exact h | cases h
  | cons t ts ih =>
    intro vs ds ps ht h hlt hsp
    cases vs with
    | nil => cases h
    | cons v vs =>
      cases ds with
      | nil => cases h
      | cons d ds =>
        obtain ⟨p, q, h1, h2, rfl⟩ := h
        refine ⟨p, q, ?_, ih (fun u hu => ht u (by simp [hu])) h2 (fun x hx => hlt x (by simp [hx])) (fun x hx => hsp x (by simp [hx])), rfl⟩
        exact WideElems.Trod_stays hl (ht t (by simp)).1 (ht t (by simp)).2 h1 (fun x hx => hb.same (hlt x (by simp [hx]))) (fun x hx => hsp x (by simp [hx]))

theorem ResS.bool_inv {w : World} {v : Value} {b : Bool} {bs ts us : List Nat} (h : ResS w v (.bool b) bs ts us) : v = .bool b := by
  cases h with | v h => cases h with | cell h => cases h with | pure h => cases h; rfl

/-- A STATEMENT OUT OF ITS WALK: the law returns true, its arguments read as they did -/
theorem law_contract {f : FuncId} {fn : Func} {s : ChangeSpec} {n rt : Nat} {W : World} {args : Array Value} {ds gs : List (DataW H)} {before : List MemPlace}
    (hl : laidOutB P = true) (hparams : ∀ t ∈ fn.params.toList, argOk P n t = true ∧ P.readableRec t = true ∧ t < P.types.size) (hres : fn.resultTypes = #[rt]) (hrt : P.underlying rt = some .bool)
    (hv : s.vars = []) (hfn : ∀ ds : List (DataW H), ds.length = fn.params.toList.length → s.fn H ds = { results := [.lit (.bool true)], args := ds })
    (hvs : Vok W fun _ => False) (hgood : ∀ xs, ArgsC P n fn.params.toList xs → Good P f xs (.bool true))
    (hval : ∀ (j : Nat) t v, fn.params[j]? = some t → args[j]? = some v → Value.okWide P W .any base t v)
    (hW : DataW.Whole enc P fn.params.toList s.vars false W args.toList ds gs before) :
    Calls P f args W fun e W' => ∃ v, e = .returned v ∧ s.post enc P fn false true false false W args v W' := by
  have hW' := hW
  obtain ⟨p, q, hA, hV, hpq, hz, _⟩ := hW
  have hgs : gs = [] ∧ q = [] := by
    rw [hv] at hV
    cases gs with
    | nil => exact ⟨rfl, hV⟩
    | cons => cases hV
  obtain ⟨rfl, rfl⟩ := hgs
  rw [List.append_nil] at hpq
  subst hpq
  obtain ⟨xs, bs, k1, k2, k3⟩ := open_args (fun t ht => (hparams t ht).1) (fun j t v hj hv => hval j t v (by simpa using hj) (by simpa using hv)) hA
  have hc := (hgood xs k2).2 W (fun _ => 0) args.toList bs hvs k1 (fun _ _ => rfl) (fun b hb => absurd rfl hb) (fun _ => Nat.zero_le _)
  rw [Array.toArray_toList] at hc
  refine hc.mono ?_
  rintro e W' ⟨v, bs', ts, us, rfl, hb, hr, _⟩
  refine ⟨v, rfl, ?_⟩
  obtain rfl := hr.bool_inv
  have hlt := hW'.lt
  have hfd := hfn ds k3
  have hresults : ∀ (b : Nat) (sp : Nat → Bool) (hd : Bool), DataW.TrodAll enc P W' b sp hd fn.resultTypes.toList ((Value.bool true).resultList fn.resultTypes.size) [.lit (.bool true)] [] := by
    intro b sp hd
    rw [hres]
    exact ⟨[], [], ⟨1, by simp [DataW.trod, hrt, Value.cells]⟩, rfl, rfl⟩
  have hargs : ∀ spn : Nat → Bool, (∀ x ∈ before, spn x.block = true) → DataW.TrodAll enc P W' 0 spn true fn.params.toList args.toList ds before :=
    fun spn hsp => trodAll_stays hl hb spn (fun t ht => (hparams t ht).2) hA hlt hsp
  have hvars : ∀ spn : Nat → Bool, DataW.TrodVars enc P W' spn s.vars [] [] := fun spn => by rw [hv]; rfl
  unfold ChangeSpec.post
  refine ⟨ds, [], before, [], before, [], hW', ?_, ?_, ?_, hb.frame _, fun h => by cases h⟩
  · rw [List.append_nil, hfd]; exact hresults _ _ _
  · rw [List.append_nil, hfd]; exact hargs _ (fun x hx => by simpa using hlt x hx)
  · rw [List.append_nil, hfd]; exact hvars _


theorem trodVars_stays {W W' : World} (hl : laidOutB P = true) (hb : Below W.heap.size W W') (spn : Nat → Bool) : ∀ {ns : List String} {ds : List (DataW H)} {ps : List MemPlace},
    (∀ n ∈ ns, ∀ g t, P.globalNamed n = some g → (P.globals[g]?).map (·.type) = some t → P.readableRec t = true ∧ t < P.types.size) → DataW.TrodVars enc P W (fun _ => true) ns ds ps → (∀ x ∈ ps, x.block < W.heap.size) → (∀ x ∈ ps, spn x.block = true) →
    DataW.TrodVars enc P W' spn ns ds ps ∧ ds.length = ns.length := by
  intro ns
  induction ns with
  | nil => intro ds ps _ h _ _; cases ds <;> first | exact ⟨h, rfl⟩ | cases h
  | cons n ns ih =>
    intro ds ps ht h hlt hsp
    cases ds with
    | nil => cases h
    | cons d ds =>
      obtain ⟨g, t, cs, fuel, p, q, h1, h2, h3, h4, h5, rfl⟩ := h
      obtain ⟨i1, i2⟩ := ih (fun m hm => ht m (by simp [hm])) h5 (fun x hx => hlt x (by simp [hx])) (fun x hx => hsp x (by simp [hx]))
      obtain ⟨r1, r2⟩ := ht n (by simp) g t h1 h2
      refine ⟨⟨g, t, cs, fuel, p, q, h1, h2, ?_, ?_, i1, rfl⟩, by simp [i2]⟩
      · unfold World.var? at h3 ⊢
        rw [h1, Option.bind_some] at h3 ⊢
        have hg : g < W.heap.size := by
          split at h3
          · rename_i cs' t' z h6; exact (Array.getElem?_eq_some_iff.1 h6).1
          · cases h3
        rw [hb.block g hg]; exact h3
      · exact DataW.trod_stays (kids_book hl r1) (book_sized r1) (fun h => by cases h) ⟨r2, book_self t⟩ h4 (fun x hx => hb.same (hlt x (by simp [hx]))) (fun x hx => hsp x (by simp [hx]))

/-- likewise, where the statement speaks of package variables too: they read as they did -/
theorem law_contractV {f : FuncId} {fn : Func} {s : ChangeSpec} {n rt : Nat} {W : World} {args : Array Value} {ds gs : List (DataW H)} {before : List MemPlace}
    (hl : laidOutB P = true) (hparams : ∀ t ∈ fn.params.toList, argOk P n t = true ∧ P.readableRec t = true ∧ t < P.types.size) (hres : fn.resultTypes = #[rt]) (hrt : P.underlying rt = some .bool)
    (hv : ∀ n ∈ s.vars, ∀ g t, P.globalNamed n = some g → (P.globals[g]?).map (·.type) = some t → P.readableRec t = true ∧ t < P.types.size)
    (hfn : ∀ ds gs : List (DataW H), ds.length = fn.params.toList.length → gs.length = s.vars.length → s.fn H (ds ++ gs) = { results := [.lit (.bool true)], args := ds, vars := gs })
    (hvs : Vok W fun _ => False) (hgood : ∀ xs, ArgsC P n fn.params.toList xs → Good P f xs (.bool true))
    (hval : ∀ (j : Nat) t v, fn.params[j]? = some t → args[j]? = some v → Value.okWide P W .any base t v)
    (hW : DataW.Whole enc P fn.params.toList s.vars false W args.toList ds gs before) :
    Calls P f args W fun e W' => ∃ v, e = .returned v ∧ s.post enc P fn false true false false W args v W' := by
  have hW' := hW
  obtain ⟨p, q, hA, hV, hpq, hz, _⟩ := hW
  obtain ⟨xs, bs, k1, k2, k3⟩ := open_args (fun t ht => (hparams t ht).1) (fun j t v hj hv => hval j t v (by simpa using hj) (by simpa using hv)) hA
  have hc := (hgood xs k2).2 W (fun _ => 0) args.toList bs hvs k1 (fun _ _ => rfl) (fun b hb => absurd rfl hb) (fun _ => Nat.zero_le _)
  rw [Array.toArray_toList] at hc
  refine hc.mono ?_
  rintro e W' ⟨v, bs', ts, us, rfl, hb, hr, _⟩
  refine ⟨v, rfl, ?_⟩
  obtain rfl := hr.bool_inv
  have hlt := hW'.lt
  rw [hpq] at hlt
  have hresults : ∀ (b : Nat) (sp : Nat → Bool) (hd : Bool), DataW.TrodAll enc P W' b sp hd fn.resultTypes.toList ((Value.bool true).resultList fn.resultTypes.size) [.lit (.bool true)] [] := by
    intro b sp hd
    rw [hres]
    exact ⟨[], [], ⟨1, by simp [DataW.trod, hrt, Value.cells]⟩, rfl, rfl⟩
  have hltA : ∀ x ∈ p, x.block < W.heap.size := fun x hx => hlt x (by simp [hx])
  have hltV : ∀ x ∈ q, x.block < W.heap.size := fun x hx => hlt x (by simp [hx])
  have hargs : ∀ spn : Nat → Bool, (∀ x ∈ p, spn x.block = true) → DataW.TrodAll enc P W' 0 spn true fn.params.toList args.toList ds p :=
    fun spn hsp => trodAll_stays hl hb spn (fun t ht => (hparams t ht).2) hA hltA hsp
  have hvars : ∀ spn : Nat → Bool, (∀ x ∈ q, spn x.block = true) → DataW.TrodVars enc P W' spn s.vars gs q ∧ gs.length = s.vars.length :=
    fun spn hsp => trodVars_stays hl hb spn hv hV hltV hsp
  have hfd := hfn ds gs k3 (hvars (fun _ => true) (fun _ _ => rfl)).2
  unfold ChangeSpec.post
  refine ⟨ds, gs, before, [], p, q, hW', ?_, ?_, ?_, hb.frame _, fun h => by cases h⟩
  · rw [hfd]; exact hresults _ _ _
  · rw [hfd]; exact hargs _ (fun x hx => by simpa using hltA x hx)
  · rw [hfd]; exact (hvars _ (fun x hx => by simpa using hltV x hx)).1

end
end Go.Cx
