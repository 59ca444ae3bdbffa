/- Stores into the rows of a slice of the call's own. No condition; plain lemmas. -/
import Derived.Test.YtoeenpcilfhjbaaDoorNApp
namespace Go.Cx
set_option linter.unusedVariables false
set_option linter.unusedSimpArgs false
open Go.RowKit

section
variable {P : Program} {Γ : Ctx} {Q : Exit → St → Prop} {st : St} {κ : Nat → Option Value} {Θ : Nat → Nat} {a : Act} {w : World} {all : Array Oper} {rest : List Oper}

theorem kill_other {H : List Ob} {ms : List Nat} {j : Nat} (h : j ∉ ms) : (kill H ms)[j]? = H[j]? := by
  induction ms generalizing H with
  | nil => rfl
  | cons m ms ih =>
    simp only [List.mem_cons, not_or] at h
    simp only [kill]
    rw [ih h.2, List.getElem?_set_ne (fun e => h.1 e.symm)]

def RK.after (k : RK) (b : Bool) : RK := match k with
  | .uq => rkOf b
  | .mv _ => .sh
  | .ho _ _ => rkOf b
  | k => k
theorem RK.after_mvB (k : RK) (b : Bool) (e : TypeId) (sz : Nat) (rows : List (List D)) : (Ob.row (k.after b) e sz rows).mvB = false := by cases k <;> cases b <;> rfl

theorem AO_storeRow {o : Oper} {T id i sz off e : Nat} {k0 : RK} {x y : Operand} {rows : List (List D)} {row ds es : List D} {ms : List Nat} (hop : o.op = .store T x y) (hd : o.dst = none) (hg : o.guard = none)
    (hx : st.ev x = .op id i sz off) (hH : st.H[id]? = some (.row k0 e sz rows)) (hk0 : k0.opn = true) (hrow : rows[i]? = some row) (hc : (st.ev y).cellsOf = some ds) (habs : absL st.H ds = some (es, ms)) (hnd : ms.Nodup) (hid : id ∉ ms)
    (hT : tinf P T = true) (hl : ds.length = tsz P T) (hfit : off + ds.length ≤ sz)
    (h : AO P Γ all rest Q ⟨st.σ, (kill st.H ms).set id (.row (k0.after (uqL st.H e off ds && fok e sz)) e sz (rows.set i (row.take off ++ es ++ row.drop (off + ds.length))))⟩) : AO P Γ all (o :: rest) Q st := by
  intro κ Θ0 a w hs0
  obtain ⟨b1, r1, _⟩ := hs0.ev x
  obtain ⟨b20, r2, hz20⟩ := hs0.ev y
  rw [hx] at r1
  obtain ⟨g, o0, len, cap, hk, hv⟩ := r1.op_inv
  have hcv := cells_rd hs0.kone r2 hc
  obtain ⟨ρ0, hu0⟩ := hs0.uniq
  obtain ⟨Θ, ρ, hs, hu, hm1, hz1, hr1⟩ := Sim.meltAllT ms hs0 hu0 hnd (absL_mem habs)
  obtain ⟨b2, hcp, hz2, hq2⟩ := abs_rd (H := st.H) (ρ := ρ) habs hnd hcv (fun b hb => hz1 b (hz20 b hb)) hm1 e off
  have hH1 : (kill st.H ms)[id]? = some (.row k0 e sz rows) := by rw [kill_other hid]; exact hH
  obtain ⟨bs, cs, hA⟩ := appS_acc hs hu hk hH1 hk0
  have hrl := hA.rl
  have hown := hA.own
  have ho0 := ownsRow_zero hown
  subst ho0
  rw [Nat.zero_add] at hv
  have hrs := hA.rd
  have hsz : 0 < sz := by
    obtain ⟨hsz, _⟩ := hs.ob id _ hH1
    exact hsz
  rcases hown.2 with ⟨hnil, _⟩ | ⟨g', cap2, cur, hkv, hb, hgg, hnc, hcm, hcs, htake⟩
  · cases hnil
  · cases hkv
    have hΘg := hA.top g (by simp [Value.ownBlock])
    have hl1 := hcv.length
    have hle : es.length = ds.length := by rw [← hcp.length, hl1]
    have hilt : i < rows.length := (List.getElem?_eq_some_iff.1 hrow).1
    have hile : (i + 1) * sz ≤ rows.length * sz := Nat.mul_le_mul_right _ hilt
    have hncs : rows.length * sz ≤ cap * sz := Nat.mul_le_mul_right _ hnc
    rw [Nat.add_mul, Nat.one_mul] at hile
    have hsz2 : (a.eval y).cells.size = tsz P T := by rw [← hl, ← hl1]; simp
    have hsz3 : (a.eval y).cells.size = ds.length := by rw [← hl1]; simp
    have hst := run_storeAt (P := P) (T := T) (off := i * sz + off) hgg hsz2 (Option.isSome_iff_exists.1 hT) (by omega) hcv.one
    have k := Keeps.setRow hs (g := g) (cs := (cur.toList.take (i * sz + off) ++ (a.eval y).cells.toList ++ cur.toList.drop (i * sz + off + (a.eval y).cells.toList.length)).toArray) (tag := id + 2) (by omega) hΘg
    refine wpList_plain hg fun K hK => ?_
    unfold Oper.wp
    have hrun : (execOp a.eval o).run P w = .ok .skip (w.setRow g (cur.toList.take (i * sz + off) ++ (a.eval y).cells.toList ++ cur.toList.drop (i * sz + off + (a.eval y).cells.toList.length)).toArray) := by
      simp only [execOp, hop, hv]
      simp [hst]
    rw [hrun, Oper.upon_skip, hd]
    have hfl := flatten_len hrl
    have e0 : rows.flatten = rows.flatten.take (i * sz + off) ++ ((rows.flatten.drop (i * sz + off)).take ds.length ++ (rows.flatten.drop (i * sz + off)).drop ds.length) := by rw [List.take_append_drop, List.take_append_drop]
    rw [e0] at hrs
    obtain ⟨v1, v2, c1, c2, hv12, hbs, k1, k2⟩ := hrs.split
    obtain ⟨v3, v4, c3, c4, rfl, rfl, k3, k4⟩ := k2.split
    have l1 : v1.length = i * sz + off := by rw [k1.length, List.length_take]; omega
    have l3 : v3.length = ds.length := by rw [k3.length, List.length_take, List.length_drop]; omega
    rw [List.drop_drop] at k4
    have hnew := (k1.app hcp).app k4
    have hz' : ∀ b ∈ ((c1 ++ b2) ++ c4), Θ b = 0 := by
      intro b hb
      simp only [List.mem_append] at hb
      rcases hb with (hb | hb) | hb
      · exact hA.zero b (by rw [hbs]; simp [hb])
      · exact hz2 b hb
      · exact hA.zero b (by rw [hbs]; simp [hb])
    obtain ⟨n1, n2⟩ := Rds.over k hnew hz'
    have hfs := flatten_set (ds := es) (off := off) hrl hrow (by omega)
    rw [hle] at hfs
    rw [← hfs] at n1
    have hclen : cs.length = rows.length * sz := hown.1
    have hcut : cur.toList = v1 ++ (v3 ++ (v4 ++ cur.toList.drop (rows.length * sz))) := by
      have : cur.toList = cs ++ cur.toList.drop (rows.length * sz) := by rw [← htake, List.take_append_drop]
      rw [hv12] at this
      simpa using this
    have t1 : cur.toList.take (i * sz + off) = v1 := by rw [hcut]; exact List.take_left' l1
    have t2 : cur.toList.drop (i * sz + off + (a.eval y).cells.toList.length) = v4 ++ cur.toList.drop (rows.length * sz) := by
      rw [hl1, ← List.drop_drop]
      conv => lhs; rw [hcut]
      rw [List.drop_left' l1, List.drop_left' l3]
    have hl4 : (v1 ++ (a.eval y).cells.toList ++ v4).length = rows.length * sz := by
      have := hclen
      rw [hv12] at this
      simp only [List.length_append] at this ⊢
      omega
    have hown' : (w.setRow g (cur.toList.take (i * sz + off) ++ (a.eval y).cells.toList ++ cur.toList.drop (i * sz + off + (a.eval y).cells.toList.length)).toArray).ownsRow 0 e sz (.slice (some ⟨g, 0, none⟩) rows.length cap)
        (rows.set i (row.take off ++ es ++ row.drop (off + ds.length))).length (v1 ++ (a.eval y).cells.toList ++ v4) := by
      refine ⟨by simpa using hl4, .inr ⟨g, cap, _, by simp, hb, setRow_heap w g cur _ e _ hgg, by simpa using hnc, hcm, ?_, ?_⟩⟩
      · simp only [List.size_toArray, List.length_append, List.length_take, List.length_drop, Array.length_toList]
        omega
      · rw [t1, t2]
        simp only [List.length_set]
        rw [← List.append_assoc]
        exact List.take_left' hl4
    have hrl' : ∀ r ∈ rows.set i (row.take off ++ es ++ row.drop (off + ds.length)), r.length = sz := by
      intro r hr
      rcases List.mem_or_eq_of_mem_set hr with hr | rfl
      · exact hrl r hr
      · have := hrl row (List.mem_of_getElem? hrow)
        simp; omega
    have htop : ∀ g2, (Value.slice (some ⟨g, 0, none⟩) rows.length cap).ownBlock = some g2 → Θ g2 = id + 2 := by
      intro g2 hg2
      simp only [Value.ownBlock, Option.some.injEq] at hg2
      subst hg2
      exact hΘg
    refine hK _ _ (h _ _ _ _ (hs.put ms set_key (fun _ _ h => h) (fun i hi => hs.kout i (by simpa using hi)) hs.kone k hs.mine ?_ hu ?_ ?_ (RK.after_mvB _ _ _ _ _)))
    · refine ⟨hsz, hrl', _, _, _, hk, hown', n1, htop, ?_⟩
      cases k0 with
      | cl => simp [RK.opn] at hk0
      | sh => exact n2
      | mv n => exact n2
      | ho p n => simp only [RK.after]; cases (uqL st.H e off ds && fok e sz) <;> exact n2
      | uq => simp only [RK.after]; cases (uqL st.H e off ds && fok e sz) <;> exact n2
    · intro m hm x _ hH'
      rcases kill_get hH' with h | ⟨h, _⟩
      · subst h; rfl
      · exact absurd hm h
    · intro e' sz' rows' he
      cases k0
      case cl => simp [RK.opn] at hk0
      case sh => simp [RK.after] at he
      case mv n => simp [RK.after] at he
      all_goals
        simp only [RK.after] at he
        cases hq : (uqL st.H e off ds && fok e sz) with
        | false => rw [hq] at he; simp [rkOf] at he
        | true =>
          rw [hq] at he
          simp only [rkOf, Ob.row.injEq, true_and] at he
          obtain ⟨rfl, rfl, rfl⟩ := he
          rw [Bool.and_eq_true] at hq
          obtain ⟨q1, q2, q7⟩ := hq2 hq.1
          obtain ⟨p1, p2⟩ := hA.uq rfl
          have hA7 := hA.ful rfl
          rw [e0] at hA7
          obtain ⟨x1, x2, y1, y2, ex, ey, s1, s2⟩ := hA7.split
          obtain ⟨x3, x4, y3, y4, rfl, rfl, s3, s4⟩ := s2.split
          rw [hv12] at ex
          obtain ⟨rfl, ex2⟩ := List.append_inj ex (by rw [s1.length, k1.length])
          obtain ⟨rfl, rfl⟩ := List.append_inj ex2 (by rw [s3.length, k3.length])
          have t1' : (rows.flatten.take (i * sz + off)).length = i * sz + off := by rw [← k1.length]; exact l1
          have t3' : ((rows.flatten.drop (i * sz + off)).take ds.length).length = ds.length := by rw [← k3.length]; exact l3
          rw [List.drop_drop] at s4
          have q8 := q7.rows (n := i) hq.2
          have hF := (s1.app (by rw [t1']; rwa [show 0 + (i * sz + off) = off + i * sz by omega])).app (us := v4) (es := rows.flatten.drop (i * sz + off + ds.length)) (cs := y4) (by rw [List.length_append, t1', hle]; rwa [t1', t3', Nat.add_assoc] at s4)
          rw [← hfs] at hF
          have hz7 : ∀ b ∈ ((y1 ++ b2) ++ y4), Θ b = 0 := by
            intro b hb
            simp only [List.mem_append] at hb
            rcases hb with (hb | hb) | hb
            · exact hA.zero b (by rw [ey]; simp [hb])
            · exact hz2 b hb
            · exact hA.zero b (by rw [ey]; simp [hb])
          refine ⟨_, _, _, hk, hown', hF.over k hz7, ?_, fun b hb => ?_⟩
          all_goals rw [ey] at p1 p2
          all_goals obtain ⟨m1, m2, m3⟩ := List.nodup_append.1 p1
          all_goals obtain ⟨m4, m5, m6⟩ := List.nodup_append.1 m2
          · refine List.nodup_append.2 ⟨List.nodup_append.2 ⟨m1, q1, fun x hx y hy e => ?_⟩, m5, fun x hx y hy e => ?_⟩
            · subst e
              obtain ⟨m, hm, he⟩ := q2 x hy
              have := p2 x (by simp [hx])
              exact hid (by have : id = m := by omega
                            rw [this]; exact hm)
            · subst e
              rcases List.mem_append.1 hx with hx | hx
              · exact m3 x hx x (by simp [hy]) rfl
              · obtain ⟨m, hm, he⟩ := q2 x hx
                have := p2 x (by simp [hy])
                exact hid (by have : id = m := by omega
                              rw [this]; exact hm)
          · simp only [List.mem_append] at hb
            rcases hb with (hb | hb) | hb
            · exact .inl (p2 b (by simp [hb]))
            · exact .inr (q2 b hb)
            · exact .inl (p2 b (by simp [hb]))
end
end Go.Cx
