/- Engine, part 25: what the evaluator finds of regions that draw their order. -/
import Derived.Test.YthbbncgbbkcdgaaGreatDoorE24
namespace Go.Eng
open Go

section
variable {P : Program} {call : CallF} {ops : Array Oper} {len : Nat}

/-- One operation's way in the walk. -/
def StepD (P : Program) (ops : Array Oper) (len : Nat) (T : Nat → Tm) (W : Nat → M) (R Wr : Nat → Nat) (v : Nat → AV) (j : Nat) : Prop :=
  ∃ o, ops[j]? = some o ∧ TOk (T j) len ∧ Grow (W j) (W (j + 1)) ∧ T (j + 1) = putT len (T j) o.dst (v j) ∧
    ((wantedT ops (T j) o = some false ∧ v j = undefA ∧ W (j + 1) = W j ∧ R j = 0 ∧ Wr j = 0) ∨
     (wantedT ops (T j) o = some true ∧ ∃ m', OpOk P o (lst (T j) len) (W j).zero (v j) m' ∧ W (j + 1) = (W j).plus m' ∧ R j = mask (W j).n m'.n m'.rd ∧ Wr j = mask (W j).n m'.n m'.wr))

theorem disj_zero_l {r w : Nat} : disj 0 0 r w := fun x => ⟨fun h => by simp at h, fun _ => by simp⟩
theorem disj_zero_r {r w : Nat} : disj r w 0 0 := fun x => ⟨fun _ => by simp, fun h => by simp at h⟩

theorem draw_walk (hcall : CallsOk P call) (hlen : len ≤ 500) (before : Array Nat) : ∀ (l : List Oper) (j : Nat) (hs : List Had) (t : Tm) (m : M) (t' : Tm) (m' : M), ops.toList.drop j = l → TOk t len → Dom m →
    drawS P call ops before len l j hs t m = some (t', m') →
    ∃ (T : Nat → Tm) (W : Nat → M) (R Wr : Nat → Nat) (v : Nat → AV), T j = t ∧ W j = m ∧ T (j + l.length) = t' ∧ W (j + l.length) = m' ∧
      (∀ i, j ≤ i → i < j + l.length → StepD P ops len T W R Wr v i) ∧
      (∀ i i', j ≤ i → i < i' → i' < j + l.length → (before.getD i' 0).testBit i = false → disj (R i) (Wr i) (R i') (Wr i')) ∧
      (∀ x ∈ hs, ∀ i', j ≤ i' → i' < j + l.length → (before.getD i' 0).testBit x.i = false → disj x.rd x.wr (R i') (Wr i'))
  | [], j, hs, t, m, t', m', _, ht, hd, h => by
    rw [drawS_nil] at h
    cases h
    exact ⟨fun _ => t, fun _ => m, fun _ => 0, fun _ => 0, fun _ => undefA, rfl, rfl, rfl, rfl, fun i h1 h2 => by simp at h2; omega, fun i i' h1 h2 h3 => by simp at h3; omega, fun x _ i' h1 h2 => by simp at h2; omega⟩
  | o :: l, j, hs, t, m, t', m', hl, ht, hd, h => by
    obtain ⟨ho, hl'⟩ := drop_at hl
    rw [Array.getElem?_toList] at ho
    rw [drawS_cons] at h
    -- joining one step and the rest
    have join : ∀ (v0 : AV) (m1 : M) (r0 w0 : Nat) (hs' : List Had), Grow m m1 →
        ((wantedT ops t o = some false ∧ v0 = undefA ∧ m1 = m ∧ r0 = 0 ∧ w0 = 0) ∨ (wantedT ops t o = some true ∧ ∃ m2, OpOk P o (lst t len) m.zero v0 m2 ∧ m1 = m.plus m2 ∧ r0 = mask m.n m2.n m2.rd ∧ w0 = mask m.n m2.n m2.wr)) →
        ((r0 = 0 ∧ w0 = 0 ∧ hs' = hs) ∨ (hs' = ⟨j, r0, w0⟩ :: hs ∧ ∀ x ∈ hs, (before.getD j 0).testBit x.i = false → disj x.rd x.wr r0 w0)) →
        drawS P call ops before len l (j + 1) hs' (putT len t o.dst v0) m1 = some (t', m') →
        ∃ (T : Nat → Tm) (W : Nat → M) (R Wr : Nat → Nat) (v : Nat → AV), T j = t ∧ W j = m ∧ T (j + (o :: l).length) = t' ∧ W (j + (o :: l).length) = m' ∧
          (∀ i, j ≤ i → i < j + (o :: l).length → StepD P ops len T W R Wr v i) ∧
          (∀ i i', j ≤ i → i < i' → i' < j + (o :: l).length → (before.getD i' 0).testBit i = false → disj (R i) (Wr i) (R i') (Wr i')) ∧
          (∀ x ∈ hs, ∀ i', j ≤ i' → i' < j + (o :: l).length → (before.getD i' 0).testBit x.i = false → disj x.rd x.wr (R i') (Wr i')) := by
      intro v0 m1 r0 w0 hs' g hstep hhs hrest
      obtain ⟨T, W, R, Wr, v, e1, e2, e3, e4, e5, e6, e7⟩ := draw_walk hcall hlen before l (j + 1) hs' _ m1 t' m' hl' (put_eq ht hlen).2 g.dom hrest
      have hlen1 : j + (o :: l).length = j + 1 + l.length := by simp; omega
      rw [hlen1]
      refine ⟨fun i => if i = j then t else T i, fun i => if i = j then m else W i, fun i => if i = j then r0 else R i, fun i => if i = j then w0 else Wr i, fun i => if i = j then v0 else v i, by simp, by simp, ?_, ?_, ?_, ?_, ?_⟩
      · have : j + 1 + l.length ≠ j := by omega
        simp only [this, if_false]; exact e3
      · have : j + 1 + l.length ≠ j := by omega
        simp only [this, if_false]; exact e4
      · intro i h1 h2
        by_cases hi : i = j
        · subst hi
          have hne : i + 1 ≠ i := by omega
          refine ⟨o, ho, by simp only [if_true]; exact ht, by simp only [if_true, hne, if_false, e2]; exact g, by simp only [if_true, hne, if_false, e1], ?_⟩
          simp only [if_true, hne, if_false, e2]
          exact hstep
        · have hne : i + 1 ≠ j := by omega
          have := e5 i (by omega) h2
          unfold StepD at this ⊢
          simp only [hi, hne, if_false]
          exact this
      · intro i i' h1 h2 h3 h4
        have hi' : i' ≠ j := by omega
        by_cases hi : i = j
        · subst hi
          simp only [if_true, hi', if_false]
          rcases hhs with ⟨rfl, rfl, _⟩ | ⟨rfl, _⟩
          · exact disj_zero_l
          · exact e7 ⟨i, r0, w0⟩ (List.mem_cons_self ..) i' (by omega) h3 h4
        · simp only [hi, hi', if_false]
          exact e6 i i' (by omega) h2 h3 h4
      · intro x hx i' h1 h2 h3
        by_cases hi : i' = j
        · subst hi
          simp only [if_true]
          rcases hhs with ⟨rfl, rfl, _⟩ | ⟨rfl, hh⟩
          · exact disj_zero_r
          · exact hh x hx h3
        · simp only [hi, if_false]
          refine e7 x ?_ i' (by omega) h2 h3
          rcases hhs with ⟨_, _, rfl⟩ | ⟨rfl, _⟩
          · exact hx
          · exact List.mem_cons_of_mem _ hx
    split at h
    · rename_i hw
      split at h
      case h_2 => cases h
      rename_i v0 m2 hop
      split at h
      case h_2 => cases h
      rename_i hs' hdr
      obtain ⟨h, _⟩ := forced_eq h
      have ok := oper_ok hcall ht (m := m.zero) hd hop
      exact join v0 (m.plus m2) _ _ hs' ok.1.plus (.inr ⟨hw, m2, ok, rfl, rfl, rfl⟩) (drawn_some ok.1.n hdr) h
    · rename_i hw
      exact join undefA m 0 0 hs (Grow.refl hd) (.inl ⟨hw, rfl, rfl, rfl, rfl⟩) (.inl ⟨rfl, rfl, rfl⟩) h
    · cases h

/-! ### What is to be so of the text -/

theorem loose_ok {before j : Nat} {oj : Oper} : ∀ {l : List Oper} {i : Nat}, loose ops before j oj l i = true → ops.toList.drop i = l → ∀ k oi, i ≤ k → k < j → ops[k]? = some oi → before.testBit k = false → oi.apart ops oj = true
  | [], i, _, hl, k, oi, h1, h2, hk, _ => by
    rw [← Array.getElem?_toList] at hk
    have : ops.toList.length ≤ i := by
      have := congrArg List.length hl
      simp at this ⊢; omega
    rw [List.getElem?_eq_none (by omega)] at hk; cases hk
  | o :: l, i, h, hl, k, oi, h1, h2, hk, hb => by
    obtain ⟨ho, hl'⟩ := drop_at hl
    rw [Array.getElem?_toList] at ho
    unfold loose at h
    split at h
    · rename_i hlt
      simp only [Bool.and_eq_true, Bool.or_eq_true] at h
      by_cases e : i = k
      · subst e
        rw [ho] at hk; cases hk
        rcases h.1 with h | h
        · rw [hb] at h; cases h
        · exact h
      · exact loose_ok h.2 hl' k oi (by omega) h2 hk hb
    · rename_i hlt
      have : Nat.blt i j = true := Nat.ble_eq_true_of_le (by omega : i + 1 ≤ j)
      rw [this] at hlt; cases hlt

theorem statL_ok {before : Array Nat} : ∀ {l : List Oper} {j : Nat}, statL ops before l j = true → ops.toList.drop j = l → ∀ k o, j ≤ k → ops[k]? = some o →
    (∀ e ∈ o.after, Region.binds .any e = true → e.on < k) ∧ (∀ i oi, i < k → ops[i]? = some oi → (before.getD k 0).testBit i = false → oi.apart ops o = true)
  | [], j, _, hl, k, o, h1, hk => by
    rw [← Array.getElem?_toList] at hk
    have : ops.toList.length ≤ j := by
      have := congrArg List.length hl
      simp at this ⊢; omega
    rw [List.getElem?_eq_none (by omega)] at hk; cases hk
  | o' :: l, j, h, hl, k, o, h1, hk => by
    obtain ⟨ho, hl'⟩ := drop_at hl
    rw [Array.getElem?_toList] at ho
    unfold statL at h
    simp only [Bool.and_eq_true] at h
    by_cases e : j = k
    · subst e
      rw [ho] at hk; cases hk
      refine ⟨fun e he hb => ?_, fun i oi hi hoi hbi => loose_ok h.1.2 (by simp) i oi (Nat.zero_le _) hi hoi hbi⟩
      have := List.all_eq_true.1 h.1.1 e (Array.mem_toList_iff.2 he)
      simp only [hb, Bool.not_true, Bool.false_or] at this
      exact blt_lt this
    · exact statL_ok h.2 hl' k o (by omega) hk

theorem draw_ok (hcall : CallsOk P call) (hlen : len ≤ 500) (hm : P.follows .mixedOrders = true) {t : Tm} {m : M} {t' : Tm} {m' : M} (hstat : statOk ops = true) (ht : TOk t len) (hd : Dom m)
    (h : drawS P call ops (Region.before ops) len ops.toList 0 [] t m = some (t', m')) :
    Grow m m' ∧ TOk t' len ∧ ∀ F, Cov F m.n m'.n m'.rd → Obs m' → ∀ id, Ev P (.region id ops true) (lst t len) (sub F m.h.get) m.n .normal (lst t' len) (sub F m'.h.get) m'.n := by
  obtain ⟨T, W, R, Wr, v, e1, e2, e3, e4, e5, e6, _⟩ := draw_walk hcall hlen _ _ 0 [] t m t' m' (by simp) ht hd h
  rw [Nat.zero_add] at e3 e4 e5 e6
  have hsz : ops.toList.length = ops.size := by simp
  rw [hsz] at e3 e4 e5 e6
  have step := fun j (hj : j < ops.size) => e5 j (Nat.zero_le _) hj
  have domw : ∀ j, j ≤ ops.size → Dom (W j) := by
    intro j hj
    cases j with
    | zero => rw [e2]; exact hd
    | succ j => obtain ⟨_, _, _, g, _⟩ := step j (by omega); exact g.dom
  have gr : ∀ i j, i ≤ j → j ≤ ops.size → Grow (W i) (W j) := by
    intro i j hij hj
    induction j with
    | zero => have : i = 0 := by omega
              subst this; exact Grow.refl (domw 0 hj)
    | succ j ih =>
      by_cases e : i = j + 1
      · subst e; exact Grow.refl (domw _ hj)
      · obtain ⟨_, _, _, g, _⟩ := step j (by omega)
        exact (ih (by omega) (by omega)).trans g
  have tk : ∀ j, j ≤ ops.size → TOk (T j) len := by
    intro j hj
    cases j with
    | zero => rw [e1]; exact ht
    | succ j =>
      obtain ⟨_, _, h1, _, h2, _⟩ := step j (by omega)
      rw [h2]; exact (put_eq h1 hlen).2
  have gall : Grow m m' := by have := gr 0 ops.size (Nat.zero_le _) (Nat.le_refl _); rwa [e2, e4] at this
  refine ⟨gall, by have := tk ops.size (Nat.le_refl _); rwa [e3] at this, fun F c ob id => ?_⟩
  have lx : Lex P ops (fun j => lst (T j) len) (fun j => sub F (W j).h.get) (fun j => (W j).n) v (fun j x => (R j).testBit x) (fun j x => (Wr j).testBit x) := by
    refine ⟨fun j o ho => ?_, fun i j oi oj hij hoi hoj hord => ?_, fun j o ho => ?_⟩
    · have hj : j < ops.size := by
        by_cases hh : j < ops.size
        · exact hh
        · rw [Array.getElem?_eq_none (by omega)] at ho; cases ho
      obtain ⟨o', ho', htk, g, hput, hst⟩ := step j hj
      rw [ho] at ho'; cases ho'
      refine ⟨by simp only [hput]; exact (put_eq htk hlen).1, ?_⟩
      rcases hst with ⟨hw, hv, hW, hR, hWr⟩ | ⟨hw, m2, ok, hW, hR, hWr⟩
      · exact .inl ⟨wanted_eq htk hw, hv, by simp only [hW], by simp only [hW], fun x => by simp only [hWr, Nat.zero_testBit]⟩
      · refine .inr ⟨wanted_eq htk hw, ?_⟩
        have hn : (W j).n ≤ m2.n := ok.1.n
        have eW : (W (j + 1)).h = m2.h := by rw [hW]; rfl
        have eN : (W (j + 1)).n = m2.n := by rw [hW]; rfl
        have tR : ∀ x, (R j).testBit x = ((decide (x < (W j).n) && m2.rd.testBit x) || (decide ((W j).n ≤ x) && decide (x < m2.n))) := fun x => by rw [hR, testBit_mask hn]
        have tW : ∀ x, (Wr j).testBit x = ((decide (x < (W j).n) && m2.wr.testBit x) || (decide ((W j).n ≤ x) && decide (x < m2.n))) := fun x => by rw [hWr, testBit_mask hn]
        have gl := gr (j + 1) ops.size (by omega) (Nat.le_refl _)
        have gf := gr 0 j (Nat.zero_le _) (by omega)
        rw [e4] at gl
        rw [e2] at gf
        have RF : ∀ x, (R j).testBit x = true → F x = true := by
          intro x hx
          rw [tR] at hx
          simp only [Bool.or_eq_true, Bool.and_eq_true, decide_eq_true_eq] at hx
          by_cases hxn : x < m.n
          · refine c.2 x hxn (gl.rd x ?_)
            rw [hW]
            show (Nat.lor _ _).testBit x = true
            rw [testBit_lor]
            rcases hx with hx | hx
            · rw [hx.2, Bool.or_true]
            · have := gf.n; omega
          · refine c.1 x (by omega) ?_
            have := gl.n
            rw [eN] at this
            rcases hx with hx | hx <;> omega
        have obW : Obs m2 := by
          have : Obs (W (j + 1)) := gl.ob ob
          rw [hW] at this
          exact this
        have cov : Cov (fun x => (R j).testBit x) (W j).zero.n m2.n m2.rd := by
          refine ⟨fun x h1 h2 => ?_, fun x h1 h2 => ?_⟩
          · have h1 : (W j).n ≤ x := h1
            simp only [tR, h1, h2, decide_true, Bool.and_self, Bool.or_true]
          · have h1 : x < (W j).n := h1
            simp only [tR, h1, h2, decide_true, Bool.and_self, Bool.true_or]
        have hev := ok.2 _ cov obW
        have hsub : ∀ (h : Heap), sub (fun x => (R j).testBit x) (sub F h) = sub (fun x => (R j).testBit x) h := by
          intro h
          funext x
          simp only [sub]
          by_cases hx : (R j).testBit x = true
          · simp only [hx, if_true, RF x hx]
          · simp only [hx, Bool.false_eq_true, if_false]
        have same : ∀ x, x < (W j).n → m2.wr.testBit x = false → m2.h.get x = (W j).h.get x := fun x h1 h2 => ok.1.chg x h1 h2
        have wsome : ∀ x, x < (W j).n → m2.wr.testBit x = true → ((W j).h.get x).isSome = true := by
          intro x h1 h2
          rcases ok.1.some x h1 h2 with h3 | h3
          · simp [M.zero] at h3
          · exact h3
        have wrd : ∀ x, x < (W j).n → m2.wr.testBit x = true → m2.rd.testBit x = true := by
          intro x h1 h2
          rcases ok.1.rdwr x h1 h2 with h3 | h3
          · simp [M.zero] at h3
          · exact h3
        have dm := domw j (by omega)
        refine ⟨⟨sub (fun x => (R j).testBit x) m2.h.get, ?_, ?_⟩, ?_, ?_, ?_⟩
        · show OpEv P o _ (sub _ (sub F (W j).h.get)) (W j).n (v j) _ (W (j + 1)).n
          rw [hsub, eN]
          exact hev
        · show sub F (W (j + 1)).h.get = weave (sub _ (sub F (W j).h.get)) (sub F (W j).h.get) _ (W j).n (W (j + 1)).n
          rw [hsub, eW, eN]
          funext x
          simp only [weave]
          by_cases hx : (sub (fun x => (R j).testBit x) (W j).h.get x).isSome = true
          · have hr : (R j).testBit x = true := by
              by_cases hr : (R j).testBit x = true
              · exact hr
              · simp [sub, hr] at hx
            rw [hx, Bool.true_or, if_pos rfl]
            simp only [sub, hr, RF x hr]
          · by_cases hnew : (W j).n ≤ x ∧ x < m2.n
            · have hr : (R j).testBit x = true := by simp [tR, hnew]
              simp only [hnew, decide_true, Bool.and_self, Bool.or_true, if_true, sub, hr, RF x hr]
            · have hc : ((sub (fun x => (R j).testBit x) (W j).h.get x).isSome || (decide ((W j).n ≤ x) && decide (x < m2.n))) = false := by
                rw [Bool.or_eq_false_iff]
                refine ⟨by simpa using hx, ?_⟩
                rw [Bool.and_eq_false_iff]
                by_cases h1 : (W j).n ≤ x
                · exact .inr (by simp; omega)
                · exact .inl (by simp; omega)
              rw [hc]
              simp only [Bool.false_eq_true, if_false, sub]
              by_cases hF : F x = true
              · simp only [hF, if_true]
                by_cases h1 : x < (W j).n
                · cases hw2 : m2.wr.testBit x with
                  | false => exact same x h1 hw2
                  | true =>
                    exfalso
                    apply hx
                    have hr : (R j).testBit x = true := by simp [tR, h1, wrd x h1 hw2]
                    simp only [sub, hr, if_true]
                    exact wsome x h1 hw2
                · rw [dm x (by omega), ok.1.dom x (by omega)]
              · simp only [hF, Bool.false_eq_true, if_false]
        · intro x hx
          rw [tW, Bool.or_eq_false_iff] at hx
          show sub F (W (j + 1)).h.get x = sub F (W j).h.get x
          simp only [sub, eW]
          by_cases hF : F x = true
          · simp only [hF, if_true]
            by_cases h1 : x < (W j).n
            · simp only [h1, decide_true, Bool.true_and] at hx
              exact same x h1 hx.1
            · have h2 : ¬ x < m2.n := by
                intro h2
                have := hx.2
                simp [h2] at this
                omega
              rw [dm x (by omega), ok.1.dom x (by omega)]
          · simp only [hF, Bool.false_eq_true, if_false]
        · intro x hx
          rw [tW] at hx
          simp only [Bool.or_eq_true, Bool.and_eq_true, decide_eq_true_eq] at hx
          rcases hx with hx | hx
          · refine .inl ?_
            have hr : (R j).testBit x = true := by simp [tR, hx.1, wrd x hx.1 hx.2]
            show (sub _ (sub F (W j).h.get) x).isSome = true
            rw [hsub]
            simp only [sub, hr, if_true]
            exact wsome x hx.1 hx.2
          · exact .inr ⟨hx.1, by rw [eN]; exact hx.2⟩
        · intro x h1 h2
          rw [eN] at h2
          simp [tW, h1, h2]
    · have hj : j < ops.size := by
        by_cases hh : j < ops.size
        · exact hh
        · rw [Array.getElem?_eq_none (by omega)] at hoj; cases hoj
      refine ⟨(statL_ok hstat (by simp) j oj (Nat.zero_le _) hoj).2 i oi hij hoi hord, fun x => ?_⟩
      exact e6 i j (Nat.zero_le _) hij hj hord x
    · exact (statL_ok hstat (by simp) j o (Nat.zero_le _) ho).1
  have := lx.ev hm (id := id)
  simp only [e1, e2, e3, e4] at this
  exact this

end
end Go.Eng
