/- Engine, part 26: what the evaluator finds of code and of calls holds. -/
import Derived.Test.YthbbncgbbkcdgaaGreatDoorE25
namespace Go.Eng
open Go

section
variable {P : Program} {call : CallF} {len lf : Nat}

def CodeOk (P : Program) (len : Nat) (c : Code) (f : CodeR) : Prop := ∀ (t : Tm) (m : M) (e : Exit) (t' : Tm) (m' : M), TOk t len → Dom m → f t m = some (e, t', m') →
    Grow m m' ∧ TOk t' len ∧ ∀ F, Cov F m.n m'.n m'.rd → Obs m' → Ev P c (lst t len) (sub F m.h.get) m.n e (lst t' len) (sub F m'.h.get) m'.n

theorem region_ok (hcall : CallsOk P call) (hlen : len ≤ 500) (hm : P.follows .mixedOrders = true) (id : Nat) (ops : Array Oper) (draw : Bool) : CodeOk P len (.region id ops draw) (regionS P call len ops draw) := by
  intro t m e t' m' ht hd h
  unfold regionS at h
  cases draw with
  | false =>
    simp only at h
    split at h
    case h_2 => cases h
    rename_i t1 m1 hop
    cases h
    obtain ⟨g, ht', hev⟩ := ops_ok hcall hlen ops.toList 0 t m _ _ (by simp) ht hd hop
    refine ⟨g, ht', fun F c ob => EvOps.region ?_⟩
    have := hev F c ob
    rwa [show ops.toList.length = ops.size by simp, ← List.range_eq_range'] at this
  | true =>
    simp only at h
    split at h
    case h_2 => cases h
    rename_i hs
    split at h
    case h_2 => cases h
    rename_i t1 m1 hop
    cases h
    obtain ⟨g, ht', hev⟩ := draw_ok hcall hlen hm hs ht hd hop
    exact ⟨g, ht', fun F c ob => hev F c ob id⟩

theorem seq_ok {x y : Code} {f g : CodeR} (hf : CodeOk P len x f) (hg : CodeOk P len y g) : CodeOk P len (.seq x y) (seqS f g) := by
  intro t m e t' m' ht hd h
  unfold seqS at h
  split at h
  · rename_i t1 m1 h1
    obtain ⟨g1, ht1, e1⟩ := hf t m _ _ _ ht hd h1
    obtain ⟨g2, ht2, e2⟩ := hg t1 m1 _ _ _ ht1 g1.dom h
    exact ⟨g1.trans g2, ht2, fun F c ob => (e1 F (c.fst g1 g2) (g2.ob ob)).seq (e2 F (c.snd g1 g2) ob)⟩
  · rename_i hne
    obtain ⟨g1, ht1, e1⟩ := hf t m _ _ _ ht hd h
    refine ⟨g1, ht1, fun F c ob => (e1 F c ob).seq_out ?_⟩
    rintro rfl
    exact hne _ _ h

theorem cond_ok {c : Operand} {x y : Code} {f g : CodeR} (hf : CodeOk P len x f) (hg : CodeOk P len y g) : CodeOk P len (.cond c x y) (fun t m => condS (evT t (cx c)) f g t m) := by
  intro t m e t' m' ht hd h
  simp only [evT_eq ht] at h
  unfold condS at h
  split at h
  · rename_i hb
    obtain ⟨g1, ht1, e1⟩ := hf t m _ _ _ ht hd h
    exact ⟨g1, ht1, fun F c ob => Ev.cond (b := true) hb (e1 F c ob)⟩
  · rename_i hb
    obtain ⟨g1, ht1, e1⟩ := hg t m _ _ _ ht hd h
    exact ⟨g1, ht1, fun F c ob => Ev.cond (b := false) hb (e1 F c ob)⟩
  · cases h

theorem block_ok {id : Nat} {x : Code} {f : CodeR} (hf : CodeOk P len x f) : CodeOk P len (.block id x) (blockS id f) := by
  intro t m e t' m' ht hd h
  unfold blockS at h
  split at h
  · rename_i i t1 m1 h1
    obtain ⟨g1, ht1, e1⟩ := hf t m _ _ _ ht hd h1
    split at h
    · rename_i hb
      have hb := Nat.eq_of_beq_eq_true hb
      subst hb
      cases h
      exact ⟨g1, ht1, fun F c ob => (e1 F c ob).block_exit⟩
    · rename_i hb
      have hb := Nat.ne_of_beq_eq_false hb
      cases h
      exact ⟨g1, ht1, fun F c ob => (e1 F c ob).block fun h => by cases h; exact hb rfl⟩
  · rename_i hne
    obtain ⟨g1, ht1, e1⟩ := hf t m _ _ _ ht hd h
    refine ⟨g1, ht1, fun F c ob => (e1 F c ob).block ?_⟩
    rintro rfl
    exact hne _ _ _ h

theorem loop_ok {x : Code} {f : CodeR} (hf : CodeOk P len x f) : ∀ (k : Nat) (t : Tm) (m : M) (e : Exit) (t' : Tm) (m' : M), TOk t len → Dom m → loopS f k t m = some (e, t', m') →
    Grow m m' ∧ TOk t' len ∧ ∀ F, Cov F m.n m'.n m'.rd → Obs m' → EvL P x k (lst t len) (sub F m.h.get) m.n e (lst t' len) (sub F m'.h.get) m'.n
  | 0, t, m, e, t', m', _, _, h => by cases h
  | k + 1, t, m, e, t', m', ht, hd, h => by
    have h : (match f t m with
      | some (.normal, t', m') => loopS f k t' m'
      | r => r) = some (e, t', m') := h
    split at h
    · rename_i t1 m1 h1
      obtain ⟨g1, ht1, e1⟩ := hf t m _ _ _ ht hd h1
      obtain ⟨g2, ht2, e2⟩ := loop_ok hf k t1 m1 _ _ _ ht1 g1.dom h
      exact ⟨g1.trans g2, ht2, fun F c ob => EvL.next (e1 F (c.fst g1 g2) (g2.ob ob)) (e2 F (c.snd g1 g2) ob)⟩
    · rename_i hne
      obtain ⟨g1, ht1, e1⟩ := hf t m _ _ _ ht hd h
      refine ⟨g1, ht1, fun F c ob => EvL.out (e1 F c ob) ?_⟩
      rintro rfl
      exact hne _ _ h

theorem code_ok (hcall : CallsOk P call) (hlen : len ≤ 500) (hm : P.follows .mixedOrders = true) : ∀ c : Code, CodeOk P len c (codeS P call lf len c)
  | .skip => by
    intro t m e t' m' ht hd h
    cases h
    exact ⟨Grow.refl hd, ht, fun _ _ _ => Ev.skip⟩
  | .region id ops draw => region_ok hcall hlen hm id ops draw
  | .seq x y => seq_ok (code_ok hcall hlen hm x) (code_ok hcall hlen hm y)
  | .cond c x y => cond_ok (code_ok hcall hlen hm x) (code_ok hcall hlen hm y)
  | .block id x => block_ok (code_ok hcall hlen hm x)
  | .loop x => by
    intro t m e t' m' ht hd h
    obtain ⟨g, ht', hev⟩ := loop_ok (code_ok hcall hlen hm x) lf t m e t' m' ht hd h
    exact ⟨g, ht', fun F c ob => (hev F c ob).done⟩
  | .exit id => by
    intro t m e t' m' ht hd h
    cases h
    exact ⟨Grow.refl hd, ht, fun _ _ _ => Ev.exit⟩
  | .ret => by
    intro t m e t' m' ht hd h
    cases h
    exact ⟨Grow.refl hd, ht, fun _ _ _ => Ev.ret⟩
  | .rangeFunc .. => by intro t m e t' m' ht hd h; cases h
  | .scope _ => by intro t m e t' m' ht hd h; cases h
  | .label _ => by intro t m e t' m' ht hd h; cases h
  | .goto _ => by intro t m e t' m' ht hd h; cases h
  | .refuse _ => by intro t m e t' m' ht hd h; cases h

/-! ### Calls -/

theorem fill_ok (hlen : len ≤ 500) : ∀ (l : List AV) (i : Nat) (t : Tm), i + l.length ≤ len → TOk t len → (∀ k, i ≤ k → t.get k = none) →
    TOk (fillT l i t) len ∧ ∀ k, (fillT l i t).get k = if k < i then t.get k else l[k - i]?
  | [], i, t, _, ht, hk => ⟨ht, fun k => by
      show t.get k = _
      by_cases h : k < i
      · simp [h]
      · simp [h, hk k (by omega)]⟩
  | v :: l, i, t, hl, ht, hk => by
    have hl' : i + (l.length + 1) ≤ len := hl
    have hi : i + 1 < 2 ^ 9 := by have : (2 : Nat) ^ 9 = 512 := rfl; omega
    obtain ⟨h1, h2⟩ := fill_ok hlen l (i + 1) (Tr.set 9 t i (some v)) (by omega) (tok_set ht hlen (by omega)) (fun k hk' => by
      rw [Tr.get_set _ _ _ _ _ hi, if_neg (by omega)]; exact hk k (by omega))
    refine ⟨h1, fun k => ?_⟩
    show (fillT l (i + 1) (Tr.set 9 t i (some v))).get k = _
    rw [h2]
    by_cases hki : k < i
    · have : k < i + 1 := by omega
      have hne : k ≠ i := by omega
      simp only [this, if_true, hki]
      rw [Tr.get_set _ _ _ _ _ hi, if_neg hne]
    · by_cases e : k = i
      · subst e
        simp only [Nat.lt_succ_self, if_true, Nat.lt_irrefl, if_false, Nat.sub_self]
        rw [Tr.get_set _ _ _ _ _ hi, if_pos rfl]; rfl
      · have h3 : ¬ k < i + 1 := by omega
        simp only [h3, if_false, hki]
        rw [show k - i = (k - (i + 1)) + 1 by omega]
        rfl

theorem fill_lst (hlen : len ≤ 500) {l : List AV} (hl : l.length ≤ len) : TOk (fillT l 0 .nil) len ∧ lst (fillT l 0 .nil) len = l ++ List.replicate (len - l.length) undefA := by
  obtain ⟨h1, h2⟩ := fill_ok hlen l 0 .nil (by omega) (fun _ _ => rfl) (fun _ _ => rfl)
  refine ⟨h1, ?_⟩
  apply List.ext_getElem?
  intro i
  unfold lst
  rw [List.getElem?_map]
  by_cases hi : i < len
  · rw [List.getElem?_range hi]
    simp only [Option.map_some, h2, Nat.not_lt_zero, if_false, Nat.sub_zero]
    by_cases h : i < l.length
    · rw [List.getElem?_append_left h]
      simp [h]
    · rw [List.getElem?_append_right (by omega), List.getElem?_replicate, if_pos (by omega)]
      simp [h]
  · have : (List.range len)[i]? = none := by simp; omega
    rw [this, List.getElem?_eq_none (by simp; omega)]
    rfl

theorem resT_ok {t : Tm} {h : Heap} {r : ResultVar} {v : AV} {F : Nat → Bool} (ht : TOk t len) (hr : resT P t h r = some v) (hF : ∀ p ty b off, r = .cell p ty → tget t p = .ptr b off → sub F h b = h b) : resA P (lst t len) (sub F h) r = some v := by
  have hg : ∀ i, (lst t len).getD i undefA = tget t i := fun i => by rw [getD_lst ht, tget_eq]
  cases r with
  | tmp i => simp only [resA, hg]; exact hr
  | cell p ty =>
    simp only [resA, hg]
    simp only [resT] at hr
    split at hr
    · rename_i b off g i hp hag hi
      have := hF p ty b off rfl hp
      simp only [hp, hag, hi, this]
      exact hr
    · cases hr

theorem resRd_ok {t : Tm} : ∀ {l : List ResultVar} {p : Tmp} {ty : TypeId} {b off : Nat}, .cell p ty ∈ l → tget t p = .ptr b off → (resRd t l).testBit b = true
  | r :: l, p, ty, b, off, hm, hp => by
    rcases List.mem_cons.1 hm with rfl | hm
    · simp only [resRd, hp]
      rw [testBit_lor, testBit_one]; simp
    · have ih := resRd_ok hm hp
      cases r with
      | tmp i => exact ih
      | cell p' ty' =>
        simp only [resRd]
        split
        · rw [testBit_lor, ih, Bool.or_true]
        · exact ih

theorem length_mapM {α β : Type} {f : α → Option β} : ∀ {l : List α} {vs : List β}, l.mapM f = some vs → vs.length = l.length
  | [], vs, h => by simp at h; subst h; rfl
  | x :: l, vs, h => by
    rw [List.mapM_cons] at h
    simp only [Option.bind_eq_bind, Option.bind_eq_some_iff, Option.pure_def, Option.some.injEq] at h
    obtain ⟨u, hu, us, hus, rfl⟩ := h
    simp [length_mapM hus]

theorem resultsT_ok {rs : Array ResultVar} {t : Tm} {h : Heap} {v : AV} {F : Nat → Bool} (ht : TOk t len) (hr : resultsT P rs t h = some v) (hF : ∀ b, (resRd t rs.toList).testBit b = true → sub F h b = h b) : resultsA P rs (lst t len) (sub F h) = some v := by
  have one : ∀ r v, r ∈ rs.toList → resT P t h r = some v → resA P (lst t len) (sub F h) r = some v := fun r v hm hr => resT_ok ht hr fun p ty b off e hp => hF b (resRd_ok (e ▸ hm) hp)
  have many : ∀ (l : List ResultVar), (∀ r ∈ l, r ∈ rs.toList) → ∀ vs, l.mapM (resT P t h) = some vs → l.mapM (resA P (lst t len) (sub F h)) = some vs := by
    intro l
    induction l with
    | nil => intro _ vs h; exact h
    | cons r l ih =>
      intro hm vs h
      rw [List.mapM_cons] at h ⊢
      simp only [Option.bind_eq_bind, Option.bind_eq_some_iff, Option.pure_def, Option.some.injEq] at h ⊢
      obtain ⟨u, hu, us, hus, rfl⟩ := h
      exact ⟨u, one r u (hm r (by simp)) hu, us, ih (fun r hr => hm r (by simp [hr])) us hus, rfl⟩
  unfold resultsT at hr
  unfold resultsA
  split at hr
  · rename_i r hrs
    have := one r v (by rw [hrs]; simp) hr
    simp [hrs, this]
  · rename_i hne
    split at hr
    · rename_i vs hvs
      have := many rs.toList (fun _ h => h) vs hvs
      rw [this]
      cases hr
      simp only [Option.map_some, Option.some.injEq]
      split
      · rename_i u
        exfalso
        have hl : rs.toList.length = 1 := by
          have := length_mapM hvs
          simpa using this.symm
        match hrs : rs.toList, hl with
        | [r], _ => exact hne r hrs
      · rfl
    · cases hr

theorem end_ok {fn : Func} {t : Tm} {m m' : M} {v : AV} (ht : TOk t len) (hd : Dom m) (h : endS P fn t m = some (v, m')) :
    Grow m m' ∧ m'.h = m.h ∧ m'.n = m.n ∧ ∀ F, Cov F m.n m'.n m'.rd → resultsA P fn.results (lst t len) (sub F m.h.get) = some v := by
  unfold endS at h
  split at h
  case h_2 => cases h
  rename_i u hr
  obtain ⟨h, _⟩ := forced_eq h
  cases h
  refine ⟨⟨Nat.le_refl _, hd, fun y hy => by simp only [testBit_lor, hy, Bool.true_or], fun _ h => h, fun _ _ _ => rfl, fun _ _ h => .inl h, fun _ _ h => .inl h, fun h => h⟩, rfl, rfl, fun F c => ?_⟩
  refine resultsT_ok ht hr fun b hb => ?_
  unfold sub
  by_cases hbn : b < m.n
  · have := c.2 b hbn (by simp only [testBit_lor, hb, Bool.or_true])
    simp [this]
  · rw [hd b (by omega)]; simp

theorem body_ok (hcall : CallsOk P call) (hm : P.follows .mixedOrders = true) {f : Nat} {fn : Func} {c : Code} {args : List AV} {m m' : M} {v : AV} (hf : P.funcs[f]? = some fn) (hb : fn.body = some c) (hn : callable P f = true) (hd : Dom m)
    (h : bodyS P call lf fn c args m = some (v, m')) : CallOk P f args m v m' := by
  unfold bodyS at h
  split at h
  case h_2 => cases h
  rename_i hl1 hl2
  have hl1 := Nat.le_of_ble_eq_true hl1
  have hl2 := Nat.le_of_ble_eq_true hl2
  obtain ⟨hf0, hfl⟩ := fill_lst hl1 hl2
  have fin : ∀ (e : Exit) (t : Tm) (m1 : M), codeS P call lf fn.ntmps c (fillT args 0 .nil) m = some (e, t, m1) → (e = .normal ∨ e = .ret) → endS P fn t m1 = some (v, m') → CallOk P f args m v m' := by
    intro e t m1 hc he hend
    obtain ⟨g, ht, hev⟩ := code_ok hcall hl1 hm c _ _ _ _ _ hf0 hd hc
    obtain ⟨g', e1, e2, hres⟩ := end_ok ht g.dom hend
    refine ⟨g.trans g', fun F cov ob => FEv.of_call hn ?_⟩
    have h1 := hev F (cov.fst g g') (g'.ob ob)
    rw [hfl] at h1
    rw [e1, e2]
    exact ECall.of_body hf hb he h1 (hres F (cov.snd g g'))
  split at h
  · rename_i t m1 hc; exact fin _ t m1 hc (.inl rfl) h
  · rename_i t m1 hc; exact fin _ t m1 hc (.inr rfl) h
  · cases h

/-- No function of the program is the one that the model counts goroutines by. -/
def NoCount (P : Program) : Prop := ∀ fn ∈ P.funcs.toList, (fn.name == "runtime.NumGoroutine") = false

theorem call_ok (hm : P.follows .mixedOrders = true) (hnc : NoCount P) {X : CallF} (hX : CallsOk P X) : ∀ d, CallsOk P (callS P X lf d)
  | 0 => by intro f args m v m' _ h; cases h
  | d + 1 => by
    intro f args m v m' hd h
    have h : (match X f args m with
    | some r => some r
    | none => match P.funcs[f]? with
      | none => none
      | some fn => match fn.body with
        | none => none
        | some c => bodyS P (callS P X lf d) lf fn c args m) = some (v, m') := h
    split at h
    · rename_i r hx
      cases h
      exact hX f args m v m' hd hx
    · split at h
      · cases h
      · rename_i fn hf
        split at h
        · cases h
        · rename_i c hb
          refine body_ok (call_ok hm hnc hX d) hm hf hb ?_ hd h
          unfold callable
          rw [hf]
          simp only [hb, Option.isSome_some, Bool.and_true, Bool.not_eq_true']
          refine hnc fn ?_
          rw [← Array.getElem?_toList] at hf
          exact List.mem_of_getElem? hf

end
end Go.Eng
