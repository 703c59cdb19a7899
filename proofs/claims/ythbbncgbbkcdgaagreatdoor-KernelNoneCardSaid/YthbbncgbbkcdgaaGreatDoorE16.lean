/- Engine, part 16: one walk serves every order. -/
import Derived.Test.YthbbncgbbkcdgaaGreatDoorE15
namespace Go.Eng
open Go

section
variable {P : Program} {ops : Array Oper} {a : Nat → List AV} {H : Nat → Heap} {n : Nat → Nat} {v : Nat → AV} {F D : Nat → Nat → Bool}

theorem wanted_of {l : List AV} {o : Oper} {b : Bool} {act : Act} {μ : Map} (h : wantedA ops l o = some b) (hs : ∀ t ∈ o.looksAt ops, ∀ u, l[t]? = some u → act.tmps[t]? = some (conc μ u)) : Region.wanted o (yielded ops act.tmps) = b := by
  unfold wantedA at h
  unfold Region.wanted
  cases hg : o.guard with
  | none => simp only [hg] at h; simpa using h
  | some gw =>
    obtain ⟨g, want⟩ := gw
    simp only [hg] at h ⊢
    cases hd : (ops[g]?).bind (·.dst) with
    | none => simp [hd] at h
    | some t =>
      simp only [hd, Option.bind_some] at h
      have ht : t ∈ o.looksAt ops := by simp [Oper.looksAt, hg, hd]
      split at h
      case h_3 => cases h
      · rename_i b0 hb
        simp only [Option.some.injEq] at h
        have := hs t ht _ hb
        simp only [conc] at this
        have hy : yielded ops act.tmps g = some b0 := by simp [yielded, hd, this]
        rw [hy, ← h]
        cases b0 <;> cases want <;> rfl
      · rename_i hb
        simp only [Option.some.injEq] at h
        have := hs t ht _ hb
        simp only [conc] at this
        have hy : yielded ops act.tmps g = none := by simp [yielded, hd, this]
        rw [hy, ← h]
        rfl

theorem Closed.add {L : Nat → Bool} (hc : Closed ops L) {j : Nat} (hr : ∀ o, ops[j]? = some o → ∀ e ∈ o.after, Region.binds .any e = true → L e.on = true) : Closed ops (add L j) := by
  intro i o hi hL e he hb
  have up : ∀ k, L k = true → Eng.add L j k = true := fun k hk => by simp only [Eng.add]; split <;> simp [hk]
  by_cases hij : i = j
  · subst hij; exact up _ (hr o hi e he hb)
  · simp only [Eng.add, hij, if_false] at hL
    exact up _ (hc i o hi hL e he hb)

theorem ready_or_all (hback : ∀ j o, ops[j]? = some o → ∀ e ∈ o.after, Region.binds .any e = true → e.on < j) {listed : Array Bool} (hs : listed.size = ops.size) (h : Region.ready .any ops listed = []) :
    ∀ i, i < ops.size → listed.getD i false = true := by
  intro i
  induction i using Nat.strongRecOn with
  | _ i ih =>
    intro hi
    cases hl : listed.getD i false with
    | true => rfl
    | false =>
      exfalso
      have : i ∈ Region.ready .any ops listed := mem_ready.2 ⟨by
        have : i < listed.size := by omega
        simp [this] at hl ⊢; exact hl, ops[i], by simp [hi], fun e he hb => ih e.on (hback i _ (by simp [hi]) e he hb) (by have := hback i ops[i] (by simp [hi]) e he hb; omega)⟩
      rw [h] at this; cases this

theorem listed_add {listed : Array Bool} {j : Nat} (hj : j < listed.size) : (fun i => (listed.setIfInBounds j true).getD i false) = add (fun i => listed.getD i false) j := by
  funext i
  simp only [add]
  by_cases e : i = j
  · subst e; simp [hj]
  · rw [if_neg e]
    simp [Array.getElem?_setIfInBounds_ne (Ne.symm e)]

/-- At the end the heap and the frame are the walk's. -/
theorem Lex.final (lx : Lex P ops a H n v F D) {L : Nat → Bool} (hall : ∀ i, i < ops.size → L i = true) : ∀ k, k ≤ ops.size → HL H D L k = H k ∧ aL ops a v L k = a k
  | 0, _ => ⟨rfl, rfl⟩
  | k + 1, hk => by
    obtain ⟨h1, h2⟩ := lx.final hall k (by omega)
    have hok : ops[k]? = some ops[k] := by simp [show k < ops.size by omega]
    obtain ⟨s1, s2⟩ := lx.step k _ hok
    constructor
    · funext x
      simp only [HL, hall k (by omega), Bool.true_and, h1]
      split
      · rfl
      · rename_i hD
        have hD' : D k x = false := by simpa using hD
        rcases s2 with ⟨_, _, h, _⟩ | ⟨_, _, h, _⟩
        · rw [h]
        · rw [h x hD']
    · simp only [aL, hall k (by omega), if_true, hok, Option.bind_some, h2, s1]

theorem Lex.any (lx : Lex P ops a H n v F D) {U0 : Nat → Prop} {μ0 : Map} {w0 : World} (hav : Avoid U0 (n 0) (n ops.size)) {Q : Exit → Act → World → Prop}
    (hQ : ∀ μ act w, Rel P.globals.size (UI U0 (n 0) (n ops.size)) μ (H ops.size) w → act.tmps.toList = (a ops.size).map (conc μ) → (∀ u ∈ a ops.size, vok (UI U0 (n 0) (n ops.size)) μ u) → act.defers = [] →
      Ext U0 μ0 (H 0) w0 (UI U0 (n 0) (n ops.size)) μ (H ops.size) w → Q .normal act w) :
    ∀ (fuel : Nat) (listed : Array Bool) (act : Act) (w : World), listed.size = ops.size → Closed ops (fun i => listed.getD i false) → cnt (fun i => listed.getD i false) ops.size ≤ fuel →
      Inv P ops a H n v D U0 μ0 w0 (fun i => listed.getD i false) act w → wpAny P .any ops Q fuel listed act w := by
  -- when all is done
  have done : ∀ (listed : Array Bool) (act : Act) (w : World), (∀ i, i < ops.size → listed.getD i false = true) → Inv P ops a H n v D U0 μ0 w0 (fun i => listed.getD i false) act w → Q .normal act w := by
    rintro listed act w hall ⟨μ, h1, h2, h3, h4, h5⟩
    obtain ⟨f1, f2⟩ := lx.final (L := fun i => listed.getD i false) hall ops.size (Nat.le_refl _)
    rw [f1] at h1 h5
    rw [f2] at h2 h3
    have hu : ∀ x, UL U0 n ops.size (fun i => listed.getD i false) x → UI U0 (n 0) (n ops.size) x := by
      rintro x (h | ⟨k, hk, _, h⟩)
      · exact .inl h
      · have e1 := lx.mono (show 0 ≤ k by omega) (show k ≤ ops.size by omega)
        have e2 := lx.mono (show k + 1 ≤ ops.size by omega) (Nat.le_refl _)
        exact .inr (by omega)
    exact hQ μ act w (h1.mono hu) h2 (fun u hx => vok_mono hu (fun _ _ => rfl) u (h3 u hx)) h4 (h5.mono hu)
  intro fuel
  induction fuel with
  | zero =>
    intro listed act w hs hc hcnt hinv
    have hall := cnt_zero ops.size (by omega : cnt (fun i => listed.getD i false) ops.size = 0)
    refine ⟨?_, done listed act w hall hinv⟩
    cases hr : Region.ready .any ops listed with
    | nil => rfl
    | cons i l =>
      obtain ⟨h1, o, ho, _⟩ := mem_ready.1 (by rw [hr]; simp : i ∈ Region.ready .any ops listed)
      have hi : i < ops.size := (Array.getElem?_eq_some_iff.1 ho).1
      have := hall i hi
      have hi' : i < listed.size := by omega
      simp [hi'] at h1 this
      rw [this] at h1; cases h1
  | succ fuel ih =>
    intro listed act w hs hc hcnt hinv
    refine ⟨fun hr => done listed act w (ready_or_all lx.back hs hr) hinv, fun j hj => ?_⟩
    obtain ⟨hun, oj, hoj, hall⟩ := mem_ready.1 hj
    have hjl : j < ops.size := (Array.getElem?_eq_some_iff.1 hoj).1
    have hjs : j < listed.size := by omega
    have hLj : (fun i => listed.getD i false) j = false := by simp [hjs] at hun ⊢; exact hun
    have hready : ∀ o, ops[j]? = some o → ∀ e ∈ o.after, Region.binds .any e = true → (fun i => listed.getD i false) e.on = true := by
      intro o ho e he hb
      rw [hoj] at ho
      cases ho
      exact hall e he hb
    have hcl' := hc.add hready
    rw [← listed_add hjs] at hcl'
    have hcnt' : cnt (fun i => (listed.setIfInBounds j true).getD i false) ops.size ≤ fuel := by
      rw [listed_add hjs]
      have := cnt_add (L := fun i => listed.getD i false) hLj ops.size hjl
      omega
    have next := fun act' w' => ih (listed.setIfInBounds j true) act' w' (by simp [hs]) hcl' hcnt'
    rw [listed_add hjs] at next
    obtain ⟨μ, h1, h2, h3, h4, h5⟩ := hinv
    -- the slots that the operation looks at
    have slot : ∀ t ∈ oj.looksAt ops, (aL ops a v (fun i => listed.getD i false) ops.size)[t]? = (a j)[t]? := by
      intro t ht
      have := lx.claimC hc hoj hLj hready ht ops.size (Nat.le_refl _)
      rwa [show min ops.size j = j by omega] at this
    have slotc : ∀ t ∈ oj.looksAt ops, ∀ u, (a j)[t]? = some u → act.tmps[t]? = some (conc μ u) := by
      intro t ht u hu
      rw [← slot t ht] at hu
      rw [← Array.getElem?_toList, h2, List.getElem?_map, hu]; rfl
    have hD := lx.claimD hc hoj hLj ops.size (Nat.le_refl _)
    rw [if_pos hjl] at hD
    obtain ⟨s1, s2⟩ := lx.step j oj hoj
    unfold wpOp
    simp only [hoj]
    rcases s2 with ⟨hw, hv, hH, hn, hDn⟩ | ⟨hw, ⟨h', hev, hH⟩, hD1, hD2, hD3⟩
    · -- not wanted
      rw [wanted_of hw slotc]
      simp only [Bool.false_eq_true, if_false]
      refine next _ _ ⟨μ, ?_, ?_, ?_, ?_, ?_⟩
      all_goals
        have hU : UL U0 n ops.size (add (fun i => listed.getD i false) j) = UL U0 n ops.size (fun i => listed.getD i false) := by
          funext x
          apply propext
          constructor
          · rintro (h | ⟨k, hk, hL, h⟩)
            · exact .inl h
            · by_cases e : k = j
              · subst e; rw [hn] at h; omega
              · simp only [add, e, if_false] at hL; exact .inr ⟨k, hk, hL, h⟩
          · rintro (h | ⟨k, hk, hL, h⟩)
            · exact .inl h
            · refine .inr ⟨k, hk, ?_, h⟩
              simp only [add]; split
              · rfl
              · exact hL
        have hHL : HL H D (add (fun i => listed.getD i false) j) ops.size = HL H D (fun i => listed.getD i false) ops.size := by
          have : ∀ k, HL H D (add (fun i => listed.getD i false) j) k = HL H D (fun i => listed.getD i false) k := by
            intro k
            induction k with
            | zero => rfl
            | succ k ihk =>
              funext x
              simp only [HL, ihk]
              by_cases e : k = j
              · subst e; simp [hDn x]
              · simp [add, e]
          exact this _
      · rw [hU, hHL]; exact h1
      · have := put_says (μ' := μ) h2 h3 (fun _ _ => rfl) oj.dst (v j)
        rw [hv] at this hD
        rw [hD, ← this, undef_conc]
      · rw [hU, hD, hv]
        intro u hu
        rcases mem_putA hu with hu | rfl
        · exact h3 u hu
        · simp [undefA, vok, vokL]
      · rw [put_defers]; exact h4
      · rw [hU, hHL]; exact h5
    · rw [wanted_of hw slotc]
      simp only [if_true]
      refine .inl ?_
      have hsub : ∀ x k, sub (F j) (H j) x = some k → HL H D (fun i => listed.getD i false) ops.size x = some k := by
        intro x k hx
        unfold sub at hx
        split at hx
        · rename_i hF
          have := lx.claimA hc hoj hLj hready hF ops.size (Nat.le_refl _)
          rw [show min ops.size j = j by omega] at this
          rw [this]; exact hx
        · cases hx
      have hopl : ∀ t, Operand.tmp t ∈ oj.op.operands → t ∈ oj.looksAt ops := fun t ht => by
        simp only [Oper.looksAt, List.mem_append, List.mem_filterMap]
        exact .inl ⟨.tmp t, by simpa using ht, rfl⟩
      have hevc : ∀ x ∈ oj.op.operands, ev (a j) (cx x) = ev (aL ops a v (fun i => listed.getD i false) ops.size) (cx x) := by
        intro x hx
        cases x with
        | tmp t => simp only [cx, ev, List.getD]; rw [slot t (hopl t hx)]
        | const => rfl
        | global => rfl
        | func => rfl
      refine (hev.frame _ hsub).2 (UL U0 n ops.size fun i => listed.getD i false) μ w act _ Q ?_ h1 ?_ ?_ ?_
      · rintro x hx1 hx2 (h | ⟨k, hk, hL, h⟩)
        · have e1 := lx.mono (show 0 ≤ j by omega) (show j ≤ ops.size by omega)
          have e2 := lx.mono (show j + 1 ≤ ops.size by omega) (Nat.le_refl _)
          exact hav x (by omega) (by omega) h
        · have hkj : k ≠ j := by intro e; subst e; rw [hLj] at hL; cases hL
          rcases Nat.lt_or_ge k j with hlt | hge
          · have := lx.mono (show k + 1 ≤ j by omega) (show j ≤ ops.size by omega); omega
          · have := lx.mono (show j + 1 ≤ k by omega) (show k ≤ ops.size by omega); omega
      · intro x hx
        rw [hevc x hx]; exact eval_says h2 x
      · intro x hx
        rw [hevc x hx]; exact vok_ev h3 x
      · intro μ' w' r' e' hv'
        have hB := lx.claimB hc hoj hLj hready hH hD1 hD2 hD3
        have hU : UI (UL U0 n ops.size (fun i => listed.getD i false)) (n j) (n (j + 1)) = UL U0 n ops.size (add (fun i => listed.getD i false) j) := by
          funext x
          apply propext
          constructor
          · rintro ((h | ⟨k, hk, hL, h⟩) | h)
            · exact .inl h
            · refine .inr ⟨k, hk, ?_, h⟩
              simp only [add]; split
              · rfl
              · exact hL
            · exact .inr ⟨j, hjl, by simp [add], h⟩
          · rintro (h | ⟨k, hk, hL, h⟩)
            · exact .inl (.inl h)
            · by_cases e : k = j
              · subst e; exact .inr h
              · simp only [add, e, if_false] at hL; exact .inl (.inr ⟨k, hk, hL, h⟩)
        rw [← hB, hU] at r' e'
        rw [hU] at hv'
        refine next _ _ ⟨μ', r', ?_, ?_, ?_, h5.trans e'⟩
        · rw [hD]; exact put_says h2 h3 e'.agree oj.dst (v j)
        · rw [hD]
          intro u hu
          rcases mem_putA hu with hu | rfl
          · exact vok_mono e'.sub e'.agree u (h3 u hu)
          · exact hv'
        · rw [put_defers]; exact h4

/-- **A region whose order is open: one walk in the order of the text serves.** -/
theorem Lex.region (lx : Lex P ops a H n v F D) (hm : P.follows .mixedOrders = true) {id : Nat} {U : Nat → Prop} {μ : Map} {w : World} {act : Act} (hav : Avoid U (n 0) (n ops.size)) {Q : Exit → Act → World → Prop}
    (r : Rel P.globals.size U μ (H 0) w) (ht : act.tmps.toList = (a 0).map (conc μ)) (hv : ∀ u ∈ a 0, vok U μ u) (hd : act.defers = [])
    (hQ : ∀ μ' act' w', Rel P.globals.size (UI U (n 0) (n ops.size)) μ' (H ops.size) w' → act'.tmps.toList = (a ops.size).map (conc μ') → (∀ u ∈ a ops.size, vok (UI U (n 0) (n ops.size)) μ' u) → act'.defers = [] →
      Ext U μ (H 0) w (UI U (n 0) (n ops.size)) μ' (H ops.size) w' → Q .normal act' w') : (Code.region id ops true).wp P Q act w := by
  refine wp_region_any hm ?_
  have none : (fun i => (Array.replicate ops.size false).getD i false) = fun _ => false := by
    funext i
    by_cases h : i < ops.size <;> simp [h]
  have hw : Rel P.globals.size U μ (H 0) { w with drawn := w.drawn + 1 } := ⟨r.glob, r.used, r.at_, r.ok, r.inj⟩
  have hnoneH : ∀ k, HL H D (fun _ => false) k = H 0 := fun k => by
    induction k with
    | zero => rfl
    | succ k ih => funext x; simp [HL, ih]
  have hnonea : ∀ k, aL ops a v (fun _ => false) k = a 0 := fun k => by
    induction k with
    | zero => rfl
    | succ k ih => simp [aL, ih]
  have hnoneU : UL U n ops.size (fun _ => false) = U := by
    funext x; apply propext; constructor
    · rintro (h | ⟨_, _, h, _⟩)
      · exact h
      · cases h
    · exact .inl
  refine lx.any (U0 := U) (μ0 := μ) (w0 := w) hav hQ ops.size _ act _ (by simp) ?_ ?_ ?_
  · rw [none]; intro j o _ h; cases h
  · rw [none]
    have : ∀ k, cnt (fun _ => false) k ≤ k := fun k => by
      induction k with
      | zero => simp [cnt]
      | succ k ih => simp [cnt]; omega
    exact this _
  · rw [none]
    refine ⟨μ, ?_, ?_, ?_, hd, ?_⟩
    · rw [hnoneU, hnoneH]; exact hw
    · rw [hnonea]; exact ht
    · rw [hnonea, hnoneU]; exact hv
    · rw [hnoneU, hnoneH]
      exact ⟨fun _ h => h, fun _ _ => rfl, Nat.le_refl _, fun _ _ _ => rfl, fun b k hb hw => .inl ⟨b, k, hb, hw, rfl⟩, fun _ _ h => h, rfl, rfl, rfl⟩

end
end Go.Eng
