/- Engine, part 15: a region whose order is open: one walk in the order of the text, and a look at what meets what. -/
import Derived.Test.YthbbncgbbkcdgaaGreatDoorT5
import Derived.Still
set_option linter.unusedSimpArgs false
set_option linter.unusedVariables false
set_option linter.unnecessarySimpa false
namespace Go.Eng
open Go

/-! ### What waits for what -/

inductive Reach (ops : Array Oper) : Nat → Nat → Prop
  | one {j i : Nat} {o : Oper} {e : Edge} : ops[j]? = some o → e ∈ o.after → Region.binds .any e = true → e.on = i → Reach ops j i
  | more {j i k : Nat} {o : Oper} {e : Edge} : ops[j]? = some o → e ∈ o.after → Region.binds .any e = true → e.on = k → Reach ops k i → Reach ops j i

def ord (ops : Array Oper) (j i : Nat) : Bool := ((Region.before ops).getD j 0).testBit i

theorem foldl_bits (acc : Array Nat) (i : Nat) : ∀ (l : List Edge) (s : Nat), (l.foldl (fun s e => if Region.binds .any e then s ||| 2 ^ e.on ||| acc.getD e.on 0 else s) s).testBit i = true →
    s.testBit i = true ∨ ∃ e ∈ l, Region.binds .any e = true ∧ (e.on = i ∨ (acc.getD e.on 0).testBit i = true)
  | [], s, h => .inl h
  | e :: l, s, h => by
    simp only [List.foldl_cons] at h
    rcases foldl_bits acc i l _ h with h | ⟨e', he, hb, h⟩
    · split at h
      · rename_i hb
        simp only [Nat.testBit_or, Bool.or_eq_true, Nat.testBit_two_pow] at h
        rcases h with (h | h) | h
        · exact .inl h
        · exact .inr ⟨e, by simp, hb, .inl (by simpa using h)⟩
        · exact .inr ⟨e, by simp, hb, .inr h⟩
      · exact .inl h
    · exact .inr ⟨e', by simp [he], hb, h⟩

theorem before_aux (ops : Array Oper) : ∀ (l : List Oper) (acc : Array Nat), (∀ (k : Nat) o, l[k]? = some o → ops[acc.size + k]? = some o) →
    (∀ j i, (acc.getD j 0).testBit i = true → Reach ops j i) →
    ∀ j i, ((l.foldl (fun acc o => acc.push (o.after.foldl (fun s e => if Region.binds .any e then s ||| 2 ^ e.on ||| acc.getD e.on 0 else s) 0)) acc).getD j 0).testBit i = true → Reach ops j i
  | [], acc, _, h, j, i, hb => h j i hb
  | o :: l, acc, hl, h, j, i, hb => by
    simp only [List.foldl_cons] at hb
    refine before_aux ops l _ (fun k o' hk => ?_) (fun j i hb => ?_) j i hb
    · have := hl (k + 1) o' (by simpa using hk)
      simpa [Nat.add_assoc, Nat.add_comm 1 k] using this
    · by_cases hj : j = acc.size
      · subst hj
        have ho := hl 0 o rfl
        simp only [Nat.add_zero] at ho
        rw [Array.getD_eq_getD_getElem?, Array.getElem?_push_size] at hb
        simp only [Option.getD_some] at hb
        rw [← Array.foldl_toList] at hb
        rcases foldl_bits acc i o.after.toList 0 hb with hb | ⟨e, he, hbd, hb⟩
        · simp at hb
        · rcases hb with hb | hb
          · exact .one ho (Array.mem_toList_iff.1 he) hbd hb
          · exact .more ho (Array.mem_toList_iff.1 he) hbd rfl (h _ _ hb)
      · refine h j i ?_
        rw [Array.getD_eq_getD_getElem?, Array.getElem?_push, if_neg hj] at hb
        rwa [Array.getD_eq_getD_getElem?]

theorem ord_reach {ops : Array Oper} {j i : Nat} (h : ord ops j i = true) : Reach ops j i := by
  unfold ord Region.before at h
  rw [← Array.foldl_toList] at h
  refine before_aux ops ops.toList #[] (fun k o hk => by simpa using hk) (fun j i hb => by simp at hb) j i h

def Closed (ops : Array Oper) (L : Nat → Bool) : Prop := ∀ j o, ops[j]? = some o → L j = true → ∀ e ∈ o.after, Region.binds .any e = true → L e.on = true

theorem Closed.reach {ops : Array Oper} {L : Nat → Bool} (hc : Closed ops L) {j i : Nat} (h : Reach ops j i) : (∀ o, ops[j]? = some o → ∀ e ∈ o.after, Region.binds .any e = true → L e.on = true) → L i = true := by
  induction h with
  | one ho he hb hi => intro hd; exact hi ▸ hd _ ho _ he hb
  | more ho he hb hk _ ih => intro hd; exact ih fun o' ho' => hc _ o' ho' (hk ▸ hd _ ho _ he hb)

/-! ### The walk in the order of the text -/

def putA (a : List AV) (dst : Option Nat) (v : AV) : List AV :=
  match dst with
  | some d => a.set d v
  | none => a

def wantedA (ops : Array Oper) (a : List AV) (o : Oper) : Option Bool :=
  match o.guard with
  | none => some true
  | some (g, want) => match ((ops[g]?).bind (·.dst)).bind (a[·]?) with
    | some (.bool b) => some (b == want)
    | some (.tup []) => some false
    | _ => none

/-- What the walk finds at each operation: the temporaries, the heap, the names ahead of it; its value; which names it looks at (F), which it turns (D). -/
structure Lex (P : Program) (ops : Array Oper) (a : Nat → List AV) (H : Nat → Heap) (n : Nat → Nat) (v : Nat → AV) (F D : Nat → Nat → Bool) : Prop where
  step : ∀ j o, ops[j]? = some o → a (j + 1) = putA (a j) o.dst (v j) ∧
    ((wantedA ops (a j) o = some false ∧ v j = undefA ∧ H (j + 1) = H j ∧ n (j + 1) = n j ∧ (∀ x, D j x = false)) ∨
     (wantedA ops (a j) o = some true ∧ (∃ h', OpEv P o (a j) (sub (F j) (H j)) (n j) (v j) h' (n (j + 1)) ∧ H (j + 1) = weave (sub (F j) (H j)) (H j) h' (n j) (n (j + 1))) ∧
      (∀ x, D j x = false → H (j + 1) x = H j x) ∧ (∀ x, D j x = true → (sub (F j) (H j) x).isSome = true ∨ (n j ≤ x ∧ x < n (j + 1))) ∧ (∀ x, n j ≤ x → x < n (j + 1) → D j x = true)))
  meet : ∀ i j oi oj, i < j → ops[i]? = some oi → ops[j]? = some oj → ord ops j i = false → oi.apart ops oj = true ∧ ∀ x, (D i x = true → F j x = false) ∧ (D j x = true → F i x = false)
  back : ∀ j o, ops[j]? = some o → ∀ e ∈ o.after, Region.binds .any e = true → e.on < j

section
variable {P : Program} {ops : Array Oper} {a : Nat → List AV} {H : Nat → Heap} {n : Nat → Nat} {v : Nat → AV} {F D : Nat → Nat → Bool}

def HL (H : Nat → Heap) (D : Nat → Nat → Bool) (L : Nat → Bool) : Nat → Heap
  | 0 => H 0
  | k + 1 => fun x => if L k && D k x then H (k + 1) x else HL H D L k x

def aL (ops : Array Oper) (a : Nat → List AV) (v : Nat → AV) (L : Nat → Bool) : Nat → List AV
  | 0 => a 0
  | k + 1 => if L k then putA (aL ops a v L k) ((ops[k]?).bind (·.dst)) (v k) else aL ops a v L k

def UL (U : Nat → Prop) (n : Nat → Nat) (m : Nat) (L : Nat → Bool) : Nat → Prop := fun x => U x ∨ ∃ k, k < m ∧ L k = true ∧ n k ≤ x ∧ x < n (k + 1)

theorem Lex.le (lx : Lex P ops a H n v F D) : ∀ j, j < ops.size → n j ≤ n (j + 1) := by
  intro j hj
  rcases (lx.step j ops[j] (by simp [hj])).2 with ⟨_, _, _, h, _⟩ | ⟨_, ⟨_, h, _⟩, _⟩
  · omega
  · exact h.1

theorem Lex.mono (lx : Lex P ops a H n v F D) {i j : Nat} (hij : i ≤ j) (hj : j ≤ ops.size) : n i ≤ n j := by
  induction j with
  | zero => have : i = 0 := by omega
            subst this; exact Nat.le_refl _
  | succ j ih =>
    by_cases h : i = j + 1
    · subst h; exact Nat.le_refl _
    · exact Nat.le_trans (ih (by omega) (by omega)) (lx.le j (by omega))

/-- One that is listed and one that is not: they are not ordered so. -/
theorem unordered {L : Nat → Bool} (hc : Closed ops L) {i j : Nat} {oj : Oper} (hj : ops[j]? = some oj) (hLj : L j = true) (hLi : L i = false) : ord ops j i = false := by
  cases h : ord ops j i with
  | false => rfl
  | true =>
    have := hc.reach (ord_reach h) fun o ho => hc j o ho hLj
    rw [this] at hLi; cases hLi

theorem ordered_listed {L : Nat → Bool} (hc : Closed ops L) {i j : Nat} (hr : ∀ o, ops[j]? = some o → ∀ e ∈ o.after, Region.binds .any e = true → L e.on = true) (h : ord ops j i = true) : L i = true :=
  hc.reach (ord_reach h) hr

/-- At the names that the next operation looks at the heap is as the walk found it. -/
theorem Lex.claimA (lx : Lex P ops a H n v F D) {L : Nat → Bool} (hc : Closed ops L) {j : Nat} {oj : Oper} (hj : ops[j]? = some oj) (hLj : L j = false)
    (hr : ∀ o, ops[j]? = some o → ∀ e ∈ o.after, Region.binds .any e = true → L e.on = true) {x : Nat} (hF : F j x = true) : ∀ k, k ≤ ops.size → HL H D L k x = H (min k j) x := by
  have hjl : j < ops.size := (Array.getElem?_eq_some_iff.1 hj).1
  intro k
  induction k with
  | zero => intro _; simp [HL]
  | succ k ih =>
    intro hk
    have ih := ih (by omega)
    have hok : ops[k]? = some ops[k] := by simp [show k < ops.size by omega]
    simp only [HL]
    by_cases hkj : k < j
    · rw [show min k j = k by omega] at ih
      rw [show min (k + 1) j = k + 1 by omega]
      by_cases hD : D k x = true
      · have hord : ord ops j k = true := by
          cases ho : ord ops j k with
          | true => rfl
          | false =>
            have := ((lx.meet k j _ _ hkj hok hj ho).2 x).1 hD
            rw [this] at hF; cases hF
        rw [ordered_listed hc hr hord, hD]; rfl
      · have hD' : D k x = false := by simpa using hD
        rw [hD', Bool.and_false, if_neg (by simp), ih]
        rcases (lx.step k _ hok).2 with ⟨_, _, h, _⟩ | ⟨_, _, h, _⟩
        · rw [h]
        · rw [h x hD']
    · rw [show min k j = j by omega] at ih
      rw [show min (k + 1) j = j by omega]
      by_cases hLk : L k = true
      · have hne : j < k := by
          rcases Nat.lt_or_ge j k with h | h
          · exact h
          · have : j = k := by omega
            subst this; rw [hLk] at hLj; cases hLj
        have hun := unordered hc hok hLk hLj
        have hD' : D k x = false := by
          cases hD : D k x with
          | false => rfl
          | true => have := ((lx.meet j k _ _ hne hj hok hun).2 x).2 hD; rw [this] at hF; cases hF
        rw [hD', Bool.and_false, if_neg (by simp), ih]
      · rw [show L k = false by simpa using hLk, Bool.false_and, if_neg (by simp), ih]

theorem putA_get (l : List AV) (dst : Option Nat) (u : AV) (t : Nat) (h : dst ≠ some t) : (putA l dst u)[t]? = l[t]? := by
  cases dst with
  | none => rfl
  | some d =>
    have : d ≠ t := fun e => h (by rw [e])
    simp [putA, List.getElem?_set_ne this]

theorem putA_same (l l' : List AV) (dst : Option Nat) (u : AV) (t : Nat) (hl : l.length = l'.length) (h : l[t]? = l'[t]?) : (putA l dst u)[t]? = (putA l' dst u)[t]? := by
  cases dst with
  | none => exact h
  | some d =>
    by_cases e : d = t
    · subst e; simp [putA, List.getElem?_set, hl]
    · simp [putA, List.getElem?_set_ne e, h]

theorem length_putA (l : List AV) (dst : Option Nat) (u : AV) : (putA l dst u).length = l.length := by cases dst <;> simp [putA]

theorem Lex.length (lx : Lex P ops a H n v F D) : ∀ k, k ≤ ops.size → (a k).length = (a 0).length
  | 0, _ => rfl
  | k + 1, hk => by
    rw [(lx.step k ops[k] (by simp [show k < ops.size by omega])).1, length_putA]; exact lx.length k (by omega)

theorem length_aL (L : Nat → Bool) : ∀ k, (aL ops a v L k).length = (a 0).length
  | 0 => rfl
  | k + 1 => by simp only [aL]; split <;> simp [length_putA, length_aL L k]

/-- At the slots that the next operation looks at the frame is as the walk found it. -/
theorem Lex.claimC (lx : Lex P ops a H n v F D) {L : Nat → Bool} (hc : Closed ops L) {j : Nat} {oj : Oper} (hj : ops[j]? = some oj) (hLj : L j = false)
    (hr : ∀ o, ops[j]? = some o → ∀ e ∈ o.after, Region.binds .any e = true → L e.on = true) {t : Nat} (hT : t ∈ oj.looksAt ops) : ∀ k, k ≤ ops.size → (aL ops a v L k)[t]? = (a (min k j))[t]? := by
  intro k
  induction k with
  | zero => intro _; simp [aL]
  | succ k ih =>
    intro hk
    have ih := ih (by omega)
    have hok : ops[k]? = some ops[k] := by simp [show k < ops.size by omega]
    simp only [aL, hok, Option.bind_some]
    by_cases hkj : k < j
    · rw [show min k j = k by omega] at ih
      rw [show min (k + 1) j = k + 1 by omega, (lx.step k _ hok).1]
      by_cases hd : ops[k].dst = some t
      · have hord : ord ops j k = true := by
          cases ho : ord ops j k with
          | true => rfl
          | false =>
            obtain ⟨h1, _, _⟩ := Oper.apart_spec (lx.meet k j _ _ hkj hok hj ho).1
            exact absurd hT (h1 t hd)
        rw [ordered_listed hc hr hord, if_pos rfl]
        exact putA_same _ _ _ _ _ (by rw [length_aL, lx.length k (by omega)]) ih
      · rw [putA_get _ _ _ _ hd]
        split
        · rw [putA_get _ _ _ _ hd]; exact ih
        · exact ih
    · rw [show min k j = j by omega] at ih
      rw [show min (k + 1) j = j by omega]
      by_cases hLk : L k = true
      · have hne : j < k := by
          rcases Nat.lt_or_ge j k with h | h
          · exact h
          · have : j = k := by omega
            subst this; rw [hLk] at hLj; cases hLj
        have hun := unordered hc hok hLk hLj
        obtain ⟨_, _, h3⟩ := Oper.apart_spec (lx.meet j k _ _ hne hj hok hun).1
        rw [if_pos hLk, putA_get _ _ _ _ (fun e => h3 t e hT)]
        exact ih
      · rw [if_neg hLk]; exact ih

def add (L : Nat → Bool) (j : Nat) : Nat → Bool := fun i => if i = j then true else L i

theorem putA_comm (l : List AV) (d e : Option Nat) (u w : AV) (h : ∀ x, d = some x → e ≠ some x) : putA (putA l d u) e w = putA (putA l e w) d u := by
  cases d with
  | none => rfl
  | some d =>
    cases e with
    | none => rfl
    | some e =>
      have : d ≠ e := fun x => h d rfl (by rw [x])
      simp only [putA]
      exact List.set_comm _ _ this

theorem Lex.claimD (lx : Lex P ops a H n v F D) {L : Nat → Bool} (hc : Closed ops L) {j : Nat} {oj : Oper} (hj : ops[j]? = some oj) (hLj : L j = false) :
    ∀ k, k ≤ ops.size → aL ops a v (add L j) k = if j < k then putA (aL ops a v L k) oj.dst (v j) else aL ops a v L k := by
  intro k
  induction k with
  | zero => intro _; simp [aL]
  | succ k ih =>
    intro hk
    have ih := ih (by omega)
    have hok : ops[k]? = some ops[k] := by simp [show k < ops.size by omega]
    simp only [aL, hok, Option.bind_some]
    by_cases hkj : k < j
    · rw [if_neg (show ¬ j < k by omega)] at ih
      rw [if_neg (show ¬ j < k + 1 by omega), ih]
      simp [add, show k ≠ j by omega]
    · by_cases hek : k = j
      · subst hek
        rw [if_neg (show ¬ k < k by omega)] at ih
        have : ops[k] = oj := by rw [hok] at hj; exact Option.some.inj hj
        rw [if_pos (show k < k + 1 by omega), ih, hLj, this]
        simp [add]
      · rw [if_pos (show j < k by omega)] at ih
        rw [if_pos (show j < k + 1 by omega), ih]
        simp only [add, hek, if_false]
        by_cases hLk : L k = true
        · rw [if_pos hLk, if_pos hLk]
          have hun := unordered hc hok hLk hLj
          obtain ⟨_, h2, _⟩ := Oper.apart_spec (lx.meet j k _ _ (by omega) hj hok hun).1
          exact putA_comm _ _ _ _ _ h2
        · rw [if_neg hLk, if_neg hLk]

/-- The heap behind one more operation. -/
theorem Lex.claimB (lx : Lex P ops a H n v F D) {L : Nat → Bool} (hc : Closed ops L) {j : Nat} {oj : Oper} (hj : ops[j]? = some oj) (hLj : L j = false)
    (hr : ∀ o, ops[j]? = some o → ∀ e ∈ o.after, Region.binds .any e = true → L e.on = true) {h' : Heap} (hh : H (j + 1) = weave (sub (F j) (H j)) (H j) h' (n j) (n (j + 1)))
    (hD1 : ∀ x, D j x = false → H (j + 1) x = H j x) (hD2 : ∀ x, D j x = true → (sub (F j) (H j) x).isSome = true ∨ (n j ≤ x ∧ x < n (j + 1))) (hD3 : ∀ x, n j ≤ x → x < n (j + 1) → D j x = true) :
    HL H D (add L j) ops.size = weave (sub (F j) (H j)) (HL H D L ops.size) h' (n j) (n (j + 1)) := by
  have hjl : j < ops.size := (Array.getElem?_eq_some_iff.1 hj).1
  funext x
  have hFx : (sub (F j) (H j) x).isSome = true → F j x = true := by
    intro h
    unfold sub at h
    split at h
    · assumption
    · cases h
  cases hD : D j x with
  | true =>
    have h1 : (sub (F j) (H j) x).isSome = true ∨ (n j ≤ x ∧ x < n (j + 1)) := hD2 x hD
    have hcond : ((sub (F j) (H j) x).isSome || (decide (n j ≤ x) && decide (x < n (j + 1)))) = true := by
      rcases h1 with h1 | h1
      · simp [h1]
      · simp [h1.1, h1.2]
    have hval : H (j + 1) x = h' x := by rw [hh]; simp only [weave]; rw [if_pos hcond]
    have key : ∀ k, k ≤ ops.size → j < k → HL H D (add L j) k x = h' x := by
      intro k
      induction k with
      | zero => intro _ h; omega
      | succ k ih =>
        intro hk hjk
        have hok : ops[k]? = some ops[k] := by simp [show k < ops.size by omega]
        simp only [HL]
        by_cases hek : k = j
        · subst hek
          simp [add, hD, hval]
        · have hlt : j < k := by omega
          rw [ih (by omega) hlt]
          simp only [add, hek, if_false]
          by_cases hLk : L k = true
          · have hun := unordered hc hok hLk hLj
            obtain ⟨_, hm⟩ := lx.meet j k _ _ hlt hj hok hun
            have hDk : D k x = false := by
              cases hDk : D k x with
              | false => rfl
              | true =>
                exfalso
                rcases h1 with h1 | h1
                · have := (hm x).2 hDk; rw [hFx h1] at this; cases this
                · have hFk := (hm x).1 hD
                  rcases (lx.step k _ hok).2 with ⟨_, _, _, _, h⟩ | ⟨_, _, _, h, _⟩
                  · rw [h x] at hDk; cases hDk
                  · rcases h x hDk with h | h
                    · unfold sub at h
                      rw [hFk] at h
                      cases h
                    · have := lx.mono (show j + 1 ≤ k by omega) (show k ≤ ops.size by omega); omega
            simp [hDk]
          · simp [hLk]
    rw [key ops.size (Nat.le_refl _) hjl]
    simp only [weave]
    rw [if_pos hcond]
  | false =>
    have key : ∀ k, k ≤ ops.size → HL H D (add L j) k x = HL H D L k x := by
      intro k
      induction k with
      | zero => intro _; rfl
      | succ k ih =>
        intro hk
        simp only [HL]
        rw [ih (by omega)]
        by_cases hek : k = j
        · subst hek; simp [hD]
        · simp [add, hek]
    rw [key ops.size (Nat.le_refl _)]
    simp only [weave]
    split
    · rename_i hcond
      simp only [Bool.or_eq_true, Bool.and_eq_true, decide_eq_true_eq] at hcond
      rcases hcond with h1 | h1
      · have hA := lx.claimA hc hj hLj hr (hFx h1) ops.size (Nat.le_refl _)
        rw [show min ops.size j = j by omega] at hA
        rw [hA, ← hD1 x hD, hh]
        simp only [weave]
        rw [if_pos (by simp [h1])]
      · rw [hD3 x h1.1 h1.2] at hD; cases hD
    · rfl

def cnt (L : Nat → Bool) : Nat → Nat
  | 0 => 0
  | k + 1 => cnt L k + if L k then 0 else 1

theorem cnt_congr {L L' : Nat → Bool} : ∀ k, (∀ i, i < k → L i = L' i) → cnt L k = cnt L' k
  | 0, _ => rfl
  | k + 1, h => by simp only [cnt]; rw [cnt_congr k fun i hi => h i (by omega), h k (by omega)]

theorem cnt_add {L : Nat → Bool} {j : Nat} (hL : L j = false) : ∀ k, j < k → cnt (add L j) k + 1 = cnt L k
  | 0, h => by omega
  | k + 1, h => by
    simp only [cnt]
    by_cases e : k = j
    · subst e
      rw [cnt_congr k (L := add L k) (L' := L) fun i hi => by simp [add]; omega]
      simp [add, hL]
    · have := cnt_add hL k (by omega)
      simp only [add, e, if_false]
      omega

theorem cnt_zero {L : Nat → Bool} : ∀ k, cnt L k = 0 → ∀ i, i < k → L i = true
  | 0, _, i, h => by omega
  | k + 1, h, i, hi => by
    simp only [cnt] at h
    by_cases e : i = k
    · subst e
      by_cases hl : L i = true
      · exact hl
      · simp [hl] at h
    · exact cnt_zero k (by omega) i (by omega)

theorem Rel.mono {G : Nat} {U U' : Nat → Prop} {μ : Map} {h : Heap} {w : World} (hu : ∀ x, U x → U' x) (r : Rel G U μ h w) : Rel G U' μ h w :=
  ⟨fun g hg => ⟨hu g (r.glob g hg).1, (r.glob g hg).2⟩, fun b k hb => hu b (r.used b k hb), r.at_, fun b k hb => (r.ok b k hb).mono hu fun _ _ => rfl, r.inj⟩

theorem Ext.mono {U U' U'' : Nat → Prop} {μ μ' : Map} {h h' : Heap} {w w' : World} (hu : ∀ x, U' x → U'' x) (e : Ext U μ h w U' μ' h' w') : Ext U μ h w U'' μ' h' w' :=
  { e with sub := fun b hb => hu b (e.sub b hb) }

/-- Where a run of the region stands that has done the operations L. -/
def Inv (P : Program) (ops : Array Oper) (a : Nat → List AV) (H : Nat → Heap) (n : Nat → Nat) (v : Nat → AV) (D : Nat → Nat → Bool) (U0 : Nat → Prop) (μ0 : Map) (w0 : World) (L : Nat → Bool) (act : Act) (w : World) : Prop :=
  ∃ μ, Rel P.globals.size (UL U0 n ops.size L) μ (HL H D L ops.size) w ∧ act.tmps.toList = (aL ops a v L ops.size).map (conc μ) ∧ (∀ u ∈ aL ops a v L ops.size, vok (UL U0 n ops.size L) μ u) ∧ act.defers = [] ∧
    Ext U0 μ0 (H 0) w0 (UL U0 n ops.size L) μ (HL H D L ops.size) w

theorem eval_says {act : Act} {μ : Map} {l : List AV} (h : act.tmps.toList = l.map (conc μ)) (x : Operand) : act.eval x = conc μ (ev l (cx x)) := by
  cases x with
  | tmp t =>
    simp only [Act.eval, cx, ev]
    have : act.tmps[t]? = (l.map (conc μ))[t]? := by rw [← h]; simp
    rw [Array.getD_eq_getD_getElem?, this, List.getElem?_map, List.getD]
    cases l[t]? with
    | none => simp [undef_conc]
    | some v => simp
  | const v => simp only [Act.eval, cx, ev, conc_ofValue]
  | global g => simp [Act.eval, cx, ev, conc]
  | func f => simp [Act.eval, cx, ev, conc, concL]

theorem put_says {act : Act} {μ μ' : Map} {U : Nat → Prop} {l : List AV} (h : act.tmps.toList = l.map (conc μ)) (hv : ∀ u ∈ l, vok U μ u) (ha : ∀ b, U b → μ' b = μ b) (dst : Option Nat) (u : AV) :
    (act.put dst (conc μ' u)).tmps.toList = (putA l dst u).map (conc μ') := by
  have hl : l.map (conc μ') = l.map (conc μ) := List.map_congr_left fun x hx => conc_congr ha x (hv x hx)
  cases dst with
  | none => simp only [Act.put, putA, hl, h]
  | some d => simp only [Act.put, putA, Array.toList_setIfInBounds, h, List.map_set, hl]

theorem put_defers (act : Act) (dst : Option Tmp) (u : Value) : (act.put dst u).defers = act.defers := by cases dst <;> rfl

theorem mem_putA {l : List AV} {dst : Option Nat} {u x : AV} (h : x ∈ putA l dst u) : x ∈ l ∨ x = u := by
  cases dst with
  | none => exact .inl h
  | some d => exact List.mem_or_eq_of_mem_set h

end
end Go.Eng
/- Engine, part 16: one walk serves every order. -/
namespace Go.Eng
open Go

section
variable {P : Program} {ops : Array Oper} {a : Nat → List AV} {H : Nat → Heap} {n : Nat → Nat} {v : Nat → AV} {F D : Nat → Nat → Bool}

theorem wanted_of {l : List AV} {o : Oper} {b : Bool} {act : Act} {μ : Map} (h : wantedA ops l o = some b) (hs : ∀ t ∈ o.looksAt ops, ∀ u, l[t]? = some u → act.tmps[t]? = some (conc μ u)) : Region.wanted o (yielded ops act.tmps) = b := by
  unfold wantedA at h
  unfold Region.wanted
  cases hg : o.guard with
  | none => simp only [hg] at h; simpa using h
  | some gw =>
    obtain ⟨g, want⟩ := gw
    simp only [hg] at h ⊢
    cases hd : (ops[g]?).bind (·.dst) with
    | none => simp [hd] at h
    | some t =>
      simp only [hd, Option.bind_some] at h
      have ht : t ∈ o.looksAt ops := by simp [Oper.looksAt, hg, hd]
      split at h
      case h_3 => cases h
      · rename_i b0 hb
        simp only [Option.some.injEq] at h
        have := hs t ht _ hb
        simp only [conc] at this
        have hy : yielded ops act.tmps g = some b0 := by simp [yielded, hd, this]
        rw [hy, ← h]
        cases b0 <;> cases want <;> rfl
      · rename_i hb
        simp only [Option.some.injEq] at h
        have := hs t ht _ hb
        simp only [conc] at this
        have hy : yielded ops act.tmps g = none := by simp [yielded, hd, this]
        rw [hy, ← h]
        rfl

theorem Closed.add {L : Nat → Bool} (hc : Closed ops L) {j : Nat} (hr : ∀ o, ops[j]? = some o → ∀ e ∈ o.after, Region.binds .any e = true → L e.on = true) : Closed ops (add L j) := by
  intro i o hi hL e he hb
  have up : ∀ k, L k = true → Eng.add L j k = true := fun k hk => by simp only [Eng.add]; split <;> simp [hk]
  by_cases hij : i = j
  · subst hij; exact up _ (hr o hi e he hb)
  · simp only [Eng.add, hij, if_false] at hL
    exact up _ (hc i o hi hL e he hb)

theorem ready_or_all (hback : ∀ j o, ops[j]? = some o → ∀ e ∈ o.after, Region.binds .any e = true → e.on < j) {listed : Array Bool} (hs : listed.size = ops.size) (h : Region.ready .any ops listed = []) :
    ∀ i, i < ops.size → listed.getD i false = true := by
  intro i
  induction i using Nat.strongRecOn with
  | _ i ih =>
    intro hi
    cases hl : listed.getD i false with
    | true => rfl
    | false =>
      exfalso
      have : i ∈ Region.ready .any ops listed := mem_ready.2 ⟨by
        have : i < listed.size := by omega
        simp [this] at hl ⊢; exact hl, ops[i], by simp [hi], fun e he hb => ih e.on (hback i _ (by simp [hi]) e he hb) (by have := hback i ops[i] (by simp [hi]) e he hb; omega)⟩
      rw [h] at this; cases this

theorem listed_add {listed : Array Bool} {j : Nat} (hj : j < listed.size) : (fun i => (listed.setIfInBounds j true).getD i false) = add (fun i => listed.getD i false) j := by
  funext i
  simp only [add]
  by_cases e : i = j
  · subst e; simp [hj]
  · rw [if_neg e]
    simp [Array.getElem?_setIfInBounds_ne (Ne.symm e)]

/-- At the end the heap and the frame are the walk's. -/
theorem Lex.final (lx : Lex P ops a H n v F D) {L : Nat → Bool} (hall : ∀ i, i < ops.size → L i = true) : ∀ k, k ≤ ops.size → HL H D L k = H k ∧ aL ops a v L k = a k
  | 0, _ => ⟨rfl, rfl⟩
  | k + 1, hk => by
    obtain ⟨h1, h2⟩ := lx.final hall k (by omega)
    have hok : ops[k]? = some ops[k] := by simp [show k < ops.size by omega]
    obtain ⟨s1, s2⟩ := lx.step k _ hok
    constructor
    · funext x
      simp only [HL, hall k (by omega), Bool.true_and, h1]
      split
      · rfl
      · rename_i hD
        have hD' : D k x = false := by simpa using hD
        rcases s2 with ⟨_, _, h, _⟩ | ⟨_, _, h, _⟩
        · rw [h]
        · rw [h x hD']
    · simp only [aL, hall k (by omega), if_true, hok, Option.bind_some, h2, s1]

theorem Lex.any (lx : Lex P ops a H n v F D) {U0 : Nat → Prop} {μ0 : Map} {w0 : World} (hav : Avoid U0 (n 0) (n ops.size)) {Q : Exit → Act → World → Prop}
    (hQ : ∀ μ act w, Rel P.globals.size (UI U0 (n 0) (n ops.size)) μ (H ops.size) w → act.tmps.toList = (a ops.size).map (conc μ) → (∀ u ∈ a ops.size, vok (UI U0 (n 0) (n ops.size)) μ u) → act.defers = [] →
      Ext U0 μ0 (H 0) w0 (UI U0 (n 0) (n ops.size)) μ (H ops.size) w → Q .normal act w) :
    ∀ (fuel : Nat) (listed : Array Bool) (act : Act) (w : World), listed.size = ops.size → Closed ops (fun i => listed.getD i false) → cnt (fun i => listed.getD i false) ops.size ≤ fuel →
      Inv P ops a H n v D U0 μ0 w0 (fun i => listed.getD i false) act w → wpAny P .any ops Q fuel listed act w := by
  -- when all is done
  have done : ∀ (listed : Array Bool) (act : Act) (w : World), (∀ i, i < ops.size → listed.getD i false = true) → Inv P ops a H n v D U0 μ0 w0 (fun i => listed.getD i false) act w → Q .normal act w := by
    rintro listed act w hall ⟨μ, h1, h2, h3, h4, h5⟩
    obtain ⟨f1, f2⟩ := lx.final (L := fun i => listed.getD i false) hall ops.size (Nat.le_refl _)
    rw [f1] at h1 h5
    rw [f2] at h2 h3
    have hu : ∀ x, UL U0 n ops.size (fun i => listed.getD i false) x → UI U0 (n 0) (n ops.size) x := by
      rintro x (h | ⟨k, hk, _, h⟩)
      · exact .inl h
      · have e1 := lx.mono (show 0 ≤ k by omega) (show k ≤ ops.size by omega)
        have e2 := lx.mono (show k + 1 ≤ ops.size by omega) (Nat.le_refl _)
        exact .inr (by omega)
    exact hQ μ act w (h1.mono hu) h2 (fun u hx => vok_mono hu (fun _ _ => rfl) u (h3 u hx)) h4 (h5.mono hu)
  intro fuel
  induction fuel with
  | zero =>
    intro listed act w hs hc hcnt hinv
    have hall := cnt_zero ops.size (by omega : cnt (fun i => listed.getD i false) ops.size = 0)
    refine ⟨?_, done listed act w hall hinv⟩
    cases hr : Region.ready .any ops listed with
    | nil => rfl
    | cons i l =>
      obtain ⟨h1, o, ho, _⟩ := mem_ready.1 (by rw [hr]; simp : i ∈ Region.ready .any ops listed)
      have hi : i < ops.size := (Array.getElem?_eq_some_iff.1 ho).1
      have := hall i hi
      have hi' : i < listed.size := by omega
      simp [hi'] at h1 this
      rw [this] at h1; cases h1
  | succ fuel ih =>
    intro listed act w hs hc hcnt hinv
    refine ⟨fun hr => done listed act w (ready_or_all lx.back hs hr) hinv, fun j hj => ?_⟩
    obtain ⟨hun, oj, hoj, hall⟩ := mem_ready.1 hj
    have hjl : j < ops.size := (Array.getElem?_eq_some_iff.1 hoj).1
    have hjs : j < listed.size := by omega
    have hLj : (fun i => listed.getD i false) j = false := by simp [hjs] at hun ⊢; exact hun
    have hready : ∀ o, ops[j]? = some o → ∀ e ∈ o.after, Region.binds .any e = true → (fun i => listed.getD i false) e.on = true := by
      intro o ho e he hb
      rw [hoj] at ho
      cases ho
      exact hall e he hb
    have hcl' := hc.add hready
    rw [← listed_add hjs] at hcl'
    have hcnt' : cnt (fun i => (listed.setIfInBounds j true).getD i false) ops.size ≤ fuel := by
      rw [listed_add hjs]
      have := cnt_add (L := fun i => listed.getD i false) hLj ops.size hjl
      omega
    have next := fun act' w' => ih (listed.setIfInBounds j true) act' w' (by simp [hs]) hcl' hcnt'
    rw [listed_add hjs] at next
    obtain ⟨μ, h1, h2, h3, h4, h5⟩ := hinv
    -- the slots that the operation looks at
    have slot : ∀ t ∈ oj.looksAt ops, (aL ops a v (fun i => listed.getD i false) ops.size)[t]? = (a j)[t]? := by
      intro t ht
      have := lx.claimC hc hoj hLj hready ht ops.size (Nat.le_refl _)
      rwa [show min ops.size j = j by omega] at this
    have slotc : ∀ t ∈ oj.looksAt ops, ∀ u, (a j)[t]? = some u → act.tmps[t]? = some (conc μ u) := by
      intro t ht u hu
      rw [← slot t ht] at hu
      rw [← Array.getElem?_toList, h2, List.getElem?_map, hu]; rfl
    have hD := lx.claimD hc hoj hLj ops.size (Nat.le_refl _)
    rw [if_pos hjl] at hD
    obtain ⟨s1, s2⟩ := lx.step j oj hoj
    unfold wpOp
    simp only [hoj]
    rcases s2 with ⟨hw, hv, hH, hn, hDn⟩ | ⟨hw, ⟨h', hev, hH⟩, hD1, hD2, hD3⟩
    · -- not wanted
      rw [wanted_of hw slotc]
      simp only [Bool.false_eq_true, if_false]
      refine next _ _ ⟨μ, ?_, ?_, ?_, ?_, ?_⟩
      all_goals
        have hU : UL U0 n ops.size (add (fun i => listed.getD i false) j) = UL U0 n ops.size (fun i => listed.getD i false) := by
          funext x
          apply propext
          constructor
          · rintro (h | ⟨k, hk, hL, h⟩)
            · exact .inl h
            · by_cases e : k = j
              · subst e; rw [hn] at h; omega
              · simp only [add, e, if_false] at hL; exact .inr ⟨k, hk, hL, h⟩
          · rintro (h | ⟨k, hk, hL, h⟩)
            · exact .inl h
            · refine .inr ⟨k, hk, ?_, h⟩
              simp only [add]; split
              · rfl
              · exact hL
        have hHL : HL H D (add (fun i => listed.getD i false) j) ops.size = HL H D (fun i => listed.getD i false) ops.size := by
          have : ∀ k, HL H D (add (fun i => listed.getD i false) j) k = HL H D (fun i => listed.getD i false) k := by
            intro k
            induction k with
            | zero => rfl
            | succ k ihk =>
              funext x
              simp only [HL, ihk]
              by_cases e : k = j
              · subst e; simp [hDn x]
              · simp [add, e]
          exact this _
      · rw [hU, hHL]; exact h1
      · have := put_says (μ' := μ) h2 h3 (fun _ _ => rfl) oj.dst (v j)
        rw [hv] at this hD
        rw [hD, ← this, undef_conc]
      · rw [hU, hD, hv]
        intro u hu
        rcases mem_putA hu with hu | rfl
        · exact h3 u hu
        · simp [undefA, vok, vokL]
      · rw [put_defers]; exact h4
      · rw [hU, hHL]; exact h5
    · rw [wanted_of hw slotc]
      simp only [if_true]
      refine .inl ?_
      have hsub : ∀ x k, sub (F j) (H j) x = some k → HL H D (fun i => listed.getD i false) ops.size x = some k := by
        intro x k hx
        unfold sub at hx
        split at hx
        · rename_i hF
          have := lx.claimA hc hoj hLj hready hF ops.size (Nat.le_refl _)
          rw [show min ops.size j = j by omega] at this
          rw [this]; exact hx
        · cases hx
      have hopl : ∀ t, Operand.tmp t ∈ oj.op.operands → t ∈ oj.looksAt ops := fun t ht => by
        simp only [Oper.looksAt, List.mem_append, List.mem_filterMap]
        exact .inl ⟨.tmp t, by simpa using ht, rfl⟩
      have hevc : ∀ x ∈ oj.op.operands, ev (a j) (cx x) = ev (aL ops a v (fun i => listed.getD i false) ops.size) (cx x) := by
        intro x hx
        cases x with
        | tmp t => simp only [cx, ev, List.getD]; rw [slot t (hopl t hx)]
        | const => rfl
        | global => rfl
        | func => rfl
      refine (hev.frame _ hsub).2 (UL U0 n ops.size fun i => listed.getD i false) μ w act _ Q ?_ h1 ?_ ?_ ?_
      · rintro x hx1 hx2 (h | ⟨k, hk, hL, h⟩)
        · have e1 := lx.mono (show 0 ≤ j by omega) (show j ≤ ops.size by omega)
          have e2 := lx.mono (show j + 1 ≤ ops.size by omega) (Nat.le_refl _)
          exact hav x (by omega) (by omega) h
        · have hkj : k ≠ j := by intro e; subst e; rw [hLj] at hL; cases hL
          rcases Nat.lt_or_ge k j with hlt | hge
          · have := lx.mono (show k + 1 ≤ j by omega) (show j ≤ ops.size by omega); omega
          · have := lx.mono (show j + 1 ≤ k by omega) (show k ≤ ops.size by omega); omega
      · intro x hx
        rw [hevc x hx]; exact eval_says h2 x
      · intro x hx
        rw [hevc x hx]; exact vok_ev h3 x
      · intro μ' w' r' e' hv'
        have hB := lx.claimB hc hoj hLj hready hH hD1 hD2 hD3
        have hU : UI (UL U0 n ops.size (fun i => listed.getD i false)) (n j) (n (j + 1)) = UL U0 n ops.size (add (fun i => listed.getD i false) j) := by
          funext x
          apply propext
          constructor
          · rintro ((h | ⟨k, hk, hL, h⟩) | h)
            · exact .inl h
            · refine .inr ⟨k, hk, ?_, h⟩
              simp only [add]; split
              · rfl
              · exact hL
            · exact .inr ⟨j, hjl, by simp [add], h⟩
          · rintro (h | ⟨k, hk, hL, h⟩)
            · exact .inl (.inl h)
            · by_cases e : k = j
              · subst e; exact .inr h
              · simp only [add, e, if_false] at hL; exact .inl (.inr ⟨k, hk, hL, h⟩)
        rw [← hB, hU] at r' e'
        rw [hU] at hv'
        refine next _ _ ⟨μ', r', ?_, ?_, ?_, h5.trans e'⟩
        · rw [hD]; exact put_says h2 h3 e'.agree oj.dst (v j)
        · rw [hD]
          intro u hu
          rcases mem_putA hu with hu | rfl
          · exact vok_mono e'.sub e'.agree u (h3 u hu)
          · exact hv'
        · rw [put_defers]; exact h4

/-- **A region whose order is open: one walk in the order of the text serves.** -/
theorem Lex.region (lx : Lex P ops a H n v F D) (hm : P.follows .mixedOrders = true) {id : Nat} {U : Nat → Prop} {μ : Map} {w : World} {act : Act} (hav : Avoid U (n 0) (n ops.size)) {Q : Exit → Act → World → Prop}
    (r : Rel P.globals.size U μ (H 0) w) (ht : act.tmps.toList = (a 0).map (conc μ)) (hv : ∀ u ∈ a 0, vok U μ u) (hd : act.defers = [])
    (hQ : ∀ μ' act' w', Rel P.globals.size (UI U (n 0) (n ops.size)) μ' (H ops.size) w' → act'.tmps.toList = (a ops.size).map (conc μ') → (∀ u ∈ a ops.size, vok (UI U (n 0) (n ops.size)) μ' u) → act'.defers = [] →
      Ext U μ (H 0) w (UI U (n 0) (n ops.size)) μ' (H ops.size) w' → Q .normal act' w') : (Code.region id ops true).wp P Q act w := by
  refine wp_region_any hm ?_
  have none : (fun i => (Array.replicate ops.size false).getD i false) = fun _ => false := by
    funext i
    by_cases h : i < ops.size <;> simp [h]
  have hw : Rel P.globals.size U μ (H 0) { w with drawn := w.drawn + 1 } := ⟨r.glob, r.used, r.at_, r.ok, r.inj⟩
  have hnoneH : ∀ k, HL H D (fun _ => false) k = H 0 := fun k => by
    induction k with
    | zero => rfl
    | succ k ih => funext x; simp [HL, ih]
  have hnonea : ∀ k, aL ops a v (fun _ => false) k = a 0 := fun k => by
    induction k with
    | zero => rfl
    | succ k ih => simp [aL, ih]
  have hnoneU : UL U n ops.size (fun _ => false) = U := by
    funext x; apply propext; constructor
    · rintro (h | ⟨_, _, h, _⟩)
      · exact h
      · cases h
    · exact .inl
  refine lx.any (U0 := U) (μ0 := μ) (w0 := w) hav hQ ops.size _ act _ (by simp) ?_ ?_ ?_
  · rw [none]; intro j o _ h; cases h
  · rw [none]
    have : ∀ k, cnt (fun _ => false) k ≤ k := fun k => by
      induction k with
      | zero => simp [cnt]
      | succ k ih => simp [cnt]; omega
    exact this _
  · rw [none]
    refine ⟨μ, ?_, ?_, ?_, hd, ?_⟩
    · rw [hnoneU, hnoneH]; exact hw
    · rw [hnonea]; exact ht
    · rw [hnonea, hnoneU]; exact hv
    · rw [hnoneU, hnoneH]
      exact ⟨fun _ h => h, fun _ _ => rfl, Nat.le_refl _, fun _ _ _ => rfl, fun b k hb hw => .inl ⟨b, k, hb, hw, rfl⟩, fun _ _ h => h, rfl, rfl, rfl⟩

end
end Go.Eng
