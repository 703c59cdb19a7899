/- Engine, part 22: what the evaluator finds of an operation holds. -/
import Derived.Test.YthbbncgbbkcdgaaGreatDoorE21
namespace Go.Eng
open Go

/-! ### Trees of temporaries -/

def TOk (t : Tm) (len : Nat) : Prop := ∀ i, len ≤ i → t.get i = none

theorem getD_lst {t : Tm} {len : Nat} (ht : TOk t len) (i : Nat) : (lst t len).getD i undefA = (t.get i).getD undefA := by
  unfold lst
  rw [List.getD_eq_getElem?_getD, List.getElem?_map]
  by_cases h : i < len
  · rw [List.getElem?_range h]; simp
  · have : (List.range len)[i]? = none := by simp; omega
    rw [this, ht i (by omega)]; rfl

theorem tget_eq (t : Tm) (i : Nat) : tget t i = (t.get i).getD undefA := by
  unfold tget
  cases t.get i <;> rfl

theorem evT_eq {t : Tm} {len : Nat} (ht : TOk t len) : evT t = ev (lst t len) := by
  funext x
  cases x with
  | t i =>
    show tget t i = (lst t len).getD i undefA
    rw [getD_lst ht, tget_eq]
  | c v => rfl

theorem length_lst (t : Tm) (len : Nat) : (lst t len).length = len := by simp [lst]

theorem lst_set {t : Tm} {len d : Nat} {v : AV} (hl : len ≤ 500) (hd : d < len) : lst (Tr.set 9 t d (some v)) len = (lst t len).set d v := by
  apply List.ext_getElem?
  intro i
  unfold lst
  rw [List.getElem?_map, List.getElem?_set, List.getElem?_map]
  by_cases h : i < len
  · rw [List.getElem?_range h]
    simp only [Option.map_some]
    rw [Tr.get_set 9 t d _ i (by omega)]
    by_cases e : d = i
    · subst e; simp [hd]
    · have : i ≠ d := fun e' => e e'.symm
      simp [e, this]
  · have : (List.range len)[i]? = none := by simp; omega
    rw [this]
    have : ¬ d = i := by omega
    simp [this]

theorem tok_set {t : Tm} {len d : Nat} {v : Option AV} (ht : TOk t len) (hl : len ≤ 500) (hd : d < len) : TOk (Tr.set 9 t d v) len := by
  intro i hi
  rw [Tr.get_set 9 t d _ i (by omega)]
  have : i ≠ d := by omega
  simp [this, ht i hi]

theorem put_eq {t : Tm} {len : Nat} {dst : Option Nat} {v : AV} (ht : TOk t len) (hl : len ≤ 500) : lst (putT len t dst v) len = putA (lst t len) dst v ∧ TOk (putT len t dst v) len := by
  cases dst with
  | none => exact ⟨rfl, ht⟩
  | some d =>
    have e : putT len t (some d) v = Bool.rec (motive := fun _ => Tm) t (Tr.set 9 t d (some v)) (Nat.blt d len) := rfl
    rw [e]
    cases h : Nat.blt d len with
    | true =>
      have hd : d < len := by
        have : d + 1 ≤ len := Nat.le_of_ble_eq_true h
        omega
      exact ⟨lst_set hl hd, tok_set ht hl hd⟩
    | false =>
      have hd : len ≤ d := by
        by_cases hh : d < len
        · have := Nat.ble_eq_true_of_le (show d + 1 ≤ len from hh)
          rw [show Nat.blt d len = Nat.ble (d + 1) len from rfl] at h
          rw [this] at h; cases h
        · omega
      refine ⟨?_, ht⟩
      show lst t len = (lst t len).set d v
      rw [List.set_eq_of_length_le]
      rw [length_lst]; exact hd

theorem wanted_eq {ops : Array Oper} {t : Tm} {len : Nat} {o : Oper} {b : Bool} (ht : TOk t len) (h : wantedT ops t o = some b) : wantedA ops (lst t len) o = some b := by
  unfold wantedT at h
  unfold wantedA
  cases hg : o.guard with
  | none => simp only [hg] at h; exact h
  | some gw =>
    obtain ⟨g, want⟩ := gw
    simp only [hg] at h ⊢
    cases hd : (ops[g]?).bind (·.dst) with
    | none => simp [hd] at h
    | some d =>
      simp only [hd, Option.bind_some] at h ⊢
      have key : ∀ v, t.get d = some v → (lst t len)[d]? = some v := by
        intro v hv
        have hdl : d < len := by
          by_cases hh : d < len
          · exact hh
          · rw [ht d (Nat.le_of_not_lt hh)] at hv; cases hv
        unfold lst
        rw [List.getElem?_map, List.getElem?_range hdl]
        simp [hv]
      split at h
      · rename_i b' hb; rw [key _ hb]; exact h
      · rename_i hb; rw [key _ hb]; exact h
      · cases h

/-! ### How the machine grows -/

def Dom (m : M) : Prop := ∀ x, m.n ≤ x → m.h.get x = none
def Obs (m : M) : Prop := ∀ o ∈ m.ob, o.1 = o.2

structure Grow (m m' : M) : Prop where
  n : m.n ≤ m'.n
  dom : Dom m'
  rd : ∀ x, m.rd.testBit x = true → m'.rd.testBit x = true
  wr : ∀ x, m.wr.testBit x = true → m'.wr.testBit x = true
  chg : ∀ x, x < m.n → m'.wr.testBit x = false → m'.h.get x = m.h.get x
  some : ∀ x, x < m.n → m'.wr.testBit x = true → m.wr.testBit x = true ∨ (m.h.get x).isSome = true
  rdwr : ∀ x, x < m.n → m'.wr.testBit x = true → m.wr.testBit x = true ∨ m'.rd.testBit x = true
  ob : Obs m' → Obs m

theorem Grow.refl {m : M} (h : Dom m) : Grow m m := ⟨Nat.le_refl _, h, fun _ h => h, fun _ h => h, fun _ _ _ => rfl, fun _ _ h => .inl h, fun _ _ h => .inl h, fun h => h⟩

theorem Grow.wr0 {m m' : M} (g : Grow m m') {x : Nat} (h : m'.wr.testBit x = false) : m.wr.testBit x = false := by
  cases h' : m.wr.testBit x with
  | false => rfl
  | true => rw [g.wr x h'] at h; cases h

theorem Grow.trans {m m1 m2 : M} (g : Grow m m1) (g' : Grow m1 m2) : Grow m m2 where
  n := Nat.le_trans g.n g'.n
  dom := g'.dom
  rd x h := g'.rd x (g.rd x h)
  wr x h := g'.wr x (g.wr x h)
  chg x hx h := (g'.chg x (Nat.lt_of_lt_of_le hx g.n) h).trans (g.chg x hx (g'.wr0 h))
  some x hx h := by
    rcases g'.some x (Nat.lt_of_lt_of_le hx g.n) h with h1 | h1
    · exact g.some x hx h1
    · cases h2 : m1.wr.testBit x with
      | true => exact g.some x hx h2
      | false => exact .inr ((g.chg x hx h2) ▸ h1)
  rdwr x hx h := by
    rcases g'.rdwr x (Nat.lt_of_lt_of_le hx g.n) h with h1 | h1
    · rcases g.rdwr x hx h1 with h2 | h2
      · exact .inl h2
      · exact .inr (g'.rd x h2)
    · exact .inr h1
  ob h := g.ob (g'.ob h)

/-- The names that are looked at. -/
def Cov (F : Nat → Bool) (n n' rd : Nat) : Prop := (∀ x, n ≤ x → x < n' → F x = true) ∧ (∀ x, x < n → rd.testBit x = true → F x = true)

theorem Cov.fst {F : Nat → Bool} {m m1 m2 : M} (c : Cov F m.n m2.n m2.rd) (g : Grow m m1) (g' : Grow m1 m2) : Cov F m.n m1.n m1.rd :=
  ⟨fun x h1 h2 => c.1 x h1 (Nat.lt_of_lt_of_le h2 g'.n), fun x h1 h2 => c.2 x h1 (g'.rd x h2)⟩

theorem Cov.snd {F : Nat → Bool} {m m1 m2 : M} (c : Cov F m.n m2.n m2.rd) (g : Grow m m1) (g' : Grow m1 m2) : Cov F m1.n m2.n m2.rd :=
  ⟨fun x h1 h2 => c.1 x (Nat.le_trans g.n h1) h2, fun x h1 h2 => by
    by_cases h : x < m.n
    · exact c.2 x h h2
    · have := g'.n
      exact c.1 x (by omega) (by omega)⟩

/-! ### One operation -/

def OpOk (P : Program) (o : Oper) (a : List AV) (m : M) (v : AV) (m' : M) : Prop :=
  Grow m m' ∧ ∀ F, Cov F m.n m'.n m'.rd → Obs m' → OpEv P o a (sub F m.h.get) m.n v (sub F m'.h.get) m'.n

def CallOk (P : Program) (f : Nat) (args : List AV) (m : M) (v : AV) (m' : M) : Prop :=
  Grow m m' ∧ ∀ F, Cov F m.n m'.n m'.rd → Obs m' → FEv P f args (sub F m.h.get) m.n v (sub F m'.h.get) m'.n

def CallsOk (P : Program) (call : CallF) : Prop := ∀ f args m v m', Dom m → call f args m = some (v, m') → CallOk P f args m v m'

theorem mark_ok {v v' : AV} {m m' : M} (h : mark v m = (v', m')) : m'.h = m.h ∧ m'.n = m.n ∧ m'.rd = m.rd ∧ m'.wr = m.wr ∧ (Obs m' → Obs m ∧ v' = v) := by
  unfold mark at h
  split at h
  · cases h; exact ⟨rfl, rfl, rfl, rfl, fun h => ⟨h, rfl⟩⟩
  · split at h
    · cases h
      refine ⟨rfl, rfl, rfl, rfl, fun h => ⟨fun o ho => h o (List.mem_cons_of_mem _ ho), ?_⟩⟩
      exact (h _ (List.mem_cons_self ..)).symm
    · cases h; exact ⟨rfl, rfl, rfl, rfl, fun h => ⟨h, rfl⟩⟩

theorem Grow.marked {m m1 m2 : M} (g : Grow m m1) (h : m2.h = m1.h) (hn : m2.n = m1.n) (hr : m2.rd = m1.rd) (hw : m2.wr = m1.wr) (ho : Obs m2 → Obs m1) : Grow m m2 where
  n := by rw [hn]; exact g.n
  dom := by unfold Dom; rw [hn, h]; exact g.dom
  rd := by rw [hr]; exact g.rd
  wr := by rw [hw]; exact g.wr
  chg := by rw [h, hw]; exact g.chg
  some := by rw [hw]; exact g.some
  rdwr := by rw [hw, hr]; exact g.rdwr
  ob hh := g.ob (ho hh)

theorem marked_ok {P : Program} {o : Oper} {a : List AV} {m m1 m' : M} {v v' : AV} (ok : OpOk P o a m v m1) (h : mark v m1 = (v', m')) : OpOk P o a m v' m' := by
  obtain ⟨h1, h2, h3, h4, h5⟩ := mark_ok h
  refine ⟨ok.1.marked h1 h2 h3 h4 fun h => (h5 h).1, fun F c ob => ?_⟩
  rw [h2, h3] at c
  obtain ⟨ob', rfl⟩ := h5 ob
  rw [h1, h2]
  exact ok.2 F c ob'

theorem testBit_bits {l : List Nat} {x : Nat} : (bits l).testBit x = true ↔ x ∈ l := by
  induction l with
  | nil => simp [bits]
  | cons y l ih =>
    show ((1 <<< y) ||| bits l).testBit x = true ↔ _
    rw [Nat.testBit_or, Bool.or_eq_true, ih, Nat.one_shiftLeft, Nat.testBit_two_pow, List.mem_cons]
    constructor
    · rintro (h | h)
      · exact .inl (by simpa using Eq.symm (by simpa using h))
      · exact .inr h
    · rintro (h | h)
      · exact .inl (by simp [h])
      · exact .inr h

theorem testBit_lor (a b x : Nat) : (Nat.lor a b).testBit x = (a.testBit x || b.testBit x) := Nat.testBit_or a b x
theorem testBit_one (b x : Nat) : (Nat.shiftLeft 1 b).testBit x = decide (b = x) := by
  show (1 <<< b).testBit x = _
  rw [Nat.one_shiftLeft, Nat.testBit_two_pow]

theorem forced_eq {α : Type} {m : M} {r : Option α} {x : α} (h : forced m r = some x) : r = some x ∧ m.n ≤ 30000 := by
  unfold forced at h
  split at h
  · rename_i h1 _ _; exact ⟨h, Nat.le_of_ble_eq_true h1⟩
  · cases h

theorem blt_lt {a b : Nat} (h : Nat.blt a b = true) : a < b := Nat.le_of_ble_eq_true h

/-- What an effect does to the machine. -/
theorem effT_ok {m m' : M} {rd : List Nat} {eff : Eff} (hd : Dom m) (he : EffRd rd eff) (h : effT m rd eff = some m') (hb : ∀ y ∈ rd, y < m.n ∨ True) :
    Grow m m' ∧ (∀ y ∈ rd, m'.rd.testBit y = true) ∧ m'.n = m.n + eff.news ∧ m'.ob = m.ob ∧ ∀ F, Cov F m.n m'.n m'.rd → applyEff m.n (sub F m.h.get) eff = sub F m'.h.get := by
  cases eff with
  | no =>
    simp only [effT] at h
    split at h
    · cases h
      exact ⟨Grow.refl hd, by simp, rfl, rfl, fun F _ => rfl⟩
    · rename_i x l
      obtain ⟨h, hn⟩ := forced_eq h
      cases h
      refine ⟨⟨Nat.le_refl _, hd, fun y hy => by simp only [testBit_lor, hy, Bool.true_or], fun _ h => h, fun _ _ _ => rfl, fun _ _ h => .inl h, fun _ _ h => .inl h, fun h => h⟩, fun y hy => ?_, rfl, rfl, fun F _ => rfl⟩
      simp only [testBit_lor, testBit_bits.2 hy, Bool.or_true]
  | wr b off vs =>
    simp only [effT] at h
    split at h
    case h_2 => cases h
    rename_i e cs hbk
    split at h
    case h_2 => cases h
    rename_i hlt
    have hlt := blt_lt hlt
    obtain ⟨h, hn⟩ := forced_eq h
    cases h
    simp only at hn
    have hp : b + 1 < 2 ^ 16 := by have : (2 : Nat) ^ 16 = 65536 := rfl; omega
    refine ⟨⟨Nat.le_refl _, fun x hx => ?_, fun y hy => by simp only [testBit_lor, hy, Bool.true_or], fun y hy => by simp only [testBit_lor, hy, Bool.true_or], fun x hx hw => ?_, fun x hx hw => ?_, fun x hx hw => ?_, fun h => h⟩, fun y hy => by simp only [testBit_lor, testBit_bits.2 hy, Bool.or_true], rfl, rfl, fun F c => ?_⟩
    · show (Tr.set 16 m.h b _).get x = none
      have hxn : m.n ≤ x := hx
      rw [Tr.get_set _ _ _ _ _ hp, if_neg (by omega)]; exact hd x hxn
    · show (Tr.set 16 m.h b _).get x = _
      simp only [testBit_lor, testBit_one, Bool.or_eq_false_iff, decide_eq_false_iff_not] at hw
      rw [Tr.get_set _ _ _ _ _ hp, if_neg (fun e => hw.2 e.symm)]
    · simp only [testBit_lor, testBit_one, Bool.or_eq_true, decide_eq_true_eq] at hw
      rcases hw with hw | rfl
      · exact .inl hw
      · exact .inr (by rw [hbk]; rfl)
    · simp only [testBit_lor, testBit_one, Bool.or_eq_true, decide_eq_true_eq] at hw ⊢
      rcases hw with hw | rfl
      · exact .inl hw
      · exact .inr (.inr (testBit_bits.2 he))
    · have hF : F b = true := c.2 b hlt (by simp only [testBit_lor, testBit_bits.2 (show b ∈ rd from he), Bool.or_true])
      funext x
      simp only [applyEff, sub, hF, if_true, hbk]
      rw [Tr.get_set _ _ _ _ _ hp]
      by_cases e : x = b
      · subst e; simp [upd, hF]
      · simp [upd, e, sub]
  | al k =>
    simp only [effT] at h
    obtain ⟨h, hn⟩ := forced_eq h
    cases h
    simp only at hn
    have hp : m.n + 1 < 2 ^ 16 := by have : (2 : Nat) ^ 16 = 65536 := rfl; omega
    refine ⟨⟨Nat.le_succ _, fun x hx => ?_, fun y hy => by simp only [testBit_lor, hy, Bool.true_or], fun _ h => h, fun x hx hw => ?_, fun _ _ h => .inl h, fun _ _ h => .inl h, fun h => h⟩, fun y hy => by simp only [testBit_lor, testBit_bits.2 hy, Bool.or_true], rfl, rfl, fun F c => ?_⟩
    · show (Tr.set 16 m.h m.n _).get x = none
      have hxn : m.n + 1 ≤ x := hx
      rw [Tr.get_set _ _ _ _ _ hp, if_neg (by omega)]; exact hd x (by omega)
    · show (Tr.set 16 m.h m.n _).get x = _
      rw [Tr.get_set _ _ _ _ _ hp, if_neg (by omega)]
    · have hF : F m.n = true := c.1 m.n (Nat.le_refl _) (Nat.lt_succ_self _)
      funext x
      simp only [applyEff, sub]
      rw [Tr.get_set _ _ _ _ _ hp]
      by_cases e : x = m.n
      · subst e; simp [upd, hF]
      · simp [upd, e, sub]
  | ap b k =>
    simp only [effT] at h
    split at h
    case h_2 => cases h
    rename_i hlt
    have hlt := blt_lt hlt
    split at h
    case h_2 => cases h
    rename_i k0 hbk
    obtain ⟨h, hn⟩ := forced_eq h
    cases h
    simp only at hn
    have hp : b + 1 < 2 ^ 16 := by have : (2 : Nat) ^ 16 = 65536 := rfl; omega
    have hp' : m.n + 1 < 2 ^ 16 := by have : (2 : Nat) ^ 16 = 65536 := rfl; omega
    refine ⟨⟨Nat.le_succ _, fun x hx => ?_, fun y hy => by simp only [testBit_lor, hy, Bool.true_or], fun y hy => by simp only [testBit_lor, hy, Bool.true_or], fun x hx hw => ?_, fun x hx hw => ?_, fun x hx hw => ?_, fun h => h⟩, fun y hy => by simp only [testBit_lor, testBit_bits.2 hy, Bool.or_true], rfl, rfl, fun F c => ?_⟩
    · show (Tr.set 16 (Tr.set 16 m.h b none) m.n _).get x = none
      have hxn : m.n + 1 ≤ x := hx
      rw [Tr.get_set _ _ _ _ _ hp', if_neg (by omega), Tr.get_set _ _ _ _ _ hp, if_neg (by omega)]; exact hd x (by omega)
    · show (Tr.set 16 (Tr.set 16 m.h b none) m.n _).get x = _
      simp only [testBit_lor, testBit_one, Bool.or_eq_false_iff, decide_eq_false_iff_not] at hw
      rw [Tr.get_set _ _ _ _ _ hp', if_neg (by omega), Tr.get_set _ _ _ _ _ hp, if_neg (fun e => hw.2 e.symm)]
    · simp only [testBit_lor, testBit_one, Bool.or_eq_true, decide_eq_true_eq] at hw
      rcases hw with hw | rfl
      · exact .inl hw
      · exact .inr (by rw [hbk]; rfl)
    · simp only [testBit_lor, testBit_one, Bool.or_eq_true, decide_eq_true_eq] at hw ⊢
      rcases hw with hw | rfl
      · exact .inl hw
      · exact .inr (.inr (testBit_bits.2 he))
    · have hF : F b = true := c.2 b hlt (by simp only [testBit_lor, testBit_bits.2 (show b ∈ rd from he), Bool.or_true])
      have hF' : F m.n = true := c.1 m.n (Nat.le_refl _) (Nat.lt_succ_self _)
      funext x
      simp only [applyEff, sub]
      rw [Tr.get_set _ _ _ _ _ hp', Tr.get_set _ _ _ _ _ hp]
      by_cases e : x = m.n
      · subst e; simp [upd, hF']
      · by_cases e' : x = b
        · subst e'; simp [upd, e, hF]
        · simp [upd, e, e', sub]
  | setm b kv => exact absurd he (by simp [EffRd])

theorem simple_ok {P : Program} {o : Oper} {ro : ROp} {t : Tm} {len : Nat} {m m' : M} {v : AV} (hc : cop P o.type o.op = some ro) (ht : TOk t len) (hd : Dom m) (h : simpleS P t m ro = some (v, m')) : OpOk P o (lst t len) m v m' := by
  unfold simpleS at h
  rw [evT_eq ht, aopF_eq] at h
  split at h
  case h_2 => cases h
  rename_i u rd eff he
  split at h
  case h_2 => cases h
  rename_i m1 hm
  simp only [Option.some.injEq] at h
  obtain ⟨g, hr, hn, hob, ha⟩ := effT_ok hd (aop_rd he) hm (fun _ _ => .inr trivial)
  refine marked_ok ⟨g, fun F c _ => ?_⟩ h
  have hl : aop P (lst t len) (sub F m.h.get) m.n ro = some (u, rd, eff) := by
    refine aop_local he fun y hy => ?_
    unfold sub
    by_cases hy' : y < m.n
    · simp [c.2 y hy' (hr y hy)]
    · rw [hd y (by omega)]; simp
  have := OpEv.of_aop hc hl
  rw [ha F c, ← hn] at this
  exact this

end Go.Eng
