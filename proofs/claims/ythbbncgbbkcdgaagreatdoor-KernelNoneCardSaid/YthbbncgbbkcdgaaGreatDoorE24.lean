/- Engine, part 24: what the evaluator finds of regions holds, in the order of the text and in any order. -/
import Derived.Test.YthbbncgbbkcdgaaGreatDoorE23
namespace Go.Eng
open Go

section
variable {P : Program} {call : CallF} {ops : Array Oper} {len : Nat}

theorem marked_some {r : Option (AV × M)} {v : AV} {m' : M} (h : marked r = some (v, m')) : ∃ v1 m1, r = some (v1, m1) ∧ mark v1 m1 = (v, m') := by
  unfold marked at h
  split at h
  · rename_i v1 m1; exact ⟨v1, m1, rfl, by simpa using h⟩
  · cases h

theorem oper_ok (hcall : CallsOk P call) {o : Oper} {t : Tm} {m m' : M} {v : AV} (ht : TOk t len) (hd : Dom m) (h : operS P call o t m = some (v, m')) : OpOk P o (lst t len) m v m' := by
  unfold operS at h
  cases hc : cop P o.type o.op with
  | none => rw [hc] at h; cases h
  | some ro =>
    rw [hc] at h
    have h : opS P call t m ro = some (v, m') := h
    cases ro <;> first
      | exact simple_ok hc ht hd h
      | skip
    case call f args _ =>
      obtain ⟨as, ts, hop, rfl⟩ := cop_call hc
      obtain ⟨dst, op, type, pos, after, guard⟩ := o
      dsimp only at hop
      subst hop
      obtain ⟨v1, m1, h1, h2⟩ := marked_some h
      obtain ⟨g, hf⟩ := hcall _ _ _ _ _ hd h1
      refine marked_ok ⟨g, fun F c ob => OpEv.call ?_⟩ h2
      have := hf F c ob
      rwa [evT_eq ht] at this
    case callv g args _ =>
      obtain ⟨x, as, ts, hop, rfl, rfl⟩ := cop_callv hc
      obtain ⟨dst, op, type, pos, after, guard⟩ := o
      dsimp only at hop
      subst hop
      have h : callvS call ((as.toList.map cx).map (evT t)) m (evT t (cx x)) = some (v, m') := h
      rw [evT_eq ht] at h
      unfold callvS at h
      split at h
      case h_2 => cases h
      rename_i f p c hx
      obtain ⟨v1, m1, h1, h2⟩ := marked_some h
      obtain ⟨g, hf⟩ := hcall _ _ _ _ _ hd h1
      exact marked_ok ⟨g, fun F c ob => OpEv.callv hx (hf F c ob)⟩ h2
    case inv r nm args _ =>
      obtain ⟨x, as, ts, hop, rfl, rfl⟩ := cop_inv hc
      obtain ⟨dst, op, type, pos, after, guard⟩ := o
      dsimp only at hop
      subst hop
      have h : invS P call nm ((as.toList.map cx).map (evT t)) m (evT t (cx x)) = some (v, m') := h
      rw [evT_eq ht] at h
      unfold invS at h
      split at h
      case h_2 => cases h
      rename_i ty u hx
      split at h
      case h_2 => cases h
      rename_i f hm
      obtain ⟨v1, m1, h1, h2⟩ := marked_some h
      obtain ⟨g, hf⟩ := hcall _ _ _ _ _ hd h1
      exact marked_ok ⟨g, fun F c ob => OpEv.inv hx hm (hf F c ob)⟩ h2

theorem opsS_nil (t : Tm) (m : M) : opsS P call ops len [] t m = some (t, m) := rfl
theorem opsS_cons (o : Oper) (l : List Oper) (t : Tm) (m : M) : opsS P call ops len (o :: l) t m = match wantedT ops t o with
      | some true => match operS P call o t m with
        | some (v, m') => opsS P call ops len l (putT len t o.dst v) m'
        | none => none
      | some false => opsS P call ops len l (putT len t o.dst undefA) m
      | none => none := rfl

theorem drop_at {α : Type} {x : List α} {j : Nat} {o : α} {l : List α} (h : x.drop j = o :: l) : x[j]? = some o ∧ x.drop (j + 1) = l := by
  constructor
  · have := List.getElem?_drop (xs := x) (i := j) (j := 0)
    rw [h] at this
    simpa using this.symm
  · rw [← List.tail_drop, h]; rfl

theorem ops_ok (hcall : CallsOk P call) (hlen : len ≤ 500) : ∀ (l : List Oper) (j : Nat) (t : Tm) (m : M) (t' : Tm) (m' : M), ops.toList.drop j = l → TOk t len → Dom m → opsS P call ops len l t m = some (t', m') →
    Grow m m' ∧ TOk t' len ∧ ∀ F, Cov F m.n m'.n m'.rd → Obs m' → EvOps P ops (List.range' j l.length) (lst t len) (sub F m.h.get) m.n (lst t' len) (sub F m'.h.get) m'.n
  | [], j, t, m, t', m', _, ht, hd, h => by
    rw [opsS_nil] at h
    cases h
    exact ⟨Grow.refl hd, ht, fun F _ _ => EvOps.nil⟩
  | o :: l, j, t, m, t', m', hl, ht, hd, h => by
    obtain ⟨ho, hl'⟩ := drop_at hl
    rw [Array.getElem?_toList] at ho
    rw [opsS_cons] at h
    split at h
    · rename_i hw
      split at h
      case h_2 => cases h
      rename_i v m1 hop
      obtain ⟨g, hev⟩ := oper_ok hcall ht hd hop
      obtain ⟨p1, p2⟩ := put_eq (dst := o.dst) (v := v) ht hlen
      obtain ⟨g', ht', hev'⟩ := ops_ok hcall hlen l (j + 1) _ m1 t' m' hl' p2 g.dom h
      refine ⟨g.trans g', ht', fun F c ob => ?_⟩
      have h1 := hev F (c.fst g g') (g'.ob ob)
      have h2 := hev' F (c.snd g g') ob
      rw [p1] at h2
      rw [List.length_cons, List.range'_succ]
      exact EvOps.step ho (wanted_eq ht hw) h1 h2
    · rename_i hw
      obtain ⟨p1, p2⟩ := put_eq (dst := o.dst) (v := undefA) ht hlen
      obtain ⟨g', ht', hev'⟩ := ops_ok hcall hlen l (j + 1) _ m t' m' hl' p2 hd h
      refine ⟨g', ht', fun F c ob => ?_⟩
      have h2 := hev' F c ob
      rw [p1] at h2
      rw [List.length_cons, List.range'_succ]
      exact EvOps.skip ho (wanted_eq ht hw) h2
    · cases h

/-! ### Regions that draw their order -/

def M.zero (m : M) : M := ⟨m.h, m.n, 0, 0, m.t, m.ms, m.ob⟩
def M.plus (m m' : M) : M := ⟨m'.h, m'.n, Nat.lor m.rd m'.rd, Nat.lor m.wr m'.wr, m'.t, m'.ms, m'.ob⟩

theorem drawS_nil (before : Array Nat) (j : Nat) (hs : List Had) (t : Tm) (m : M) : drawS P call ops before len [] j hs t m = some (t, m) := rfl
theorem drawS_cons (before : Array Nat) (o : Oper) (l : List Oper) (j : Nat) (hs : List Had) (t : Tm) (m : M) : drawS P call ops before len (o :: l) j hs t m = match wantedT ops t o with
      | some true => match operS P call o t m.zero with
        | some (v, m') => match drawn (before.getD j 0) j hs m.n m' with
          | some hs' => forced (m.plus m') (drawS P call ops before len l (j + 1) hs' (putT len t o.dst v) (m.plus m'))
          | none => none
        | none => none
      | some false => drawS P call ops before len l (j + 1) hs (putT len t o.dst undefA) m
      | none => none := rfl

theorem Grow.plus {m m' : M} (g : Grow m.zero m') : Grow m (m.plus m') where
  n := g.n
  dom := g.dom
  rd x h := by show (Nat.lor _ _).testBit x = true; rw [testBit_lor, h, Bool.true_or]
  wr x h := by show (Nat.lor _ _).testBit x = true; rw [testBit_lor, h, Bool.true_or]
  chg x hx h := by
    have h : (Nat.lor m.wr m'.wr).testBit x = false := h
    rw [testBit_lor, Bool.or_eq_false_iff] at h
    exact g.chg x hx h.2
  some x hx h := by
    have h : (Nat.lor m.wr m'.wr).testBit x = true := h
    rw [testBit_lor, Bool.or_eq_true] at h
    rcases h with h | h
    · exact .inl h
    · rcases g.some x hx h with h' | h'
      · simp [M.zero] at h'
      · exact .inr h'
  rdwr x hx h := by
    have h : (Nat.lor m.wr m'.wr).testBit x = true := h
    rw [testBit_lor, Bool.or_eq_true] at h
    rcases h with h | h
    · exact .inl h
    · rcases g.rdwr x hx h with h' | h'
      · simp [M.zero] at h'
      · refine .inr ?_
        show (Nat.lor _ _).testBit x = true
        rw [testBit_lor, h', Bool.or_true]
  ob h := g.ob h

/-- The mask of an operation: what it is of the names at its beginning, and its new ones. -/
def mask (n n' b : Nat) : Nat := Nat.lor (Nat.mod b (Nat.shiftLeft 1 n)) (Nat.sub (Nat.shiftLeft 1 n') (Nat.shiftLeft 1 n))

theorem testBit_mask {n n' b x : Nat} (hn : n ≤ n') : (mask n n' b).testBit x = ((decide (x < n) && b.testBit x) || (decide (n ≤ x) && decide (x < n'))) := by
  unfold mask
  rw [testBit_lor]
  have e1 : (Nat.mod b (Nat.shiftLeft 1 n)).testBit x = (decide (x < n) && b.testBit x) := by
    show (b % (1 <<< n)).testBit x = _
    rw [Nat.one_shiftLeft, Nat.testBit_mod_two_pow]
  have e2 : (Nat.sub (Nat.shiftLeft 1 n') (Nat.shiftLeft 1 n)).testBit x = (decide (n ≤ x) && decide (x < n')) := by
    show ((1 <<< n') - (1 <<< n)).testBit x = _
    rw [Nat.one_shiftLeft, Nat.one_shiftLeft]
    have : 2 ^ n' - 2 ^ n = (2 ^ (n' - n) - 1) * 2 ^ n := by
      rw [Nat.sub_mul, ← Nat.pow_add, Nat.one_mul, Nat.sub_add_cancel hn]
    rw [this, Nat.testBit_mul_two_pow, Nat.testBit_two_pow_sub_one]
    by_cases h : n ≤ x
    · simp only [h, decide_true, Bool.true_and]
      congr 1
      apply propext
      omega
    · simp [h]
  rw [e1, e2]

def disj (r w r' w' : Nat) : Prop := ∀ x, (w.testBit x = true → r'.testBit x = false) ∧ (w'.testBit x = true → r.testBit x = false)

theorem land_zero {a b x : Nat} (h : Nat.beq (Nat.land a b) 0 = true) (ha : a.testBit x = true) : b.testBit x = false := by
  have h := Nat.eq_of_beq_eq_true h
  have := Nat.testBit_and a b x
  rw [show a &&& b = 0 from h, Nat.zero_testBit, ha, Bool.true_and] at this
  exact this.symm

theorem clash_no {before rd wr : Nat} : ∀ {l : List Had}, clash before rd wr l = false → ∀ x ∈ l, before.testBit x.i = false → disj x.rd x.wr rd wr
  | [], _, x, hx, _ => by cases hx
  | y :: l, h, x, hx, hb => by
    have h : (match Nat.testBit before y.i with
      | true => clash before rd wr l
      | false => match Nat.beq (Nat.land y.wr rd) 0, Nat.beq (Nat.land wr y.rd) 0 with
        | true, true => clash before rd wr l
        | _, _ => true) = false := h
    rcases List.mem_cons.1 hx with rfl | hx
    · rw [hb] at h
      simp only at h
      split at h
      · rename_i h1 h2
        exact fun z => ⟨land_zero h1, land_zero h2⟩
      · cases h
    · split at h
      · exact clash_no h x hx hb
      · split at h
        · exact clash_no h x hx hb
        · cases h

theorem drawn_some {before j : Nat} {hs hs' : List Had} {n : Nat} {m : M} (hn : n ≤ m.n) (h : drawn before j hs n m = some hs') :
    (mask n m.n m.rd = 0 ∧ mask n m.n m.wr = 0 ∧ hs' = hs) ∨ (hs' = ⟨j, mask n m.n m.rd, mask n m.n m.wr⟩ :: hs ∧ ∀ x ∈ hs, before.testBit x.i = false → disj x.rd x.wr (mask n m.n m.rd) (mask n m.n m.wr)) := by
  unfold drawn at h
  split at h
  · rename_i h1 h2 h3
    have h1 := Nat.eq_of_beq_eq_true h1
    have h2 := Nat.eq_of_beq_eq_true h2
    have h3 := Nat.eq_of_beq_eq_true h3
    have z : mask n m.n 0 = 0 := by
      apply Nat.eq_of_testBit_eq
      intro x
      rw [testBit_mask hn, h3]
      simp
    refine .inl ⟨by rw [h1]; exact z, by rw [h2]; exact z, ?_⟩
    cases h; rfl
  · simp only at h
    split at h
    · rename_i hc
      refine .inr ⟨?_, fun x hx hb => clash_no hc x hx hb⟩
      cases h; rfl
    · cases h

end
end Go.Eng
