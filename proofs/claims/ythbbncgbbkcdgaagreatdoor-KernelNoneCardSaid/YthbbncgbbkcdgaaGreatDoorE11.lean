/- Engine, part 11: make, slicing, append, clear. -/
import Derived.Test.YthbbncgbbkcdgaaGreatDoorE10
namespace Go.Eng
open Go

section
variable {P : Program} {dst : Option Tmp} {type : TypeId} {pos : String} {after : Array Edge} {guard : Option (Nat × Bool)}

theorem wrap_small {c : Int} (h0 : 0 ≤ c) (h1 : c ≤ 2 ^ 48) : IntKind.i64.wrap c = c := by
  simp [IntKind.wrap, IntKind.bits, IntKind.signed]
  omega


theorem sound_mks (t : TypeId) (l c : Operand) (e : TypeId) (i : TypeInfo) (z : List AV) (hu : P.underlying t = some (.slice e)) (hi : P.info? e = some i) (hz : zeroCellsOf P e = some z) (h0 : i.size ≠ 0) :
    Sound P ⟨dst, .makeSlice t l c, type, pos, after, guard⟩ (.mks i.size i.bytes z (cx l) (cx c)) := by
  intro ρ a μ U h w n v rd eff hs ha r hn he
  simp only [aop] at he
  split at he
  case h_2 => cases he
  rename_i k1 l' k2 c' hx hy
  split at he
  case isFalse => cases he
  rename_i hc
  obtain ⟨hc1, hc2, hc3, hc4, hc5⟩ := hc
  simp only [Option.some.injEq, Prod.mk.injEq] at he
  obtain ⟨rfl, rfl, rfl⟩ := he
  obtain ⟨i', zv, hi', hzz, hzc, hzo⟩ := zero_of hz
  have : i' = i := by rw [hi] at hi'; exact (Option.some.inj hi').symm
  subst this
  have h1 : ρ l = .int k1 l' := by rw [hs l (by simp [Op.operands, Call.operands]), hx]; simp [conc]
  have h2 : ρ c = .int k2 c' := by rw [hs c (by simp [Op.operands, Call.operands]), hy]; simp [conc]
  have hwl := wrap_small (c := l') hc1 (by omega)
  have hwc := wrap_small (c := c') (by omega) (by omega)
  have hrep : (Array.range (c'.toNat * i'.size)).map (fun j => zv.cells[j % zv.cells.size]!) = ((repl z c'.toNat).map (conc μ)).toArray := by
    have := repl_conc (z := z) (by omega) c'.toNat μ (hzc μ)
    rwa [hc5] at this
  have hrun : (Instr.makeSlice t (ρ l) (ρ c)).run P w = .ok (.slice (some ⟨w.heap.size, 0, none⟩) l'.toNat c'.toNat) (w.alloc (.cells ((repl z c'.toNat).map (conc μ)).toArray e)) := by
    have hb1 : ¬ (2 ^ 48 < (i'.bytes : Int) * c') := by rw [Int.mul_comm]; omega
    have hb1' : ¬ (281474976710656 < (i'.bytes : Int) * c') := hb1
    have hneg : ¬ c' < 0 := by omega
    have hnegl : ¬ l' < 0 := by omega
    have hlc : ¬ c' < l' := by omega
    by_cases hl0 : c'.toNat * i'.size = 0
    · have hc0 : c'.toNat = 0 := by
        rcases Nat.mul_eq_zero.1 hl0 with h | h
        · exact h
        · exact absurd h h0
      have hr : Array.range 0 = #[] := rfl
      have hcz : c' = 0 := by omega
      subst hcz
      simp [Instr.makeSlice, run_underlying hu, h1, h2, asInt, asIntOf, sizeOf, typeInfo, hi, hwl, hwc, hnegl, hr, repl, newRow]
      omega
    · simp [Instr.makeSlice, run_underlying hu, h1, h2, asInt, asIntOf, sizeOf, typeInfo, zeroValue, hi, hzz, hwl, hwc, hb1', hneg, hnegl, hlc, hl0, hrep, newRow]
  refine Done.alloc (c := ((repl z c'.toNat).map (conc μ)).toArray) (ty := e) (w' := w.alloc (.cells ((repl z c'.toNat).map (conc μ)).toArray e)) r (hn rfl) (fun u hu => hzo U μ u (mem_repl hu)) (by simp) (fun j v hv => by simp [hv]) rfl rfl rfl rfl ?_ ?_
  · simp only [execOp, Sem.run_bind, hrun]
    simp [conc, updμ]
  · simp [vok, Un]; omega

theorem boundA_spec {x : Option AV} {d m r : Nat} (h : boundA x d m = some r) : (x = none ∧ r = d) ∨ ∃ k i, x = some (.int k i) ∧ 0 ≤ i ∧ i ≤ (m : Int) ∧ r = i.toNat := by
  unfold boundA at h
  split at h
  · exact .inl ⟨rfl, by simpa using h.symm⟩
  · rename_i k i
    split at h
    · rename_i hc; exact .inr ⟨k, i, rfl, hc.1, hc.2, by simpa using h.symm⟩
    · cases h
  · cases h

theorem run_sliceBound (k : IntKind) (i : Int) (y : Nat) (code : BoundsCode) (h0 : 0 ≤ i) (h1 : i ≤ (y : Int)) (w : World) : (Instr.sliceBound (.int k i) y code).run P w = .ok i.toNat w := by
  simp [Instr.sliceBound, asIntOf, h0, h1]

theorem run_bounds {μ : Map} {lo hi mx : Option AV} {len cap m h l : Nat}
    (hm : (mx = none ∧ m = cap) ∨ ∃ k i, mx = some (.int k i) ∧ 0 ≤ i ∧ i ≤ (cap : Int) ∧ m = i.toNat) (hmh : mx.isSome = true → hi.isSome = true)
    (hh : (hi = none ∧ h = len) ∨ ∃ k i, hi = some (.int k i) ∧ 0 ≤ i ∧ i ≤ (m : Int) ∧ h = i.toNat)
    (hl : (lo = none ∧ l = 0) ∨ ∃ k i, lo = some (.int k i) ∧ 0 ≤ i ∧ i ≤ (h : Int) ∧ l = i.toNat) (w : World) :
    (Instr.sliceBounds true len cap (lo.map (conc μ)) (hi.map (conc μ)) (mx.map (conc μ))).run P w = .ok (l, h, m) w := by
  rcases hm with ⟨rfl, rfl⟩ | ⟨k1, i1, rfl, m0, m1, rfl⟩ <;> rcases hh with ⟨rfl, rfl⟩ | ⟨k2, i2, rfl, h0, h1, rfl⟩ <;> rcases hl with ⟨rfl, rfl⟩ | ⟨k3, i3, rfl, l0, l1, rfl⟩
  all_goals first
    | simp at hmh
    | skip
  · simp [Instr.sliceBounds]
  · simp [Instr.sliceBounds, conc, run_sliceBound k3 i3 h _ l0 l1]
  · simp [Instr.sliceBounds, conc, run_sliceBound k2 i2 m _ h0 h1]
  · simp [Instr.sliceBounds, conc, run_sliceBound k2 i2 m _ h0 h1, run_sliceBound k3 i3 _ _ l0 l1]
  · simp [Instr.sliceBounds, conc, run_sliceBound k1 i1 _ _ m0 m1, run_sliceBound k2 i2 _ _ h0 h1]
  · simp [Instr.sliceBounds, conc, run_sliceBound k1 i1 _ _ m0 m1, run_sliceBound k2 i2 _ _ h0 h1, run_sliceBound k3 i3 _ _ l0 l1]

theorem opt_says {ρ : Operand → Value} {μ : Map} {a : List AV} (x : Option Operand) (hs : ∀ y, x = some y → ρ y = conc μ (ev a (cx y))) : x.map ρ = (((x.map cx).map (ev a)).map (conc μ)) := by
  cases x with
  | none => rfl
  | some x => simp [hs x rfl]

theorem run_boundsS {μ : Map} {lo hi : Option AV} {len h l : Nat}
    (hh : (hi = none ∧ h = len) ∨ ∃ k i, hi = some (.int k i) ∧ 0 ≤ i ∧ i ≤ (len : Int) ∧ h = i.toNat)
    (hl : (lo = none ∧ l = 0) ∨ ∃ k i, lo = some (.int k i) ∧ 0 ≤ i ∧ i ≤ (h : Int) ∧ l = i.toNat) (w : World) :
    (Instr.sliceBounds false len len (lo.map (conc μ)) (hi.map (conc μ)) none).run P w = .ok (l, h, len) w := by
  rcases hh with ⟨rfl, rfl⟩ | ⟨k2, i2, rfl, h0, h1, rfl⟩ <;> rcases hl with ⟨rfl, rfl⟩ | ⟨k3, i3, rfl, l0, l1, rfl⟩
  · simp [Instr.sliceBounds]
  · simp [Instr.sliceBounds, conc, run_sliceBound k3 i3 h _ l0 l1]
  · simp [Instr.sliceBounds, conc, run_sliceBound k2 i2 len _ h0 h1]
  · simp [Instr.sliceBounds, conc, run_sliceBound k2 i2 len _ h0 h1, run_sliceBound k3 i3 _ _ l0 l1]

theorem sound_slcS (t : TypeId) (x : Operand) (lo hi : Option Operand) (hu : P.underlying t = some .string) :
    Sound P ⟨dst, .slice t x lo hi none, type, pos, after, guard⟩ (.slcS (cx x) (lo.map cx) (hi.map cx)) := by
  intro ρ a μ U h w n v rd eff hs ha r hn he
  simp only [aop] at he
  split at he
  case h_2 => cases he
  rename_i s hx
  simp only [Option.bind_eq_some_iff, Option.map_eq_some_iff, Prod.mk.injEq] at he
  obtain ⟨h', hh, l, hl, rfl, rfl, rfl⟩ := he
  have hb := run_boundsS (P := P) (μ := μ) (boundA_spec hh) (boundA_spec hl) w
  rw [← opt_says (ρ := ρ) (μ := μ) (a := a) lo (fun y hy => hs y (by simp [Op.operands, hy])), ← opt_says (ρ := ρ) (μ := μ) (a := a) hi (fun y hy => hs y (by simp [Op.operands, hy]))] at hb
  refine Done.pure r ?_ (by simp [vok])
  have hxx : ρ x = .string s := by rw [hs x (by simp [Op.operands, Call.operands]), hx]; simp [conc]
  simp only [execOp, Instr.sliceAt, Sem.run_bind, run_underlying hu, Result.andThen_ok]
  simp [Instr.slice, run_underlying hu, hxx, hb, conc]

/-- how much is left of a block behind a place -/
theorem rest_add (m : MB) (off l : Nat) (h0 : 0 < m.esz) (h : l ≤ m.rest off) : m.rest (off + l * m.esz) = m.rest off - l := by
  unfold MB.rest at *
  rw [show m.size - (m.shift + (off + l * m.esz)) = (m.size - (m.shift + off)) - l * m.esz by omega]
  rw [Nat.mul_comm l m.esz, Nat.sub_mul_div]

theorem le_rest {m : MB} {off l : Nat} (h0 : 0 < m.esz) (h : m.shift + off + l * m.esz ≤ m.size) : l ≤ m.rest off := by
  unfold MB.rest
  rw [Nat.le_div_iff_mul_le h0]
  omega

theorem rest_fits {m : MB} {off l : Nat} (h0 : 0 < m.esz) (h1 : m.shift + off ≤ m.size) (h : l ≤ m.rest off) : m.shift + off + l * m.esz ≤ m.size := by
  unfold MB.rest at h
  rw [Nat.le_div_iff_mul_le h0] at h
  omega

theorem sound_slc (t : TypeId) (x : Operand) (lo hi mx : Option Operand) (e : TypeId) (i : TypeInfo) (hu : P.underlying t = some (.slice e)) (hi' : P.info? e = some i) (h0 : i.size ≠ 0) :
    Sound P ⟨dst, .slice t x lo hi mx, type, pos, after, guard⟩ (.slc i.size (cx x) (lo.map cx) (hi.map cx) (mx.map cx)) := by
  intro ρ a μ U h w n v rd eff hs ha r hn he
  have hv := ha x (by simp [Op.operands, Call.operands])
  simp only [aop, Option.bind_eq_some_iff, Option.map_eq_some_iff, Prod.mk.injEq] at he
  obtain ⟨rd', hrd, v', hv', rfl, rfl, rfl⟩ := he
  generalize hlo : (lo.map cx).map (ev a) = lo' at hv'
  generalize hhi : (hi.map cx).map (ev a) = hi'' at hv'
  generalize hmx : (mx.map cx).map (ev a) = mx' at hv'
  have key : ∀ (ad : Option Addr) (len cap l h m : Nat), ρ x = .slice ad len cap → (Instr.sliceBounds true len cap (lo.map ρ) (hi.map ρ) (mx.map ρ)).run P w = .ok (l, h, m) w →
      (execOp ρ ⟨dst, .slice t x lo hi mx, type, pos, after, guard⟩).run P w = .ok (.value (.slice (if m = l then ad else ad.map (·.add (l * i.size))) (h - l) (m - l))) w := by
    intro ad len cap l h m hx hb
    simp only [execOp, Instr.sliceAt, Sem.run_bind, run_underlying hu, Result.andThen_ok]
    simp [Instr.slice, run_underlying hu, hx, hb, sizeOf, typeInfo, hi']
  rw [opt_says (μ := μ) (a := a) lo (fun y hy => hs y (by simp [Op.operands, hy])), opt_says (μ := μ) (a := a) hi (fun y hy => hs y (by simp [Op.operands, hy])), opt_says (μ := μ) (a := a) mx (fun y hy => hs y (by simp [Op.operands, hy])), hlo, hhi, hmx] at key
  unfold sliceA at hv'
  split at hv'
  · cases hv'
  rename_i hmh
  have hmh' : mx'.isSome = true → hi''.isSome = true := by
    intro h1
    simp only [h1, Bool.true_and, Option.isNone_iff_eq_none] at hmh
    exact Option.isSome_iff_ne_none.2 hmh
  split at hv'
  · rename_i hx
    simp only [Option.bind_eq_bind, Option.bind_eq_some_iff, Option.some.injEq] at hv'
    obtain ⟨m, hm, h, hh, l, hl, rfl⟩ := hv'
    have hmz := boundA_spec hm
    have hhz := boundA_spec hh
    have hlz := boundA_spec hl
    have hm0 : m = 0 := by rcases hmz with ⟨_, h1⟩ | ⟨_, _, _, h1, h2, h3⟩ <;> omega
    subst hm0
    have hh0 : h = 0 := by rcases hhz with ⟨_, h1⟩ | ⟨_, _, _, h1, h2, h3⟩ <;> omega
    subst hh0
    have hl0 : l = 0 := by rcases hlz with ⟨_, h1⟩ | ⟨_, _, _, h1, h2, h3⟩ <;> omega
    subst hl0
    have hb := run_bounds (P := P) (μ := μ) (cap := 0) (len := 0) (m := 0) (h := 0) (l := 0) hmz hmh' hhz hlz w
    refine Done.pure r ?_ (by simp [vok])
    rw [key none 0 0 0 0 0 (by rw [hs x (by simp [Op.operands, Call.operands]), hx]; simp [conc]) hb]
    simp [conc]
  · rename_i b off p len c hx
    split at hv'
    · cases hv'
    rename_i hp
    have hp : p = 0 := by omega
    subst hp
    rw [hx] at hv
    simp only [vok] at hv
    simp only [Option.bind_eq_bind, Option.bind_eq_some_iff, Option.some.injEq] at hv'
    obtain ⟨m, hm, h, hh, l, hl, rfl⟩ := hv'
    have hmz := boundA_spec hm
    have hhz := boundA_spec hh
    have hlz := boundA_spec hl
    have hb := run_bounds (P := P) (μ := μ) hmz hmh' hhz hlz w
    have hhm : h ≤ m := by
      rcases hhz with ⟨e1, e2⟩ | ⟨_, _, _, h1, h2, h3⟩
      · rcases hmz with ⟨_, h1⟩ | ⟨_, _, h1, _⟩
        · have := hv.2.2; omega
        · rw [e1, h1] at hmh'; simp at hmh'
      · omega
    have hlh : l ≤ h := by rcases hlz with ⟨_, h1⟩ | ⟨_, _, _, h1, h2, h3⟩ <;> omega
    refine Done.pure r ?_ (by simp only [vok]; refine ⟨hv.1, trivial, by omega⟩)
    rw [key _ len c l h m (by rw [hs x (by simp [Op.operands, Call.operands]), hx]; simp only [conc]; rfl) hb]
    by_cases hml : m = l
    · simp [conc, hml]
    · simp [conc, hml, addr_add, Nat.add_assoc]
  · rename_i b off p len hx
    rw [hx] at hv
    simp only [vok] at hv
    obtain ⟨hUb, he0, hfit⟩ := hv
    have hcl : p + len ≤ (μ b).rest off := le_rest he0 hfit
    split at hv'
    · rename_i hms
      split at hv'
      · cases hv'
      rename_i hp
      have hp : p = 0 := by omega
      subst hp
      simp only [Option.bind_eq_bind, Option.bind_eq_some_iff, Option.some.injEq] at hv'
      obtain ⟨m, hm, h, hh, l, hl, rfl⟩ := hv'
      have hmz := boundA_spec hm
      have hhz := boundA_spec hh
      have hlz := boundA_spec hl
      have hmz' : (mx' = none ∧ m = (μ b).rest off) ∨ ∃ k i, mx' = some (.int k i) ∧ 0 ≤ i ∧ i ≤ ((μ b).rest off : Int) ∧ m = i.toNat := by
        rcases hmz with ⟨h1, _⟩ | ⟨k, j, h1, h2, h3, h4⟩
        · rw [h1] at hms; simp at hms
        · exact .inr ⟨k, j, h1, h2, by omega, h4⟩
      have hhz' : (hi'' = none ∧ h = len) ∨ ∃ k i, hi'' = some (.int k i) ∧ 0 ≤ i ∧ i ≤ (m : Int) ∧ h = i.toNat := by
        rcases hhz with ⟨h1, _⟩ | h2
        · have := hmh' hms; rw [h1] at this; simp at this
        · exact .inr h2
      have hb := run_bounds (P := P) (μ := μ) hmz' hmh' hhz' hlz w
      have hhm : h ≤ m := by
        rcases hhz with ⟨e1, e2⟩ | ⟨_, _, _, h1, h2, h3⟩
        · have := hmh' hms; rw [e1] at this; simp at this
        · omega
      have hlh : l ≤ h := by rcases hlz with ⟨_, h1⟩ | ⟨_, _, _, h1, h2, h3⟩ <;> omega
      refine Done.pure r ?_ (by simp only [vok]; refine ⟨hUb, trivial, by omega⟩)
      rw [key _ len ((μ b).rest off) l h m (by rw [hs x (by simp [Op.operands, Call.operands]), hx]; simp [conc]; rfl) hb]
      by_cases hml : m = l
      · simp [conc, hml]
      · simp [conc, hml, addr_add, Nat.add_assoc]
    · rename_i hms
      have hmn : mx' = none := by simpa using hms
      subst hmn
      simp only [Option.bind_eq_bind, Option.bind_eq_some_iff] at hv'
      obtain ⟨h, hh, l, hl, hv'⟩ := hv'
      have hhz := boundA_spec hh
      have hlz := boundA_spec hl
      have hhl : h ≤ len := by rcases hhz with ⟨_, h1⟩ | ⟨_, _, _, h1, h2, h3⟩ <;> omega
      have hlh : l ≤ h := by rcases hlz with ⟨_, h1⟩ | ⟨_, _, _, h1, h2, h3⟩ <;> omega
      have hesz : (μ b).esz = i.size := by
        rw [hx] at hrd
        simp only [eszOk] at hrd
        split at hrd
        · rename_i e' cs hb
          split at hrd
          · rename_i hee
            obtain ⟨c, ty, _, _, h3, _⟩ := r.at_ b _ hb
            rw [h3, hee]
          · cases hrd
        · cases hrd
      have hhz' : (hi'' = none ∧ h = len) ∨ ∃ k i, hi'' = some (.int k i) ∧ 0 ≤ i ∧ i ≤ ((((μ b).rest off - p : Nat)) : Int) ∧ h = i.toNat := by
        rcases hhz with h1 | ⟨k, j, h1, h2, h3, h4⟩
        · exact .inl h1
        · exact .inr ⟨k, j, h1, h2, by omega, h4⟩
      have hb := run_bounds (P := P) (μ := μ) (mx := none) (cap := (μ b).rest off - p) (m := (μ b).rest off - p) (.inl ⟨rfl, rfl⟩) hmh' hhz' hlz w
      have hk := key _ len ((μ b).rest off - p) l h ((μ b).rest off - p) (by rw [hs x (by simp [Op.operands, Call.operands]), hx]; simp only [conc]; rfl) hb
      split at hv'
      · rename_i hp
        split at hv'
        · rename_i hl0
          cases hv'
          have hl' : l = 0 := by omega
          have hh' : h = 0 := by omega
          subst hl'
          subst hh'
          subst hl0
          refine Done.pure r ?_ (by rw [hx]; simp only [vok]; exact ⟨hUb, he0, hfit⟩)
          rw [hk, hx]
          simp only [conc, Nat.sub_self, Nat.zero_mul, Option.map_some, Nat.sub_zero]
          by_cases hz : (μ b).rest off - p = 0
          · simp [hz]
          · simp [hz, Addr.add]
        · cases hv'
      · rename_i hp
        have hp : p = 0 := by omega
        subst hp
        simp only [Nat.sub_zero] at hk hb hhz'
        split at hv'
        · rename_i hll
          cases hv'
          have hra := rest_add (μ b) off l he0 (by omega)
          rw [hesz] at hra
          refine Done.pure r ?_ ?_
          · rw [hk]
            have hne : ¬ (μ b).rest off = l := by omega
            simp only [hne, if_false, conc, hra, Nat.zero_mul, ite_self, Nat.add_zero, Option.map_some, addr_add, Nat.add_assoc, Nat.sub_zero]
          · simp only [vok]
            refine ⟨hUb, he0, ?_⟩
            rw [hesz] at hfit ⊢
            have : (h - l) * i.size + l * i.size ≤ len * i.size := by rw [← Nat.add_mul]; exact Nat.mul_le_mul_right _ (by omega)
            simp only [Nat.zero_add] at hfit ⊢
            omega
        · rename_i hll
          cases hv'
          have hl' : l = len := by omega
          have hh' : h = len := by omega
          subst hl'
          subst hh'
          refine Done.pure r ?_ (by simp only [vok]; exact ⟨hUb, he0, by simpa using hfit⟩)
          rw [hk]
          simp only [conc, Nat.zero_mul, ite_self, Nat.add_zero, Nat.sub_self]
          by_cases hz : (μ b).rest off = h
          · simp [hz]
          · simp [hz, addr_add, hesz]
  · cases hv'

end
end Go.Eng
