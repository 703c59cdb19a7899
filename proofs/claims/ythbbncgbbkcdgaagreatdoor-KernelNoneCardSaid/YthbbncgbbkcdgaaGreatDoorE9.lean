/- Engine, part 9: the operations, continued: lengths, composite values, slices. -/
import Derived.Test.YthbbncgbbkcdgaaGreatDoorE8
namespace Go.Eng
open Go

section
variable {P : Program} {dst : Option Tmp} {type : TypeId} {pos : String} {after : Array Edge} {guard : Option (Nat × Bool)}

theorem conc_sl_len (μ : Map) {x : AV} {l : Nat} (h : lenA x = some l) : ∃ a c, conc μ x = .slice a l c := by
  cases x <;> simp [lenA] at h
  · rename_i b off lo len cap
    subst h
    cases cap <;> exact ⟨_, _, by simp only [conc]; rfl⟩
  · subst h; exact ⟨_, _, by simp only [conc]; rfl⟩

theorem sound_len (t : TypeId) (at_ : Array TypeId) (x : Operand) (e : TypeId) (h0 : at_[0]? = some t) (hu : P.underlying t = some (.slice e)) :
    Sound P ⟨dst, .call { callee := .builtin .len, args := #[x], argTypes := at_ }, type, pos, after, guard⟩ (.len (cx x)) := by
  intro ρ a μ U h w n v rd eff hs ha r hn he
  simp only [aop, Option.map_eq_some_iff, Prod.mk.injEq] at he
  obtain ⟨l, hl, rfl, rfl, rfl⟩ := he
  obtain ⟨ad, c, hc⟩ := conc_sl_len μ hl
  have h1 : ρ x = .slice ad l c := by rw [hs x (by simp [Op.operands, Call.operands]), hc]
  refine Done.pure r ?_ (by simp [vok])
  simp [execOp, resolve, invoke, builtin, Builtin.len_, h0, h1, run_underlying hu, goInt, conc]

theorem sound_lenStr (t : TypeId) (at_ : Array TypeId) (x : Operand) (h0 : at_[0]? = some t) (hu : P.underlying t = some .string) :
    Sound P ⟨dst, .call { callee := .builtin .len, args := #[x], argTypes := at_ }, type, pos, after, guard⟩ (.lenStr (cx x)) := by
  intro ρ a μ U h w n v rd eff hs ha r hn he
  simp only [aop] at he
  split at he
  case h_2 => cases he
  rename_i s hx
  cases he
  have h1 : ρ x = .string s := by rw [hs x (by simp [Op.operands, Call.operands]), hx]; simp [conc]
  refine Done.pure r ?_ (by simp [vok])
  simp [execOp, resolve, invoke, builtin, Builtin.len_, h0, h1, run_underlying hu, goInt, conc]

theorem sound_lenArr (t : TypeId) (at_ : Array TypeId) (x : Operand) (len : Nat) (e : TypeId) (h0 : at_[0]? = some t) (hu : P.underlying t = some (.array len e)) :
    Sound P ⟨dst, .call { callee := .builtin .len, args := #[x], argTypes := at_ }, type, pos, after, guard⟩ (.mv (.c (.int .i64 len))) := by
  intro ρ a μ U h w n v rd eff hs ha r hn he
  simp only [aop, ev] at he
  cases he
  refine Done.pure r ?_ (by simp [vok])
  have : (Builtin.len_ at_ type #[ρ x]).run P w = .ok (.int .i64 len) w := by
    unfold Builtin.len_
    simp [h0, run_underlying hu, goInt]
  simp [execOp, resolve, invoke, builtin, this, conc]

theorem sound_cap (t : TypeId) (at_ : Array TypeId) (x : Operand) (e : TypeId) (h0 : at_[0]? = some t) (hu : P.underlying t = some (.slice e)) :
    Sound P ⟨dst, .call { callee := .builtin .cap, args := #[x], argTypes := at_ }, type, pos, after, guard⟩ (.cap (cx x)) := by
  intro ρ a μ U h w n v rd eff hs ha r hn he
  simp only [aop] at he
  split at he
  case h_3 => cases he
  · rename_i hx
    cases he
    have h1 : ρ x = .slice none 0 0 := by rw [hs x (by simp [Op.operands, Call.operands]), hx]; simp [conc]
    refine Done.pure r ?_ (by simp [vok])
    simp [execOp, resolve, invoke, builtin, Builtin.cap_, h0, h1, run_underlying hu, goInt, conc]
  · rename_i b o p l c hx
    cases he
    have h1 : ρ x = .slice (some ⟨(μ b).blk, (μ b).shift + o, none⟩) l c := by rw [hs x (by simp [Op.operands, Call.operands]), hx]; simp [conc]
    refine Done.pure r ?_ (by simp [vok])
    simp [execOp, resolve, invoke, builtin, Builtin.cap_, h0, h1, run_underlying hu, goInt, conc]

theorem foldlM_max (w : World) (μ : Map) : ∀ (l : List AV) (x v : AV), maxA x l = some v → ((l.map (conc μ)).foldlM Builtin.max2 (conc μ x)).run P w = .ok (conc μ v) w
  | [], x, v, h => by simp only [maxA, Option.some.injEq] at h; subst h; simp
  | y :: l, x, v, h => by
    unfold maxA at h
    split at h
    · cases ‹_ :: _ = []›
    · rename_i k a k' b l' e1
      cases e1
      have := foldlM_max w μ l (.int k (if b > a then b else a)) v h
      simp only [List.map_cons, List.foldlM_cons, conc, Builtin.max2, Sem.run_bind, Sem.run_pure, Result.andThen_ok]
      simpa only [conc] using this
    · cases h

theorem foldlM_min (w : World) (μ : Map) : ∀ (l : List AV) (x v : AV), minA x l = some v → ((l.map (conc μ)).foldlM Builtin.min2 (conc μ x)).run P w = .ok (conc μ v) w
  | [], x, v, h => by simp only [minA, Option.some.injEq] at h; subst h; simp
  | y :: l, x, v, h => by
    unfold minA at h
    split at h
    · cases ‹_ :: _ = []›
    · rename_i k a k' b l' e1
      cases e1
      have := foldlM_min w μ l (.int k (if b < a then b else a)) v h
      simp only [List.map_cons, List.foldlM_cons, conc, Builtin.min2, Sem.run_bind, Sem.run_pure, Result.andThen_ok]
      simpa only [conc] using this
    · cases h

theorem vok_max {U : Nat → Prop} {μ : Map} : ∀ (l : List AV) (x v : AV), maxA x l = some v → vok U μ x → vok U μ v
  | [], x, v, h, hx => by simp only [maxA, Option.some.injEq] at h; subst h; exact hx
  | y :: l, x, v, h, hx => by
    unfold maxA at h
    split at h
    · cases ‹_ :: _ = []›
    · rename_i k a k' b l' e1
      cases e1
      exact vok_max l _ v h (by simp [vok])
    · cases h

theorem vok_min {U : Nat → Prop} {μ : Map} : ∀ (l : List AV) (x v : AV), minA x l = some v → vok U μ x → vok U μ v
  | [], x, v, h, hx => by simp only [minA, Option.some.injEq] at h; subst h; exact hx
  | y :: l, x, v, h, hx => by
    unfold minA at h
    split at h
    · cases ‹_ :: _ = []›
    · rename_i k a k' b l' e1
      cases e1
      exact vok_min l _ v h (by simp [vok])
    · cases h

theorem args_says {ρ : Operand → Value} {μ : Map} {a : List AV} {q : Array Operand} (hs : ∀ x ∈ q, ρ x = conc μ (ev a (cx x))) : q.map ρ = (((q.toList.map cx).map (ev a)).map (conc μ)).toArray := by
  apply Array.ext'
  rw [Array.toList_map, map_says (μ := μ) (a := a) fun x hx => hs x (Array.mem_toList_iff.1 hx)]
  simp [List.map_map, Function.comp_def]

theorem vok_args {U : Nat → Prop} {μ : Map} {a : List AV} {q : List Operand} (ha : ∀ x ∈ q, vok U μ (ev a (cx x))) : ∀ v ∈ (q.map cx).map (ev a), vok U μ v := by
  intro v hv
  simp only [List.map_map, List.mem_map, Function.comp] at hv
  obtain ⟨x, hx, rfl⟩ := hv
  exact ha x hx

theorem sound_mx (at_ : Array TypeId) (xs : Array Operand) : Sound P ⟨dst, .call { callee := .builtin .max, args := xs, argTypes := at_ }, type, pos, after, guard⟩ (.mx (xs.toList.map cx)) := by
  intro ρ a μ U h w n v rd eff hs ha r hn he
  simp only [aop] at he
  split at he
  case h_2 => cases he
  rename_i u l hl
  simp only [Option.map_eq_some_iff, Prod.mk.injEq] at he
  obtain ⟨v', hv', rfl, rfl, rfl⟩ := he
  have hv := vok_args (U := U) (μ := μ) (q := xs.toList) fun x hx => ha x (by simp [Op.operands, Call.operands, Array.mem_toList_iff.1 hx])
  rw [hl] at hv
  refine Done.pure r ?_ (vok_max l u v' hv' (hv u (by simp)))
  have h1 := args_says (μ := μ) (a := a) (q := xs) fun x hx => hs x (by simp [Op.operands, Call.operands, hx])
  rw [hl] at h1
  simp [execOp, resolve, invoke, builtin, Builtin.max_, h1, foldlM_max w μ l u v' hv']

theorem sound_mn (at_ : Array TypeId) (xs : Array Operand) : Sound P ⟨dst, .call { callee := .builtin .min, args := xs, argTypes := at_ }, type, pos, after, guard⟩ (.mn (xs.toList.map cx)) := by
  intro ρ a μ U h w n v rd eff hs ha r hn he
  simp only [aop] at he
  split at he
  case h_2 => cases he
  rename_i u l hl
  simp only [Option.map_eq_some_iff, Prod.mk.injEq] at he
  obtain ⟨v', hv', rfl, rfl, rfl⟩ := he
  have hv := vok_args (U := U) (μ := μ) (q := xs.toList) fun x hx => ha x (by simp [Op.operands, Call.operands, Array.mem_toList_iff.1 hx])
  rw [hl] at hv
  refine Done.pure r ?_ (vok_min l u v' hv' (hv u (by simp)))
  have h1 := args_says (μ := μ) (a := a) (q := xs) fun x hx => hs x (by simp [Op.operands, Call.operands, hx])
  rw [hl] at h1
  simp [execOp, resolve, invoke, builtin, Builtin.min_, h1, foldlM_min w μ l u v' hv']

/-! ### Composite values -/

theorem set_cells : ∀ (vs : List Value) (k off : Nat) (c : Array Value), off + k + vs.length ≤ c.size →
    (vs.zipIdx k).foldl (fun cs (p : Value × Nat) => cs.setIfInBounds (off + p.2) p.1) c = (c.toList.take (off + k) ++ vs ++ c.toList.drop (off + k + vs.length)).toArray
  | [], k, off, c, _ => by simp
  | v :: vs, k, off, c, hl => by
    have hk : off + k < c.size := by simp at hl; omega
    have ih := set_cells vs (k + 1) off (c.setIfInBounds (off + k) v) (by simp at hl ⊢; omega)
    simp only [List.zipIdx_cons, List.foldl_cons]
    rw [ih]
    congr 1
    have := list_seg_step c.toList (off + k) v vs (by simp at hl ⊢; omega)
    simpa [Array.toList_setIfInBounds, Nat.add_assoc] using this

/-- The model's 'fill' on values that the abstract ones say. -/
theorem fill_says (μ : Map) (place : Nat → Option (Nat × Nat)) : ∀ (qs : List (Nat × Nat × AV)) (ps : List (Nat × Value)) (cells : List AV) (r : List AV),
    ps.length = qs.length → (∀ (i : Nat) (p : Nat × Value) (q : Nat × Nat × AV), ps[i]? = some p → qs[i]? = some q → place p.1 = some (q.1, q.2.1) ∧ p.2 = conc μ q.2.2) → fillA cells qs = some r →
    Instr.fill place (cells.map (conc μ)).toArray ps = some (r.map (conc μ)).toArray
  | [], ps, cells, r, hl, _, h => by
    simp only [fillA, Option.some.injEq] at h
    subst h
    have : ps = [] := List.eq_nil_of_length_eq_zero (by simpa using hl)
    subst this
    simp [Instr.fill]
  | (off, size, v) :: qs, [], cells, r, hl, _, h => by simp at hl
  | (off, size, v) :: qs, (i, u) :: ps, cells, r, hl, hp, h => by
    obtain ⟨h1, h2⟩ := hp 0 (i, u) (off, size, v) rfl rfl
    simp only at h1 h2
    subst h2
    simp only [fillA] at h
    split at h
    case isFalse => cases h
    rename_i hc
    have hcs := cells_conc μ v
    have hsz : (conc μ v).cells.size = size := by rw [← size_of_map hcs, hc.1]
    have hcond : ¬ ((conc μ v).cells.size ≠ size ∨ off + (conc μ v).cells.size > (cells.map (conc μ)).toArray.size) := by
      simp [hsz, hc.2]
    have hset : ((conc μ v).cells.zipIdx.foldl (fun cs (p : Value × Nat) => cs.setIfInBounds (off + p.2) p.1) (cells.map (conc μ)).toArray) = ((splice cells off (cellsA v)).map (conc μ)).toArray := by
      rw [← Array.foldl_toList, Array.toList_zipIdx, hcs, set_cells _ 0 off _ (by simp; omega)]
      congr 1
      unfold splice
      simp [List.map_take, List.map_drop, List.append_assoc]
    have ih := fill_says μ place qs ps (splice cells off (cellsA v)) r (by simpa using hl) (fun j p q hj hq => hp (j + 1) p q (by simpa using hj) (by simpa using hq)) h
    simp only [Instr.fill, h1, hsz]
    rw [if_neg (by simpa using hc.2)]
    rw [← ih, ← hset]

theorem vok_fillA {U : Nat → Prop} {μ : Map} : ∀ (qs : List (Nat × Nat × AV)) (cells r : List AV), fillA cells qs = some r → (∀ v ∈ cells, vok U μ v) → (∀ q ∈ qs, vok U μ q.2.2) → ∀ v ∈ r, vok U μ v
  | [], cells, r, h, hc, _ => by simp only [fillA, Option.some.injEq] at h; subst h; exact hc
  | (off, size, v) :: qs, cells, r, h, hc, hq => by
    simp only [fillA] at h
    split at h
    case isFalse => cases h
    refine vok_fillA qs _ r h (fun u hu => ?_) fun q hq' => hq q (by simp [hq'])
    rcases mem_splice hu with hu | hu
    · exact hc u hu
    · exact vok_cellsA (hq (off, size, v) (by simp)) u hu

end
end Go.Eng
