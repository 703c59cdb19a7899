/- Engine, part 7: '==' on structs and arrays of integers and bools. -/
import Derived.Test.YthbbncgbbkcdgaaGreatDoorT3
import Derived.ChangeKeysEq
set_option linter.unusedSimpArgs false
set_option linter.unusedVariables false
set_option linter.unnecessarySimpa false
namespace Go.Eng
open Go

theorem eqCells_length : ∀ {xs ys : List AV} {r : Bool}, eqCells xs ys = some r → xs.length = ys.length
  | [], ys, r, h => by
    cases ys with
    | nil => rfl
    | cons => simp [eqCells] at h
  | x :: xs, ys, r, h => by
    unfold eqCells at h
    split at h
    · cases ‹_ :: _ = []›
    · rename_i k1 a l k2 b m e1
      cases e1
      split at h
      · simp only [Option.map_eq_some_iff] at h
        obtain ⟨r', h', _⟩ := h
        simp [eqCells_length h']
      · cases h
    · cases h

theorem eqCells_split : ∀ (k : Nat) {xs ys : List AV} {r : Bool}, eqCells xs ys = some r →
    ∃ r1 r2, eqCells (xs.take k) (ys.take k) = some r1 ∧ eqCells (xs.drop k) (ys.drop k) = some r2 ∧ r = (r1 && r2)
  | 0, xs, ys, r, h => ⟨true, r, by simp [eqCells], by simpa using h, by simp⟩
  | k + 1, [], ys, r, h => by
    cases ys with
    | nil => exact ⟨true, true, by simp [eqCells], by simp [eqCells], by simpa [eqCells] using h.symm⟩
    | cons => simp [eqCells] at h
  | k + 1, x :: xs, ys, r, h => by
    cases ys with
    | nil => simp [eqCells] at h
    | cons y ys =>
      unfold eqCells at h
      split at h
      · cases ‹_ :: _ = []›
      · rename_i k1 a l k2 b m e1 e2
        cases e1; cases e2
        split at h
        · rename_i hk
          simp only [Option.map_eq_some_iff] at h
          obtain ⟨r', h', rfl⟩ := h
          obtain ⟨r1, r2, h1, h2, rfl⟩ := eqCells_split k h'
          exact ⟨a == b && r1, r2, by simp [eqCells, hk, h1], by simpa using h2, by rw [Bool.and_assoc]⟩
        · cases h
      · cases h

section
variable {P : Program}

/-- A value of a type, by its cells. -/
def ValOf (P : Program) (μ : Map) (t : TypeId) (cs : List AV) (v : Value) : Prop :=
  match aggOf P t with
  | some true => v = .agg (cs.map (conc μ)).toArray
  | some false => ∃ c, cs = [c] ∧ v = conc μ c
  | none => False

theorem run_part {μ : Map} {t : TypeId} {g : Bool} {i : TypeInfo} (hg : aggOf P t = some g) (hi : P.info? t = some i) {cs : List AV} {off : Nat} {v : AV} (h : partA g cs off i.size = some v) (w : World) :
    (part t (cs.map (conc μ)).toArray off).run P w = .ok (conc μ v) w := by
  unfold partA at h
  cases g with
  | true =>
    simp only [if_true] at h
    split at h
    · cases h
      simp only [part, Sem.run_bind, run_aggOf hg, Result.andThen_ok, if_true, sizeOf, typeInfo, run_program, hi, Sem.run_pure, conc_agg]
      congr 2
      apply Array.ext'
      simp [List.extract, List.map_take, List.map_drop]
    · cases h
  | false =>
    simp only [Bool.false_eq_true, if_false] at h
    simp [part, run_aggOf hg, h]

theorem part_valOf {μ : Map} {t : TypeId} {g : Bool} {i : TypeInfo} (hg : aggOf P t = some g) (hi : P.info? t = some i) {cs : List AV} {off : Nat} (hl : ((cs.drop off).take i.size).length = i.size) (h1 : g = false → i.size = 1) (w : World) :
    ∃ v, (part t (cs.map (conc μ)).toArray off).run P w = .ok v w ∧ ValOf P μ t ((cs.drop off).take i.size) v := by
  cases g with
  | true =>
    refine ⟨_, run_part hg hi (v := .agg ((cs.drop off).take i.size)) (by simp [partA, hl]) w, ?_⟩
    simp [ValOf, hg, conc_agg]
  | false =>
    have hs := h1 rfl
    rw [hs] at hl ⊢
    cases hx : cs[off]? with
    | none =>
      have : cs.length ≤ off := by simpa using hx
      simp at hl; omega
    | some c =>
      refine ⟨_, run_part hg hi (v := c) (by simp [partA, hx]) w, ?_⟩
      have hlt : off < cs.length := (List.getElem?_eq_some_iff.1 hx).1
      have hd : (cs.drop off).take 1 = [c] := by
        rw [List.drop_eq_getElem_cons hlt]
        simp [(List.getElem?_eq_some_iff.1 hx).2]
      simp only [ValOf, hg]
      exact ⟨c, hd, rfl⟩

theorem info_of_und {t : TypeId} {d : TypeDesc} (h : P.underlying t = some d) : ∃ i, P.info? t = some i := by
  unfold Program.underlying at h
  cases hi : P.info? t with
  | none => simp [hi] at h
  | some i => exact ⟨i, rfl⟩

theorem cellsOf_eq {t : TypeId} {i : TypeInfo} (h : P.info? t = some i) : P.cellsOf t = i.size := by simp [Program.cellsOf, h]

def EqOk (P : Program) (D : Nat) (t : TypeId) : Prop := ∀ (w : World) (μ : Map) (xs ys : List AV) (r : Bool) (u v : Value), xs.length = P.cellsOf t → eqCells xs ys = some r → ValOf P μ t xs u → ValOf P μ t ys v →
  (Op.equalIn D t u v).run P w = .ok r w

/-- a flat type has a shape -/
theorem flat_agg {d : Nat} {t : TypeId} (h : flatT P d t = true) : ∃ g i, aggOf P t = some g ∧ P.info? t = some i ∧ (g = false → i.size = 1) := by
  cases d with
  | zero => simp [flatT] at h
  | succ d =>
    unfold flatT at h
    cases hu : P.underlying t with
    | none => simp [hu] at h
    | some k =>
      obtain ⟨i, hi⟩ := info_of_und hu
      simp only [hu] at h
      cases k <;> simp at h
      · exact ⟨false, i, by simp [aggOf, hu], hi, fun _ => by rw [cellsOf_eq hi] at h; exact h⟩
      · exact ⟨true, i, by simp [aggOf, hu], hi, by simp⟩
      · exact ⟨true, i, by simp [aggOf, hu], hi, by simp⟩

theorem step_eq {d D : Nat} {t : TypeId} (hf : flatT P d t = true) (ih : EqOk P D t) {μ : Map} {cs ds : List AV} {off : Nat} {r : Bool} (hl : off + P.cellsOf t ≤ cs.length)
    (he : eqCells ((cs.drop off).take (P.cellsOf t)) ((ds.drop off).take (P.cellsOf t)) = some r) (w : World) :
    ∃ u v, (part t (cs.map (conc μ)).toArray off).run P w = .ok u w ∧ (part t (ds.map (conc μ)).toArray off).run P w = .ok v w ∧ (Op.equalIn D t u v).run P w = .ok r w := by
  obtain ⟨g, i, hg, hi, h1⟩ := flat_agg hf
  rw [cellsOf_eq hi] at hl he
  have hlx : ((cs.drop off).take i.size).length = i.size := by simp; omega
  have hly : ((ds.drop off).take i.size).length = i.size := by rw [← eqCells_length he]; exact hlx
  obtain ⟨u, hu, hvu⟩ := part_valOf (μ := μ) hg hi hlx h1 w
  obtain ⟨v, hv, hvv⟩ := part_valOf (μ := μ) hg hi hly h1 w
  exact ⟨u, v, hu, hv, ih w μ _ _ r u v (by rw [hlx, cellsOf_eq hi]) he hvu hvv⟩

theorem run_fields {d D : Nat} (μ : Map) (cs ds : List AV) (w : World) : ∀ (fs : List Field) (off tot : Nat) (r : Bool), flatT.go P fs off = some tot → tot = cs.length →
    (∀ f ∈ fs, f.name ≠ "_" ∧ flatT P d f.type = true ∧ EqOk P D f.type) → eqCells (cs.drop off) (ds.drop off) = some r →
    (Op.eqFields D (cs.map (conc μ)).toArray (ds.map (conc μ)).toArray fs).run P w = .ok r w
  | [], off, tot, r, hgo, ht, _, he => by
    simp only [flatT.go, Option.some.injEq] at hgo
    have hl := eqCells_length he
    have : cs.drop off = [] := List.drop_eq_nil_of_le (by omega)
    rw [this] at he hl
    have : ds.drop off = [] := List.eq_nil_of_length_eq_zero (by simpa using hl.symm)
    rw [this] at he
    simp only [eqCells, Option.some.injEq] at he
    simp [Op.eqFields, ← he]
  | f :: fs, off, tot, r, hgo, ht, hall, he => by
    simp only [flatT.go] at hgo
    split at hgo
    case isFalse => cases hgo
    rename_i hoff
    subst hoff
    obtain ⟨hn, hf, ih⟩ := hall f (by simp)
    have hle : f.offset + P.cellsOf f.type ≤ cs.length := by
      have : ∀ (fs : List Field) (o t : Nat), flatT.go P fs o = some t → o ≤ t := by
        intro fs
        induction fs with
        | nil => intro o t h; simp only [flatT.go, Option.some.injEq] at h; omega
        | cons f fs ih => intro o t h; simp only [flatT.go] at h; (split at h; (have := ih _ _ h; omega); cases h)
      rw [← ht]; exact this _ _ _ hgo
    obtain ⟨r1, r2, e1, e2, rfl⟩ := eqCells_split (P.cellsOf f.type) he
    obtain ⟨u, v, hu, hv, hq⟩ := step_eq (μ := μ) hf ih hle e1 w
    rw [List.drop_drop, List.drop_drop] at e2
    have hrest := run_fields μ cs ds w fs (f.offset + P.cellsOf f.type) tot r2 hgo ht (fun g hg => hall g (by simp [hg])) e2
    simp only [Op.eqFields, hn, ne_eq, not_false_eq_true, if_true, Sem.run_bind, hu, hv, hq, Result.andThen_ok]
    cases r1
    · simp
    · simpa using hrest

theorem run_items {d D : Nat} {t : TypeId} (hf : flatT P d t = true) (ih : EqOk P D t) (μ : Map) (cs ds : List AV) (w : World) : ∀ (n j : Nat) (r : Bool), cs.length = (j + n) * P.cellsOf t →
    eqCells (cs.drop (j * P.cellsOf t)) (ds.drop (j * P.cellsOf t)) = some r →
    (Op.eqItems D t (P.cellsOf t) (cs.map (conc μ)).toArray (ds.map (conc μ)).toArray (List.range' j n)).run P w = .ok r w
  | 0, j, r, hl, he => by
    have hll := eqCells_length he
    have : cs.drop (j * P.cellsOf t) = [] := List.drop_eq_nil_of_le (by rw [hl]; simp)
    rw [this] at he hll
    have : ds.drop (j * P.cellsOf t) = [] := List.eq_nil_of_length_eq_zero (by simpa using hll.symm)
    rw [this] at he
    simp only [eqCells, Option.some.injEq] at he
    simp [Op.eqItems, ← he]
  | n + 1, j, r, hl, he => by
    obtain ⟨r1, r2, e1, e2, rfl⟩ := eqCells_split (P.cellsOf t) he
    obtain ⟨u, v, hu, hv, hq⟩ := step_eq (μ := μ) hf ih (off := j * P.cellsOf t) (by rw [hl, Nat.add_mul, Nat.succ_mul]; omega) e1 w
    rw [List.drop_drop, List.drop_drop, ← Nat.succ_mul] at e2
    have hrest := run_items hf ih μ cs ds w n (j + 1) r2 (by rw [hl]; congr 1; omega) e2
    simp only [List.range'_succ, Op.eqItems, Sem.run_bind, hu, hv, hq, Result.andThen_ok]
    cases r1
    · simp
    · simpa using hrest

theorem flat_eq : ∀ (d : Nat) (t : TypeId) (D : Nat), flatT P d t = true → d ≤ D → EqOk P D t
  | 0, _, _, h, _ => by simp [flatT] at h
  | d + 1, t, D, h, hD => by
    obtain ⟨D, rfl⟩ : ∃ D', D = D' + 1 := ⟨D - 1, by omega⟩
    intro w μ xs ys r u v hl he hu hv
    have hlen := eqCells_length he
    obtain ⟨g, i, hg, hi, h1⟩ := flat_agg h
    simp only [ValOf, hg] at hu hv
    unfold flatT at h
    cases hk : P.underlying t with
    | none => simp [hk] at h
    | some k =>
      simp only [hk] at h
      have hgk := hg
      simp only [aggOf, hk, Option.map_some, Option.some.injEq] at hgk
      cases k <;> simp only [Bool.false_eq_true] at h <;> simp only [] at hgk <;> subst hgk
      case int kk =>
        obtain ⟨c, rfl, rfl⟩ := hu
        obtain ⟨c', rfl, rfl⟩ := hv
        unfold eqCells at he
        split at he
        · cases ‹[_] = []›
        · rename_i e1 e2; cases e1; cases e2
          split at he
          · rename_i hkk; subst hkk
            simp only [eqCells, Option.map_some, Option.some.injEq, Bool.and_true] at he
            subst he
            simp only [conc]
            exact run_equalIn_int w D t _ _ _ _ hk
          · cases he
        · cases he
      case array n e =>
        simp only [Bool.and_eq_true, beq_iff_eq] at h
        subst hu; subst hv
        obtain ⟨g', i', hg', hi', h1'⟩ := flat_agg h.1
        rw [run_equalIn_array w D _ _ hk hi', List.range_eq_range']
        exact run_items h.1 (flat_eq d e D h.1 (by omega)) μ xs ys w n 0 r (by rw [hl, h.2]; simp) (by simpa using he)
      case struct fs =>
        simp only [Bool.and_eq_true, Bool.not_eq_true', List.all_eq_true, bne_iff_ne, ne_eq, beq_iff_eq] at h
        subst hu; subst hv
        have hfs : P.fieldsOf t = fs := by simp [Program.fieldsOf, hk]
        rw [run_equalIn_struct w D t _ _ (by rw [hfs]; exact hk) h.1.1, hfs]
        exact run_fields (d := d) μ xs ys w fs.toList 0 _ r h.2 hl.symm (fun f hf => ⟨(h.1.2 f hf).1, (h.1.2 f hf).2, flat_eq d f.type D (h.1.2 f hf).2 (by omega)⟩) (by simpa using he)

end
end Go.Eng
/- Engine, part 8: the operations, continued. -/
namespace Go.Eng
open Go

section
variable {P : Program} {dst : Option Tmp} {type : TypeId} {pos : String} {after : Array Edge} {guard : Option (Nat × Bool)}

theorem sound_aeq (op : BinOp) (t yt : TypeId) (x y : Operand) (g : Bool) (hw : aggOf P t = some true) (hq : P.eqGuardType P.depth t = false) (hf : flatT P 20 t = true) (hg : negOf op = some g) :
    Sound P ⟨dst, .binOp op t x y yt, type, pos, after, guard⟩ (.aeq g (P.cellsOf t) (cx x) (cx y)) := by
  intro ρ a μ U h w n v rd eff hs ha r hn he
  simp only [aop] at he
  split at he
  case h_2 => cases he
  rename_i p q hx hy
  split at he
  case isFalse => cases he
  rename_i hl
  simp only [Option.map_eq_some_iff, Prod.mk.injEq] at he
  obtain ⟨rr, hr, rfl, rfl, rfl⟩ := he
  refine Done.pure r (run_bin_of ?_) (by simp [vok])
  simp only [hs x (by simp [Op.operands, Call.operands]), hs y (by simp [Op.operands, Call.operands]), hx, hy, conc_agg]
  refine run_eq_of hg (fun op => run_eqGuard_agg w op t x y _ _ hq) ?_ rfl rfl
  exact flat_eq 20 t 10000 hf (by omega) w μ p q rr _ _ hl hr (by simp [ValOf, hw]) (by simp [ValOf, hw])

theorem sound_un (op : UnOp) (t : TypeId) (x : Operand) : Sound P ⟨dst, .unOp op t x, type, pos, after, guard⟩ (.un op (cx x)) := by
  intro ρ a μ U h w n v rd eff hs ha r hn he
  simp only [aop] at he
  split at he
  case h_3 => cases he
  all_goals
    rename_i hx
    simp only [Option.some.injEq, Prod.mk.injEq] at he
    obtain ⟨rfl, rfl, rfl⟩ := he
    exact Done.pure r (by simp [execOp, hs x (by simp [Op.operands, Call.operands]), hx, conc, Op.unary, Op.intArith]) (by simp [vok])

theorem sound_conv (s d : TypeId) (x : Operand) (k : IntKind) (hd : P.underlying d = some (.int k)) (hsrc : (P.underlying s).isSome = true) : Sound P ⟨dst, .convert s d x, type, pos, after, guard⟩ (.conv k (cx x)) := by
  intro ρ a μ U h w n v rd eff hs ha r hn he
  simp only [aop] at he
  split at he
  case h_2 => cases he
  rename_i k' m hx
  simp only [Option.some.injEq, Prod.mk.injEq] at he
  obtain ⟨rfl, rfl, rfl⟩ := he
  obtain ⟨ds, hds⟩ := Option.isSome_iff_exists.1 hsrc
  refine Done.pure r ?_ (by simp [vok])
  simp [execOp, hs x (by simp [Op.operands, Call.operands]), hx, conc, convert, run_underlying hd, run_underlying hds, Conv.intToInt]

theorem sound_mki (t : TypeId) (x : Operand) (d : TypeDesc) (hu : P.underlying t = some d) (hd : ∀ ms, d ≠ .interface ms) : Sound P ⟨dst, .makeInterface t x, type, pos, after, guard⟩ (.mki t (cx x)) := by
  intro ρ a μ U h w n v rd eff hs ha r hn he
  simp only [aop, Option.some.injEq, Prod.mk.injEq] at he
  obtain ⟨rfl, rfl, rfl⟩ := he
  refine Done.pure r ?_ (by simp only [vok]; exact ha x (by simp [Op.operands, Call.operands]))
  have : (Instr.makeInterface t (ρ x)).run P w = .ok (.iface t (ρ x)) w := by
    cases d <;> first
      | exact absurd rfl (hd _)
      | simp [Instr.makeInterface, run_underlying hu]
  rw [hs x (by simp [Op.operands, Call.operands])] at this
  simp [execOp, this, hs x (by simp [Op.operands, Call.operands]), conc]

theorem map_says {ρ : Operand → Value} {μ : Map} {a : List AV} {l : List Operand} (hs : ∀ x ∈ l, ρ x = conc μ (ev a (cx x))) : l.map ρ = (l.map cx).map (fun x => conc μ (ev a x)) := by
  rw [List.map_map]; exact List.map_congr_left fun x hx => hs x hx

theorem sound_mkf (f : Fn) (p c : Array Operand) : Sound P ⟨dst, .makeFunc f p c, type, pos, after, guard⟩ (.mkf f (p.toList.map cx) (c.toList.map cx)) := by
  intro ρ a μ U h w n v rd eff hs ha r hn he
  simp only [aop, Option.some.injEq, Prod.mk.injEq] at he
  obtain ⟨rfl, rfl, rfl⟩ := he
  refine Done.pure r ?_ ?_
  · have h1 : ∀ q : Array Operand, (∀ x ∈ q, x ∈ p ∨ x ∈ c) → q.map ρ = (((q.toList.map cx).map (ev a)).map (conc μ)).toArray := fun q hq => by
      apply Array.ext'
      rw [Array.toList_map, map_says (μ := μ) (a := a) fun x hx => hs x (by simpa [Op.operands] using hq x (Array.mem_toList_iff.1 hx))]
      simp [List.map_map, Function.comp_def]
    simp [execOp, Instr.makeFunc, conc, concL_eq, h1 p (fun _ h => .inl h), h1 c (fun _ h => .inr h)]
  · simp only [vok]
    refine ⟨vokL_iff.2 fun u hu => ?_, vokL_iff.2 fun u hu => ?_⟩
    · simp only [List.map_map, List.mem_map, Function.comp] at hu; obtain ⟨x, hx, rfl⟩ := hu; exact ha x (by simp [Op.operands, Array.mem_toList_iff.1 hx])
    · simp only [List.map_map, List.mem_map, Function.comp] at hu; obtain ⟨x, hx, rfl⟩ := hu; exact ha x (by simp [Op.operands, Array.mem_toList_iff.1 hx])

theorem sound_fa (t : TypeId) (x : Operand) (fi : Nat) (fs : Array Field) (f : Field) (i : TypeInfo) (hu : P.underlying t = some (.struct fs)) (hf : fs[fi]? = some f) (hi : P.info? f.type = some i) (hsz : i.size ≠ 0) :
    Sound P ⟨dst, .fieldAddr t x fi, type, pos, after, guard⟩ (.fa f.offset (cx x)) := by
  intro ρ a μ U h w n v rd eff hs ha r hn he
  have hv := ha x (by simp [Op.operands, Call.operands])
  simp only [aop] at he
  split at he
  case h_2 => cases he
  rename_i b o hx
  simp only [Option.some.injEq, Prod.mk.injEq] at he
  obtain ⟨rfl, rfl, rfl⟩ := he
  rw [hx] at hv
  refine Done.pure r ?_ (by simpa [vok] using hv)
  simp [execOp, Instr.fieldAt, run_underlying hu, hf, Instr.sureAddr, hs x (by simp [Op.operands, Call.operands]), hx, conc, fieldPlace, sizeOf, typeInfo, hi, hsz, addr_add, Nat.add_assoc]

theorem sound_fld (t : TypeId) (x : Operand) (fi : Nat) (fs : Array Field) (f : Field) (g : Bool) (i : TypeInfo) (hu : P.underlying t = some (.struct fs)) (hf : fs[fi]? = some f) (hg : aggOf P f.type = some g) (hi : P.info? f.type = some i) :
    Sound P ⟨dst, .field t x fi, type, pos, after, guard⟩ (.fld g f.offset i.size (cx x)) := by
  intro ρ a μ U h w n v rd eff hs ha r hn he
  have hv := ha x (by simp [Op.operands, Call.operands])
  simp only [aop] at he
  split at he
  case h_2 => cases he
  rename_i cs hx
  simp only [Option.map_eq_some_iff, Prod.mk.injEq] at he
  obtain ⟨v', hv', rfl, rfl, rfl⟩ := he
  rw [hx] at hv
  simp only [vok] at hv
  refine Done.pure r ?_ ?_
  · simp [execOp, Instr.field, run_underlying hu, hf, asAgg, hs x (by simp [Op.operands, Call.operands]), hx, conc_agg, run_part hg hi hv']
  · unfold partA at hv'
    cases g
    · simp only [Bool.false_eq_true, if_false] at hv'; exact vokL_iff.1 hv _ (List.mem_of_getElem? hv')
    · simp only [if_true] at hv'
      split at hv'
      · cases hv'; simp only [vok]; exact vokL_iff.2 fun u hu => vokL_iff.1 hv u (List.mem_of_mem_drop (List.mem_of_mem_take hu))
      · cases hv'

theorem vok_partA {U : Nat → Prop} {μ : Map} {g : Bool} {cs : List AV} {off k : Nat} {v : AV} (h : partA g cs off k = some v) (hc : ∀ u ∈ cs, vok U μ u) : vok U μ v := by
  unfold partA at h
  cases g
  · simp only [Bool.false_eq_true, if_false] at h; exact hc _ (List.mem_of_getElem? h)
  · simp only [if_true] at h
    split at h
    · cases h; simp only [vok]; exact vokL_iff.2 fun u hu => hc u (List.mem_of_mem_drop (List.mem_of_mem_take hu))
    · cases h

theorem sound_iaA (t : TypeId) (x y : Operand) (len : Nat) (e : TypeId) (i : TypeInfo) (hu : P.underlying t = some (.array len e)) (hi : P.info? e = some i) :
    Sound P ⟨dst, .indexAddr t x y, type, pos, after, guard⟩ (.iaA len i.size (cx x) (cx y)) := by
  intro ρ a μ U h w n v rd eff hs ha r hn he
  have hv := ha x (by simp [Op.operands, Call.operands])
  simp only [aop] at he
  split at he
  case h_2 => cases he
  rename_i b o k j hx hy
  split at he
  case isFalse => cases he
  rename_i hj
  simp only [Option.some.injEq, Prod.mk.injEq] at he
  obtain ⟨rfl, rfl, rfl⟩ := he
  rw [hx] at hv
  refine Done.pure r ?_ (by simpa [vok] using hv)
  have h1 : ρ x = .pointer (some ⟨(μ b).blk, (μ b).shift + o, none⟩) := by rw [hs x (by simp [Op.operands, Call.operands]), hx]; simp [conc]
  have h2 : ρ y = .int k j := by rw [hs y (by simp [Op.operands, Call.operands]), hy]; simp [conc]
  simp [execOp, Instr.indexAt, run_underlying hu, Instr.sureAddr, h1, h2, asIntOf, hj.1, hj.2, sizeOf, typeInfo, hi, addr_add, conc, Nat.add_assoc]

theorem sound_iaS (t : TypeId) (x y : Operand) (e : TypeId) (i : TypeInfo) (hu : P.underlying t = some (.slice e)) (hi : P.info? e = some i) :
    Sound P ⟨dst, .indexAddr t x y, type, pos, after, guard⟩ (.iaS i.size (cx x) (cx y)) := by
  intro ρ a μ U h w n v rd eff hs ha r hn he
  have hv := ha x (by simp [Op.operands, Call.operands])
  simp only [aop] at he
  split at he
  case h_2 => cases he
  rename_i b o p l c k j hx hy
  split at he
  case isFalse => cases he
  rename_i hj
  simp only [Option.some.injEq, Prod.mk.injEq] at he
  obtain ⟨rfl, rfl, rfl⟩ := he
  obtain ⟨rfl, hj1, hj2⟩ := hj
  rw [hx] at hv
  refine Done.pure r ?_ (by simp only [vok] at hv ⊢; exact hv.1)
  have h2 : ρ y = .int k j := by rw [hs y (by simp [Op.operands, Call.operands]), hy]; simp [conc]
  cases c with
  | some c =>
    have h1 : ρ x = .slice (some ⟨(μ b).blk, (μ b).shift + o, none⟩) l c := by rw [hs x (by simp [Op.operands, Call.operands]), hx]; simp [conc]
    simp [execOp, Instr.indexAt, run_underlying hu, h1, h2, asIntOf, hj1, hj2, sizeOf, typeInfo, hi, addr_add, conc, Nat.add_assoc]
  | none =>
    have h1 : ρ x = .slice (some ⟨(μ b).blk, (μ b).shift + o, none⟩) l ((μ b).rest o) := by rw [hs x (by simp [Op.operands, Call.operands]), hx]; simp [conc]
    simp [execOp, Instr.indexAt, run_underlying hu, h1, h2, asIntOf, hj1, hj2, sizeOf, typeInfo, hi, addr_add, conc, Nat.add_assoc]

theorem sound_ixA (t : TypeId) (x y : Operand) (len : Nat) (e : TypeId) (g : Bool) (i : TypeInfo) (hu : P.underlying t = some (.array len e)) (hg : aggOf P e = some g) (hi : P.info? e = some i) :
    Sound P ⟨dst, .index t x y, type, pos, after, guard⟩ (.ixA len i.size g (cx x) (cx y)) := by
  intro ρ a μ U h w n v rd eff hs ha r hn he
  have hv := ha x (by simp [Op.operands, Call.operands])
  simp only [aop] at he
  split at he
  case h_2 => cases he
  rename_i cs k j hx hy
  split at he
  case isFalse => cases he
  rename_i hj
  simp only [Option.map_eq_some_iff, Prod.mk.injEq] at he
  obtain ⟨v', hv', rfl, rfl, rfl⟩ := he
  rw [hx] at hv
  simp only [vok] at hv
  refine Done.pure r ?_ (vok_partA hv' (vokL_iff.1 hv))
  have h1 : ρ x = .agg (cs.map (conc μ)).toArray := by rw [hs x (by simp [Op.operands, Call.operands]), hx, conc_agg]
  have h2 : ρ y = .int k j := by rw [hs y (by simp [Op.operands, Call.operands]), hy]; simp [conc]
  simp [execOp, Instr.index, run_underlying hu, h1, h2, asIntOf, hj.1, hj.2, sizeOf, typeInfo, hi, run_part hg hi hv']

theorem sound_ixS (t : TypeId) (x y : Operand) (hu : P.underlying t = some .string) : Sound P ⟨dst, .index t x y, type, pos, after, guard⟩ (.ixS (cx x) (cx y)) := by
  intro ρ a μ U h w n v rd eff hs ha r hn he
  simp only [aop] at he
  split at he
  case h_2 => cases he
  rename_i s k j hx hy
  split at he
  case isFalse => cases he
  rename_i hj
  simp only [Option.map_eq_some_iff, Prod.mk.injEq] at he
  obtain ⟨c, hc, rfl, rfl, rfl⟩ := he
  refine Done.pure r ?_ (by simp [vok])
  have h1 : ρ x = .string s := by rw [hs x (by simp [Op.operands, Call.operands]), hx]; simp [conc]
  have h2 : ρ y = .int k j := by rw [hs y (by simp [Op.operands, Call.operands]), hy]; simp [conc]
  simp [execOp, Instr.index, run_underlying hu, h1, h2, asIntOf, hj, hc, conc]

theorem sound_ext (x : Operand) (j : Nat) : Sound P ⟨dst, .extract x j, type, pos, after, guard⟩ (.ext (cx x) j) := by
  intro ρ a μ U h w n v rd eff hs ha r hn he
  have hv := ha x (by simp [Op.operands, Call.operands])
  simp only [aop] at he
  split at he
  case h_2 => cases he
  rename_i vs hx
  simp only [Option.map_eq_some_iff, Prod.mk.injEq] at he
  obtain ⟨v', hv', rfl, rfl, rfl⟩ := he
  rw [hx] at hv
  simp only [vok] at hv
  refine Done.pure r ?_ (vokL_iff.1 hv _ (List.mem_of_getElem? hv'))
  have h1 : ρ x = .tuple (vs.map (conc μ)).toArray := by rw [hs x (by simp [Op.operands, Call.operands]), hx, conc_tup]
  simp [execOp, Instr.extract, h1, hv']

theorem sound_taC (x : Operand) (xt t : TypeId) (comma : Bool) (z : Value) (i : TypeInfo) (d : TypeDesc) (hu : P.underlying t = some d) (hd : ∀ ms, d ≠ .interface ms) (hi : P.info? t = some i) (hz : i.zero = some z) :
    Sound P ⟨dst, .typeAssert x xt t comma, type, pos, after, guard⟩ (.taC comma (cx x) t (ofValue z)) := by
  intro ρ a μ U h w n v rd eff hs ha r hn he
  have hv := ha x (by simp [Op.operands, Call.operands])
  have hzr : (zeroValue t).run P w = .ok z w := by simp [zeroValue, typeInfo, hi, hz]
  simp only [aop] at he
  split at he
  · rename_i t' u hx
    rw [hx] at hv
    simp only [vok] at hv
    have h1 : ρ x = .iface t' (conc μ u) := by rw [hs x (by simp [Op.operands, Call.operands]), hx]; simp [conc]
    split at he
    · rename_i htt
      subst htt
      cases he
      refine Done.pure r ?_ ?_
      · cases comma <;> (cases d <;> first | exact absurd rfl (hd _) | simp [execOp, Instr.typeAssert, run_underlying hu, h1, conc, concL])
      · cases comma <;> simp [vok, vokL, hv]
    · rename_i htt
      split at he
      · rename_i hc
        cases he
        subst hc
        refine Done.pure r ?_ ?_
        · cases d <;> first | exact absurd rfl (hd _) | simp [execOp, Instr.typeAssert, run_underlying hu, h1, conc, concL, htt, hzr, conc_ofValue]
        · simp [vok, vokL, vok_ofValue]
      · cases he
  · rename_i hx
    have h1 : ρ x = .nilIface := by rw [hs x (by simp [Op.operands, Call.operands]), hx]; simp [conc]
    split at he
    · rename_i hc
      cases he
      subst hc
      refine Done.pure r ?_ ?_
      · cases d <;> first | exact absurd rfl (hd _) | simp [execOp, Instr.typeAssert, run_underlying hu, h1, conc, concL, hzr, conc_ofValue]
      · simp [vok, vokL, vok_ofValue]
    · cases he
  · cases he

theorem sound_taI (x : Operand) (xt t : TypeId) (comma : Bool) (z : Value) (i : TypeInfo) (want : Array (String × TypeId)) (hu : P.underlying t = some (.interface want)) (hi : P.info? t = some i) (hz : i.zero = some z) :
    Sound P ⟨dst, .typeAssert x xt t comma, type, pos, after, guard⟩ (.taI comma (cx x) want (ofValue z)) := by
  intro ρ a μ U h w n v rd eff hs ha r hn he
  have hv := ha x (by simp [Op.operands, Call.operands])
  have hzr : (zeroValue t).run P w = .ok z w := by simp [zeroValue, typeInfo, hi, hz]
  simp only [aop] at he
  split at he
  · rename_i t' u hx
    rw [hx] at hv
    have h1 : ρ x = .iface t' (conc μ u) := by rw [hs x (by simp [Op.operands, Call.operands]), hx]; simp [conc]
    simp only [Option.bind_eq_some_iff] at he
    obtain ⟨i', hi', he⟩ := he
    split at he
    · rename_i hm
      cases he
      refine Done.pure r ?_ ?_
      · cases comma <;> simp [execOp, Instr.typeAssert, run_underlying hu, h1, conc, concL, typeInfo, hi', hm]
      · cases comma <;> simp only [vok, vokL, Bool.false_eq_true, if_false, if_true, and_true] <;> simpa [vok] using hv
    · rename_i m hm
      split at he
      · rename_i hc
        cases he
        subst hc
        refine Done.pure r ?_ ?_
        · simp [execOp, Instr.typeAssert, run_underlying hu, h1, conc, concL, typeInfo, hi', hm, hzr, conc_ofValue]
        · simp [vok, vokL, vok_ofValue]
      · cases he
  · rename_i hx
    have h1 : ρ x = .nilIface := by rw [hs x (by simp [Op.operands, Call.operands]), hx]; simp [conc]
    split at he
    · rename_i hc
      cases he
      subst hc
      refine Done.pure r ?_ ?_
      · simp [execOp, Instr.typeAssert, run_underlying hu, h1, conc, concL, hzr, conc_ofValue]
      · simp [vok, vokL, vok_ofValue]
    · cases he
  · cases he

end
end Go.Eng
/- Engine, part 9: the operations, continued: lengths, composite values, slices. -/
namespace Go.Eng
open Go

section
variable {P : Program} {dst : Option Tmp} {type : TypeId} {pos : String} {after : Array Edge} {guard : Option (Nat × Bool)}

theorem conc_sl_len (μ : Map) {x : AV} {l : Nat} (h : lenA x = some l) : ∃ a c, conc μ x = .slice a l c := by
  cases x <;> simp [lenA] at h
  · rename_i b off lo len cap
    subst h
    cases cap <;> exact ⟨_, _, by simp only [conc]; rfl⟩
  · subst h; exact ⟨_, _, by simp only [conc]; rfl⟩

theorem sound_len (t : TypeId) (at_ : Array TypeId) (x : Operand) (e : TypeId) (h0 : at_[0]? = some t) (hu : P.underlying t = some (.slice e)) :
    Sound P ⟨dst, .call { callee := .builtin .len, args := #[x], argTypes := at_ }, type, pos, after, guard⟩ (.len (cx x)) := by
  intro ρ a μ U h w n v rd eff hs ha r hn he
  simp only [aop, Option.map_eq_some_iff, Prod.mk.injEq] at he
  obtain ⟨l, hl, rfl, rfl, rfl⟩ := he
  obtain ⟨ad, c, hc⟩ := conc_sl_len μ hl
  have h1 : ρ x = .slice ad l c := by rw [hs x (by simp [Op.operands, Call.operands]), hc]
  refine Done.pure r ?_ (by simp [vok])
  simp [execOp, resolve, invoke, builtin, Builtin.len_, h0, h1, run_underlying hu, goInt, conc]

theorem sound_lenStr (t : TypeId) (at_ : Array TypeId) (x : Operand) (h0 : at_[0]? = some t) (hu : P.underlying t = some .string) :
    Sound P ⟨dst, .call { callee := .builtin .len, args := #[x], argTypes := at_ }, type, pos, after, guard⟩ (.lenStr (cx x)) := by
  intro ρ a μ U h w n v rd eff hs ha r hn he
  simp only [aop] at he
  split at he
  case h_2 => cases he
  rename_i s hx
  cases he
  have h1 : ρ x = .string s := by rw [hs x (by simp [Op.operands, Call.operands]), hx]; simp [conc]
  refine Done.pure r ?_ (by simp [vok])
  simp [execOp, resolve, invoke, builtin, Builtin.len_, h0, h1, run_underlying hu, goInt, conc]

theorem sound_lenArr (t : TypeId) (at_ : Array TypeId) (x : Operand) (len : Nat) (e : TypeId) (h0 : at_[0]? = some t) (hu : P.underlying t = some (.array len e)) :
    Sound P ⟨dst, .call { callee := .builtin .len, args := #[x], argTypes := at_ }, type, pos, after, guard⟩ (.mv (.c (.int .i64 len))) := by
  intro ρ a μ U h w n v rd eff hs ha r hn he
  simp only [aop, ev] at he
  cases he
  refine Done.pure r ?_ (by simp [vok])
  have : (Builtin.len_ at_ type #[ρ x]).run P w = .ok (.int .i64 len) w := by
    unfold Builtin.len_
    simp [h0, run_underlying hu, goInt]
  simp [execOp, resolve, invoke, builtin, this, conc]

theorem sound_cap (t : TypeId) (at_ : Array TypeId) (x : Operand) (e : TypeId) (h0 : at_[0]? = some t) (hu : P.underlying t = some (.slice e)) :
    Sound P ⟨dst, .call { callee := .builtin .cap, args := #[x], argTypes := at_ }, type, pos, after, guard⟩ (.cap (cx x)) := by
  intro ρ a μ U h w n v rd eff hs ha r hn he
  simp only [aop] at he
  split at he
  case h_3 => cases he
  · rename_i hx
    cases he
    have h1 : ρ x = .slice none 0 0 := by rw [hs x (by simp [Op.operands, Call.operands]), hx]; simp [conc]
    refine Done.pure r ?_ (by simp [vok])
    simp [execOp, resolve, invoke, builtin, Builtin.cap_, h0, h1, run_underlying hu, goInt, conc]
  · rename_i b o p l c hx
    cases he
    have h1 : ρ x = .slice (some ⟨(μ b).blk, (μ b).shift + o, none⟩) l c := by rw [hs x (by simp [Op.operands, Call.operands]), hx]; simp [conc]
    refine Done.pure r ?_ (by simp [vok])
    simp [execOp, resolve, invoke, builtin, Builtin.cap_, h0, h1, run_underlying hu, goInt, conc]

theorem foldlM_max (w : World) (μ : Map) : ∀ (l : List AV) (x v : AV), maxA x l = some v → ((l.map (conc μ)).foldlM Builtin.max2 (conc μ x)).run P w = .ok (conc μ v) w
  | [], x, v, h => by simp only [maxA, Option.some.injEq] at h; subst h; simp
  | y :: l, x, v, h => by
    unfold maxA at h
    split at h
    · cases ‹_ :: _ = []›
    · rename_i k a k' b l' e1
      cases e1
      have := foldlM_max w μ l (.int k (if b > a then b else a)) v h
      simp only [List.map_cons, List.foldlM_cons, conc, Builtin.max2, Sem.run_bind, Sem.run_pure, Result.andThen_ok]
      simpa only [conc] using this
    · cases h

theorem foldlM_min (w : World) (μ : Map) : ∀ (l : List AV) (x v : AV), minA x l = some v → ((l.map (conc μ)).foldlM Builtin.min2 (conc μ x)).run P w = .ok (conc μ v) w
  | [], x, v, h => by simp only [minA, Option.some.injEq] at h; subst h; simp
  | y :: l, x, v, h => by
    unfold minA at h
    split at h
    · cases ‹_ :: _ = []›
    · rename_i k a k' b l' e1
      cases e1
      have := foldlM_min w μ l (.int k (if b < a then b else a)) v h
      simp only [List.map_cons, List.foldlM_cons, conc, Builtin.min2, Sem.run_bind, Sem.run_pure, Result.andThen_ok]
      simpa only [conc] using this
    · cases h

theorem vok_max {U : Nat → Prop} {μ : Map} : ∀ (l : List AV) (x v : AV), maxA x l = some v → vok U μ x → vok U μ v
  | [], x, v, h, hx => by simp only [maxA, Option.some.injEq] at h; subst h; exact hx
  | y :: l, x, v, h, hx => by
    unfold maxA at h
    split at h
    · cases ‹_ :: _ = []›
    · rename_i k a k' b l' e1
      cases e1
      exact vok_max l _ v h (by simp [vok])
    · cases h

theorem vok_min {U : Nat → Prop} {μ : Map} : ∀ (l : List AV) (x v : AV), minA x l = some v → vok U μ x → vok U μ v
  | [], x, v, h, hx => by simp only [minA, Option.some.injEq] at h; subst h; exact hx
  | y :: l, x, v, h, hx => by
    unfold minA at h
    split at h
    · cases ‹_ :: _ = []›
    · rename_i k a k' b l' e1
      cases e1
      exact vok_min l _ v h (by simp [vok])
    · cases h

theorem args_says {ρ : Operand → Value} {μ : Map} {a : List AV} {q : Array Operand} (hs : ∀ x ∈ q, ρ x = conc μ (ev a (cx x))) : q.map ρ = (((q.toList.map cx).map (ev a)).map (conc μ)).toArray := by
  apply Array.ext'
  rw [Array.toList_map, map_says (μ := μ) (a := a) fun x hx => hs x (Array.mem_toList_iff.1 hx)]
  simp [List.map_map, Function.comp_def]

theorem vok_args {U : Nat → Prop} {μ : Map} {a : List AV} {q : List Operand} (ha : ∀ x ∈ q, vok U μ (ev a (cx x))) : ∀ v ∈ (q.map cx).map (ev a), vok U μ v := by
  intro v hv
  simp only [List.map_map, List.mem_map, Function.comp] at hv
  obtain ⟨x, hx, rfl⟩ := hv
  exact ha x hx

theorem sound_mx (at_ : Array TypeId) (xs : Array Operand) : Sound P ⟨dst, .call { callee := .builtin .max, args := xs, argTypes := at_ }, type, pos, after, guard⟩ (.mx (xs.toList.map cx)) := by
  intro ρ a μ U h w n v rd eff hs ha r hn he
  simp only [aop] at he
  split at he
  case h_2 => cases he
  rename_i u l hl
  simp only [Option.map_eq_some_iff, Prod.mk.injEq] at he
  obtain ⟨v', hv', rfl, rfl, rfl⟩ := he
  have hv := vok_args (U := U) (μ := μ) (q := xs.toList) fun x hx => ha x (by simp [Op.operands, Call.operands, Array.mem_toList_iff.1 hx])
  rw [hl] at hv
  refine Done.pure r ?_ (vok_max l u v' hv' (hv u (by simp)))
  have h1 := args_says (μ := μ) (a := a) (q := xs) fun x hx => hs x (by simp [Op.operands, Call.operands, hx])
  rw [hl] at h1
  simp [execOp, resolve, invoke, builtin, Builtin.max_, h1, foldlM_max w μ l u v' hv']

theorem sound_mn (at_ : Array TypeId) (xs : Array Operand) : Sound P ⟨dst, .call { callee := .builtin .min, args := xs, argTypes := at_ }, type, pos, after, guard⟩ (.mn (xs.toList.map cx)) := by
  intro ρ a μ U h w n v rd eff hs ha r hn he
  simp only [aop] at he
  split at he
  case h_2 => cases he
  rename_i u l hl
  simp only [Option.map_eq_some_iff, Prod.mk.injEq] at he
  obtain ⟨v', hv', rfl, rfl, rfl⟩ := he
  have hv := vok_args (U := U) (μ := μ) (q := xs.toList) fun x hx => ha x (by simp [Op.operands, Call.operands, Array.mem_toList_iff.1 hx])
  rw [hl] at hv
  refine Done.pure r ?_ (vok_min l u v' hv' (hv u (by simp)))
  have h1 := args_says (μ := μ) (a := a) (q := xs) fun x hx => hs x (by simp [Op.operands, Call.operands, hx])
  rw [hl] at h1
  simp [execOp, resolve, invoke, builtin, Builtin.min_, h1, foldlM_min w μ l u v' hv']

/-! ### Composite values -/

theorem set_cells : ∀ (vs : List Value) (k off : Nat) (c : Array Value), off + k + vs.length ≤ c.size →
    (vs.zipIdx k).foldl (fun cs (p : Value × Nat) => cs.setIfInBounds (off + p.2) p.1) c = (c.toList.take (off + k) ++ vs ++ c.toList.drop (off + k + vs.length)).toArray
  | [], k, off, c, _ => by simp
  | v :: vs, k, off, c, hl => by
    have hk : off + k < c.size := by simp at hl; omega
    have ih := set_cells vs (k + 1) off (c.setIfInBounds (off + k) v) (by simp at hl ⊢; omega)
    simp only [List.zipIdx_cons, List.foldl_cons]
    rw [ih]
    congr 1
    have := list_seg_step c.toList (off + k) v vs (by simp at hl ⊢; omega)
    simpa [Array.toList_setIfInBounds, Nat.add_assoc] using this

/-- The model's 'fill' on values that the abstract ones say. -/
theorem fill_says (μ : Map) (place : Nat → Option (Nat × Nat)) : ∀ (qs : List (Nat × Nat × AV)) (ps : List (Nat × Value)) (cells : List AV) (r : List AV),
    ps.length = qs.length → (∀ (i : Nat) (p : Nat × Value) (q : Nat × Nat × AV), ps[i]? = some p → qs[i]? = some q → place p.1 = some (q.1, q.2.1) ∧ p.2 = conc μ q.2.2) → fillA cells qs = some r →
    Instr.fill place (cells.map (conc μ)).toArray ps = some (r.map (conc μ)).toArray
  | [], ps, cells, r, hl, _, h => by
    simp only [fillA, Option.some.injEq] at h
    subst h
    have : ps = [] := List.eq_nil_of_length_eq_zero (by simpa using hl)
    subst this
    simp [Instr.fill]
  | (off, size, v) :: qs, [], cells, r, hl, _, h => by simp at hl
  | (off, size, v) :: qs, (i, u) :: ps, cells, r, hl, hp, h => by
    obtain ⟨h1, h2⟩ := hp 0 (i, u) (off, size, v) rfl rfl
    simp only at h1 h2
    subst h2
    simp only [fillA] at h
    split at h
    case isFalse => cases h
    rename_i hc
    have hcs := cells_conc μ v
    have hsz : (conc μ v).cells.size = size := by rw [← size_of_map hcs, hc.1]
    have hcond : ¬ ((conc μ v).cells.size ≠ size ∨ off + (conc μ v).cells.size > (cells.map (conc μ)).toArray.size) := by
      simp [hsz, hc.2]
    have hset : ((conc μ v).cells.zipIdx.foldl (fun cs (p : Value × Nat) => cs.setIfInBounds (off + p.2) p.1) (cells.map (conc μ)).toArray) = ((splice cells off (cellsA v)).map (conc μ)).toArray := by
      rw [← Array.foldl_toList, Array.toList_zipIdx, hcs, set_cells _ 0 off _ (by simp; omega)]
      congr 1
      unfold splice
      simp [List.map_take, List.map_drop, List.append_assoc]
    have ih := fill_says μ place qs ps (splice cells off (cellsA v)) r (by simpa using hl) (fun j p q hj hq => hp (j + 1) p q (by simpa using hj) (by simpa using hq)) h
    simp only [Instr.fill, h1, hsz]
    rw [if_neg (by simpa using hc.2)]
    rw [← ih, ← hset]

theorem vok_fillA {U : Nat → Prop} {μ : Map} : ∀ (qs : List (Nat × Nat × AV)) (cells r : List AV), fillA cells qs = some r → (∀ v ∈ cells, vok U μ v) → (∀ q ∈ qs, vok U μ q.2.2) → ∀ v ∈ r, vok U μ v
  | [], cells, r, h, hc, _ => by simp only [fillA, Option.some.injEq] at h; subst h; exact hc
  | (off, size, v) :: qs, cells, r, h, hc, hq => by
    simp only [fillA] at h
    split at h
    case isFalse => cases h
    refine vok_fillA qs _ r h (fun u hu => ?_) fun q hq' => hq q (by simp [hq'])
    rcases mem_splice hu with hu | hu
    · exact hc u hu
    · exact vok_cellsA (hq (off, size, v) (by simp)) u hu

end
end Go.Eng
/- Engine, part 10: composite values and slices. -/
namespace Go.Eng
open Go

theorem mapM_spec {α β : Type} {f : α → Option β} : ∀ {l : List α} {qs : List β}, l.mapM f = some qs → qs.length = l.length ∧ ∀ (i : Nat) p, l[i]? = some p → ∃ q, qs[i]? = some q ∧ f p = some q
  | [], qs, h => by simp at h; subst h; simp
  | x :: l, qs, h => by
    rw [List.mapM_cons] at h
    simp only [Option.bind_eq_bind, Option.bind_eq_some_iff, Option.pure_def, Option.some.injEq] at h
    obtain ⟨q, hq, qs', hqs, rfl⟩ := h
    obtain ⟨h1, h2⟩ := mapM_spec hqs
    refine ⟨by simp [h1], fun i p hp => ?_⟩
    cases i with
    | zero => simp at hp; subst hp; exact ⟨q, rfl, hq⟩
    | succ i => simpa using h2 i p (by simpa using hp)

section
variable {P : Program} {dst : Option Tmp} {type : TypeId} {pos : String} {after : Array Edge} {guard : Option (Nat × Bool)}

theorem parts_says {ρ : Operand → Value} {μ : Map} {a : List AV} {ps : Array (Nat × Operand)} (hs : ∀ p ∈ ps.toList, ρ p.2 = conc μ (ev a (cx p.2))) {f : Nat × Operand → Option (Nat × Nat × RX)} {qs : List (Nat × Nat × RX)} {place : Nat → Option (Nat × Nat)}
    (hq : ps.toList.mapM f = some qs) (hf : ∀ p q, f p = some q → place p.1 = some (q.1, q.2.1) ∧ q.2.2 = cx p.2) :
    ((ps.map fun (i, x) => (i, ρ x)).toList).length = (qs.map fun p => (p.1, p.2.1, ev a p.2.2)).length ∧
    ∀ (i : Nat) (p : Nat × Value) (q : Nat × Nat × AV), ((ps.map fun (i, x) => (i, ρ x)).toList)[i]? = some p → (qs.map fun p => (p.1, p.2.1, ev a p.2.2))[i]? = some q → place p.1 = some (q.1, q.2.1) ∧ p.2 = conc μ q.2.2 := by
  obtain ⟨h1, h2⟩ := mapM_spec hq
  refine ⟨by simp [h1], fun i p q hp hq' => ?_⟩
  simp only [Array.toList_map, List.getElem?_map, Option.map_eq_some_iff] at hp hq'
  obtain ⟨⟨j, x⟩, hx, rfl⟩ := hp
  obtain ⟨q0, hq0, rfl⟩ := hq'
  obtain ⟨q1, hq1, hf1⟩ := h2 i (j, x) hx
  rw [hq0] at hq1
  cases hq1
  obtain ⟨g1, g2⟩ := hf _ _ hf1
  exact ⟨g1, by simp only [g2]; exact hs _ (List.mem_of_getElem? hx)⟩

theorem zero_of {t : TypeId} {z : List AV} (hz : zeroCellsOf P t = some z) : ∃ i zv, P.info? t = some i ∧ i.zero = some zv ∧ (∀ μ, zv.cells = (z.map (conc μ)).toArray) ∧ (∀ U μ, ∀ v ∈ z, vok U μ v) := by
  unfold zeroCellsOf at hz
  cases hi : P.info? t with
  | none => simp [hi] at hz
  | some i =>
    cases hzz : i.zero with
    | none => simp [hi, hzz] at hz
    | some zv =>
      simp [hi, hzz] at hz
      subst hz
      refine ⟨i, zv, rfl, hzz, fun μ => ?_, fun U μ v hv => ?_⟩
      · apply Array.ext'
        rw [List.map_map]
        conv => lhs; rw [← List.map_id zv.cells.toList]
        exact List.map_congr_left fun x _ => (conc_ofCell μ x).symm
      · obtain ⟨x, _, rfl⟩ := List.mem_map.1 hv
        exact vok_ofCell U μ x

theorem vok_parts {U : Nat → Prop} {μ : Map} {a : List AV} {ps : List (Nat × Operand)} (ha : ∀ p ∈ ps, vok U μ (ev a (cx p.2))) {f : Nat × Operand → Option (Nat × Nat × RX)} {qs : List (Nat × Nat × RX)}
    (hq : ps.mapM f = some qs) (hf : ∀ p q, f p = some q → q.2.2 = cx p.2) : ∀ q ∈ (qs.map fun p => (p.1, p.2.1, ev a p.2.2)), vok U μ q.2.2 := by
  intro q hq'
  simp only [List.mem_map] at hq'
  obtain ⟨q0, h0, rfl⟩ := hq'
  obtain ⟨h1, h2⟩ := mapM_spec hq
  obtain ⟨i, hi, rfl⟩ := List.mem_iff_getElem.1 h0
  obtain ⟨q1, hq1, hf1⟩ := h2 i ps[i] (by simp [← h1, hi])
  have : q1 = qs[i] := by
    rw [List.getElem?_eq_getElem hi] at hq1; exact (Option.some.inj hq1).symm
  subst this
  simp only [hf _ _ hf1]
  exact ha _ (List.getElem_mem _)

theorem sound_buildS (t : TypeId) (ps : Array (Nat × Operand)) (z : List AV) (fs : Array Field) (qs : List (Nat × Nat × RX)) (hz : zeroCellsOf P t = some z) (hu : P.underlying t = some (.struct fs))
    (hq : ps.toList.mapM (fun p => do let f ← fs[p.1]?; let i ← P.info? f.type; some (f.offset, i.size, cx p.2)) = some qs) (hall : (fs.toList.all fun f => (P.info? f.type).isSome) = true) :
    Sound P ⟨dst, .build t ps, type, pos, after, guard⟩ (.build z qs) := by
  intro ρ a μ U h w n v rd eff hs ha r hn he
  simp only [aop, Option.map_eq_some_iff, Prod.mk.injEq] at he
  obtain ⟨cs, hcs, rfl, rfl, rfl⟩ := he
  obtain ⟨i, zv, hi, hzz, hzc, hzo⟩ := zero_of hz
  obtain ⟨places, hpl⟩ : ∃ places, fs.toList.mapM (fun f => (P.info? f.type).map fun i => (f.offset, i.size)) = some places := by
    revert hall
    generalize fs.toList = l
    intro hall
    induction l with
    | nil => exact ⟨[], rfl⟩
    | cons f l ih =>
      simp only [List.all_cons, Bool.and_eq_true, Option.isSome_iff_exists] at hall
      obtain ⟨⟨j, hj⟩, h2⟩ := hall
      obtain ⟨pl, hpl⟩ := ih h2
      exact ⟨(f.offset, j.size) :: pl, by simp [List.mapM_cons, hj, hpl]⟩
  have hp : ∀ p q, (do let f ← fs[p.1]?; let i ← P.info? f.type; some (f.offset, i.size, cx p.2) : Option (Nat × Nat × RX)) = some q → places.toArray[(p : Nat × Operand).1]? = some (q.1, q.2.1) ∧ q.2.2 = cx p.2 := by
    intro p q h1
    simp only [Option.bind_eq_bind, Option.bind_eq_some_iff, Option.some.injEq] at h1
    obtain ⟨f, hf, j, hj, rfl⟩ := h1
    obtain ⟨_, h3⟩ := mapM_spec hpl
    obtain ⟨q2, hq2, hf2⟩ := h3 p.1 f (by simpa using hf)
    simp only [hj, Option.map_some, Option.some.injEq] at hf2
    subst hf2
    exact ⟨by simpa using hq2, rfl⟩
  obtain ⟨hl, hsay⟩ := parts_says (place := fun x => places.toArray[x]?) (fun p hp => hs p.2 (by simp only [Op.operands]; exact List.mem_toArray.2 (List.mem_map.2 ⟨p, hp, rfl⟩))) hq hp
  have hfill := fill_says μ (fun x => places.toArray[x]?) _ _ z cs hl hsay hcs
  have hbuilt : P.built t ((ps.map fun (i, x) => (i, ρ x)).toList) = some (cs.map (conc μ)).toArray := by
    simp only [Program.built, hi, hu, hzz, hpl, hzc μ]
    exact hfill
  refine Done.pure r ?_ ?_
  · simp only [execOp, Sem.run_bind]
    rw [run_build w t _ _ hbuilt]
    simp [conc_agg]
  · simp only [vok]
    exact vokL_iff.2 (vok_fillA _ _ _ hcs (hzo U μ) (vok_parts (fun p hp => ha p.2 (by simp only [Op.operands]; exact List.mem_toArray.2 (List.mem_map.2 ⟨p, hp, rfl⟩))) hq fun p q h1 => (hp p q h1).2))

theorem mapM_pure' {α β : Type} (f : α → β) (l : List α) : l.mapM (fun x => (some (f x) : Option β)) = some (l.map f) := by
  induction l with
  | nil => rfl
  | cons x l ih => simp [List.mapM_cons, ih]

theorem sound_buildA (t : TypeId) (ps : Array (Nat × Operand)) (z : List AV) (len : Nat) (e : TypeId) (ie : TypeInfo) (hz : zeroCellsOf P t = some z) (hu : P.underlying t = some (.array len e)) (hie : P.info? e = some ie) :
    Sound P ⟨dst, .build t ps, type, pos, after, guard⟩ (.build z (ps.toList.map fun p => (p.1 * ie.size, ie.size, cx p.2))) := by
  intro ρ a μ U h w n v rd eff hs ha r hn he
  simp only [aop, Option.map_eq_some_iff, Prod.mk.injEq] at he
  obtain ⟨cs, hcs, rfl, rfl, rfl⟩ := he
  obtain ⟨i, zv, hi, hzz, hzc, hzo⟩ := zero_of hz
  have hq := mapM_pure' (fun p : Nat × Operand => (p.1 * ie.size, ie.size, cx p.2)) ps.toList
  obtain ⟨hl, hsay⟩ := parts_says (place := fun i => some (i * ie.size, ie.size)) (fun p hp => hs p.2 (by simp only [Op.operands]; exact List.mem_toArray.2 (List.mem_map.2 ⟨p, hp, rfl⟩))) hq (fun p q h1 => by cases h1; exact ⟨rfl, rfl⟩)
  have hfill := fill_says μ (fun i => some (i * ie.size, ie.size)) _ _ z cs hl hsay hcs
  have hbuilt : P.built t ((ps.map fun (i, x) => (i, ρ x)).toList) = some (cs.map (conc μ)).toArray := by
    simp only [Program.built, hi, hu, hzz, hie, hzc μ]
    exact hfill
  refine Done.pure r ?_ ?_
  · simp only [execOp, Sem.run_bind]
    rw [run_build w t _ _ hbuilt]
    simp [conc_agg]
  · simp only [vok]
    exact vokL_iff.2 (vok_fillA _ _ _ hcs (hzo U μ) (vok_parts (fun p hp => ha p.2 (by simp only [Op.operands]; exact List.mem_toArray.2 (List.mem_map.2 ⟨p, hp, rfl⟩))) hq fun p q h1 => by cases h1; rfl))

theorem length_repl (z : List AV) : ∀ n, (repl z n).length = n * z.length
  | 0 => by simp [repl]
  | n + 1 => by simp [repl, length_repl z n, Nat.succ_mul]; omega

theorem mem_repl {z : List AV} {v : AV} : ∀ {n}, v ∈ repl z n → v ∈ z
  | 0, h => by simp [repl] at h
  | n + 1, h => by
    simp only [repl, List.mem_append] at h
    rcases h with h | h
    · exact h
    · exact mem_repl h

theorem getElem?_repl (z : List AV) (hz : 0 < z.length) : ∀ (n i : Nat), i < n * z.length → (repl z n)[i]? = z[i % z.length]?
  | 0, i, h => by simp at h
  | n + 1, i, h => by
    simp only [repl]
    by_cases hi : i < z.length
    · rw [List.getElem?_append_left hi, Nat.mod_eq_of_lt hi]
    · rw [List.getElem?_append_right (by omega), getElem?_repl z hz n (i - z.length) (by rw [Nat.succ_mul] at h; omega)]
      congr 1
      rw [← Nat.mod_eq_sub_mod (by omega)]

theorem repl_conc {z : List AV} (hz : 0 < z.length) (n : Nat) (μ : Map) {zc : Array Value} (hzc : zc = (z.map (conc μ)).toArray) :
    (Array.range (n * z.length)).map (fun i => zc[i % zc.size]!) = ((repl z n).map (conc μ)).toArray := by
  subst hzc
  apply Array.ext'
  apply List.ext_getElem?
  intro i
  by_cases hi : i < n * z.length
  · have h1 := getElem?_repl z hz n i hi
    have hlt := Nat.mod_lt i hz
    simp only [Array.toList_map, Array.toList_range, List.getElem?_map, List.getElem?_range hi, Option.map_some, h1, List.getElem?_eq_getElem hlt]
    congr 1
    simp [hlt]
  · rw [List.getElem?_eq_none (by simp; omega), List.getElem?_eq_none (by simp [length_repl]; omega)]

theorem zeroCells_conc {z : List AV} (hz : 0 < z.length) (n : Nat) (μ : Map) {zc : Array Value} (hzc : zc = (z.map (conc μ)).toArray) : Builtin.zeroCells zc n = ((repl z n).map (conc μ)).toArray := by
  have hs : zc.size = z.length := by subst hzc; simp
  unfold Builtin.zeroCells
  rw [hs]
  have := repl_conc hz n μ hzc
  rw [hs] at this
  exact this

theorem sound_bsl (t : TypeId) (len : Nat) (ps : Array (Nat × Operand)) (e : TypeId) (ie : TypeInfo) (z : List AV) (hu : P.underlying t = some (.slice e)) (hie : P.info? e = some ie) (hz : zeroCellsOf P e = some z)
    (h0 : ie.size ≠ 0) (hzl : z.length = ie.size) (hb : len * ie.size ≤ 2 ^ 20) :
    Sound P ⟨dst, .buildSlice t len ps, type, pos, after, guard⟩ (.bsl ie.size z len (ps.toList.map fun p => (p.1 * ie.size, ie.size, cx p.2))) := by
  intro ρ a μ U h w n v rd eff hs ha r hn he
  simp only [aop, Option.map_eq_some_iff, Prod.mk.injEq] at he
  obtain ⟨cs, hcs, rfl, rfl, rfl⟩ := he
  obtain ⟨i, zv, hi, hzz, hzc, hzo⟩ := zero_of hz
  have hie' : i = ie := by rw [hie] at hi; exact (Option.some.inj hi).symm
  subst hie'
  have hq := mapM_pure' (fun p : Nat × Operand => (p.1 * i.size, i.size, cx p.2)) ps.toList
  obtain ⟨hl, hsay⟩ := parts_says (place := fun j => some (j * i.size, i.size)) (fun p hp => hs p.2 (by simp only [Op.operands]; exact List.mem_toArray.2 (List.mem_map.2 ⟨p, hp, rfl⟩))) hq (fun p q h1 => by cases h1; exact ⟨rfl, rfl⟩)
  have hfill := fill_says μ (fun j => some (j * i.size, i.size)) _ _ (repl z len) cs hl hsay hcs
  have hok : ∀ v ∈ cs, vok U μ v := vok_fillA _ _ _ hcs (fun u hu => hzo U μ u (mem_repl hu)) (vok_parts (fun p hp => ha p.2 (by simp only [Op.operands]; exact List.mem_toArray.2 (List.mem_map.2 ⟨p, hp, rfl⟩))) hq fun p q h1 => by cases h1; rfl)
  have hrun : (Instr.buildSlice t len (ps.map fun (i, x) => (i, ρ x))).run P w = .ok (.slice (some ⟨w.heap.size, 0, none⟩) len len) (w.alloc (.cells (cs.map (conc μ)).toArray e)) := by
    have hrep : (Array.range (len * i.size)).map (fun j => zv.cells[j % zv.cells.size]!) = ((repl z len).map (conc μ)).toArray := by
      have := repl_conc (z := z) (by omega) len μ (hzc μ)
      rwa [hzl] at this
    have hb' : ¬ (16777216 < len * i.size) := by omega
    generalize (ps.map fun (i, x) => (i, ρ x)) = L at hfill ⊢
    by_cases hl0 : len * i.size = 0
    · have : len = 0 := by
        rcases Nat.mul_eq_zero.1 hl0 with h | h
        · exact h
        · exact absurd h h0
      subst this
      simp only [repl, List.map_nil] at hfill
      have hfill0 : Instr.fill (fun j => some (j * i.size, i.size)) #[] L.toList = some (cs.map (conc μ)).toArray := hfill
      have hr : Array.range 0 = #[] := rfl
      simp [Instr.buildSlice, run_underlying hu, sizeOf, typeInfo, hi, hr, hfill0, newRow]
    · simp [Instr.buildSlice, run_underlying hu, sizeOf, typeInfo, zeroValue, hi, hzz, hb', hl0, hrep, hfill, newRow]
  refine Done.alloc (c := (cs.map (conc μ)).toArray) (ty := e) (w' := w.alloc (.cells (cs.map (conc μ)).toArray e)) r (hn rfl) hok (by simp) (fun j v hv => by simp [hv]) rfl rfl rfl rfl ?_ ?_
  · simp only [execOp, Sem.run_bind, hrun]
    simp [conc, updμ]
  · simp [vok, Un]

end
end Go.Eng
/- Engine, part 11: make, slicing, append, clear. -/
namespace Go.Eng
open Go

section
variable {P : Program} {dst : Option Tmp} {type : TypeId} {pos : String} {after : Array Edge} {guard : Option (Nat × Bool)}

theorem wrap_small {c : Int} (h0 : 0 ≤ c) (h1 : c ≤ 2 ^ 48) : IntKind.i64.wrap c = c := by
  simp [IntKind.wrap, IntKind.bits, IntKind.signed]
  omega


theorem sound_mks (t : TypeId) (l c : Operand) (e : TypeId) (i : TypeInfo) (z : List AV) (hu : P.underlying t = some (.slice e)) (hi : P.info? e = some i) (hz : zeroCellsOf P e = some z) (h0 : i.size ≠ 0) :
    Sound P ⟨dst, .makeSlice t l c, type, pos, after, guard⟩ (.mks i.size i.bytes z (cx l) (cx c)) := by
  intro ρ a μ U h w n v rd eff hs ha r hn he
  simp only [aop] at he
  split at he
  case h_2 => cases he
  rename_i k1 l' k2 c' hx hy
  split at he
  case isFalse => cases he
  rename_i hc
  obtain ⟨hc1, hc2, hc3, hc4, hc5⟩ := hc
  simp only [Option.some.injEq, Prod.mk.injEq] at he
  obtain ⟨rfl, rfl, rfl⟩ := he
  obtain ⟨i', zv, hi', hzz, hzc, hzo⟩ := zero_of hz
  have : i' = i := by rw [hi] at hi'; exact (Option.some.inj hi').symm
  subst this
  have h1 : ρ l = .int k1 l' := by rw [hs l (by simp [Op.operands, Call.operands]), hx]; simp [conc]
  have h2 : ρ c = .int k2 c' := by rw [hs c (by simp [Op.operands, Call.operands]), hy]; simp [conc]
  have hwl := wrap_small (c := l') hc1 (by omega)
  have hwc := wrap_small (c := c') (by omega) (by omega)
  have hrep : (Array.range (c'.toNat * i'.size)).map (fun j => zv.cells[j % zv.cells.size]!) = ((repl z c'.toNat).map (conc μ)).toArray := by
    have := repl_conc (z := z) (by omega) c'.toNat μ (hzc μ)
    rwa [hc5] at this
  have hrun : (Instr.makeSlice t (ρ l) (ρ c)).run P w = .ok (.slice (some ⟨w.heap.size, 0, none⟩) l'.toNat c'.toNat) (w.alloc (.cells ((repl z c'.toNat).map (conc μ)).toArray e)) := by
    have hb1 : ¬ (2 ^ 48 < (i'.bytes : Int) * c') := by rw [Int.mul_comm]; omega
    have hb1' : ¬ (281474976710656 < (i'.bytes : Int) * c') := hb1
    have hneg : ¬ c' < 0 := by omega
    have hnegl : ¬ l' < 0 := by omega
    have hlc : ¬ c' < l' := by omega
    by_cases hl0 : c'.toNat * i'.size = 0
    · have hc0 : c'.toNat = 0 := by
        rcases Nat.mul_eq_zero.1 hl0 with h | h
        · exact h
        · exact absurd h h0
      have hr : Array.range 0 = #[] := rfl
      have hcz : c' = 0 := by omega
      subst hcz
      simp [Instr.makeSlice, run_underlying hu, h1, h2, asInt, asIntOf, sizeOf, typeInfo, hi, hwl, hwc, hnegl, hr, repl, newRow]
      omega
    · simp [Instr.makeSlice, run_underlying hu, h1, h2, asInt, asIntOf, sizeOf, typeInfo, zeroValue, hi, hzz, hwl, hwc, hb1', hneg, hnegl, hlc, hl0, hrep, newRow]
  refine Done.alloc (c := ((repl z c'.toNat).map (conc μ)).toArray) (ty := e) (w' := w.alloc (.cells ((repl z c'.toNat).map (conc μ)).toArray e)) r (hn rfl) (fun u hu => hzo U μ u (mem_repl hu)) (by simp) (fun j v hv => by simp [hv]) rfl rfl rfl rfl ?_ ?_
  · simp only [execOp, Sem.run_bind, hrun]
    simp [conc, updμ]
  · simp [vok, Un]; omega

theorem boundA_spec {x : Option AV} {d m r : Nat} (h : boundA x d m = some r) : (x = none ∧ r = d) ∨ ∃ k i, x = some (.int k i) ∧ 0 ≤ i ∧ i ≤ (m : Int) ∧ r = i.toNat := by
  unfold boundA at h
  split at h
  · exact .inl ⟨rfl, by simpa using h.symm⟩
  · rename_i k i
    split at h
    · rename_i hc; exact .inr ⟨k, i, rfl, hc.1, hc.2, by simpa using h.symm⟩
    · cases h
  · cases h

theorem run_sliceBound (k : IntKind) (i : Int) (y : Nat) (code : BoundsCode) (h0 : 0 ≤ i) (h1 : i ≤ (y : Int)) (w : World) : (Instr.sliceBound (.int k i) y code).run P w = .ok i.toNat w := by
  simp [Instr.sliceBound, asIntOf, h0, h1]

theorem run_bounds {μ : Map} {lo hi mx : Option AV} {len cap m h l : Nat}
    (hm : (mx = none ∧ m = cap) ∨ ∃ k i, mx = some (.int k i) ∧ 0 ≤ i ∧ i ≤ (cap : Int) ∧ m = i.toNat) (hmh : mx.isSome = true → hi.isSome = true)
    (hh : (hi = none ∧ h = len) ∨ ∃ k i, hi = some (.int k i) ∧ 0 ≤ i ∧ i ≤ (m : Int) ∧ h = i.toNat)
    (hl : (lo = none ∧ l = 0) ∨ ∃ k i, lo = some (.int k i) ∧ 0 ≤ i ∧ i ≤ (h : Int) ∧ l = i.toNat) (w : World) :
    (Instr.sliceBounds true len cap (lo.map (conc μ)) (hi.map (conc μ)) (mx.map (conc μ))).run P w = .ok (l, h, m) w := by
  rcases hm with ⟨rfl, rfl⟩ | ⟨k1, i1, rfl, m0, m1, rfl⟩ <;> rcases hh with ⟨rfl, rfl⟩ | ⟨k2, i2, rfl, h0, h1, rfl⟩ <;> rcases hl with ⟨rfl, rfl⟩ | ⟨k3, i3, rfl, l0, l1, rfl⟩
  all_goals first
    | simp at hmh
    | skip
  · simp [Instr.sliceBounds]
  · simp [Instr.sliceBounds, conc, run_sliceBound k3 i3 h _ l0 l1]
  · simp [Instr.sliceBounds, conc, run_sliceBound k2 i2 m _ h0 h1]
  · simp [Instr.sliceBounds, conc, run_sliceBound k2 i2 m _ h0 h1, run_sliceBound k3 i3 _ _ l0 l1]
  · simp [Instr.sliceBounds, conc, run_sliceBound k1 i1 _ _ m0 m1, run_sliceBound k2 i2 _ _ h0 h1]
  · simp [Instr.sliceBounds, conc, run_sliceBound k1 i1 _ _ m0 m1, run_sliceBound k2 i2 _ _ h0 h1, run_sliceBound k3 i3 _ _ l0 l1]

theorem opt_says {ρ : Operand → Value} {μ : Map} {a : List AV} (x : Option Operand) (hs : ∀ y, x = some y → ρ y = conc μ (ev a (cx y))) : x.map ρ = (((x.map cx).map (ev a)).map (conc μ)) := by
  cases x with
  | none => rfl
  | some x => simp [hs x rfl]

theorem run_boundsS {μ : Map} {lo hi : Option AV} {len h l : Nat}
    (hh : (hi = none ∧ h = len) ∨ ∃ k i, hi = some (.int k i) ∧ 0 ≤ i ∧ i ≤ (len : Int) ∧ h = i.toNat)
    (hl : (lo = none ∧ l = 0) ∨ ∃ k i, lo = some (.int k i) ∧ 0 ≤ i ∧ i ≤ (h : Int) ∧ l = i.toNat) (w : World) :
    (Instr.sliceBounds false len len (lo.map (conc μ)) (hi.map (conc μ)) none).run P w = .ok (l, h, len) w := by
  rcases hh with ⟨rfl, rfl⟩ | ⟨k2, i2, rfl, h0, h1, rfl⟩ <;> rcases hl with ⟨rfl, rfl⟩ | ⟨k3, i3, rfl, l0, l1, rfl⟩
  · simp [Instr.sliceBounds]
  · simp [Instr.sliceBounds, conc, run_sliceBound k3 i3 h _ l0 l1]
  · simp [Instr.sliceBounds, conc, run_sliceBound k2 i2 len _ h0 h1]
  · simp [Instr.sliceBounds, conc, run_sliceBound k2 i2 len _ h0 h1, run_sliceBound k3 i3 _ _ l0 l1]

theorem sound_slcS (t : TypeId) (x : Operand) (lo hi : Option Operand) (hu : P.underlying t = some .string) :
    Sound P ⟨dst, .slice t x lo hi none, type, pos, after, guard⟩ (.slcS (cx x) (lo.map cx) (hi.map cx)) := by
  intro ρ a μ U h w n v rd eff hs ha r hn he
  simp only [aop] at he
  split at he
  case h_2 => cases he
  rename_i s hx
  simp only [Option.bind_eq_some_iff, Option.map_eq_some_iff, Prod.mk.injEq] at he
  obtain ⟨h', hh, l, hl, rfl, rfl, rfl⟩ := he
  have hb := run_boundsS (P := P) (μ := μ) (boundA_spec hh) (boundA_spec hl) w
  rw [← opt_says (ρ := ρ) (μ := μ) (a := a) lo (fun y hy => hs y (by simp [Op.operands, hy])), ← opt_says (ρ := ρ) (μ := μ) (a := a) hi (fun y hy => hs y (by simp [Op.operands, hy]))] at hb
  refine Done.pure r ?_ (by simp [vok])
  have hxx : ρ x = .string s := by rw [hs x (by simp [Op.operands, Call.operands]), hx]; simp [conc]
  simp only [execOp, Instr.sliceAt, Sem.run_bind, run_underlying hu, Result.andThen_ok]
  simp [Instr.slice, run_underlying hu, hxx, hb, conc]

/-- how much is left of a block behind a place -/
theorem rest_add (m : MB) (off l : Nat) (h0 : 0 < m.esz) (h : l ≤ m.rest off) : m.rest (off + l * m.esz) = m.rest off - l := by
  unfold MB.rest at *
  rw [show m.size - (m.shift + (off + l * m.esz)) = (m.size - (m.shift + off)) - l * m.esz by omega]
  rw [Nat.mul_comm l m.esz, Nat.sub_mul_div]

theorem le_rest {m : MB} {off l : Nat} (h0 : 0 < m.esz) (h : m.shift + off + l * m.esz ≤ m.size) : l ≤ m.rest off := by
  unfold MB.rest
  rw [Nat.le_div_iff_mul_le h0]
  omega

theorem rest_fits {m : MB} {off l : Nat} (h0 : 0 < m.esz) (h1 : m.shift + off ≤ m.size) (h : l ≤ m.rest off) : m.shift + off + l * m.esz ≤ m.size := by
  unfold MB.rest at h
  rw [Nat.le_div_iff_mul_le h0] at h
  omega

theorem sound_slc (t : TypeId) (x : Operand) (lo hi mx : Option Operand) (e : TypeId) (i : TypeInfo) (hu : P.underlying t = some (.slice e)) (hi' : P.info? e = some i) (h0 : i.size ≠ 0) :
    Sound P ⟨dst, .slice t x lo hi mx, type, pos, after, guard⟩ (.slc i.size (cx x) (lo.map cx) (hi.map cx) (mx.map cx)) := by
  intro ρ a μ U h w n v rd eff hs ha r hn he
  have hv := ha x (by simp [Op.operands, Call.operands])
  simp only [aop, Option.bind_eq_some_iff, Option.map_eq_some_iff, Prod.mk.injEq] at he
  obtain ⟨rd', hrd, v', hv', rfl, rfl, rfl⟩ := he
  generalize hlo : (lo.map cx).map (ev a) = lo' at hv'
  generalize hhi : (hi.map cx).map (ev a) = hi'' at hv'
  generalize hmx : (mx.map cx).map (ev a) = mx' at hv'
  have key : ∀ (ad : Option Addr) (len cap l h m : Nat), ρ x = .slice ad len cap → (Instr.sliceBounds true len cap (lo.map ρ) (hi.map ρ) (mx.map ρ)).run P w = .ok (l, h, m) w →
      (execOp ρ ⟨dst, .slice t x lo hi mx, type, pos, after, guard⟩).run P w = .ok (.value (.slice (if m = l then ad else ad.map (·.add (l * i.size))) (h - l) (m - l))) w := by
    intro ad len cap l h m hx hb
    simp only [execOp, Instr.sliceAt, Sem.run_bind, run_underlying hu, Result.andThen_ok]
    simp [Instr.slice, run_underlying hu, hx, hb, sizeOf, typeInfo, hi']
  rw [opt_says (μ := μ) (a := a) lo (fun y hy => hs y (by simp [Op.operands, hy])), opt_says (μ := μ) (a := a) hi (fun y hy => hs y (by simp [Op.operands, hy])), opt_says (μ := μ) (a := a) mx (fun y hy => hs y (by simp [Op.operands, hy])), hlo, hhi, hmx] at key
  unfold sliceA at hv'
  split at hv'
  · cases hv'
  rename_i hmh
  have hmh' : mx'.isSome = true → hi''.isSome = true := by
    intro h1
    simp only [h1, Bool.true_and, Option.isNone_iff_eq_none] at hmh
    exact Option.isSome_iff_ne_none.2 hmh
  split at hv'
  · rename_i hx
    simp only [Option.bind_eq_bind, Option.bind_eq_some_iff, Option.some.injEq] at hv'
    obtain ⟨m, hm, h, hh, l, hl, rfl⟩ := hv'
    have hmz := boundA_spec hm
    have hhz := boundA_spec hh
    have hlz := boundA_spec hl
    have hm0 : m = 0 := by rcases hmz with ⟨_, h1⟩ | ⟨_, _, _, h1, h2, h3⟩ <;> omega
    subst hm0
    have hh0 : h = 0 := by rcases hhz with ⟨_, h1⟩ | ⟨_, _, _, h1, h2, h3⟩ <;> omega
    subst hh0
    have hl0 : l = 0 := by rcases hlz with ⟨_, h1⟩ | ⟨_, _, _, h1, h2, h3⟩ <;> omega
    subst hl0
    have hb := run_bounds (P := P) (μ := μ) (cap := 0) (len := 0) (m := 0) (h := 0) (l := 0) hmz hmh' hhz hlz w
    refine Done.pure r ?_ (by simp [vok])
    rw [key none 0 0 0 0 0 (by rw [hs x (by simp [Op.operands, Call.operands]), hx]; simp [conc]) hb]
    simp [conc]
  · rename_i b off p len c hx
    split at hv'
    · cases hv'
    rename_i hp
    have hp : p = 0 := by omega
    subst hp
    rw [hx] at hv
    simp only [vok] at hv
    simp only [Option.bind_eq_bind, Option.bind_eq_some_iff, Option.some.injEq] at hv'
    obtain ⟨m, hm, h, hh, l, hl, rfl⟩ := hv'
    have hmz := boundA_spec hm
    have hhz := boundA_spec hh
    have hlz := boundA_spec hl
    have hb := run_bounds (P := P) (μ := μ) hmz hmh' hhz hlz w
    have hhm : h ≤ m := by
      rcases hhz with ⟨e1, e2⟩ | ⟨_, _, _, h1, h2, h3⟩
      · rcases hmz with ⟨_, h1⟩ | ⟨_, _, h1, _⟩
        · have := hv.2.2; omega
        · rw [e1, h1] at hmh'; simp at hmh'
      · omega
    have hlh : l ≤ h := by rcases hlz with ⟨_, h1⟩ | ⟨_, _, _, h1, h2, h3⟩ <;> omega
    refine Done.pure r ?_ (by simp only [vok]; refine ⟨hv.1, trivial, by omega⟩)
    rw [key _ len c l h m (by rw [hs x (by simp [Op.operands, Call.operands]), hx]; simp only [conc]; rfl) hb]
    by_cases hml : m = l
    · simp [conc, hml]
    · simp [conc, hml, addr_add, Nat.add_assoc]
  · rename_i b off p len hx
    rw [hx] at hv
    simp only [vok] at hv
    obtain ⟨hUb, he0, hfit⟩ := hv
    have hcl : p + len ≤ (μ b).rest off := le_rest he0 hfit
    split at hv'
    · rename_i hms
      split at hv'
      · cases hv'
      rename_i hp
      have hp : p = 0 := by omega
      subst hp
      simp only [Option.bind_eq_bind, Option.bind_eq_some_iff, Option.some.injEq] at hv'
      obtain ⟨m, hm, h, hh, l, hl, rfl⟩ := hv'
      have hmz := boundA_spec hm
      have hhz := boundA_spec hh
      have hlz := boundA_spec hl
      have hmz' : (mx' = none ∧ m = (μ b).rest off) ∨ ∃ k i, mx' = some (.int k i) ∧ 0 ≤ i ∧ i ≤ ((μ b).rest off : Int) ∧ m = i.toNat := by
        rcases hmz with ⟨h1, _⟩ | ⟨k, j, h1, h2, h3, h4⟩
        · rw [h1] at hms; simp at hms
        · exact .inr ⟨k, j, h1, h2, by omega, h4⟩
      have hhz' : (hi'' = none ∧ h = len) ∨ ∃ k i, hi'' = some (.int k i) ∧ 0 ≤ i ∧ i ≤ (m : Int) ∧ h = i.toNat := by
        rcases hhz with ⟨h1, _⟩ | h2
        · have := hmh' hms; rw [h1] at this; simp at this
        · exact .inr h2
      have hb := run_bounds (P := P) (μ := μ) hmz' hmh' hhz' hlz w
      have hhm : h ≤ m := by
        rcases hhz with ⟨e1, e2⟩ | ⟨_, _, _, h1, h2, h3⟩
        · have := hmh' hms; rw [e1] at this; simp at this
        · omega
      have hlh : l ≤ h := by rcases hlz with ⟨_, h1⟩ | ⟨_, _, _, h1, h2, h3⟩ <;> omega
      refine Done.pure r ?_ (by simp only [vok]; refine ⟨hUb, trivial, by omega⟩)
      rw [key _ len ((μ b).rest off) l h m (by rw [hs x (by simp [Op.operands, Call.operands]), hx]; simp [conc]; rfl) hb]
      by_cases hml : m = l
      · simp [conc, hml]
      · simp [conc, hml, addr_add, Nat.add_assoc]
    · rename_i hms
      have hmn : mx' = none := by simpa using hms
      subst hmn
      simp only [Option.bind_eq_bind, Option.bind_eq_some_iff] at hv'
      obtain ⟨h, hh, l, hl, hv'⟩ := hv'
      have hhz := boundA_spec hh
      have hlz := boundA_spec hl
      have hhl : h ≤ len := by rcases hhz with ⟨_, h1⟩ | ⟨_, _, _, h1, h2, h3⟩ <;> omega
      have hlh : l ≤ h := by rcases hlz with ⟨_, h1⟩ | ⟨_, _, _, h1, h2, h3⟩ <;> omega
      have hesz : (μ b).esz = i.size := by
        rw [hx] at hrd
        simp only [eszOk] at hrd
        split at hrd
        · rename_i e' cs hb
          split at hrd
          · rename_i hee
            obtain ⟨c, ty, _, _, h3, _⟩ := r.at_ b _ hb
            rw [h3, hee]
          · cases hrd
        · cases hrd
      have hhz' : (hi'' = none ∧ h = len) ∨ ∃ k i, hi'' = some (.int k i) ∧ 0 ≤ i ∧ i ≤ ((((μ b).rest off - p : Nat)) : Int) ∧ h = i.toNat := by
        rcases hhz with h1 | ⟨k, j, h1, h2, h3, h4⟩
        · exact .inl h1
        · exact .inr ⟨k, j, h1, h2, by omega, h4⟩
      have hb := run_bounds (P := P) (μ := μ) (mx := none) (cap := (μ b).rest off - p) (m := (μ b).rest off - p) (.inl ⟨rfl, rfl⟩) hmh' hhz' hlz w
      have hk := key _ len ((μ b).rest off - p) l h ((μ b).rest off - p) (by rw [hs x (by simp [Op.operands, Call.operands]), hx]; simp only [conc]; rfl) hb
      split at hv'
      · rename_i hp
        split at hv'
        · rename_i hl0
          cases hv'
          have hl' : l = 0 := by omega
          have hh' : h = 0 := by omega
          subst hl'
          subst hh'
          subst hl0
          refine Done.pure r ?_ (by rw [hx]; simp only [vok]; exact ⟨hUb, he0, hfit⟩)
          rw [hk, hx]
          simp only [conc, Nat.sub_self, Nat.zero_mul, Option.map_some, Nat.sub_zero]
          by_cases hz : (μ b).rest off - p = 0
          · simp [hz]
          · simp [hz, Addr.add]
        · cases hv'
      · rename_i hp
        have hp : p = 0 := by omega
        subst hp
        simp only [Nat.sub_zero] at hk hb hhz'
        split at hv'
        · rename_i hll
          cases hv'
          have hra := rest_add (μ b) off l he0 (by omega)
          rw [hesz] at hra
          refine Done.pure r ?_ ?_
          · rw [hk]
            have hne : ¬ (μ b).rest off = l := by omega
            simp only [hne, if_false, conc, hra, Nat.zero_mul, ite_self, Nat.add_zero, Option.map_some, addr_add, Nat.add_assoc, Nat.sub_zero]
          · simp only [vok]
            refine ⟨hUb, he0, ?_⟩
            rw [hesz] at hfit ⊢
            have : (h - l) * i.size + l * i.size ≤ len * i.size := by rw [← Nat.add_mul]; exact Nat.mul_le_mul_right _ (by omega)
            simp only [Nat.zero_add] at hfit ⊢
            omega
        · rename_i hll
          cases hv'
          have hl' : l = len := by omega
          have hh' : h = len := by omega
          subst hl'
          subst hh'
          refine Done.pure r ?_ (by simp only [vok]; exact ⟨hUb, he0, by simpa using hfit⟩)
          rw [hk]
          simp only [conc, Nat.zero_mul, ite_self, Nat.add_zero, Nat.sub_self]
          by_cases hz : (μ b).rest off = h
          · simp [hz]
          · simp [hz, addr_add, hesz]
  · cases hv'

end
end Go.Eng
