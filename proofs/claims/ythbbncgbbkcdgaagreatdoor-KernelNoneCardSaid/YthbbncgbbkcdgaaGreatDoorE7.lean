/- Engine, part 7: '==' on structs and arrays of integers and bools. -/
import Derived.Test.YthbbncgbbkcdgaaGreatDoorE6
import Derived.ChangeKeysEq
namespace Go.Eng
open Go

theorem eqCells_length : ∀ {xs ys : List AV} {r : Bool}, eqCells xs ys = some r → xs.length = ys.length
  | [], ys, r, h => by
    cases ys with
    | nil => rfl
    | cons => simp [eqCells] at h
  | x :: xs, ys, r, h => by
    unfold eqCells at h
    split at h
    · cases ‹_ :: _ = []›
    · rename_i k1 a l k2 b m e1
      cases e1
      split at h
      · simp only [Option.map_eq_some_iff] at h
        obtain ⟨r', h', _⟩ := h
        simp [eqCells_length h']
      · cases h
    · cases h

theorem eqCells_split : ∀ (k : Nat) {xs ys : List AV} {r : Bool}, eqCells xs ys = some r →
    ∃ r1 r2, eqCells (xs.take k) (ys.take k) = some r1 ∧ eqCells (xs.drop k) (ys.drop k) = some r2 ∧ r = (r1 && r2)
  | 0, xs, ys, r, h => ⟨true, r, by simp [eqCells], by simpa using h, by simp⟩
  | k + 1, [], ys, r, h => by
    cases ys with
    | nil => exact ⟨true, true, by simp [eqCells], by simp [eqCells], by simpa [eqCells] using h.symm⟩
    | cons => simp [eqCells] at h
  | k + 1, x :: xs, ys, r, h => by
    cases ys with
    | nil => simp [eqCells] at h
    | cons y ys =>
      unfold eqCells at h
      split at h
      · cases ‹_ :: _ = []›
      · rename_i k1 a l k2 b m e1 e2
        cases e1; cases e2
        split at h
        · rename_i hk
          simp only [Option.map_eq_some_iff] at h
          obtain ⟨r', h', rfl⟩ := h
          obtain ⟨r1, r2, h1, h2, rfl⟩ := eqCells_split k h'
          exact ⟨a == b && r1, r2, by simp [eqCells, hk, h1], by simpa using h2, by rw [Bool.and_assoc]⟩
        · cases h
      · cases h

section
variable {P : Program}

/-- A value of a type, by its cells. -/
def ValOf (P : Program) (μ : Map) (t : TypeId) (cs : List AV) (v : Value) : Prop :=
  match aggOf P t with
  | some true => v = .agg (cs.map (conc μ)).toArray
  | some false => ∃ c, cs = [c] ∧ v = conc μ c
  | none => False

theorem run_part {μ : Map} {t : TypeId} {g : Bool} {i : TypeInfo} (hg : aggOf P t = some g) (hi : P.info? t = some i) {cs : List AV} {off : Nat} {v : AV} (h : partA g cs off i.size = some v) (w : World) :
    (part t (cs.map (conc μ)).toArray off).run P w = .ok (conc μ v) w := by
  unfold partA at h
  cases g with
  | true =>
    simp only [if_true] at h
    split at h
    · cases h
      simp only [part, Sem.run_bind, run_aggOf hg, Result.andThen_ok, if_true, sizeOf, typeInfo, run_program, hi, Sem.run_pure, conc_agg]
      congr 2
      apply Array.ext'
      simp [List.extract, List.map_take, List.map_drop]
    · cases h
  | false =>
    simp only [Bool.false_eq_true, if_false] at h
    simp [part, run_aggOf hg, h]

theorem part_valOf {μ : Map} {t : TypeId} {g : Bool} {i : TypeInfo} (hg : aggOf P t = some g) (hi : P.info? t = some i) {cs : List AV} {off : Nat} (hl : ((cs.drop off).take i.size).length = i.size) (h1 : g = false → i.size = 1) (w : World) :
    ∃ v, (part t (cs.map (conc μ)).toArray off).run P w = .ok v w ∧ ValOf P μ t ((cs.drop off).take i.size) v := by
  cases g with
  | true =>
    refine ⟨_, run_part hg hi (v := .agg ((cs.drop off).take i.size)) (by simp [partA, hl]) w, ?_⟩
    simp [ValOf, hg, conc_agg]
  | false =>
    have hs := h1 rfl
    rw [hs] at hl ⊢
    cases hx : cs[off]? with
    | none =>
      have : cs.length ≤ off := by simpa using hx
      simp at hl; omega
    | some c =>
      refine ⟨_, run_part hg hi (v := c) (by simp [partA, hx]) w, ?_⟩
      have hlt : off < cs.length := (List.getElem?_eq_some_iff.1 hx).1
      have hd : (cs.drop off).take 1 = [c] := by
        rw [List.drop_eq_getElem_cons hlt]
        simp [(List.getElem?_eq_some_iff.1 hx).2]
      simp only [ValOf, hg]
      exact ⟨c, hd, rfl⟩

theorem info_of_und {t : TypeId} {d : TypeDesc} (h : P.underlying t = some d) : ∃ i, P.info? t = some i := by
  unfold Program.underlying at h
  cases hi : P.info? t with
  | none => simp [hi] at h
  | some i => exact ⟨i, rfl⟩

theorem cellsOf_eq {t : TypeId} {i : TypeInfo} (h : P.info? t = some i) : P.cellsOf t = i.size := by simp [Program.cellsOf, h]

def EqOk (P : Program) (D : Nat) (t : TypeId) : Prop := ∀ (w : World) (μ : Map) (xs ys : List AV) (r : Bool) (u v : Value), xs.length = P.cellsOf t → eqCells xs ys = some r → ValOf P μ t xs u → ValOf P μ t ys v →
  (Op.equalIn D t u v).run P w = .ok r w

/-- a flat type has a shape -/
theorem flat_agg {d : Nat} {t : TypeId} (h : flatT P d t = true) : ∃ g i, aggOf P t = some g ∧ P.info? t = some i ∧ (g = false → i.size = 1) := by
  cases d with
  | zero => simp [flatT] at h
  | succ d =>
    unfold flatT at h
    cases hu : P.underlying t with
    | none => simp [hu] at h
    | some k =>
      obtain ⟨i, hi⟩ := info_of_und hu
      simp only [hu] at h
      cases k <;> simp at h
      · exact ⟨false, i, by simp [aggOf, hu], hi, fun _ => by rw [cellsOf_eq hi] at h; exact h⟩
      · exact ⟨true, i, by simp [aggOf, hu], hi, by simp⟩
      · exact ⟨true, i, by simp [aggOf, hu], hi, by simp⟩

theorem step_eq {d D : Nat} {t : TypeId} (hf : flatT P d t = true) (ih : EqOk P D t) {μ : Map} {cs ds : List AV} {off : Nat} {r : Bool} (hl : off + P.cellsOf t ≤ cs.length)
    (he : eqCells ((cs.drop off).take (P.cellsOf t)) ((ds.drop off).take (P.cellsOf t)) = some r) (w : World) :
    ∃ u v, (part t (cs.map (conc μ)).toArray off).run P w = .ok u w ∧ (part t (ds.map (conc μ)).toArray off).run P w = .ok v w ∧ (Op.equalIn D t u v).run P w = .ok r w := by
  obtain ⟨g, i, hg, hi, h1⟩ := flat_agg hf
  rw [cellsOf_eq hi] at hl he
  have hlx : ((cs.drop off).take i.size).length = i.size := by simp; omega
  have hly : ((ds.drop off).take i.size).length = i.size := by rw [← eqCells_length he]; exact hlx
  obtain ⟨u, hu, hvu⟩ := part_valOf (μ := μ) hg hi hlx h1 w
  obtain ⟨v, hv, hvv⟩ := part_valOf (μ := μ) hg hi hly h1 w
  exact ⟨u, v, hu, hv, ih w μ _ _ r u v (by rw [hlx, cellsOf_eq hi]) he hvu hvv⟩

theorem run_fields {d D : Nat} (μ : Map) (cs ds : List AV) (w : World) : ∀ (fs : List Field) (off tot : Nat) (r : Bool), flatT.go P fs off = some tot → tot = cs.length →
    (∀ f ∈ fs, f.name ≠ "_" ∧ flatT P d f.type = true ∧ EqOk P D f.type) → eqCells (cs.drop off) (ds.drop off) = some r →
    (Op.eqFields D (cs.map (conc μ)).toArray (ds.map (conc μ)).toArray fs).run P w = .ok r w
  | [], off, tot, r, hgo, ht, _, he => by
    simp only [flatT.go, Option.some.injEq] at hgo
    have hl := eqCells_length he
    have : cs.drop off = [] := List.drop_eq_nil_of_le (by omega)
    rw [this] at he hl
    have : ds.drop off = [] := List.eq_nil_of_length_eq_zero (by simpa using hl.symm)
    rw [this] at he
    simp only [eqCells, Option.some.injEq] at he
    simp [Op.eqFields, ← he]
  | f :: fs, off, tot, r, hgo, ht, hall, he => by
    simp only [flatT.go] at hgo
    split at hgo
    case isFalse => cases hgo
    rename_i hoff
    subst hoff
    obtain ⟨hn, hf, ih⟩ := hall f (by simp)
    have hle : f.offset + P.cellsOf f.type ≤ cs.length := by
      have : ∀ (fs : List Field) (o t : Nat), flatT.go P fs o = some t → o ≤ t := by
        intro fs
        induction fs with
        | nil => intro o t h; simp only [flatT.go, Option.some.injEq] at h; omega
        | cons f fs ih => intro o t h; simp only [flatT.go] at h; (split at h; (have := ih _ _ h; omega); cases h)
      rw [← ht]; exact this _ _ _ hgo
    obtain ⟨r1, r2, e1, e2, rfl⟩ := eqCells_split (P.cellsOf f.type) he
    obtain ⟨u, v, hu, hv, hq⟩ := step_eq (μ := μ) hf ih hle e1 w
    rw [List.drop_drop, List.drop_drop] at e2
    have hrest := run_fields μ cs ds w fs (f.offset + P.cellsOf f.type) tot r2 hgo ht (fun g hg => hall g (by simp [hg])) e2
    simp only [Op.eqFields, hn, ne_eq, not_false_eq_true, if_true, Sem.run_bind, hu, hv, hq, Result.andThen_ok]
    cases r1
    · simp
    · simpa using hrest

theorem run_items {d D : Nat} {t : TypeId} (hf : flatT P d t = true) (ih : EqOk P D t) (μ : Map) (cs ds : List AV) (w : World) : ∀ (n j : Nat) (r : Bool), cs.length = (j + n) * P.cellsOf t →
    eqCells (cs.drop (j * P.cellsOf t)) (ds.drop (j * P.cellsOf t)) = some r →
    (Op.eqItems D t (P.cellsOf t) (cs.map (conc μ)).toArray (ds.map (conc μ)).toArray (List.range' j n)).run P w = .ok r w
  | 0, j, r, hl, he => by
    have hll := eqCells_length he
    have : cs.drop (j * P.cellsOf t) = [] := List.drop_eq_nil_of_le (by rw [hl]; simp)
    rw [this] at he hll
    have : ds.drop (j * P.cellsOf t) = [] := List.eq_nil_of_length_eq_zero (by simpa using hll.symm)
    rw [this] at he
    simp only [eqCells, Option.some.injEq] at he
    simp [Op.eqItems, ← he]
  | n + 1, j, r, hl, he => by
    obtain ⟨r1, r2, e1, e2, rfl⟩ := eqCells_split (P.cellsOf t) he
    obtain ⟨u, v, hu, hv, hq⟩ := step_eq (μ := μ) hf ih (off := j * P.cellsOf t) (by rw [hl, Nat.add_mul, Nat.succ_mul]; omega) e1 w
    rw [List.drop_drop, List.drop_drop, ← Nat.succ_mul] at e2
    have hrest := run_items hf ih μ cs ds w n (j + 1) r2 (by rw [hl]; congr 1; omega) e2
    simp only [List.range'_succ, Op.eqItems, Sem.run_bind, hu, hv, hq, Result.andThen_ok]
    cases r1
    · simp
    · simpa using hrest

theorem flat_eq : ∀ (d : Nat) (t : TypeId) (D : Nat), flatT P d t = true → d ≤ D → EqOk P D t
  | 0, _, _, h, _ => by simp [flatT] at h
  | d + 1, t, D, h, hD => by
    obtain ⟨D, rfl⟩ : ∃ D', D = D' + 1 := ⟨D - 1, by omega⟩
    intro w μ xs ys r u v hl he hu hv
    have hlen := eqCells_length he
    obtain ⟨g, i, hg, hi, h1⟩ := flat_agg h
    simp only [ValOf, hg] at hu hv
    unfold flatT at h
    cases hk : P.underlying t with
    | none => simp [hk] at h
    | some k =>
      simp only [hk] at h
      have hgk := hg
      simp only [aggOf, hk, Option.map_some, Option.some.injEq] at hgk
      cases k <;> simp only [Bool.false_eq_true] at h <;> simp only [] at hgk <;> subst hgk
      case int kk =>
        obtain ⟨c, rfl, rfl⟩ := hu
        obtain ⟨c', rfl, rfl⟩ := hv
        unfold eqCells at he
        split at he
        · cases ‹[_] = []›
        · rename_i e1 e2; cases e1; cases e2
          split at he
          · rename_i hkk; subst hkk
            simp only [eqCells, Option.map_some, Option.some.injEq, Bool.and_true] at he
            subst he
            simp only [conc]
            exact run_equalIn_int w D t _ _ _ _ hk
          · cases he
        · cases he
      case array n e =>
        simp only [Bool.and_eq_true, beq_iff_eq] at h
        subst hu; subst hv
        obtain ⟨g', i', hg', hi', h1'⟩ := flat_agg h.1
        rw [run_equalIn_array w D _ _ hk hi', List.range_eq_range']
        exact run_items h.1 (flat_eq d e D h.1 (by omega)) μ xs ys w n 0 r (by rw [hl, h.2]; simp) (by simpa using he)
      case struct fs =>
        simp only [Bool.and_eq_true, Bool.not_eq_true', List.all_eq_true, bne_iff_ne, ne_eq, beq_iff_eq] at h
        subst hu; subst hv
        have hfs : P.fieldsOf t = fs := by simp [Program.fieldsOf, hk]
        rw [run_equalIn_struct w D t _ _ (by rw [hfs]; exact hk) h.1.1, hfs]
        exact run_fields (d := d) μ xs ys w fs.toList 0 _ r h.2 hl.symm (fun f hf => ⟨(h.1.2 f hf).1, (h.1.2 f hf).2, flat_eq d f.type D (h.1.2 f hf).2 (by omega)⟩) (by simpa using he)

end
end Go.Eng
