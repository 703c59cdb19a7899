/- Engine, part 10: composite values and slices. -/
import Derived.Test.YthbbncgbbkcdgaaGreatDoorE9
namespace Go.Eng
open Go

theorem mapM_spec {α β : Type} {f : α → Option β} : ∀ {l : List α} {qs : List β}, l.mapM f = some qs → qs.length = l.length ∧ ∀ (i : Nat) p, l[i]? = some p → ∃ q, qs[i]? = some q ∧ f p = some q
  | [], qs, h => by simp at h; subst h; simp
  | x :: l, qs, h => by
    rw [List.mapM_cons] at h
    simp only [Option.bind_eq_bind, Option.bind_eq_some_iff, Option.pure_def, Option.some.injEq] at h
    obtain ⟨q, hq, qs', hqs, rfl⟩ := h
    obtain ⟨h1, h2⟩ := mapM_spec hqs
    refine ⟨by simp [h1], fun i p hp => ?_⟩
    cases i with
    | zero => simp at hp; subst hp; exact ⟨q, rfl, hq⟩
    | succ i => simpa using h2 i p (by simpa using hp)

section
variable {P : Program} {dst : Option Tmp} {type : TypeId} {pos : String} {after : Array Edge} {guard : Option (Nat × Bool)}

theorem parts_says {ρ : Operand → Value} {μ : Map} {a : List AV} {ps : Array (Nat × Operand)} (hs : ∀ p ∈ ps.toList, ρ p.2 = conc μ (ev a (cx p.2))) {f : Nat × Operand → Option (Nat × Nat × RX)} {qs : List (Nat × Nat × RX)} {place : Nat → Option (Nat × Nat)}
    (hq : ps.toList.mapM f = some qs) (hf : ∀ p q, f p = some q → place p.1 = some (q.1, q.2.1) ∧ q.2.2 = cx p.2) :
    ((ps.map fun (i, x) => (i, ρ x)).toList).length = (qs.map fun p => (p.1, p.2.1, ev a p.2.2)).length ∧
    ∀ (i : Nat) (p : Nat × Value) (q : Nat × Nat × AV), ((ps.map fun (i, x) => (i, ρ x)).toList)[i]? = some p → (qs.map fun p => (p.1, p.2.1, ev a p.2.2))[i]? = some q → place p.1 = some (q.1, q.2.1) ∧ p.2 = conc μ q.2.2 := by
  obtain ⟨h1, h2⟩ := mapM_spec hq
  refine ⟨by simp [h1], fun i p q hp hq' => ?_⟩
  simp only [Array.toList_map, List.getElem?_map, Option.map_eq_some_iff] at hp hq'
  obtain ⟨⟨j, x⟩, hx, rfl⟩ := hp
  obtain ⟨q0, hq0, rfl⟩ := hq'
  obtain ⟨q1, hq1, hf1⟩ := h2 i (j, x) hx
  rw [hq0] at hq1
  cases hq1
  obtain ⟨g1, g2⟩ := hf _ _ hf1
  exact ⟨g1, by simp only [g2]; exact hs _ (List.mem_of_getElem? hx)⟩

theorem zero_of {t : TypeId} {z : List AV} (hz : zeroCellsOf P t = some z) : ∃ i zv, P.info? t = some i ∧ i.zero = some zv ∧ (∀ μ, zv.cells = (z.map (conc μ)).toArray) ∧ (∀ U μ, ∀ v ∈ z, vok U μ v) := by
  unfold zeroCellsOf at hz
  cases hi : P.info? t with
  | none => simp [hi] at hz
  | some i =>
    cases hzz : i.zero with
    | none => simp [hi, hzz] at hz
    | some zv =>
      simp [hi, hzz] at hz
      subst hz
      refine ⟨i, zv, rfl, hzz, fun μ => ?_, fun U μ v hv => ?_⟩
      · apply Array.ext'
        rw [List.map_map]
        conv => lhs; rw [← List.map_id zv.cells.toList]
        exact List.map_congr_left fun x _ => (conc_ofCell μ x).symm
      · obtain ⟨x, _, rfl⟩ := List.mem_map.1 hv
        exact vok_ofCell U μ x

theorem vok_parts {U : Nat → Prop} {μ : Map} {a : List AV} {ps : List (Nat × Operand)} (ha : ∀ p ∈ ps, vok U μ (ev a (cx p.2))) {f : Nat × Operand → Option (Nat × Nat × RX)} {qs : List (Nat × Nat × RX)}
    (hq : ps.mapM f = some qs) (hf : ∀ p q, f p = some q → q.2.2 = cx p.2) : ∀ q ∈ (qs.map fun p => (p.1, p.2.1, ev a p.2.2)), vok U μ q.2.2 := by
  intro q hq'
  simp only [List.mem_map] at hq'
  obtain ⟨q0, h0, rfl⟩ := hq'
  obtain ⟨h1, h2⟩ := mapM_spec hq
  obtain ⟨i, hi, rfl⟩ := List.mem_iff_getElem.1 h0
  obtain ⟨q1, hq1, hf1⟩ := h2 i ps[i] (by simp [← h1, hi])
  have : q1 = qs[i] := by
    rw [List.getElem?_eq_getElem hi] at hq1; exact (Option.some.inj hq1).symm
  subst this
  simp only [hf _ _ hf1]
  exact ha _ (List.getElem_mem _)

theorem sound_buildS (t : TypeId) (ps : Array (Nat × Operand)) (z : List AV) (fs : Array Field) (qs : List (Nat × Nat × RX)) (hz : zeroCellsOf P t = some z) (hu : P.underlying t = some (.struct fs))
    (hq : ps.toList.mapM (fun p => do let f ← fs[p.1]?; let i ← P.info? f.type; some (f.offset, i.size, cx p.2)) = some qs) (hall : (fs.toList.all fun f => (P.info? f.type).isSome) = true) :
    Sound P ⟨dst, .build t ps, type, pos, after, guard⟩ (.build z qs) := by
  intro ρ a μ U h w n v rd eff hs ha r hn he
  simp only [aop, Option.map_eq_some_iff, Prod.mk.injEq] at he
  obtain ⟨cs, hcs, rfl, rfl, rfl⟩ := he
  obtain ⟨i, zv, hi, hzz, hzc, hzo⟩ := zero_of hz
  obtain ⟨places, hpl⟩ : ∃ places, fs.toList.mapM (fun f => (P.info? f.type).map fun i => (f.offset, i.size)) = some places := by
    revert hall
    generalize fs.toList = l
    intro hall
    induction l with
    | nil => exact ⟨[], rfl⟩
    | cons f l ih =>
      simp only [List.all_cons, Bool.and_eq_true, Option.isSome_iff_exists] at hall
      obtain ⟨⟨j, hj⟩, h2⟩ := hall
      obtain ⟨pl, hpl⟩ := ih h2
      exact ⟨(f.offset, j.size) :: pl, by simp [List.mapM_cons, hj, hpl]⟩
  have hp : ∀ p q, (do let f ← fs[p.1]?; let i ← P.info? f.type; some (f.offset, i.size, cx p.2) : Option (Nat × Nat × RX)) = some q → places.toArray[(p : Nat × Operand).1]? = some (q.1, q.2.1) ∧ q.2.2 = cx p.2 := by
    intro p q h1
    simp only [Option.bind_eq_bind, Option.bind_eq_some_iff, Option.some.injEq] at h1
    obtain ⟨f, hf, j, hj, rfl⟩ := h1
    obtain ⟨_, h3⟩ := mapM_spec hpl
    obtain ⟨q2, hq2, hf2⟩ := h3 p.1 f (by simpa using hf)
    simp only [hj, Option.map_some, Option.some.injEq] at hf2
    subst hf2
    exact ⟨by simpa using hq2, rfl⟩
  obtain ⟨hl, hsay⟩ := parts_says (place := fun x => places.toArray[x]?) (fun p hp => hs p.2 (by simp only [Op.operands]; exact List.mem_toArray.2 (List.mem_map.2 ⟨p, hp, rfl⟩))) hq hp
  have hfill := fill_says μ (fun x => places.toArray[x]?) _ _ z cs hl hsay hcs
  have hbuilt : P.built t ((ps.map fun (i, x) => (i, ρ x)).toList) = some (cs.map (conc μ)).toArray := by
    simp only [Program.built, hi, hu, hzz, hpl, hzc μ]
    exact hfill
  refine Done.pure r ?_ ?_
  · simp only [execOp, Sem.run_bind]
    rw [run_build w t _ _ hbuilt]
    simp [conc_agg]
  · simp only [vok]
    exact vokL_iff.2 (vok_fillA _ _ _ hcs (hzo U μ) (vok_parts (fun p hp => ha p.2 (by simp only [Op.operands]; exact List.mem_toArray.2 (List.mem_map.2 ⟨p, hp, rfl⟩))) hq fun p q h1 => (hp p q h1).2))

theorem mapM_pure' {α β : Type} (f : α → β) (l : List α) : l.mapM (fun x => (some (f x) : Option β)) = some (l.map f) := by
  induction l with
  | nil => rfl
  | cons x l ih => simp [List.mapM_cons, ih]

theorem sound_buildA (t : TypeId) (ps : Array (Nat × Operand)) (z : List AV) (len : Nat) (e : TypeId) (ie : TypeInfo) (hz : zeroCellsOf P t = some z) (hu : P.underlying t = some (.array len e)) (hie : P.info? e = some ie) :
    Sound P ⟨dst, .build t ps, type, pos, after, guard⟩ (.build z (ps.toList.map fun p => (p.1 * ie.size, ie.size, cx p.2))) := by
  intro ρ a μ U h w n v rd eff hs ha r hn he
  simp only [aop, Option.map_eq_some_iff, Prod.mk.injEq] at he
  obtain ⟨cs, hcs, rfl, rfl, rfl⟩ := he
  obtain ⟨i, zv, hi, hzz, hzc, hzo⟩ := zero_of hz
  have hq := mapM_pure' (fun p : Nat × Operand => (p.1 * ie.size, ie.size, cx p.2)) ps.toList
  obtain ⟨hl, hsay⟩ := parts_says (place := fun i => some (i * ie.size, ie.size)) (fun p hp => hs p.2 (by simp only [Op.operands]; exact List.mem_toArray.2 (List.mem_map.2 ⟨p, hp, rfl⟩))) hq (fun p q h1 => by cases h1; exact ⟨rfl, rfl⟩)
  have hfill := fill_says μ (fun i => some (i * ie.size, ie.size)) _ _ z cs hl hsay hcs
  have hbuilt : P.built t ((ps.map fun (i, x) => (i, ρ x)).toList) = some (cs.map (conc μ)).toArray := by
    simp only [Program.built, hi, hu, hzz, hie, hzc μ]
    exact hfill
  refine Done.pure r ?_ ?_
  · simp only [execOp, Sem.run_bind]
    rw [run_build w t _ _ hbuilt]
    simp [conc_agg]
  · simp only [vok]
    exact vokL_iff.2 (vok_fillA _ _ _ hcs (hzo U μ) (vok_parts (fun p hp => ha p.2 (by simp only [Op.operands]; exact List.mem_toArray.2 (List.mem_map.2 ⟨p, hp, rfl⟩))) hq fun p q h1 => by cases h1; rfl))

theorem length_repl (z : List AV) : ∀ n, (repl z n).length = n * z.length
  | 0 => by simp [repl]
  | n + 1 => by simp [repl, length_repl z n, Nat.succ_mul]; omega

theorem mem_repl {z : List AV} {v : AV} : ∀ {n}, v ∈ repl z n → v ∈ z
  | 0, h => by simp [repl] at h
  | n + 1, h => by
    simp only [repl, List.mem_append] at h
    rcases h with h | h
    · exact h
    · exact mem_repl h

theorem getElem?_repl (z : List AV) (hz : 0 < z.length) : ∀ (n i : Nat), i < n * z.length → (repl z n)[i]? = z[i % z.length]?
  | 0, i, h => by simp at h
  | n + 1, i, h => by
    simp only [repl]
    by_cases hi : i < z.length
    · rw [List.getElem?_append_left hi, Nat.mod_eq_of_lt hi]
    · rw [List.getElem?_append_right (by omega), getElem?_repl z hz n (i - z.length) (by rw [Nat.succ_mul] at h; omega)]
      congr 1
      rw [← Nat.mod_eq_sub_mod (by omega)]

theorem repl_conc {z : List AV} (hz : 0 < z.length) (n : Nat) (μ : Map) {zc : Array Value} (hzc : zc = (z.map (conc μ)).toArray) :
    (Array.range (n * z.length)).map (fun i => zc[i % zc.size]!) = ((repl z n).map (conc μ)).toArray := by
  subst hzc
  apply Array.ext'
  apply List.ext_getElem?
  intro i
  by_cases hi : i < n * z.length
  · have h1 := getElem?_repl z hz n i hi
    have hlt := Nat.mod_lt i hz
    simp only [Array.toList_map, Array.toList_range, List.getElem?_map, List.getElem?_range hi, Option.map_some, h1, List.getElem?_eq_getElem hlt]
    congr 1
    simp [hlt]
  · rw [List.getElem?_eq_none (by simp; omega), List.getElem?_eq_none (by simp [length_repl]; omega)]

theorem zeroCells_conc {z : List AV} (hz : 0 < z.length) (n : Nat) (μ : Map) {zc : Array Value} (hzc : zc = (z.map (conc μ)).toArray) : Builtin.zeroCells zc n = ((repl z n).map (conc μ)).toArray := by
  have hs : zc.size = z.length := by subst hzc; simp
  unfold Builtin.zeroCells
  rw [hs]
  have := repl_conc hz n μ hzc
  rw [hs] at this
  exact this

theorem sound_bsl (t : TypeId) (len : Nat) (ps : Array (Nat × Operand)) (e : TypeId) (ie : TypeInfo) (z : List AV) (hu : P.underlying t = some (.slice e)) (hie : P.info? e = some ie) (hz : zeroCellsOf P e = some z)
    (h0 : ie.size ≠ 0) (hzl : z.length = ie.size) (hb : len * ie.size ≤ 2 ^ 20) :
    Sound P ⟨dst, .buildSlice t len ps, type, pos, after, guard⟩ (.bsl ie.size z len (ps.toList.map fun p => (p.1 * ie.size, ie.size, cx p.2))) := by
  intro ρ a μ U h w n v rd eff hs ha r hn he
  simp only [aop, Option.map_eq_some_iff, Prod.mk.injEq] at he
  obtain ⟨cs, hcs, rfl, rfl, rfl⟩ := he
  obtain ⟨i, zv, hi, hzz, hzc, hzo⟩ := zero_of hz
  have hie' : i = ie := by rw [hie] at hi; exact (Option.some.inj hi).symm
  subst hie'
  have hq := mapM_pure' (fun p : Nat × Operand => (p.1 * i.size, i.size, cx p.2)) ps.toList
  obtain ⟨hl, hsay⟩ := parts_says (place := fun j => some (j * i.size, i.size)) (fun p hp => hs p.2 (by simp only [Op.operands]; exact List.mem_toArray.2 (List.mem_map.2 ⟨p, hp, rfl⟩))) hq (fun p q h1 => by cases h1; exact ⟨rfl, rfl⟩)
  have hfill := fill_says μ (fun j => some (j * i.size, i.size)) _ _ (repl z len) cs hl hsay hcs
  have hok : ∀ v ∈ cs, vok U μ v := vok_fillA _ _ _ hcs (fun u hu => hzo U μ u (mem_repl hu)) (vok_parts (fun p hp => ha p.2 (by simp only [Op.operands]; exact List.mem_toArray.2 (List.mem_map.2 ⟨p, hp, rfl⟩))) hq fun p q h1 => by cases h1; rfl)
  have hrun : (Instr.buildSlice t len (ps.map fun (i, x) => (i, ρ x))).run P w = .ok (.slice (some ⟨w.heap.size, 0, none⟩) len len) (w.alloc (.cells (cs.map (conc μ)).toArray e)) := by
    have hrep : (Array.range (len * i.size)).map (fun j => zv.cells[j % zv.cells.size]!) = ((repl z len).map (conc μ)).toArray := by
      have := repl_conc (z := z) (by omega) len μ (hzc μ)
      rwa [hzl] at this
    have hb' : ¬ (16777216 < len * i.size) := by omega
    generalize (ps.map fun (i, x) => (i, ρ x)) = L at hfill ⊢
    by_cases hl0 : len * i.size = 0
    · have : len = 0 := by
        rcases Nat.mul_eq_zero.1 hl0 with h | h
        · exact h
        · exact absurd h h0
      subst this
      simp only [repl, List.map_nil] at hfill
      have hfill0 : Instr.fill (fun j => some (j * i.size, i.size)) #[] L.toList = some (cs.map (conc μ)).toArray := hfill
      have hr : Array.range 0 = #[] := rfl
      simp [Instr.buildSlice, run_underlying hu, sizeOf, typeInfo, hi, hr, hfill0, newRow]
    · simp [Instr.buildSlice, run_underlying hu, sizeOf, typeInfo, zeroValue, hi, hzz, hb', hl0, hrep, hfill, newRow]
  refine Done.alloc (c := (cs.map (conc μ)).toArray) (ty := e) (w' := w.alloc (.cells (cs.map (conc μ)).toArray e)) r (hn rfl) hok (by simp) (fun j v hv => by simp [hv]) rfl rfl rfl rfl ?_ ?_
  · simp only [execOp, Sem.run_bind, hrun]
    simp [conc, updμ]
  · simp [vok, Un]

end
end Go.Eng
