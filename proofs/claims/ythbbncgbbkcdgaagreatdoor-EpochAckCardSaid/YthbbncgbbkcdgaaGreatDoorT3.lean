/- Engine, part 4: every abstract step is a step of the model. -/
import Derived.Test.YthbbncgbbkcdgaaGreatDoorT2
import Derived.Laws.StructEq
import Derived.Laws.Build
set_option linter.unusedSimpArgs false
set_option linter.unusedVariables false
set_option linter.unnecessarySimpa false
namespace Go.Eng
open Go

theorem conc_ofCell (μ : Map) (v : Value) : conc μ (ofCell v) = v := by
  unfold ofCell
  split <;> simp [conc]

theorem conc_ofValue (μ : Map) (v : Value) : conc μ (ofValue v) = v := by
  have hl : ∀ l : List Value, (l.map ofCell).map (conc μ) = l := fun l => by
    rw [List.map_map]
    conv => rhs; rw [← List.map_id l]
    exact List.map_congr_left fun x _ => conc_ofCell μ x
  unfold ofValue
  split
  · simp only [conc, concL_eq, hl]
  · simp only [conc, concL_eq, hl]
  · simp only [conc, conc_ofCell]
  · exact conc_ofCell μ _

theorem vok_ofCell (U : Nat → Prop) (μ : Map) (v : Value) : vok U μ (ofCell v) := by
  unfold ofCell
  split <;> simp [vok]

theorem vok_ofValue (U : Nat → Prop) (μ : Map) (v : Value) : vok U μ (ofValue v) := by
  have hl : ∀ l : List Value, vokL U μ (l.map ofCell) := fun l => vokL_iff.2 fun x hx => by
    obtain ⟨y, _, rfl⟩ := List.mem_map.1 hx
    exact vok_ofCell U μ y
  unfold ofValue
  split
  · simp only [vok, hl]
  · simp only [vok, hl]
  · simp only [vok, vok_ofCell]
  · exact vok_ofCell U μ _

/-- The model's operands, as the abstract temporaries say. -/
def Says (op : Op) (ρ : Operand → Value) (μ : Map) (a : List AV) : Prop := ∀ x ∈ op.operands, ρ x = conc μ (ev a (cx x))

def OkOps (op : Op) (U : Nat → Prop) (μ : Map) (a : List AV) : Prop := ∀ x ∈ op.operands, vok U μ (ev a (cx x))

theorem vok_ev {U : Nat → Prop} {μ : Map} {a : List AV} (ha : ∀ v ∈ a, vok U μ v) (x : Operand) : vok U μ (ev a (cx x)) := by
  cases x with
  | tmp t =>
    simp only [cx, ev]
    cases hx : a[t]? with
    | some v => rw [List.getD, hx]; exact ha _ (List.mem_of_getElem? hx)
    | none => rw [List.getD, hx]; simp [undefA, vok, vokL]
  | const v => exact vok_ofValue U μ v
  | global g => simp [cx, ev, vok]
  | func f => simp [cx, ev, vok, vokL]

/-- The names in use behind an effect. -/
def UA (U : Nat → Prop) (n : Nat) : Eff → (Nat → Prop)
  | .al _ | .ap _ _ => Un U n
  | _ => U

def Eff.news : Eff → Nat
  | .al _ | .ap _ _ => 1
  | _ => 0

def Done (P : Program) (o : Oper) (ρ : Operand → Value) (U : Nat → Prop) (μ : Map) (h : Heap) (w : World) (n : Nat) (v : AV) (eff : Eff) : Prop :=
  ∃ w' μ', ((execOp ρ o).run P w = .ok (.value (conc μ' v)) w' ∨ ((execOp ρ o).run P w = .ok .skip w' ∧ v = undefA)) ∧
    Rel P.globals.size (UA U n eff) μ' (applyEff n h eff) w' ∧ Ext U μ h w (UA U n eff) μ' (applyEff n h eff) w' ∧ vok (UA U n eff) μ' v

theorem Done.pure {P : Program} {o : Oper} {ρ : Operand → Value} {U : Nat → Prop} {μ : Map} {h : Heap} {w : World} {n : Nat} {v : AV} (r : Rel P.globals.size U μ h w)
    (hr : (execOp ρ o).run P w = .ok (.value (conc μ v)) w) (hv : vok U μ v) : Done P o ρ U μ h w n v .no :=
  ⟨w, μ, .inl hr, r.no rfl, Ext.no rfl rfl rfl rfl, hv⟩

theorem Done.pure' {P : Program} {o : Oper} {ρ : Operand → Value} {U : Nat → Prop} {μ : Map} {h : Heap} {w : World} {n : Nat} {v : AV} {u : Value} (r : Rel P.globals.size U μ h w)
    (hr : (execOp ρ o).run P w = .ok (.value u) w) (hu : conc μ v = u) (hv : vok U μ v) : Done P o ρ U μ h w n v .no :=
  Done.pure r (hu ▸ hr) hv

/-- A new block. -/
theorem Done.alloc {P : Program} {o : Oper} {ρ : Operand → Value} {U : Nat → Prop} {μ : Map} {h : Heap} {w w' : World} {n : Nat} {v : AV} (r : Rel P.globals.size U μ h w) (hn : ¬ U n)
    {e : Nat} {cs : List AV} (hcs : ∀ v ∈ cs, vok U μ v) {c : Array Value} {ty : TypeId} (hcl : cs.length ≤ c.size) (hc : ∀ (i : Nat) v, cs[i]? = some v → c[i]? = some (conc μ v))
    (hh : w'.heap = w.heap.push (.cells c ty (0, 0))) (ho : w'.os = w.os) (ht : w'.tape = w.tape) (hu : w'.output = w.output)
    (hr : (execOp ρ o).run P w = .ok (.value (conc (updμ μ n ⟨w.heap.size, 0, c.size, e⟩) v)) w') (hv : vok (Un U n) (updμ μ n ⟨w.heap.size, 0, c.size, e⟩) v) :
    Done P o ρ U μ h w n v (.al (.cells e cs)) :=
  ⟨w', _, .inl hr, r.new hn hcs ⟨w.heap.size, 0, c.size, e⟩ rfl rfl rfl (by simpa using hcl) (fun (i : Nat) v hv => by simpa using hc i v hv) hh,
    Ext.new hn r rfl ⟨w.heap.size, 0, c.size, e⟩ rfl hh ho ht hu, hv⟩

/-- The concrete cells of a block, written. -/
theorem BlkAt.write {μ : Map} {w : World} {b e off : Nat} {cs vs : List AV} {c : Array Value} {ty : TypeId} (h1 : w.heap[(μ b).blk]? = some (.cells c ty (0, 0))) (h2 : c.size = (μ b).size) (h3 : (μ b).esz = e) (h5 : (μ b).shift + cs.length ≤ (μ b).size)
    (h4 : ∀ i v, cs[i]? = some v → c[(μ b).shift + i]? = some (conc μ v)) (hl : off + vs.length ≤ cs.length) :
    BlkAt μ (w.setRow (μ b).blk (c.toList.take ((μ b).shift + off) ++ vs.map (conc μ) ++ c.toList.drop ((μ b).shift + off + vs.length)).toArray) b (.cells e (splice cs off vs)) := by
  have hcl : (μ b).shift + off + vs.length ≤ c.size := by omega
  refine ⟨_, ty, setRow_heap w _ c _ ty _ h1, ?_, h3, ?_, fun i v hv => ?_⟩
  · simp; omega
  · rw [length_splice _ _ _ hl]; exact h5
  · rw [getElem?_splice _ _ _ hl] at hv
    simp only [List.getElem?_toArray, List.append_assoc]
    by_cases hi : i < off
    · rw [if_pos hi] at hv
      rw [List.getElem?_append_left (by simp; omega), List.getElem?_take, if_pos (by omega)]
      simpa using h4 i v hv
    · rw [if_neg hi] at hv
      rw [List.getElem?_append_right (by simp; omega)]
      have hlen : (c.toList.take ((μ b).shift + off)).length = (μ b).shift + off := by simp; omega
      rw [hlen]
      by_cases hi2 : i < off + vs.length
      · rw [if_pos hi2] at hv
        rw [List.getElem?_append_left (by simp; omega)]
        rw [show (μ b).shift + i - ((μ b).shift + off) = i - off by omega]
        simp [hv]
      · rw [if_neg hi2] at hv
        rw [List.getElem?_append_right (by simp; omega), List.getElem?_drop]
        have := h4 i v hv
        rw [← Array.getElem?_toList] at this
        rw [← this]
        congr 1
        simp
        omega

end Go.Eng
/- Engine, part 5: the operations, one by one. -/
namespace Go.Eng
open Go

/-- What is to be shown of one operation. -/
def Sound (P : Program) (o : Oper) (ro : ROp) : Prop :=
  ∀ (ρ : Operand → Value) (a : List AV) (μ : Map) (U : Nat → Prop) (h : Heap) (w : World) (n : Nat) (v : AV) (rd : List Nat) (eff : Eff),
    Says o.op ρ μ a → OkOps o.op U μ a → Rel P.globals.size U μ h w → (eff.news = 1 → ¬ U n) → aop P a h n ro = some (v, rd, eff) → Done P o ρ U μ h w n v eff

section
variable {P : Program} {dst : Option Tmp} {type : TypeId} {pos : String} {after : Array Edge} {guard : Option (Nat × Bool)}

theorem sound_mv (x : Operand) : Sound P ⟨dst, .move x, type, pos, after, guard⟩ (.mv (cx x)) := by
  intro ρ a μ U h w n v rd eff hs ha r hn he
  simp only [aop, Option.some.injEq, Prod.mk.injEq] at he
  obtain ⟨rfl, rfl, rfl⟩ := he
  exact Done.pure r (by simp [execOp, hs x (by simp [Op.operands, Call.operands])]) (ha x (by simp [Op.operands, Call.operands]))

theorem sound_assign (x : Operand) : Sound P ⟨dst, .assign x, type, pos, after, guard⟩ (.mv (cx x)) := by
  intro ρ a μ U h w n v rd eff hs ha r hn he
  simp only [aop, Option.some.injEq, Prod.mk.injEq] at he
  obtain ⟨rfl, rfl, rfl⟩ := he
  exact Done.pure r (by simp [execOp, hs x (by simp [Op.operands, Call.operands])]) (ha x (by simp [Op.operands, Call.operands]))

theorem sound_pick (c x y : Operand) : Sound P ⟨dst, .pick c x y, type, pos, after, guard⟩ (.pick (cx c) (cx x) (cx y)) := by
  intro ρ a μ U h w n v rd eff hs ha r hn he
  simp only [aop] at he
  split at he
  · rename_i t ht
    simp only [Option.some.injEq, Prod.mk.injEq] at he
    obtain ⟨rfl, rfl, rfl⟩ := he
    refine Done.pure r ?_ ?_
    · cases t <;> simp [execOp, hs c (by simp [Op.operands, Call.operands]), hs x (by simp [Op.operands, Call.operands]), hs y (by simp [Op.operands, Call.operands]), ht, conc, asBool]
    · cases t
      · exact ha y (by simp [Op.operands, Call.operands])
      · exact ha x (by simp [Op.operands, Call.operands])
  · cases he

theorem run_zero {t : TypeId} {z : List AV} (hz : zeroCellsOf P t = some z) (w : World) : ∃ zv, (zeroValue t).run P w = .ok zv w ∧ zv.cells.toList = z.map (conc (fun _ => ⟨0, 0, 0, 0⟩)) ∧
    (∀ μ, zv.cells.toList = z.map (conc μ)) ∧ ∀ U μ, ∀ v ∈ z, vok U μ v := by
  unfold zeroCellsOf at hz
  cases hi : P.info? t with
  | none => simp [hi] at hz
  | some i =>
    cases hzz : i.zero with
    | none => simp [hi, hzz] at hz
    | some zv =>
      simp [hi, hzz] at hz
      subst hz
      have hl : ∀ μ, zv.cells.toList = (zv.cells.toList.map ofCell).map (conc μ) := fun μ => by
        rw [List.map_map]
        conv => lhs; rw [← List.map_id zv.cells.toList]
        exact List.map_congr_left fun x _ => (conc_ofCell μ x).symm
      refine ⟨zv, by simp [zeroValue, typeInfo, hi, hzz], hl _, hl, fun U μ v hv => ?_⟩
      obtain ⟨x, _, rfl⟩ := List.mem_map.1 hv
      exact vok_ofCell U μ x

theorem getElem?_of_map {μ : Map} {c : Array Value} {cs : List AV} (h : c.toList = cs.map (conc μ)) (i : Nat) (v : AV) (hv : cs[i]? = some v) : c[i]? = some (conc μ v) := by
  rw [← Array.getElem?_toList, h]; simp [hv]

theorem size_of_map {μ : Map} {c : Array Value} {cs : List AV} (h : c.toList = cs.map (conc μ)) : cs.length = c.size := by
  rw [← Array.length_toList, h]; simp

theorem sound_new (e : TypeId) (z : List AV) (hz : zeroCellsOf P e = some z) : Sound P ⟨dst, .alloc e, type, pos, after, guard⟩ (.new 0 z) := by
  intro ρ a μ U h w n v rd eff hs ha r hn he
  simp only [aop, Option.some.injEq, Prod.mk.injEq] at he
  obtain ⟨rfl, rfl, rfl⟩ := he
  obtain ⟨zv, h1, _, h2, h3⟩ := run_zero hz w
  refine Done.alloc (c := zv.cells) (ty := e) (w' := w.alloc (.cells zv.cells e)) r (hn rfl) (h3 U μ) (by rw [size_of_map (h2 μ)]; exact Nat.le_refl _) (fun i v hv => getElem?_of_map (h2 μ) i v hv) rfl rfl rfl rfl ?_ ?_
  · simp [execOp, Instr.alloc, h1, newVar, newRow, conc, updμ]
  · simp [vok, Un]

theorem sound_box (e : TypeId) (x : Operand) : Sound P ⟨dst, .box e x, type, pos, after, guard⟩ (.box (cx x)) := by
  intro ρ a μ U h w n v rd eff hs ha r hn he
  simp only [aop, Option.some.injEq, Prod.mk.injEq] at he
  obtain ⟨rfl, rfl, rfl⟩ := he
  have hc := cells_conc μ (ev a (cx x))
  refine Done.alloc (c := (conc μ (ev a (cx x))).cells) (ty := e) (w' := w.alloc (.cells (conc μ (ev a (cx x))).cells e)) r (hn rfl) (vok_cellsA (ha x (by simp [Op.operands, Call.operands]))) (by rw [size_of_map hc]; exact Nat.le_refl _) (fun i v hv => getElem?_of_map hc i v hv) rfl rfl rfl rfl ?_ ?_
  · simp [execOp, Instr.box, newVar, newRow, conc, updμ, hs x (by simp [Op.operands, Call.operands])]
  · simp [vok, Un]

theorem addr_add (b o k : Nat) : (⟨b, o, none⟩ : Addr).add k = ⟨b, o + k, none⟩ := by
  unfold Addr.add; split <;> simp_all

theorem cell_at {μ : Map} {w : World} {b : Nat} {k : Blk} {cs : List AV} (hb : BlkAt μ w b k) (hk : rdOf (some k) = some cs) {i : Nat} {v : AV} (hv : cs[i]? = some v) : w.cell? ⟨(μ b).blk, (μ b).shift + i, none⟩ = some (conc μ v) := by
  cases k with
  | cells e cs' =>
    cases hk
    obtain ⟨c, ty, h1, h2, h3, h5, h4⟩ := hb
    simp [World.cell?, h1, h4 i v hv]
  | ro cs' =>
    cases hk
    obtain ⟨c, ty, fr, h1, h4⟩ := hb
    simp [World.cell?, h1, h4 i v hv]
  | mapo kv => cases hk

theorem ok_at {U : Nat → Prop} {μ : Map} {k : Blk} {cs : List AV} (hb : BlkOk U μ k) (hk : rdOf (some k) = some cs) : ∀ v ∈ cs, vok U μ v := by
  cases k with
  | cells e cs' => cases hk; exact hb
  | ro cs' => cases hk; exact hb
  | mapo kv => cases hk

theorem rdOf_some {o : Option Blk} {cs : List AV} (h : rdOf o = some cs) : ∃ k, o = some k ∧ rdOf (some k) = some cs := by
  cases o with
  | none => cases h
  | some k => exact ⟨k, rfl, h⟩

theorem run_aggOf {t : TypeId} {g : Bool} (h : aggOf P t = some g) (w : World) : (isAgg t).run P w = .ok g w := by
  unfold aggOf at h
  cases hu : P.underlying t with
  | none => simp [hu] at h
  | some d =>
    simp only [hu, Option.map_some, Option.some.injEq] at h
    subst h
    cases d <;> simp [isAgg, run_underlying hu]

theorem conc_agg (μ : Map) (cs : List AV) : conc μ (.agg cs) = .agg (cs.map (conc μ)).toArray := by simp [conc, concL_eq]
theorem conc_tup (μ : Map) (cs : List AV) : conc μ (.tup cs) = .tuple (cs.map (conc μ)).toArray := by simp [conc, concL_eq]

theorem run_load_cells {μ : Map} {w : World} {b off k : Nat} {kb : Blk} {cs : List AV} (hb : BlkAt μ w b kb) (hk : rdOf (some kb) = some cs) (hl : ((cs.drop off).take k).length = k) :
    (loadCells ⟨(μ b).blk, (μ b).shift + off, none⟩ k).run P w = .ok (((cs.drop off).take k).map (conc μ)).toArray w := by
  have := run_loadCells_list (P := P) w ⟨(μ b).blk, (μ b).shift + off, none⟩ (((cs.drop off).take k).map (conc μ)) (fun j u hu => by
    rw [addr_add]
    simp only [List.getElem?_map, List.getElem?_take, List.getElem?_drop, Option.map_eq_some_iff] at hu
    obtain ⟨v, hv, rfl⟩ := hu
    split at hv
    · rw [Nat.add_assoc]; exact cell_at hb hk hv
    · cases hv)
  rwa [List.length_map, hl] at this

/-- A load, wherever its address comes from. -/
theorem done_ld (t : TypeId) (x : Operand) (g : Bool) (i : TypeInfo) (hg : aggOf P t = some g) (hi : P.info? t = some i) {ρ : Operand → Value} {μ : Map} {U : Nat → Prop} {h : Heap} {w : World} {n b off : Nat} {cs : List AV} {v : AV}
    (r : Rel P.globals.size U μ h w) (hx : ρ x = .pointer (some ⟨(μ b).blk, (μ b).shift + off, none⟩)) (hb : rdOf (h b) = some cs) (hv' : partA g cs off i.size = some v) :
    Done P ⟨dst, .load t x, type, pos, after, guard⟩ ρ U μ h w n v .no := by
  obtain ⟨k, hk1, hk2⟩ := rdOf_some hb
  have hat := r.at_ b _ hk1
  have hok : ∀ v ∈ cs, vok U μ v := ok_at (r.ok b _ hk1) hk2
  simp only [partA] at hv'
  cases g with
  | true =>
    simp only [if_true] at hv'
    split at hv'
    case isFalse => cases hv'
    rename_i hl
    cases hv'
    refine Done.pure r ?_ ?_
    · simp [execOp, Instr.loadAt, Instr.sureAddr, hx, conc, loadVar, run_aggOf hg, sizeOf, typeInfo, hi, run_load_cells hat hk2 hl, concL_eq]
    · simp only [vok]; exact vokL_iff.2 fun u hu => hok u (List.mem_of_mem_drop (List.mem_of_mem_take hu))
  | false =>
    simp only [Bool.false_eq_true, if_false] at hv'
    refine Done.pure r ?_ (hok v (List.mem_of_getElem? hv'))
    simp [execOp, Instr.loadAt, Instr.sureAddr, hx, loadVar, run_aggOf hg, cell_at hat hk2 hv']

theorem sound_ld (t : TypeId) (x : Operand) (g : Bool) (i : TypeInfo) (hg : aggOf P t = some g) (hi : P.info? t = some i) : Sound P ⟨dst, .load t x, type, pos, after, guard⟩ (.ld g i.size (cx x)) := by
  intro ρ a μ U h w n v rd eff hs ha r hn he
  simp only [aop] at he
  split at he
  · rename_i b off hx
    split at he
    case h_2 => cases he
    rename_i cs hb
    simp only [Option.map_eq_some_iff, Prod.mk.injEq] at he
    obtain ⟨v', hv', rfl, rfl, rfl⟩ := he
    exact done_ld t x g i hg hi r (by rw [hs x (by simp [Op.operands, Call.operands]), hx]; simp [conc]) hb hv'
  · rename_i b hx
    split at he
    case isFalse => cases he
    rename_i hgl
    split at he
    case h_2 => cases he
    rename_i cs hb
    simp only [Option.map_eq_some_iff, Prod.mk.injEq] at he
    obtain ⟨v', hv', rfl, rfl, rfl⟩ := he
    obtain ⟨_, g1, g2⟩ := r.glob b hgl
    exact done_ld t x g i hg hi (off := 0) r (by rw [hs x (by simp [Op.operands, Call.operands]), hx, g1, g2]; simp [conc]) hb hv'
  · cases he

theorem sound_st (t : TypeId) (x y : Operand) (i : TypeInfo) (hi : P.info? t = some i) : Sound P ⟨dst, .store t x y, type, pos, after, guard⟩ (.st i.size (cx x) (cx y)) := by
  intro ρ a μ U h w n v rd eff hs ha r hn he
  simp only [aop] at he
  split at he
  case h_2 => cases he
  rename_i b off hx
  split at he
  case h_2 => cases he
  rename_i e cs hb
  split at he
  case isFalse => cases he
  rename_i hc
  obtain ⟨hc1, hc2, hc3⟩ := hc
  simp only [Option.some.injEq, Prod.mk.injEq] at he
  obtain ⟨rfl, rfl, rfl⟩ := he
  obtain ⟨c, ty, h1, h2, h3, h5, h4⟩ := r.at_ b _ hb
  have hok : ∀ v ∈ cs, vok U μ v := r.ok b _ hb
  have hcl := cells_conc μ (ev a (cx y))
  have hsz : (conc μ (ev a (cx y))).cells.size = i.size := by rw [← size_of_map hcl, hc1]
  have hst := run_storeCells_at P (μ b).blk ((μ b).shift + off) ty ((cellsA (ev a (cx y))).map (conc μ)) 0 c w h1 (by simp; omega)
    (fun u hu => by obtain ⟨u', hu', rfl⟩ := List.mem_map.1 hu; exact one_conc (List.all_eq_true.1 hc3 u' hu'))
  simp only [Nat.add_zero, List.length_map] at hst
  refine ⟨w.setRow (μ b).blk (c.toList.take ((μ b).shift + off) ++ (cellsA (ev a (cx y))).map (conc μ) ++ c.toList.drop ((μ b).shift + off + (cellsA (ev a (cx y))).length)).toArray, μ, .inr ⟨?_, rfl⟩, ?_, ?_, by simp [undefA, vok, vokL]⟩
  · simp [execOp, Instr.storeAt, Instr.sureAddr, hs x (by simp [Op.operands, Call.operands]), hs y (by simp [Op.operands, Call.operands]), hx, conc, storeVar, sizeOf, typeInfo, hi, hsz, hcl, hst]
  · simp only [applyEff, hb]
    refine r.set hb rfl (BlkAt.write h1 h2 h3 h5 h4 (by omega)) ?_ fun B hB => setRow_other w _ B _ hB
    intro u hu
    rcases mem_splice hu with hu | hu
    · exact hok u hu
    · exact vok_cellsA (ha y (by simp [Op.operands, Call.operands])) u hu
  · simp only [applyEff, hb]
    exact Ext.set hb rfl rfl (by simp [World.setRow]) (fun B hB => setRow_other w _ B _ hB) rfl rfl rfl

theorem sound_nck (x : Operand) : Sound P ⟨dst, .nilCheck x, type, pos, after, guard⟩ (.nck (cx x)) := by
  intro ρ a μ U h w n v rd eff hs ha r hn he
  have hv := ha x (by simp [Op.operands, Call.operands])
  simp only [aop] at he
  split at he
  case h_4 => cases he
  all_goals
    rename_i hx
    simp only [Option.some.injEq, Prod.mk.injEq] at he
    obtain ⟨rfl, rfl, rfl⟩ := he
    rw [hx] at hv
    exact Done.pure r (by simp [execOp, hs x (by simp [Op.operands, Call.operands]), hx, conc]) hv

theorem run_binI {op : BinOp} {k : IntKind} {x y : Int} {v : AV} (h : binI op k x y = some v) (μ : Map) (t : TypeId) (w : World) : (binOp op t (.int k x) (.int k y)).run P w = .ok (conc μ v) w := by
  cases op <;> simp only [binI] at h
  case quo => split at h <;> cases h; rename_i h0; simp [binOp, Op.intDiv, h0, conc]
  case rem => split at h <;> cases h; rename_i h0; simp [binOp, Op.intDiv, h0, conc]
  all_goals (cases h; try (simp [binOp, Op.intArith, Op.intBits, Op.intCmp, conc]))

theorem run_shiftI {op : BinOp} {k k' : IntKind} {x y : Int} {v : AV} (hop : op = .shl ∨ op = .shr) (h : shiftI op k x y = some v) (μ : Map) (t : TypeId) (w : World) : (binOp op t (.int k x) (.int k' y)).run P w = .ok (conc μ v) w := by
  unfold shiftI at h
  split at h
  · cases h
  · rename_i h0
    rcases hop with rfl | rfl <;> cases h <;> simp [binOp, Op.shift, h0, conc]

theorem run_binA {op : BinOp} {x y v : AV} (h : binA op x y = some v) (μ : Map) (t : TypeId) (w : World) : (binOp op t (conc μ x) (conc μ y)).run P w = .ok (conc μ v) w := by
  unfold binA at h
  split at h
  · split at h
    · exact run_shiftI (.inl rfl) h μ t w
    · exact run_shiftI (.inr rfl) h μ t w
    · split at h
      · rename_i hk; subst hk; exact run_binI h μ t w
      · cases h
  · cases h

theorem vok_binI {op : BinOp} {k : IntKind} {x y : Int} {v : AV} (h : binI op k x y = some v) (U : Nat → Prop) (μ : Map) : vok U μ v := by
  cases op <;> simp only [binI] at h
  case quo => split at h <;> cases h; simp [vok]
  case rem => split at h <;> cases h; simp [vok]
  all_goals (cases h; try (simp [vok]))

theorem vok_shiftI {op : BinOp} {k : IntKind} {x y : Int} {v : AV} (h : shiftI op k x y = some v) (U : Nat → Prop) (μ : Map) : vok U μ v := by
  unfold shiftI at h
  split at h
  · cases h
  · cases op <;> simp only [] at h <;> cases h <;> simp [vok]

theorem vok_binA {op : BinOp} {x y v : AV} (h : binA op x y = some v) (U : Nat → Prop) (μ : Map) : vok U μ v := by
  unfold binA at h
  split at h
  · split at h
    · exact vok_shiftI h U μ
    · exact vok_shiftI h U μ
    · split at h
      · exact vok_binI h U μ
      · cases h
  · cases h

theorem run_eqGuard_int (op : BinOp) (t : TypeId) (x y : Operand) (k k' : IntKind) (p q : Int) (w : World) : (eqGuard op t x y (.int k p) (.int k' q)).run P w = .ok () w := by
  cases op <;> simp [eqGuard]

theorem binA_ints {op : BinOp} {x y v : AV} (h : binA op x y = some v) : ∃ k a k' b, x = .int k a ∧ y = .int k' b := by
  unfold binA at h
  split at h
  · exact ⟨_, _, _, _, rfl, rfl⟩
  · cases h

theorem sound_bin (op : BinOp) (t yt : TypeId) (x y : Operand) : Sound P ⟨dst, .binOp op t x y yt, type, pos, after, guard⟩ (.bin op (cx x) (cx y)) := by
  intro ρ a μ U h w n v rd eff hs ha r hn he
  simp only [aop, Option.map_eq_some_iff, Prod.mk.injEq] at he
  obtain ⟨v', hv', rfl, rfl, rfl⟩ := he
  obtain ⟨k, p, k', q, hx, hy⟩ := binA_ints hv'
  refine Done.pure r ?_ (vok_binA hv' U μ)
  have := run_binA (P := P) hv' μ t w
  rw [hx, hy] at this
  simp only [conc] at this
  simp [execOp, hs x (by simp [Op.operands, Call.operands]), hs y (by simp [Op.operands, Call.operands]), hx, hy, conc, run_eqGuard_int, this]

end
end Go.Eng
/- Engine, part 6: the operations, continued. -/
namespace Go.Eng
open Go

section
variable {P : Program} {dst : Option Tmp} {type : TypeId} {pos : String} {after : Array Edge} {guard : Option (Nat × Bool)}

theorem negOf_spec {op : BinOp} {g : Bool} (h : negOf op = some g) : (op = .eql ∧ g = false) ∨ (op = .neq ∧ g = true) := by
  cases op <;> simp [negOf] at h <;> simp [h]

/-- '==' and '!=', once what 'equal' says is known. -/
theorem run_eq_of {op : BinOp} {g : Bool} (hg : negOf op = some g) {t : TypeId} {x y : Operand} {u v : Value} {r : Bool} {w : World}
    (hgu : ∀ op, (eqGuard op t x y u v).run P w = .ok () w) (he : (Op.equal t u v).run P w = .ok r w)
    (hb1 : binOp .eql t u v = (do pure (.bool (← Op.equal t u v)))) (hb2 : binOp .neq t u v = (do pure (.bool (!(← Op.equal t u v))))) :
    (do eqGuard op t x y u v; binOp op t u v : Sem Value).run P w = .ok (.bool (r != g)) w := by
  rcases negOf_spec hg with ⟨rfl, rfl⟩ | ⟨rfl, rfl⟩
  · simp [hgu, hb1, he]
  · simp [hgu, hb2, he]

theorem run_bin_of {op : BinOp} {t yt : TypeId} {x y : Operand} {ρ : Operand → Value} {u : Value} {w : World}
    (h : (do eqGuard op t x y (ρ x) (ρ y); binOp op t (ρ x) (ρ y) : Sem Value).run P w = .ok u w) : (execOp ρ ⟨dst, .binOp op t x y yt, type, pos, after, guard⟩).run P w = .ok (.value u) w := by
  simp only [execOp]
  simp only [Sem.run_bind] at h ⊢
  rw [h]
  rfl

theorem sound_beq (op : BinOp) (t yt : TypeId) (x y : Operand) (g : Bool) (ht : P.underlying t = some .bool) (hg : negOf op = some g) :
    Sound P ⟨dst, .binOp op t x y yt, type, pos, after, guard⟩ (.beq g (cx x) (cx y)) := by
  intro ρ a μ U h w n v rd eff hs ha r hn he
  simp only [aop] at he
  split at he
  case h_2 => cases he
  rename_i p q hx hy
  simp only [Option.some.injEq, Prod.mk.injEq] at he
  obtain ⟨rfl, rfl, rfl⟩ := he
  refine Done.pure r (run_bin_of ?_) (by simp [vok])
  simp only [hs x (by simp [Op.operands, Call.operands]), hs y (by simp [Op.operands, Call.operands]), hx, hy, conc]
  exact run_eq_of hg (fun op => by cases op <;> simp [eqGuard]) (run_equalIn_bool' w 9999 t p q ht) rfl rfl

theorem sound_sbin (op : BinOp) (t yt : TypeId) (x y : Operand) : Sound P ⟨dst, .binOp op t x y yt, type, pos, after, guard⟩ (.sbin op (cx x) (cx y)) := by
  intro ρ a μ U h w n v rd eff hs ha r hn he
  simp only [aop, Option.map_eq_some_iff, Prod.mk.injEq] at he
  obtain ⟨v', hv', rfl, rfl, rfl⟩ := he
  unfold sbinA at hv'
  split at hv'
  case h_2 => cases hv'
  rename_i p q hx hy
  refine Done.pure' r (u := conc μ v') (run_bin_of ?_) rfl ?_
  · simp only [hs x (by simp [Op.operands, Call.operands]), hs y (by simp [Op.operands, Call.operands]), hx, hy, conc]
    split at hv'
    · split at hv'
      · cases hv'
      · rename_i hb
        cases hv'
        have hb' : ¬ (((p.size + q.size : Nat) : Int) > IntKind.i64.max) := hb
        simp only [eqGuard, binOp, Op.stringOp, conc, Sem.run_bind]
        rw [if_neg hb']
        rfl
    · cases hv'; simp [eqGuard, binOp, Op.stringOp, conc]
    · cases hv'; simp [eqGuard, binOp, Op.stringOp, conc]
    · cases hv'
  · split at hv'
    · split at hv' <;> cases hv'; simp [vok]
    · cases hv'; simp [vok]
    · cases hv'; simp [vok]
    · cases hv'

section
variable (w : World) (d : Nat) {t e : TypeId} {ms : Array (String × TypeId)}
theorem eqin_ptr_nn (ht : P.underlying t = some (.pointer e)) : (Op.equalIn (d + 1) t (.pointer none) (.pointer none)).run P w = .ok true w := by simp [Op.equalIn, run_underlying ht]
theorem eqin_ptr_ns (ht : P.underlying t = some (.pointer e)) (a : Addr) : (Op.equalIn (d + 1) t (.pointer none) (.pointer (some a))).run P w = .ok false w := by simp [Op.equalIn, run_underlying ht]
theorem eqin_ptr_sn (ht : P.underlying t = some (.pointer e)) (a : Addr) : (Op.equalIn (d + 1) t (.pointer (some a)) (.pointer none)).run P w = .ok false w := by simp [Op.equalIn, run_underlying ht]
theorem eqin_ptr_ss (ht : P.underlying t = some (.pointer e)) {i : TypeInfo} (hi : P.info? e = some i) (hsz : i.size ≠ 0) (a b : Addr) : (Op.equalIn (d + 1) t (.pointer (some a)) (.pointer (some b))).run P w = (sameAddr a b).run P w := by
  simp [Op.equalIn, run_underlying ht, sizeOf, typeInfo, hi, hsz]
theorem eqin_if_nn (ht : P.underlying t = some (.interface ms)) : (Op.equalIn (d + 1) t .nilIface .nilIface).run P w = .ok true w := by simp [Op.equalIn, run_underlying ht]
theorem eqin_if_ns (ht : P.underlying t = some (.interface ms)) (k : TypeId) (v : Value) : (Op.equalIn (d + 1) t .nilIface (.iface k v)).run P w = .ok false w := by simp [Op.equalIn, run_underlying ht]
theorem eqin_if_sn (ht : P.underlying t = some (.interface ms)) (k : TypeId) (v : Value) : (Op.equalIn (d + 1) t (.iface k v) .nilIface).run P w = .ok false w := by simp [Op.equalIn, run_underlying ht]
theorem eqin_if_ss (ht : P.underlying t = some (.interface ms)) (k : TypeId) (u v : Value) {i : TypeInfo} (hi : P.info? k = some i) (hc : i.comparable = true) :
    (Op.equalIn (d + 1) t (.iface k u) (.iface k v)).run P w = (Op.equalIn d k u v).run P w := by simp [Op.equalIn, run_underlying ht, typeInfo, hi, hc]
theorem eqin_if_sd (ht : P.underlying t = some (.interface ms)) (k l : TypeId) (u v : Value) (hne : k ≠ l) :
    (Op.equalIn (d + 1) t (.iface k u) (.iface l v)).run P w = .ok false w := by simp [Op.equalIn, run_underlying ht, hne]
theorem eqin_sl_nn (ht : P.underlying t = some (.slice e)) : (Op.equalIn (d + 1) t (.slice none 0 0) (.slice none 0 0)).run P w = .ok true w := by simp [Op.equalIn, run_underlying ht]
theorem eqin_sl_ns (ht : P.underlying t = some (.slice e)) (a : Addr) (l c : Nat) : (Op.equalIn (d + 1) t (.slice none 0 0) (.slice (some a) l c)).run P w = .ok false w := by simp [Op.equalIn, run_underlying ht]
theorem eqin_sl_sn (ht : P.underlying t = some (.slice e)) (a : Addr) (l c : Nat) : (Op.equalIn (d + 1) t (.slice (some a) l c) (.slice none 0 0)).run P w = .ok false w := by simp [Op.equalIn, run_underlying ht]
end

theorem frozen_at {μ : Map} {w : World} {b e : Nat} {cs : List AV} (hb : BlkAt μ w b (.cells e cs)) (o : Nat) (s : Option Nat) : w.frozen? ⟨(μ b).blk, o, s⟩ = false := by
  obtain ⟨c, ty, h1, _⟩ := hb
  simp [World.frozen?, h1]

theorem shape_at {μ : Map} {w : World} {b e : Nat} {cs : List AV} (hb : BlkAt μ w b (.cells e cs)) : ∃ t n, w.shape? (μ b).blk = some (t, n) := by
  obtain ⟨c, ty, h1, _⟩ := hb
  exact ⟨ty, c.size, by simp [World.shape?, h1]⟩

theorem run_sameAddr_ne {μ : Map} {w : World} {b b' e e' o o' : Nat} {cs cs' : List AV} (hb : BlkAt μ w b (.cells e cs)) (hb' : BlkAt μ w b' (.cells e' cs')) (hne : (μ b).blk ≠ (μ b').blk) :
    (sameAddr ⟨(μ b).blk, o, none⟩ ⟨(μ b').blk, o', none⟩).run P w = .ok false w := by
  obtain ⟨t, k, hsh⟩ := shape_at hb
  obtain ⟨t', k', hsh'⟩ := shape_at hb'
  have hf := fun o s => frozen_at hb o s
  have hf' := fun o s => frozen_at hb' o s
  have hv : (viewAt (μ b).blk).run P w = .ok none w := by simp [viewAt, hsh]
  have hv' : (viewAt (μ b').blk).run P w = .ok none w := by simp [viewAt, hsh']
  have hst : (stringish ⟨(μ b).blk, o, none⟩).run P w = .ok false w := by simp [stringish, hf, hsh]
  have hst' : (stringish ⟨(μ b').blk, o', none⟩).run P w = .ok false w := by simp [stringish, hf', hsh']
  have hm : (mayBeOne ⟨(μ b).blk, o, none⟩ ⟨(μ b').blk, o', none⟩).run P w = .ok false w := by
    simp [mayBeOne, hst, hst']
  simp [sameAddr, hne, hf, noView, hv, hv', hm]

theorem sound_peq (op : BinOp) (t yt : TypeId) (x y : Operand) (g : Bool) (e : TypeId) (i : TypeInfo) (ht : P.underlying t = some (.pointer e)) (hi : P.info? e = some i) (hsz : i.size ≠ 0) (hg : negOf op = some g) :
    Sound P ⟨dst, .binOp op t x y yt, type, pos, after, guard⟩ (.peq g (cx x) (cx y)) := by
  intro ρ a μ U h w n v rd eff hs ha r hn he
  have fin : ∀ (u v' : Value) (q : Bool), ρ x = u → ρ y = v' → (∃ p, u = .pointer p) → (∃ p, v' = .pointer p) → (Op.equal t u v').run P w = .ok q w →
      (execOp ρ ⟨dst, .binOp op t x y yt, type, pos, after, guard⟩).run P w = .ok (.value (.bool (q != g))) w := by
    rintro u v' q hu hv ⟨p, rfl⟩ ⟨p', rfl⟩ hq
    refine run_bin_of ?_
    rw [hu, hv]
    exact run_eq_of hg (fun op => by cases op <;> simp [eqGuard]) hq rfl rfl
  simp only [aop] at he
  split at he
  · rename_i hx hy
    simp only [Option.some.injEq, Prod.mk.injEq] at he
    obtain ⟨rfl, rfl, rfl⟩ := he
    exact Done.pure r (fin _ _ true (by rw [hs x (by simp [Op.operands, Call.operands]), hx]; rfl) (by rw [hs y (by simp [Op.operands, Call.operands]), hy]; rfl) ⟨_, rfl⟩ ⟨_, rfl⟩ (eqin_ptr_nn w 9999 ht)) (by simp [vok])
  · rename_i hx hy
    simp only [Option.some.injEq, Prod.mk.injEq] at he
    obtain ⟨rfl, rfl, rfl⟩ := he
    exact Done.pure r (fin _ _ false (by rw [hs x (by simp [Op.operands, Call.operands]), hx]; rfl) (by rw [hs y (by simp [Op.operands, Call.operands]), hy]; simp only [conc]; rfl) ⟨_, rfl⟩ ⟨_, rfl⟩ (eqin_ptr_ns w 9999 ht _)) (by simp [vok])
  · rename_i hx hy
    simp only [Option.some.injEq, Prod.mk.injEq] at he
    obtain ⟨rfl, rfl, rfl⟩ := he
    exact Done.pure r (fin _ _ false (by rw [hs x (by simp [Op.operands, Call.operands]), hx]; simp only [conc]; rfl) (by rw [hs y (by simp [Op.operands, Call.operands]), hy]; rfl) ⟨_, rfl⟩ ⟨_, rfl⟩ (eqin_ptr_sn w 9999 ht _)) (by simp [vok])
  · rename_i b o b' o' hx hy
    split at he
    · rename_i hbb
      subst hbb
      simp only [Option.some.injEq, Prod.mk.injEq] at he
      obtain ⟨rfl, rfl, rfl⟩ := he
      refine Done.pure r (fin _ _ (o == o') (by rw [hs x (by simp [Op.operands, Call.operands]), hx]; simp only [conc]; rfl) (by rw [hs y (by simp [Op.operands, Call.operands]), hy]; simp only [conc]; rfl) ⟨_, rfl⟩ ⟨_, rfl⟩ ?_) (by simp [vok])
      refine (eqin_ptr_ss w 9999 ht hi hsz _ _).trans ?_
      simp only [sameAddr, beq_self_eq_true, if_true, Sem.run_pure]
      congr 1
      by_cases e : o = o'
      · subst e; simp
      · have : ((⟨(μ b).blk, (μ b).shift + o, none⟩ : Addr) == ⟨(μ b).blk, (μ b).shift + o', none⟩) = false := by simp [e]
        rw [this]; simp [e]
    · rename_i hbb
      split at he
      case h_2 => cases he
      rename_i e1 cs1 e2 cs2 h1 h2
      simp only [Option.some.injEq, Prod.mk.injEq] at he
      obtain ⟨rfl, rfl, rfl⟩ := he
      refine Done.pure r (fin _ _ false (by rw [hs x (by simp [Op.operands, Call.operands]), hx]; simp only [conc]; rfl) (by rw [hs y (by simp [Op.operands, Call.operands]), hy]; simp only [conc]; rfl) ⟨_, rfl⟩ ⟨_, rfl⟩ ?_) (by simp [vok])
      have := run_sameAddr_ne (P := P) (o := (μ b).shift + o) (o' := (μ b').shift + o') (r.at_ _ _ h1) (r.at_ _ _ h2) (fun e => hbb (r.inj _ _ _ _ h1 h2 rfl e))
      exact (eqin_ptr_ss w 9999 ht hi hsz _ _).trans this
  · cases he

theorem sound_ieq (op : BinOp) (t yt : TypeId) (x y : Operand) (g : Bool) (ms : Array (String × TypeId)) (ht : P.underlying t = some (.interface ms)) (hg : negOf op = some g) :
    Sound P ⟨dst, .binOp op t x y yt, type, pos, after, guard⟩ (.ieq g (cx x) (cx y)) := by
  intro ρ a μ U h w n v rd eff hs ha r hn he
  simp only [aop] at he
  split at he
  · rename_i hx hy
    have hc : ∃ c, x = .const c ∨ y = .const c ∨ (∃ f, x = .func f) ∨ (∃ f, y = .func f) ∨ (∃ f, x = .global f) ∨ (∃ f, y = .global f) := by
      cases x with
      | const c => exact ⟨c, .inl rfl⟩
      | func f => exact ⟨.nilIface, .inr (.inr (.inl ⟨f, rfl⟩))⟩
      | global f => exact ⟨.nilIface, .inr (.inr (.inr (.inr (.inl ⟨f, rfl⟩))))⟩
      | tmp i =>
        cases y with
        | const c => exact ⟨c, .inr (.inl rfl)⟩
        | func f => exact ⟨.nilIface, .inr (.inr (.inr (.inl ⟨f, rfl⟩)))⟩
        | global f => exact ⟨.nilIface, .inr (.inr (.inr (.inr (.inr ⟨f, rfl⟩))))⟩
        | tmp j => simp [cx] at he
    have hv : v = .bool (true != g) ∧ rd = [] ∧ eff = .no := by
      split at he
      · simp only [Option.some.injEq, Prod.mk.injEq] at he; exact ⟨he.1.symm, he.2.1.symm, he.2.2.symm⟩
      · simp only [Option.some.injEq, Prod.mk.injEq] at he; exact ⟨he.1.symm, he.2.1.symm, he.2.2.symm⟩
      · cases he
    obtain ⟨rfl, rfl, rfl⟩ := hv
    refine Done.pure r (run_bin_of ?_) (by simp [vok])
    simp only [hs x (by simp [Op.operands, Call.operands]), hs y (by simp [Op.operands, Call.operands]), hx, hy, conc]
    refine run_eq_of hg (fun op => ?_) (eqin_if_nn w 9999 ht) rfl rfl
    obtain ⟨c, hc⟩ := hc
    rcases hc with rfl | rfl | ⟨f, rfl⟩ | ⟨f, rfl⟩ | ⟨f, rfl⟩ | ⟨f, rfl⟩
    · cases op <;> simp [eqGuard]
    · cases op <;> simp [eqGuard]
    · simp [cx, ev] at hx
    · simp [cx, ev] at hy
    · simp [cx, ev] at hx
    · simp [cx, ev] at hy
  · rename_i hx hy
    simp only [Option.some.injEq, Prod.mk.injEq] at he
    obtain ⟨rfl, rfl, rfl⟩ := he
    refine Done.pure r (run_bin_of ?_) (by simp [vok])
    simp only [hs x (by simp [Op.operands, Call.operands]), hs y (by simp [Op.operands, Call.operands]), hx, hy, conc]
    exact run_eq_of hg (fun op => by cases op <;> simp [eqGuard]) (eqin_if_ns w 9999 ht _ _) rfl rfl
  · rename_i hx hy
    simp only [Option.some.injEq, Prod.mk.injEq] at he
    obtain ⟨rfl, rfl, rfl⟩ := he
    refine Done.pure r (run_bin_of ?_) (by simp [vok])
    simp only [hs x (by simp [Op.operands, Call.operands]), hs y (by simp [Op.operands, Call.operands]), hx, hy, conc]
    exact run_eq_of hg (fun op => by cases op <;> simp [eqGuard]) (eqin_if_sn w 9999 ht _ _) rfl rfl
  · rename_i k b o k' b' o' hx hy
    split at he
    · rename_i hne
      simp only [Option.some.injEq, Prod.mk.injEq] at he
      obtain ⟨rfl, rfl, rfl⟩ := he
      refine Done.pure r (run_bin_of ?_) (by simp [vok])
      simp only [hs x (by simp [Op.operands, Call.operands]), hs y (by simp [Op.operands, Call.operands]), hx, hy, conc]
      exact run_eq_of hg (fun op => by cases op <;> simp [eqGuard]) (eqin_if_sd w 9999 ht _ _ _ _ hne) rfl rfl
    · rename_i hne
      have hne : k = k' := Classical.not_not.1 hne
      subst hne
      split at he
      case h_2 => cases he
      rename_i i e hi hu
      split at he
      case h_2 => cases he
      rename_i j hj
      split at he
      case isFalse => cases he
      rename_i hc
      split at he
      · rename_i hbb
        subst hbb
        simp only [Option.some.injEq, Prod.mk.injEq] at he
        obtain ⟨rfl, rfl, rfl⟩ := he
        refine Done.pure r (run_bin_of ?_) (by simp [vok])
        simp only [hs x (by simp [Op.operands, Call.operands]), hs y (by simp [Op.operands, Call.operands]), hx, hy, conc]
        refine run_eq_of hg (fun op => by cases op <;> simp [eqGuard]) (r := (o == o')) ?_ rfl rfl
        refine (eqin_if_ss w 9999 ht k _ _ hi hc.1).trans ((eqin_ptr_ss w 9998 hu hj hc.2 _ _).trans ?_)
        simp only [sameAddr, beq_self_eq_true, if_true, Sem.run_pure]
        congr 1
        by_cases e : o = o'
        · subst e; simp
        · have : ((⟨(μ b).blk, (μ b).shift + o, none⟩ : Addr) == ⟨(μ b).blk, (μ b).shift + o', none⟩) = false := by simp [e]
          rw [this]; simp [e]
      · rename_i hbb
        split at he
        case h_2 => cases he
        rename_i e1 cs1 e2 cs2 h1 h2
        simp only [Option.some.injEq, Prod.mk.injEq] at he
        obtain ⟨rfl, rfl, rfl⟩ := he
        refine Done.pure r (run_bin_of ?_) (by simp [vok])
        simp only [hs x (by simp [Op.operands, Call.operands]), hs y (by simp [Op.operands, Call.operands]), hx, hy, conc]
        refine run_eq_of hg (fun op => by cases op <;> simp [eqGuard]) (r := false) ?_ rfl rfl
        have := run_sameAddr_ne (P := P) (o := (μ b).shift + o) (o' := (μ b').shift + o') (r.at_ _ _ h1) (r.at_ _ _ h2) (fun e => hbb (r.inj _ _ _ _ h1 h2 rfl e))
        exact (eqin_if_ss w 9999 ht k _ _ hi hc.1).trans ((eqin_ptr_ss w 9998 hu hj hc.2 _ _).trans this)
  · cases he

theorem sound_seq (op : BinOp) (t yt : TypeId) (x y : Operand) (g : Bool) (e : TypeId) (ht : P.underlying t = some (.slice e)) (hg : negOf op = some g) :
    Sound P ⟨dst, .binOp op t x y yt, type, pos, after, guard⟩ (.seq g (cx x) (cx y)) := by
  intro ρ a μ U h w n v rd eff hs ha r hn he
  simp only [aop] at he
  split at he
  · rename_i hx hy
    simp only [Option.some.injEq, Prod.mk.injEq] at he
    obtain ⟨rfl, rfl, rfl⟩ := he
    refine Done.pure r (run_bin_of ?_) (by simp [vok])
    simp only [hs x (by simp [Op.operands, Call.operands]), hs y (by simp [Op.operands, Call.operands]), hx, hy, conc]
    exact run_eq_of hg (fun op => by cases op <;> simp [eqGuard]) (eqin_sl_nn w 9999 ht) rfl rfl
  · rename_i b o p l c hx hy
    simp only [Option.some.injEq, Prod.mk.injEq] at he
    obtain ⟨rfl, rfl, rfl⟩ := he
    refine Done.pure r (run_bin_of ?_) (by simp [vok])
    simp only [hs x (by simp [Op.operands, Call.operands]), hs y (by simp [Op.operands, Call.operands]), hx, hy]
    cases c with
    | none =>
      simp only [conc]
      exact run_eq_of hg (fun op => by cases op <;> simp [eqGuard]) (eqin_sl_ns w 9999 ht _ _ _) rfl rfl
    | some c =>
      simp only [conc]
      exact run_eq_of hg (fun op => by cases op <;> simp [eqGuard]) (eqin_sl_ns w 9999 ht _ _ _) rfl rfl
  · rename_i b o p l c hx hy
    simp only [Option.some.injEq, Prod.mk.injEq] at he
    obtain ⟨rfl, rfl, rfl⟩ := he
    refine Done.pure r (run_bin_of ?_) (by simp [vok])
    simp only [hs x (by simp [Op.operands, Call.operands]), hs y (by simp [Op.operands, Call.operands]), hx, hy]
    cases c with
    | none =>
      simp only [conc]
      exact run_eq_of hg (fun op => by cases op <;> simp [eqGuard]) (eqin_sl_sn w 9999 ht _ _ _) rfl rfl
    | some c =>
      simp only [conc]
      exact run_eq_of hg (fun op => by cases op <;> simp [eqGuard]) (eqin_sl_sn w 9999 ht _ _ _) rfl rfl
  · cases he

end
end Go.Eng
