/- Engine, part 5: the operations, one by one. -/
import Derived.Test.YthbbncgbbkcdgaaGreatDoorE4
namespace Go.Eng
open Go

/-- What is to be shown of one operation. -/
def Sound (P : Program) (o : Oper) (ro : ROp) : Prop :=
  ∀ (ρ : Operand → Value) (a : List AV) (μ : Map) (U : Nat → Prop) (h : Heap) (w : World) (n : Nat) (v : AV) (rd : List Nat) (eff : Eff),
    Says o.op ρ μ a → OkOps o.op U μ a → Rel P.globals.size U μ h w → (eff.news = 1 → ¬ U n) → aop P a h n ro = some (v, rd, eff) → Done P o ρ U μ h w n v eff

section
variable {P : Program} {dst : Option Tmp} {type : TypeId} {pos : String} {after : Array Edge} {guard : Option (Nat × Bool)}

theorem sound_mv (x : Operand) : Sound P ⟨dst, .move x, type, pos, after, guard⟩ (.mv (cx x)) := by
  intro ρ a μ U h w n v rd eff hs ha r hn he
  simp only [aop, Option.some.injEq, Prod.mk.injEq] at he
  obtain ⟨rfl, rfl, rfl⟩ := he
  exact Done.pure r (by simp [execOp, hs x (by simp [Op.operands, Call.operands])]) (ha x (by simp [Op.operands, Call.operands]))

theorem sound_assign (x : Operand) : Sound P ⟨dst, .assign x, type, pos, after, guard⟩ (.mv (cx x)) := by
  intro ρ a μ U h w n v rd eff hs ha r hn he
  simp only [aop, Option.some.injEq, Prod.mk.injEq] at he
  obtain ⟨rfl, rfl, rfl⟩ := he
  exact Done.pure r (by simp [execOp, hs x (by simp [Op.operands, Call.operands])]) (ha x (by simp [Op.operands, Call.operands]))

theorem sound_pick (c x y : Operand) : Sound P ⟨dst, .pick c x y, type, pos, after, guard⟩ (.pick (cx c) (cx x) (cx y)) := by
  intro ρ a μ U h w n v rd eff hs ha r hn he
  simp only [aop] at he
  split at he
  · rename_i t ht
    simp only [Option.some.injEq, Prod.mk.injEq] at he
    obtain ⟨rfl, rfl, rfl⟩ := he
    refine Done.pure r ?_ ?_
    · cases t <;> simp [execOp, hs c (by simp [Op.operands, Call.operands]), hs x (by simp [Op.operands, Call.operands]), hs y (by simp [Op.operands, Call.operands]), ht, conc, asBool]
    · cases t
      · exact ha y (by simp [Op.operands, Call.operands])
      · exact ha x (by simp [Op.operands, Call.operands])
  · cases he

theorem run_zero {t : TypeId} {z : List AV} (hz : zeroCellsOf P t = some z) (w : World) : ∃ zv, (zeroValue t).run P w = .ok zv w ∧ zv.cells.toList = z.map (conc (fun _ => ⟨0, 0, 0, 0⟩)) ∧
    (∀ μ, zv.cells.toList = z.map (conc μ)) ∧ ∀ U μ, ∀ v ∈ z, vok U μ v := by
  unfold zeroCellsOf at hz
  cases hi : P.info? t with
  | none => simp [hi] at hz
  | some i =>
    cases hzz : i.zero with
    | none => simp [hi, hzz] at hz
    | some zv =>
      simp [hi, hzz] at hz
      subst hz
      have hl : ∀ μ, zv.cells.toList = (zv.cells.toList.map ofCell).map (conc μ) := fun μ => by
        rw [List.map_map]
        conv => lhs; rw [← List.map_id zv.cells.toList]
        exact List.map_congr_left fun x _ => (conc_ofCell μ x).symm
      refine ⟨zv, by simp [zeroValue, typeInfo, hi, hzz], hl _, hl, fun U μ v hv => ?_⟩
      obtain ⟨x, _, rfl⟩ := List.mem_map.1 hv
      exact vok_ofCell U μ x

theorem getElem?_of_map {μ : Map} {c : Array Value} {cs : List AV} (h : c.toList = cs.map (conc μ)) (i : Nat) (v : AV) (hv : cs[i]? = some v) : c[i]? = some (conc μ v) := by
  rw [← Array.getElem?_toList, h]; simp [hv]

theorem size_of_map {μ : Map} {c : Array Value} {cs : List AV} (h : c.toList = cs.map (conc μ)) : cs.length = c.size := by
  rw [← Array.length_toList, h]; simp

theorem sound_new (e : TypeId) (z : List AV) (hz : zeroCellsOf P e = some z) : Sound P ⟨dst, .alloc e, type, pos, after, guard⟩ (.new 0 z) := by
  intro ρ a μ U h w n v rd eff hs ha r hn he
  simp only [aop, Option.some.injEq, Prod.mk.injEq] at he
  obtain ⟨rfl, rfl, rfl⟩ := he
  obtain ⟨zv, h1, _, h2, h3⟩ := run_zero hz w
  refine Done.alloc (c := zv.cells) (ty := e) (w' := w.alloc (.cells zv.cells e)) r (hn rfl) (h3 U μ) (by rw [size_of_map (h2 μ)]; exact Nat.le_refl _) (fun i v hv => getElem?_of_map (h2 μ) i v hv) rfl rfl rfl rfl ?_ ?_
  · simp [execOp, Instr.alloc, h1, newVar, newRow, conc, updμ]
  · simp [vok, Un]

theorem sound_box (e : TypeId) (x : Operand) : Sound P ⟨dst, .box e x, type, pos, after, guard⟩ (.box (cx x)) := by
  intro ρ a μ U h w n v rd eff hs ha r hn he
  simp only [aop, Option.some.injEq, Prod.mk.injEq] at he
  obtain ⟨rfl, rfl, rfl⟩ := he
  have hc := cells_conc μ (ev a (cx x))
  refine Done.alloc (c := (conc μ (ev a (cx x))).cells) (ty := e) (w' := w.alloc (.cells (conc μ (ev a (cx x))).cells e)) r (hn rfl) (vok_cellsA (ha x (by simp [Op.operands, Call.operands]))) (by rw [size_of_map hc]; exact Nat.le_refl _) (fun i v hv => getElem?_of_map hc i v hv) rfl rfl rfl rfl ?_ ?_
  · simp [execOp, Instr.box, newVar, newRow, conc, updμ, hs x (by simp [Op.operands, Call.operands])]
  · simp [vok, Un]

theorem addr_add (b o k : Nat) : (⟨b, o, none⟩ : Addr).add k = ⟨b, o + k, none⟩ := by
  unfold Addr.add; split <;> simp_all

theorem cell_at {μ : Map} {w : World} {b : Nat} {k : Blk} {cs : List AV} (hb : BlkAt μ w b k) (hk : rdOf (some k) = some cs) {i : Nat} {v : AV} (hv : cs[i]? = some v) : w.cell? ⟨(μ b).blk, (μ b).shift + i, none⟩ = some (conc μ v) := by
  cases k with
  | cells e cs' =>
    cases hk
    obtain ⟨c, ty, h1, h2, h3, h5, h4⟩ := hb
    simp [World.cell?, h1, h4 i v hv]
  | ro cs' =>
    cases hk
    obtain ⟨c, ty, fr, h1, h4⟩ := hb
    simp [World.cell?, h1, h4 i v hv]
  | mapo kv => cases hk

theorem ok_at {U : Nat → Prop} {μ : Map} {k : Blk} {cs : List AV} (hb : BlkOk U μ k) (hk : rdOf (some k) = some cs) : ∀ v ∈ cs, vok U μ v := by
  cases k with
  | cells e cs' => cases hk; exact hb
  | ro cs' => cases hk; exact hb
  | mapo kv => cases hk

theorem rdOf_some {o : Option Blk} {cs : List AV} (h : rdOf o = some cs) : ∃ k, o = some k ∧ rdOf (some k) = some cs := by
  cases o with
  | none => cases h
  | some k => exact ⟨k, rfl, h⟩

theorem run_aggOf {t : TypeId} {g : Bool} (h : aggOf P t = some g) (w : World) : (isAgg t).run P w = .ok g w := by
  unfold aggOf at h
  cases hu : P.underlying t with
  | none => simp [hu] at h
  | some d =>
    simp only [hu, Option.map_some, Option.some.injEq] at h
    subst h
    cases d <;> simp [isAgg, run_underlying hu]

theorem conc_agg (μ : Map) (cs : List AV) : conc μ (.agg cs) = .agg (cs.map (conc μ)).toArray := by simp [conc, concL_eq]
theorem conc_tup (μ : Map) (cs : List AV) : conc μ (.tup cs) = .tuple (cs.map (conc μ)).toArray := by simp [conc, concL_eq]

theorem run_load_cells {μ : Map} {w : World} {b off k : Nat} {kb : Blk} {cs : List AV} (hb : BlkAt μ w b kb) (hk : rdOf (some kb) = some cs) (hl : ((cs.drop off).take k).length = k) :
    (loadCells ⟨(μ b).blk, (μ b).shift + off, none⟩ k).run P w = .ok (((cs.drop off).take k).map (conc μ)).toArray w := by
  have := run_loadCells_list (P := P) w ⟨(μ b).blk, (μ b).shift + off, none⟩ (((cs.drop off).take k).map (conc μ)) (fun j u hu => by
    rw [addr_add]
    simp only [List.getElem?_map, List.getElem?_take, List.getElem?_drop, Option.map_eq_some_iff] at hu
    obtain ⟨v, hv, rfl⟩ := hu
    split at hv
    · rw [Nat.add_assoc]; exact cell_at hb hk hv
    · cases hv)
  rwa [List.length_map, hl] at this

/-- A load, wherever its address comes from. -/
theorem done_ld (t : TypeId) (x : Operand) (g : Bool) (i : TypeInfo) (hg : aggOf P t = some g) (hi : P.info? t = some i) {ρ : Operand → Value} {μ : Map} {U : Nat → Prop} {h : Heap} {w : World} {n b off : Nat} {cs : List AV} {v : AV}
    (r : Rel P.globals.size U μ h w) (hx : ρ x = .pointer (some ⟨(μ b).blk, (μ b).shift + off, none⟩)) (hb : rdOf (h b) = some cs) (hv' : partA g cs off i.size = some v) :
    Done P ⟨dst, .load t x, type, pos, after, guard⟩ ρ U μ h w n v .no := by
  obtain ⟨k, hk1, hk2⟩ := rdOf_some hb
  have hat := r.at_ b _ hk1
  have hok : ∀ v ∈ cs, vok U μ v := ok_at (r.ok b _ hk1) hk2
  simp only [partA] at hv'
  cases g with
  | true =>
    simp only [if_true] at hv'
    split at hv'
    case isFalse => cases hv'
    rename_i hl
    cases hv'
    refine Done.pure r ?_ ?_
    · simp [execOp, Instr.loadAt, Instr.sureAddr, hx, conc, loadVar, run_aggOf hg, sizeOf, typeInfo, hi, run_load_cells hat hk2 hl, concL_eq]
    · simp only [vok]; exact vokL_iff.2 fun u hu => hok u (List.mem_of_mem_drop (List.mem_of_mem_take hu))
  | false =>
    simp only [Bool.false_eq_true, if_false] at hv'
    refine Done.pure r ?_ (hok v (List.mem_of_getElem? hv'))
    simp [execOp, Instr.loadAt, Instr.sureAddr, hx, loadVar, run_aggOf hg, cell_at hat hk2 hv']

theorem sound_ld (t : TypeId) (x : Operand) (g : Bool) (i : TypeInfo) (hg : aggOf P t = some g) (hi : P.info? t = some i) : Sound P ⟨dst, .load t x, type, pos, after, guard⟩ (.ld g i.size (cx x)) := by
  intro ρ a μ U h w n v rd eff hs ha r hn he
  simp only [aop] at he
  split at he
  · rename_i b off hx
    split at he
    case h_2 => cases he
    rename_i cs hb
    simp only [Option.map_eq_some_iff, Prod.mk.injEq] at he
    obtain ⟨v', hv', rfl, rfl, rfl⟩ := he
    exact done_ld t x g i hg hi r (by rw [hs x (by simp [Op.operands, Call.operands]), hx]; simp [conc]) hb hv'
  · rename_i b hx
    split at he
    case isFalse => cases he
    rename_i hgl
    split at he
    case h_2 => cases he
    rename_i cs hb
    simp only [Option.map_eq_some_iff, Prod.mk.injEq] at he
    obtain ⟨v', hv', rfl, rfl, rfl⟩ := he
    obtain ⟨_, g1, g2⟩ := r.glob b hgl
    exact done_ld t x g i hg hi (off := 0) r (by rw [hs x (by simp [Op.operands, Call.operands]), hx, g1, g2]; simp [conc]) hb hv'
  · cases he

theorem sound_st (t : TypeId) (x y : Operand) (i : TypeInfo) (hi : P.info? t = some i) : Sound P ⟨dst, .store t x y, type, pos, after, guard⟩ (.st i.size (cx x) (cx y)) := by
  intro ρ a μ U h w n v rd eff hs ha r hn he
  simp only [aop] at he
  split at he
  case h_2 => cases he
  rename_i b off hx
  split at he
  case h_2 => cases he
  rename_i e cs hb
  split at he
  case isFalse => cases he
  rename_i hc
  obtain ⟨hc1, hc2, hc3⟩ := hc
  simp only [Option.some.injEq, Prod.mk.injEq] at he
  obtain ⟨rfl, rfl, rfl⟩ := he
  obtain ⟨c, ty, h1, h2, h3, h5, h4⟩ := r.at_ b _ hb
  have hok : ∀ v ∈ cs, vok U μ v := r.ok b _ hb
  have hcl := cells_conc μ (ev a (cx y))
  have hsz : (conc μ (ev a (cx y))).cells.size = i.size := by rw [← size_of_map hcl, hc1]
  have hst := run_storeCells_at P (μ b).blk ((μ b).shift + off) ty ((cellsA (ev a (cx y))).map (conc μ)) 0 c w h1 (by simp; omega)
    (fun u hu => by obtain ⟨u', hu', rfl⟩ := List.mem_map.1 hu; exact one_conc (List.all_eq_true.1 hc3 u' hu'))
  simp only [Nat.add_zero, List.length_map] at hst
  refine ⟨w.setRow (μ b).blk (c.toList.take ((μ b).shift + off) ++ (cellsA (ev a (cx y))).map (conc μ) ++ c.toList.drop ((μ b).shift + off + (cellsA (ev a (cx y))).length)).toArray, μ, .inr ⟨?_, rfl⟩, ?_, ?_, by simp [undefA, vok, vokL]⟩
  · simp [execOp, Instr.storeAt, Instr.sureAddr, hs x (by simp [Op.operands, Call.operands]), hs y (by simp [Op.operands, Call.operands]), hx, conc, storeVar, sizeOf, typeInfo, hi, hsz, hcl, hst]
  · simp only [applyEff, hb]
    refine r.set hb rfl (BlkAt.write h1 h2 h3 h5 h4 (by omega)) ?_ fun B hB => setRow_other w _ B _ hB
    intro u hu
    rcases mem_splice hu with hu | hu
    · exact hok u hu
    · exact vok_cellsA (ha y (by simp [Op.operands, Call.operands])) u hu
  · simp only [applyEff, hb]
    exact Ext.set hb rfl rfl (by simp [World.setRow]) (fun B hB => setRow_other w _ B _ hB) rfl rfl rfl

theorem sound_nck (x : Operand) : Sound P ⟨dst, .nilCheck x, type, pos, after, guard⟩ (.nck (cx x)) := by
  intro ρ a μ U h w n v rd eff hs ha r hn he
  have hv := ha x (by simp [Op.operands, Call.operands])
  simp only [aop] at he
  split at he
  case h_4 => cases he
  all_goals
    rename_i hx
    simp only [Option.some.injEq, Prod.mk.injEq] at he
    obtain ⟨rfl, rfl, rfl⟩ := he
    rw [hx] at hv
    exact Done.pure r (by simp [execOp, hs x (by simp [Op.operands, Call.operands]), hx, conc]) hv

theorem run_binI {op : BinOp} {k : IntKind} {x y : Int} {v : AV} (h : binI op k x y = some v) (μ : Map) (t : TypeId) (w : World) : (binOp op t (.int k x) (.int k y)).run P w = .ok (conc μ v) w := by
  cases op <;> simp only [binI] at h
  case quo => split at h <;> cases h; rename_i h0; simp [binOp, Op.intDiv, h0, conc]
  case rem => split at h <;> cases h; rename_i h0; simp [binOp, Op.intDiv, h0, conc]
  all_goals (cases h; try (simp [binOp, Op.intArith, Op.intBits, Op.intCmp, conc]))

theorem run_shiftI {op : BinOp} {k k' : IntKind} {x y : Int} {v : AV} (hop : op = .shl ∨ op = .shr) (h : shiftI op k x y = some v) (μ : Map) (t : TypeId) (w : World) : (binOp op t (.int k x) (.int k' y)).run P w = .ok (conc μ v) w := by
  unfold shiftI at h
  split at h
  · cases h
  · rename_i h0
    rcases hop with rfl | rfl <;> cases h <;> simp [binOp, Op.shift, h0, conc]

theorem run_binA {op : BinOp} {x y v : AV} (h : binA op x y = some v) (μ : Map) (t : TypeId) (w : World) : (binOp op t (conc μ x) (conc μ y)).run P w = .ok (conc μ v) w := by
  unfold binA at h
  split at h
  · split at h
    · exact run_shiftI (.inl rfl) h μ t w
    · exact run_shiftI (.inr rfl) h μ t w
    · split at h
      · rename_i hk; subst hk; exact run_binI h μ t w
      · cases h
  · cases h

theorem vok_binI {op : BinOp} {k : IntKind} {x y : Int} {v : AV} (h : binI op k x y = some v) (U : Nat → Prop) (μ : Map) : vok U μ v := by
  cases op <;> simp only [binI] at h
  case quo => split at h <;> cases h; simp [vok]
  case rem => split at h <;> cases h; simp [vok]
  all_goals (cases h; try (simp [vok]))

theorem vok_shiftI {op : BinOp} {k : IntKind} {x y : Int} {v : AV} (h : shiftI op k x y = some v) (U : Nat → Prop) (μ : Map) : vok U μ v := by
  unfold shiftI at h
  split at h
  · cases h
  · cases op <;> simp only [] at h <;> cases h <;> simp [vok]

theorem vok_binA {op : BinOp} {x y v : AV} (h : binA op x y = some v) (U : Nat → Prop) (μ : Map) : vok U μ v := by
  unfold binA at h
  split at h
  · split at h
    · exact vok_shiftI h U μ
    · exact vok_shiftI h U μ
    · split at h
      · exact vok_binI h U μ
      · cases h
  · cases h

theorem run_eqGuard_int (op : BinOp) (t : TypeId) (x y : Operand) (k k' : IntKind) (p q : Int) (w : World) : (eqGuard op t x y (.int k p) (.int k' q)).run P w = .ok () w := by
  cases op <;> simp [eqGuard]

theorem binA_ints {op : BinOp} {x y v : AV} (h : binA op x y = some v) : ∃ k a k' b, x = .int k a ∧ y = .int k' b := by
  unfold binA at h
  split at h
  · exact ⟨_, _, _, _, rfl, rfl⟩
  · cases h

theorem sound_bin (op : BinOp) (t yt : TypeId) (x y : Operand) : Sound P ⟨dst, .binOp op t x y yt, type, pos, after, guard⟩ (.bin op (cx x) (cx y)) := by
  intro ρ a μ U h w n v rd eff hs ha r hn he
  simp only [aop, Option.map_eq_some_iff, Prod.mk.injEq] at he
  obtain ⟨v', hv', rfl, rfl, rfl⟩ := he
  obtain ⟨k, p, k', q, hx, hy⟩ := binA_ints hv'
  refine Done.pure r ?_ (vok_binA hv' U μ)
  have := run_binA (P := P) hv' μ t w
  rw [hx, hy] at this
  simp only [conc] at this
  simp [execOp, hs x (by simp [Op.operands, Call.operands]), hs y (by simp [Op.operands, Call.operands]), hx, hy, conc, run_eqGuard_int, this]

end
end Go.Eng
