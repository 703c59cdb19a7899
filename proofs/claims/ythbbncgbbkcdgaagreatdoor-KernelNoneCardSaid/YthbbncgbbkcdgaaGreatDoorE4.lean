/- Engine, part 4: every abstract step is a step of the model. -/
import Derived.Test.YthbbncgbbkcdgaaGreatDoorE3
import Derived.Laws.StructEq
import Derived.Laws.Build
namespace Go.Eng
open Go

theorem conc_ofCell (μ : Map) (v : Value) : conc μ (ofCell v) = v := by
  unfold ofCell
  split <;> simp [conc]

theorem conc_ofValue (μ : Map) (v : Value) : conc μ (ofValue v) = v := by
  have hl : ∀ l : List Value, (l.map ofCell).map (conc μ) = l := fun l => by
    rw [List.map_map]
    conv => rhs; rw [← List.map_id l]
    exact List.map_congr_left fun x _ => conc_ofCell μ x
  unfold ofValue
  split
  · simp only [conc, concL_eq, hl]
  · simp only [conc, concL_eq, hl]
  · simp only [conc, conc_ofCell]
  · exact conc_ofCell μ _

theorem vok_ofCell (U : Nat → Prop) (μ : Map) (v : Value) : vok U μ (ofCell v) := by
  unfold ofCell
  split <;> simp [vok]

theorem vok_ofValue (U : Nat → Prop) (μ : Map) (v : Value) : vok U μ (ofValue v) := by
  have hl : ∀ l : List Value, vokL U μ (l.map ofCell) := fun l => vokL_iff.2 fun x hx => by
    obtain ⟨y, _, rfl⟩ := List.mem_map.1 hx
    exact vok_ofCell U μ y
  unfold ofValue
  split
  · simp only [vok, hl]
  · simp only [vok, hl]
  · simp only [vok, vok_ofCell]
  · exact vok_ofCell U μ _

/-- The model's operands, as the abstract temporaries say. -/
def Says (op : Op) (ρ : Operand → Value) (μ : Map) (a : List AV) : Prop := ∀ x ∈ op.operands, ρ x = conc μ (ev a (cx x))

def OkOps (op : Op) (U : Nat → Prop) (μ : Map) (a : List AV) : Prop := ∀ x ∈ op.operands, vok U μ (ev a (cx x))

theorem vok_ev {U : Nat → Prop} {μ : Map} {a : List AV} (ha : ∀ v ∈ a, vok U μ v) (x : Operand) : vok U μ (ev a (cx x)) := by
  cases x with
  | tmp t =>
    simp only [cx, ev]
    cases hx : a[t]? with
    | some v => rw [List.getD, hx]; exact ha _ (List.mem_of_getElem? hx)
    | none => rw [List.getD, hx]; simp [undefA, vok, vokL]
  | const v => exact vok_ofValue U μ v
  | global g => simp [cx, ev, vok]
  | func f => simp [cx, ev, vok, vokL]

/-- The names in use behind an effect. -/
def UA (U : Nat → Prop) (n : Nat) : Eff → (Nat → Prop)
  | .al _ | .ap _ _ => Un U n
  | _ => U

def Eff.news : Eff → Nat
  | .al _ | .ap _ _ => 1
  | _ => 0

def Done (P : Program) (o : Oper) (ρ : Operand → Value) (U : Nat → Prop) (μ : Map) (h : Heap) (w : World) (n : Nat) (v : AV) (eff : Eff) : Prop :=
  ∃ w' μ', ((execOp ρ o).run P w = .ok (.value (conc μ' v)) w' ∨ ((execOp ρ o).run P w = .ok .skip w' ∧ v = undefA)) ∧
    Rel P.globals.size (UA U n eff) μ' (applyEff n h eff) w' ∧ Ext U μ h w (UA U n eff) μ' (applyEff n h eff) w' ∧ vok (UA U n eff) μ' v

theorem Done.pure {P : Program} {o : Oper} {ρ : Operand → Value} {U : Nat → Prop} {μ : Map} {h : Heap} {w : World} {n : Nat} {v : AV} (r : Rel P.globals.size U μ h w)
    (hr : (execOp ρ o).run P w = .ok (.value (conc μ v)) w) (hv : vok U μ v) : Done P o ρ U μ h w n v .no :=
  ⟨w, μ, .inl hr, r.no rfl, Ext.no rfl rfl rfl rfl, hv⟩

theorem Done.pure' {P : Program} {o : Oper} {ρ : Operand → Value} {U : Nat → Prop} {μ : Map} {h : Heap} {w : World} {n : Nat} {v : AV} {u : Value} (r : Rel P.globals.size U μ h w)
    (hr : (execOp ρ o).run P w = .ok (.value u) w) (hu : conc μ v = u) (hv : vok U μ v) : Done P o ρ U μ h w n v .no :=
  Done.pure r (hu ▸ hr) hv

/-- A new block. -/
theorem Done.alloc {P : Program} {o : Oper} {ρ : Operand → Value} {U : Nat → Prop} {μ : Map} {h : Heap} {w w' : World} {n : Nat} {v : AV} (r : Rel P.globals.size U μ h w) (hn : ¬ U n)
    {e : Nat} {cs : List AV} (hcs : ∀ v ∈ cs, vok U μ v) {c : Array Value} {ty : TypeId} (hcl : cs.length ≤ c.size) (hc : ∀ (i : Nat) v, cs[i]? = some v → c[i]? = some (conc μ v))
    (hh : w'.heap = w.heap.push (.cells c ty (0, 0))) (ho : w'.os = w.os) (ht : w'.tape = w.tape) (hu : w'.output = w.output)
    (hr : (execOp ρ o).run P w = .ok (.value (conc (updμ μ n ⟨w.heap.size, 0, c.size, e⟩) v)) w') (hv : vok (Un U n) (updμ μ n ⟨w.heap.size, 0, c.size, e⟩) v) :
    Done P o ρ U μ h w n v (.al (.cells e cs)) :=
  ⟨w', _, .inl hr, r.new hn hcs ⟨w.heap.size, 0, c.size, e⟩ rfl rfl rfl (by simpa using hcl) (fun (i : Nat) v hv => by simpa using hc i v hv) hh,
    Ext.new hn r rfl ⟨w.heap.size, 0, c.size, e⟩ rfl hh ho ht hu, hv⟩

/-- The concrete cells of a block, written. -/
theorem BlkAt.write {μ : Map} {w : World} {b e off : Nat} {cs vs : List AV} {c : Array Value} {ty : TypeId} (h1 : w.heap[(μ b).blk]? = some (.cells c ty (0, 0))) (h2 : c.size = (μ b).size) (h3 : (μ b).esz = e) (h5 : (μ b).shift + cs.length ≤ (μ b).size)
    (h4 : ∀ i v, cs[i]? = some v → c[(μ b).shift + i]? = some (conc μ v)) (hl : off + vs.length ≤ cs.length) :
    BlkAt μ (w.setRow (μ b).blk (c.toList.take ((μ b).shift + off) ++ vs.map (conc μ) ++ c.toList.drop ((μ b).shift + off + vs.length)).toArray) b (.cells e (splice cs off vs)) := by
  have hcl : (μ b).shift + off + vs.length ≤ c.size := by omega
  refine ⟨_, ty, setRow_heap w _ c _ ty _ h1, ?_, h3, ?_, fun i v hv => ?_⟩
  · simp; omega
  · rw [length_splice _ _ _ hl]; exact h5
  · rw [getElem?_splice _ _ _ hl] at hv
    simp only [List.getElem?_toArray, List.append_assoc]
    by_cases hi : i < off
    · rw [if_pos hi] at hv
      rw [List.getElem?_append_left (by simp; omega), List.getElem?_take, if_pos (by omega)]
      simpa using h4 i v hv
    · rw [if_neg hi] at hv
      rw [List.getElem?_append_right (by simp; omega)]
      have hlen : (c.toList.take ((μ b).shift + off)).length = (μ b).shift + off := by simp; omega
      rw [hlen]
      by_cases hi2 : i < off + vs.length
      · rw [if_pos hi2] at hv
        rw [List.getElem?_append_left (by simp; omega)]
        rw [show (μ b).shift + i - ((μ b).shift + off) = i - off by omega]
        simp [hv]
      · rw [if_neg hi2] at hv
        rw [List.getElem?_append_right (by simp; omega), List.getElem?_drop]
        have := h4 i v hv
        rw [← Array.getElem?_toList] at this
        rw [← this]
        congr 1
        simp
        omega

end Go.Eng
