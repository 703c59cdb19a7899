/- Engine, part 27: garbage behind the heap; one cell set. -/
import Derived.Test.YthbbncgbbkcdgaaGreatDoorE26
namespace Go.Eng
open Go

section
variable {G : Nat} {U : Nat → Prop} {μ : Map} {h : Heap} {w w' : World}

theorem Rel.grown (r : Rel G U μ h w) (hp : ∀ B, B < w.heap.size → w'.heap[B]? = w.heap[B]?) : Rel G U μ h w' where
  glob := r.glob
  used := r.used
  at_ b k hb := (r.at_ b k hb).congr (fun _ _ => rfl) (r.used b k hb) (r.ok b k hb) (hp _ (r.lt hb))
  ok := r.ok
  inj := r.inj

theorem Ext.grown (hs : w.heap.size ≤ w'.heap.size) (hp : ∀ B, B < w.heap.size → w'.heap[B]? = w.heap[B]?) (ho : w'.os = w.os) (ht : w'.tape = w.tape) (hu : w'.output = w.output) : Ext U μ h w U μ h w' :=
  ⟨fun _ h => h, fun _ _ => rfl, hs, fun B hB _ => hp B hB, fun b k hb hw => .inl ⟨b, k, hb, hw, rfl⟩, fun _ _ h => h, ho, ht, hu⟩

theorem setCell_at (w : World) (a : Addr) (v : Value) (B : Nat) (hB : B ≠ a.block) : (w.setCell a v).heap[B]? = w.heap[B]? := by
  unfold World.setCell
  simp only [Array.getElem?_modify]
  rw [if_neg (fun e => hB e.symm)]

/-- One cell of a block set. -/
theorem Rel.setCell (r : Rel G U μ h w) {b e off : Nat} {cs : List AV} (hb : h b = some (.cells e cs)) (ho : off < cs.length) {v : AV} (hv : vok U μ v) :
    Rel G U μ (upd h b (some (.cells e (splice cs off [v])))) (w.setCell ⟨(μ b).blk, (μ b).shift + off, none⟩ (conc μ v)) ∧
    Ext U μ h w U μ (upd h b (some (.cells e (splice cs off [v])))) (w.setCell ⟨(μ b).blk, (μ b).shift + off, none⟩ (conc μ v)) := by
  obtain ⟨c, ty, h1, h2, h3, h5, h4⟩ := r.at_ b _ hb
  have hoth : ∀ B, B ≠ (μ b).blk → (w.setCell ⟨(μ b).blk, (μ b).shift + off, none⟩ (conc μ v)).heap[B]? = w.heap[B]? := fun B hB => setCell_at w _ _ B hB
  have hsp : off + [v].length ≤ cs.length := ho
  constructor
  · refine r.set hb rfl ?_ ?_ hoth
    · refine ⟨c.setIfInBounds ((μ b).shift + off) (conc μ v), ty, ?_, by simpa using h2, h3, by rw [length_splice _ _ _ hsp]; exact h5, fun i u hu => ?_⟩
      · unfold World.setCell
        simp only [Array.getElem?_modify, if_true, h1, Option.map_some]
        simp
      · rw [getElem?_splice _ _ _ hsp] at hu
        rw [Array.getElem?_setIfInBounds]
        by_cases hi : i = off
        · subst hi
          have : (μ b).shift + i < c.size := by omega
          simp [this] at hu ⊢
          rw [hu]
        · have hne : ¬ (μ b).shift + off = (μ b).shift + i := by omega
          rw [if_neg hne]
          refine h4 i u ?_
          by_cases hlt : i < off
          · rw [if_pos hlt] at hu; exact hu
          · have : ¬ i < off + [v].length := by simp; omega
            rw [if_neg hlt, if_neg this] at hu; exact hu
    · intro u hu
      rcases mem_splice hu with hu | hu
      · exact r.ok b _ hb u hu
      · rw [List.mem_singleton.1 hu]; exact hv
  · exact Ext.set hb rfl rfl (by simp [World.setCell]) hoth rfl rfl rfl

end
end Go.Eng
