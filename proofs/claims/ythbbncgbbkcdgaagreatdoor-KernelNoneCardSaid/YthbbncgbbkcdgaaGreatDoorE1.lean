/- Engine, part 1: abstract values, abstract heaps, and how they stand to the model's worlds. -/
import Derived.Calls
import Derived.Orders
import Derived.Laws.Sem
import Derived.Laws.World
namespace Go.Eng
open Go

/-- An abstract value: the addresses are names of abstract blocks. -/
inductive AV where
  | bool (b : Bool)
  | int (k : IntKind) (n : Int)
  | str (s : ByteArray)
  | ptr (b off : Nat)
  | nilp
  | sl (b off lo len : Nat) (cap : Option Nat)
  | nilsl
  | fn (f : Fn) (first captured : List AV)
  | nilfn
  | iface (t : Nat) (v : AV)
  | nilif
  | agg (cs : List AV)
  | tup (cs : List AV)
  | mp (b : Nat)
  | raw (v : Value)

instance : Inhabited AV := ⟨.tup []⟩

/-- Where a name's block lies: the concrete block, the shift of cell 0, the number of its cells, the size of an element. -/
structure MB where
  blk : Nat
  shift : Nat
  size : Nat
  esz : Nat

def MB.rest (m : MB) (off : Nat) : Nat := (m.size - (m.shift + off)) / m.esz

abbrev Map := Nat → MB

mutual
def conc (μ : Map) : AV → Value
  | .bool b => .bool b
  | .int k n => .int k n
  | .str s => .string s
  | .ptr b off => .pointer (some ⟨(μ b).blk, (μ b).shift + off, none⟩)
  | .nilp => .pointer none
  | .sl b off lo len cap => match cap with
    | some c => .slice (some ⟨(μ b).blk, (μ b).shift + off, none⟩) len c
    | none => .slice (some ⟨(μ b).blk, (μ b).shift + off + (if (μ b).rest off = lo then 0 else lo * (μ b).esz), none⟩) len ((μ b).rest off - lo)
  | .nilsl => .slice none 0 0
  | .fn f a c => .func f (concL μ a).toArray (concL μ c).toArray
  | .nilfn => .nilFunc
  | .iface t v => .iface t (conc μ v)
  | .nilif => .nilIface
  | .agg cs => .agg (concL μ cs).toArray
  | .tup cs => .tuple (concL μ cs).toArray
  | .mp b => .map (some (μ b).blk)
  | .raw v => v
def concL (μ : Map) : List AV → List Value
  | [] => []
  | v :: vs => conc μ v :: concL μ vs
end

theorem concL_eq (μ : Map) : ∀ l : List AV, concL μ l = l.map (conc μ)
  | [] => rfl
  | v :: vs => by simp [concL, concL_eq μ vs]

mutual
/-- The names of a value are used ones, and its slices fit. -/
def vok (U : Nat → Prop) (μ : Map) : AV → Prop
  | .ptr b _ => U b
  | .sl b off lo len cap => U b ∧ match cap with
    | some c => lo = 0 ∧ len ≤ c
    | none => 0 < (μ b).esz ∧ (μ b).shift + off + (lo + len) * (μ b).esz ≤ (μ b).size
  | .fn _ a c => vokL U μ a ∧ vokL U μ c
  | .iface _ v => vok U μ v
  | .agg cs => vokL U μ cs
  | .tup cs => vokL U μ cs
  | .mp b => U b
  | _ => True
def vokL (U : Nat → Prop) (μ : Map) : List AV → Prop
  | [] => True
  | v :: vs => vok U μ v ∧ vokL U μ vs
end

theorem vokL_iff {U : Nat → Prop} {μ : Map} : ∀ {l : List AV}, vokL U μ l ↔ ∀ v ∈ l, vok U μ v
  | [] => by simp [vokL]
  | v :: vs => by simp [vokL, vokL_iff (l := vs)]

mutual
theorem conc_congr {U : Nat → Prop} {μ μ' : Map} (h : ∀ b, U b → μ' b = μ b) : ∀ v : AV, vok U μ v → conc μ' v = conc μ v
  | .bool _, _ | .int _ _, _ | .str _, _ | .nilp, _ | .nilsl, _ | .nilfn, _ | .nilif, _ | .raw _, _ => by simp [conc]
  | .ptr b _, hb => by simp only [vok] at hb; simp [conc, h b hb]
  | .sl b off lo len cap, hb => by simp only [vok] at hb; cases cap <;> simp [conc, h b hb.1]
  | .mp b, hb => by simp only [vok] at hb; simp [conc, h b hb]
  | .fn f a c, hb => by simp only [vok] at hb; simp [conc, concL_congr h a hb.1, concL_congr h c hb.2]
  | .iface t v, hb => by simp only [vok] at hb; simp [conc, conc_congr h v hb]
  | .agg cs, hb => by simp only [vok] at hb; simp [conc, concL_congr h cs hb]
  | .tup cs, hb => by simp only [vok] at hb; simp [conc, concL_congr h cs hb]
theorem concL_congr {U : Nat → Prop} {μ μ' : Map} (h : ∀ b, U b → μ' b = μ b) : ∀ l : List AV, vokL U μ l → concL μ' l = concL μ l
  | [], _ => rfl
  | v :: vs, hb => by simp only [vokL] at hb; simp [concL, conc_congr h v hb.1, concL_congr h vs hb.2]
end

mutual
theorem vok_mono {U U' : Nat → Prop} {μ μ' : Map} (hu : ∀ b, U b → U' b) (h : ∀ b, U b → μ' b = μ b) : ∀ v : AV, vok U μ v → vok U' μ' v
  | .bool _, _ | .int _ _, _ | .str _, _ | .nilp, _ | .nilsl, _ | .nilfn, _ | .nilif, _ | .raw _, _ => by simp [vok]
  | .ptr b _, hb => by simp only [vok] at hb ⊢; exact hu b hb
  | .sl b off lo len cap, hb => by simp only [vok] at hb ⊢; rw [h b hb.1]; exact ⟨hu b hb.1, hb.2⟩
  | .mp b, hb => by simp only [vok] at hb ⊢; exact hu b hb
  | .fn f a c, hb => by simp only [vok] at hb ⊢; exact ⟨vokL_mono hu h a hb.1, vokL_mono hu h c hb.2⟩
  | .iface t v, hb => by simp only [vok] at hb ⊢; exact vok_mono hu h v hb
  | .agg cs, hb => by simp only [vok] at hb ⊢; exact vokL_mono hu h cs hb
  | .tup cs, hb => by simp only [vok] at hb ⊢; exact vokL_mono hu h cs hb
theorem vokL_mono {U U' : Nat → Prop} {μ μ' : Map} (hu : ∀ b, U b → U' b) (h : ∀ b, U b → μ' b = μ b) : ∀ l : List AV, vokL U μ l → vokL U' μ' l
  | [], _ => by simp [vokL]
  | v :: vs, hb => by simp only [vokL] at hb ⊢; exact ⟨vok_mono hu h v hb.1, vokL_mono hu h vs hb.2⟩
end

/-- An abstract block: one that may be written; one that is only read; a map. -/
inductive Blk where
  | cells (esz : Nat) (cs : List AV)
  | ro (cs : List AV)
  | mapo (kv : List (AV × AV))

def Blk.wr : Blk → Bool
  | .ro _ => false
  | _ => true

/-- What may be read of a block. -/
def rdOf : Option Blk → Option (List AV)
  | some (.cells _ cs) => some cs
  | some (.ro cs) => some cs
  | _ => none

abbrev Heap := Nat → Option Blk

def upd (h : Heap) (b : Nat) (k : Option Blk) : Heap := fun x => if x = b then k else h x

@[simp] theorem upd_same (h : Heap) (b : Nat) (k : Option Blk) : upd h b k b = k := by simp [upd]
theorem upd_ne (h : Heap) {b c : Nat} (k : Option Blk) (hn : c ≠ b) : upd h b k c = h c := by simp [upd, hn]

/-- The block of one name, as it lies in a world. -/
def BlkAt (μ : Map) (w : World) (b : Nat) : Blk → Prop
  | .cells e cs => ∃ c ty, w.heap[(μ b).blk]? = some (.cells c ty (0, 0)) ∧ c.size = (μ b).size ∧ (μ b).esz = e ∧ (μ b).shift + cs.length ≤ (μ b).size ∧
      ∀ i v, cs[i]? = some v → c[(μ b).shift + i]? = some (conc μ v)
  | .ro cs => ∃ c ty fr, w.heap[(μ b).blk]? = some (.cells c ty fr) ∧ ∀ (i : Nat) v, cs[i]? = some v → c[(μ b).shift + i]? = some (conc μ v)
  | .mapo kv => ∃ es clock, w.heap[(μ b).blk]? = some (.map es clock) ∧
      es.toList.map (fun e => (e.key, e.val)) = kv.map (fun p => (conc μ p.1, conc μ p.2))

def BlkOk (U : Nat → Prop) (μ : Map) : Blk → Prop
  | .cells _ cs => ∀ v ∈ cs, vok U μ v
  | .ro cs => ∀ v ∈ cs, vok U μ v
  | .mapo kv => ∀ p ∈ kv, vok U μ p.1 ∧ vok U μ p.2

structure Rel (G : Nat) (U : Nat → Prop) (μ : Map) (h : Heap) (w : World) : Prop where
  glob : ∀ g, g < G → U g ∧ (μ g).blk = g ∧ (μ g).shift = 0
  used : ∀ b k, h b = some k → U b
  at_ : ∀ b k, h b = some k → BlkAt μ w b k
  ok : ∀ b k, h b = some k → BlkOk U μ k
  inj : ∀ b b' k k', h b = some k → h b' = some k' → k.wr = true → (μ b).blk = (μ b').blk → b = b'

/-- What may have become of the world: old blocks that no name of the heap names are as they were. -/
structure Ext (U : Nat → Prop) (μ : Map) (h : Heap) (w : World) (U' : Nat → Prop) (μ' : Map) (h' : Heap) (w' : World) : Prop where
  sub : ∀ b, U b → U' b
  agree : ∀ b, U b → μ' b = μ b
  size : w.heap.size ≤ w'.heap.size
  frame : ∀ B, B < w.heap.size → (∀ b k, h b = some k → k.wr = true → (μ b).blk ≠ B) → w'.heap[B]? = w.heap[B]?
  img : ∀ b k, h' b = some k → k.wr = true → (∃ b0 k0, h b0 = some k0 ∧ k0.wr = true ∧ (μ b0).blk = (μ' b).blk) ∨ w.heap.size ≤ (μ' b).blk
  ro : ∀ b cs, h' b = some (.ro cs) → h b = some (.ro cs)
  os : w'.os = w.os
  tape : w'.tape = w.tape
  output : w'.output = w.output

theorem Ext.refl (U : Nat → Prop) (μ : Map) (h : Heap) (w : World) : Ext U μ h w U μ h w :=
  ⟨fun _ h => h, fun _ _ => rfl, Nat.le_refl _, fun _ _ _ => rfl, fun b k hb hw => .inl ⟨b, k, hb, hw, rfl⟩, fun _ _ h => h, rfl, rfl, rfl⟩

theorem Ext.trans {U U' U'' : Nat → Prop} {μ μ' μ'' : Map} {h h' h'' : Heap} {w w' w'' : World} (a : Ext U μ h w U' μ' h' w') (b : Ext U' μ' h' w' U'' μ'' h'' w'') :
    Ext U μ h w U'' μ'' h'' w'' where
  sub x hx := b.sub x (a.sub x hx)
  agree x hx := (b.agree x (a.sub x hx)).trans (a.agree x hx)
  size := Nat.le_trans a.size b.size
  frame B hB hn := by
    rw [b.frame B (Nat.lt_of_lt_of_le hB a.size) ?_, a.frame B hB hn]
    intro x k hx hk he
    rcases a.img x k hx hk with ⟨b0, k0, h0, w0, e0⟩ | hs
    · exact hn b0 k0 h0 w0 (e0.trans he)
    · omega
  img x k hx hk := by
    rcases b.img x k hx hk with ⟨b0, k0, h0, w0, e0⟩ | hs
    · rcases a.img b0 k0 h0 w0 with ⟨b1, k1, h1, w1, e1⟩ | hs
      · exact .inl ⟨b1, k1, h1, w1, e1.trans e0⟩
      · exact .inr (e0 ▸ hs)
    · exact .inr (Nat.le_trans a.size hs)
  ro x cs hx := a.ro x cs (b.ro x cs hx)
  os := b.os.trans a.os
  tape := b.tape.trans a.tape
  output := b.output.trans a.output

theorem Rel.lt {G : Nat} {U : Nat → Prop} {μ : Map} {h : Heap} {w : World} (r : Rel G U μ h w) {b : Nat} {k : Blk} (hb : h b = some k) : (μ b).blk < w.heap.size := by
  have := r.at_ b k hb
  rcases Nat.lt_or_ge (μ b).blk w.heap.size with h1 | h1
  · exact h1
  · cases k with
    | cells e cs => obtain ⟨c, ty, hc, _⟩ := this; rw [Array.getElem?_eq_none h1] at hc; cases hc
    | ro cs => obtain ⟨c, ty, fr, hc, _⟩ := this; rw [Array.getElem?_eq_none h1] at hc; cases hc
    | mapo kv => obtain ⟨es, cl, hc, _⟩ := this; rw [Array.getElem?_eq_none h1] at hc; cases hc

/-- A smaller heap. -/
theorem Rel.restrict {G : Nat} {U : Nat → Prop} {μ : Map} {h h' : Heap} {w : World} (r : Rel G U μ h w) (hs : ∀ b k, h' b = some k → h b = some k) : Rel G U μ h' w :=
  ⟨r.glob, fun b k hb => r.used b k (hs b k hb), fun b k hb => r.at_ b k (hs b k hb), fun b k hb => r.ok b k (hs b k hb),
   fun b b' k k' hb hb' hw => r.inj b b' k k' (hs b k hb) (hs b' k' hb') hw⟩

end Go.Eng
