/- Engine, part 1: abstract values, abstract heaps, and how they stand to the model's worlds. -/
import Derived.Calls
import Derived.Orders
import Derived.Laws.Sem
import Derived.Laws.World
set_option linter.unusedSimpArgs false
set_option linter.unusedVariables false
set_option linter.unnecessarySimpa false
namespace Go.Eng
open Go

/-- An abstract value: the addresses are names of abstract blocks. -/
inductive AV where
  | bool (b : Bool)
  | int (k : IntKind) (n : Int)
  | str (s : ByteArray)
  | ptr (b off : Nat)
  | nilp
  | sl (b off lo len : Nat) (cap : Option Nat)
  | nilsl
  | fn (f : Fn) (first captured : List AV)
  | nilfn
  | iface (t : Nat) (v : AV)
  | nilif
  | agg (cs : List AV)
  | tup (cs : List AV)
  | mp (b : Nat)
  | raw (v : Value)

instance : Inhabited AV := ⟨.tup []⟩

/-- Where a name's block lies: the concrete block, the shift of cell 0, the number of its cells, the size of an element. -/
structure MB where
  blk : Nat
  shift : Nat
  size : Nat
  esz : Nat

def MB.rest (m : MB) (off : Nat) : Nat := (m.size - (m.shift + off)) / m.esz

abbrev Map := Nat → MB

mutual
def conc (μ : Map) : AV → Value
  | .bool b => .bool b
  | .int k n => .int k n
  | .str s => .string s
  | .ptr b off => .pointer (some ⟨(μ b).blk, (μ b).shift + off, none⟩)
  | .nilp => .pointer none
  | .sl b off lo len cap => match cap with
    | some c => .slice (some ⟨(μ b).blk, (μ b).shift + off, none⟩) len c
    | none => .slice (some ⟨(μ b).blk, (μ b).shift + off + (if (μ b).rest off = lo then 0 else lo * (μ b).esz), none⟩) len ((μ b).rest off - lo)
  | .nilsl => .slice none 0 0
  | .fn f a c => .func f (concL μ a).toArray (concL μ c).toArray
  | .nilfn => .nilFunc
  | .iface t v => .iface t (conc μ v)
  | .nilif => .nilIface
  | .agg cs => .agg (concL μ cs).toArray
  | .tup cs => .tuple (concL μ cs).toArray
  | .mp b => .map (some (μ b).blk)
  | .raw v => v
def concL (μ : Map) : List AV → List Value
  | [] => []
  | v :: vs => conc μ v :: concL μ vs
end

theorem concL_eq (μ : Map) : ∀ l : List AV, concL μ l = l.map (conc μ)
  | [] => rfl
  | v :: vs => by simp [concL, concL_eq μ vs]

mutual
/-- The names of a value are used ones, and its slices fit. -/
def vok (U : Nat → Prop) (μ : Map) : AV → Prop
  | .ptr b _ => U b
  | .sl b off lo len cap => U b ∧ match cap with
    | some c => lo = 0 ∧ len ≤ c
    | none => 0 < (μ b).esz ∧ (μ b).shift + off + (lo + len) * (μ b).esz ≤ (μ b).size
  | .fn _ a c => vokL U μ a ∧ vokL U μ c
  | .iface _ v => vok U μ v
  | .agg cs => vokL U μ cs
  | .tup cs => vokL U μ cs
  | .mp b => U b
  | _ => True
def vokL (U : Nat → Prop) (μ : Map) : List AV → Prop
  | [] => True
  | v :: vs => vok U μ v ∧ vokL U μ vs
end

theorem vokL_iff {U : Nat → Prop} {μ : Map} : ∀ {l : List AV}, vokL U μ l ↔ ∀ v ∈ l, vok U μ v
  | [] => by simp [vokL]
  | v :: vs => by simp [vokL, vokL_iff (l := vs)]

mutual
theorem conc_congr {U : Nat → Prop} {μ μ' : Map} (h : ∀ b, U b → μ' b = μ b) : ∀ v : AV, vok U μ v → conc μ' v = conc μ v
  | .bool _, _ | .int _ _, _ | .str _, _ | .nilp, _ | .nilsl, _ | .nilfn, _ | .nilif, _ | .raw _, _ => by simp [conc]
  | .ptr b _, hb => by simp only [vok] at hb; simp [conc, h b hb]
  | .sl b off lo len cap, hb => by simp only [vok] at hb; cases cap <;> simp [conc, h b hb.1]
  | .mp b, hb => by simp only [vok] at hb; simp [conc, h b hb]
  | .fn f a c, hb => by simp only [vok] at hb; simp [conc, concL_congr h a hb.1, concL_congr h c hb.2]
  | .iface t v, hb => by simp only [vok] at hb; simp [conc, conc_congr h v hb]
  | .agg cs, hb => by simp only [vok] at hb; simp [conc, concL_congr h cs hb]
  | .tup cs, hb => by simp only [vok] at hb; simp [conc, concL_congr h cs hb]
theorem concL_congr {U : Nat → Prop} {μ μ' : Map} (h : ∀ b, U b → μ' b = μ b) : ∀ l : List AV, vokL U μ l → concL μ' l = concL μ l
  | [], _ => rfl
  | v :: vs, hb => by simp only [vokL] at hb; simp [concL, conc_congr h v hb.1, concL_congr h vs hb.2]
end

mutual
theorem vok_mono {U U' : Nat → Prop} {μ μ' : Map} (hu : ∀ b, U b → U' b) (h : ∀ b, U b → μ' b = μ b) : ∀ v : AV, vok U μ v → vok U' μ' v
  | .bool _, _ | .int _ _, _ | .str _, _ | .nilp, _ | .nilsl, _ | .nilfn, _ | .nilif, _ | .raw _, _ => by simp [vok]
  | .ptr b _, hb => by simp only [vok] at hb ⊢; exact hu b hb
  | .sl b off lo len cap, hb => by simp only [vok] at hb ⊢; rw [h b hb.1]; exact ⟨hu b hb.1, hb.2⟩
  | .mp b, hb => by simp only [vok] at hb ⊢; exact hu b hb
  | .fn f a c, hb => by simp only [vok] at hb ⊢; exact ⟨vokL_mono hu h a hb.1, vokL_mono hu h c hb.2⟩
  | .iface t v, hb => by simp only [vok] at hb ⊢; exact vok_mono hu h v hb
  | .agg cs, hb => by simp only [vok] at hb ⊢; exact vokL_mono hu h cs hb
  | .tup cs, hb => by simp only [vok] at hb ⊢; exact vokL_mono hu h cs hb
theorem vokL_mono {U U' : Nat → Prop} {μ μ' : Map} (hu : ∀ b, U b → U' b) (h : ∀ b, U b → μ' b = μ b) : ∀ l : List AV, vokL U μ l → vokL U' μ' l
  | [], _ => by simp [vokL]
  | v :: vs, hb => by simp only [vokL] at hb ⊢; exact ⟨vok_mono hu h v hb.1, vokL_mono hu h vs hb.2⟩
end

/-- An abstract block: one that may be written; one that is only read; a map. -/
inductive Blk where
  | cells (esz : Nat) (cs : List AV)
  | ro (cs : List AV)
  | mapo (kv : List (AV × AV))

def Blk.wr : Blk → Bool
  | .ro _ => false
  | _ => true

/-- What may be read of a block. -/
def rdOf : Option Blk → Option (List AV)
  | some (.cells _ cs) => some cs
  | some (.ro cs) => some cs
  | _ => none

abbrev Heap := Nat → Option Blk

def upd (h : Heap) (b : Nat) (k : Option Blk) : Heap := fun x => if x = b then k else h x

@[simp] theorem upd_same (h : Heap) (b : Nat) (k : Option Blk) : upd h b k b = k := by simp [upd]
theorem upd_ne (h : Heap) {b c : Nat} (k : Option Blk) (hn : c ≠ b) : upd h b k c = h c := by simp [upd, hn]

/-- The block of one name, as it lies in a world. -/
def BlkAt (μ : Map) (w : World) (b : Nat) : Blk → Prop
  | .cells e cs => ∃ c ty, w.heap[(μ b).blk]? = some (.cells c ty (0, 0)) ∧ c.size = (μ b).size ∧ (μ b).esz = e ∧ (μ b).shift + cs.length ≤ (μ b).size ∧
      ∀ i v, cs[i]? = some v → c[(μ b).shift + i]? = some (conc μ v)
  | .ro cs => ∃ c ty fr, w.heap[(μ b).blk]? = some (.cells c ty fr) ∧ ∀ (i : Nat) v, cs[i]? = some v → c[(μ b).shift + i]? = some (conc μ v)
  | .mapo kv => ∃ es clock, w.heap[(μ b).blk]? = some (.map es clock) ∧
      es.toList.map (fun e => (e.key, e.val)) = kv.map (fun p => (conc μ p.1, conc μ p.2))

def BlkOk (U : Nat → Prop) (μ : Map) : Blk → Prop
  | .cells _ cs => ∀ v ∈ cs, vok U μ v
  | .ro cs => ∀ v ∈ cs, vok U μ v
  | .mapo kv => ∀ p ∈ kv, vok U μ p.1 ∧ vok U μ p.2

structure Rel (G : Nat) (U : Nat → Prop) (μ : Map) (h : Heap) (w : World) : Prop where
  glob : ∀ g, g < G → U g ∧ (μ g).blk = g ∧ (μ g).shift = 0
  used : ∀ b k, h b = some k → U b
  at_ : ∀ b k, h b = some k → BlkAt μ w b k
  ok : ∀ b k, h b = some k → BlkOk U μ k
  inj : ∀ b b' k k', h b = some k → h b' = some k' → k.wr = true → (μ b).blk = (μ b').blk → b = b'

/-- What may have become of the world: old blocks that no name of the heap names are as they were. -/
structure Ext (U : Nat → Prop) (μ : Map) (h : Heap) (w : World) (U' : Nat → Prop) (μ' : Map) (h' : Heap) (w' : World) : Prop where
  sub : ∀ b, U b → U' b
  agree : ∀ b, U b → μ' b = μ b
  size : w.heap.size ≤ w'.heap.size
  frame : ∀ B, B < w.heap.size → (∀ b k, h b = some k → k.wr = true → (μ b).blk ≠ B) → w'.heap[B]? = w.heap[B]?
  img : ∀ b k, h' b = some k → k.wr = true → (∃ b0 k0, h b0 = some k0 ∧ k0.wr = true ∧ (μ b0).blk = (μ' b).blk) ∨ w.heap.size ≤ (μ' b).blk
  ro : ∀ b cs, h' b = some (.ro cs) → h b = some (.ro cs)
  os : w'.os = w.os
  tape : w'.tape = w.tape
  output : w'.output = w.output

theorem Ext.refl (U : Nat → Prop) (μ : Map) (h : Heap) (w : World) : Ext U μ h w U μ h w :=
  ⟨fun _ h => h, fun _ _ => rfl, Nat.le_refl _, fun _ _ _ => rfl, fun b k hb hw => .inl ⟨b, k, hb, hw, rfl⟩, fun _ _ h => h, rfl, rfl, rfl⟩

theorem Ext.trans {U U' U'' : Nat → Prop} {μ μ' μ'' : Map} {h h' h'' : Heap} {w w' w'' : World} (a : Ext U μ h w U' μ' h' w') (b : Ext U' μ' h' w' U'' μ'' h'' w'') :
    Ext U μ h w U'' μ'' h'' w'' where
  sub x hx := b.sub x (a.sub x hx)
  agree x hx := (b.agree x (a.sub x hx)).trans (a.agree x hx)
  size := Nat.le_trans a.size b.size
  frame B hB hn := by
    rw [b.frame B (Nat.lt_of_lt_of_le hB a.size) ?_, a.frame B hB hn]
    intro x k hx hk he
    rcases a.img x k hx hk with ⟨b0, k0, h0, w0, e0⟩ | hs
    · exact hn b0 k0 h0 w0 (e0.trans he)
    · omega
  img x k hx hk := by
    rcases b.img x k hx hk with ⟨b0, k0, h0, w0, e0⟩ | hs
    · rcases a.img b0 k0 h0 w0 with ⟨b1, k1, h1, w1, e1⟩ | hs
      · exact .inl ⟨b1, k1, h1, w1, e1.trans e0⟩
      · exact .inr (e0 ▸ hs)
    · exact .inr (Nat.le_trans a.size hs)
  ro x cs hx := a.ro x cs (b.ro x cs hx)
  os := b.os.trans a.os
  tape := b.tape.trans a.tape
  output := b.output.trans a.output

theorem Rel.lt {G : Nat} {U : Nat → Prop} {μ : Map} {h : Heap} {w : World} (r : Rel G U μ h w) {b : Nat} {k : Blk} (hb : h b = some k) : (μ b).blk < w.heap.size := by
  have := r.at_ b k hb
  rcases Nat.lt_or_ge (μ b).blk w.heap.size with h1 | h1
  · exact h1
  · cases k with
    | cells e cs => obtain ⟨c, ty, hc, _⟩ := this; rw [Array.getElem?_eq_none h1] at hc; cases hc
    | ro cs => obtain ⟨c, ty, fr, hc, _⟩ := this; rw [Array.getElem?_eq_none h1] at hc; cases hc
    | mapo kv => obtain ⟨es, cl, hc, _⟩ := this; rw [Array.getElem?_eq_none h1] at hc; cases hc

/-- A smaller heap. -/
theorem Rel.restrict {G : Nat} {U : Nat → Prop} {μ : Map} {h h' : Heap} {w : World} (r : Rel G U μ h w) (hs : ∀ b k, h' b = some k → h b = some k) : Rel G U μ h' w :=
  ⟨r.glob, fun b k hb => r.used b k (hs b k hb), fun b k hb => r.at_ b k (hs b k hb), fun b k hb => r.ok b k (hs b k hb),
   fun b b' k k' hb hb' hw => r.inj b b' k k' (hs b k hb) (hs b' k' hb') hw⟩

end Go.Eng
/- Engine, part 2: the resolved code, the abstract step of one operation, and the resolving of the model's code. -/
namespace Go.Eng
open Go

inductive RX where
  | t (i : Nat)
  | c (v : AV)

def undefA : AV := .tup []

def ev (a : List AV) : RX → AV
  | .t i => a.getD i undefA
  | .c v => v

/-- The cells that a value takes in memory. -/
def cellsA : AV → List AV
  | .agg cs => cs
  | .raw v => v.cells.toList.map .raw
  | v => [v]

/-- May the value stand in one cell? -/
def one : AV → Bool
  | .agg _ | .tup _ => false
  | .raw v => v.oneCell'
  | _ => true

inductive Eff where
  | no
  | wr (b off : Nat) (vs : List AV)
  | al (k : Blk)
  | ap (kill : Nat) (k : Blk)
  | setm (b : Nat) (kv : List (AV × AV))

def splice (cs : List AV) (off : Nat) (vs : List AV) : List AV := cs.take off ++ (vs ++ cs.drop (off + vs.length))

def applyEff (n : Nat) (h : Heap) : Eff → Heap
  | .no => h
  | .wr b off vs => match h b with
    | some (.cells e cs) => upd h b (some (.cells e (splice cs off vs)))
    | _ => h
  | .al k => upd h n (some k)
  | .ap kill k => upd (upd h kill none) n (some k)
  | .setm b kv => upd h b (some (.mapo kv))

inductive ROp where
  | mv (x : RX)
  | pick (c x y : RX)
  | new (e : Nat) (z : List AV)
  | box (x : RX)
  | build (z : List AV) (ps : List (Nat × Nat × RX))
  | bsl (e : Nat) (z : List AV) (len : Nat) (ps : List (Nat × Nat × RX))
  | ld (agg : Bool) (k : Nat) (x : RX)
  | st (k : Nat) (x v : RX)
  | nck (x : RX)
  | bin (op : BinOp) (x y : RX)
  | beq (neg : Bool) (x y : RX)
  | sbin (op : BinOp) (x y : RX)
  | peq (neg : Bool) (x y : RX)
  | ieq (neg : Bool) (x y : RX)
  | aeq (neg : Bool) (k : Nat) (x y : RX)
  | seq (neg : Bool) (x y : RX)
  | un (op : UnOp) (x : RX)
  | conv (k : IntKind) (x : RX)
  | mki (t : Nat) (x : RX)
  | mkf (f : Fn) (first captured : List RX)
  | mks (e bytes : Nat) (z : List AV) (l c : RX)
  | slc (e : Nat) (x : RX) (lo hi mx : Option RX)
  | slcS (x : RX) (lo hi : Option RX)
  | fa (off : Nat) (x : RX)
  | fld (agg : Bool) (off k : Nat) (x : RX)
  | iaA (len e : Nat) (x i : RX)
  | iaS (e : Nat) (x i : RX)
  | ixA (len e : Nat) (agg : Bool) (x i : RX)
  | ixS (x i : RX)
  | taC (comma : Bool) (x : RX) (t : Nat) (z : AV)
  | taI (comma : Bool) (x : RX) (want : Array (String × TypeId)) (z : AV)
  | ext (x : RX) (i : Nat)
  | len (x : RX)
  | lenStr (x : RX)
  | cap (x : RX)
  | app (e bytes : Nat) (s x : RX)
  | clr (e : Nat) (z : List AV) (x : RX)
  | mx (xs : List RX)
  | mn (xs : List RX)
  | call (f : Nat) (args : List RX)
  | callv (g : RX) (args : List RX)
  | inv (r : RX) (m : String) (args : List RX)
  | bad

def binI (op : BinOp) (k : IntKind) (x y : Int) : Option AV :=
  match op with
  | .add => some (.int k (k.wrap (x + y)))
  | .sub => some (.int k (k.wrap (x - y)))
  | .mul => some (.int k (k.wrap (x * y)))
  | .quo => if y = 0 then none else some (.int k (k.wrap (x.tdiv y)))
  | .rem => if y = 0 then none else some (.int k (x.tmod y))
  | .and => some (.int k (k.wrap (BitVec.ofInt k.bits x &&& BitVec.ofInt k.bits y).toNat))
  | .or => some (.int k (k.wrap (BitVec.ofInt k.bits x ||| BitVec.ofInt k.bits y).toNat))
  | .xor => some (.int k (k.wrap (BitVec.ofInt k.bits x ^^^ BitVec.ofInt k.bits y).toNat))
  | .andNot => some (.int k (k.wrap (BitVec.ofInt k.bits x &&& ~~~BitVec.ofInt k.bits y).toNat))
  | .eql => some (.bool (x == y))
  | .neq => some (.bool (x != y))
  | .lss => some (.bool (x < y))
  | .leq => some (.bool (x ≤ y))
  | .gtr => some (.bool (x > y))
  | .geq => some (.bool (x ≥ y))
  | _ => none

def shiftI (op : BinOp) (k : IntKind) (x y : Int) : Option AV :=
  if y < 0 then none else
  match op with
  | .shl => some (.int k (k.wrap (x * 2 ^ (min y.toNat k.bits))))
  | .shr => some (.int k (x.fdiv (2 ^ (min y.toNat k.bits))))
  | _ => none

def binA (op : BinOp) : AV → AV → Option AV
  | .int k x, .int k' y => match op with
    | .shl | .shr => shiftI op k x y
    | _ => if k = k' then binI op k x y else none
  | _, _ => none

def sbinA (op : BinOp) : AV → AV → Option AV
  | .str x, .str y => match op with
    | .add => if ((x.size + y.size : Nat) : Int) > IntKind.i64.max then none else some (.str (x ++ y))
    | .eql => some (.bool (x.toList == y.toList))
    | .neq => some (.bool !(x.toList == y.toList))
    | _ => none
  | _, _ => none

/-- Cells of integers, one with another. -/
def eqCells : List AV → List AV → Option Bool
  | [], [] => some true
  | .int k x :: l, .int k' y :: m => if k = k' then (eqCells l m).map fun r => x == y && r else none
  | _, _ => none

def partA (agg : Bool) (cs : List AV) (off k : Nat) : Option AV :=
  if agg then (let c := (cs.drop off).take k; if c.length = k then some (.agg c) else none) else cs[off]?

def fillA (cells : List AV) : List (Nat × Nat × AV) → Option (List AV)
  | [] => some cells
  | (off, size, v) :: rest =>
    if (cellsA v).length = size ∧ off + size ≤ cells.length then fillA (splice cells off (cellsA v)) rest else none

def repl (z : List AV) : Nat → List AV
  | 0 => []
  | n + 1 => z ++ repl z n

def sliceCells (e : Nat) (h : Heap) : AV → Option (List AV × List Nat)
  | .nilsl => some ([], [])
  | .sl b off lo len _ =>
    if len = 0 then some ([], []) else
    if lo ≠ 0 then none else
    match rdOf (h b) with
    | some cs => let c := (cs.drop off).take (len * e); if c.length = len * e then some (c, [b]) else none
    | none => none
  | _ => none

def lenA : AV → Option Nat
  | .nilsl => some 0
  | .sl _ _ _ len _ => some len
  | _ => none

def intA : AV → Option Int
  | .int _ n => some n
  | _ => none

def appA (e bytes n : Nat) (h : Heap) (s x : AV) : Option (AV × List Nat × Eff) := do
  if e = 0 then none else
  let k ← lenA x
  let (src, rs) ← sliceCells e h x
  match s with
  | .nilsl => if k = 0 then some (.nilsl, rs, .no) else if k * bytes ≤ 2 ^ 40 ∧ k ≤ 2 ^ 40 then some (.sl n 0 0 k none, rs, .al (.cells e src)) else none
  | .sl b off lo len (some c) =>
    if lo ≠ 0 then none else
    if k = 0 ∧ len ≤ c then some (s, rs, .no) else
    match h b with
    | some (.cells e' cs) =>
      if e' ≠ e then none else
      if len + k ≤ c then
        if off + (len + k) * e ≤ cs.length ∧ src.all one then some (.sl b off 0 (len + k) (some c), b :: rs, .wr b (off + len * e) src) else none
      else
        let old := (cs.drop off).take (len * e)
        if old.length = len * e ∧ (len + k) * bytes ≤ 2 ^ 40 ∧ len + k ≤ 2 ^ 40 then some (.sl n 0 0 (len + k) none, b :: rs, .al (.cells e (old ++ src))) else none
    | _ => none
  | .sl b off lo len none =>
    if k = 0 then some (s, rs, .no) else
    match h b with
    | some (.cells e' cs) =>
      if e' = e ∧ off + (lo + len) * e = cs.length ∧ (lo = 0 ∨ len = 0) ∧ (len + k) * bytes ≤ 2 ^ 40 ∧ len + k ≤ 2 ^ 40 ∧ src.all one then
        some (.sl n 0 0 (len + k) none, b :: rs, .ap b (.cells e (cs.drop (off + lo * e) ++ src)))
      else none
    | _ => none
  | _ => none

def boundA (x : Option AV) (dflt most : Nat) : Option Nat :=
  match x with
  | none => some dflt
  | some (.int _ i) => if 0 ≤ i ∧ i ≤ (most : Int) then some i.toNat else none
  | _ => none

def sliceA (e : Nat) (x : AV) (lo hi mx : Option AV) : Option AV :=
  if mx.isSome && hi.isNone then none else
  match x with
  | .nilsl => do
    let m ← boundA mx 0 0
    let h ← boundA hi 0 m
    let _ ← boundA lo 0 h
    some .nilsl
  | .sl b off p len (some c) =>
    if p ≠ 0 then none else do
    let m ← boundA mx c c
    let h ← boundA hi len m
    let l ← boundA lo 0 h
    some (.sl b (if m = l then off else off + l * e) 0 (h - l) (some (m - l)))
  | .sl b off p len none =>
    if mx.isSome then
      if p ≠ 0 then none else do
      let m ← boundA mx 0 len
      let h ← boundA hi 0 m
      let l ← boundA lo 0 h
      some (.sl b (if m = l then off else off + l * e) 0 (h - l) (some (m - l)))
    else do
      let h ← boundA hi len len
      let l ← boundA lo 0 h
      if p ≠ 0 then (if len = 0 then some x else none) else
      if l < len then some (.sl b (off + l * e) 0 (h - l) none) else some (.sl b off l 0 none)
  | _ => none

/-- A slice whose capacity is open must be sliced by its block's own size of an element. -/
def eszOk (e : Nat) (h : Heap) : AV → Option (List Nat)
  | .sl b _ _ _ none => match h b with
    | some (.cells e' _) => if e' = e then some [b] else none
    | _ => none
  | _ => some []

def maxA : AV → List AV → Option AV
  | x, [] => some x
  | .int k x, .int _ y :: l => maxA (.int k (if y > x then y else x)) l
  | _, _ => none
def minA : AV → List AV → Option AV
  | x, [] => some x
  | .int k x, .int _ y :: l => minA (.int k (if y < x then y else x)) l
  | _, _ => none

/-- The abstract step of an operation that calls nothing: its value, the names that it reads, what it does to the heap (a new block's name is n). -/
def aop (P : Program) (a : List AV) (h : Heap) (n : Nat) : ROp → Option (AV × List Nat × Eff)
  | .mv x => some (ev a x, [], .no)
  | .pick c x y => match ev a c with
    | .bool t => some (if t then ev a x else ev a y, [], .no)
    | _ => none
  | .new e z => some (.ptr n 0, [], .al (.cells e z))
  | .box x => some (.ptr n 0, [], .al (.cells 0 (cellsA (ev a x))))
  | .build z ps => (fillA z (ps.map fun p => (p.1, p.2.1, ev a p.2.2))).map fun cs => (.agg cs, [], .no)
  | .bsl e z len ps => (fillA (repl z len) (ps.map fun p => (p.1, p.2.1, ev a p.2.2))).map fun cs => (.sl n 0 0 len (some len), [], .al (.cells e cs))
  | .ld agg k x => match ev a x with
    | .ptr b off => match rdOf (h b) with
      | some cs => (partA agg cs off k).map fun v => (v, [b], .no)
      | none => none
    | .raw (.pointer (some ⟨g, 0, none⟩)) => if g < P.globals.size then match rdOf (h g) with
      | some cs => (partA agg cs 0 k).map fun v => (v, [g], .no)
      | none => none
      else none
    | _ => none
  | .st k x v => match ev a x with
    | .ptr b off => match h b with
      | some (.cells _ cs) =>
        if (cellsA (ev a v)).length = k ∧ off + k ≤ cs.length ∧ (cellsA (ev a v)).all one then some (undefA, [b], .wr b off (cellsA (ev a v))) else none
      | _ => none
    | _ => none
  | .nck x => match ev a x with
    | .ptr b off => some (.ptr b off, [], .no)
    | .iface t v => some (.iface t v, [], .no)
    | .fn (.func f) p c => some (.fn (.func f) p c, [], .no)
    | _ => none
  | .bin op x y => (binA op (ev a x) (ev a y)).map fun v => (v, [], .no)
  | .beq neg x y => match ev a x, ev a y with
    | .bool p, .bool q => some (.bool ((p == q) != neg), [], .no)
    | _, _ => none
  | .sbin op x y => (sbinA op (ev a x) (ev a y)).map fun v => (v, [], .no)
  | .peq neg x y => match ev a x, ev a y with
    | .nilp, .nilp => some (.bool (true != neg), [], .no)
    | .nilp, .ptr _ _ => some (.bool (false != neg), [], .no)
    | .ptr _ _, .nilp => some (.bool (false != neg), [], .no)
    | .ptr b o, .ptr b' o' => if b = b' then some (.bool ((o == o') != neg), [], .no) else
      match h b, h b' with
      | some (.cells _ _), some (.cells _ _) => some (.bool (false != neg), [b, b'], .no)
      | _, _ => none
    | _, _ => none
  | .ieq neg x y => match ev a x, ev a y with
    | .nilif, .nilif => match x, y with
      | .c _, _ => some (.bool (true != neg), [], .no)
      | _, .c _ => some (.bool (true != neg), [], .no)
      | _, _ => none
    | .nilif, .iface _ _ => some (.bool (false != neg), [], .no)
    | .iface _ _, .nilif => some (.bool (false != neg), [], .no)
    | .iface t (.ptr b o), .iface t' (.ptr b' o') => if t ≠ t' then some (.bool (false != neg), [], .no) else
      match P.info? t, P.underlying t with
      | some i, some (.pointer e) => match P.info? e with
        | some j => if i.comparable = true ∧ j.size ≠ 0 then
            (if b = b' then some (.bool ((o == o') != neg), [], .no) else
              match h b, h b' with
              | some (.cells _ _), some (.cells _ _) => some (.bool (false != neg), [b, b'], .no)
              | _, _ => none)
          else none
        | none => none
      | _, _ => none
    | _, _ => none
  | .aeq neg k x y => match ev a x, ev a y with
    | .agg p, .agg q => if p.length = k then (eqCells p q).map fun r => (.bool (r != neg), [], .no) else none
    | _, _ => none
  | .seq neg x y => match ev a x, ev a y with
    | .nilsl, .nilsl => some (.bool (true != neg), [], .no)
    | .nilsl, .sl .. => some (.bool (false != neg), [], .no)
    | .sl .., .nilsl => some (.bool (false != neg), [], .no)
    | _, _ => none
  | .un op x => match op, ev a x with
    | .not, .bool b => some (.bool !b, [], .no)
    | .neg, .int k m => some (.int k (k.wrap (0 - m)), [], .no)
    | _, _ => none
  | .conv k x => match ev a x with
    | .int _ m => some (.int k (k.wrap m), [], .no)
    | _ => none
  | .mki t x => some (.iface t (ev a x), [], .no)
  | .mkf f p c => some (.fn f (p.map (ev a)) (c.map (ev a)), [], .no)
  | .mks e bytes z l c => match ev a l, ev a c with
    | .int _ l, .int _ c => if 0 ≤ l ∧ l ≤ c ∧ c * bytes ≤ 2 ^ 40 ∧ c ≤ 2 ^ 40 ∧ z.length = e then some (.sl n 0 0 l.toNat (some c.toNat), [], .al (.cells e (repl z c.toNat))) else none
    | _, _ => none
  | .slc e x lo hi mx => (eszOk e h (ev a x)).bind fun rd => (sliceA e (ev a x) (lo.map (ev a)) (hi.map (ev a)) (mx.map (ev a))).map fun v => (v, rd, .no)
  | .slcS x lo hi => match ev a x with
    | .str s => (boundA (hi.map (ev a)) s.size s.size).bind fun h => (boundA (lo.map (ev a)) 0 h).map fun l => (.str (s.extract l h), [], .no)
    | _ => none
  | .fa off x => match ev a x with
    | .ptr b o => some (.ptr b (o + off), [], .no)
    | _ => none
  | .fld agg off k x => match ev a x with
    | .agg cs => (partA agg cs off k).map fun v => (v, [], .no)
    | _ => none
  | .iaA len e x i => match ev a x, ev a i with
    | .ptr b o, .int _ j => if 0 ≤ j ∧ j < (len : Int) then some (.ptr b (o + j.toNat * e), [], .no) else none
    | _, _ => none
  | .iaS e x i => match ev a x, ev a i with
    | .sl b o p len _, .int _ j => if p = 0 ∧ 0 ≤ j ∧ j < (len : Int) then some (.ptr b (o + j.toNat * e), [], .no) else none
    | _, _ => none
  | .ixA len e agg x i => match ev a x, ev a i with
    | .agg cs, .int _ j => if 0 ≤ j ∧ j < (len : Int) then (partA agg cs (j.toNat * e) e).map fun v => (v, [], .no) else none
    | _, _ => none
  | .ixS x i => match ev a x, ev a i with
    | .str s, .int _ j => if 0 ≤ j then (s[j.toNat]?).map fun (c : UInt8) => (.int .u8 c.toNat, [], .no) else none
    | _, _ => none
  | .taC comma x t z => match ev a x with
    | .iface t' v => if t' = t then some (if comma then .tup [v, .bool true] else v, [], .no) else if comma then some (.tup [z, .bool false], [], .no) else none
    | .nilif => if comma then some (.tup [z, .bool false], [], .no) else none
    | _ => none
  | .taI comma x want z => match ev a x with
    | .iface t' v => (P.info? t').bind fun i => match Instr.missingMethod want i.methods with
      | none => some (if comma then .tup [.iface t' v, .bool true] else .iface t' v, [], .no)
      | some _ => if comma then some (.tup [z, .bool false], [], .no) else none
    | .nilif => if comma then some (.tup [z, .bool false], [], .no) else none
    | _ => none
  | .ext x i => match ev a x with
    | .tup vs => (vs[i]?).map fun v => (v, [], .no)
    | _ => none
  | .len x => (lenA (ev a x)).map fun (m : Nat) => (.int .i64 (m : Int), [], .no)
  | .lenStr x => match ev a x with
    | .str s => some (.int .i64 s.size, [], .no)
    | _ => none
  | .cap x => match ev a x with
    | .nilsl => some (.int .i64 0, [], .no)
    | .sl _ _ _ _ (some c) => some (.int .i64 c, [], .no)
    | _ => none
  | .app e bytes s x => appA e bytes n h (ev a s) (ev a x)
  | .clr e z x => match ev a x with
    | .nilsl => some (undefA, [], .no)
    | .sl b off p len _ => if len = 0 then some (undefA, [], .no) else if p ≠ 0 then none else
      match h b with
      | some (.cells _ cs) => if off + len * e ≤ cs.length ∧ z.length = e ∧ z.all one then some (undefA, [b], .wr b off (repl z len)) else none
      | _ => none
    | _ => none
  | .mx xs => match xs.map (ev a) with
    | v :: l => (maxA v l).map fun v => (v, [], .no)
    | [] => none
  | .mn xs => match xs.map (ev a) with
    | v :: l => (minA v l).map fun v => (v, [], .no)
    | [] => none
  | .call .. | .callv .. | .inv .. | .bad => none

structure ROper where
  dst : Option Nat
  op : ROp
  guard : Option (Nat × Bool)
  /-- in a region that draws its order: the earlier operations that may also come later -/
  loose : List Nat

inductive RCode where
  | skip
  | region (ops : List ROper) (draw : Bool)
  | seq (x y : RCode)
  | cond (c : RX) (x y : RCode)
  | block (id : Nat) (x : RCode)
  | loop (x : RCode)
  | exit (id : Nat)
  | ret
  | bad

/-! ### Resolving -/

def ofCell : Value → AV
  | .bool b => .bool b
  | .int k n => .int k n
  | .string s => .str s
  | .pointer none => .nilp
  | .slice none 0 0 => .nilsl
  | .nilFunc => .nilfn
  | .nilIface => .nilif
  | v => .raw v

def ofValue : Value → AV
  | .agg cs => .agg (cs.toList.map ofCell)
  | .tuple cs => .tup (cs.toList.map ofCell)
  | .iface t v => .iface t (ofCell v)
  | v => ofCell v

def cx : Operand → RX
  | .tmp t => .t t
  | .const v => .c (ofValue v)
  | .global g => .c (.raw (.pointer (some ⟨g, 0, none⟩)))
  | .func f => .c (.fn (.func f) [] [])

def zeroCellsOf (P : Program) (t : TypeId) : Option (List AV) := ((P.info? t).bind (·.zero)).map fun z => z.cells.toList.map ofCell

def aggOf (P : Program) (t : TypeId) : Option Bool := (P.underlying t).map fun | .struct _ | .array _ _ => true | _ => false

/-- A type of integers alone, compared cell by cell. -/
def flatT (P : Program) : Nat → TypeId → Bool
  | 0, _ => false
  | d + 1, t => match P.underlying t with
    | some (.int _) => P.cellsOf t == 1
    | some (.struct fs) => !P.stoodInHeld t && fs.toList.all (fun f => f.name != "_" && flatT P d f.type) && go P fs.toList 0 == some (P.cellsOf t)
    | some (.array n e) => flatT P d e && P.cellsOf t == n * P.cellsOf e
    | _ => false
where
  /-- the fields lie side by side -/
  go (P : Program) : List Field → Nat → Option Nat
    | [], off => some off
    | f :: fs, off => if f.offset = off then go P fs (off + P.cellsOf f.type) else none

def negOf : BinOp → Option Bool
  | .eql => some false
  | .neq => some true
  | _ => none

def cop (P : Program) (type : TypeId) : Op → Option ROp
  | .move x | .assign x => some (.mv (cx x))
  | .pick c a b => some (.pick (cx c) (cx a) (cx b))
  | .alloc e => (zeroCellsOf P e).map (.new 0)
  | .box _ x => some (.box (cx x))
  | .build t ps => do
    let z ← zeroCellsOf P t
    match P.underlying t with
    | some (.struct fs) => do
      let qs ← ps.toList.mapM fun p => do
        let f ← fs[p.1]?
        let i ← P.info? f.type
        some (f.offset, i.size, cx p.2)
      if fs.toList.all fun f => (P.info? f.type).isSome then some (.build z qs) else none
    | some (.array _ e) => do
      let i ← P.info? e
      some (.build z (ps.toList.map fun p => (p.1 * i.size, i.size, cx p.2)))
    | _ => none
  | .buildSlice t len ps => match P.underlying t with
    | some (.slice e) => do
      let i ← P.info? e
      let z ← zeroCellsOf P e
      if i.size ≠ 0 ∧ z.length = i.size ∧ len * i.size ≤ 2 ^ 20 then some (.bsl i.size z len (ps.toList.map fun p => (p.1 * i.size, i.size, cx p.2))) else none
    | _ => none
  | .load t x => do
    let g ← aggOf P t
    let i ← P.info? t
    some (.ld g i.size (cx x))
  | .store t x v => do
    let i ← P.info? t
    some (.st i.size (cx x) (cx v))
  | .nilCheck x => some (.nck (cx x))
  | .binOp op t x y _ => match P.underlying t with
    | some (.int _) => some (.bin op (cx x) (cx y))
    | some .bool => (negOf op).map fun g => .beq g (cx x) (cx y)
    | some .string => some (.sbin op (cx x) (cx y))
    | some (.pointer e) => do
      let g ← negOf op
      let i ← P.info? e
      if i.size ≠ 0 then some (.peq g (cx x) (cx y)) else none
    | some (.interface _) => (negOf op).map fun g => .ieq g (cx x) (cx y)
    | some (.struct _) | some (.array _ _) => do
      let g ← negOf op
      if !P.eqGuardType P.depth t && flatT P 20 t then some (.aeq g (P.cellsOf t) (cx x) (cx y)) else none
    | some (.slice _) => (negOf op).map fun g => .seq g (cx x) (cx y)
    | _ => none
  | .unOp op _ x => some (.un op (cx x))
  | .convert s d x => match P.underlying d, P.underlying s with
    | some (.int k), some _ => some (.conv k (cx x))
    | _, _ => none
  | .makeInterface t x => match P.underlying t with
    | some (.interface _) | none => none
    | _ => some (.mki t (cx x))
  | .makeFunc f p c => some (.mkf f (p.toList.map cx) (c.toList.map cx))
  | .makeSlice t l c => match P.underlying t with
    | some (.slice e) => do
      let i ← P.info? e
      let z ← zeroCellsOf P e
      if i.size ≠ 0 then some (.mks i.size i.bytes z (cx l) (cx c)) else none
    | _ => none
  | .slice t x lo hi mx => match P.underlying t with
    | some (.slice e) => do
      let i ← P.info? e
      if i.size = 0 then none else some (.slc i.size (cx x) (lo.map cx) (hi.map cx) (mx.map cx))
    | some .string => if mx.isNone then some (.slcS (cx x) (lo.map cx) (hi.map cx)) else none
    | _ => none
  | .fieldAddr t x f => match P.underlying t with
    | some (.struct fs) => do
      let f ← fs[f]?
      let i ← P.info? f.type
      if i.size ≠ 0 then some (.fa f.offset (cx x)) else none
    | _ => none
  | .field t x f => match P.underlying t with
    | some (.struct fs) => do
      let f ← fs[f]?
      let g ← aggOf P f.type
      let i ← P.info? f.type
      some (.fld g f.offset i.size (cx x))
    | _ => none
  | .indexAddr t x i => match P.underlying t with
    | some (.array len e) => do
      let j ← P.info? e
      some (.iaA len j.size (cx x) (cx i))
    | some (.slice e) => do
      let j ← P.info? e
      some (.iaS j.size (cx x) (cx i))
    | _ => none
  | .index t x i => match P.underlying t with
    | some (.array len e) => do
      let g ← aggOf P e
      let j ← P.info? e
      some (.ixA len j.size g (cx x) (cx i))
    | some .string => some (.ixS (cx x) (cx i))
    | _ => none
  | .typeAssert x _ t comma => do
    let i ← P.info? t
    let z ← i.zero
    match P.underlying t with
    | some (.interface want) => some (.taI comma (cx x) want (ofValue z))
    | some _ => some (.taC comma (cx x) t (ofValue z))
    | none => none
  | .extract x i => some (.ext (cx x) i)
  | .call c => match c.callee with
    | .value (.func f) => some (.call f (c.args.toList.map cx))
    | .value g => some (.callv (cx g) (c.args.toList.map cx))
    | .invoke r m => some (.inv (cx r) m (c.args.toList.map cx))
    | .builtin b => match b, c.argTypes[0]?, c.args.toList with
      | .len, some t, [x] => match P.underlying t with
        | some (.slice _) => some (.len (cx x))
        | some .string => some (.lenStr (cx x))
        | some (.array n _) => some (.mv (.c (.int .i64 n)))
        | _ => none
      | .cap, some t, [x] => match P.underlying t with
        | some (.slice _) => some (.cap (cx x))
        | _ => none
      | .append, some t, [s, x] => match P.underlying t with
        | some (.slice e) => do
          let i ← P.info? e
          let z ← zeroCellsOf P e
          if c.argTypes = #[t, t] ∧ i.size ≠ 0 ∧ z.length = i.size then some (.app i.size i.bytes (cx s) (cx x)) else none
        | _ => none
      | .clear, some t, [x] => match P.underlying t with
        | some (.slice e) => do
          let i ← P.info? e
          let z ← zeroCellsOf P e
          if z.length = i.size ∧ i.size ≠ 0 then some (.clr i.size z (cx x)) else none
        | _ => none
      | .max, some _, xs => some (.mx (xs.map cx))
      | .min, some _, xs => some (.mn (xs.map cx))
      | _, _, _ => none
  | _ => none

def coper (P : Program) (ops : Array Oper) (draw : Bool) (before : Array Nat) (j : Nat) (o : Oper) : ROper :=
  { dst := o.dst,
    op := match o.guard with
      | none => (cop P o.type o.op).getD .bad
      | some (g, _) => if ((ops[g]?).bind (·.dst)).isSome then (cop P o.type o.op).getD .bad else .bad,
    guard := match o.guard with
      | none => none
      | some (g, want) => some ((((ops[g]?).bind (·.dst)).getD 0), want),
    loose := if draw then (List.range j).filter fun i => !(before.getD j 0).testBit i else [] }

def cregion (P : Program) (ops : Array Oper) (draw : Bool) : List ROper :=
  let b := if draw then Region.before ops else #[]
  ops.toList.zipIdx.map fun p => coper P ops draw b p.2 p.1

def ccode (P : Program) : Code → RCode
  | .skip => .skip
  | .region _ ops draw => if draw && !Region.temporariesOk ops (Region.before ops) then .bad else .region (cregion P ops draw) draw
  | .seq x y => .seq (ccode P x) (ccode P y)
  | .cond c x y => .cond (cx c) (ccode P x) (ccode P y)
  | .block id x => .block id (ccode P x)
  | .loop x => .loop (ccode P x)
  | .exit id => .exit id
  | .ret => .ret
  | _ => .bad

end Go.Eng
