/- Engine, part 20: the evaluator. Recursors in place of equations: the kernel goes faster so. -/
import Derived.Test.YthbbncgbbkcdgaaGreatDoorE19
namespace Go.Eng
open Go

/-! ### Trees -/

inductive Tr (α : Type) where
  | nil
  | node (v : Option α) (l r : Tr α)

namespace Tr
variable {α : Type}

noncomputable def get (t : Tr α) : Nat → Option α :=
  Tr.rec (motive := fun _ => Nat → Option α) (fun _ => none)
    (fun v _ _ gl gr x => Nat.rec (motive := fun _ => Option α) v (fun y _ => Bool.rec (motive := fun _ => Option α) (gr (Nat.div y 2)) (gl (Nat.div y 2)) (Nat.beq (Nat.mod y 2) 0)) x) t

noncomputable def set (d : Nat) : Tr α → Nat → Option α → Tr α :=
  Nat.rec (motive := fun _ => Tr α → Nat → Option α → Tr α) (fun t _ _ => t)
    (fun _ ih t x u => Tr.rec (motive := fun _ => Tr α)
      (Nat.rec (motive := fun _ => Tr α) (.node u .nil .nil) (fun y _ => Bool.rec (motive := fun _ => Tr α) (.node none .nil (ih .nil (Nat.div y 2) u)) (.node none (ih .nil (Nat.div y 2) u) .nil) (Nat.beq (Nat.mod y 2) 0)) x)
      (fun v l r _ _ => Nat.rec (motive := fun _ => Tr α) (.node u l r) (fun y _ => Bool.rec (motive := fun _ => Tr α) (.node v l (ih r (Nat.div y 2) u)) (.node v (ih l (Nat.div y 2) u) r) (Nat.beq (Nat.mod y 2) 0)) x) t) d

theorem get_nil (x : Nat) : (Tr.nil : Tr α).get x = none := rfl
theorem get_zero (v : Option α) (l r : Tr α) : (Tr.node v l r).get 0 = v := rfl
theorem get_succ (v : Option α) (l r : Tr α) (y : Nat) : (Tr.node v l r).get (y + 1) = if y % 2 = 0 then l.get (y / 2) else r.get (y / 2) := by
  show Bool.rec (motive := fun _ => Option α) (r.get (y / 2)) (l.get (y / 2)) (Nat.beq (y % 2) 0) = _
  cases h : Nat.beq (y % 2) 0 with
  | true => have := Nat.eq_of_beq_eq_true h; simp [this]
  | false => have := Nat.ne_of_beq_eq_false h; simp [this]
theorem set_nil_zero (d : Nat) (u : Option α) : set (d + 1) .nil 0 u = .node u .nil .nil := rfl
theorem set_nil_succ (d : Nat) (y : Nat) (u : Option α) : set (d + 1) .nil (y + 1) u = if y % 2 = 0 then .node none (set d .nil (y / 2) u) .nil else .node none .nil (set d .nil (y / 2) u) := by
  show Bool.rec (motive := fun _ => Tr α) (.node none .nil (set d .nil (y / 2) u)) (.node none (set d .nil (y / 2) u) .nil) (Nat.beq (y % 2) 0) = _
  cases h : Nat.beq (y % 2) 0 with
  | true => have := Nat.eq_of_beq_eq_true h; simp [this]
  | false => have := Nat.ne_of_beq_eq_false h; simp [this]
theorem set_node_zero (d : Nat) (v u : Option α) (l r : Tr α) : set (d + 1) (.node v l r) 0 u = .node u l r := rfl
theorem set_node_succ (d : Nat) (y : Nat) (v u : Option α) (l r : Tr α) : set (d + 1) (.node v l r) (y + 1) u = if y % 2 = 0 then .node v (set d l (y / 2) u) r else .node v l (set d r (y / 2) u) := by
  show Bool.rec (motive := fun _ => Tr α) (.node v l (set d r (y / 2) u)) (.node v (set d l (y / 2) u) r) (Nat.beq (y % 2) 0) = _
  cases h : Nat.beq (y % 2) 0 with
  | true => have := Nat.eq_of_beq_eq_true h; simp [this]
  | false => have := Nat.ne_of_beq_eq_false h; simp [this]

theorem get_set : ∀ (d : Nat) (t : Tr α) (x : Nat) (u : Option α) (y : Nat), x + 1 < 2 ^ d → (set d t x u).get y = if y = x then u else t.get y
  | 0, t, x, u, y, h => by simp at h
  | d + 1, t, x, u, y, h => by
    have h2 : 2 ^ (d + 1) = 2 * 2 ^ d := by rw [Nat.pow_succ, Nat.mul_comm]
    cases t with
    | nil =>
      cases x with
      | zero =>
        rw [set_nil_zero]
        cases y with
        | zero => simp [get_zero]
        | succ y => simp [get_succ, get_nil]
      | succ x =>
        have hx : x / 2 + 1 < 2 ^ d := by omega
        have ih := fun y => get_set d .nil (x / 2) u y hx
        rw [set_nil_succ]
        cases y with
        | zero => split <;> simp [get_zero, get_nil]
        | succ y =>
          by_cases h1 : x % 2 = 0 <;> by_cases h3 : y % 2 = 0 <;> simp only [h1, h3, if_true, if_false, get_succ, ih, get_nil]
          · by_cases e : y = x
            · subst e; simp
            · have : y / 2 ≠ x / 2 := by omega
              simp [e, this]
          · have : y ≠ x := by omega
            simp [this]
          · have : y ≠ x := by omega
            simp [this]
          · by_cases e : y = x
            · subst e; simp
            · have : y / 2 ≠ x / 2 := by omega
              simp [e, this]
    | node v l r =>
      cases x with
      | zero =>
        rw [set_node_zero]
        cases y with
        | zero => simp [get_zero]
        | succ y => simp [get_succ]
      | succ x =>
        have hx : x / 2 + 1 < 2 ^ d := by omega
        have ihl := fun y => get_set d l (x / 2) u y hx
        have ihr := fun y => get_set d r (x / 2) u y hx
        rw [set_node_succ]
        cases y with
        | zero => split <;> simp [get_zero]
        | succ y =>
          by_cases h1 : x % 2 = 0 <;> by_cases h3 : y % 2 = 0 <;> simp only [h1, h3, if_true, if_false, get_succ, ihl, ihr]
          · by_cases e : y = x
            · subst e; simp
            · have : y / 2 ≠ x / 2 := by omega
              simp [e, this]
          · have : y ≠ x := by omega
            simp [this]
          · have : y ≠ x := by omega
            simp [this]
          · by_cases e : y = x
            · subst e; simp
            · have : y / 2 ≠ x / 2 := by omega
              simp [e, this]

end Tr

/-! ### The machine -/

/-- The heap; the next name; the names read, written (bits); operations so far, while there are marks; marks: at which operation its value is told; what is to be shown of them. -/
structure M where
  h : Tr Blk
  n : Nat
  rd : Nat
  wr : Nat
  t : Nat
  ms : List (Nat × AV)
  ob : List (AV × AV)

abbrev Tm := Tr AV
abbrev CallF := Nat → List AV → M → Option (AV × M)

noncomputable def tget (t : Tm) (i : Nat) : AV := Option.rec (motive := fun _ => AV) undefA (fun v => v) (t.get i)

noncomputable def evT (t : Tm) (x : RX) : AV := RX.rec (motive := fun _ => AV) (fun i => tget t i) (fun v => v) x

/-- As many temporaries as the list has. -/
noncomputable def lst (t : Tm) (len : Nat) : List AV := (List.range len).map fun i => (t.get i).getD undefA

def bits : List Nat → Nat
  | [] => 0
  | x :: l => Nat.lor (Nat.shiftLeft 1 x) (bits l)

/-- Numbers are worked out where they stand. -/
def forced {α : Type} (m : M) (r : Option α) : Option α :=
  match Nat.ble m.n 30000, Nat.ble 0 m.rd, Nat.ble 0 m.wr with
  | true, true, true => r
  | _, _, _ => none

noncomputable def effT (m : M) (rd : List Nat) : Eff → Option M
  | .no => match rd with
    | [] => some m
    | x :: l => let m' : M := ⟨m.h, m.n, Nat.lor m.rd (bits (x :: l)), m.wr, m.t, m.ms, m.ob⟩
      forced m' (some m')
  | .wr b off vs => match m.h.get b with
    | some (.cells e cs) => match Nat.blt b m.n with
      | true => let m' : M := ⟨Tr.set 16 m.h b (some (.cells e (splice cs off vs))), m.n, Nat.lor m.rd (bits rd), Nat.lor m.wr (Nat.shiftLeft 1 b), m.t, m.ms, m.ob⟩
        forced m' (some m')
      | false => none
    | _ => none
  | .al k => let m' : M := ⟨Tr.set 16 m.h m.n (some k), m.n + 1, Nat.lor m.rd (bits rd), m.wr, m.t, m.ms, m.ob⟩
    forced m' (some m')
  | .ap b k => match Nat.blt b m.n with
    | true => match m.h.get b with
      | some _ => let m' : M := ⟨Tr.set 16 (Tr.set 16 m.h b none) m.n (some k), m.n + 1, Nat.lor m.rd (bits rd), Nat.lor m.wr (Nat.shiftLeft 1 b), m.t, m.ms, m.ob⟩
        forced m' (some m')
      | none => none
    | false => none
  | .setm .. => none

def mark (v : AV) (m : M) : AV × M :=
  match m.ms with
  | [] => (v, m)
  | (t0, u) :: ms => match Nat.beq t0 m.t with
    | true => (u, ⟨m.h, m.n, m.rd, m.wr, m.t + 1, ms, (v, u) :: m.ob⟩)
    | false => (v, ⟨m.h, m.n, m.rd, m.wr, m.t + 1, (t0, u) :: ms, m.ob⟩)

noncomputable def simpleS (P : Program) (t : Tm) (m : M) (ro : ROp) : Option (AV × M) :=
  match aopF P (evT t) m.h.get m.n ro with
  | some (v, rd, eff) => match effT m rd eff with
    | some m' => some (mark v m')
    | none => none
  | none => none

def marked : Option (AV × M) → Option (AV × M)
  | some (v, m) => some (mark v m)
  | none => none

noncomputable def callvS (call : CallF) (args : List AV) (m : M) : AV → Option (AV × M)
  | .fn (.func f) p c => marked (call f (p ++ args ++ c) m)
  | _ => none

noncomputable def invS (P : Program) (call : CallF) (nm : String) (args : List AV) (m : M) : AV → Option (AV × M)
  | .iface t u => match methodA P t nm with
    | some f => marked (call f (u :: args) m)
    | none => none
  | _ => none

noncomputable def opS (P : Program) (call : CallF) (t : Tm) (m : M) (ro : ROp) : Option (AV × M) :=
  match ro with
  | .call f args => marked (call f (args.map (evT t)) m)
  | .callv g args => callvS call (args.map (evT t)) m (evT t g)
  | .inv r nm args => invS P call nm (args.map (evT t)) m (evT t r)
  | ro => simpleS P t m ro

noncomputable def operS (P : Program) (call : CallF) (o : Oper) (t : Tm) (m : M) : Option (AV × M) :=
  Option.rec (motive := fun _ => Option (AV × M)) none (opS P call t m) (cop P o.type o.op)

noncomputable def putT (len : Nat) (t : Tm) (dst : Option Nat) (v : AV) : Tm :=
  Option.rec (motive := fun _ => Tm) t (fun d => Bool.rec (motive := fun _ => Tm) t (Tr.set 9 t d (some v)) (Nat.blt d len)) dst

noncomputable def wantedT (ops : Array Oper) (t : Tm) (o : Oper) : Option Bool :=
  match o.guard with
  | none => some true
  | some (g, want) => match (ops[g]?).bind (·.dst) with
    | some d => match t.get d with
      | some (.bool b) => some (b == want)
      | some (.tup []) => some false
      | _ => none
    | none => none

noncomputable def opsS (P : Program) (call : CallF) (ops : Array Oper) (len : Nat) (l : List Oper) : Tm → M → Option (Tm × M) :=
  List.rec (motive := fun _ => Tm → M → Option (Tm × M)) (fun t m => some (t, m))
    (fun o _ ih t m => match wantedT ops t o with
      | some true => match operS P call o t m with
        | some (v, m') => ih (putT len t o.dst v) m'
        | none => none
      | some false => ih (putT len t o.dst undefA) m
      | none => none) l

/-- In a region that draws its order, what was read and turned by the operations before. -/
structure Had where
  i : Nat
  rd : Nat
  wr : Nat

noncomputable def clash (before : Nat) (rd wr : Nat) (l : List Had) : Bool :=
  List.rec (motive := fun _ => Bool) false (fun x _ ih => match Nat.testBit before x.i with
    | true => ih
    | false => match Nat.beq (Nat.land x.wr rd) 0, Nat.beq (Nat.land wr x.rd) 0 with
      | true, true => ih
      | _, _ => true) l

/-- One operation of a region that draws its order: what it is beside those before. -/
noncomputable def drawn (before : Nat) (j : Nat) (hs : List Had) (n : Nat) (m : M) : Option (List Had) :=
  match Nat.beq m.rd 0, Nat.beq m.wr 0, Nat.beq m.n n with
  | true, true, true => some hs
  | _, _, _ =>
    let new := Nat.sub (Nat.shiftLeft 1 m.n) (Nat.shiftLeft 1 n)
    let rd := Nat.lor (Nat.mod m.rd (Nat.shiftLeft 1 n)) new
    let wr := Nat.lor (Nat.mod m.wr (Nat.shiftLeft 1 n)) new
    match clash before rd wr hs with
    | false => some (⟨j, rd, wr⟩ :: hs)
    | true => none

noncomputable def drawS (P : Program) (call : CallF) (ops : Array Oper) (before : Array Nat) (len : Nat) (l : List Oper) : Nat → List Had → Tm → M → Option (Tm × M) :=
  List.rec (motive := fun _ => Nat → List Had → Tm → M → Option (Tm × M)) (fun _ _ t m => some (t, m))
    (fun o _ ih j hs t m => match wantedT ops t o with
      | some true => match operS P call o t ⟨m.h, m.n, 0, 0, m.t, m.ms, m.ob⟩ with
        | some (v, m') => match drawn (before.getD j 0) j hs m.n m' with
          | some hs' => let m2 : M := ⟨m'.h, m'.n, Nat.lor m.rd m'.rd, Nat.lor m.wr m'.wr, m'.t, m'.ms, m'.ob⟩
            forced m2 (ih (j + 1) hs' (putT len t o.dst v) m2)
          | none => none
        | none => none
      | some false => ih (j + 1) hs (putT len t o.dst undefA) m
      | none => none) l

def loose (ops : Array Oper) (before : Nat) (j : Nat) (oj : Oper) : List Oper → Nat → Bool
  | [], _ => true
  | o :: l, i => match Nat.blt i j with
    | true => (before.testBit i || o.apart ops oj) && loose ops before j oj l (i + 1)
    | false => true

def statL (ops : Array Oper) (before : Array Nat) : List Oper → Nat → Bool
  | [], _ => true
  | o :: l, j => o.after.toList.all (fun e => !(Region.binds .any e) || Nat.blt e.on j) && loose ops (before.getD j 0) j o ops.toList 0 && statL ops before l (j + 1)

def statOk (ops : Array Oper) : Bool := statL ops (Region.before ops) ops.toList 0

abbrev CodeR := Tm → M → Option (Exit × Tm × M)

noncomputable def loopS (f : CodeR) (k : Nat) : CodeR :=
  Nat.rec (motive := fun _ => CodeR) (fun _ _ => none) (fun _ ih t m => match f t m with
    | some (.normal, t', m') => ih t' m'
    | r => r) k

noncomputable def seqS (f g : CodeR) (t : Tm) (m : M) : Option (Exit × Tm × M) :=
  match f t m with
  | some (.normal, t', m') => g t' m'
  | r => r

noncomputable def condS (c : AV) (f g : CodeR) (t : Tm) (m : M) : Option (Exit × Tm × M) :=
  match c with
  | .bool true => f t m
  | .bool false => g t m
  | _ => none

noncomputable def blockS (id : Nat) (f : CodeR) (t : Tm) (m : M) : Option (Exit × Tm × M) :=
  match f t m with
  | some (.exit i, t', m') => match Nat.beq i id with
    | true => some (.normal, t', m')
    | false => some (.exit i, t', m')
  | r => r

noncomputable def regionS (P : Program) (call : CallF) (len : Nat) (ops : Array Oper) (draw : Bool) (t : Tm) (m : M) : Option (Exit × Tm × M) :=
  match draw with
  | false => match opsS P call ops len ops.toList t m with
    | some (t', m') => some (.normal, t', m')
    | none => none
  | true => match statOk ops with
    | true => match drawS P call ops (Region.before ops) len ops.toList 0 [] t m with
      | some (t', m') => some (.normal, t', m')
      | none => none
    | false => none

noncomputable def codeS (P : Program) (call : CallF) (lf len : Nat) (c : Code) : CodeR :=
  Code.rec (motive := fun _ => CodeR)
    (fun t m => some (.normal, t, m))
    (fun _ ops draw => regionS P call len ops draw)
    (fun _ _ f g => seqS f g)
    (fun c _ _ f g t m => condS (evT t (cx c)) f g t m)
    (fun id _ f => blockS id f)
    (fun _ f => loopS f lf)
    (fun _ _ _ _ _ _ _ _ => none)
    (fun id t m => some (.exit id, t, m))
    (fun _ _ _ _ => none)
    (fun _ _ _ => none)
    (fun _ _ _ => none)
    (fun t m => some (.ret, t, m))
    (fun _ _ _ => none) c

noncomputable def resRd (t : Tm) : List ResultVar → Nat
  | [] => 0
  | .tmp _ :: l => resRd t l
  | .cell p _ :: l => match tget t p with
    | .ptr b _ => Nat.lor (Nat.shiftLeft 1 b) (resRd t l)
    | _ => resRd t l

noncomputable def resT (P : Program) (t : Tm) (h : Heap) : ResultVar → Option AV
  | .tmp i => some (tget t i)
  | .cell p ty => match tget t p, aggOf P ty, P.info? ty with
    | .ptr b off, some g, some i => (rdOf (h b)).bind fun cs => partA g cs off i.size
    | _, _, _ => none

noncomputable def resultsT (P : Program) (rs : Array ResultVar) (t : Tm) (h : Heap) : Option AV :=
  match rs.toList with
  | [r] => resT P t h r
  | rs => match rs.mapM (resT P t h) with
    | some vs => some (.tup vs)
    | none => none

noncomputable def fillT (l : List AV) : Nat → Tm → Tm :=
  List.rec (motive := fun _ => Nat → Tm → Tm) (fun _ t => t) (fun v _ ih i t => ih (i + 1) (Tr.set 9 t i (some v))) l

noncomputable def endS (P : Program) (fn : Func) (t : Tm) (m : M) : Option (AV × M) :=
  match resultsT P fn.results t m.h.get with
  | some v => let m' : M := ⟨m.h, m.n, Nat.lor m.rd (resRd t fn.results.toList), m.wr, m.t, m.ms, m.ob⟩
    forced m' (some (v, m'))
  | none => none

noncomputable def bodyS (P : Program) (call : CallF) (lf : Nat) (fn : Func) (c : Code) (args : List AV) (m : M) : Option (AV × M) :=
  match Nat.ble fn.ntmps 500, Nat.ble args.length fn.ntmps with
  | true, true => match codeS P call lf fn.ntmps c (fillT args 0 .nil) m with
    | some (.normal, t, m') => endS P fn t m'
    | some (.ret, t, m') => endS P fn t m'
    | _ => none
  | _, _ => none

noncomputable def callS (P : Program) (X : CallF) (lf : Nat) (d : Nat) : CallF :=
  Nat.rec (motive := fun _ => CallF) (fun _ _ _ => none) (fun _ ih f args m =>
    match X f args m with
    | some r => some r
    | none => match P.funcs[f]? with
      | none => none
      | some fn => match fn.body with
        | none => none
        | some c => bodyS P ih lf fn c args m) d

end Go.Eng
