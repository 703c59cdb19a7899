/- Engine, part 29: what is to be shown of code, in the abstract, with whatever comes behind it. -/
import Derived.Test.YthbbncgbbkcdgaaGreatDoorT7
set_option linter.unusedSimpArgs false
set_option linter.unusedVariables false
set_option linter.unnecessarySimpa false
namespace Go.Eng
open Go

abbrev KT := AV → Heap → Nat → Prop
abbrev KC := Exit → List AV → Heap → Nat → Prop

def cst (a : List AV) (x : RX) : RX := .c (ev a x)

/-- An operation with its operands as they stand. -/
def sbO (a : List AV) : ROp → ROp
  | .mv x => .mv (cst a x)
  | .pick c x y => .pick (cst a c) (cst a x) (cst a y)
  | .new e z => .new e z
  | .box x => .box (cst a x)
  | .build z ps => .build z (ps.map fun p => (p.1, p.2.1, cst a p.2.2))
  | .bsl e z len ps => .bsl e z len (ps.map fun p => (p.1, p.2.1, cst a p.2.2))
  | .ld agg k x => .ld agg k (cst a x)
  | .st k x v => .st k (cst a x) (cst a v)
  | .nck x => .nck (cst a x)
  | .bin op x y => .bin op (cst a x) (cst a y)
  | .beq neg x y => .beq neg (cst a x) (cst a y)
  | .sbin op x y => .sbin op (cst a x) (cst a y)
  | .peq neg x y => .peq neg (cst a x) (cst a y)
  | .ieq neg x y => match litA x y with
    | true => .ieq neg (cst a x) (cst a y)
    | false => .bad
  | .aeq neg k x y => .aeq neg k (cst a x) (cst a y)
  | .seq neg x y => .seq neg (cst a x) (cst a y)
  | .un op x => .un op (cst a x)
  | .conv k x => .conv k (cst a x)
  | .mki t x => .mki t (cst a x)
  | .mkf f p c => .mkf f (p.map (cst a)) (c.map (cst a))
  | .mks e b z l c => .mks e b z (cst a l) (cst a c)
  | .slc e x lo hi mx => .slc e (cst a x) (lo.map (cst a)) (hi.map (cst a)) (mx.map (cst a))
  | .slcS x lo hi => .slcS (cst a x) (lo.map (cst a)) (hi.map (cst a))
  | .fa off x => .fa off (cst a x)
  | .fld agg off k x => .fld agg off k (cst a x)
  | .iaA len e x i => .iaA len e (cst a x) (cst a i)
  | .iaS e x i => .iaS e (cst a x) (cst a i)
  | .ixA len e agg x i => .ixA len e agg (cst a x) (cst a i)
  | .ixS x i => .ixS (cst a x) (cst a i)
  | .taC comma x t z => .taC comma (cst a x) t z
  | .taI comma x want z => .taI comma (cst a x) want z
  | .ext x i => .ext (cst a x) i
  | .len x => .len (cst a x)
  | .lenStr x => .lenStr (cst a x)
  | .cap x => .cap (cst a x)
  | .app e b s x => .app e b (cst a s) (cst a x)
  | .clr e z x => .clr e z (cst a x)
  | .mx xs => .mx (xs.map (cst a))
  | .mn xs => .mn (xs.map (cst a))
  | .call .. | .callv .. | .inv .. | .bad => .bad

theorem ev_cst (b a : List AV) (x : RX) : ev b (cst a x) = ev a x := rfl
theorem map_cst (a : List AV) (xs : List RX) : (xs.map (cst a)).map (ev []) = xs.map (ev a) := by
  rw [List.map_map]; rfl
theorem omap_cst (a : List AV) (x : Option RX) : (x.map (cst a)).map (ev []) = x.map (ev a) := by
  cases x <;> rfl
theorem pmap_cst (a : List AV) (ps : List (Nat × Nat × RX)) : (ps.map fun p => (p.1, p.2.1, cst a p.2.2)).map (fun p => (p.1, p.2.1, ev [] p.2.2)) = ps.map (fun p => (p.1, p.2.1, ev a p.2.2)) := by
  rw [List.map_map]; rfl

theorem aop_sbO {P : Program} {a : List AV} {h : Heap} {n : Nat} {ro : ROp} {r : AV × List Nat × Eff} (he : aop P [] h n (sbO a ro) = some r) : aop P a h n ro = some r := by
  cases ro <;> try exact he
  case build z ps => simpa only [aop, sbO, pmap_cst] using he
  case bsl e z l ps => simpa only [aop, sbO, pmap_cst] using he
  case ieq neg x y =>
    cases x <;> cases y <;> simp only [sbO, litA] at he <;> first
      | (simp only [aop] at he; cases he)
      | (simp only [aop, ev_cst] at he ⊢; exact he)
  case mkf f p c => simpa only [aop, sbO, map_cst] using he
  case slc e x lo hi mx => simpa only [aop, sbO, omap_cst, ev_cst] using he
  case slcS x lo hi => simpa only [aop, sbO, omap_cst, ev_cst] using he
  case mx xs => simpa only [aop, sbO, map_cst] using he
  case mn xs => simpa only [aop, sbO, map_cst] using he

/-! ### What is to be shown of an operation -/

def opW (P : Program) (ro : ROp) (h : Heap) (n : Nat) (k : KT) : Prop :=
  match aop P [] h n ro with
  | some (v, _, eff) => k v (applyEff n h eff) (n + eff.news)
  | none => False

def callW (P : Program) (f : FuncId) (args : List AV) (h : Heap) (n : Nat) (k : KT) : Prop :=
  ∃ v h' n', FEv P f args h n v h' n' ∧ k v h' n'

def cvW (P : Program) (g : AV) (args : List AV) (h : Heap) (n : Nat) (k : KT) : Prop :=
  match g with
  | .fn (.func f) p c => callW P f (p ++ args ++ c) h n k
  | _ => False

def invW (P : Program) (r : AV) (m : String) (args : List AV) (h : Heap) (n : Nat) (k : KT) : Prop :=
  match r with
  | .iface t u => match methodA P t m with
    | some f => callW P f (u :: args) h n k
    | none => False
  | _ => False

def opD (P : Program) (a : List AV) (ro : ROp) (h : Heap) (n : Nat) (k : KT) : Prop :=
  match ro with
  | .mv x => k (ev a x) h n
  | .call f args => callW P f (args.map (ev a)) h n k
  | .callv g args => cvW P (ev a g) (args.map (ev a)) h n k
  | .inv r m args => invW P (ev a r) m (args.map (ev a)) h n k
  | ro => opW P (sbO a ro) h n k

def opO (P : Program) (o : Oper) (a : List AV) (h : Heap) (n : Nat) (k : KT) : Prop :=
  match cop P o.type o.op with
  | some ro => opD P a ro h n k
  | none => False

def grdW (g : AV) (want : Bool) (x : KT → Prop) (h : Heap) (n : Nat) (k : KT) : Prop :=
  match g with
  | .bool b => match b == want with
    | true => x k
    | false => k undefA h n
  | .tup [] => k undefA h n
  | _ => False

/-- The value of the guard's operation. -/
def gv (ops : Array Oper) (a : List AV) (g : Nat) : AV :=
  match (ops[g]?).bind (·.dst) with
  | some d => a.getD d .nilp
  | none => .nilp

def stepW (P : Program) (ops : Array Oper) (o : Oper) (a : List AV) (h : Heap) (n : Nat) (k : KT) : Prop :=
  match o.guard with
  | none => opO P o a h n k
  | some (g, want) => grdW (gv ops a g) want (opO P o a h n) h n k

noncomputable def opsW (P : Program) (ops : Array Oper) (l : List Oper) : (List AV → Heap → Nat → Prop) → List AV → Heap → Nat → Prop :=
  List.rec (motive := fun _ => (List AV → Heap → Nat → Prop) → List AV → Heap → Nat → Prop) (fun k a h n => k a h n)
    (fun o _ ih k a h n => stepW P ops o a h n fun v h n => ih k (putA a o.dst v) h n) l

/-! ### Regions that draw their order -/

/-- What an operation looks at and turns. -/
structure FP where
  i : Nat
  rd : List Nat
  wr : List Nat
  lo : Nat
  hi : Nat
  all : Bool

def FP.f (p : FP) (z : Nat) : Bool := decide (z ∈ p.rd) || (decide (p.lo ≤ z) && decide (z < p.hi)) || (p.all && decide (z < p.lo))
def FP.d (p : FP) (z : Nat) : Bool := decide (z ∈ p.wr) || (decide (p.lo ≤ z) && decide (z < p.hi))

def meet (x y : FP) : Prop := ∀ z, (x.d z = true → y.f z = false) ∧ (y.d z = true → x.f z = false)

def meets : List FP → FP → Prop
  | [], _ => True
  | x :: l, y => meet x y ∧ meets l y

def Eff.wrs : Eff → List Nat
  | .wr b _ _ => [b]
  | .ap b _ => [b]
  | .setm b _ => [b]
  | _ => []

abbrev KF := AV → Heap → Nat → FP → Prop

def dopW (P : Program) (j : Nat) (ro : ROp) (h : Heap) (n : Nat) (hs : List FP) (k : KF) : Prop :=
  match aop P [] h n ro with
  | some (v, rd, eff) => meets hs ⟨j, rd, eff.wrs, n, n + eff.news, false⟩ ∧ k v (applyEff n h eff) (n + eff.news) ⟨j, rd, eff.wrs, n, n + eff.news, false⟩
  | none => False

def dcallW (P : Program) (j : Nat) (f : FuncId) (args : List AV) (h : Heap) (n : Nat) (hs : List FP) (k : KF) : Prop :=
  ∃ v h' n' L, FEv P f args h n v h' n' ∧ (∀ x, n ≤ x → h x = none) ∧ (∀ x, n' ≤ x → h' x = none) ∧ (∀ x ∈ L, x < n ∧ (h x).isSome = true) ∧ (∀ x, x < n → x ∉ L → h' x = h x) ∧
    meets hs ⟨j, [], L, n, n', true⟩ ∧ k v h' n' ⟨j, [], L, n, n', true⟩

def dcvW (P : Program) (j : Nat) (g : AV) (args : List AV) (h : Heap) (n : Nat) (hs : List FP) (k : KF) : Prop :=
  match g with
  | .fn (.func f) p c => dcallW P j f (p ++ args ++ c) h n hs k
  | _ => False

/-- An operation that looks at nothing and turns nothing. -/
def quietO : ROp → Bool
  | .mv _ | .pick .. | .build .. | .nck _ | .bin .. | .beq .. | .sbin .. | .aeq .. | .seq .. | .un .. | .conv .. | .mki .. | .mkf .. | .fa .. | .fld .. | .iaA .. | .iaS .. | .ixA .. | .ixS .. | .ext .. | .len .. | .lenStr .. | .cap .. | .mx _ | .mn _ => true
  | _ => false

def dopD (P : Program) (j : Nat) (a : List AV) (ro : ROp) (h : Heap) (n : Nat) (hs : List FP) (k : KF) : Prop :=
  match ro with
  | .call f args => dcallW P j f (args.map (ev a)) h n hs k
  | .callv g args => dcvW P j (ev a g) (args.map (ev a)) h n hs k
  | .inv .. => False
  | ro => dopW P j (sbO a ro) h n hs k

def dgrdW (j : Nat) (g : AV) (want : Bool) (x : KF → Prop) (h : Heap) (n : Nat) (k : KF) : Prop :=
  match g with
  | .bool b => match b == want with
    | true => x k
    | false => k undefA h n ⟨j, [], [], n, n, false⟩
  | .tup [] => k undefA h n ⟨j, [], [], n, n, false⟩
  | _ => False

def unord (before : Nat) : List (Nat × FP) → List FP
  | [] => []
  | x :: l => match before.testBit x.1 with
    | true => unord before l
    | false => x.2 :: unord before l

def dstepW (P : Program) (ops : Array Oper) (before : Nat) (j : Nat) (o : Oper) (a : List AV) (h : Heap) (n : Nat) (hs : List (Nat × FP)) (k : AV → Heap → Nat → List (Nat × FP) → Prop) : Prop :=
  match cop P o.type o.op with
  | none => False
  | some ro => match quietO ro with
    | true => match o.guard with
      | none => opD P a ro h n fun v h n => k v h n hs
      | some (g, want) => grdW (gv ops a g) want (opD P a ro h n) h n fun v h n => k v h n hs
    | false => match o.guard with
      | none => dopD P j a ro h n (unord before hs) fun v h n p => k v h n ((j, p) :: hs)
      | some (g, want) => dgrdW j (gv ops a g) want (dopD P j a ro h n (unord before hs)) h n fun v h n p => k v h n ((j, p) :: hs)

noncomputable def drwW (P : Program) (ops : Array Oper) (l : List Oper) : List Nat → Nat → List (Nat × FP) → (List AV → Heap → Nat → Prop) → List AV → Heap → Nat → Prop :=
  List.rec (motive := fun _ => List Nat → Nat → List (Nat × FP) → (List AV → Heap → Nat → Prop) → List AV → Heap → Nat → Prop) (fun _ _ _ k a h n => k a h n)
    (fun o _ ih acc j hs k a h n => forceN (mskL acc o) fun b => dstepW P ops b j o a h n hs fun v h n hs => ih (acc ++ [b]) (j + 1) hs k (putA a o.dst v) h n) l

/-! ### Code -/

def cndW (c : AV) (x y : Prop) : Prop :=
  match c with
  | .bool true => x
  | .bool false => y
  | _ => False

noncomputable abbrev thenK (N : List AV → Heap → Nat → Prop) (K : KC) : KC := fun e a h n =>
  Exit.rec (motive := fun _ => Prop) (N a h n) (fun i => K (.exit i) a h n) (fun l => K (.goto l) a h n) (K .ret a h n) (fun c => K (.panic c) a h n) (K .outgrown a h n) e

noncomputable abbrev blockK (id : Nat) (K : KC) : KC := fun e a h n =>
  Exit.rec (motive := fun _ => Prop) (K .normal a h n) (fun i => Bool.rec (motive := fun _ => Prop) (K (.exit i) a h n) (K .normal a h n) (Nat.beq i id)) (fun l => K (.goto l) a h n) (K .ret a h n) (fun c => K (.panic c) a h n) (K .outgrown a h n) e

def loopW (P : Program) (c : Code) (K : KC) (a : List AV) (h : Heap) (n : Nat) : Prop :=
  ∃ e a' h' n', Ev P (.loop c) a h n e a' h' n' ∧ K e a' h' n'

noncomputable def regW (P : Program) (ops : Array Oper) (draw : Bool) (K : KC) (a : List AV) (h : Heap) (n : Nat) : Prop :=
  match draw with
  | false => opsW P ops ops.toList (fun a h n => K .normal a h n) a h n
  | true => match statF ops ops.toList [] 0 with
    | true => drwW P ops ops.toList [] 0 [] (fun a h n => K .normal a h n) a h n
    | false => False

noncomputable def wpC (P : Program) (c : Code) : KC → List AV → Heap → Nat → Prop :=
  Code.rec (motive := fun _ => KC → List AV → Heap → Nat → Prop)
    (fun K a h n => K .normal a h n)
    (fun _ ops draw => regW P ops draw)
    (fun _ _ f g K a h n => f (thenK (fun a h n => g K a h n) K) a h n)
    (fun c _ _ f g K a h n => cndW (ev a (cx c)) (f K a h n) (g K a h n))
    (fun id _ f K a h n => f (blockK id K) a h n)
    (fun c _ K a h n => loopW P c K a h n)
    (fun _ _ _ _ _ _ _ _ _ _ => False)
    (fun id K a h n => K (.exit id) a h n)
    (fun _ _ _ _ _ _ => False)
    (fun _ _ _ _ _ => False)
    (fun _ _ _ _ _ => False)
    (fun K a h n => K .ret a h n)
    (fun _ _ _ _ _ => False) c

/-! ### Functions -/

def ldR (g : Bool) (k : Nat) (x : AV) (h : Heap) (c : AV → Prop) : Prop :=
  match x with
  | .ptr b off => match (rdOf (h b)).bind fun cs => partA g cs off k with
    | some v => c v
    | none => False
  | _ => False

noncomputable def resL (P : Program) (l : List ResultVar) (a : List AV) (h : Heap) : (List AV → Prop) → Prop :=
  List.rec (motive := fun _ => (List AV → Prop) → Prop) (fun k => k [])
    (fun r _ ih k => match r with
      | .tmp t => ih fun vs => k (a.getD t undefA :: vs)
      | .cell p ty => match aggOf P ty, P.info? ty with
        | some g, some i => ldR g i.size (a.getD p undefA) h fun v => ih fun vs => k (v :: vs)
        | _, _ => False) l

def tupOf : List AV → AV
  | [v] => v
  | vs => .tup vs

noncomputable abbrev retK (P : Program) (rs : Array ResultVar) (K : KT) : KC := fun e a h n =>
  Exit.rec (motive := fun _ => Prop) (resL P rs.toList a h fun vs => K (tupOf vs) h n) (fun _ => False) (fun _ => False) (resL P rs.toList a h fun vs => K (tupOf vs) h n) (fun _ => False) False e

noncomputable def wpF (P : Program) (f : FuncId) (args : List AV) (h : Heap) (n : Nat) (K : KT) : Prop :=
  match P.funcs[f]? with
  | some fn => match fn.body with
    | some c => match callable P f with
      | true => wpC P c (retK P fn.results K) (args ++ List.replicate (fn.ntmps - args.length) undefA) h n
      | false => False
    | none => False
  | none => False

end Go.Eng
/- Engine, part 30: what is to be shown of code suffices. -/
namespace Go.Eng
open Go

section
variable {P : Program} {a : List AV} {h : Heap} {n : Nat}

theorem opW_ok {o : Oper} {ro : ROp} {k : KT} (hc : cop P o.type o.op = some ro) (hw : opW P (sbO a ro) h n k) : ∃ v h' n', OpEv P o a h n v h' n' ∧ k v h' n' := by
  unfold opW at hw
  split at hw
  · rename_i v rd eff he
    exact ⟨v, _, _, OpEv.of_aop hc (aop_sbO he), hw⟩
  · exact hw.elim

theorem opD_ok {o : Oper} {ro : ROp} {k : KT} (hc : cop P o.type o.op = some ro) (hw : opD P a ro h n k) : ∃ v h' n', OpEv P o a h n v h' n' ∧ k v h' n' := by
  cases ro <;> first
    | exact opW_ok hc hw
    | skip
  case call f args =>
    obtain ⟨as, ts, hop, rfl⟩ := cop_call hc
    obtain ⟨dst, op, type, pos, after, guard⟩ := o
    dsimp only at hop
    subst hop
    obtain ⟨v, h', n', hf, hk⟩ := hw
    exact ⟨v, h', n', OpEv.call hf, hk⟩
  case callv g args =>
    obtain ⟨x, as, ts, hop, rfl, rfl⟩ := cop_callv hc
    obtain ⟨dst, op, type, pos, after, guard⟩ := o
    dsimp only at hop
    subst hop
    simp only [opD, cvW] at hw
    split at hw
    case h_2 => exact hw.elim
    rename_i f p c hx
    obtain ⟨v, h', n', hf, hk⟩ := hw
    exact ⟨v, h', n', OpEv.callv hx hf, hk⟩
  case inv r nm args =>
    obtain ⟨x, as, ts, hop, rfl, rfl⟩ := cop_inv hc
    obtain ⟨dst, op, type, pos, after, guard⟩ := o
    dsimp only at hop
    subst hop
    simp only [opD, invW] at hw
    split at hw
    case h_2 => exact hw.elim
    rename_i ty u hx
    split at hw
    case h_2 => exact hw.elim
    rename_i f hm
    obtain ⟨v, h', n', hf, hk⟩ := hw
    exact ⟨v, h', n', OpEv.inv hx hm hf, hk⟩

theorem opO_ok {o : Oper} {k : KT} (hw : opO P o a h n k) : ∃ v h' n', OpEv P o a h n v h' n' ∧ k v h' n' := by
  unfold opO at hw
  split at hw
  · rename_i ro hc
    exact opD_ok hc hw
  · exact hw.elim

/-- What a guard says. -/
theorem gv_wanted {ops : Array Oper} {o : Oper} {g : Nat} {want : Bool} (hg : o.guard = some (g, want)) :
    (∀ b, gv ops a g = .bool b → wantedA ops a o = some (b == want)) ∧ (gv ops a g = .tup [] → wantedA ops a o = some false) := by
  unfold gv wantedA
  rw [hg]
  simp only
  generalize ((ops[g]?).bind fun x => x.dst) = q
  cases q with
  | none => exact ⟨fun b hb => by simp at hb, fun hb => by simp at hb⟩
  | some d =>
    simp only [Option.bind_some]
    rw [List.getD_eq_getElem?_getD]
    cases a[d]? with
    | none => exact ⟨fun b hb => by simp at hb, fun hb => by simp at hb⟩
    | some u => exact ⟨fun b hb => by simp only [Option.getD_some] at hb; subst hb; rfl, fun hb => by simp only [Option.getD_some] at hb; subst hb; rfl⟩

theorem grd_ok {ops : Array Oper} {o : Oper} {g : Nat} {want : Bool} {x : KT → Prop} {k : KT} (hg : o.guard = some (g, want)) (hw : grdW (gv ops a g) want x h n k) :
    (wantedA ops a o = some true ∧ x k) ∨ (wantedA ops a o = some false ∧ k undefA h n) := by
  obtain ⟨h1, h2⟩ := gv_wanted (a := a) (ops := ops) hg
  unfold grdW at hw
  split at hw
  · rename_i b hb
    split at hw
    · rename_i he; exact .inl ⟨by rw [h1 b hb, he], hw⟩
    · rename_i he; exact .inr ⟨by rw [h1 b hb, he], hw⟩
  · rename_i hb; exact .inr ⟨h2 hb, hw⟩
  · exact hw.elim

theorem wanted_none {ops : Array Oper} {o : Oper} (hg : o.guard = none) : wantedA ops a o = some true := by
  unfold wantedA; rw [hg]

theorem stepW_ok {ops : Array Oper} {o : Oper} {k : KT} (hw : stepW P ops o a h n k) :
    (wantedA ops a o = some true ∧ ∃ v h' n', OpEv P o a h n v h' n' ∧ k v h' n') ∨ (wantedA ops a o = some false ∧ k undefA h n) := by
  unfold stepW at hw
  split at hw
  · rename_i hg
    exact .inl ⟨wanted_none hg, opO_ok hw⟩
  · rename_i g want hg
    rcases grd_ok hg hw with ⟨h1, h2⟩ | h1
    · exact .inl ⟨h1, opO_ok h2⟩
    · exact .inr h1

theorem opsW_ok {ops : Array Oper} : ∀ (l : List Oper) (j : Nat) (k : List AV → Heap → Nat → Prop) (a : List AV) (h : Heap) (n : Nat), ops.toList.drop j = l → opsW P ops l k a h n →
    ∃ a' h' n', EvOps P ops (List.range' j l.length) a h n a' h' n' ∧ k a' h' n'
  | [], j, k, a, h, n, _, hw => ⟨a, h, n, EvOps.nil, hw⟩
  | o :: l, j, k, a, h, n, hl, hw => by
    obtain ⟨ho, hl'⟩ := drop_at hl
    rw [Array.getElem?_toList] at ho
    have hw : stepW P ops o a h n fun v h n => opsW P ops l k (putA a o.dst v) h n := hw
    rcases stepW_ok hw with ⟨h1, v, h', n', hev, hk⟩ | ⟨h1, hk⟩
    · obtain ⟨a2, h2, n2, hr, hk2⟩ := opsW_ok l (j + 1) k _ _ _ hl' hk
      exact ⟨a2, h2, n2, EvOps.step ho h1 hev hr, hk2⟩
    · obtain ⟨a2, h2, n2, hr, hk2⟩ := opsW_ok l (j + 1) k _ _ _ hl' hk
      exact ⟨a2, h2, n2, EvOps.skip ho h1 hr, hk2⟩

end
end Go.Eng
/- Engine, part 31: what is to be shown of a region that draws its order suffices. -/
namespace Go.Eng
open Go

section
variable {P : Program} {ops : Array Oper}

theorem quiet_aop {a : List AV} {h : Heap} {n : Nat} {ro : ROp} (hq : quietO ro = true) {v : AV} {rd : List Nat} {eff : Eff} (he : aop P a h n ro = some (v, rd, eff)) : rd = [] ∧ eff = .no := by
  have no : ∀ {o : Option AV} {f : AV → AV}, (o.map fun v => (f v, ([] : List Nat), Eff.no)) = some (v, rd, eff) → rd = [] ∧ eff = .no := by
    intro o f h
    simp only [Option.map_eq_some_iff, Prod.mk.injEq] at h
    obtain ⟨_, _, _, rfl, rfl⟩ := h
    exact ⟨rfl, rfl⟩
  have no' : ∀ {o : Option Nat} {f : Nat → AV}, (o.map fun v => (f v, ([] : List Nat), Eff.no)) = some (v, rd, eff) → rd = [] ∧ eff = .no := by
    intro o f h
    simp only [Option.map_eq_some_iff, Prod.mk.injEq] at h
    obtain ⟨_, _, _, rfl, rfl⟩ := h
    exact ⟨rfl, rfl⟩
  have no'' : ∀ {o : Option Bool} {f : Bool → AV}, (o.map fun v => (f v, ([] : List Nat), Eff.no)) = some (v, rd, eff) → rd = [] ∧ eff = .no := by
    intro o f h
    simp only [Option.map_eq_some_iff, Prod.mk.injEq] at h
    obtain ⟨_, _, _, rfl, rfl⟩ := h
    exact ⟨rfl, rfl⟩
  have no3 : ∀ {o : Option (List AV)} {f : List AV → AV}, (o.map fun v => (f v, ([] : List Nat), Eff.no)) = some (v, rd, eff) → rd = [] ∧ eff = .no := by
    intro o f h
    simp only [Option.map_eq_some_iff, Prod.mk.injEq] at h
    obtain ⟨_, _, _, rfl, rfl⟩ := h
    exact ⟨rfl, rfl⟩
  have no4 : ∀ {o : Option UInt8} {f : UInt8 → AV}, (o.map fun v => (f v, ([] : List Nat), Eff.no)) = some (v, rd, eff) → rd = [] ∧ eff = .no := by
    intro o f h
    simp only [Option.map_eq_some_iff, Prod.mk.injEq] at h
    obtain ⟨_, _, _, rfl, rfl⟩ := h
    exact ⟨rfl, rfl⟩
  cases ro <;> simp only [quietO, Bool.false_eq_true] at hq <;> simp only [aop] at he <;> first
    | exact no he
    | exact no' he
    | exact no'' he
    | exact no3 he
    | exact no4 he
    | (cases he; exact ⟨rfl, rfl⟩)
    | (repeat' split at he
       all_goals first
         | exact no he
         | exact no' he
         | exact no'' he
         | exact no3 he
         | exact no4 he
         | (cases he; exact ⟨rfl, rfl⟩)
         | cases he)

theorem appA_wrs {e by_ n : Nat} {h : Heap} {s x v : AV} {rd : List Nat} {eff : Eff} (he : appA e by_ n h s x = some (v, rd, eff)) : ∀ b ∈ eff.wrs, (h b).isSome = true := by
  unfold appA at he
  split at he
  · cases he
  simp only [Option.bind_eq_bind, Option.bind_eq_some_iff] at he
  obtain ⟨k, _, ⟨src, rs⟩, _, he⟩ := he
  simp only at he
  intro b hb
  repeat' split at he
  all_goals first
    | (cases he; simp only [Eff.wrs, List.not_mem_nil] at hb; done)
    | (cases he; simp only [Eff.wrs, List.mem_singleton] at hb; subst hb; simp [*]; done)
    | cases he

theorem aop_wrs {a : List AV} {h : Heap} {n : Nat} {ro : ROp} {v : AV} {rd : List Nat} {eff : Eff} (he : aop P a h n ro = some (v, rd, eff)) : ∀ b ∈ eff.wrs, (h b).isSome = true := by
  by_cases hq : quietO ro = true
  · obtain ⟨_, rfl⟩ := quiet_aop hq he
    intro b hb; simp [Eff.wrs] at hb
  intro b hb
  cases ro <;> simp only [quietO, not_true_eq_false] at hq <;> simp only [aop] at he
  case app e bytes s x => exact appA_wrs he b hb
  all_goals first
    | (cases he; simp only [Eff.wrs, List.not_mem_nil] at hb; done)
    | (simp only [Option.map_eq_some_iff, Option.bind_eq_some_iff, Prod.mk.injEq] at he
       obtain ⟨_, _, _, rfl, rfl⟩ := he
       simp only [Eff.wrs, List.not_mem_nil] at hb; done)
    | (simp only [Option.map_eq_some_iff, Option.bind_eq_some_iff, Prod.mk.injEq] at he
       obtain ⟨_, _, _, _, _, _, rfl⟩ := he
       simp only [Eff.wrs, List.not_mem_nil] at hb; done)
    | (repeat' split at he
       all_goals first
         | (cases he; simp only [Eff.wrs, List.not_mem_nil] at hb; done)
         | (cases he; simp only [Eff.wrs, List.mem_singleton] at hb; subst hb; simp [*]; done)
         | cases he
         | (simp only [Option.map_eq_some_iff, Option.bind_eq_some_iff, Prod.mk.injEq] at he
            obtain ⟨_, _, _, rfl, rfl⟩ := he
            simp only [Eff.wrs, List.not_mem_nil] at hb; done)
         | (simp only [Option.map_eq_some_iff, Option.bind_eq_some_iff, Prod.mk.injEq] at he
            obtain ⟨_, _, _, _, rfl⟩ := he
            simp only [Eff.wrs, List.not_mem_nil] at hb; done)
         | (simp only [Option.map_eq_some_iff, Option.bind_eq_some_iff, Prod.mk.injEq] at he
            obtain ⟨_, _, _, _, _, _, rfl⟩ := he
            simp only [Eff.wrs, List.not_mem_nil] at hb; done)
         | (simp only [Option.map_eq_some_iff, Option.bind_eq_some_iff, Prod.mk.injEq] at he
            obtain ⟨_, _, he⟩ := he
            (repeat' split at he) <;> first
              | cases he; simp only [Eff.wrs, List.not_mem_nil] at hb; done
              | cases he))

end
end Go.Eng
/- Engine, part 32: what is to be shown of a region that draws its order suffices, continued; code; calls. -/
namespace Go.Eng
open Go

section
variable {P : Program} {ops : Array Oper}

def StepS (P : Program) (ops : Array Oper) (A : Nat → List AV) (H : Nat → Heap) (N : Nat → Nat) (v : Nat → AV) (F : Nat → FP) (j : Nat) : Prop :=
  ∃ o, ops[j]? = some o ∧ A (j + 1) = putA (A j) o.dst (v j) ∧
    ((wantedA ops (A j) o = some false ∧ v j = undefA ∧ H (j + 1) = H j ∧ N (j + 1) = N j ∧ (∀ x, (F j).d x = false)) ∨
     (wantedA ops (A j) o = some true ∧ (∃ h', OpEv P o (A j) (sub (F j).f (H j)) (N j) (v j) h' (N (j + 1)) ∧ H (j + 1) = weave (sub (F j).f (H j)) (H j) h' (N j) (N (j + 1))) ∧
      (∀ x, (F j).d x = false → H (j + 1) x = H j x) ∧ (∀ x, (F j).d x = true → (sub (F j).f (H j) x).isSome = true ∨ (N j ≤ x ∧ x < N (j + 1))) ∧ (∀ x, N j ≤ x → x < N (j + 1) → (F j).d x = true)))

/-- What one operation is found to do. -/
def One (P : Program) (o : Oper) (a : List AV) (h : Heap) (n : Nat) (v : AV) (h' : Heap) (n' : Nat) (p : FP) : Prop :=
  (∃ h0, OpEv P o a (sub p.f h) n v h0 n' ∧ h' = weave (sub p.f h) h h0 n n') ∧
    (∀ x, p.d x = false → h' x = h x) ∧ (∀ x, p.d x = true → (sub p.f h x).isSome = true ∨ (n ≤ x ∧ x < n')) ∧ (∀ x, n ≤ x → x < n' → p.d x = true)

theorem weave_of {h h0 h1 : Heap} {n n' x : Nat} {z : Option Blk} (h2 : ((h0 x).isSome = true ∨ (n ≤ x ∧ x < n')) → h1 x = z) (h3 : ¬ ((h0 x).isSome = true ∨ (n ≤ x ∧ x < n')) → h x = z) : weave h0 h h1 n n' x = z := by
  unfold weave
  by_cases hc : (h0 x).isSome = true ∨ (n ≤ x ∧ x < n')
  · rw [if_pos (by simpa only [Bool.or_eq_true, Bool.and_eq_true, decide_eq_true_eq] using hc)]
    exact h2 hc
  · rw [if_neg (by simpa only [Bool.or_eq_true, Bool.and_eq_true, decide_eq_true_eq] using hc)]
    exact h3 hc

theorem weave_eff (n : Nat) (h : Heap) (f : Nat → Bool) {rd : List Nat} {eff : Eff} (hrd : EffRd rd eff) (hf : ∀ y ∈ rd, f y = true) : applyEff n h eff = weave (sub f h) h (applyEff n (sub f h) eff) n (n + eff.news) := by
  funext x
  symm
  have hs : ∀ y ∈ rd, sub f h y = h y := fun y hy => by simp [sub, hf y hy]
  have hsx : (sub f h x).isSome = true → sub f h x = h x := by
    unfold sub; split
    · intro _; rfl
    · intro h; cases h
  have old : ∀ m, (sub f h x).isSome = true ∨ (n ≤ x ∧ x < n + m) → ¬ (n ≤ x ∧ x < n + m) → sub f h x = h x := fun m h1 h2 => hsx (h1.resolve_right h2)
  cases eff with
  | no => exact weave_of (fun hc => old 0 hc (by omega)) fun _ => rfl
  | wr b off vs =>
    have hb : b ∈ rd := hrd
    have hsb := hs b hb
    simp only [applyEff]
    rw [hsb]
    cases hbk : h b with
    | none => exact weave_of (fun hc => old 0 hc (by omega)) fun _ => rfl
    | some k =>
      cases k with
      | cells e cs =>
        simp only
        by_cases hx : x = b
        · subst hx
          refine weave_of (fun _ => by simp) fun hc => absurd (.inl (by rw [hsb, hbk]; rfl)) hc
        · rw [upd_ne _ _ hx]
          exact weave_of (fun hc => by rw [upd_ne _ _ hx]; exact old 0 hc (by omega)) fun _ => rfl
      | ro cs => exact weave_of (fun hc => old 0 hc (by omega)) fun _ => rfl
      | mapo kv => exact weave_of (fun hc => old 0 hc (by omega)) fun _ => rfl
  | al k =>
    simp only [applyEff]
    by_cases hx : x = n
    · subst hx
      exact weave_of (fun _ => by simp) fun hc => absurd (.inr ⟨Nat.le_refl _, by simp [Eff.news]⟩) hc
    · rw [upd_ne _ _ hx]
      exact weave_of (fun hc => by rw [upd_ne _ _ hx]; exact old 1 hc (by omega)) fun _ => rfl
  | ap kill k =>
    have hb : kill ∈ rd := hrd
    have hsb := hs kill hb
    simp only [applyEff]
    by_cases hx : x = n
    · subst hx
      exact weave_of (fun _ => by simp) fun hc => absurd (.inr ⟨Nat.le_refl _, by simp [Eff.news]⟩) hc
    · rw [upd_ne _ _ hx]
      by_cases hk : x = kill
      · subst hk
        rw [upd_same]
        refine weave_of (fun _ => by rw [upd_ne _ _ hx, upd_same]) fun hc => ?_
        cases hh : h x with
        | none => rfl
        | some k => exact absurd (.inl (by rw [hsb, hh]; rfl)) hc
      · rw [upd_ne _ _ hk]
        exact weave_of (fun hc => by rw [upd_ne _ _ hx, upd_ne _ _ hk]; exact old 1 hc (by omega)) fun _ => rfl
  | setm => exact hrd.elim

theorem one_aop {o : Oper} {ro : ROp} {a : List AV} {h : Heap} {n : Nat} {v : AV} {rd : List Nat} {eff : Eff} (hc : cop P o.type o.op = some ro) (he : aop P a h n ro = some (v, rd, eff)) (j : Nat) :
    One P o a h n v (applyEff n h eff) (n + eff.news) ⟨j, rd, eff.wrs, n, n + eff.news, false⟩ := by
  have hrd := aop_rd he
  have hwr := aop_wrs he
  have hf : ∀ y ∈ rd, FP.f ⟨j, rd, eff.wrs, n, n + eff.news, false⟩ y = true := fun y hy => by simp [FP.f, hy]
  have hl : aop P a (sub (FP.f ⟨j, rd, eff.wrs, n, n + eff.news, false⟩) h) n ro = some (v, rd, eff) := aop_local he fun y hy => by simp [sub, hf y hy]
  have hs : ∀ y ∈ rd, sub (FP.f ⟨j, rd, eff.wrs, n, n + eff.news, false⟩) h y = h y := fun y hy => by simp [sub, hf y hy]
  refine ⟨⟨_, OpEv.of_aop hc hl, ?_⟩, fun x hx => ?_, fun x hx => ?_, fun x h1 h2 => ?_⟩
  · exact weave_eff n h _ hrd hf
  · simp only [FP.d, Bool.or_eq_false_iff, decide_eq_false_iff_not, Bool.and_eq_false_iff] at hx
    cases eff with
    | no => rfl
    | wr b off vs =>
      have hxb : x ≠ b := by simpa [Eff.wrs] using hx.1
      simp only [applyEff]
      cases h b with
      | none => rfl
      | some k => cases k <;> first
        | rfl
        | exact upd_ne _ _ hxb
    | al k =>
      have : x ≠ n := by simp only [Eff.news] at hx; omega
      simp only [applyEff]
      rw [upd_ne _ _ this]
    | ap kill k =>
      have hxb : x ≠ kill := by simpa [Eff.wrs] using hx.1
      have : x ≠ n := by simp only [Eff.news] at hx; omega
      simp only [applyEff]
      rw [upd_ne _ _ this, upd_ne _ _ hxb]
    | setm => exact hrd.elim
  · simp only [FP.d, Bool.or_eq_true, decide_eq_true_eq, Bool.and_eq_true] at hx
    rcases hx with hx | hx
    · have hxr : x ∈ rd := by
        cases eff <;> simp only [Eff.wrs, List.not_mem_nil, List.mem_singleton] at hx <;> first
          | (subst hx; exact hrd)
          | exact hrd.elim
      rw [hs x hxr]
      exact .inl (hwr x hx)
    · exact .inr hx
  · simp [FP.d, h1, h2]

theorem one_call {o : Oper} {a : List AV} {h : Heap} {n : Nat} {v : AV} {h' : Heap} {n' : Nat} {L : List Nat} (j : Nat) (hev : OpEv P o a h n v h' n') (h1 : ∀ x, n ≤ x → h x = none) (h2 : ∀ x, n' ≤ x → h' x = none)
    (h3 : ∀ x ∈ L, x < n ∧ (h x).isSome = true) (h4 : ∀ x, x < n → x ∉ L → h' x = h x) : One P o a h n v h' n' ⟨j, [], L, n, n', true⟩ := by
  have hs : sub (FP.f ⟨j, [], L, n, n', true⟩) h = h := by
    funext x
    unfold sub
    split
    · rfl
    · rename_i hx
      have : n ≤ x := by
        simp [FP.f] at hx
        omega
      exact (h1 x this).symm
  unfold One
  rw [hs]
  refine ⟨⟨h', hev, ?_⟩, fun x hx => ?_, fun x hx => ?_, fun x h5 h6 => by simp [FP.d, h5, h6]⟩
  · funext x
    unfold weave
    split
    · rfl
    · rename_i hx
      simp only [Bool.or_eq_true, Bool.and_eq_true, decide_eq_true_eq, not_or, Bool.not_eq_true, Option.isSome_eq_false_iff, Option.isNone_iff_eq_none] at hx
      rw [hx.1]
      by_cases hxn : x < n
      · by_cases hxL : x ∈ L
        · have := (h3 x hxL).2; rw [hx.1] at this; cases this
        · rw [h4 x hxn hxL, hx.1]
      · exact h2 x (by omega)
  · simp only [FP.d, Bool.or_eq_false_iff, decide_eq_false_iff_not, Bool.and_eq_false_iff] at hx
    by_cases hxn : x < n
    · exact h4 x hxn hx.1
    · have := hev.1
      rw [h1 x (by omega), h2 x (by omega)]
  · simp only [FP.d, Bool.or_eq_true, decide_eq_true_eq, Bool.and_eq_true] at hx
    rcases hx with hx | hx
    · exact .inl (h3 x hx).2
    · exact .inr hx

theorem dopD_ok {o : Oper} {ro : ROp} {a : List AV} {h : Heap} {n j : Nat} {hs : List FP} {k : KF} (hc : cop P o.type o.op = some ro) (hw : dopD P j a ro h n hs k) :
    ∃ v h' n' p, One P o a h n v h' n' p ∧ p.i = j ∧ meets hs p ∧ k v h' n' p := by
  have simple : dopW P j (sbO a ro) h n hs k → ∃ v h' n' p, One P o a h n v h' n' p ∧ p.i = j ∧ meets hs p ∧ k v h' n' p := by
    intro hw
    unfold dopW at hw
    split at hw
    · rename_i v rd eff he
      exact ⟨v, _, _, _, one_aop hc (aop_sbO he) j, rfl, hw.1, hw.2⟩
    · exact hw.elim
  have called : ∀ {f args}, dcallW P j f args h n hs k → (∀ {v h' n'}, FEv P f args h n v h' n' → OpEv P o a h n v h' n') → ∃ v h' n' p, One P o a h n v h' n' p ∧ p.i = j ∧ meets hs p ∧ k v h' n' p := by
    intro f args hw ho
    obtain ⟨v, h', n', L, hf, h1, h2, h3, h4, h5, h6⟩ := hw
    exact ⟨v, h', n', _, one_call j (ho hf) h1 h2 h3 h4, rfl, h5, h6⟩
  cases ro <;> first
    | exact simple hw
    | skip
  case call f args =>
    obtain ⟨as, ts, hop, rfl⟩ := cop_call hc
    obtain ⟨dst, op, type, pos, after, guard⟩ := o
    dsimp only at hop
    subst hop
    exact called hw fun hf => OpEv.call hf
  case callv g args =>
    obtain ⟨x, as, ts, hop, rfl, rfl⟩ := cop_callv hc
    obtain ⟨dst, op, type, pos, after, guard⟩ := o
    dsimp only at hop
    subst hop
    simp only [dopD, dcvW] at hw
    split at hw
    case h_2 => exact hw.elim
    rename_i f p c hx
    exact called hw fun hf => OpEv.callv hx hf

/-- Nothing is looked at, nothing turned. -/
def fp0 (j n : Nat) : FP := ⟨j, [], [], n, n, false⟩

theorem fp0_f (j n z : Nat) : (fp0 j n).f z = false := by
  by_cases h1 : n ≤ z <;> by_cases h2 : z < n <;> simp [fp0, FP.f, h1, h2] <;> omega
theorem fp0_d (j n z : Nat) : (fp0 j n).d z = false := by
  by_cases h1 : n ≤ z <;> by_cases h2 : z < n <;> simp [fp0, FP.d, h1, h2] <;> omega
theorem meet_fp0 (x : FP) (j n : Nat) : meet x (fp0 j n) := fun z => ⟨fun _ => fp0_f _ _ _, fun h => (by rw [fp0_d] at h; cases h)⟩
theorem fp0_meet (x : FP) (j n : Nat) : meet (fp0 j n) x := fun z => ⟨fun h => (by rw [fp0_d] at h; cases h), fun _ => fp0_f _ _ _⟩
theorem meets_fp0 (hs : List FP) (j n : Nat) : meets hs (fp0 j n) := by
  induction hs with
  | nil => trivial
  | cons x l ih => exact ⟨meet_fp0 x j n, ih⟩

theorem meets_unord {before : Nat} {y : FP} : ∀ {hs : List (Nat × FP)}, meets (unord before hs) y → ∀ x ∈ hs, before.testBit x.1 = false → meet x.2 y
  | x :: l, hm, z, hz, hb => by
    unfold unord at hm
    rcases List.mem_cons.1 hz with rfl | hz
    · rw [hb] at hm
      exact hm.1
    · split at hm
      · exact meets_unord hm z hz hb
      · exact meets_unord hm.2 z hz hb

theorem dstepW_ok {before j : Nat} {o : Oper} {a : List AV} {h : Heap} {n : Nat} {hs : List (Nat × FP)} {k : AV → Heap → Nat → List (Nat × FP) → Prop} (hw : dstepW P ops before j o a h n hs k) :
    ∃ v h' n' p hs', ((wantedA ops a o = some false ∧ v = undefA ∧ h' = h ∧ n' = n ∧ ∀ x, p.d x = false) ∨ (wantedA ops a o = some true ∧ One P o a h n v h' n' p)) ∧
      (∀ x ∈ hs, before.testBit x.1 = false → meet x.2 p) ∧ (hs' = (j, p) :: hs ∨ (hs' = hs ∧ (∀ y, meet p y))) ∧ k v h' n' hs' := by
  unfold dstepW at hw
  split at hw
  · exact hw.elim
  rename_i ro hc
  have quiet : quietO ro = true → ∀ {k : KT}, opD P a ro h n k → ∃ v, One P o a h n v h n (fp0 j n) ∧ k v h n := by
    intro hq k hk
    have hk' : opW P (sbO a ro) h n k := by cases ro <;> first | exact hk | (simp [quietO] at hq)
    unfold opW at hk'
    split at hk'
    · rename_i v rd eff he
      have he := aop_sbO he
      obtain ⟨rfl, rfl⟩ := quiet_aop hq he
      exact ⟨v, one_aop hc he j, hk'⟩
    · exact hk'.elim
  split at hw
  · rename_i hq
    split at hw
    · rename_i hg
      obtain ⟨v, h1, h2⟩ := quiet hq hw
      exact ⟨v, h, n, fp0 j n, hs, .inr ⟨wanted_none hg, h1⟩, fun x _ _ => meet_fp0 _ _ _, .inr ⟨rfl, fun y => fp0_meet _ _ _⟩, h2⟩
    · rename_i g want hg
      rcases grd_ok hg hw with ⟨h0, hw⟩ | ⟨h0, hw⟩
      · obtain ⟨v, h1, h2⟩ := quiet hq hw
        exact ⟨v, h, n, fp0 j n, hs, .inr ⟨h0, h1⟩, fun x _ _ => meet_fp0 _ _ _, .inr ⟨rfl, fun y => fp0_meet _ _ _⟩, h2⟩
      · exact ⟨undefA, h, n, fp0 j n, hs, .inl ⟨h0, rfl, rfl, rfl, fp0_d _ _⟩, fun x _ _ => meet_fp0 _ _ _, .inr ⟨rfl, fun y => fp0_meet _ _ _⟩, hw⟩
  · split at hw
    · rename_i hg
      obtain ⟨v, h', n', p, h1, h2, h3, h4⟩ := dopD_ok hc hw
      exact ⟨v, h', n', p, _, .inr ⟨wanted_none hg, h1⟩, meets_unord h3, .inl rfl, h4⟩
    · rename_i g want hg
      obtain ⟨g1, g2⟩ := gv_wanted (a := a) (ops := ops) hg
      unfold dgrdW at hw
      split at hw
      · rename_i b hb
        split at hw
        · rename_i he
          obtain ⟨v, h', n', p, h1, h2, h3, h4⟩ := dopD_ok hc hw
          exact ⟨v, h', n', p, _, .inr ⟨by rw [g1 b hb, he], h1⟩, meets_unord h3, .inl rfl, h4⟩
        · rename_i he
          exact ⟨undefA, h, n, fp0 j n, _, .inl ⟨by rw [g1 b hb, he], rfl, rfl, rfl, fp0_d _ _⟩, fun x _ _ => meet_fp0 _ _ _, .inl rfl, hw⟩
      · rename_i hb
        exact ⟨undefA, h, n, fp0 j n, _, .inl ⟨g2 hb, rfl, rfl, rfl, fp0_d _ _⟩, fun x _ _ => meet_fp0 _ _ _, .inl rfl, hw⟩
      · exact hw.elim

theorem drw_walk (before : Array Nat) : ∀ (l : List Oper) (acc : List Nat) (j : Nat) (hs : List (Nat × FP)) (k : List AV → Heap → Nat → Prop) (a : List AV) (h : Heap) (n : Nat), ops.toList.drop j = l → acc.length = j → befL l acc = before.toList → drwW P ops l acc j hs k a h n →
    ∃ (A : Nat → List AV) (H : Nat → Heap) (N : Nat → Nat) (v : Nat → AV) (F : Nat → FP), A j = a ∧ H j = h ∧ N j = n ∧ k (A (j + l.length)) (H (j + l.length)) (N (j + l.length)) ∧
      (∀ i, j ≤ i → i < j + l.length → StepS P ops A H N v F i) ∧
      (∀ i i', j ≤ i → i < i' → i' < j + l.length → (before.getD i' 0).testBit i = false → meet (F i) (F i')) ∧
      (∀ x ∈ hs, ∀ i', j ≤ i' → i' < j + l.length → (before.getD i' 0).testBit x.1 = false → meet x.2 (F i'))
  | [], acc, j, hs, k, a, h, n, _, _, _, hw => ⟨fun _ => a, fun _ => h, fun _ => n, fun _ => undefA, fun _ => fp0 0 0, rfl, rfl, rfl, hw, fun i h1 h2 => by simp at h2; omega, fun i i' h1 h2 h3 => by simp at h3; omega, fun x _ i' h1 h2 => by simp at h2; omega⟩
  | o :: l, acc, j, hs, k, a, h, n, hl, hacc, hbef, hw => by
    obtain ⟨ho, hl'⟩ := drop_at hl
    rw [Array.getElem?_toList] at ho
    have hmsk : before.getD j 0 = mskL acc o := by
      have := befL_at o l acc
      rw [hbef, hacc, Array.getElem?_toList] at this
      rw [Array.getD_eq_getD_getElem?, this]; rfl
    have hw : forceN (mskL acc o) (fun b => dstepW P ops b j o a h n hs fun v h n hs => drwW P ops l (acc ++ [b]) (j + 1) hs k (putA a o.dst v) h n) := hw
    rw [forceN_eq, ← hmsk] at hw
    obtain ⟨v0, h1, n1, p0, hs', hst, hme, hhs, hk⟩ := dstepW_ok hw
    obtain ⟨A, H, N, v, F, e1, e2, e3, e4, e5, e6, e7⟩ := drw_walk before l (acc ++ [before.getD j 0]) (j + 1) hs' k _ _ _ hl' (by simp [hacc]) (by rw [hmsk]; exact hbef) hk
    have hlen1 : j + (o :: l).length = j + 1 + l.length := by simp; omega
    have hne : j + 1 + l.length ≠ j := by omega
    rw [hlen1]
    refine ⟨fun i => if i = j then a else A i, fun i => if i = j then h else H i, fun i => if i = j then n else N i, fun i => if i = j then v0 else v i, fun i => if i = j then p0 else F i, by simp, by simp, by simp, by simp only [hne, if_false]; exact e4, ?_, ?_, ?_⟩
    · intro i h2 h3
      by_cases hi : i = j
      · subst hi
        have hne : i + 1 ≠ i := by omega
        refine ⟨o, ho, by simp only [if_true, hne, if_false, e1], ?_⟩
        simp only [if_true, hne, if_false, e2, e3]
        rcases hst with ⟨g1, g2, g3, g4, g5⟩ | ⟨g1, g2⟩
        · exact .inl ⟨g1, g2, g3, g4, g5⟩
        · exact .inr ⟨g1, g2⟩
      · have hne : i + 1 ≠ j := by omega
        have := e5 i (by omega) h3
        unfold StepS at this ⊢
        simp only [hi, hne, if_false]
        exact this
    · intro i i' h2 h3 h4 h5
      have hi' : i' ≠ j := by omega
      by_cases hi : i = j
      · subst hi
        simp only [if_true, hi', if_false]
        rcases hhs with rfl | ⟨_, hh⟩
        · exact e7 (i, p0) (List.mem_cons_self ..) i' (by omega) h4 h5
        · exact hh _
      · simp only [hi, hi', if_false]
        exact e6 i i' (by omega) h3 h4 h5
    · intro x hx i' h2 h3 h4
      by_cases hi : i' = j
      · subst hi
        simp only [if_true]
        exact hme x hx h4
      · simp only [hi, if_false]
        refine e7 x ?_ i' (by omega) h3 h4
        rcases hhs with rfl | ⟨rfl, _⟩
        · exact List.mem_cons_of_mem _ hx
        · exact hx

theorem drw_ok (hm : P.follows .mixedOrders = true) (hstat : statOk ops = true) {k : List AV → Heap → Nat → Prop} {a : List AV} {h : Heap} {n : Nat} (hw : drwW P ops ops.toList [] 0 [] k a h n) (id : Nat) :
    ∃ a' h' n', Ev P (.region id ops true) a h n .normal a' h' n' ∧ k a' h' n' := by
  obtain ⟨A, H, N, v, F, e1, e2, e3, e4, e5, e6, _⟩ := drw_walk (Region.before ops) _ [] 0 [] k a h n (by simp) rfl (before_list ops) hw
  have hsz : ops.toList.length = ops.size := by simp
  rw [Nat.zero_add, hsz] at e4 e5 e6
  have lt_of : ∀ {j : Nat} {o : Oper}, ops[j]? = some o → j < ops.size := by
    intro j o ho
    by_cases hh : j < ops.size
    · exact hh
    · rw [Array.getElem?_eq_none (by omega)] at ho; cases ho
  have lx : Lex P ops A H N v (fun j => (F j).f) (fun j => (F j).d) := by
    refine ⟨fun j o ho => ?_, fun i j oi oj hij hoi hoj hord => ?_, fun j o ho => ?_⟩
    · obtain ⟨o', ho', hA, hst⟩ := e5 j (Nat.zero_le _) (lt_of ho)
      rw [ho] at ho'; cases ho'
      exact ⟨hA, hst⟩
    · refine ⟨(statL_ok hstat (by simp) j oj (Nat.zero_le _) hoj).2 i oi hij hoi hord, fun x => ?_⟩
      exact e6 i j (Nat.zero_le _) hij (lt_of hoj) hord x
    · exact (statL_ok hstat (by simp) j o (Nat.zero_le _) ho).1
  have := lx.ev hm (id := id)
  simp only [e1, e2, e3] at this
  exact ⟨_, _, _, this, e4⟩

/-! ### Code -/

theorem wpC_ok (hm : P.follows .mixedOrders = true) : ∀ (c : Code) (K : KC) (a : List AV) (h : Heap) (n : Nat), wpC P c K a h n → ∃ e a' h' n', Ev P c a h n e a' h' n' ∧ K e a' h' n'
  | .skip, K, a, h, n, hw => ⟨.normal, a, h, n, Ev.skip, hw⟩
  | .region id ops draw, K, a, h, n, hw => by
    have hw : regW P ops draw K a h n := hw
    unfold regW at hw
    split at hw
    · obtain ⟨a', h', n', h1, h2⟩ := opsW_ok ops.toList 0 _ a h n (by simp) hw
      rw [← List.range_eq_range'] at h1
      have hsz : ops.toList.length = ops.size := by simp
      rw [hsz] at h1
      exact ⟨.normal, a', h', n', EvOps.region h1, h2⟩
    · split at hw
      · rename_i hs
        rw [statF_eq ops _ [] 0 rfl (before_list ops)] at hs
        obtain ⟨a', h', n', h1, h2⟩ := drw_ok hm hs hw id
        exact ⟨.normal, a', h', n', h1, h2⟩
      · exact hw.elim
  | .seq x y, K, a, h, n, hw => by
    obtain ⟨e, a', h', n', h1, h2⟩ := wpC_ok hm x _ a h n (show wpC P x (thenK (fun a h n => wpC P y K a h n) K) a h n from hw)
    by_cases he : e = .normal
    · subst he
      obtain ⟨e, a2, h2', n2, h3, h4⟩ := wpC_ok hm y K a' h' n' h2
      exact ⟨e, a2, h2', n2, Ev.seq h1 h3, h4⟩
    · refine ⟨e, a', h', n', Ev.seq_out h1 he, ?_⟩
      cases e <;> first
        | exact absurd rfl he
        | exact h2
  | .cond c x y, K, a, h, n, hw => by
    have hw : cndW (ev a (cx c)) (wpC P x K a h n) (wpC P y K a h n) := hw
    unfold cndW at hw
    split at hw
    · rename_i hb
      obtain ⟨e, a', h', n', h1, h2⟩ := wpC_ok hm x K a h n hw
      exact ⟨e, a', h', n', Ev.cond hb h1, h2⟩
    · rename_i hb
      obtain ⟨e, a', h', n', h1, h2⟩ := wpC_ok hm y K a h n hw
      exact ⟨e, a', h', n', Ev.cond hb h1, h2⟩
    · exact hw.elim
  | .block id x, K, a, h, n, hw => by
    obtain ⟨e, a', h', n', h1, h2⟩ := wpC_ok hm x _ a h n (show wpC P x (blockK id K) a h n from hw)
    by_cases he : e = .exit id
    · subst he
      refine ⟨.normal, a', h', n', Ev.block_exit h1, ?_⟩
      simpa [blockK] using h2
    · refine ⟨e, a', h', n', Ev.block h1 he, ?_⟩
      cases e with
      | exit i =>
        have : Nat.beq i id = false := by
          cases hb : Nat.beq i id with
          | false => rfl
          | true => exact absurd (by rw [Nat.eq_of_beq_eq_true hb]) he
        simpa only [blockK, this] using h2
      | _ => exact h2
  | .loop x, K, a, h, n, hw => hw
  | .rangeFunc .., K, a, h, n, hw => hw.elim
  | .exit id, K, a, h, n, hw => ⟨.exit id, a, h, n, Ev.exit, hw⟩
  | .scope _, K, a, h, n, hw => hw.elim
  | .label _, K, a, h, n, hw => hw.elim
  | .goto _, K, a, h, n, hw => hw.elim
  | .ret, K, a, h, n, hw => ⟨.ret, a, h, n, Ev.ret, hw⟩
  | .refuse _, K, a, h, n, hw => hw.elim

theorem resL_ok {a : List AV} {h : Heap} : ∀ (l : List ResultVar) (k : List AV → Prop), resL P l a h k → ∃ vs, l.mapM (resA P a h) = some vs ∧ k vs
  | [], k, hw => ⟨[], rfl, hw⟩
  | .tmp t :: l, k, hw => by
    obtain ⟨vs, h1, h2⟩ := resL_ok l _ (show resL P l a h (fun vs => k (a.getD t undefA :: vs)) from hw)
    exact ⟨_, by simp [resA, h1], h2⟩
  | .cell p ty :: l, k, hw => by
    have hw : (match aggOf P ty, P.info? ty with
        | some g, some i => ldR g i.size (a.getD p undefA) h fun v => resL P l a h fun vs => k (v :: vs)
        | _, _ => False) := hw
    split at hw
    · rename_i g i hg hi
      unfold ldR at hw
      split at hw
      · rename_i b off hp
        split at hw
        · rename_i v hv
          obtain ⟨vs, h1, h2⟩ := resL_ok l _ hw
          refine ⟨_, ?_, h2⟩
          have : resA P a h (.cell p ty) = some v := by simp only [resA, hp, hg, hi, hv]
          simp [this, h1]
        · exact hw.elim
      · exact hw.elim
    · exact hw.elim

theorem callW_of_wpF (hm : P.follows .mixedOrders = true) {f : FuncId} {args : List AV} {h : Heap} {n : Nat} {K : KT} (hw : wpF P f args h n K) : callW P f args h n K := by
  unfold wpF at hw
  split at hw
  case h_2 => exact hw.elim
  rename_i fn hf
  split at hw
  case h_2 => exact hw.elim
  rename_i c hb
  split at hw
  case h_2 => exact hw.elim
  rename_i hc
  obtain ⟨e, a', h', n', h1, h2⟩ := wpC_ok hm c _ _ h n hw
  have key : (e = .normal ∨ e = .ret) ∧ resL P fn.results.toList a' h' fun vs => K (tupOf vs) h' n' := by
    cases e <;> first
      | exact ⟨.inl rfl, h2⟩
      | exact ⟨.inr rfl, h2⟩
      | exact h2.elim
  obtain ⟨vs, h3, h4⟩ := resL_ok _ _ key.2
  refine ⟨tupOf vs, h', n', FEv.of_call hc (ECall.of_body hf hb key.1 h1 ?_), h4⟩
  unfold resultsA
  rw [h3]
  cases vs with
  | nil => rfl
  | cons v l => cases l <;> rfl

end
end Go.Eng
/- Engine, part 33: words of the printed texts; loops; garbage given up. -/
namespace Go.Eng
open Go

/-- N temporaries. -/
def tl (N : Nat) (g : Nat → AV) : List AV := (List.range N).map g
def gl (l : List AV) (i : Nat) : AV := l.getD i undefA
def ug (g : Nat → AV) : List (Nat × AV) → Nat → AV
  | [], i => g i
  | p :: l, i => match Nat.beq i p.1 with
    | true => p.2
    | false => ug g l i
def cAt : List Nat → Code → Code
  | [], c => c
  | 0 :: l, .seq x _ => cAt l x
  | _ :: l, .seq _ y => cAt l y
  | 0 :: l, .cond _ x _ => cAt l x
  | _ :: l, .cond _ _ y => cAt l y
  | _ :: l, .block _ x => cAt l x
  | _ :: l, .loop x => cAt l x
  | _ :: _, c => c
def bodyOf (P : Program) (f : Nat) : Code := match P.funcs[f]? with
  | some fn => match fn.body with
    | some c => c
    | none => .skip
  | none => .skip
def resOf (P : Program) (f : Nat) : Array ResultVar := match P.funcs[f]? with
  | some fn => fn.results
  | none => #[]
def zc (P : Program) (t : TypeId) : List AV := (zeroCellsOf P t).getD []

section
variable {P : Program}

def loopK (J : List AV → Heap → Nat → Prop) (K : KC) : KC := fun e a h n => match e with
  | .normal => J a h n
  | e => K e a h n

theorem loopW_fuel {c : Code} (hm : P.follows .mixedOrders = true) (I : Nat → List AV → Heap → Nat → Prop) {K : KC} (step : ∀ d a h n, I d a h n → wpC P c (loopK (fun a' h' n' => ∃ d', d' < d ∧ I d' a' h' n') K) a h n) :
    ∀ d a h n, I d a h n → ∃ k e a' h' n', EvL P c k a h n e a' h' n' ∧ K e a' h' n' := by
  intro d
  induction d using Nat.strongRecOn with
  | _ d ih =>
    intro a h n hI
    obtain ⟨e, a', h', n', h1, h2⟩ := wpC_ok hm c _ a h n (step d a h n hI)
    by_cases he : e = .normal
    · subst he
      obtain ⟨d', hd, hI'⟩ := h2
      obtain ⟨k, e, a2, h2', n2, h3, h4⟩ := ih d' hd a' h' n' hI'
      exact ⟨k + 1, e, a2, h2', n2, EvL.next h1 h3, h4⟩
    · exact ⟨1, e, a', h', n', EvL.out h1 he, by cases e <;> first | exact absurd rfl he | exact h2⟩

/-- A loop by what is so at its head. -/
theorem loopW_inv {c : Code} (hm : P.follows .mixedOrders = true) (I : Nat → List AV → Heap → Nat → Prop) {K : KC} (step : ∀ d a h n, I d a h n → wpC P c (loopK (fun a' h' n' => ∃ d', d' < d ∧ I d' a' h' n') K) a h n) {d : Nat} {a : List AV} {h : Heap} {n : Nat} (h0 : I d a h n) : loopW P c K a h n := by
  obtain ⟨k, e, a2, h2, n2, h3, h4⟩ := loopW_fuel hm I step d a h n h0
  exact ⟨e, a2, h2, n2, EvL.done h3, h4⟩

/-- One round of a loop. -/
theorem loopW_unroll {c : Code} (hm : P.follows .mixedOrders = true) {K : KC} {a : List AV} {h : Heap} {n : Nat} (hw : wpC P c (loopK (fun a h n => ∃ k e a' h' n', EvL P c k a h n e a' h' n' ∧ K e a' h' n') K) a h n) :
    ∃ k e a' h' n', EvL P c k a h n e a' h' n' ∧ K e a' h' n' := by
  obtain ⟨e, a', h', n', h1, h2⟩ := wpC_ok hm c _ a h n hw
  by_cases he : e = .normal
  · subst he
    obtain ⟨k, e, a2, h2', n2, h3, h4⟩ := h2
    exact ⟨k + 1, e, a2, h2', n2, EvL.next h1 h3, h4⟩
  · exact ⟨1, e, a', h', n', EvL.out h1 he, by cases e <;> first | exact absurd rfl he | exact h2⟩

/-- A loop, round by round. -/
def roundW (P : Program) (c : Code) (K : KC) (a : List AV) (h : Heap) (n : Nat) : Prop := ∃ k e a' h' n', EvL P c k a h n e a' h' n' ∧ K e a' h' n'
theorem loopW_rounds {c : Code} {K : KC} {a : List AV} {h : Heap} {n : Nat} (hw : roundW P c K a h n) : loopW P c K a h n := by
  obtain ⟨k, e, a2, h2, n2, h3, h4⟩ := hw
  exact ⟨e, a2, h2, n2, EvL.done h3, h4⟩
theorem roundW_of {c : Code} (hm : P.follows .mixedOrders = true) {K : KC} {a : List AV} {h : Heap} {n : Nat} (hw : wpC P c (loopK (roundW P c K) K) a h n) : roundW P c K a h n := loopW_unroll hm hw

end
end Go.Eng
/- Engine, part 34: the steps, one by one. -/
namespace Go.Eng
open Go

section
variable {P : Program} {h : Heap} {n : Nat} {k : KT}

theorem ow {ro : ROp} {v : AV} {rd : List Nat} {eff : Eff} (he : aop P [] h n ro = some (v, rd, eff)) (hk : k v (applyEff n h eff) (n + eff.news)) : opW P ro h n k := by
  unfold opW; rw [he]; exact hk

theorem ow_mv {x : AV} (hk : k x h n) : opW P (.mv (.c x)) h n k := hk
theorem ow_pick_t {x y : AV} (hk : k x h n) : opW P (.pick (.c (.bool true)) (.c x) (.c y)) h n k := hk
theorem ow_pick_f {x y : AV} (hk : k y h n) : opW P (.pick (.c (.bool false)) (.c x) (.c y)) h n k := hk
theorem ow_new {e : Nat} {z : List AV} (hk : k (.ptr n 0) (upd h n (some (.cells e z))) (n + 1)) : opW P (.new e z) h n k := hk
theorem ow_box {x : AV} {cs : List AV} (hc : cellsA x = cs) (hk : k (.ptr n 0) (upd h n (some (.cells 0 cs))) (n + 1)) : opW P (.box (.c x)) h n k := by
  subst hc; exact hk
theorem ow_build {z : List AV} {ps : List (Nat × Nat × RX)} {cs : List AV} (hf : fillA z (ps.map fun p => (p.1, p.2.1, ev [] p.2.2)) = some cs) (hk : k (.agg cs) h n) : opW P (.build z ps) h n k :=
  ow (rd := []) (eff := .no) (by simp only [aop]; rw [hf]; rfl) hk
theorem ow_bsl {e len : Nat} {z : List AV} {ps : List (Nat × Nat × RX)} {cs : List AV} (hf : fillA (repl z len) (ps.map fun p => (p.1, p.2.1, ev [] p.2.2)) = some cs) (hk : k (.sl n 0 0 len (some len)) (upd h n (some (.cells e cs))) (n + 1)) : opW P (.bsl e z len ps) h n k :=
  ow (rd := []) (eff := .al (.cells e cs)) (by simp only [aop]; rw [hf]; rfl) hk
theorem ow_ld {g : Bool} {sz b off e : Nat} {cs : List AV} {v : AV} (hb : h b = some (.cells e cs)) (hp : partA g cs off sz = some v) (hk : k v h n) : opW P (.ld g sz (.c (.ptr b off))) h n k :=
  ow (rd := [b]) (eff := .no) (by simp only [aop, ev, hb, rdOf, hp]; rfl) hk
theorem ow_st {sz b off e : Nat} {cs vs cs' : List AV} {v : AV} (hb : h b = some (.cells e cs)) (hv : cellsA v = vs) (hl : vs.length = sz) (ho : off + sz ≤ cs.length) (h1 : vs.all one = true) (hs : splice cs off vs = cs')
    (hk : k undefA (upd h b (some (.cells e cs'))) n) : opW P (.st sz (.c (.ptr b off)) (.c v)) h n k := by
  subst hv; subst hs
  refine ow (v := undefA) (rd := [b]) (eff := .wr b off (cellsA v)) ?_ ?_
  · simp only [aop, ev, hb]; exact if_pos ⟨hl, ho, h1⟩
  · simp only [applyEff, hb]; exact hk
theorem ow_nck_p {b off : Nat} (hk : k (.ptr b off) h n) : opW P (.nck (.c (.ptr b off))) h n k := hk
theorem ow_nck_i {t : Nat} {v : AV} (hk : k (.iface t v) h n) : opW P (.nck (.c (.iface t v))) h n k := hk
theorem ow_nck_f {f : Nat} {p c : List AV} (hk : k (.fn (.func f) p c) h n) : opW P (.nck (.c (.fn (.func f) p c))) h n k := hk

theorem ow_bin {op : BinOp} {x y v : AV} (hb : binA op x y = some v) (hk : k v h n) : opW P (.bin op (.c x) (.c y)) h n k :=
  ow (rd := []) (eff := .no) (by simp only [aop, ev]; rw [hb]; rfl) hk

variable {K : IntKind} {x y : Int}
theorem binA_lss : binA .lss (.int K x) (.int K y) = some (.bool (decide (x < y))) := by simp [binA, binI]
theorem binA_leq : binA .leq (.int K x) (.int K y) = some (.bool (decide (x ≤ y))) := by simp [binA, binI]
theorem binA_gtr : binA .gtr (.int K x) (.int K y) = some (.bool (decide (x > y))) := by simp [binA, binI]
theorem binA_geq : binA .geq (.int K x) (.int K y) = some (.bool (decide (x ≥ y))) := by simp [binA, binI]
theorem binA_eql : binA .eql (.int K x) (.int K y) = some (.bool (decide (x = y))) := by
  simp only [binA, binI, if_true]; congr 2
theorem binA_neq : binA .neq (.int K x) (.int K y) = some (.bool (decide (x ≠ y))) := by
  simp only [binA, binI, if_true]; congr 2
  simp only [bne, ne_eq, decide_not]; congr 1

theorem ow_lss_t (hp : x < y) (hk : k (.bool true) h n) : opW P (.bin .lss (.c (.int K x)) (.c (.int K y))) h n k := ow_bin binA_lss (by rw [decide_eq_true hp]; exact hk)
theorem ow_lss_f (hp : y ≤ x) (hk : k (.bool false) h n) : opW P (.bin .lss (.c (.int K x)) (.c (.int K y))) h n k := ow_bin binA_lss (by rw [decide_eq_false (Int.not_lt.2 hp)]; exact hk)
theorem ow_lss (h1 : x < y → k (.bool true) h n) (h2 : y ≤ x → k (.bool false) h n) : opW P (.bin .lss (.c (.int K x)) (.c (.int K y))) h n k := by
  by_cases hp : x < y
  · exact ow_lss_t hp (h1 hp)
  · exact ow_lss_f (Int.not_lt.1 hp) (h2 (Int.not_lt.1 hp))
theorem ow_leq_t (hp : x ≤ y) (hk : k (.bool true) h n) : opW P (.bin .leq (.c (.int K x)) (.c (.int K y))) h n k := ow_bin binA_leq (by rw [decide_eq_true hp]; exact hk)
theorem ow_leq_f (hp : y < x) (hk : k (.bool false) h n) : opW P (.bin .leq (.c (.int K x)) (.c (.int K y))) h n k := ow_bin binA_leq (by rw [decide_eq_false (Int.not_le.2 hp)]; exact hk)
theorem ow_leq (h1 : x ≤ y → k (.bool true) h n) (h2 : y < x → k (.bool false) h n) : opW P (.bin .leq (.c (.int K x)) (.c (.int K y))) h n k := by
  by_cases hp : x ≤ y
  · exact ow_leq_t hp (h1 hp)
  · exact ow_leq_f (Int.not_le.1 hp) (h2 (Int.not_le.1 hp))
theorem ow_gtr_t (hp : y < x) (hk : k (.bool true) h n) : opW P (.bin .gtr (.c (.int K x)) (.c (.int K y))) h n k := ow_bin binA_gtr (by rw [decide_eq_true hp]; exact hk)
theorem ow_gtr_f (hp : x ≤ y) (hk : k (.bool false) h n) : opW P (.bin .gtr (.c (.int K x)) (.c (.int K y))) h n k := ow_bin binA_gtr (by rw [decide_eq_false (Int.not_lt.2 hp)]; exact hk)
theorem ow_gtr (h1 : y < x → k (.bool true) h n) (h2 : x ≤ y → k (.bool false) h n) : opW P (.bin .gtr (.c (.int K x)) (.c (.int K y))) h n k := by
  by_cases hp : y < x
  · exact ow_gtr_t hp (h1 hp)
  · exact ow_gtr_f (Int.not_lt.1 hp) (h2 (Int.not_lt.1 hp))
theorem ow_geq_t (hp : y ≤ x) (hk : k (.bool true) h n) : opW P (.bin .geq (.c (.int K x)) (.c (.int K y))) h n k := ow_bin binA_geq (by rw [decide_eq_true hp]; exact hk)
theorem ow_geq_f (hp : x < y) (hk : k (.bool false) h n) : opW P (.bin .geq (.c (.int K x)) (.c (.int K y))) h n k := ow_bin binA_geq (by rw [decide_eq_false (Int.not_le.2 hp)]; exact hk)
theorem ow_geq (h1 : y ≤ x → k (.bool true) h n) (h2 : x < y → k (.bool false) h n) : opW P (.bin .geq (.c (.int K x)) (.c (.int K y))) h n k := by
  by_cases hp : y ≤ x
  · exact ow_geq_t hp (h1 hp)
  · exact ow_geq_f (Int.not_le.1 hp) (h2 (Int.not_le.1 hp))
theorem ow_eql_t (hp : x = y) (hk : k (.bool true) h n) : opW P (.bin .eql (.c (.int K x)) (.c (.int K y))) h n k := ow_bin binA_eql (by rw [decide_eq_true hp]; exact hk)
theorem ow_eql_f (hp : x ≠ y) (hk : k (.bool false) h n) : opW P (.bin .eql (.c (.int K x)) (.c (.int K y))) h n k := ow_bin binA_eql (by rw [decide_eq_false hp]; exact hk)
theorem ow_eql (h1 : x = y → k (.bool true) h n) (h2 : x ≠ y → k (.bool false) h n) : opW P (.bin .eql (.c (.int K x)) (.c (.int K y))) h n k := by
  by_cases hp : x = y
  · exact ow_eql_t hp (h1 hp)
  · exact ow_eql_f hp (h2 hp)
theorem ow_neq_t (hp : x ≠ y) (hk : k (.bool true) h n) : opW P (.bin .neq (.c (.int K x)) (.c (.int K y))) h n k := ow_bin binA_neq (by rw [decide_eq_true hp]; exact hk)
theorem ow_neq_f (hp : x = y) (hk : k (.bool false) h n) : opW P (.bin .neq (.c (.int K x)) (.c (.int K y))) h n k := ow_bin binA_neq (by rw [decide_eq_false (fun hn => hn hp)]; exact hk)
theorem ow_neq (h1 : x ≠ y → k (.bool true) h n) (h2 : x = y → k (.bool false) h n) : opW P (.bin .neq (.c (.int K x)) (.c (.int K y))) h n k := by
  by_cases hp : x = y
  · exact ow_neq_f hp (h2 hp)
  · exact ow_neq_t hp (h1 hp)

theorem wrap_i64 {x : Int} (h1 : -9223372036854775808 ≤ x) (h2 : x < 9223372036854775808) : IntKind.i64.wrap x = x := by
  show (if (true && decide (x % 18446744073709551616 ≥ 9223372036854775808)) = true then x % 18446744073709551616 - 18446744073709551616 else x % 18446744073709551616) = x
  by_cases hc : x % 18446744073709551616 ≥ 9223372036854775808
  · rw [decide_eq_true hc]; simp only [Bool.and_true, if_true]; omega
  · rw [decide_eq_false hc]; simp only [Bool.and_false, Bool.false_eq_true, if_false]; omega

end
end Go.Eng
/- Engine, part 35: the steps, continued. -/
namespace Go.Eng
open Go

section
variable {P : Program} {h : Heap} {n : Nat} {k : KT} {K : IntKind} {x y : Int}

theorem binA_add : binA .add (.int K x) (.int K y) = some (.int K (K.wrap (x + y))) := by simp [binA, binI]
theorem binA_sub : binA .sub (.int K x) (.int K y) = some (.int K (K.wrap (x - y))) := by simp [binA, binI]
theorem binA_mul : binA .mul (.int K x) (.int K y) = some (.int K (K.wrap (x * y))) := by simp [binA, binI]
theorem ow_add_i {z : Int} (hz : x + y = z) (h1 : -9223372036854775808 ≤ z) (h2 : z < 9223372036854775808) (hk : k (.int .i64 z) h n) : opW P (.bin .add (.c (.int .i64 x)) (.c (.int .i64 y))) h n k := by
  subst hz; exact ow_bin binA_add (by rw [wrap_i64 h1 h2]; exact hk)
theorem ow_sub_i {z : Int} (hz : x - y = z) (h1 : -9223372036854775808 ≤ z) (h2 : z < 9223372036854775808) (hk : k (.int .i64 z) h n) : opW P (.bin .sub (.c (.int .i64 x)) (.c (.int .i64 y))) h n k := by
  subst hz; exact ow_bin binA_sub (by rw [wrap_i64 h1 h2]; exact hk)
theorem ow_mul_i {z : Int} (hz : x * y = z) (h1 : -9223372036854775808 ≤ z) (h2 : z < 9223372036854775808) (hk : k (.int .i64 z) h n) : opW P (.bin .mul (.c (.int .i64 x)) (.c (.int .i64 y))) h n k := by
  subst hz; exact ow_bin binA_mul (by rw [wrap_i64 h1 h2]; exact hk)
theorem ow_add (hk : k (.int K (K.wrap (x + y))) h n) : opW P (.bin .add (.c (.int K x)) (.c (.int K y))) h n k := ow_bin binA_add hk
theorem ow_sub (hk : k (.int K (K.wrap (x - y))) h n) : opW P (.bin .sub (.c (.int K x)) (.c (.int K y))) h n k := ow_bin binA_sub hk

theorem ow_rem (hy : y ≠ 0) (hk : k (.int K (x.tmod y)) h n) : opW P (.bin .rem (.c (.int K x)) (.c (.int K y))) h n k :=
  ow_bin (v := .int K (x.tmod y)) (by simp [binA, binI, hy]) hk
theorem ow_rem_nn (hx : 0 ≤ x) (hy : 0 < y) (hk : k (.int K (x % y)) h n) : opW P (.bin .rem (.c (.int K x)) (.c (.int K y))) h n k :=
  ow_rem (by omega) (by rw [Int.tmod_eq_emod_of_nonneg hx]; exact hk)
theorem ow_quo_nn (hx : 0 ≤ x) (hy : 0 < y) (hl : x < 9223372036854775808) (hk : k (.int .i64 (x / y)) h n) : opW P (.bin .quo (.c (.int .i64 x)) (.c (.int .i64 y))) h n k := by
  have hd : x / y ≤ x := Int.ediv_le_self _ hx
  have hd0 : 0 ≤ x / y := Int.ediv_nonneg hx (by omega)
  refine ow_bin (v := .int .i64 (x / y)) ?_ hk
  have hy' : y ≠ 0 := by omega
  simp only [binA, binI, if_true, hy', if_false]
  rw [Int.tdiv_eq_ediv_of_nonneg hx, wrap_i64 (by omega) (by omega)]

theorem ow_beq {g p q : Bool} (hk : k (.bool ((p == q) != g)) h n) : opW P (.beq g (.c (.bool p)) (.c (.bool q))) h n k := hk
theorem ow_beq_val {g p q r : Bool} (hr : ((p == q) != g) = r) (hk : k (.bool r) h n) : opW P (.beq g (.c (.bool p)) (.c (.bool q))) h n k := by subst hr; exact hk

theorem ow_peq_nn {g r : Bool} (hr : (true != g) = r) (hk : k (.bool r) h n) : opW P (.peq g (.c .nilp) (.c .nilp)) h n k := by subst hr; exact hk
theorem ow_peq_np {g r : Bool} {b o : Nat} (hr : (false != g) = r) (hk : k (.bool r) h n) : opW P (.peq g (.c .nilp) (.c (.ptr b o))) h n k := by subst hr; exact hk
theorem ow_peq_pn {g r : Bool} {b o : Nat} (hr : (false != g) = r) (hk : k (.bool r) h n) : opW P (.peq g (.c (.ptr b o)) (.c .nilp)) h n k := by subst hr; exact hk
theorem ow_ieq_nn {g r : Bool} (hr : (true != g) = r) (hk : k (.bool r) h n) : opW P (.ieq g (.c .nilif) (.c .nilif)) h n k := by subst hr; exact hk
theorem ow_ieq_ni {g r : Bool} {t : Nat} {v : AV} (hr : (false != g) = r) (hk : k (.bool r) h n) : opW P (.ieq g (.c .nilif) (.c (.iface t v))) h n k := by
  subst hr; cases v <;> exact hk
theorem ow_ieq_in {g r : Bool} {t : Nat} {v : AV} (hr : (false != g) = r) (hk : k (.bool r) h n) : opW P (.ieq g (.c (.iface t v)) (.c .nilif)) h n k := by
  subst hr; cases v <;> exact hk
theorem ow_seq_nn {g r : Bool} (hr : (true != g) = r) (hk : k (.bool r) h n) : opW P (.seq g (.c .nilsl) (.c .nilsl)) h n k := by subst hr; exact hk
theorem ow_seq_sn {g r : Bool} {b o l m : Nat} {c : Option Nat} (hr : (false != g) = r) (hk : k (.bool r) h n) : opW P (.seq g (.c (.sl b o l m c)) (.c .nilsl)) h n k := by subst hr; exact hk
theorem ow_aeq {g r s : Bool} {c : Nat} {p q : List AV} (hl : p.length = c) (he : eqCells p q = some r) (hr : (r != g) = s) (hk : k (.bool s) h n) : opW P (.aeq g c (.c (.agg p)) (.c (.agg q))) h n k := by
  subst hr
  exact ow (rd := []) (eff := .no) (by simp only [aop, ev, hl, if_true, he]; rfl) hk
theorem ow_not {b r : Bool} (hr : (!b) = r) (hk : k (.bool r) h n) : opW P (.un .not (.c (.bool b))) h n k := by subst hr; exact hk
theorem ow_neg {K : IntKind} (hk : k (.int K (K.wrap (0 - x))) h n) : opW P (.un .neg (.c (.int K x))) h n k := hk
theorem ow_conv {K' : IntKind} (hk : k (.int K' (K'.wrap x)) h n) : opW P (.conv K' (.c (.int K x))) h n k := hk
theorem ow_conv_i (h1 : -9223372036854775808 ≤ x) (h2 : x < 9223372036854775808) (hk : k (.int .i64 x) h n) : opW P (.conv .i64 (.c (.int K x))) h n k := ow_conv (by rw [wrap_i64 h1 h2]; exact hk)
theorem wrap_u64 {x : Int} (h1 : 0 ≤ x) (h2 : x < 18446744073709551616) : IntKind.u64.wrap x = x := by
  show (if (false && decide (x % 18446744073709551616 ≥ 9223372036854775808)) = true then x % 18446744073709551616 - 18446744073709551616 else x % 18446744073709551616) = x
  simp only [Bool.false_and, Bool.false_eq_true, if_false]; omega
theorem ow_conv_u (h1 : 0 ≤ x) (h2 : x < 18446744073709551616) (hk : k (.int .u64 x) h n) : opW P (.conv .u64 (.c (.int K x))) h n k := ow_conv (by rw [wrap_u64 h1 h2]; exact hk)
theorem ow_mki {t : Nat} {v : AV} (hk : k (.iface t v) h n) : opW P (.mki t (.c v)) h n k := hk
theorem ow_mkf {f : Fn} {p c : List RX} {p' c' : List AV} (hp : p.map (ev []) = p') (hc : c.map (ev []) = c') (hk : k (.fn f p' c') h n) : opW P (.mkf f p c) h n k := by
  subst hp; subst hc; exact hk
theorem ow_mks {e bytes : Nat} {z : List AV} {l c : Int} {K' : IntKind} (hl : 0 ≤ l) (hlc : l ≤ c) (hc : c * bytes ≤ 2 ^ 40) (hc' : c ≤ 2 ^ 40) (hz : z.length = e)
    (hk : k (.sl n 0 0 l.toNat (some c.toNat)) (upd h n (some (.cells e (repl z c.toNat)))) (n + 1)) : opW P (.mks e bytes z (.c (.int K l)) (.c (.int K' c))) h n k :=
  ow (v := .sl n 0 0 l.toNat (some c.toNat)) (rd := []) (eff := .al (.cells e (repl z c.toNat))) (by simp only [aop, ev]; exact if_pos ⟨hl, hlc, hc, hc', hz⟩) hk
theorem ow_fa {b o off z : Nat} (hz : o + off = z) (hk : k (.ptr b z) h n) : opW P (.fa off (.c (.ptr b o))) h n k := by subst hz; exact hk
theorem ow_fld {g : Bool} {off sz : Nat} {cs : List AV} {v : AV} (hp : partA g cs off sz = some v) (hk : k v h n) : opW P (.fld g off sz (.c (.agg cs))) h n k :=
  ow (rd := []) (eff := .no) (by simp only [aop, ev, hp]; rfl) hk
theorem ow_iaA {len e b o : Nat} {j : Int} {z : Nat} (h0 : 0 ≤ j) (h1 : j < (len : Int)) (hz : o + j.toNat * e = z) (hk : k (.ptr b z) h n) : opW P (.iaA len e (.c (.ptr b o)) (.c (.int K j))) h n k := by
  subst hz
  exact ow (rd := []) (eff := .no) (by simp only [aop, ev]; exact if_pos ⟨h0, h1⟩) hk
theorem ow_iaS {len e b o : Nat} {c : Option Nat} {j : Int} {z : Nat} (h0 : 0 ≤ j) (h1 : j < (len : Int)) (hz : o + j.toNat * e = z) (hk : k (.ptr b z) h n) : opW P (.iaS e (.c (.sl b o 0 len c)) (.c (.int K j))) h n k := by
  subst hz
  exact ow (rd := []) (eff := .no) (if_pos ⟨rfl, h0, h1⟩) hk
theorem ow_ixA {len e : Nat} {g : Bool} {cs : List AV} {j : Int} {v : AV} (h0 : 0 ≤ j) (h1 : j < (len : Int)) (hp : partA g cs (j.toNat * e) e = some v) (hk : k v h n) : opW P (.ixA len e g (.c (.agg cs)) (.c (.int K j))) h n k :=
  ow (rd := []) (eff := .no) (by simp only [aop, ev, hp]; exact if_pos ⟨h0, h1⟩) hk
theorem ow_ext {vs : List AV} {i : Nat} {v : AV} (hv : vs[i]? = some v) (hk : k v h n) : opW P (.ext (.c (.tup vs)) i) h n k :=
  ow (rd := []) (eff := .no) (by simp only [aop, ev, hv]; rfl) hk
theorem ow_len {v : AV} {m : Nat} (hl : lenA v = some m) (hk : k (.int .i64 m) h n) : opW P (.len (.c v)) h n k :=
  ow (rd := []) (eff := .no) (by simp only [aop, ev, hl]; rfl) hk
theorem ow_lenStr {s : ByteArray} (hk : k (.int .i64 s.size) h n) : opW P (.lenStr (.c (.str s))) h n k := hk
theorem ow_max (hk : k (.int K (if y > x then y else x)) h n) : opW P (.mx [.c (.int K x), .c (.int K y)]) h n k := hk
theorem ow_min (hk : k (.int K (if y < x then y else x)) h n) : opW P (.mn [.c (.int K x), .c (.int K y)]) h n k := hk

/-! ### Guards, tests, results, calls -/

theorem gw_run {g : Bool} {X : KT → Prop} (hk : X k) : grdW (.bool g) g X h n k := by
  cases g <;> exact hk
theorem gw_tf {X : KT → Prop} (hk : k undefA h n) : grdW (.bool true) false X h n k := hk
theorem gw_ft {X : KT → Prop} (hk : k undefA h n) : grdW (.bool false) true X h n k := hk
theorem gw_un {w : Bool} {X : KT → Prop} (hk : k undefA h n) : grdW undefA w X h n k := hk
theorem cw_t {X Y : Prop} (hk : X) : cndW (.bool true) X Y := hk
theorem cw_f {X Y : Prop} (hk : Y) : cndW (.bool false) X Y := hk
theorem ldR_of {g : Bool} {sz b off e : Nat} {cs : List AV} {v : AV} {c : AV → Prop} (hb : h b = some (.cells e cs)) (hp : partA g cs off sz = some v) (hk : c v) : ldR g sz (.ptr b off) h c := by
  simp only [ldR, hb, rdOf, Option.bind_some, hp]; exact hk
theorem cal {f : FuncId} {args : List AV} {v : AV} {h' : Heap} {n' : Nat} (hf : FEv P f args h n v h' n') (hk : k v h' n') : callW P f args h n k := ⟨v, h', n', hf, hk⟩
theorem cvw {f : FuncId} {args p c l : List AV} (hl : p ++ args ++ c = l) (hk : callW P f l h n k) : cvW P (.fn (.func f) p c) args h n k := by subst hl; exact hk

/-! ### In regions that draw their order -/

variable {j : Nat} {hs : List FP} {kf : KF}
theorem dow {ro : ROp} {v : AV} {rd : List Nat} {eff : Eff} (he : aop P [] h n ro = some (v, rd, eff)) (hm : meets hs ⟨j, rd, eff.wrs, n, n + eff.news, false⟩)
    (hk : kf v (applyEff n h eff) (n + eff.news) ⟨j, rd, eff.wrs, n, n + eff.news, false⟩) : dopW P j ro h n hs kf := by
  unfold dopW; rw [he]; exact ⟨hm, hk⟩
theorem dow_ld {g : Bool} {sz b off e : Nat} {cs : List AV} {v : AV} (hb : h b = some (.cells e cs)) (hp : partA g cs off sz = some v) (hm : meets hs ⟨j, [b], [], n, n, false⟩) (hk : kf v h n ⟨j, [b], [], n, n, false⟩) :
    dopW P j (.ld g sz (.c (.ptr b off))) h n hs kf :=
  dow (rd := [b]) (eff := .no) (by simp only [aop, ev, hb, rdOf, hp]; rfl) hm hk
theorem dow_new {e : Nat} {z : List AV} (hm : meets hs ⟨j, [], [], n, n + 1, false⟩) (hk : kf (.ptr n 0) (upd h n (some (.cells e z))) (n + 1) ⟨j, [], [], n, n + 1, false⟩) : dopW P j (.new e z) h n hs kf := ⟨hm, hk⟩
theorem dow_box {x : AV} {cs : List AV} (hc : cellsA x = cs) (hm : meets hs ⟨j, [], [], n, n + 1, false⟩) (hk : kf (.ptr n 0) (upd h n (some (.cells 0 cs))) (n + 1) ⟨j, [], [], n, n + 1, false⟩) : dopW P j (.box (.c x)) h n hs kf := by
  subst hc; exact ⟨hm, hk⟩
theorem dow_st {sz b off e : Nat} {cs vs cs' : List AV} {v : AV} (hb : h b = some (.cells e cs)) (hv : cellsA v = vs) (hl : vs.length = sz) (ho : off + sz ≤ cs.length) (h1 : vs.all one = true) (hs' : splice cs off vs = cs')
    (hm : meets hs ⟨j, [b], [b], n, n, false⟩) (hk : kf undefA (upd h b (some (.cells e cs'))) n ⟨j, [b], [b], n, n, false⟩) : dopW P j (.st sz (.c (.ptr b off)) (.c v)) h n hs kf := by
  subst hv; subst hs'
  refine dow (v := undefA) (rd := [b]) (eff := .wr b off (cellsA v)) ?_ hm ?_
  · simp only [aop, ev, hb]; exact if_pos ⟨hl, ho, h1⟩
  · simp only [applyEff, hb]; exact hk
theorem dow_bsl {e len : Nat} {z : List AV} {ps : List (Nat × Nat × RX)} {cs : List AV} (hf : fillA (repl z len) (ps.map fun p => (p.1, p.2.1, ev [] p.2.2)) = some cs) (hm : meets hs ⟨j, [], [], n, n + 1, false⟩)
    (hk : kf (.sl n 0 0 len (some len)) (upd h n (some (.cells e cs))) (n + 1) ⟨j, [], [], n, n + 1, false⟩) : dopW P j (.bsl e z len ps) h n hs kf :=
  dow (rd := []) (eff := .al (.cells e cs)) (by simp only [aop]; rw [hf]; rfl) hm hk
theorem dow_mks {e bytes : Nat} {z : List AV} {l c : Int} {K' : IntKind} (hl : 0 ≤ l) (hlc : l ≤ c) (hc : c * bytes ≤ 2 ^ 40) (hc' : c ≤ 2 ^ 40) (hz : z.length = e) (hm : meets hs ⟨j, [], [], n, n + 1, false⟩)
    (hk : kf (.sl n 0 0 l.toNat (some c.toNat)) (upd h n (some (.cells e (repl z c.toNat)))) (n + 1) ⟨j, [], [], n, n + 1, false⟩) : dopW P j (.mks e bytes z (.c (.int K l)) (.c (.int K' c))) h n hs kf :=
  dow (v := .sl n 0 0 l.toNat (some c.toNat)) (rd := []) (eff := .al (.cells e (repl z c.toNat))) (by simp only [aop, ev]; exact if_pos ⟨hl, hlc, hc, hc', hz⟩) hm hk
theorem dcal {f : FuncId} {args : List AV} {v : AV} {h' : Heap} {n' : Nat} (L : List Nat) (hf : FEv P f args h n v h' n') (h1 : ∀ x, n ≤ x → h x = none) (h2 : ∀ x, n' ≤ x → h' x = none) (h3 : ∀ x ∈ L, x < n ∧ (h x).isSome = true) (h4 : ∀ x, x < n → x ∉ L → h' x = h x)
    (hm : meets hs ⟨j, [], L, n, n', true⟩) (hk : kf v h' n' ⟨j, [], L, n, n', true⟩) : dcallW P j f args h n hs kf := ⟨v, h', n', L, hf, h1, h2, h3, h4, hm, hk⟩
/-- A call that leaves the heap as it is. -/
theorem dcal0 {f : FuncId} {args : List AV} {v : AV} (hf : FEv P f args h n v h n) (h1 : ∀ x, n ≤ x → h x = none) (hm : meets hs ⟨j, [], [], n, n, true⟩) (hk : kf v h n ⟨j, [], [], n, n, true⟩) : dcallW P j f args h n hs kf :=
  dcal [] hf h1 h1 (fun _ h => by cases h) (fun _ _ _ => rfl) hm hk
theorem dgw_run {g : Bool} {X : KF → Prop} (hk : X kf) : dgrdW j (.bool g) g X h n kf := by
  cases g <;> exact hk
theorem dgw_tf {X : KF → Prop} (hk : kf undefA h n ⟨j, [], [], n, n, false⟩) : dgrdW j (.bool true) false X h n kf := hk
theorem dgw_ft {X : KF → Prop} (hk : kf undefA h n ⟨j, [], [], n, n, false⟩) : dgrdW j (.bool false) true X h n kf := hk
theorem dgw_un {w : Bool} {X : KF → Prop} (hk : kf undefA h n ⟨j, [], [], n, n, false⟩) : dgrdW j undefA w X h n kf := hk

theorem fp_d {p : FP} {z : Nat} : p.d z = true ↔ z ∈ p.wr ∨ (p.lo ≤ z ∧ z < p.hi) := by simp [FP.d]
theorem fp_f {p : FP} {z : Nat} : p.f z = false ↔ z ∉ p.rd ∧ ¬ (p.lo ≤ z ∧ z < p.hi) ∧ ¬ (p.all = true ∧ z < p.lo) := by
  cases ha : p.all <;> by_cases h1 : z ∈ p.rd <;> by_cases h2 : p.lo ≤ z <;> by_cases h3 : z < p.hi <;> by_cases h4 : z < p.lo <;> simp [FP.f, ha, h1, h2, h3, h4]

theorem part_all {cs : List AV} {sz : Nat} (hl : cs.length = sz) : partA true cs 0 sz = some (.agg cs) := by
  subst hl
  simp [partA]
theorem splice_all {cs vs : List AV} (hl : vs.length = cs.length) : splice cs 0 vs = vs := by
  unfold splice
  rw [List.take_zero, List.nil_append, List.drop_eq_nil_of_le (by omega), List.append_nil]
theorem upd_get {b c : Nat} {q x : Option Blk} (hn : c ≠ b) (hx : h c = x) : upd h b q c = x := by rw [upd_ne _ _ hn]; exact hx

/-! ### Names given up -/

theorem FEv.weaken {f : FuncId} {args : List AV} {v : AV} {h' h0 : Heap} {n' : Nat} (hf : FEv P f args h n v h' n') (hs : ∀ b k, h0 b = some k → h' b = some k) : FEv P f args h n v h0 n' :=
  ⟨hf.1, fun U μ w K hav r ha hk => hf.2 U μ w K hav r ha fun μ' w' r' e hv => hk μ' w' (r'.restrict hs) (e.smaller hs) hv⟩

theorem fev_exact {f : FuncId} {args : List AV} {v : AV} {h0 : Heap} {n0 : Nat} (hw : callW P f args h n fun v' h' n' => v' = v ∧ h' = h0 ∧ n' = n0) : FEv P f args h n v h0 n0 := by
  obtain ⟨v', h', n', hf, rfl, rfl, rfl⟩ := hw
  exact hf

/-- A heap, and where new names begin. -/
structure Good (n : Nat) (h : Heap) : Prop where
  four : 4 ≤ n
  all : HBelow n h

theorem Good.none (g : Good n h) {x : Nat} (hx : n ≤ x) : h x = none := by
  cases hh : h x with
  | none => rfl
  | some k => have := (g.all x k hh).1; omega
theorem Good.lt (g : Good n h) {b : Nat} {q : Blk} (hb : h b = some q) : b < n := (g.all b q hb).1
theorem Good.bel (g : Good n h) {b : Nat} {q : Blk} (hb : h b = some q) : belowB n q = true := (g.all b q hb).2

mutual
theorem below_mono {m m' : Nat} (hm : m ≤ m') : ∀ v : AV, below m v = true → below m' v = true
  | .bool _, _ | .int _ _, _ | .str _, _ | .nilp, _ | .nilsl, _ | .nilfn, _ | .nilif, _ | .raw _, _ => rfl
  | .ptr b _, hv => Nat.ble_eq_true_of_le (Nat.le_trans (Nat.le_of_ble_eq_true hv) hm)
  | .sl b _ _ _ _, hv => Nat.ble_eq_true_of_le (Nat.le_trans (Nat.le_of_ble_eq_true hv) hm)
  | .mp b, hv => Nat.ble_eq_true_of_le (Nat.le_trans (Nat.le_of_ble_eq_true hv) hm)
  | .fn _ a c, hv => by
    simp only [below, Bool.and_eq_true] at hv ⊢
    exact ⟨belowL_mono hm a hv.1, belowL_mono hm c hv.2⟩
  | .iface _ v, hv => below_mono hm v hv
  | .agg cs, hv => belowL_mono hm cs hv
  | .tup cs, hv => belowL_mono hm cs hv
theorem belowL_mono {m m' : Nat} (hm : m ≤ m') : ∀ l : List AV, belowL m l = true → belowL m' l = true
  | [], _ => rfl
  | v :: vs, hv => by
    simp only [belowL, Bool.and_eq_true] at hv ⊢
    exact ⟨below_mono hm v hv.1, belowL_mono hm vs hv.2⟩
end
theorem belowB_mono {m m' : Nat} (hm : m ≤ m') {q : Blk} (hq : belowB m q = true) : belowB m' q = true := by
  cases q with
  | cells e cs => exact belowL_mono hm cs hq
  | ro cs => exact belowL_mono hm cs hq
  | mapo kv =>
    simp only [belowB, List.all_eq_true, Bool.and_eq_true] at hq ⊢
    exact fun p hp => ⟨below_mono hm _ (hq p hp).1, below_mono hm _ (hq p hp).2⟩
theorem Good.mono (g : Good n h) {m : Nat} (hm : n ≤ m) : Good m h :=
  ⟨by have := g.four; omega, fun b q hb => ⟨by have := (g.all b q hb).1; omega, belowB_mono hm (g.all b q hb).2⟩⟩
theorem Good.upd (g : Good n h) {b : Nat} {q : Blk} (hb : b < n) (hq : belowB n q = true) : Good n (upd h b (some q)) := by
  refine ⟨g.four, fun x p hx => ?_⟩
  by_cases hxb : x = b
  · subst hxb; rw [upd_same] at hx; cases hx; exact ⟨hb, hq⟩
  · rw [upd_ne _ _ hxb] at hx; exact g.all x p hx
theorem Good.new (g : Good n h) {q : Blk} (hq : belowB (n + 1) q = true) : Good (n + 1) (Go.Eng.upd h n (some q)) := (g.mono (by omega)).upd (by omega) hq

/-- A function that leaves the heap as it was. -/
theorem fev_same {f : FuncId} {args : List AV} {v : AV} (g : Good n h) (hG : P.globals.size ≤ 4) (ha : belowL n args = true) (hv : below n v = true)
    (hw : callW P f args h n fun v' h' _ => v' = v ∧ ∀ x, x < n → h' x = h x) (m : Nat) : FEv P f args h m v h m := by
  obtain ⟨v', h', n', hf, rfl, hs⟩ := hw
  exact hf.forget (by have := g.four; omega) ha g.all hv (fun b k hb => by rw [hs b (g.lt hb)]; exact hb) g.all m

/-- A function that turns what it finds, and keeps no new name. -/
theorem fev_turn {f : FuncId} {args : List AV} {v : AV} {h0 : Heap} (g : Good n h) (hG : P.globals.size ≤ 4) (ha : belowL n args = true) (hv : below n v = true) (g0 : Good n h0)
    (hw : callW P f args h n fun v' h' _ => v' = v ∧ ∀ x, x < n → h' x = h0 x) (m : Nat) : FEv P f args h m v h0 m := by
  obtain ⟨v', h', n', hf, rfl, hs⟩ := hw
  exact hf.forget (by have := g.four; omega) ha g.all hv (fun b k hb => by rw [hs b (g0.lt hb)]; exact hb) g0.all m

/-- A function that hands on new names. -/
theorem fev_news {f : FuncId} {args : List AV} {v : AV} {h0 : Heap} {n0 : Nat} (hw : callW P f args h n fun v' h' n' => v' = v ∧ n' = n0 ∧ ∀ b k, h0 b = some k → h' b = some k) : FEv P f args h n v h0 n0 := by
  obtain ⟨v', h', n', hf, rfl, rfl, hs⟩ := hw
  exact hf.weaken hs

/-- A function of which no new name is kept. -/
theorem fev_of {f : FuncId} {args : List AV} {v : AV} {h0 : Heap} (hG : P.globals.size ≤ n) (ha : belowL n args = true) (hh : HBelow n h) (hv : below n v = true) (hb : HBelow n h0)
    (hw : callW P f args h n fun v' h' _ => v' = v ∧ ∀ b k, h0 b = some k → h' b = some k) (m : Nat) : FEv P f args h m v h0 m := by
  obtain ⟨v', h', n', hf, rfl, hs⟩ := hw
  exact hf.forget hG ha hh hv hs hb m

end
end Go.Eng
/- Rows of cells, one behind the other. -/
namespace Go.Eng
open Go

/-- n rows, one behind the other. -/
def enc {α : Type} (row : α → List AV) (n : Nat) (L : Nat → α) : List AV := (List.range n).flatMap fun i => row (L i)

def setF {α : Type} (L : Nat → α) (i : Nat) (c : α) : Nat → α := fun j => if j = i then c else L j
@[simp] theorem setF_same {α : Type} (L : Nat → α) (i : Nat) (c : α) : setF L i c i = c := by simp [setF]
theorem setF_ne {α : Type} (L : Nat → α) {i j : Nat} (c : α) (h : j ≠ i) : setF L i c j = L j := by simp [setF, h]

section
variable {α : Type} {row : α → List AV} {w : Nat}

theorem enc_zero (L : Nat → α) : enc row 0 L = [] := rfl
theorem enc_succ (n : Nat) (L : Nat → α) : enc row (n + 1) L = enc row n L ++ row (L n) := by
  simp [enc, List.range_succ, List.flatMap_append]

theorem enc_length (hw : ∀ x, (row x).length = w) (n : Nat) (L : Nat → α) : (enc row n L).length = n * w := by
  induction n with
  | zero => simp [enc_zero]
  | succ n ih => rw [enc_succ, List.length_append, ih, hw, Nat.succ_mul]

theorem enc_getElem? (hw : ∀ x, (row x).length = w) (h0 : 0 < w) (n : Nat) (L : Nat → α) (k : Nat) : (enc row n L)[k]? = if k < n * w then (row (L (k / w)))[k % w]? else none := by
  induction n with
  | zero => simp [enc_zero]
  | succ n ih =>
    rw [enc_succ, List.getElem?_append, enc_length hw, ih]
    have e : (n + 1) * w = n * w + w := Nat.succ_mul n w
    by_cases h1 : k < n * w
    · rw [if_pos h1, if_pos h1, if_pos (by omega)]
    · rw [if_neg h1]
      by_cases h2 : k < (n + 1) * w
      · rw [if_pos h2]
        have h3 : k / w = n := by
          refine Nat.div_eq_of_lt_le ?_ ?_
          · omega
          · omega
        have h4 : k % w = k - n * w := by
          have := Nat.div_add_mod k w
          rw [h3, Nat.mul_comm] at this
          omega
        rw [h3, h4]
      · rw [if_neg h2, List.getElem?_eq_none]
        rw [hw]; omega

theorem mul_add_div' (h0 : 0 < w) {i f : Nat} (hf : f < w) : (i * w + f) / w = i := by
  rw [Nat.mul_comm, Nat.mul_add_div h0, Nat.div_eq_of_lt hf, Nat.add_zero]
theorem mul_add_mod' {i f : Nat} (hf : f < w) : (i * w + f) % w = f := by
  rw [Nat.mul_comm, Nat.mul_add_mod, Nat.mod_eq_of_lt hf]
theorem row_lt {i n f : Nat} (hi : i < n) (hf : f < w) : i * w + f < n * w := by
  have : (i + 1) * w ≤ n * w := Nat.mul_le_mul_right w hi
  rw [Nat.succ_mul] at this; omega

theorem enc_get (hw : ∀ x, (row x).length = w) {n i f : Nat} (L : Nat → α) (hi : i < n) (hf : f < w) : (enc row n L)[i * w + f]? = (row (L i))[f]? := by
  rw [enc_getElem? hw (by omega), if_pos (row_lt hi hf), mul_add_div' (by omega) hf, mul_add_mod' hf]

theorem enc_take (hw : ∀ x, (row x).length = w) {n i : Nat} (L : Nat → α) (hi : i < n) : ((enc row n L).drop (i * w)).take w = row (L i) := by
  refine List.ext_getElem? fun k => ?_
  rw [List.getElem?_take]
  split
  · rename_i hk
    rw [List.getElem?_drop, enc_get hw L hi hk]
  · rename_i hk
    rw [List.getElem?_eq_none]
    rw [hw]; omega

theorem enc_sub (hw : ∀ x, (row x).length = w) (h0 : 0 < w) {n i m : Nat} (L : Nat → α) (hi : i + m ≤ n) : ((enc row n L).drop (i * w)).take (m * w) = enc row m (fun j => L (i + j)) := by
  refine List.ext_getElem? fun k => ?_
  rw [List.getElem?_take, enc_getElem? hw h0]
  split
  · rename_i hk
    rw [List.getElem?_drop, enc_getElem? hw h0, if_pos]
    · have e1 : (i * w + k) / w = i + k / w := by rw [Nat.mul_comm, Nat.mul_add_div h0]
      have e2 : (i * w + k) % w = k % w := by rw [Nat.mul_comm, Nat.mul_add_mod]
      rw [e1, e2]
    · have : (i + m) * w ≤ n * w := Nat.mul_le_mul_right w hi
      rw [Nat.add_mul] at this; omega
  · rfl

theorem enc_ext {n : Nat} {L L' : Nat → α} (h : ∀ i, i < n → L i = L' i) : enc row n L = enc row n L' := by
  induction n with
  | zero => rfl
  | succ n ih => rw [enc_succ, enc_succ, ih fun i hi => h i (by omega), h n (by omega)]

theorem splice_enc (hw : ∀ x, (row x).length = w) {n i f : Nat} (L : Nat → α) (hi : i < n) {vs : List AV} {c : α} (hf : f + vs.length ≤ w)
    (hc : row c = (row (L i)).take f ++ (vs ++ (row (L i)).drop (f + vs.length))) : splice (enc row n L) (i * w + f) vs = enc row n (setF L i c) := by
  have hlen : i * w + f + vs.length ≤ (enc row n L).length := by
    rw [enc_length hw]
    have : (i + 1) * w ≤ n * w := Nat.mul_le_mul_right w hi
    rw [Nat.succ_mul] at this; omega
  refine List.ext_getElem? fun k => ?_
  by_cases h0 : 0 < w
  · rw [getElem?_splice _ _ _ hlen, enc_getElem? hw h0, enc_getElem? hw h0]
    have hdm := Nat.div_add_mod k w
    rw [Nat.mul_comm] at hdm
    have hml := Nat.mod_lt k h0
    by_cases hk : k / w = i
    · have hk2 : k = i * w + k % w := by rw [← hk]; omega
      have hlt : k < n * w := by rw [hk2]; exact row_lt hi hml
      have hcl : (row (L i)).length = w := hw _
      rw [if_pos hlt, if_pos hlt, hk, setF_same, hc]
      by_cases h1 : k % w < f
      · rw [if_pos (by omega), List.getElem?_append_left (by rw [List.length_take]; omega), List.getElem?_take, if_pos h1]
      · rw [if_neg (by omega)]
        rw [List.getElem?_append_right (by rw [List.length_take]; omega)]
        have e : (List.take f (row (L i))).length = f := by rw [List.length_take]; omega
        rw [e]
        by_cases h2 : k % w < f + vs.length
        · rw [if_pos (by omega), List.getElem?_append_left (by omega)]
          congr 1; omega
        · rw [if_neg (by omega), List.getElem?_append_right (by omega), List.getElem?_drop]
          congr 1; omega
    · rw [setF_ne _ _ hk]
      have : k < i * w ∨ (i + 1) * w ≤ k := by
        rcases Nat.lt_or_ge (k / w) i with h | h
        · left
          have : (k / w + 1) * w ≤ i * w := Nat.mul_le_mul_right w h
          rw [Nat.succ_mul] at this; omega
        · right
          have : (i + 1) * w ≤ (k / w) * w := Nat.mul_le_mul_right w (by omega)
          omega
      have e : (i + 1) * w = i * w + w := Nat.succ_mul i w
      rcases this with h | h
      · rw [if_pos (by omega)]
      · rw [if_neg (by omega), if_neg (by omega)]
  · have : w = 0 := by omega
    subst this
    have hv : vs = [] := List.eq_nil_of_length_eq_zero (by omega)
    have z : ∀ L' : Nat → α, enc row n L' = [] := fun L' => List.eq_nil_of_length_eq_zero (by rw [enc_length hw]; omega)
    rw [z, z]; subst hv
    simp [splice]

theorem splice_row (hw : ∀ x, (row x).length = w) {n i : Nat} (L : Nat → α) (hi : i < n) (c : α) : splice (enc row n L) (i * w) (row c) = enc row n (setF L i c) := by
  have := splice_enc hw L hi (f := 0) (vs := row c) (c := c) (by rw [hw]; omega) (by
    rw [List.take_zero, List.nil_append, List.drop_eq_nil_of_le (by rw [hw, hw]; omega), List.append_nil])
  simpa using this

theorem partA_row (hw : ∀ x, (row x).length = w) {n i : Nat} (L : Nat → α) (hi : i < n) : partA true (enc row n L) (i * w) w = some (.agg (row (L i))) := by
  simp [partA, enc_take hw L hi, hw]
theorem partA_field (hw : ∀ x, (row x).length = w) {n i f sz : Nat} (L : Nat → α) (hi : i < n) (hf : f < w) : partA false (enc row n L) (i * w + f) sz = (row (L i))[f]? := by
  simp only [partA, Bool.false_eq_true, if_false]
  exact enc_get hw L hi hf
theorem partA_sub (hw : ∀ x, (row x).length = w) (h0 : 0 < w) {n i m : Nat} (L : Nat → α) (hi : i + m ≤ n) : partA true (enc row n L) (i * w) (m * w) = some (.agg (enc row m fun j => L (i + j))) := by
  simp [partA, enc_sub hw h0 L hi, enc_length hw]

theorem belowL_append {m : Nat} {l l' : List AV} (h1 : belowL m l = true) (h2 : belowL m l' = true) : belowL m (l ++ l') = true := by
  induction l with
  | nil => exact h2
  | cons v l ih =>
    simp only [belowL, Bool.and_eq_true, List.cons_append] at h1 ⊢
    exact ⟨h1.1, ih h1.2⟩
theorem belowL_enc {m n : Nat} {L : Nat → α} (h : ∀ i, i < n → belowL m (row (L i)) = true) : belowL m (enc row n L) = true := by
  induction n with
  | zero => rfl
  | succ n ih => rw [enc_succ]; exact belowL_append (ih fun i hi => h i (by omega)) (h n (by omega))

end

theorem repl_enc {α : Type} {row : α → List AV} (c : α) (m : Nat) : repl (row c) m = enc row m fun _ => c := by
  induction m with
  | zero => rfl
  | succ m ih =>
    rw [enc_succ, ← ih]
    clear ih
    induction m with
    | zero => simp [repl]
    | succ m ih =>
      rw [show repl (row c) (m + 1 + 1) = row c ++ repl (row c) (m + 1) from rfl, ih, ← List.append_assoc]
      rw [show row c ++ repl (row c) m = repl (row c) (m + 1) from rfl, ih]

end Go.Eng
