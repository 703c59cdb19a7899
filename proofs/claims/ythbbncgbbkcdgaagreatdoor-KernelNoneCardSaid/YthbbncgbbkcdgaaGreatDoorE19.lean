/- Engine, part 19: the abstract step, an arm a function. (Printed by gen_aopF.py from part 2.) -/
import Derived.Test.YthbbncgbbkcdgaaGreatDoorE18
namespace Go.Eng
open Go

def litA (x y : RX) : Bool := match x, y with
  | .c _, _ => true
  | _, .c _ => true
  | _, _ => false

def f_mv (x : AV) : Option (AV × List Nat × Eff) :=
  some (x, [], .no)

def f_pick (c : AV) (x : AV) (y : AV) : Option (AV × List Nat × Eff) :=
  match c with
    | .bool t => some (if t then x else y, [], .no)
    | _ => none

def f_new (n : Nat) (e : Nat) (z : List AV) : Option (AV × List Nat × Eff) :=
  some (.ptr n 0, [], .al (.cells e z))

def f_box (n : Nat) (x : AV) : Option (AV × List Nat × Eff) :=
  some (.ptr n 0, [], .al (.cells 0 (cellsA x)))

def f_build (z : List AV) (ps : List (Nat × Nat × AV)) : Option (AV × List Nat × Eff) :=
  (fillA z ps).map fun cs => (.agg cs, [], .no)

def f_bsl (n : Nat) (e : Nat) (z : List AV) (len : Nat) (ps : List (Nat × Nat × AV)) : Option (AV × List Nat × Eff) :=
  (fillA (repl z len) ps).map fun cs => (.sl n 0 0 len (some len), [], .al (.cells e cs))

def f_ld (P : Program) (h : Heap) (agg : Bool) (k : Nat) (x : AV) : Option (AV × List Nat × Eff) :=
  match x with
    | .ptr b off => match rdOf (h b) with
      | some cs => (partA agg cs off k).map fun v => (v, [b], .no)
      | none => none
    | .raw (.pointer (some ⟨g, 0, none⟩)) => if g < P.globals.size then match rdOf (h g) with
      | some cs => (partA agg cs 0 k).map fun v => (v, [g], .no)
      | none => none
      else none
    | _ => none

def f_st (h : Heap) (k : Nat) (x : AV) (v : AV) : Option (AV × List Nat × Eff) :=
  match x with
    | .ptr b off => match h b with
      | some (.cells _ cs) =>
        if (cellsA (v)).length = k ∧ off + k ≤ cs.length ∧ (cellsA (v)).all one then some (undefA, [b], .wr b off (cellsA (v))) else none
      | _ => none
    | _ => none

def f_nck (x : AV) : Option (AV × List Nat × Eff) :=
  match x with
    | .ptr b off => some (.ptr b off, [], .no)
    | .iface t v => some (.iface t v, [], .no)
    | .fn (.func f) p c => some (.fn (.func f) p c, [], .no)
    | _ => none

def f_bin (op : BinOp) (x : AV) (y : AV) : Option (AV × List Nat × Eff) :=
  (binA op x (y)).map fun v => (v, [], .no)

def f_beq (neg : Bool) (x : AV) (y : AV) : Option (AV × List Nat × Eff) :=
  match x, y with
    | .bool p, .bool q => some (.bool ((p == q) != neg), [], .no)
    | _, _ => none

def f_sbin (op : BinOp) (x : AV) (y : AV) : Option (AV × List Nat × Eff) :=
  (sbinA op x (y)).map fun v => (v, [], .no)

def f_peq (h : Heap) (neg : Bool) (x : AV) (y : AV) : Option (AV × List Nat × Eff) :=
  match x, y with
    | .nilp, .nilp => some (.bool (true != neg), [], .no)
    | .nilp, .ptr _ _ => some (.bool (false != neg), [], .no)
    | .ptr _ _, .nilp => some (.bool (false != neg), [], .no)
    | .ptr b o, .ptr b' o' => if b = b' then some (.bool ((o == o') != neg), [], .no) else
      match h b, h b' with
      | some (.cells _ _), some (.cells _ _) => some (.bool (false != neg), [b, b'], .no)
      | _, _ => none
    | _, _ => none

def f_ieq (P : Program) (h : Heap) (lit : Bool) (neg : Bool) (x : AV) (y : AV) : Option (AV × List Nat × Eff) :=
  match x, y with
    | .nilif, .nilif => match lit with
      | true => some (.bool (true != neg), [], .no)
      | false => none
    | .nilif, .iface _ _ => some (.bool (false != neg), [], .no)
    | .iface _ _, .nilif => some (.bool (false != neg), [], .no)
    | .iface t (.ptr b o), .iface t' (.ptr b' o') => if t ≠ t' then some (.bool (false != neg), [], .no) else
      match P.info? t, P.underlying t with
      | some i, some (.pointer e) => match P.info? e with
        | some j => if i.comparable = true ∧ j.size ≠ 0 then
            (if b = b' then some (.bool ((o == o') != neg), [], .no) else
              match h b, h b' with
              | some (.cells _ _), some (.cells _ _) => some (.bool (false != neg), [b, b'], .no)
              | _, _ => none)
          else none
        | none => none
      | _, _ => none
    | _, _ => none

def f_aeq (neg : Bool) (k : Nat) (x : AV) (y : AV) : Option (AV × List Nat × Eff) :=
  match x, y with
    | .agg p, .agg q => if p.length = k then (eqCells p q).map fun r => (.bool (r != neg), [], .no) else none
    | _, _ => none

def f_seq (neg : Bool) (x : AV) (y : AV) : Option (AV × List Nat × Eff) :=
  match x, y with
    | .nilsl, .nilsl => some (.bool (true != neg), [], .no)
    | .nilsl, .sl .. => some (.bool (false != neg), [], .no)
    | .sl .., .nilsl => some (.bool (false != neg), [], .no)
    | _, _ => none

def f_un (op : UnOp) (x : AV) : Option (AV × List Nat × Eff) :=
  match op, x with
    | .not, .bool b => some (.bool !b, [], .no)
    | .neg, .int k m => some (.int k (k.wrap (0 - m)), [], .no)
    | _, _ => none

def f_conv (k : IntKind) (x : AV) : Option (AV × List Nat × Eff) :=
  match x with
    | .int _ m => some (.int k (k.wrap m), [], .no)
    | _ => none

def f_mki (t : Nat) (x : AV) : Option (AV × List Nat × Eff) :=
  some (.iface t x, [], .no)

def f_mkf (f : Fn) (p : List AV) (c : List AV) : Option (AV × List Nat × Eff) :=
  some (.fn f (p) (c), [], .no)

def f_mks (n : Nat) (e : Nat) (bytes : Nat) (z : List AV) (l : AV) (c : AV) : Option (AV × List Nat × Eff) :=
  match l, c with
    | .int _ l, .int _ c => if 0 ≤ l ∧ l ≤ c ∧ c * bytes ≤ 2 ^ 40 ∧ c ≤ 2 ^ 40 ∧ z.length = e then some (.sl n 0 0 l.toNat (some c.toNat), [], .al (.cells e (repl z c.toNat))) else none
    | _, _ => none

def f_slc (h : Heap) (e : Nat) (x : AV) (lo : Option AV) (hi : Option AV) (mx : Option AV) : Option (AV × List Nat × Eff) :=
  (eszOk e h x).bind fun rd => (sliceA e x lo hi mx).map fun v => (v, rd, .no)

def f_slcS (h : Heap) (x : AV) (lo : Option AV) (hi : Option AV) : Option (AV × List Nat × Eff) :=
  match x with
    | .str s => (boundA hi s.size s.size).bind fun h => (boundA lo 0 h).map fun l => (.str (s.extract l h), [], .no)
    | _ => none

def f_fa (off : Nat) (x : AV) : Option (AV × List Nat × Eff) :=
  match x with
    | .ptr b o => some (.ptr b (o + off), [], .no)
    | _ => none

def f_fld (agg : Bool) (off : Nat) (k : Nat) (x : AV) : Option (AV × List Nat × Eff) :=
  match x with
    | .agg cs => (partA agg cs off k).map fun v => (v, [], .no)
    | _ => none

def f_iaA (len : Nat) (e : Nat) (x : AV) (i : AV) : Option (AV × List Nat × Eff) :=
  match x, i with
    | .ptr b o, .int _ j => if 0 ≤ j ∧ j < (len : Int) then some (.ptr b (o + j.toNat * e), [], .no) else none
    | _, _ => none

def f_iaS (e : Nat) (x : AV) (i : AV) : Option (AV × List Nat × Eff) :=
  match x, i with
    | .sl b o p len _, .int _ j => if p = 0 ∧ 0 ≤ j ∧ j < (len : Int) then some (.ptr b (o + j.toNat * e), [], .no) else none
    | _, _ => none

def f_ixA (len : Nat) (e : Nat) (agg : Bool) (x : AV) (i : AV) : Option (AV × List Nat × Eff) :=
  match x, i with
    | .agg cs, .int _ j => if 0 ≤ j ∧ j < (len : Int) then (partA agg cs (j.toNat * e) e).map fun v => (v, [], .no) else none
    | _, _ => none

def f_ixS (x : AV) (i : AV) : Option (AV × List Nat × Eff) :=
  match x, i with
    | .str s, .int _ j => if 0 ≤ j then (s[j.toNat]?).map fun (c : UInt8) => (.int .u8 c.toNat, [], .no) else none
    | _, _ => none

def f_taC (comma : Bool) (x : AV) (t : Nat) (z : AV) : Option (AV × List Nat × Eff) :=
  match x with
    | .iface t' v => if t' = t then some (if comma then .tup [v, .bool true] else v, [], .no) else if comma then some (.tup [z, .bool false], [], .no) else none
    | .nilif => if comma then some (.tup [z, .bool false], [], .no) else none
    | _ => none

def f_taI (P : Program) (comma : Bool) (x : AV) (want : Array (String × TypeId)) (z : AV) : Option (AV × List Nat × Eff) :=
  match x with
    | .iface t' v => (P.info? t').bind fun i => match Instr.missingMethod want i.methods with
      | none => some (if comma then .tup [.iface t' v, .bool true] else .iface t' v, [], .no)
      | some _ => if comma then some (.tup [z, .bool false], [], .no) else none
    | .nilif => if comma then some (.tup [z, .bool false], [], .no) else none
    | _ => none

def f_ext (x : AV) (i : Nat) : Option (AV × List Nat × Eff) :=
  match x with
    | .tup vs => (vs[i]?).map fun v => (v, [], .no)
    | _ => none

def f_len (x : AV) : Option (AV × List Nat × Eff) :=
  (lenA x).map fun (m : Nat) => (.int .i64 (m : Int), [], .no)

def f_lenStr (x : AV) : Option (AV × List Nat × Eff) :=
  match x with
    | .str s => some (.int .i64 s.size, [], .no)
    | _ => none

def f_cap (x : AV) : Option (AV × List Nat × Eff) :=
  match x with
    | .nilsl => some (.int .i64 0, [], .no)
    | .sl _ _ _ _ (some c) => some (.int .i64 c, [], .no)
    | _ => none

def f_app (h : Heap) (n : Nat) (e : Nat) (bytes : Nat) (s : AV) (x : AV) : Option (AV × List Nat × Eff) :=
  appA e bytes n h (s) x

def f_clr (h : Heap) (e : Nat) (z : List AV) (x : AV) : Option (AV × List Nat × Eff) :=
  match x with
    | .nilsl => some (undefA, [], .no)
    | .sl b off p len _ => if len = 0 then some (undefA, [], .no) else if p ≠ 0 then none else
      match h b with
      | some (.cells _ cs) => if off + len * e ≤ cs.length ∧ z.length = e ∧ z.all one then some (undefA, [b], .wr b off (repl z len)) else none
      | _ => none
    | _ => none

def f_mx (xs : List AV) : Option (AV × List Nat × Eff) :=
  match xs with
    | v :: l => (maxA v l).map fun v => (v, [], .no)
    | [] => none

def f_mn (xs : List AV) : Option (AV × List Nat × Eff) :=
  match xs with
    | v :: l => (minA v l).map fun v => (v, [], .no)
    | [] => none

def aopF (P : Program) (ee : RX → AV) (h : Heap) (n : Nat) : ROp → Option (AV × List Nat × Eff)
  | .mv x => f_mv (ee x)
  | .pick c x y => f_pick (ee c) (ee x) (ee y)
  | .new e z => f_new n e z
  | .box x => f_box n (ee x)
  | .build z ps => f_build z (ps.map fun p => (p.1, p.2.1, ee p.2.2))
  | .bsl e z len ps => f_bsl n e z len (ps.map fun p => (p.1, p.2.1, ee p.2.2))
  | .ld agg k x => f_ld P h agg k (ee x)
  | .st k x v => f_st h k (ee x) (ee v)
  | .nck x => f_nck (ee x)
  | .bin op x y => f_bin op (ee x) (ee y)
  | .beq neg x y => f_beq neg (ee x) (ee y)
  | .sbin op x y => f_sbin op (ee x) (ee y)
  | .peq neg x y => f_peq h neg (ee x) (ee y)
  | .ieq neg x y => f_ieq P h (litA x y) neg (ee x) (ee y)
  | .aeq neg k x y => f_aeq neg k (ee x) (ee y)
  | .seq neg x y => f_seq neg (ee x) (ee y)
  | .un op x => f_un op (ee x)
  | .conv k x => f_conv k (ee x)
  | .mki t x => f_mki t (ee x)
  | .mkf f p c => f_mkf f (p.map ee) (c.map ee)
  | .mks e bytes z l c => f_mks n e bytes z (ee l) (ee c)
  | .slc e x lo hi mx => f_slc h e (ee x) (lo.map ee) (hi.map ee) (mx.map ee)
  | .slcS x lo hi => f_slcS h (ee x) (lo.map ee) (hi.map ee)
  | .fa off x => f_fa off (ee x)
  | .fld agg off k x => f_fld agg off k (ee x)
  | .iaA len e x i => f_iaA len e (ee x) (ee i)
  | .iaS e x i => f_iaS e (ee x) (ee i)
  | .ixA len e agg x i => f_ixA len e agg (ee x) (ee i)
  | .ixS x i => f_ixS (ee x) (ee i)
  | .taC comma x t z => f_taC comma (ee x) t z
  | .taI comma x want z => f_taI P comma (ee x) want z
  | .ext x i => f_ext (ee x) i
  | .len x => f_len (ee x)
  | .lenStr x => f_lenStr (ee x)
  | .cap x => f_cap (ee x)
  | .app e bytes s x => f_app h n e bytes (ee s) (ee x)
  | .clr e z x => f_clr h e z (ee x)
  | .mx xs => f_mx (xs.map ee)
  | .mn xs => f_mn (xs.map ee)
  | .call .. | .callv .. | .inv .. | .bad => none

theorem aopF_eq (P : Program) (a : List AV) (h : Heap) (n : Nat) (ro : ROp) : aopF P (ev a) h n ro = aop P a h n ro := by
  cases ro <;> first
    | rfl
    | skip
  case ieq neg x y =>
    simp only [aopF, aop, f_ieq]
    cases x <;> cases y <;> simp only [litA] <;> rfl

end Go.Eng
