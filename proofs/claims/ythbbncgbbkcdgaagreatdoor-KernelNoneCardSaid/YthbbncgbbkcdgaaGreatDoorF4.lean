/- The closed facts of the rows: the head line's. -/
import Derived.Test.YthbbncgbbkcdgaaGreatDoorF3
namespace Go.Proofs.YthbbncgbbkcdgaaGreatDoor
open Go

theorem make_gen (P : Program) (c : List Char) (rest : List (List Char)) (h : behindMainWord (wordsSigns P.initOrder.toList) = c :: rest) (h1 : (c == "gc".toList) = false) (h2 : (c == "spec".toList) = false) (h3 : (c == "cut".toList) = true) :
    P.make = some .cut := by
  unfold Program.make
  rw [h]
  simp only [h1, h2, h3, Bool.or_self, Bool.true_or, Bool.false_eq_true, if_false, if_true]

theorem strip_gen (c : List Char) (rest : List (List Char)) : ∀ L : List String, (∀ o ∈ L, (c == o.toList) = false) → stripLifts L (c :: rest) = ([], c :: rest)
  | [], _ => rfl
  | o :: L, hl => by
    unfold stripLifts
    rw [hl o (by simp)]
    simp only [Bool.false_eq_true, if_false]
    exact strip_gen c rest L fun o ho => hl o (by simp [ho])

theorem enter_gen (P : Program) (c : List Char) (rest : List (List Char)) (h : behindMainWord (wordsSigns P.initOrder.toList) = c :: rest) (h1 : (c == "gc".toList) = false) (h2 : (c == "spec".toList) = false) (h3 : (some c == some "cut".toList) = true) (h4 : (c == "carried".toList) = false)
    (hs : stripLifts liftWords (c :: rest) = ([], c :: rest)) (hl : P.laysLater = false) (hr : P.bearsReflect = false) (hd : P.doorFits [] = true) : P.mayEnter = true := by
  unfold Program.mayEnter
  rw [h]
  simp only [hs, h1, h2, h4, hl, hr, hd, List.head?_cons, h3, Bool.not_false, Bool.or_true, Bool.and_true, Bool.true_and, Bool.or_self, Bool.false_and, Bool.false_or, List.contains_nil, Bool.not_true]

def tailWords : List (List Nat) := headWords.tail
def w1 : List Char := [99, 117, 116].map Char.ofNat
theorem hw : behindMainWord (wordsSigns Tryz.prog.initOrder.toList) = w1 :: tailWords.map (·.map Char.ofNat) := head_words
theorem a1 : (w1 == "gc".toList) = false := by kernel_rfl
theorem a2 : (w1 == "spec".toList) = false := by kernel_rfl
theorem a3 : (w1 == "cut".toList) = true := by kernel_rfl
theorem a4 : (w1 == "carried".toList) = false := by kernel_rfl
theorem a5 : (some w1 == some "cut".toList) = true := by kernel_rfl
theorem make_eq : Tryz.prog.make = some .cut := make_gen _ _ _ hw a1 a2 a3
theorem make_fact : (Tryz.prog.make == some .cut) = true := by rw [make_eq]; rfl
theorem lay_fact : Tryz.prog.laysLater = false := by kernel_rfl
theorem door_fact : Tryz.prog.doorFits [] = true := by kernel_rfl
theorem refl_fact : Tryz.prog.bearsReflect = false := by kernel_rfl
theorem lifts_are : liftWords.all (fun o => !(w1 == o.toList)) = true := by kernel_rfl
theorem enter_fact : Tryz.prog.mayEnter = true :=
  enter_gen _ _ _ hw a1 a2 a5 a4 (strip_gen _ _ _ fun o ho => by simpa using List.all_eq_true.1 lifts_are o ho) lay_fact refl_fact door_fact
end Go.Proofs.YthbbncgbbkcdgaaGreatDoor
