/- Engine, part 23: what the evaluator finds of regions holds. -/
import Derived.Test.YthbbncgbbkcdgaaGreatDoorE22
namespace Go.Eng
open Go

/-! ### Calls among the operations -/

theorem cop_call {P : Program} {type : TypeId} {op : Op} {f : Nat} {args : List RX} (h : cop P type op = some (.call f args)) :
    ∃ as ts, op = .call { callee := .value (.func f), args := as, argTypes := ts } ∧ args = as.toList.map cx := by
  unfold cop at h
  repeat' split at h
  all_goals (try simp only [Option.bind_eq_bind, Option.bind_eq_some_iff, Option.map_eq_some_iff, Option.some.injEq, reduceCtorEq, and_false, exists_false] at h)
  all_goals (try (repeat' split at h))
  all_goals (try simp only [Option.bind_eq_bind, Option.bind_eq_some_iff, Option.map_eq_some_iff, Option.some.injEq, reduceCtorEq, and_false, exists_false] at h)
  all_goals (try (obtain ⟨_, _, h⟩ := h; repeat' split at h))
  all_goals (try simp only [Option.bind_eq_bind, Option.bind_eq_some_iff, Option.map_eq_some_iff, Option.some.injEq, reduceCtorEq, and_false, exists_false] at h)
  all_goals (try (obtain ⟨_, _, h⟩ := h; repeat' split at h))
  all_goals (try simp only [Option.bind_eq_bind, Option.bind_eq_some_iff, Option.map_eq_some_iff, Option.some.injEq, reduceCtorEq, and_false, exists_false] at h)
  all_goals (try cases h)
  all_goals (rename_i hc; rename Call => c; obtain ⟨callee, as, ts⟩ := c; dsimp only at hc; subst hc; exact ⟨_, _, rfl, rfl⟩)

theorem cop_callv {P : Program} {type : TypeId} {op : Op} {g : RX} {args : List RX} (h : cop P type op = some (.callv g args)) :
    ∃ x as ts, op = .call { callee := .value x, args := as, argTypes := ts } ∧ args = as.toList.map cx ∧ g = cx x := by
  unfold cop at h
  repeat' split at h
  all_goals (try simp only [Option.bind_eq_bind, Option.bind_eq_some_iff, Option.map_eq_some_iff, Option.some.injEq, reduceCtorEq, and_false, exists_false] at h)
  all_goals (try (repeat' split at h))
  all_goals (try simp only [Option.bind_eq_bind, Option.bind_eq_some_iff, Option.map_eq_some_iff, Option.some.injEq, reduceCtorEq, and_false, exists_false] at h)
  all_goals (try (obtain ⟨_, _, h⟩ := h; repeat' split at h))
  all_goals (try simp only [Option.bind_eq_bind, Option.bind_eq_some_iff, Option.map_eq_some_iff, Option.some.injEq, reduceCtorEq, and_false, exists_false] at h)
  all_goals (try (obtain ⟨_, _, h⟩ := h; repeat' split at h))
  all_goals (try simp only [Option.bind_eq_bind, Option.bind_eq_some_iff, Option.map_eq_some_iff, Option.some.injEq, reduceCtorEq, and_false, exists_false] at h)
  all_goals (try cases h)
  all_goals (rename_i hc; rename Call => c; obtain ⟨callee, as, ts⟩ := c; dsimp only at hc; subst hc; exact ⟨_, _, _, rfl, rfl, rfl⟩)

theorem cop_inv {P : Program} {type : TypeId} {op : Op} {r : RX} {nm : String} {args : List RX} (h : cop P type op = some (.inv r nm args)) :
    ∃ x as ts, op = .call { callee := .invoke x nm, args := as, argTypes := ts } ∧ args = as.toList.map cx ∧ r = cx x := by
  unfold cop at h
  repeat' split at h
  all_goals (try simp only [Option.bind_eq_bind, Option.bind_eq_some_iff, Option.map_eq_some_iff, Option.some.injEq, reduceCtorEq, and_false, exists_false] at h)
  all_goals (try (repeat' split at h))
  all_goals (try simp only [Option.bind_eq_bind, Option.bind_eq_some_iff, Option.map_eq_some_iff, Option.some.injEq, reduceCtorEq, and_false, exists_false] at h)
  all_goals (try (obtain ⟨_, _, h⟩ := h; repeat' split at h))
  all_goals (try simp only [Option.bind_eq_bind, Option.bind_eq_some_iff, Option.map_eq_some_iff, Option.some.injEq, reduceCtorEq, and_false, exists_false] at h)
  all_goals (try (obtain ⟨_, _, h⟩ := h; repeat' split at h))
  all_goals (try simp only [Option.bind_eq_bind, Option.bind_eq_some_iff, Option.map_eq_some_iff, Option.some.injEq, reduceCtorEq, and_false, exists_false] at h)
  all_goals (try cases h)
  all_goals (rename_i hc; rename Call => c; obtain ⟨callee, as, ts⟩ := c; dsimp only at hc; subst hc; exact ⟨_, _, _, rfl, rfl, rfl⟩)

end Go.Eng
