/- The ends of a loop's round. -/
import Derived.Test.YthbbncgbbkcdgaaGreatDoorT13
set_option linter.unusedSimpArgs false
set_option linter.unusedVariables false
set_option linter.unnecessarySimpa false
namespace Go.Eng
open Go
section
variable {J : List AV → Heap → Nat → Prop} {K : KC} {i : Nat} {a : List AV} {h : Heap} {n : Nat}
theorem loopK_exit : loopK J K (.exit i) a h n = K (.exit i) a h n := rfl
theorem loopK_ret : loopK J K .ret a h n = K .ret a h n := rfl
theorem loopK_normal : loopK J K .normal a h n = J a h n := rfl
end
def inI (x : Int) : Prop := -9223372036854775808 ≤ x ∧ x < 9223372036854775808
def inU (x : Int) : Prop := 0 ≤ x ∧ x < 18446744073709551616
theorem inI_of {x : Int} (h : (Lit.int .i64 x).wf = true) : inI x := by
  simp [Lit.wf, IntKind.min, IntKind.max, IntKind.signed, IntKind.bits] at h
  unfold inI; omega
theorem inU_of {x : Int} (h : (Lit.int .u64 x).wf = true) : inU x := by
  simp [Lit.wf, IntKind.min, IntKind.max, IntKind.signed, IntKind.bits] at h
  unfold inU; omega
end Go.Eng
