/- KernelNone: the row's closed facts. -/
import Derived.Test.YthbbncgbbkcdgaaGreatDoorF5
namespace Go.Proofs.YthbbncgbbkcdgaaGreatDoor
open Go
theorem kernelNone_inPlace : (Rows.kernelNoneRow.inPlace == Tryz.prog.inPlace 21) = true := by kernel_rfl
theorem kernelNone_unfollowed : (Rows.kernelNoneRow.unfollowed == Tryz.prog.unfollowed 21) = true := by kernel_rfl
theorem kernelNone_recurses : (Rows.kernelNoneRow.recurses == Tryz.prog.recurses 21) = true := by kernel_rfl
theorem kernelNone_named : (Rows.kernelNoneRow.named == Tryz.prog.varsNamed 21) = true := by kernel_rfl
theorem kernelNone_facts : joinedFacts Tryz.prog 21 Tryz.f21 Rows.kernelNoneSpec Rows.kernelNoneRow = true :=
  joined_gen _ _ _ _ _ (by kernel_rfl) fact_laid fact_maps (by kernel_rfl) (by kernel_rfl) (by kernel_rfl) fact_stops (by kernel_rfl) fact_knobs kernelNone_inPlace kernelNone_unfollowed kernelNone_recurses kernelNone_named
    (by kernel_rfl) (by kernel_rfl) (by kernel_rfl) (by kernel_rfl) (by kernel_rfl) (by kernel_rfl) (by kernel_rfl) (by kernel_rfl) (by kernel_rfl) fact_keys (by kernel_rfl) fact_heard enter_fact lifted_fact make_fact (by kernel_rfl) (by kernel_rfl) (by kernel_rfl) (by kernel_rfl)
end Go.Proofs.YthbbncgbbkcdgaaGreatDoor
