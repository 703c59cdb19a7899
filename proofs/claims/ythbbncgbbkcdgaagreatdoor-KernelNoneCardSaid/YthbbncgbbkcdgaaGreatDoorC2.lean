/- KernelNone: the card. -/
import Derived.Test.YthbbncgbbkcdgaaGreatDoorC1
namespace Go.Proofs.YthbbncgbbkcdgaaGreatDoor
open Go

theorem looks_fact : true = Tryz.prog.looks [] := by kernel_rfl
theorem goes_fact : false = Rows.kernelNoneRow.goesBy Tryz.prog := by kernel_rfl
theorem wf_fact : Rows.kernelNoneRow.wfByText (OpenSpec.ofChange Rows.kernelNoneSpec) = true := by kernel_rfl
theorem named_fact : Tryz.prog.funcNamed "messuage/messuagelaw11.KernelNone" = some 21 := by kernel_rfl

/-- For every input, KernelNone returns true; each argument reads behind the call as before. The variable errors.errorType is laid as the program's text lays it. -/
theorem kernelNone_card : Rows.KernelNoneCardSaid :=
  Claim7.holds_tied_plain_at .later [] [.handle] true (true, "d626847d8740dd9d26aa333608545da59ced25234dc50d46fbda0722bfac695a") true
    kernelNone_holds (fun _ h => by cases h) wf_fact (fun _ h => by cases h) kernelNone_row_tie rfl ⟨rfl, rfl⟩ main_fact rfl
    (fun f fn hf hfn => by
      obtain rfl : f = 21 := Option.some.inj (named_fact.symm.trans hf) |>.symm
      obtain rfl : fn = Tryz.f21 := (Option.some.inj (Tryz.func21.symm.trans hfn)).symm
      exact ⟨looks_fact, fun j t ht => by
        rw [Tryz.params21] at ht
        simp at ht⟩)
    goes_fact
#print axioms kernelNone_card
end Go.Proofs.YthbbncgbbkcdgaaGreatDoor
