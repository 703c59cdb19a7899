/- KernelNone: the row. -/
import Derived.Test.YthbbncgbbkcdgaaGreatDoorF6
import Derived.Test.YthbbncgbbkcdgaaGreatDoorF7
import Derived.Test.YthbbncgbbkcdgaaGreatDoorTie
import Derived.Test.YthbbncgbbkcdgaaGreatDoorCards
import Derived.SevenTiedAt
namespace Go.Proofs.YthbbncgbbkcdgaaGreatDoor
open Go Go.Eng Go.ChangeShapes Go.WideShapes Go.RowKit Go.Proofs.As0

theorem kernelNone_runs : fine (run ext2 21 [] mE) = true := by kernel_rfl

set_option maxRecDepth 100000 in
theorem kernelNone_lifted (os : Os) (started : os.Started) (H : Type) (enc : TypeId × Value → H) :
    ReturnsInHanded {} Tryz.checked os 21 .any (fun w args => (Rows.kernelNoneSpec.pre enc Tryz.prog Tryz.f21 [] false w args ∧ laidMetH Tryz.prog laidL w) ∧ sizedMet enc Tryz.prog Tryz.f21 (OpenSpec.ofChange Rows.kernelNoneSpec) false w args)
      (Rows.kernelNoneSpec.post enc Tryz.prog Tryz.f21 false true false false) := by
  refine returnsInHanded_of_change_and (C := Tryz.checked) (X := fun w _ => laidMetH Tryz.prog laidL w) (fun _ _ _ hh h => h.of_heap hh) own started (by kernel_rfl) Tryz.func21
    (ChangeSpec.witness_at (enc := enc) (C := Tryz.checked) (os := os) (X := fun w _ => laidMetH Tryz.prog laidL w) false (laidWorld os) #[] 8 rfl (by kernel_rfl) (by kernel_rfl) (by kernel_rfl) (by kernel_rfl) (by kernel_rfl) (laidWorld_met os _)) ?_
  intro W base args ds gs before hval0 hW _ _ hL _
  have hW' := hW
  obtain ⟨p, q, hA0, hV0, rfl, hfz, hnd⟩ := hW
  have hA : DataW.TrodAll enc Tryz.prog W 0 (fun _ => true) true Tryz.f21.params.toList args.toList ds p := hA0
  have hV : DataW.TrodVars enc Tryz.prog W (fun _ => true) [] gs q := hV0
  rw [Tryz.params21] at hA
  obtain ⟨ha, rfl, rfl⟩ := trodAll_nil hA
  have hargs : args = #[] := by apply Array.ext'; exact ha
  subst hargs
  have hg := handle_of_laid hL
  obtain ⟨rfl, rfl⟩ : gs = [] ∧ q = [] := by
    cases gs with
    | nil => exact ⟨rfl, hV⟩
    | cons g r => exact absurd hV (by intro h; cases h)
  obtain ⟨m', h1, _, h3⟩ := fine_eq kernelNone_runs
  have e1 : Rows.kernelNoneSpec.fn H ([] ++ []) = { results := [.lit (.bool true)], args := [] } := by simp [Rows.kernelNoneSpec]
  refine (law_of_run ext2_ok (by kernel_rfl) h1 h3 rfl hg).mono fun e W' ⟨he, hq⟩ => ?_
  subst he
  refine ⟨_, rfl, _, _, _, [], [], [], hW', ?_, ?_, ?_, hq.kept _, fun h => by cases h⟩
  · rw [e1]; exact trodAll_mk1 (shut_bool (by kernel_rfl) true)
  · rw [e1]; rfl
  · rw [e1]; rfl

theorem kernelNone_holds : Rows.KernelNoneSaid :=
  OpenClaim.holds_of_wide 21 Tryz.f21 rfl rfl rfl rfl rfl rfl rfl ⟨rfl, rfl, rfl, rfl, rfl⟩ rfl rfl rfl rfl rfl (by kernel_rfl) Tryz.func21 kernelNone_facts
    (of_decide_eq_true (by kernel_rfl)) (by unfold Func.isWrapper; rw [if_neg (of_decide_eq_false (by kernel_rfl))]; exact ⟨rfl, rfl⟩)
    (fun os started H enc _ => kernelNone_lifted os started H enc)
end Go.Proofs.YthbbncgbbkcdgaaGreatDoor
