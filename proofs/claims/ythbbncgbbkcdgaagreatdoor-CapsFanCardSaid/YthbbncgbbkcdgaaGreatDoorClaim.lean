/- For every input, CapsFan returns true; each argument reads behind the call as before. The variable errors.errorType is laid as the program's text lays it. -/
import Derived.Test.YthbbncgbbkcdgaaGreatDoorT10
import Derived.Test.YthbbncgbbkcdgaaGreatDoorT18
import Derived.Carry
import Derived.Test.YthbbncgbbkcdgaaGreatDoorTie
import Derived.Test.YthbbncgbbkcdgaaGreatDoorCards
import Derived.SevenTiedAt
set_option linter.unusedSimpArgs false
set_option linter.unusedVariables false
set_option linter.unnecessarySimpa false
namespace Go.Proofs.YthbbncgbbkcdgaaGreatDoor
open Go Go.Eng Go.ChangeShapes Go.WideShapes Go.RowKit Go.Proofs.As0
theorem capsFan_inPlace : (Rows.capsFanRow.inPlace == Tryz.prog.inPlace 12) = true := by kernel_rfl
theorem capsFan_unfollowed : (Rows.capsFanRow.unfollowed == Tryz.prog.unfollowed 12) = true := by kernel_rfl
theorem capsFan_recurses : (Rows.capsFanRow.recurses == Tryz.prog.recurses 12) = true := by kernel_rfl
theorem capsFan_named : (Rows.capsFanRow.named == Tryz.prog.varsNamed 12) = true := by kernel_rfl
theorem capsFan_facts : joinedFacts Tryz.prog 12 Tryz.f12 Rows.capsFanSpec Rows.capsFanRow = true :=
  joined_gen _ _ _ _ _ (by kernel_rfl) fact_laid fact_maps (by kernel_rfl) (by kernel_rfl) (by kernel_rfl) fact_stops (by kernel_rfl) fact_knobs capsFan_inPlace capsFan_unfollowed capsFan_recurses capsFan_named
    (by kernel_rfl) (by kernel_rfl) (by kernel_rfl) (by kernel_rfl) (by kernel_rfl) (by kernel_rfl) (by kernel_rfl) (by kernel_rfl) (by kernel_rfl) fact_keys (by kernel_rfl) fact_heard enter_fact lifted_fact make_fact (by kernel_rfl) (by kernel_rfl) (by kernel_rfl) (by kernel_rfl)
set_option maxRecDepth 100000 in
theorem capsFan_lifted (os : Os) (started : os.Started) (H : Type) (enc : TypeId × Value → H) :
    ReturnsInHanded {} Tryz.checked os 12 .any (fun w args => (Rows.capsFanSpec.pre enc Tryz.prog Tryz.f12 [] false w args ∧ laidMetH Tryz.prog laidL w) ∧ sizedMet enc Tryz.prog Tryz.f12 (OpenSpec.ofChange Rows.capsFanSpec) false w args)
      (Rows.capsFanSpec.post enc Tryz.prog Tryz.f12 false true false false) := by
  refine returnsInHanded_of_change_and (C := Tryz.checked) (X := fun w _ => laidMetH Tryz.prog laidL w) (fun _ _ _ hh h => h.of_heap hh) own started (by kernel_rfl) Tryz.func12
    (ChangeSpec.witness_at (enc := enc) (C := Tryz.checked) (os := os) (X := fun w _ => laidMetH Tryz.prog laidL w) false (laidWorld os) #[.int .i64 0, .int .i64 0] 8 rfl (by kernel_rfl) (by kernel_rfl) (by kernel_rfl) (by kernel_rfl) (by kernel_rfl) (laidWorld_met os _)) ?_
  intro W base args ds gs before hval0 hW _ _ hL _
  have hval : ∀ (j : Nat) t v, Tryz.f12.params[j]? = some t → args[j]? = some v → Value.okWide Tryz.prog W .any base t v := hval0
  have hW' := hW
  obtain ⟨p, q, hA0, hV0, rfl, hfz, hnd⟩ := hW
  have hA : DataW.TrodAll enc Tryz.prog W 0 (fun _ => true) true Tryz.f12.params.toList args.toList ds p := hA0
  have hV : DataW.TrodVars enc Tryz.prog W (fun _ => true) [] gs q := hV0
  rw [Tryz.params12] at hA hval
  obtain ⟨v0, v1, d0, d1, p0, p1, rfl, rfl, rfl, h0, h1⟩ := trodAll_two hA
  obtain ⟨x0, rfl, rfl, rfl, w0⟩ := open_int (k := .i64) (by kernel_rfl) (hval 0 3 v0 rfl rfl) h0
  obtain ⟨x1, rfl, rfl, rfl, w1⟩ := open_int (k := .i64) (by kernel_rfl) (hval 1 3 v1 rfl rfl) h1
  have hg := handle_of_laid hL
  obtain ⟨rfl, rfl⟩ : gs = [] ∧ q = [] := by
    cases gs with
    | nil => exact ⟨rfl, hV⟩
    | cons g r => exact absurd hV (by intro h; cases h)
  have e1 : Rows.capsFanSpec.fn H ([.lit (.int .i64 x0), .lit (.int .i64 x1)] ++ []) = { results := [.lit (.bool true)], args := [.lit (.int .i64 x0), .lit (.int .i64 x1)] } := by simp [Rows.capsFanSpec]
  obtain ⟨v, h1, n1, hf, hv⟩ := callW_elim (capsFan_law x0 x1 (inI_of w0) (inI_of w1))
  subst hv
  refine (law_calls (by kernel_rfl) hf rfl hg).mono fun e W' ⟨he, hq⟩ => ?_
  subst he
  refine ⟨_, rfl, _, _, _, [], [], [], hW', ?_, ?_, ?_, hq.kept _, fun h => by cases h⟩
  · rw [e1]; exact trodAll_mk1 (shut_bool (by kernel_rfl) true)
  · rw [e1]; exact trodAll_mk2 (shut_int (by kernel_rfl) w0) (shut_int (by kernel_rfl) w1)
  · rw [e1]; rfl
theorem capsFan_holds : Rows.CapsFanSaid :=
  OpenClaim.holds_of_wide 12 Tryz.f12 rfl rfl rfl rfl rfl rfl rfl ⟨rfl, rfl, rfl, rfl, rfl⟩ rfl rfl rfl rfl rfl (by kernel_rfl) Tryz.func12 capsFan_facts
    (of_decide_eq_true (by kernel_rfl)) (by unfold Func.isWrapper; rw [if_neg (of_decide_eq_false (by kernel_rfl))]; exact ⟨rfl, rfl⟩)
    (fun os started H enc _ => capsFan_lifted os started H enc)
theorem capsFan_looks : true = Tryz.prog.looks [] := by kernel_rfl
theorem capsFan_goes : false = Rows.capsFanRow.goesBy Tryz.prog := by kernel_rfl
theorem capsFan_wf : Rows.capsFanRow.wfByText (OpenSpec.ofChange Rows.capsFanSpec) = true := by kernel_rfl
theorem capsFan_funcNamed : Tryz.prog.funcNamed "messuage/messuagelaw11.CapsFan" = some 12 := by kernel_rfl
theorem capsFan_card : Rows.CapsFanCardSaid :=
  Claim7.holds_tied_plain_at .later [] [.handle] true (true, "d626847d8740dd9d26aa333608545da59ced25234dc50d46fbda0722bfac695a") true
    capsFan_holds (fun _ h => by cases h) capsFan_wf (fun _ h => by cases h) capsFan_row_tie rfl ⟨rfl, rfl⟩ main_fact rfl
    (fun f fn hf hfn => by
      obtain rfl : f = 12 := Option.some.inj (capsFan_funcNamed.symm.trans hf) |>.symm
      obtain rfl : fn = Tryz.f12 := (Option.some.inj (Tryz.func12.symm.trans hfn)).symm
      exact ⟨capsFan_looks, fun j t ht => by
        rw [Tryz.params12] at ht
        rcases j with _ | _ | j <;> simp at ht <;> (subst ht; kernel_rfl)⟩)
    capsFan_goes
#print axioms capsFan_card
end Go.Proofs.YthbbncgbbkcdgaaGreatDoor
