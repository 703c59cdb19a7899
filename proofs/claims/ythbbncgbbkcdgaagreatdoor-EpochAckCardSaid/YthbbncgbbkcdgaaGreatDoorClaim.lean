/- For every input, EpochAck returns true; each argument reads behind the call as before. The variable errors.errorType is laid as the program's text lays it. -/
import Derived.Test.YthbbncgbbkcdgaaGreatDoorT10
import Derived.Test.YthbbncgbbkcdgaaGreatDoorT18
import Derived.Carry
import Derived.Test.YthbbncgbbkcdgaaGreatDoorTie
import Derived.Test.YthbbncgbbkcdgaaGreatDoorCards
import Derived.SevenTiedAt
set_option linter.unusedSimpArgs false
set_option linter.unusedVariables false
set_option linter.unnecessarySimpa false
namespace Go.Proofs.YthbbncgbbkcdgaaGreatDoor
open Go Go.Eng Go.ChangeShapes Go.WideShapes Go.RowKit Go.Proofs.As0
theorem epochAck_inPlace : (Rows.epochAckRow.inPlace == Tryz.prog.inPlace 4) = true := by kernel_rfl
theorem epochAck_unfollowed : (Rows.epochAckRow.unfollowed == Tryz.prog.unfollowed 4) = true := by kernel_rfl
theorem epochAck_recurses : (Rows.epochAckRow.recurses == Tryz.prog.recurses 4) = true := by kernel_rfl
theorem epochAck_named : (Rows.epochAckRow.named == Tryz.prog.varsNamed 4) = true := by kernel_rfl
theorem epochAck_facts : joinedFacts Tryz.prog 4 Tryz.f4 Rows.epochAckSpec Rows.epochAckRow = true :=
  joined_gen _ _ _ _ _ (by kernel_rfl) fact_laid fact_maps (by kernel_rfl) (by kernel_rfl) (by kernel_rfl) fact_stops (by kernel_rfl) fact_knobs epochAck_inPlace epochAck_unfollowed epochAck_recurses epochAck_named
    (by kernel_rfl) (by kernel_rfl) (by kernel_rfl) (by kernel_rfl) (by kernel_rfl) (by kernel_rfl) (by kernel_rfl) (by kernel_rfl) (by kernel_rfl) fact_keys (by kernel_rfl) fact_heard enter_fact lifted_fact make_fact (by kernel_rfl) (by kernel_rfl) (by kernel_rfl) (by kernel_rfl)
set_option maxRecDepth 100000 in
theorem epochAck_lifted (os : Os) (started : os.Started) (H : Type) (enc : TypeId × Value → H) :
    ReturnsInHanded {} Tryz.checked os 4 .any (fun w args => (Rows.epochAckSpec.pre enc Tryz.prog Tryz.f4 [] false w args ∧ laidMetH Tryz.prog laidL w) ∧ sizedMet enc Tryz.prog Tryz.f4 (OpenSpec.ofChange Rows.epochAckSpec) false w args)
      (Rows.epochAckSpec.post enc Tryz.prog Tryz.f4 false true false false) := by
  refine returnsInHanded_of_change_and (C := Tryz.checked) (X := fun w _ => laidMetH Tryz.prog laidL w) (fun _ _ _ hh h => h.of_heap hh) own started (by kernel_rfl) Tryz.func4
    (ChangeSpec.witness_at (enc := enc) (C := Tryz.checked) (os := os) (X := fun w _ => laidMetH Tryz.prog laidL w) false (laidWorld os) #[.int .i64 0, .int .i64 0, .int .i64 0] 8 rfl (by kernel_rfl) (by kernel_rfl) (by kernel_rfl) (by kernel_rfl) (by kernel_rfl) (laidWorld_met os _)) ?_
  intro W base args ds gs before hval0 hW _ _ hL _
  have hval : ∀ (j : Nat) t v, Tryz.f4.params[j]? = some t → args[j]? = some v → Value.okWide Tryz.prog W .any base t v := hval0
  have hW' := hW
  obtain ⟨p, q, hA0, hV0, rfl, hfz, hnd⟩ := hW
  have hA : DataW.TrodAll enc Tryz.prog W 0 (fun _ => true) true Tryz.f4.params.toList args.toList ds p := hA0
  have hV : DataW.TrodVars enc Tryz.prog W (fun _ => true) [] gs q := hV0
  rw [Tryz.params4] at hA hval
  obtain ⟨v0, v1, v2, d0, d1, d2, p0, p1, p2, rfl, rfl, rfl, h0, h1, h2⟩ := trodAll_three hA
  obtain ⟨x0, rfl, rfl, rfl, w0⟩ := open_int (k := .i64) (by kernel_rfl) (hval 0 3 v0 rfl rfl) h0
  obtain ⟨x1, rfl, rfl, rfl, w1⟩ := open_int (k := .i64) (by kernel_rfl) (hval 1 3 v1 rfl rfl) h1
  obtain ⟨x2, rfl, rfl, rfl, w2⟩ := open_int (k := .i64) (by kernel_rfl) (hval 2 3 v2 rfl rfl) h2
  have hg := handle_of_laid hL
  obtain ⟨rfl, rfl⟩ : gs = [] ∧ q = [] := by
    cases gs with
    | nil => exact ⟨rfl, hV⟩
    | cons g r => exact absurd hV (by intro h; cases h)
  have e1 : Rows.epochAckSpec.fn H ([.lit (.int .i64 x0), .lit (.int .i64 x1), .lit (.int .i64 x2)] ++ []) = { results := [.lit (.bool true)], args := [.lit (.int .i64 x0), .lit (.int .i64 x1), .lit (.int .i64 x2)] } := by simp [Rows.epochAckSpec]
  obtain ⟨v, h1, n1, hf, hv⟩ := callW_elim (epochAck_law x0 x1 x2 (inI_of w0) (inI_of w1) (inI_of w2))
  subst hv
  refine (law_calls (by kernel_rfl) hf rfl hg).mono fun e W' ⟨he, hq⟩ => ?_
  subst he
  refine ⟨_, rfl, _, _, _, [], [], [], hW', ?_, ?_, ?_, hq.kept _, fun h => by cases h⟩
  · rw [e1]; exact trodAll_mk1 (shut_bool (by kernel_rfl) true)
  · rw [e1]; exact trodAll_mk3 (shut_int (by kernel_rfl) w0) (shut_int (by kernel_rfl) w1) (shut_int (by kernel_rfl) w2)
  · rw [e1]; rfl
theorem epochAck_holds : Rows.EpochAckSaid :=
  OpenClaim.holds_of_wide 4 Tryz.f4 rfl rfl rfl rfl rfl rfl rfl ⟨rfl, rfl, rfl, rfl, rfl⟩ rfl rfl rfl rfl rfl (by kernel_rfl) Tryz.func4 epochAck_facts
    (of_decide_eq_true (by kernel_rfl)) (by unfold Func.isWrapper; rw [if_neg (of_decide_eq_false (by kernel_rfl))]; exact ⟨rfl, rfl⟩)
    (fun os started H enc _ => epochAck_lifted os started H enc)
theorem epochAck_looks : true = Tryz.prog.looks [] := by kernel_rfl
theorem epochAck_goes : false = Rows.epochAckRow.goesBy Tryz.prog := by kernel_rfl
theorem epochAck_wf : Rows.epochAckRow.wfByText (OpenSpec.ofChange Rows.epochAckSpec) = true := by kernel_rfl
theorem epochAck_funcNamed : Tryz.prog.funcNamed "messuage/messuagelaw11.EpochAck" = some 4 := by kernel_rfl
theorem epochAck_card : Rows.EpochAckCardSaid :=
  Claim7.holds_tied_plain_at .later [] [.handle] true (true, "d626847d8740dd9d26aa333608545da59ced25234dc50d46fbda0722bfac695a") true
    epochAck_holds (fun _ h => by cases h) epochAck_wf (fun _ h => by cases h) epochAck_row_tie rfl ⟨rfl, rfl⟩ main_fact rfl
    (fun f fn hf hfn => by
      obtain rfl : f = 4 := Option.some.inj (epochAck_funcNamed.symm.trans hf) |>.symm
      obtain rfl : fn = Tryz.f4 := (Option.some.inj (Tryz.func4.symm.trans hfn)).symm
      exact ⟨epochAck_looks, fun j t ht => by
        rw [Tryz.params4] at ht
        rcases j with _ | _ | _ | j <;> simp at ht <;> (subst ht; kernel_rfl)⟩)
    epochAck_goes
#print axioms epochAck_card
end Go.Proofs.YthbbncgbbkcdgaaGreatDoor
