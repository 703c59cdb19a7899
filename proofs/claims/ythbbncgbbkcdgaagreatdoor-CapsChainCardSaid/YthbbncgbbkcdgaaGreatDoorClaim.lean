/- For every input, CapsChain returns true; each argument reads behind the call as before. The variable errors.errorType is laid as the program's text lays it. -/
import Derived.Test.YthbbncgbbkcdgaaGreatDoorT10
import Derived.Test.YthbbncgbbkcdgaaGreatDoorT18
import Derived.Carry
import Derived.Test.YthbbncgbbkcdgaaGreatDoorTie
import Derived.Test.YthbbncgbbkcdgaaGreatDoorCards
import Derived.SevenTiedAt
set_option linter.unusedSimpArgs false
set_option linter.unusedVariables false
set_option linter.unnecessarySimpa false
namespace Go.Proofs.YthbbncgbbkcdgaaGreatDoor
open Go Go.Eng Go.ChangeShapes Go.WideShapes Go.RowKit Go.Proofs.As0
theorem capsChain_inPlace : (Rows.capsChainRow.inPlace == Tryz.prog.inPlace 11) = true := by kernel_rfl
theorem capsChain_unfollowed : (Rows.capsChainRow.unfollowed == Tryz.prog.unfollowed 11) = true := by kernel_rfl
theorem capsChain_recurses : (Rows.capsChainRow.recurses == Tryz.prog.recurses 11) = true := by kernel_rfl
theorem capsChain_named : (Rows.capsChainRow.named == Tryz.prog.varsNamed 11) = true := by kernel_rfl
theorem capsChain_facts : joinedFacts Tryz.prog 11 Tryz.f11 Rows.capsChainSpec Rows.capsChainRow = true :=
  joined_gen _ _ _ _ _ (by kernel_rfl) fact_laid fact_maps (by kernel_rfl) (by kernel_rfl) (by kernel_rfl) fact_stops (by kernel_rfl) fact_knobs capsChain_inPlace capsChain_unfollowed capsChain_recurses capsChain_named
    (by kernel_rfl) (by kernel_rfl) (by kernel_rfl) (by kernel_rfl) (by kernel_rfl) (by kernel_rfl) (by kernel_rfl) (by kernel_rfl) (by kernel_rfl) fact_keys (by kernel_rfl) fact_heard enter_fact lifted_fact make_fact (by kernel_rfl) (by kernel_rfl) (by kernel_rfl) (by kernel_rfl)
set_option maxRecDepth 100000 in
theorem capsChain_lifted (os : Os) (started : os.Started) (H : Type) (enc : TypeId × Value → H) :
    ReturnsInHanded {} Tryz.checked os 11 .any (fun w args => (Rows.capsChainSpec.pre enc Tryz.prog Tryz.f11 [] false w args ∧ laidMetH Tryz.prog laidL w) ∧ sizedMet enc Tryz.prog Tryz.f11 (OpenSpec.ofChange Rows.capsChainSpec) false w args)
      (Rows.capsChainSpec.post enc Tryz.prog Tryz.f11 false true false false) := by
  refine returnsInHanded_of_change_and (C := Tryz.checked) (X := fun w _ => laidMetH Tryz.prog laidL w) (fun _ _ _ hh h => h.of_heap hh) own started (by kernel_rfl) Tryz.func11
    (ChangeSpec.witness_at (enc := enc) (C := Tryz.checked) (os := os) (X := fun w _ => laidMetH Tryz.prog laidL w) false (laidWorld os) #[.int .i64 0, .int .i64 0, .bool false] 8 rfl (by kernel_rfl) (by kernel_rfl) (by kernel_rfl) (by kernel_rfl) (by kernel_rfl) (laidWorld_met os _)) ?_
  intro W base args ds gs before hval0 hW _ _ hL _
  have hval : ∀ (j : Nat) t v, Tryz.f11.params[j]? = some t → args[j]? = some v → Value.okWide Tryz.prog W .any base t v := hval0
  have hW' := hW
  obtain ⟨p, q, hA0, hV0, rfl, hfz, hnd⟩ := hW
  have hA : DataW.TrodAll enc Tryz.prog W 0 (fun _ => true) true Tryz.f11.params.toList args.toList ds p := hA0
  have hV : DataW.TrodVars enc Tryz.prog W (fun _ => true) [] gs q := hV0
  rw [Tryz.params11] at hA hval
  obtain ⟨v0, v1, v2, d0, d1, d2, p0, p1, p2, rfl, rfl, rfl, h0, h1, h2⟩ := trodAll_three hA
  obtain ⟨x0, rfl, rfl, rfl, w0⟩ := open_int (k := .i64) (by kernel_rfl) (hval 0 3 v0 rfl rfl) h0
  obtain ⟨x1, rfl, rfl, rfl, w1⟩ := open_int (k := .i64) (by kernel_rfl) (hval 1 3 v1 rfl rfl) h1
  obtain ⟨x2, rfl, rfl, rfl⟩ := open_bool (by kernel_rfl) (hval 2 4 v2 rfl rfl) h2
  have hg := handle_of_laid hL
  obtain ⟨rfl, rfl⟩ : gs = [] ∧ q = [] := by
    cases gs with
    | nil => exact ⟨rfl, hV⟩
    | cons g r => exact absurd hV (by intro h; cases h)
  have e1 : Rows.capsChainSpec.fn H ([.lit (.int .i64 x0), .lit (.int .i64 x1), .lit (.bool x2)] ++ []) = { results := [.lit (.bool true)], args := [.lit (.int .i64 x0), .lit (.int .i64 x1), .lit (.bool x2)] } := by simp [Rows.capsChainSpec]
  obtain ⟨v, h1, n1, hf, hv⟩ := callW_elim (capsChain_law x0 x1 x2 (inI_of w0) (inI_of w1))
  subst hv
  refine (law_calls (by kernel_rfl) hf rfl hg).mono fun e W' ⟨he, hq⟩ => ?_
  subst he
  refine ⟨_, rfl, _, _, _, [], [], [], hW', ?_, ?_, ?_, hq.kept _, fun h => by cases h⟩
  · rw [e1]; exact trodAll_mk1 (shut_bool (by kernel_rfl) true)
  · rw [e1]; exact trodAll_mk3 (shut_int (by kernel_rfl) w0) (shut_int (by kernel_rfl) w1) (shut_bool (by kernel_rfl) x2)
  · rw [e1]; rfl
theorem capsChain_holds : Rows.CapsChainSaid :=
  OpenClaim.holds_of_wide 11 Tryz.f11 rfl rfl rfl rfl rfl rfl rfl ⟨rfl, rfl, rfl, rfl, rfl⟩ rfl rfl rfl rfl rfl (by kernel_rfl) Tryz.func11 capsChain_facts
    (of_decide_eq_true (by kernel_rfl)) (by unfold Func.isWrapper; rw [if_neg (of_decide_eq_false (by kernel_rfl))]; exact ⟨rfl, rfl⟩)
    (fun os started H enc _ => capsChain_lifted os started H enc)
theorem capsChain_looks : true = Tryz.prog.looks [] := by kernel_rfl
theorem capsChain_goes : false = Rows.capsChainRow.goesBy Tryz.prog := by kernel_rfl
theorem capsChain_wf : Rows.capsChainRow.wfByText (OpenSpec.ofChange Rows.capsChainSpec) = true := by kernel_rfl
theorem capsChain_funcNamed : Tryz.prog.funcNamed "messuage/messuagelaw11.CapsChain" = some 11 := by kernel_rfl
theorem capsChain_card : Rows.CapsChainCardSaid :=
  Claim7.holds_tied_plain_at .later [] [.handle] true (true, "d626847d8740dd9d26aa333608545da59ced25234dc50d46fbda0722bfac695a") true
    capsChain_holds (fun _ h => by cases h) capsChain_wf (fun _ h => by cases h) capsChain_row_tie rfl ⟨rfl, rfl⟩ main_fact rfl
    (fun f fn hf hfn => by
      obtain rfl : f = 11 := Option.some.inj (capsChain_funcNamed.symm.trans hf) |>.symm
      obtain rfl : fn = Tryz.f11 := (Option.some.inj (Tryz.func11.symm.trans hfn)).symm
      exact ⟨capsChain_looks, fun j t ht => by
        rw [Tryz.params11] at ht
        rcases j with _ | _ | _ | j <;> simp at ht <;> (subst ht; kernel_rfl)⟩)
    capsChain_goes
#print axioms capsChain_card
end Go.Proofs.YthbbncgbbkcdgaaGreatDoor
