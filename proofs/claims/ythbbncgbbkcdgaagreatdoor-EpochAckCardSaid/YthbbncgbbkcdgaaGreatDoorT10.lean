/- Engine at this program: from the evaluator's word on a law to the law's row. -/
import Derived.Test.YthbbncgbbkcdgaaGreatDoorT9
import Derived.Test.YthbbncgbbkcdgaaGreatDoorRows
import Derived.ChangeSame
import Derived.ChangeVars
import Derived.JoinedOf
import Derived.RowKit
import Derived.RowKitTokens
import Derived.LaidLaws
import Derived.LaidHandle
import Derived.Stop.Joined
set_option linter.unusedSimpArgs false
set_option linter.unusedVariables false
set_option linter.unnecessarySimpa false
namespace Go.Proofs.As0
open Go Go.Eng Go.ChangeShapes Go.WideShapes Go.RowKit

theorem own : ownKnob Tryz.prog.godebug = none := by kernel_rfl
theorem et : Tryz.prog.globalNamed "errors.errorType" = some 0 := by kernel_rfl
theorem rt : (Tryz.prog.cutTypes.find? (·.1 == "internal/reflectlite.rtype")).map (·.2) = some 251 := by kernel_rfl
theorem oneRow : ((List.range 325).filter fun t => Tryz.prog.rowNamed t [101, 114, 114, 111, 114]) = [146] := by kernel_rfl
theorem tsize : Tryz.prog.types.size = 325 := by kernel_rfl

abbrev laidL : List (String × DataW Unit) := [("errors.errorType", YthbbncgbbkcdgaaGreatDoor.Rows.laid_errors_errorType)]

/-- What the condition gives: the variable's one cell. -/
theorem handle_of_laid {W : World} (h : laidMetH Tryz.prog laidL W) : W.cell? ⟨0, 0, none⟩ = some (.iface 251 (.agg #[.pointer (some ⟨4, 146, none⟩)])) := by
  have h' : laidMet Tryz.prog [] W ∧ handlesMet Tryz.prog laidL W := h
  obtain ⟨name, u, ty, e1, e2, e3, e4, e5⟩ := h'.2 _ (List.mem_singleton.2 rfl)
  have en : name = [101, 114, 114, 111, 114] := (Option.some.inj e1).symm
  subst en
  obtain rfl := Option.some.inj (rt.symm.trans e2)
  have hm : ty ∈ (List.range 325).filter fun t => Tryz.prog.rowNamed t [101, 114, 114, 111, 114] := List.mem_filter.2 ⟨List.mem_range.2 (by rw [← tsize]; exact e3), e4⟩
  rw [oneRow] at hm
  obtain rfl := List.mem_singleton.1 hm
  have hh : typeHandle Tryz.prog 146 = .pointer (some ⟨4, 146, none⟩) := by kernel_rfl
  rw [hh] at e5
  simpa using World.var?_cell et e5 0

/-- A world that meets the condition. -/
noncomputable def laidWorld (os : Os) : World :=
  let w0 := World.holding Tryz.prog os ⟨#[], #[], []⟩
  { w0 with heap := w0.heap.modify 0 fun
      | .cells _ t frozen => .cells #[.iface 251 (.agg #[.pointer (some ⟨4, 146, none⟩)])] t frozen
      | o => o }
theorem laidWorld_met (os : Os) (args : Array Value) : laidMetH Tryz.prog laidL ((laidWorld os).forCall (fun _ _ => 0) ⟨#[], args, []⟩).memory :=
  laidMetH_of_parts (laidMet_nil _ _) (by kernel_rfl)

/-- What a law's call leaves. -/
structure Quiet (W W' : World) : Prop where
  os : W'.os = W.os
  output : W'.output = W.output
  size : W.heap.size ≤ W'.heap.size
  old : ∀ B, B < W.heap.size → W'.heap[B]? = W.heap[B]?

theorem Quiet.kept {W W' : World} (q : Quiet W W') (may : MemPlace → Prop) : W.keptBut W' may := by
  refine ⟨q.os, q.output, fun i hi => ?_⟩
  rw [q.old i hi]
  split
  · rename_i h1 h2
    rw [h1] at h2
    cases h2
    exact ⟨rfl, rfl, rfl, fun _ _ => rfl⟩
  · rename_i h1 h2
    rw [h1] at h2
    cases h2
    exact .inr ⟨rfl, rfl⟩
  · rfl

def mu0 : Map := fun b => ⟨b, 0, 0, 0⟩

theorem rel0 {W : World} (hg : W.cell? ⟨0, 0, none⟩ = some (.iface 251 (.agg #[.pointer (some ⟨4, 146, none⟩)]))) : Rel Tryz.prog.globals.size (fun x => x < 4) mu0 hE W := by
  rw [globals4]
  have hc : ∃ c ty fr, W.heap[0]? = some (.cells c ty fr) ∧ c[0]? = some (.iface 251 (.agg #[.pointer (some ⟨4, 146, none⟩)])) := by
    unfold World.cell? at hg
    split at hg
    · rename_i c ty fr hh
      refine ⟨c, ty, fr, hh, ?_⟩
      simpa using hg
    · cases hg
  obtain ⟨c, ty, fr, h1, h2⟩ := hc
  refine ⟨fun g hg => ⟨hg, rfl, rfl⟩, fun b k hb => ?_, fun b k hb => ?_, fun b k hb => ?_, fun b b' k k' hb hb' hw _ => ?_⟩
  all_goals (unfold hE at hb; split at hb; rotate_left; cases hb; rename_i e; subst e; cases hb)
  · decide
  · refine ⟨c, ty, fr, h1, fun i v hv => ?_⟩
    cases i with
    | zero => cases hv; simpa [mu0, conc, concL] using h2
    | succ i => cases hv
  · intro v hv
    rw [List.mem_singleton.1 hv]
    simp [vok, vokL]
  · cases hw

mutual
theorem vok_of_below0 {U : Nat → Prop} {μ : Map} : ∀ v : AV, below 0 v = true → vok U μ v
  | .bool _, _ | .int _ _, _ | .str _, _ | .nilp, _ | .nilsl, _ | .nilfn, _ | .nilif, _ | .raw _, _ => by simp [vok]
  | .ptr b _, h => absurd (blt_lt h) (Nat.not_lt_zero b)
  | .sl b _ _ _ _, h => absurd (blt_lt h) (Nat.not_lt_zero b)
  | .mp b, h => absurd (blt_lt h) (Nat.not_lt_zero b)
  | .fn f a c, hb => by
    simp only [below, Bool.and_eq_true] at hb
    simp only [vok]
    exact ⟨vokL_of_below0 a hb.1, vokL_of_below0 c hb.2⟩
  | .iface t v, h => by simp only [vok]; exact vok_of_below0 v h
  | .agg cs, h => by simp only [vok]; exact vokL_of_below0 cs h
  | .tup cs, h => by simp only [vok]; exact vokL_of_below0 cs h
theorem vokL_of_below0 {U : Nat → Prop} {μ : Map} : ∀ l : List AV, belowL 0 l = true → vokL U μ l
  | [], _ => by simp [vokL]
  | v :: vs, hb => by
    simp only [belowL, Bool.and_eq_true] at hb
    simp only [vokL]
    exact ⟨vok_of_below0 v hb.1, vokL_of_below0 vs hb.2⟩
end

theorem fev_calls {P : Program} {f : Nat} {args : List AV} {v : AV} {h h' : Heap} {n n' : Nat} (hc : callable P f = true) (hev : FEv P f args h n v h' n') {U : Nat → Prop} {μ : Map} {W : World} (hav : Avoid U n n') (r : Rel P.globals.size U μ h W) (ha : ∀ u ∈ args, vok U μ u) :
    Calls P f (args.map (conc μ)).toArray W fun e W' => ∃ μ', e = .returned (conc μ' v) ∧ Ext U μ h W (UI U n n') μ' h' W' := by
  have key := hev.2 U μ W (fun u W' => ∃ μ', u = conc μ' v ∧ Ext U μ h W (UI U n n') μ' h' W') hav r ha fun μ' W' r' e _ => ⟨μ', rfl, e⟩
  rw [run_callable hc] at key
  refine Calls.mono key fun e W' => ?_
  rintro ⟨u, rfl, μ', rfl, e⟩
  exact ⟨μ', rfl, e⟩

/-- A law of numbers and truths: what the evaluator says of it, the model does. -/
theorem law_calls {f : Nat} {args : List AV} (hc : callable Tryz.prog f = true) {h' : Heap} {n' : Nat} (hev : FEv Tryz.prog f args hE 4 (.bool true) h' n') (ha : belowL 0 args = true)
    {W : World} (hg : W.cell? ⟨0, 0, none⟩ = some (.iface 251 (.agg #[.pointer (some ⟨4, 146, none⟩)]))) :
    Calls Tryz.prog f (args.map (conc mu0)).toArray W fun e W' => e = .returned (.bool true) ∧ Quiet W W' := by
  refine Calls.mono (fev_calls hc hev (fun x h1 _ h2 => Nat.lt_irrefl _ (Nat.lt_of_lt_of_le h2 h1)) (rel0 hg) fun u hu => vok_of_below0 u (belowL_mem ha u hu)) fun e W' => ?_
  rintro ⟨μ', rfl, e⟩
  refine ⟨by simp [conc], e.os, e.output, e.size, fun B hB => e.frame B hB fun b k hb hw => ?_⟩
  unfold hE at hb
  split at hb
  · cases hb; cases hw
  · cases hb

/-- From the run. -/
theorem law_of_run {f : Nat} {args : List AV} {X : CallF} (hX : CallsOk Tryz.prog X) (hc : callable Tryz.prog f = true) {m' : M} (hr : run X f args mE = some (.bool true, m')) (hob : Obs m') (ha : belowL 0 args = true)
    {W : World} (hg : W.cell? ⟨0, 0, none⟩ = some (.iface 251 (.agg #[.pointer (some ⟨4, 146, none⟩)]))) :
    Calls Tryz.prog f (args.map (conc mu0)).toArray W fun e W' => e = .returned (.bool true) ∧ Quiet W W' := by
  obtain ⟨g, hf⟩ := run_ok hX _ _ _ _ _ mE_dom hr
  have := hf (fun _ => true) ⟨fun _ _ _ => rfl, fun _ _ _ => rfl⟩ hob
  rw [sub_all, sub_all, hE_get] at this
  exact law_calls hc this ha hg

end Go.Proofs.As0
/- The closed facts of the rows that are one for all of them: those that read the translation's head line. -/
namespace Go.Proofs.YthbbncgbbkcdgaaGreatDoor
open Go
set_option maxRecDepth 100000
/-- The head line's letters. -/
def headCodes : List Nat := [104, 97, 114, 110, 101, 115, 115, 32, 100, 54, 50, 54, 56, 52, 55, 100, 56, 55, 52, 48, 100, 100, 57, 100, 50, 54, 97, 97, 51, 51, 51, 54, 48, 56, 53, 52, 53, 100, 97, 53, 57, 99, 101, 100, 50, 53, 50, 51, 52, 100, 99, 53, 48, 100, 52, 54, 102, 98, 100, 97, 48, 55, 50, 50, 98, 102, 97, 99, 54, 57, 53, 97, 32, 99, 117, 116, 32, 97, 116, 32, 109, 101, 115, 115, 117, 97, 103, 101, 47, 109, 101, 115, 115, 117, 97, 103, 101, 108, 97, 119, 49, 49, 46, 80, 108, 97, 105, 110, 65, 112, 97, 114, 116, 32, 109, 101, 115, 115, 117, 97, 103, 101, 47, 109, 101, 115, 115, 117, 97, 103, 101, 108, 97, 119, 49, 49, 46, 69, 112, 111, 99, 104, 65, 99, 107, 32, 109, 101, 115, 115, 117, 97, 103, 101, 47, 109, 101, 115, 115, 117, 97, 103, 101, 108, 97, 119, 49, 49, 46, 85, 115, 101, 114, 83, 116, 97, 108, 101, 32, 109, 101, 115, 115, 117, 97, 103, 101, 47, 109, 101, 115, 115, 117, 97, 103, 101, 108, 97, 119, 49, 49, 46, 85, 115, 101, 114, 77, 111, 114, 101, 32, 109, 101, 115, 115, 117, 97, 103, 101, 47, 109, 101, 115, 115, 117, 97, 103, 101, 108, 97, 119, 49, 49, 46, 85, 115, 101, 114, 75, 105, 110, 100, 115, 32, 109, 101, 115, 115, 117, 97, 103, 101, 47, 109, 101, 115, 115, 117, 97, 103, 101, 108, 97, 119, 49, 49, 46, 80, 108, 97, 105, 110, 82, 101, 109, 97, 112, 32, 109, 101, 115, 115, 117, 97, 103, 101, 47, 109, 101, 115, 115, 117, 97, 103, 101, 108, 97, 119, 49, 49, 46, 69, 112, 111, 99, 104, 77, 97, 110, 121, 32, 109, 101, 115, 115, 117, 97, 103, 101, 47, 109, 101, 115, 115, 117, 97, 103, 101, 108, 97, 119, 49, 49, 46, 67, 97, 112, 115, 65, 108, 108, 32, 109, 101, 115, 115, 117, 97, 103, 101, 47, 109, 101, 115, 115, 117, 97, 103, 101, 108, 97, 119, 49, 49, 46, 67, 97, 112, 115, 67, 104, 97, 105, 110, 32, 109, 101, 115, 115, 117, 97, 103, 101, 47, 109, 101, 115, 115, 117, 97, 103, 101, 108, 97, 119, 49, 49, 46, 67, 97, 112, 115, 70, 97, 110, 32, 109, 101, 115, 115, 117, 97, 103, 101, 47, 109, 101, 115, 115, 117, 97, 103, 101, 108, 97, 119, 49, 49, 46, 80, 108, 97, 105, 110, 65, 108, 108, 111, 99, 32, 109, 101, 115, 115, 117, 97, 103, 101, 47, 109, 101, 115, 115, 117, 97, 103, 101, 108, 97, 119, 49, 49, 46, 80, 108, 97, 105, 110, 80, 114, 111, 116, 101, 99, 116, 32, 109, 101, 115, 115, 117, 97, 103, 101, 47, 109, 101, 115, 115, 117, 97, 103, 101, 108, 97, 119, 49, 49, 46, 80, 108, 97, 105, 110, 80, 97, 103, 101, 115, 32, 109, 101, 115, 115, 117, 97, 103, 101, 47, 109, 101, 115, 115, 117, 97, 103, 101, 108, 97, 119, 49, 49, 46, 80, 114, 101, 100, 65, 108, 108, 32, 109, 101, 115, 115, 117, 97, 103, 101, 47, 109, 101, 115, 115, 117, 97, 103, 101, 108, 97, 119, 49, 49, 46, 80, 108, 97, 105, 110, 70, 114, 101, 115, 104, 32, 109, 101, 115, 115, 117, 97, 103, 101, 47, 109, 101, 115, 115, 117, 97, 103, 101, 108, 97, 119, 49, 49, 46, 85, 115, 101, 114, 65, 108, 108, 32, 109, 101, 115, 115, 117, 97, 103, 101, 47, 109, 101, 115, 115, 117, 97, 103, 101, 108, 97, 119, 49, 49, 46, 80, 108, 97, 105, 110, 83, 104, 97, 114, 101, 32, 109, 101, 115, 115, 117, 97, 103, 101, 47, 109, 101, 115, 115, 117, 97, 103, 101, 108, 97, 119, 49, 49, 46, 80, 108, 97, 105, 110, 68, 114, 111, 112, 32, 109, 101, 115, 115, 117, 97, 103, 101, 47, 109, 101, 115, 115, 117, 97, 103, 101, 108, 97, 119, 49, 49, 46, 75, 101, 114, 110, 101, 108, 78, 111, 110, 101, 32, 109, 101, 115, 115, 117, 97, 103, 101, 47, 109, 101, 115, 115, 117, 97, 103, 101, 108, 97, 119, 49, 49, 46, 80, 108, 97, 105, 110, 65, 108, 108, 32, 109, 101, 115, 115, 117, 97, 103, 101, 47, 109, 101, 115, 115, 117, 97, 103, 101, 108, 97, 119, 49, 49, 46, 80, 108, 97, 105, 110, 69, 114, 114, 32, 109, 101, 115, 115, 117, 97, 103, 101, 47, 109, 101, 115, 115, 117, 97, 103, 101, 108, 97, 119, 49, 49, 46, 80, 108, 97, 105, 110, 67, 111, 112, 121]
theorem head_line : Tryz.prog.initOrder = String.ofList (headCodes.map Char.ofNat) := by kernel_rfl
theorem head_toList : Tryz.prog.initOrder.toList = headCodes.map Char.ofNat := by rw [head_line, String.toList_ofList]
/-- Its words behind the harness's sum: 'cut', 'at' .. -/
def headWords : List (List Nat) := [[99, 117, 116], [97, 116], [109, 101, 115, 115, 117, 97, 103, 101, 47, 109, 101, 115, 115, 117, 97, 103, 101, 108, 97, 119, 49, 49, 46, 80, 108, 97, 105, 110, 65, 112, 97, 114, 116], [109, 101, 115, 115, 117, 97, 103, 101, 47, 109, 101, 115, 115, 117, 97, 103, 101, 108, 97, 119, 49, 49, 46, 69, 112, 111, 99, 104, 65, 99, 107], [109, 101, 115, 115, 117, 97, 103, 101, 47, 109, 101, 115, 115, 117, 97, 103, 101, 108, 97, 119, 49, 49, 46, 85, 115, 101, 114, 83, 116, 97, 108, 101], [109, 101, 115, 115, 117, 97, 103, 101, 47, 109, 101, 115, 115, 117, 97, 103, 101, 108, 97, 119, 49, 49, 46, 85, 115, 101, 114, 77, 111, 114, 101], [109, 101, 115, 115, 117, 97, 103, 101, 47, 109, 101, 115, 115, 117, 97, 103, 101, 108, 97, 119, 49, 49, 46, 85, 115, 101, 114, 75, 105, 110, 100, 115], [109, 101, 115, 115, 117, 97, 103, 101, 47, 109, 101, 115, 115, 117, 97, 103, 101, 108, 97, 119, 49, 49, 46, 80, 108, 97, 105, 110, 82, 101, 109, 97, 112], [109, 101, 115, 115, 117, 97, 103, 101, 47, 109, 101, 115, 115, 117, 97, 103, 101, 108, 97, 119, 49, 49, 46, 69, 112, 111, 99, 104, 77, 97, 110, 121], [109, 101, 115, 115, 117, 97, 103, 101, 47, 109, 101, 115, 115, 117, 97, 103, 101, 108, 97, 119, 49, 49, 46, 67, 97, 112, 115, 65, 108, 108], [109, 101, 115, 115, 117, 97, 103, 101, 47, 109, 101, 115, 115, 117, 97, 103, 101, 108, 97, 119, 49, 49, 46, 67, 97, 112, 115, 67, 104, 97, 105, 110], [109, 101, 115, 115, 117, 97, 103, 101, 47, 109, 101, 115, 115, 117, 97, 103, 101, 108, 97, 119, 49, 49, 46, 67, 97, 112, 115, 70, 97, 110], [109, 101, 115, 115, 117, 97, 103, 101, 47, 109, 101, 115, 115, 117, 97, 103, 101, 108, 97, 119, 49, 49, 46, 80, 108, 97, 105, 110, 65, 108, 108, 111, 99], [109, 101, 115, 115, 117, 97, 103, 101, 47, 109, 101, 115, 115, 117, 97, 103, 101, 108, 97, 119, 49, 49, 46, 80, 108, 97, 105, 110, 80, 114, 111, 116, 101, 99, 116], [109, 101, 115, 115, 117, 97, 103, 101, 47, 109, 101, 115, 115, 117, 97, 103, 101, 108, 97, 119, 49, 49, 46, 80, 108, 97, 105, 110, 80, 97, 103, 101, 115], [109, 101, 115, 115, 117, 97, 103, 101, 47, 109, 101, 115, 115, 117, 97, 103, 101, 108, 97, 119, 49, 49, 46, 80, 114, 101, 100, 65, 108, 108], [109, 101, 115, 115, 117, 97, 103, 101, 47, 109, 101, 115, 115, 117, 97, 103, 101, 108, 97, 119, 49, 49, 46, 80, 108, 97, 105, 110, 70, 114, 101, 115, 104], [109, 101, 115, 115, 117, 97, 103, 101, 47, 109, 101, 115, 115, 117, 97, 103, 101, 108, 97, 119, 49, 49, 46, 85, 115, 101, 114, 65, 108, 108], [109, 101, 115, 115, 117, 97, 103, 101, 47, 109, 101, 115, 115, 117, 97, 103, 101, 108, 97, 119, 49, 49, 46, 80, 108, 97, 105, 110, 83, 104, 97, 114, 101], [109, 101, 115, 115, 117, 97, 103, 101, 47, 109, 101, 115, 115, 117, 97, 103, 101, 108, 97, 119, 49, 49, 46, 80, 108, 97, 105, 110, 68, 114, 111, 112], [109, 101, 115, 115, 117, 97, 103, 101, 47, 109, 101, 115, 115, 117, 97, 103, 101, 108, 97, 119, 49, 49, 46, 75, 101, 114, 110, 101, 108, 78, 111, 110, 101], [109, 101, 115, 115, 117, 97, 103, 101, 47, 109, 101, 115, 115, 117, 97, 103, 101, 108, 97, 119, 49, 49, 46, 80, 108, 97, 105, 110, 65, 108, 108], [109, 101, 115, 115, 117, 97, 103, 101, 47, 109, 101, 115, 115, 117, 97, 103, 101, 108, 97, 119, 49, 49, 46, 80, 108, 97, 105, 110, 69, 114, 114], [109, 101, 115, 115, 117, 97, 103, 101, 47, 109, 101, 115, 115, 117, 97, 103, 101, 108, 97, 119, 49, 49, 46, 80, 108, 97, 105, 110, 67, 111, 112, 121]]
theorem head_words : behindMainWord (wordsSigns Tryz.prog.initOrder.toList) = headWords.map (·.map Char.ofNat) := by
  rw [head_toList]
  kernel_rfl

theorem lifts_nil : Tryz.prog.headLifts = [] := by
  unfold Program.headLifts
  rw [head_words]
  kernel_rfl
theorem lifted_fact : (false == Tryz.prog.liftsFinal) = true := by
  unfold Program.liftsFinal
  rw [lifts_nil, head_words]
  kernel_rfl
end Go.Proofs.YthbbncgbbkcdgaaGreatDoor
/- The closed facts of the rows: the head line's. -/
namespace Go.Proofs.YthbbncgbbkcdgaaGreatDoor
open Go

theorem make_gen (P : Program) (c : List Char) (rest : List (List Char)) (h : behindMainWord (wordsSigns P.initOrder.toList) = c :: rest) (h1 : (c == "gc".toList) = false) (h2 : (c == "spec".toList) = false) (h3 : (c == "cut".toList) = true) :
    P.make = some .cut := by
  unfold Program.make
  rw [h]
  simp only [h1, h2, h3, Bool.or_self, Bool.true_or, Bool.false_eq_true, if_false, if_true]

theorem strip_gen (c : List Char) (rest : List (List Char)) : ∀ L : List String, (∀ o ∈ L, (c == o.toList) = false) → stripLifts L (c :: rest) = ([], c :: rest)
  | [], _ => rfl
  | o :: L, hl => by
    unfold stripLifts
    rw [hl o (by simp)]
    simp only [Bool.false_eq_true, if_false]
    exact strip_gen c rest L fun o ho => hl o (by simp [ho])

theorem enter_gen (P : Program) (c : List Char) (rest : List (List Char)) (h : behindMainWord (wordsSigns P.initOrder.toList) = c :: rest) (h1 : (c == "gc".toList) = false) (h2 : (c == "spec".toList) = false) (h3 : (some c == some "cut".toList) = true) (h4 : (c == "carried".toList) = false)
    (hs : stripLifts liftWords (c :: rest) = ([], c :: rest)) (hl : P.laysLater = false) (hr : P.bearsReflect = false) (hd : P.doorFits [] = true) : P.mayEnter = true := by
  unfold Program.mayEnter
  rw [h]
  simp only [hs, h1, h2, h4, hl, hr, hd, List.head?_cons, h3, Bool.not_false, Bool.or_true, Bool.and_true, Bool.true_and, Bool.or_self, Bool.false_and, Bool.false_or, List.contains_nil, Bool.not_true]

def tailWords : List (List Nat) := headWords.tail
def w1 : List Char := [99, 117, 116].map Char.ofNat
theorem hw : behindMainWord (wordsSigns Tryz.prog.initOrder.toList) = w1 :: tailWords.map (·.map Char.ofNat) := head_words
theorem a1 : (w1 == "gc".toList) = false := by kernel_rfl
theorem a2 : (w1 == "spec".toList) = false := by kernel_rfl
theorem a3 : (w1 == "cut".toList) = true := by kernel_rfl
theorem a4 : (w1 == "carried".toList) = false := by kernel_rfl
theorem a5 : (some w1 == some "cut".toList) = true := by kernel_rfl
theorem make_eq : Tryz.prog.make = some .cut := make_gen _ _ _ hw a1 a2 a3
theorem make_fact : (Tryz.prog.make == some .cut) = true := by rw [make_eq]; rfl
theorem lay_fact : Tryz.prog.laysLater = false := by kernel_rfl
theorem door_fact : Tryz.prog.doorFits [] = true := by kernel_rfl
theorem refl_fact : Tryz.prog.bearsReflect = false := by kernel_rfl
theorem lifts_are : liftWords.all (fun o => !(w1 == o.toList)) = true := by kernel_rfl
theorem enter_fact : Tryz.prog.mayEnter = true :=
  enter_gen _ _ _ hw a1 a2 a5 a4 (strip_gen _ _ _ fun o ho => by simpa using List.all_eq_true.1 lifts_are o ho) lay_fact refl_fact door_fact
end Go.Proofs.YthbbncgbbkcdgaaGreatDoor
/- The closed facts of the rows: those of the program as a whole; a row's facts put together. -/
namespace Go.Proofs.YthbbncgbbkcdgaaGreatDoor
open Go

theorem fact_laid : laidOutB Tryz.prog = true := by kernel_rfl
theorem fact_maps : mapsRowed Tryz.prog = true := by kernel_rfl
theorem fact_stops : (Tryz.prog.stops == []) = true := by kernel_rfl
theorem fact_knobs : (Tryz.prog.stopKnobs == []) = true := by kernel_rfl
theorem fact_keys : (true == Tryz.prog.plainKeys) = true := by kernel_rfl
theorem fact_heard : Tryz.prog.stopsHeard = true := by kernel_rfl

theorem joined_gen (P : Program) (f : FuncId) (fn : Func) (s : ChangeSpec) (c : OpenClaim)
    (h1 : c.wf (OpenSpec.ofChange s) = true) (h2 : laidOutB P = true) (h3 : mapsRowed P = true) (h4 : fn.params.all (P.readableRec ·) = true) (h5 : namedTie P c.named s.vars = true)
    (h6 : (c.stops == []) = true) (h7 : (P.stops == []) = true) (h8 : (c.knobs == []) = true) (h9 : (P.stopKnobs == []) = true)
    (h10 : (c.inPlace == P.inPlace f) = true) (h11 : (c.unfollowed == P.unfollowed f) = true) (h12 : (c.recurses == P.recurses f) = true) (h13 : (c.named == P.varsNamed f) = true)
    (h14 : (c.maps == (fn.params.toList ++ s.plain.varTypes P).any (P.mapsRec ·)) = true) (h15 : (c.ifaces == (fn.params.toList ++ s.plain.varTypes P).any (P.ifacesRec ·)) = true) (h16 : (c.mapsOut == P.mapsAmong fn.resultTypes.toList) = true)
    (h17 : (c.loops == (fn.params.toList ++ s.plain.varTypes P).any (P.loopsFrom ·)) = true) (h18 : (c.wideKeys == (fn.params.toList ++ s.plain.varTypes P ++ fn.resultTypes.toList).any (P.wideKeysFrom ·)) = true)
    (h19 : s.vars.all (P.varReadable ·) = true) (h20 : fn.resultTypes.all (fun t => P.readableRec t && decide (t < P.types.size)) = true) (h21 : (c.ifacesOut == fn.resultTypes.toList.any (P.ifacesRec ·)) = true) (h22 : (c.loopsOut == fn.resultTypes.toList.any (P.loopsFrom ·)) = true)
    (h23 : (c.plainKeys == P.plainKeys) = true) (h24 : c.shortTexts.isNone = true) (h25 : P.stopsHeard = true) (h26 : P.mayEnter = true) (h27 : (c.lifted == P.liftsFinal) = true) (h28 : (P.make == some c.make) = true)
    (h29 : (c.kinds == (if c.domain.isEmpty then [] else fn.params.toList.map fun t => match P.underlying t with | some (.int k) => some k | _ => none)) = true) (h30 : (c.pinned == c.pinnedBy) = true)
    (h31 : (c.veiled == (fn.params.toList ++ s.plain.varTypes P ++ fn.resultTypes.toList).any (P.veiledRec ·)) = true) (h32 : c.veiledFits P fn.params.toList (fn.params.toList ++ s.plain.varTypes P ++ fn.resultTypes.toList) = true) :
    joinedFacts P f fn s c = true := by
  unfold joinedFacts
  simp only [Bool.and_eq_true]
  exact ⟨⟨⟨⟨⟨⟨⟨⟨⟨⟨⟨⟨⟨⟨⟨⟨⟨⟨⟨⟨⟨⟨⟨⟨⟨⟨⟨⟨⟨⟨⟨h1, h2⟩, h3⟩, h4⟩, h5⟩, h6⟩, h7⟩, h8⟩, h9⟩, h10⟩, h11⟩, h12⟩, h13⟩, h14⟩, h15⟩, h16⟩, h17⟩, h18⟩, h19⟩, h20⟩, h21⟩, h22⟩, h23⟩, h24⟩, h25⟩, h26⟩, h27⟩, h28⟩, h29⟩, h30⟩, h31⟩, h32⟩
end Go.Proofs.YthbbncgbbkcdgaaGreatDoor
/- The cards' closed facts: whose main function it is. -/
namespace Go.Proofs.YthbbncgbbkcdgaaGreatDoor
open Go
set_option maxRecDepth 100000
def w0 : List Char := [104, 97, 114, 110, 101, 115, 115].map Char.ofNat
def wSum : List Char := [100, 54, 50, 54, 56, 52, 55, 100, 56, 55, 52, 48, 100, 100, 57, 100, 50, 54, 97, 97, 51, 51, 51, 54, 48, 56, 53, 52, 53, 100, 97, 53, 57, 99, 101, 100, 50, 53, 50, 51, 52, 100, 99, 53, 48, 100, 52, 54, 102, 98, 100, 97, 48, 55, 50, 50, 98, 102, 97, 99, 54, 57, 53, 97].map Char.ofNat
def allWords : List (List Nat) := [[104, 97, 114, 110, 101, 115, 115], [100, 54, 50, 54, 56, 52, 55, 100, 56, 55, 52, 48, 100, 100, 57, 100, 50, 54, 97, 97, 51, 51, 51, 54, 48, 56, 53, 52, 53, 100, 97, 53, 57, 99, 101, 100, 50, 53, 50, 51, 52, 100, 99, 53, 48, 100, 52, 54, 102, 98, 100, 97, 48, 55, 50, 50, 98, 102, 97, 99, 54, 57, 53, 97], [99, 117, 116], [97, 116], [109, 101, 115, 115, 117, 97, 103, 101, 47, 109, 101, 115, 115, 117, 97, 103, 101, 108, 97, 119, 49, 49, 46, 80, 108, 97, 105, 110, 65, 112, 97, 114, 116], [109, 101, 115, 115, 117, 97, 103, 101, 47, 109, 101, 115, 115, 117, 97, 103, 101, 108, 97, 119, 49, 49, 46, 69, 112, 111, 99, 104, 65, 99, 107], [109, 101, 115, 115, 117, 97, 103, 101, 47, 109, 101, 115, 115, 117, 97, 103, 101, 108, 97, 119, 49, 49, 46, 85, 115, 101, 114, 83, 116, 97, 108, 101], [109, 101, 115, 115, 117, 97, 103, 101, 47, 109, 101, 115, 115, 117, 97, 103, 101, 108, 97, 119, 49, 49, 46, 85, 115, 101, 114, 77, 111, 114, 101], [109, 101, 115, 115, 117, 97, 103, 101, 47, 109, 101, 115, 115, 117, 97, 103, 101, 108, 97, 119, 49, 49, 46, 85, 115, 101, 114, 75, 105, 110, 100, 115], [109, 101, 115, 115, 117, 97, 103, 101, 47, 109, 101, 115, 115, 117, 97, 103, 101, 108, 97, 119, 49, 49, 46, 80, 108, 97, 105, 110, 82, 101, 109, 97, 112], [109, 101, 115, 115, 117, 97, 103, 101, 47, 109, 101, 115, 115, 117, 97, 103, 101, 108, 97, 119, 49, 49, 46, 69, 112, 111, 99, 104, 77, 97, 110, 121], [109, 101, 115, 115, 117, 97, 103, 101, 47, 109, 101, 115, 115, 117, 97, 103, 101, 108, 97, 119, 49, 49, 46, 67, 97, 112, 115, 65, 108, 108], [109, 101, 115, 115, 117, 97, 103, 101, 47, 109, 101, 115, 115, 117, 97, 103, 101, 108, 97, 119, 49, 49, 46, 67, 97, 112, 115, 67, 104, 97, 105, 110], [109, 101, 115, 115, 117, 97, 103, 101, 47, 109, 101, 115, 115, 117, 97, 103, 101, 108, 97, 119, 49, 49, 46, 67, 97, 112, 115, 70, 97, 110], [109, 101, 115, 115, 117, 97, 103, 101, 47, 109, 101, 115, 115, 117, 97, 103, 101, 108, 97, 119, 49, 49, 46, 80, 108, 97, 105, 110, 65, 108, 108, 111, 99], [109, 101, 115, 115, 117, 97, 103, 101, 47, 109, 101, 115, 115, 117, 97, 103, 101, 108, 97, 119, 49, 49, 46, 80, 108, 97, 105, 110, 80, 114, 111, 116, 101, 99, 116], [109, 101, 115, 115, 117, 97, 103, 101, 47, 109, 101, 115, 115, 117, 97, 103, 101, 108, 97, 119, 49, 49, 46, 80, 108, 97, 105, 110, 80, 97, 103, 101, 115], [109, 101, 115, 115, 117, 97, 103, 101, 47, 109, 101, 115, 115, 117, 97, 103, 101, 108, 97, 119, 49, 49, 46, 80, 114, 101, 100, 65, 108, 108], [109, 101, 115, 115, 117, 97, 103, 101, 47, 109, 101, 115, 115, 117, 97, 103, 101, 108, 97, 119, 49, 49, 46, 80, 108, 97, 105, 110, 70, 114, 101, 115, 104], [109, 101, 115, 115, 117, 97, 103, 101, 47, 109, 101, 115, 115, 117, 97, 103, 101, 108, 97, 119, 49, 49, 46, 85, 115, 101, 114, 65, 108, 108], [109, 101, 115, 115, 117, 97, 103, 101, 47, 109, 101, 115, 115, 117, 97, 103, 101, 108, 97, 119, 49, 49, 46, 80, 108, 97, 105, 110, 83, 104, 97, 114, 101], [109, 101, 115, 115, 117, 97, 103, 101, 47, 109, 101, 115, 115, 117, 97, 103, 101, 108, 97, 119, 49, 49, 46, 80, 108, 97, 105, 110, 68, 114, 111, 112], [109, 101, 115, 115, 117, 97, 103, 101, 47, 109, 101, 115, 115, 117, 97, 103, 101, 108, 97, 119, 49, 49, 46, 75, 101, 114, 110, 101, 108, 78, 111, 110, 101], [109, 101, 115, 115, 117, 97, 103, 101, 47, 109, 101, 115, 115, 117, 97, 103, 101, 108, 97, 119, 49, 49, 46, 80, 108, 97, 105, 110, 65, 108, 108], [109, 101, 115, 115, 117, 97, 103, 101, 47, 109, 101, 115, 115, 117, 97, 103, 101, 108, 97, 119, 49, 49, 46, 80, 108, 97, 105, 110, 69, 114, 114], [109, 101, 115, 115, 117, 97, 103, 101, 47, 109, 101, 115, 115, 117, 97, 103, 101, 108, 97, 119, 49, 49, 46, 80, 108, 97, 105, 110, 67, 111, 112, 121]]
theorem all_words : wordsSigns Tryz.prog.initOrder.toList = allWords.map (·.map Char.ofNat) := by
  rw [head_toList]
  kernel_rfl
theorem main_gen (P : Program) (h s : List Char) (rest : List (List Char)) (e : wordsSigns P.initOrder.toList = h :: s :: rest) (h1 : isSumSigns s = true) (h2 : (h == "harness".toList) = true) : P.mainIs = some (true, s) := by
  unfold Program.mainIs
  rw [e]
  simp only [h1, h2, Bool.not_true, Bool.false_eq_true, if_false, if_true]
theorem sum_line : "d626847d8740dd9d26aa333608545da59ced25234dc50d46fbda0722bfac695a" = String.ofList wSum := by kernel_rfl
theorem sum_toList : "d626847d8740dd9d26aa333608545da59ced25234dc50d46fbda0722bfac695a".toList = wSum := by rw [sum_line, String.toList_ofList]
theorem main_fact : Tryz.prog.mainIs = some (true, "d626847d8740dd9d26aa333608545da59ced25234dc50d46fbda0722bfac695a".toList) := by
  rw [sum_toList]
  exact main_gen _ w0 wSum _ all_words (by kernel_rfl) (by kernel_rfl)
end Go.Proofs.YthbbncgbbkcdgaaGreatDoor
