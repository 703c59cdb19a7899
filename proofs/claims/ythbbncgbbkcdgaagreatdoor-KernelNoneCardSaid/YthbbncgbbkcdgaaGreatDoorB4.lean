/- Engine at this program: from the evaluator's word on a law to the law's row. -/
import Derived.Test.YthbbncgbbkcdgaaGreatDoorB3
import Derived.Test.YthbbncgbbkcdgaaGreatDoorRows
import Derived.ChangeSame
import Derived.ChangeVars
import Derived.JoinedOf
import Derived.RowKit
import Derived.RowKitTokens
import Derived.LaidLaws
import Derived.LaidHandle
import Derived.Stop.Joined
namespace Go.Proofs.As0
open Go Go.Eng Go.ChangeShapes Go.WideShapes Go.RowKit

theorem own : ownKnob Tryz.prog.godebug = none := by kernel_rfl
theorem et : Tryz.prog.globalNamed "errors.errorType" = some 0 := by kernel_rfl
theorem rt : (Tryz.prog.cutTypes.find? (·.1 == "internal/reflectlite.rtype")).map (·.2) = some 251 := by kernel_rfl
theorem oneRow : ((List.range 325).filter fun t => Tryz.prog.rowNamed t [101, 114, 114, 111, 114]) = [146] := by kernel_rfl
theorem tsize : Tryz.prog.types.size = 325 := by kernel_rfl

abbrev laidL : List (String × DataW Unit) := [("errors.errorType", YthbbncgbbkcdgaaGreatDoor.Rows.laid_errors_errorType)]

/-- What the condition gives: the variable's one cell. -/
theorem handle_of_laid {W : World} (h : laidMetH Tryz.prog laidL W) : W.cell? ⟨0, 0, none⟩ = some (.iface 251 (.agg #[.pointer (some ⟨4, 146, none⟩)])) := by
  have h' : laidMet Tryz.prog [] W ∧ handlesMet Tryz.prog laidL W := h
  obtain ⟨name, u, ty, e1, e2, e3, e4, e5⟩ := h'.2 _ (List.mem_singleton.2 rfl)
  have en : name = [101, 114, 114, 111, 114] := (Option.some.inj e1).symm
  subst en
  obtain rfl := Option.some.inj (rt.symm.trans e2)
  have hm : ty ∈ (List.range 325).filter fun t => Tryz.prog.rowNamed t [101, 114, 114, 111, 114] := List.mem_filter.2 ⟨List.mem_range.2 (by rw [← tsize]; exact e3), e4⟩
  rw [oneRow] at hm
  obtain rfl := List.mem_singleton.1 hm
  have hh : typeHandle Tryz.prog 146 = .pointer (some ⟨4, 146, none⟩) := by kernel_rfl
  rw [hh] at e5
  simpa using World.var?_cell et e5 0

/-- A world that meets the condition. -/
noncomputable def laidWorld (os : Os) : World :=
  let w0 := World.holding Tryz.prog os ⟨#[], #[], []⟩
  { w0 with heap := w0.heap.modify 0 fun
      | .cells _ t frozen => .cells #[.iface 251 (.agg #[.pointer (some ⟨4, 146, none⟩)])] t frozen
      | o => o }
theorem laidWorld_met (os : Os) (args : Array Value) : laidMetH Tryz.prog laidL ((laidWorld os).forCall (fun _ _ => 0) ⟨#[], args, []⟩).memory :=
  laidMetH_of_parts (laidMet_nil _ _) (by kernel_rfl)

/-- What a law's call leaves. -/
structure Quiet (W W' : World) : Prop where
  os : W'.os = W.os
  output : W'.output = W.output
  size : W.heap.size ≤ W'.heap.size
  old : ∀ B, B < W.heap.size → W'.heap[B]? = W.heap[B]?

theorem Quiet.kept {W W' : World} (q : Quiet W W') (may : MemPlace → Prop) : W.keptBut W' may := by
  refine ⟨q.os, q.output, fun i hi => ?_⟩
  rw [q.old i hi]
  split
  · rename_i h1 h2
    rw [h1] at h2
    cases h2
    exact ⟨rfl, rfl, rfl, fun _ _ => rfl⟩
  · rename_i h1 h2
    rw [h1] at h2
    cases h2
    exact .inr ⟨rfl, rfl⟩
  · rfl

def mu0 : Map := fun b => ⟨b, 0, 0, 0⟩

theorem rel0 {W : World} (hg : W.cell? ⟨0, 0, none⟩ = some (.iface 251 (.agg #[.pointer (some ⟨4, 146, none⟩)]))) : Rel Tryz.prog.globals.size (fun x => x < 4) mu0 hE W := by
  rw [globals4]
  have hc : ∃ c ty fr, W.heap[0]? = some (.cells c ty fr) ∧ c[0]? = some (.iface 251 (.agg #[.pointer (some ⟨4, 146, none⟩)])) := by
    unfold World.cell? at hg
    split at hg
    · rename_i c ty fr hh
      refine ⟨c, ty, fr, hh, ?_⟩
      simpa using hg
    · cases hg
  obtain ⟨c, ty, fr, h1, h2⟩ := hc
  refine ⟨fun g hg => ⟨hg, rfl, rfl⟩, fun b k hb => ?_, fun b k hb => ?_, fun b k hb => ?_, fun b b' k k' hb hb' hw _ => ?_⟩
  all_goals (unfold hE at hb; split at hb; rotate_left; cases hb; rename_i e; subst e; cases hb)
  · decide
  · refine ⟨c, ty, fr, h1, fun i v hv => ?_⟩
    cases i with
    | zero => cases hv; simpa [mu0, conc, concL] using h2
    | succ i => cases hv
  · intro v hv
    rw [List.mem_singleton.1 hv]
    simp [vok, vokL]
  · cases hw

mutual
theorem vok_of_below0 {U : Nat → Prop} {μ : Map} : ∀ v : AV, below 0 v = true → vok U μ v
  | .bool _, _ | .int _ _, _ | .str _, _ | .nilp, _ | .nilsl, _ | .nilfn, _ | .nilif, _ | .raw _, _ => by simp [vok]
  | .ptr b _, h => absurd (blt_lt h) (Nat.not_lt_zero b)
  | .sl b _ _ _ _, h => absurd (blt_lt h) (Nat.not_lt_zero b)
  | .mp b, h => absurd (blt_lt h) (Nat.not_lt_zero b)
  | .fn f a c, hb => by
    simp only [below, Bool.and_eq_true] at hb
    simp only [vok]
    exact ⟨vokL_of_below0 a hb.1, vokL_of_below0 c hb.2⟩
  | .iface t v, h => by simp only [vok]; exact vok_of_below0 v h
  | .agg cs, h => by simp only [vok]; exact vokL_of_below0 cs h
  | .tup cs, h => by simp only [vok]; exact vokL_of_below0 cs h
theorem vokL_of_below0 {U : Nat → Prop} {μ : Map} : ∀ l : List AV, belowL 0 l = true → vokL U μ l
  | [], _ => by simp [vokL]
  | v :: vs, hb => by
    simp only [belowL, Bool.and_eq_true] at hb
    simp only [vokL]
    exact ⟨vok_of_below0 v hb.1, vokL_of_below0 vs hb.2⟩
end

theorem fev_calls {P : Program} {f : Nat} {args : List AV} {v : AV} {h h' : Heap} {n n' : Nat} (hc : callable P f = true) (hev : FEv P f args h n v h' n') {U : Nat → Prop} {μ : Map} {W : World} (hav : Avoid U n n') (r : Rel P.globals.size U μ h W) (ha : ∀ u ∈ args, vok U μ u) :
    Calls P f (args.map (conc μ)).toArray W fun e W' => ∃ μ', e = .returned (conc μ' v) ∧ Ext U μ h W (UI U n n') μ' h' W' := by
  have key := hev.2 U μ W (fun u W' => ∃ μ', u = conc μ' v ∧ Ext U μ h W (UI U n n') μ' h' W') hav r ha fun μ' W' r' e _ => ⟨μ', rfl, e⟩
  rw [run_callable hc] at key
  refine Calls.mono key fun e W' => ?_
  rintro ⟨u, rfl, μ', rfl, e⟩
  exact ⟨μ', rfl, e⟩

/-- A law of numbers and truths: what the evaluator says of it, the model does. -/
theorem law_calls {f : Nat} {args : List AV} (hc : callable Tryz.prog f = true) {h' : Heap} {n' : Nat} (hev : FEv Tryz.prog f args hE 4 (.bool true) h' n') (ha : belowL 0 args = true)
    {W : World} (hg : W.cell? ⟨0, 0, none⟩ = some (.iface 251 (.agg #[.pointer (some ⟨4, 146, none⟩)]))) :
    Calls Tryz.prog f (args.map (conc mu0)).toArray W fun e W' => e = .returned (.bool true) ∧ Quiet W W' := by
  refine Calls.mono (fev_calls hc hev (fun x h1 _ h2 => Nat.lt_irrefl _ (Nat.lt_of_lt_of_le h2 h1)) (rel0 hg) fun u hu => vok_of_below0 u (belowL_mem ha u hu)) fun e W' => ?_
  rintro ⟨μ', rfl, e⟩
  refine ⟨by simp [conc], e.os, e.output, e.size, fun B hB => e.frame B hB fun b k hb hw => ?_⟩
  unfold hE at hb
  split at hb
  · cases hb; cases hw
  · cases hb

/-- From the run. -/
theorem law_of_run {f : Nat} {args : List AV} {X : CallF} (hX : CallsOk Tryz.prog X) (hc : callable Tryz.prog f = true) {m' : M} (hr : run X f args mE = some (.bool true, m')) (hob : Obs m') (ha : belowL 0 args = true)
    {W : World} (hg : W.cell? ⟨0, 0, none⟩ = some (.iface 251 (.agg #[.pointer (some ⟨4, 146, none⟩)]))) :
    Calls Tryz.prog f (args.map (conc mu0)).toArray W fun e W' => e = .returned (.bool true) ∧ Quiet W W' := by
  obtain ⟨g, hf⟩ := run_ok hX _ _ _ _ _ mE_dom hr
  have := hf (fun _ => true) ⟨fun _ _ _ => rfl, fun _ _ _ => rfl⟩ hob
  rw [sub_all, sub_all, hE_get] at this
  exact law_calls hc this ha hg

end Go.Proofs.As0
