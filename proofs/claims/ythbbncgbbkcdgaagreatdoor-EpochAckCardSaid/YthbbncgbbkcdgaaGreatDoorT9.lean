/- Engine at this program: what it hands over to the library's own entries. -/
import Derived.Test.YthbbncgbbkcdgaaGreatDoorT7
import Derived.Test.YthbbncgbbkcdgaaGreatDoorT8
set_option linter.unusedSimpArgs false
set_option linter.unusedVariables false
set_option linter.unnecessarySimpa false
namespace Go.Proofs.As0
open Go Go.Eng Go.RowKit Go.Extern.Stop Go.Stop Go.Extern

/-- The variable errors.errorType, as the rows say it is laid. -/
def errT : Blk := .ro [.iface 251 (.agg [.raw (.pointer (some ⟨4, 146, none⟩))])]

def isErrT : Option Blk → Bool
  | some (.ro [.iface 251 (.agg [.raw (.pointer (some ⟨4, 146, none⟩))])]) => true
  | _ => false

theorem isErrT_eq {o : Option Blk} (h : isErrT o = true) : o = some errT := by
  unfold isErrT at h
  split at h
  · rfl
  · cases h

noncomputable def asS (m : M) (e eo b bo : Nat) : Option (AV × M) :=
  match m.h.get b with
  | some (.cells es cs) => match isErrT (m.h.get 0), Nat.blt bo cs.length, Nat.blt b m.n with
    | true, true, true =>
      let m' : M := ⟨Tr.set 16 m.h b (some (.cells es (splice cs bo [.ptr e eo]))), m.n, Nat.lor m.rd (Nat.lor 1 (Nat.shiftLeft 1 b)), Nat.lor m.wr (Nat.shiftLeft 1 b), m.t, m.ms, m.ob⟩
      forced m' (some (.bool true, m'))
    | _, _, _ => none
  | _ => none

/-- errors.As at a trap and a *Trap variable; reflectlite.TypeOf and Comparable at *Trap. -/
noncomputable def ext (f : Nat) (args : List AV) (m : M) : Option (AV × M) :=
  match f, args with
  | 149, [.iface 151 (.ptr e eo), .iface 218 (.ptr b bo)] => asS m e eo b bo
  | 151, [.iface 151 _] => some (.iface 251 (.agg [.raw (.pointer (some ⟨4, 151, none⟩))]), m)
  | 238, [.agg [.raw (.pointer (some ⟨4, 151, none⟩))]] => some (.bool true, m)
  | _, _ => none

theorem call151 (v : Value) (w : World) : (callFunc 151 #[.iface 151 v]).run Tryz.prog w = .ok (.value (.iface 251 (.agg #[.pointer (some ⟨4, 151, none⟩)]))) w := by kernel_rfl
theorem call238 (w : World) : (callFunc 238 #[.agg #[.pointer (some ⟨4, 151, none⟩)]]).run Tryz.prog w = .ok (.value (.bool true)) w := by kernel_rfl

theorem callable149 : callable Tryz.prog 149 = true := by kernel_rfl

theorem noIn {P : Program} {f : Nat} {args : List AV} {m : M} {v : AV} (hd : Dom m) (hf : FEv P f args m.h.get m.n v m.h.get m.n → True)
    (hx : ∀ μ w, (callFunc f (args.map (conc μ)).toArray).run P w = .ok (.value (conc μ v)) w) (hv : ∀ U μ, (∀ u ∈ args, vok U μ u) → vok U μ v) : CallOk P f args m v m :=
  ⟨Grow.refl hd, fun _ _ _ => FEv.of_ext hx hv⟩

theorem as_call {m m' : M} {v : AV} {e eo b bo : Nat} (hd : Dom m) (h : asS m e eo b bo = some (v, m')) : CallOk Tryz.prog 149 [.iface 151 (.ptr e eo), .iface 218 (.ptr b bo)] m v m' := by
  unfold asS at h
  split at h
  case h_2 => cases h
  rename_i es cs hbk
  split at h
  case h_2 => cases h
  rename_i h0 hbo hbn
  have h0 := isErrT_eq h0
  have hbo := blt_lt hbo
  have hbn := blt_lt hbn
  obtain ⟨h, hn⟩ := forced_eq h
  cases h
  simp only at hn
  have hp : b + 1 < 2 ^ 16 := by have : (2 : Nat) ^ 16 = 65536 := rfl; omega
  have hb0 : b ≠ 0 := by
    rintro rfl
    rw [h0] at hbk; cases hbk
  have rdb : ∀ x, (Nat.lor m.rd (Nat.lor 1 (Nat.shiftLeft 1 b))).testBit x = (m.rd.testBit x || (decide (0 = x) || decide (b = x))) := by
    intro x
    rw [testBit_lor, testBit_lor, testBit_one]
    congr 2
    have : (1 : Nat) = 2 ^ 0 := rfl
    rw [this, Nat.testBit_two_pow]
  refine ⟨⟨Nat.le_refl _, fun x hx => ?_, fun y hy => by rw [rdb, hy, Bool.true_or], fun y hy => by simp only [testBit_lor, hy, Bool.true_or], fun x hx hw => ?_, fun x hx hw => ?_, fun x hx hw => ?_, fun h => h⟩, fun F c ob => ?_⟩
  · show (Tr.set 16 m.h b _).get x = none
    have hxn : m.n ≤ x := hx
    rw [Tr.get_set _ _ _ _ _ hp, if_neg (by omega)]; exact hd x hxn
  · show (Tr.set 16 m.h b _).get x = _
    simp only [testBit_lor, testBit_one, Bool.or_eq_false_iff, decide_eq_false_iff_not] at hw
    rw [Tr.get_set _ _ _ _ _ hp, if_neg (fun e => hw.2 e.symm)]
  · simp only [testBit_lor, testBit_one, Bool.or_eq_true, decide_eq_true_eq] at hw
    rcases hw with hw | rfl
    · exact .inl hw
    · exact .inr (by rw [hbk]; rfl)
  · simp only [testBit_lor, testBit_one, Bool.or_eq_true, decide_eq_true_eq] at hw
    rcases hw with hw | rfl
    · exact .inl hw
    · exact .inr (by rw [rdb]; simp)
  · have hF0 : F 0 = true := c.2 0 (by omega) (by rw [rdb]; simp)
    have hFb : F b = true := c.2 b hbn (by rw [rdb]; simp)
    have hset : sub F (Tr.set 16 m.h b (some (.cells es (splice cs bo [.ptr e eo])))).get = upd (sub F m.h.get) b (some (.cells es (splice cs bo [.ptr e eo]))) := by
      funext x
      simp only [sub]
      rw [Tr.get_set _ _ _ _ _ hp]
      by_cases ex : x = b
      · subst ex; simp [upd, hFb]
      · simp [upd, ex, sub]
    show FEv _ _ _ _ _ _ (sub F (Tr.set 16 m.h b _).get) _
    rw [hset]
    refine FEv.of_call callable149 ⟨Nat.le_refl _, fun U μ w hav r hv => ?_⟩
    rw [UI_self]
    have hk0 : sub F m.h.get 0 = some errT := by simp [sub, hF0, h0]
    have hkb : sub F m.h.get b = some (.cells es cs) := by simp [sub, hFb, hbk]
    have hg : w.cell? ⟨0, 0, none⟩ = some (.iface 251 (.agg #[.pointer (some ⟨4, 146, none⟩)])) := by
      have := cell_at (r.at_ 0 _ hk0) (cs := [.iface 251 (.agg [.raw (.pointer (some ⟨4, 146, none⟩))])]) rfl (i := 0) rfl
      have g0 := r.glob 0 (by decide)
      rw [g0.2.1, g0.2.2] at this
      simpa [conc, concL] using this
    obtain ⟨old, hold⟩ : ∃ old, cs[bo]? = some old := ⟨_, List.getElem?_eq_getElem hbo⟩
    have ht0 := cell_at (r.at_ b _ hkb) (cs := cs) rfl hold
    have hf0 := frozen_at (r.at_ b _ hkb) ((μ b).shift + bo) none
    have hve : vok U μ (.ptr e eo) := by
      have := hv _ (List.mem_cons_self ..)
      simpa only [vok] using this
    have key := as_hit ⟨(μ e).blk, (μ e).shift + eo, none⟩ ⟨(μ b).blk, (μ b).shift + bo, none⟩ _ w hg ht0 hf0
    have hargs : (([.iface 151 (.ptr e eo), .iface 218 (.ptr b bo)] : List AV).map (conc μ)).toArray = #[.iface 151 (.pointer (some ⟨(μ e).blk, (μ e).shift + eo, none⟩)), .iface 218 (.pointer (some ⟨(μ b).blk, (μ b).shift + bo, none⟩))] := by
      simp [conc]
    rw [hargs]
    refine key.mono fun ev w' => ?_
    rintro ⟨rfl, rfl⟩
    have pre : ∀ (o : Obj) (w1 : World) (B : Nat), B < w1.heap.size → (w1.alloc o).heap[B]? = w1.heap[B]? := fun o w1 B hB => by
      show (w1.heap.push o)[B]? = _
      simp [Array.getElem?_push, Nat.ne_of_lt hB]
    have siz : ∀ (o : Obj) (w1 : World), (w1.alloc o).heap.size = w1.heap.size + 1 := fun o w1 => by
      show (w1.heap.push o).size = _
      simp
    generalize hw4 : ((((w.alloc _).alloc _).alloc _).alloc _) = w4
    have hs4 : w4.heap.size = w.heap.size + 4 := by rw [← hw4, siz, siz, siz, siz]
    have hp4 : ∀ B, B < w.heap.size → w4.heap[B]? = w.heap[B]? := by
      intro B hB
      rw [← hw4]
      rw [pre _ _ _ (by rw [siz, siz, siz]; omega), pre _ _ _ (by rw [siz, siz]; omega), pre _ _ _ (by rw [siz]; omega), pre _ _ _ hB]
    have r4 := r.grown hp4
    have e4 : Ext U μ (sub F m.h.get) w U μ (sub F m.h.get) w4 := Ext.grown (by omega) hp4 (by rw [← hw4]; rfl) (by rw [← hw4]; rfl) (by rw [← hw4]; rfl)
    obtain ⟨r5, e5⟩ := r4.setCell hkb hbo hve
    refine ⟨μ, by simp [conc], ?_, ?_, by simp [vok]⟩
    · have : conc μ (.ptr e eo) = .pointer (some ⟨(μ e).blk, (μ e).shift + eo, none⟩) := by simp [conc]
      rw [this] at r5
      exact r5
    · have : conc μ (.ptr e eo) = .pointer (some ⟨(μ e).blk, (μ e).shift + eo, none⟩) := by simp [conc]
      rw [this] at e5
      exact e4.trans e5

theorem ext_ok : CallsOk Tryz.prog ext := by
  intro f args m v m' hd h
  unfold ext at h
  split at h
  · exact as_call hd h
  · cases h
    refine noIn hd (fun _ => trivial) (fun μ w => ?_) (fun U μ _ => by simp [vok, vokL])
    simp only [List.map_cons, List.map_nil, conc]
    simpa [conc, concL] using call151 _ w
  · cases h
    refine noIn hd (fun _ => trivial) (fun μ w => ?_) (fun U μ _ => by simp [vok])
    simpa [conc, concL] using call238 w
  · cases h

theorem follows_mixed : Tryz.prog.follows .mixedOrders = true := by kernel_rfl
theorem no_count : NoCount Tryz.prog := by
  have : Tryz.prog.funcs.toList.all (fun fn => !(fn.name == "runtime.NumGoroutine")) = true := by kernel_rfl
  intro fn h
  have := List.all_eq_true.1 this fn h
  simpa using this

/-- Calls, at depth 60, loops of at most 3000 rounds. -/
noncomputable abbrev run (X : CallF) : CallF := callS Tryz.prog X 3000 60

theorem run_ok {X : CallF} (hX : CallsOk Tryz.prog X) : CallsOk Tryz.prog (run X) := call_ok follows_mixed no_count hX 60

end Go.Proofs.As0
/- Engine at this program: begun() is true. -/
namespace Go.Proofs.As0
open Go Go.Eng

noncomputable def mE : M := ⟨Tr.set 16 .nil 0 (some errT), 4, 0, 0, 0, [], []⟩

/-- It hands on the truth; the variable stands; nothing is to be shown. -/
noncomputable def fine (r : Option (AV × M)) : Bool :=
  match r with
  | some (.bool true, m) => isErrT (m.h.get 0) && m.ob.isEmpty
  | _ => false

theorem fine_eq {r : Option (AV × M)} (h : fine r = true) : ∃ m, r = some (.bool true, m) ∧ m.h.get 0 = some errT ∧ Obs m := by
  unfold fine at h
  split at h
  · rename_i m
    simp only [Bool.and_eq_true, List.isEmpty_iff] at h
    exact ⟨m, rfl, isErrT_eq h.1, fun o ho => by rw [h.2] at ho; cases ho⟩
  · cases h

theorem begun_runs : fine (run ext 25 [] mE) = true := by kernel_rfl

def hE : Heap := fun x => if x = 0 then some errT else none

theorem hE_get : mE.h.get = hE := by
  funext x
  show (Tr.set 16 .nil 0 (some errT)).get x = _
  rw [Tr.get_set _ _ _ _ _ (by decide)]
  rfl

theorem mE_dom : Dom mE := by
  intro x hx
  have : 4 ≤ x := hx
  rw [hE_get]
  unfold hE
  rw [if_neg (by omega)]

theorem hE_below (n : Nat) (hn : 0 < n) : HBelow n hE := by
  intro b k h
  unfold hE at h
  split at h
  · rename_i e; subst e; cases h; exact ⟨hn, rfl⟩
  · cases h

theorem globals4 : Tryz.prog.globals.size = 4 := by kernel_rfl

theorem sub_all (h : Heap) : sub (fun _ => true) h = h := by funext x; simp [sub]

/-- begun() in any heap in which the variable stands. -/
theorem begun_ev (m : Nat) : FEv Tryz.prog 25 [] hE m (.bool true) hE m := by
  obtain ⟨m', h1, h2, h3⟩ := fine_eq begun_runs
  obtain ⟨g, hf⟩ := run_ok ext_ok _ _ _ _ _ mE_dom h1
  have := hf (fun _ => true) ⟨fun _ _ _ => rfl, fun _ _ _ => rfl⟩ h3
  rw [sub_all, sub_all, hE_get] at this
  refine this.forget (by rw [globals4]; exact Nat.le_refl _) rfl (hE_below _ (by decide)) rfl (fun b k hb => ?_) (hE_below _ (by decide)) m
  unfold hE at hb
  split at hb
  · rename_i e; subst e; cases hb; exact h2
  · cases hb

noncomputable def begunS (m : M) : Option (AV × M) :=
  match isErrT (m.h.get 0), Nat.blt 0 m.n with
  | true, true => let m' : M := ⟨m.h, m.n, Nat.lor m.rd 1, m.wr, m.t, m.ms, m.ob⟩
    forced m' (some (.bool true, m'))
  | _, _ => none

/-- With begun() at hand. -/
noncomputable def ext2 (f : Nat) (args : List AV) (m : M) : Option (AV × M) :=
  match f, args with
  | 25, [] => begunS m
  | f, args => ext f args m

theorem testBit_one' (x : Nat) : (1 : Nat).testBit x = decide (0 = x) := by
  have : (1 : Nat) = 2 ^ 0 := rfl
  rw [this, Nat.testBit_two_pow]

/-- A call that reads the variable alone, and turns nothing. -/
theorem reads0 {f : Nat} {args : List AV} {v : AV} (hf : ∀ m, FEv Tryz.prog f args hE m v hE m) {m : M} (hd : Dom m) (h0 : m.h.get 0 = some errT) (hn : 0 < m.n) :
    CallOk Tryz.prog f args m v ⟨m.h, m.n, Nat.lor m.rd 1, m.wr, m.t, m.ms, m.ob⟩ := by
  refine ⟨⟨Nat.le_refl _, hd, fun y hy => by simp only [testBit_lor, hy, Bool.true_or], fun _ h => h, fun _ _ _ => rfl, fun _ _ h => .inl h, fun _ _ h => .inl h, fun h => h⟩, fun F c _ => ?_⟩
  have hF : F 0 = true := c.2 0 hn (by simp only [testBit_lor, testBit_one']; simp)
  have hsub : ∀ x k, hE x = some k → sub F m.h.get x = some k := by
    intro x k hx
    unfold hE at hx
    split at hx
    · rename_i e; subst e; cases hx; simp [sub, hF, h0]
    · cases hx
  have := (hf m.n).frame hsub
  have hw : weave hE (sub F m.h.get) hE m.n m.n = sub F m.h.get := by
    funext x
    unfold weave
    split
    · rename_i hc
      simp only [Bool.or_eq_true, Bool.and_eq_true, decide_eq_true_eq] at hc
      rcases hc with hc | hc
      · obtain ⟨k, hk⟩ := Option.isSome_iff_exists.1 hc
        rw [hk, hsub x k hk]
      · omega
    · rfl
  rw [hw] at this
  exact this

theorem ext2_ok : CallsOk Tryz.prog ext2 := by
  intro f args m v m' hd h
  unfold ext2 at h
  split at h
  · unfold begunS at h
    split at h
    · rename_i h0 hn
      obtain ⟨h, _⟩ := forced_eq h
      cases h
      exact reads0 begun_ev hd (isErrT_eq h0) (blt_lt hn)
    · cases h
  · exact ext_ok _ _ _ _ _ hd h

end Go.Proofs.As0
