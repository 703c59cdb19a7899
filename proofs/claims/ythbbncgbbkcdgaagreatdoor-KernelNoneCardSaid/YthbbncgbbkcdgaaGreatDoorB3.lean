/- Engine at this program: begun() is true. -/
import Derived.Test.YthbbncgbbkcdgaaGreatDoorE28
import Derived.Test.YthbbncgbbkcdgaaGreatDoorB2
namespace Go.Proofs.As0
open Go Go.Eng

noncomputable def mE : M := ⟨Tr.set 16 .nil 0 (some errT), 4, 0, 0, 0, [], []⟩

/-- It hands on the truth; the variable stands; nothing is to be shown. -/
noncomputable def fine (r : Option (AV × M)) : Bool :=
  match r with
  | some (.bool true, m) => isErrT (m.h.get 0) && m.ob.isEmpty
  | _ => false

theorem fine_eq {r : Option (AV × M)} (h : fine r = true) : ∃ m, r = some (.bool true, m) ∧ m.h.get 0 = some errT ∧ Obs m := by
  unfold fine at h
  split at h
  · rename_i m
    simp only [Bool.and_eq_true, List.isEmpty_iff] at h
    exact ⟨m, rfl, isErrT_eq h.1, fun o ho => by rw [h.2] at ho; cases ho⟩
  · cases h

theorem begun_runs : fine (run ext 25 [] mE) = true := by kernel_rfl

def hE : Heap := fun x => if x = 0 then some errT else none

theorem hE_get : mE.h.get = hE := by
  funext x
  show (Tr.set 16 .nil 0 (some errT)).get x = _
  rw [Tr.get_set _ _ _ _ _ (by decide)]
  rfl

theorem mE_dom : Dom mE := by
  intro x hx
  have : 4 ≤ x := hx
  rw [hE_get]
  unfold hE
  rw [if_neg (by omega)]

theorem hE_below (n : Nat) (hn : 0 < n) : HBelow n hE := by
  intro b k h
  unfold hE at h
  split at h
  · rename_i e; subst e; cases h; exact ⟨hn, rfl⟩
  · cases h

theorem globals4 : Tryz.prog.globals.size = 4 := by kernel_rfl

theorem sub_all (h : Heap) : sub (fun _ => true) h = h := by funext x; simp [sub]

/-- begun() in any heap in which the variable stands. -/
theorem begun_ev (m : Nat) : FEv Tryz.prog 25 [] hE m (.bool true) hE m := by
  obtain ⟨m', h1, h2, h3⟩ := fine_eq begun_runs
  obtain ⟨g, hf⟩ := run_ok ext_ok _ _ _ _ _ mE_dom h1
  have := hf (fun _ => true) ⟨fun _ _ _ => rfl, fun _ _ _ => rfl⟩ h3
  rw [sub_all, sub_all, hE_get] at this
  refine this.forget (by rw [globals4]; exact Nat.le_refl _) rfl (hE_below _ (by decide)) rfl (fun b k hb => ?_) (hE_below _ (by decide)) m
  unfold hE at hb
  split at hb
  · rename_i e; subst e; cases hb; exact h2
  · cases hb

noncomputable def begunS (m : M) : Option (AV × M) :=
  match isErrT (m.h.get 0), Nat.blt 0 m.n with
  | true, true => let m' : M := ⟨m.h, m.n, Nat.lor m.rd 1, m.wr, m.t, m.ms, m.ob⟩
    forced m' (some (.bool true, m'))
  | _, _ => none

/-- With begun() at hand. -/
noncomputable def ext2 (f : Nat) (args : List AV) (m : M) : Option (AV × M) :=
  match f, args with
  | 25, [] => begunS m
  | f, args => ext f args m

theorem testBit_one' (x : Nat) : (1 : Nat).testBit x = decide (0 = x) := by
  have : (1 : Nat) = 2 ^ 0 := rfl
  rw [this, Nat.testBit_two_pow]

/-- A call that reads the variable alone, and turns nothing. -/
theorem reads0 {f : Nat} {args : List AV} {v : AV} (hf : ∀ m, FEv Tryz.prog f args hE m v hE m) {m : M} (hd : Dom m) (h0 : m.h.get 0 = some errT) (hn : 0 < m.n) :
    CallOk Tryz.prog f args m v ⟨m.h, m.n, Nat.lor m.rd 1, m.wr, m.t, m.ms, m.ob⟩ := by
  refine ⟨⟨Nat.le_refl _, hd, fun y hy => by simp only [testBit_lor, hy, Bool.true_or], fun _ h => h, fun _ _ _ => rfl, fun _ _ h => .inl h, fun _ _ h => .inl h, fun h => h⟩, fun F c _ => ?_⟩
  have hF : F 0 = true := c.2 0 hn (by simp only [testBit_lor, testBit_one']; simp)
  have hsub : ∀ x k, hE x = some k → sub F m.h.get x = some k := by
    intro x k hx
    unfold hE at hx
    split at hx
    · rename_i e; subst e; cases hx; simp [sub, hF, h0]
    · cases hx
  have := (hf m.n).frame hsub
  have hw : weave hE (sub F m.h.get) hE m.n m.n = sub F m.h.get := by
    funext x
    unfold weave
    split
    · rename_i hc
      simp only [Bool.or_eq_true, Bool.and_eq_true, decide_eq_true_eq] at hc
      rcases hc with hc | hc
      · obtain ⟨k, hk⟩ := Option.isSome_iff_exists.1 hc
        rw [hk, hsub x k hk]
      · omega
    · rfl
  rw [hw] at this
  exact this

theorem ext2_ok : CallsOk Tryz.prog ext2 := by
  intro f args m v m' hd h
  unfold ext2 at h
  split at h
  · unfold begunS at h
    split at h
    · rename_i h0 hn
      obtain ⟨h, _⟩ := forced_eq h
      cases h
      exact reads0 begun_ev hd (isErrT_eq h0) (blt_lt hn)
    · cases h
  · exact ext_ok _ _ _ _ _ hd h

end Go.Proofs.As0
