/- Slices that grow by an element. -/
import Derived.Test.YthbbncgbbkcdgaaGreatDoorT11
set_option linter.unusedSimpArgs false
set_option linter.unusedVariables false
set_option linter.unnecessarySimpa false
namespace Go.Eng
open Go

def slV (b len : Nat) : AV := if len = 0 then .nilsl else .sl b 0 0 len none

section
variable {P : Program} {h : Heap} {n : Nat} {k : KT} {b e bytes x0 : Nat} {rows : List (List AV)} {row : List AV}

theorem flatten_length {e : Nat} : ∀ {rows : List (List AV)}, (∀ r ∈ rows, r.length = e) → rows.flatten.length = rows.length * e
  | [], _ => by simp
  | r :: l, h => by
    have := flatten_length (rows := l) fun r hr => h r (List.mem_cons_of_mem _ hr)
    simp only [List.flatten_cons, List.length_append, this, List.length_cons, h r (List.mem_cons_self ..), Nat.succ_mul]
    omega

/-- The heap behind an append of one element. -/
def appH (h : Heap) (n b e : Nat) (rows : List (List AV)) (row : List AV) : Heap :=
  if rows = [] then upd h n (some (.cells e row)) else upd (upd h b none) n (some (.cells e (rows ++ [row]).flatten))

theorem appH_new : appH h n b e rows row n = some (.cells e (rows ++ [row]).flatten) := by
  unfold appH
  split
  · rename_i hr; subst hr; simp
  · simp
theorem appH_old {y : Nat} (h1 : y ≠ n) (h2 : rows ≠ [] → y ≠ b) : appH h n b e rows row y = h y := by
  unfold appH
  split
  · rw [upd_ne _ _ h1]
  · rename_i hr; rw [upd_ne _ _ h1, upd_ne _ _ (h2 hr)]
theorem belowL_flatten {m : Nat} : ∀ {rows : List (List AV)}, belowL m rows.flatten = true → belowL m row = true → belowL m (rows ++ [row]).flatten = true
  | rows, h1, h2 => by
    rw [List.flatten_append]
    exact belowL_append h1 (by simpa using h2)
theorem appH_good (g : Good n h) (hs : rows ≠ [] → h b = some (.cells e rows.flatten)) (hx : h x0 = some (.cells e row)) : Good (n + 1) (appH h n b e rows row) := by
  have g' := g.mono (Nat.le_succ n)
  have hr := g'.bel hx
  unfold appH
  split
  · exact g'.upd (Nat.lt_succ_self n) hr
  · rename_i hne
    have hb := g'.bel (hs hne)
    refine ⟨g'.four, fun y q hy => ?_⟩
    by_cases h1 : y = n
    · subst h1
      rw [upd_same] at hy; cases hy
      exact ⟨Nat.lt_succ_self y, belowL_flatten hb hr⟩
    · rw [upd_ne _ _ h1] at hy
      by_cases h2 : y = b
      · subst h2; rw [upd_same] at hy; cases hy
      · rw [upd_ne _ _ h2] at hy; exact g'.all y q hy

theorem app_step (he : e ≠ 0) (hs : rows ≠ [] → h b = some (.cells e rows.flatten)) (hr : ∀ r ∈ rows, r.length = e) (hx : h x0 = some (.cells e row)) (hl : row.length = e) (h1 : row.all one = true)
    (hb1 : (rows.length + 1) * bytes ≤ 2 ^ 40) (hb2 : rows.length + 1 ≤ 2 ^ 40) :
    ∃ rd eff, appA e bytes n h (slV b rows.length) (.sl x0 0 0 1 (some 1)) = some (slV n (rows.length + 1), rd, eff) ∧ applyEff n h eff = appH h n b e rows row ∧ eff.news = 1 := by
  have hsc : sliceCells e h (.sl x0 0 0 1 (some 1)) = some (row, [x0]) := by
    simp only [sliceCells, hx, rdOf]
    have : ((row.drop 0).take (1 * e)).length = 1 * e := by simp [hl]
    simp only [Nat.succ_ne_zero, if_false, ne_eq, not_true_eq_false, this, if_true, List.drop_zero, Nat.one_mul]
    first
      | (rw [if_pos hl, List.take_of_length_le (by omega)])
      | (rw [if_pos hl]; simp [List.take_of_length_le (Nat.le_of_eq hl)])
      | (simp [hl]; exact List.take_of_length_le (Nat.le_of_eq hl))
  by_cases hrows : rows = []
  · subst hrows
    refine ⟨[x0], .al (.cells e row), ?_, ?_, rfl⟩
    · simp only [appA, he, if_false, lenA, hsc, slV, List.length_nil, if_true, Option.bind_eq_bind, Option.bind_some, Nat.succ_ne_zero]
      rw [if_pos ⟨by simpa using hb1, by simp⟩]
    · simp [applyEff, appH]
  · have hlen : rows.length ≠ 0 := fun h0 => hrows (List.eq_nil_of_length_eq_zero h0)
    have hfl := flatten_length hr
    refine ⟨[b, x0], .ap b (.cells e (rows ++ [row]).flatten), ?_, ?_, rfl⟩
    · simp only [appA, he, if_false, lenA, hsc, slV, hlen, Option.bind_eq_bind, Option.bind_some, Nat.succ_ne_zero, hs hrows, Nat.zero_add, Nat.zero_mul, Nat.add_zero]
      simp [hfl, hb1, hb2, h1]
    · simp [applyEff, appH, hrows]

theorem ow_app1 (he : e ≠ 0) (hs : rows ≠ [] → h b = some (.cells e rows.flatten)) (hr : ∀ r ∈ rows, r.length = e) (hx : h x0 = some (.cells e row)) (hl : row.length = e) (h1 : row.all one = true)
    (hb1 : (rows.length + 1) * bytes ≤ 2 ^ 40) (hb2 : rows.length + 1 ≤ 2 ^ 40) (hk : k (slV n (rows.length + 1)) (appH h n b e rows row) (n + 1)) :
    opW P (.app e bytes (.c (slV b rows.length)) (.c (.sl x0 0 0 1 (some 1)))) h n k := by
  obtain ⟨rd, eff, h2, h3, h4⟩ := app_step (bytes := bytes) (n := n) he hs hr hx hl h1 hb1 hb2
  refine ow (v := slV n (rows.length + 1)) (rd := rd) (eff := eff) h2 ?_
  rw [h3, h4]; exact hk

theorem dow_app1 {j : Nat} {kf : KF} (he : e ≠ 0) (hs : rows ≠ [] → h b = some (.cells e rows.flatten)) (hr : ∀ r ∈ rows, r.length = e) (hx : h x0 = some (.cells e row)) (hl : row.length = e) (h1 : row.all one = true)
    (hb1 : (rows.length + 1) * bytes ≤ 2 ^ 40) (hb2 : rows.length + 1 ≤ 2 ^ 40) (hk : ∀ p, kf (slV n (rows.length + 1)) (appH h n b e rows row) (n + 1) p) :
    dopW P j (.app e bytes (.c (slV b rows.length)) (.c (.sl x0 0 0 1 (some 1)))) h n [] kf := by
  obtain ⟨rd, eff, h2, h3, h4⟩ := app_step (bytes := bytes) (n := n) he hs hr hx hl h1 hb1 hb2
  refine dow (v := slV n (rows.length + 1)) (rd := rd) (eff := eff) h2 trivial ?_
  rw [h3, h4]; exact hk _

theorem lenA_slV (b len : Nat) : lenA (slV b len) = some len := by
  unfold slV; split
  · rename_i h; subst h; rfl
  · rfl

end
end Go.Eng
/- What a call is found to do. -/
namespace Go.Eng
open Go
theorem callW_elim {P : Program} {h : Heap} {n : Nat} {k : KT} {f : FuncId} {args : List AV} (hw : callW P f args h n k) : ∃ v h' n', FEv P f args h n v h' n' ∧ k v h' n' := hw
/-- Where ways meet: what comes behind, said once. -/
def joinW {α : Sort _} (F : α) (G : α → Prop) : Prop := G F
theorem join_intro {α : Sort _} {F : α} {G : α → Prop} (hk : G F) : joinW F G := hk
end Go.Eng
