/- CapsFan: the law. -/
import Derived.Test.YthbbncgbbkcdgaaGreatDoorT9
import Derived.Test.YthbbncgbbkcdgaaGreatDoorT17
set_option linter.unusedSimpArgs false
set_option linter.unusedVariables false
set_option linter.unnecessarySimpa false
namespace Go.Proofs.As0
open Go Go.Eng
attribute [local irreducible] opW callW cvW invW grdW cndW ldR dopW dcallW dcvW dgrdW loopW

theorem goodE : Go.Eng.Good 4 hE := ⟨Nat.le_refl _, hE_below 4 (by decide)⟩

/-- The tree with i children. -/
def fanL (i q : Nat) : Cap := if q = 15 then ⟨4, 3, -1, 0⟩ else if q < i then ⟨4, 1, 1, 7⟩ else cap0

theorem fan_ranked (i : Nat) : Ranked 2 (fanL i) (fun q => if q = 15 then 0 else 1) := by
  refine ⟨fun q _ => by split <;> omega, fun q hq hr he => ?_⟩
  unfold fanL at hr he ⊢
  by_cases h1 : q = 15
  · simp [h1] at he
  · by_cases h2 : q < i
    · simp only [h1, h2, if_true, if_false]
      exact ⟨by decide, by decide⟩
    · simp [h1, h2, cap0] at hr

theorem fan_root : rootS 2 (fun _ => cap0) 1 7 4 = (0, fanL 0) := by
  have : rootS 2 (fun _ => cap0) 1 7 4 = (0, setF (fun _ => cap0) (qi 1 7) ⟨4, 3, -1, 0⟩) := by
    unfold rootS
    rw [if_neg (by decide), if_neg (by decide)]
  rw [this]
  have : setF (fun _ => cap0) (qi 1 7) ⟨4, 3, -1, 0⟩ = fanL 0 := by
    funext q
    simp [setF, fanL, show qi 1 7 = 15 from rfl]
  rw [this]

theorem fan_derive (i : Nat) (hi : i < 7) : deriveS 2 (fanL i) 1 7 0 (i : Int) 1 = (0, fanL (i + 1)) := by
  have c1 : isC 2 1 7 = true := by decide
  have c2 : isC 2 0 (i : Int) = true := by rw [isC_iff]; omega
  have q1 : qi 1 7 = 15 := rfl
  have q2 : qi 0 (i : Int) = i := by simp [qi]
  have l1 : fanL i 15 = ⟨4, 3, -1, 0⟩ := by simp [fanL]
  have l2 : fanL i i = cap0 := by unfold fanL; rw [if_neg (by omega), if_neg (by omega)]
  unfold deriveS
  rw [q1, q2, l1, l2, if_neg (by simp [c1, c2]; decide), if_neg (by decide), if_neg (by decide), if_neg (by decide)]
  congr 1
  funext q
  unfold setF fanL
  by_cases h1 : q = i
  · subst h1
    rw [if_pos rfl, if_neg (by omega), if_pos (by omega)]
  · rw [if_neg h1]
    by_cases h2 : q = 15
    · simp [h2]
    · by_cases h3 : q < i
      · rw [if_neg h2, if_pos h3, if_neg h2, if_pos (by omega)]
      · rw [if_neg h2, if_neg h3, if_neg h2, if_neg (by omega)]

def fanL2 (n a : Nat) : Nat → Cap := wipeL (fanL n) (dropL 2 (fanL n) 0 (a : Int))
def fanL3 (n a : Nat) : Nat → Cap := wipeL (fanL2 n a) (revokeL 2 (fanL2 n a) 1 7)
set_option maxRecDepth 100000 in
theorem fan_facts : ∀ n, n < 8 → ∀ a, a < n → lookS 2 (fanL n) 0 (a : Int) = 0 ∧ dropL 2 (fanL n) 0 (a : Int) = [a] ∧ (allN (fanL2 n a) (belowH (fanL2 n a) 1 7) (8 * 2)).length + 1 = n ∧
    lookS 2 (fanL2 n a) 1 7 = 0 ∧ (revokeL 2 (fanL2 n a) 1 7).length + 1 = n ∧ (at2 2 (fanL3 n a) 1 7).2 = true ∧ (allN (fanL3 n a) (fun q => decide ((fanL3 n a q).f = 4)) (8 * 2)).length = 1 := by
  decide +kernel

set_option maxRecDepth 20000 in
theorem capsFan_law (x y : Int) (hx : inI x) (hy : inI y) : callW Tryz.prog 12 [.int .i64 x, .int .i64 y] hE 4 fun v _ _ => v = .bool true := by
  unfold inI at hx hy
  have m1 := Int.tmod_lt_of_pos x (b := 7) (by omega)
  have m2 := Int.lt_tmod_of_pos x (b := 7) (by omega)
  obtain ⟨n, hn⟩ : ∃ n : Nat, (1 + (x.tmod 7 + 7) % 7) = (n : Int) := ⟨(1 + (x.tmod 7 + 7) % 7).toNat, by omega⟩
  have hn1 : 1 ≤ n := by omega
  have hn7 : n ≤ 7 := by omega
  have m3 := Int.tmod_lt_of_pos y (b := (n : Int)) (by omega)
  have m4 := Int.lt_tmod_of_pos y (b := (n : Int)) (by omega)
  have m5 := Int.emod_nonneg (y.tmod (n : Int) + n) (b := (n : Int)) (by omega)
  have m6 := Int.emod_lt_of_pos (y.tmod (n : Int) + n) (b := (n : Int)) (by omega)
  obtain ⟨a, ha⟩ : ∃ a : Nat, (y.tmod (n : Int) + n) % (n : Int) = (a : Int) := ⟨((y.tmod (n : Int) + n) % (n : Int)).toNat, by omega⟩
  have han : a < n := by omega
  obtain ⟨f1, f2, f3, f4, f5, f6, f7⟩ := fan_facts n (by omega) a han
  have T0 := newTree_at hE 4 2
  have g0 := newTree_good goodE 2
  have Tt : ∀ i, TreeAt (treeH (newTree hE 4 2) 4 2 (fanL i)) 5 4 2 (fanL i) := fun i => T0.put _
  have gt : ∀ i, Go.Eng.Good 6 (treeH (newTree hE 4 2) 4 2 (fanL i)) := fun i => treeH_good g0 T0 _
  refine W12_ok ?_
  unfold W12
  repeat (first
    | (refine cal (begun_ev _) ?_)
    | (refine ow_rem_nn (by omega) (by omega) ?_)
    | (refine ow_rem (by omega) ?_)
    | (rw [hn])
    | (rw [ha])
    | (refine cal (newTree_ev (E := 2) (by omega) (by omega) _ _) ?_)
    | (refine cal (root_ev g0 T0 1 7 4 _) ?_)
    | (rw [fan_root])
    | (refine cw_t ?_)
    | (refine cw_f ?_)
    | (refine gw_run ?_)
    | (refine gw_tf ?_)
    | (refine gw_ft ?_)
    | (refine gw_un ?_)
    | (refine ow_pick_t ?_)
    | (refine ow_pick_f ?_)
    | (refine ow_new ?_)
    | (refine ow_nck_p ?_)
    | (refine ow_nck_i ?_)
    | (refine ow_nck_f ?_)
    | (refine ow_mki ?_)
    | (refine ow_fa rfl ?_)
    | (refine ow_ext rfl ?_)
    | (refine ow_not rfl ?_)
    | (refine ow_peq_pn rfl ?_)
    | (refine ow_peq_nn rfl ?_)
    | (refine ow_peq_np rfl ?_)
    | (refine ow_ieq_in rfl ?_)
    | (refine ow_ieq_nn rfl ?_)
    | (refine ow_ieq_ni rfl ?_)
    | (refine ow_mkf rfl rfl ?_)
    | (refine ow_box (by first | (simp only [cellsA]; rfl) | rfl) ?_)
    | (refine ow_len rfl ?_)
    | (refine ow_lss_t (by omega) ?_)
    | (refine ow_lss_f (by omega) ?_)
    | (refine ow_leq_t (by omega) ?_)
    | (refine ow_leq_f (by omega) ?_)
    | (refine ow_gtr_t (by omega) ?_)
    | (refine ow_gtr_f (by omega) ?_)
    | (refine ow_geq_t (by omega) ?_)
    | (refine ow_geq_f (by omega) ?_)
    | (refine ow_eql_t (by omega) ?_)
    | (refine ow_eql_f (by omega) ?_)
    | (refine ow_neq_t (by omega) ?_)
    | (refine ow_neq_f (by omega) ?_)
    | (refine ow_add_i rfl (by omega) (by omega) ?_)
    | (refine ow_sub_i rfl (by omega) (by omega) ?_)
    | (refine ow_conv_i (by omega) (by omega) ?_)
    | (refine ow_conv_u (by omega) (by omega) ?_)
    | (refine ow_iaA (by omega) (by omega) rfl ?_)
    | (refine ow_iaS (by omega) (by omega) rfl ?_)
    | (refine ow_ld (by repeat (first | exact upd_same _ _ _ | assumption | refine upd_get (by omega) ?_)) (by first | exact part_all rfl | rfl | (simp only [partA, if_true, List.drop_succ_cons, List.drop_zero, List.take_succ_cons, List.take_zero, List.length_cons, List.length_nil, Nat.reduceAdd, Nat.zero_add]; rfl)) ?_)
    | (refine ow_st (by repeat (first | exact upd_same _ _ _ | assumption | refine upd_get (by omega) ?_)) (by first | (simp only [cellsA]; rfl) | rfl) rfl (by first | (simp; done) | exact Nat.le_refl _) rfl (by first | exact splice_all rfl | (simp only [splice, List.take_succ_cons, List.take_zero, List.drop_succ_cons, List.drop_zero, List.length_cons, List.length_nil, List.cons_append, List.nil_append, Nat.reduceAdd, Nat.zero_add, Nat.add_zero]; rfl)) ?_)
    | (refine ow_build (by simp only [repl, List.append_nil, fillA, List.map, ev, cellsA, splice, List.take_succ_cons, List.take_zero, List.drop_succ_cons, List.drop_zero, List.length_cons, List.length_nil, List.cons_append, List.nil_append, Nat.reduceAdd, Nat.zero_add, Nat.add_zero, true_and, and_self, if_true, Nat.reduceLeDiff, Nat.le_refl]; rfl) ?_)
    | (refine ow_bsl (by simp only [repl, List.append_nil, fillA, List.map, ev, cellsA, splice, List.take_succ_cons, List.take_zero, List.drop_succ_cons, List.drop_zero, List.length_cons, List.length_nil, List.cons_append, List.nil_append, Nat.reduceAdd, Nat.zero_add, Nat.add_zero, true_and, and_self, if_true, Nat.reduceLeDiff, Nat.le_refl]; rfl) ?_)
    | (refine ldR_of (by repeat (first | exact upd_same _ _ _ | assumption | refine upd_get (by omega) ?_)) (by first | exact part_all rfl | rfl | (simp only [partA, if_true, List.drop_succ_cons, List.drop_zero, List.take_succ_cons, List.take_zero, List.length_cons, List.length_nil, Nat.reduceAdd, Nat.zero_add]; rfl)) ?_)
    | (refine dow_ld (by repeat (first | exact upd_same _ _ _ | assumption | refine upd_get (by omega) ?_)) (by first | exact part_all rfl | rfl | (simp only [partA, if_true, List.drop_succ_cons, List.drop_zero, List.take_succ_cons, List.take_zero, List.length_cons, List.length_nil, Nat.reduceAdd, Nat.zero_add]; rfl)) (by simp only [meets, and_true]; (try (repeat' apply And.intro)); all_goals (intro z; simp only [fp_d, fp_f, List.mem_cons, List.not_mem_nil, or_false, false_or, not_false_eq_true, true_and, and_true, Bool.false_eq_true, false_and, not_or]; omega)) ?_)
    | (refine dow_new (by simp only [meets, and_true]; (try (repeat' apply And.intro)); all_goals (intro z; simp only [fp_d, fp_f, List.mem_cons, List.not_mem_nil, or_false, false_or, not_false_eq_true, true_and, and_true, Bool.false_eq_true, false_and, not_or]; omega)) ?_)
    | (refine dow_box (by first | (simp only [cellsA]; rfl) | rfl) (by simp only [meets, and_true]; (try (repeat' apply And.intro)); all_goals (intro z; simp only [fp_d, fp_f, List.mem_cons, List.not_mem_nil, or_false, false_or, not_false_eq_true, true_and, and_true, Bool.false_eq_true, false_and, not_or]; omega)) ?_)
    | (refine dow_st (by repeat (first | exact upd_same _ _ _ | assumption | refine upd_get (by omega) ?_)) (by first | (simp only [cellsA]; rfl) | rfl) rfl (by first | (simp; done) | exact Nat.le_refl _) rfl (by first | exact splice_all rfl | (simp only [splice, List.take_succ_cons, List.take_zero, List.drop_succ_cons, List.drop_zero, List.length_cons, List.length_nil, List.cons_append, List.nil_append, Nat.reduceAdd, Nat.zero_add, Nat.add_zero]; rfl)) (by simp only [meets, and_true]; (try (repeat' apply And.intro)); all_goals (intro z; simp only [fp_d, fp_f, List.mem_cons, List.not_mem_nil, or_false, false_or, not_false_eq_true, true_and, and_true, Bool.false_eq_true, false_and, not_or]; omega)) ?_)
    | (refine dgw_run ?_)
    | (refine dgw_tf ?_)
    | (refine dgw_ft ?_)
    | (refine dgw_un ?_))
  refine loopW_inv mixed (fun d aa h1 n1 => ∃ gg i, aa = tl 98 gg ∧ gg 0 = .int .i64 (n : Int) ∧ gg 1 = .int .i64 (a : Int) ∧ gg 6 = .ptr 5 0 ∧ gg 7 = .int .i64 ((i : Nat) : Int) ∧ i ≤ n ∧ d = n - i ∧ n1 = 6 ∧ h1 = treeH (newTree hE 4 2) 4 2 (fanL i)) (d := n) ?_
    ⟨_, 0, rfl, rfl, rfl, rfl, rfl, by omega, rfl, rfl, rfl⟩
  intro d aa h1 n1 hI
  obtain ⟨gg, i, haa, e0, e1, e6, e7, hi, hd, hn', hh⟩ := hI
  subst haa hn' hh
  rw [B12_0_eq]
  unfold B12_0
  rw [e0, e6, e7]
  by_cases hlt : i < n
  · repeat (first
      | (refine cal (derive_ev (gt i) (Tt i) 1 7 0 (i : Int) 1 _) ?_)
      | (rw [fan_derive i (by omega), treeH_treeH])
      | (refine cw_t ?_)
      | (refine cw_f ?_)
      | (refine gw_run ?_)
      | (refine gw_tf ?_)
      | (refine gw_ft ?_)
      | (refine gw_un ?_)
      | (refine ow_pick_t ?_)
      | (refine ow_pick_f ?_)
      | (refine ow_new ?_)
      | (refine ow_nck_p ?_)
      | (refine ow_nck_i ?_)
      | (refine ow_nck_f ?_)
      | (refine ow_mki ?_)
      | (refine ow_fa rfl ?_)
      | (refine ow_ext rfl ?_)
      | (refine ow_not rfl ?_)
      | (refine ow_peq_pn rfl ?_)
      | (refine ow_peq_nn rfl ?_)
      | (refine ow_peq_np rfl ?_)
      | (refine ow_ieq_in rfl ?_)
      | (refine ow_ieq_nn rfl ?_)
      | (refine ow_ieq_ni rfl ?_)
      | (refine ow_mkf rfl rfl ?_)
      | (refine ow_box (by first | (simp only [cellsA]; rfl) | rfl) ?_)
      | (refine ow_len rfl ?_)
      | (refine ow_lss_t (by omega) ?_)
      | (refine ow_lss_f (by omega) ?_)
      | (refine ow_leq_t (by omega) ?_)
      | (refine ow_leq_f (by omega) ?_)
      | (refine ow_gtr_t (by omega) ?_)
      | (refine ow_gtr_f (by omega) ?_)
      | (refine ow_geq_t (by omega) ?_)
      | (refine ow_geq_f (by omega) ?_)
      | (refine ow_eql_t (by omega) ?_)
      | (refine ow_eql_f (by omega) ?_)
      | (refine ow_neq_t (by omega) ?_)
      | (refine ow_neq_f (by omega) ?_)
      | (refine ow_add_i rfl (by omega) (by omega) ?_)
      | (refine ow_sub_i rfl (by omega) (by omega) ?_)
      | (refine ow_conv_i (by omega) (by omega) ?_)
      | (refine ow_conv_u (by omega) (by omega) ?_)
      | (refine ow_iaA (by omega) (by omega) rfl ?_)
      | (refine ow_iaS (by omega) (by omega) rfl ?_)
      | (refine ow_ld (by repeat (first | exact upd_same _ _ _ | assumption | refine upd_get (by omega) ?_)) (by first | exact part_all rfl | rfl | (simp only [partA, if_true, List.drop_succ_cons, List.drop_zero, List.take_succ_cons, List.take_zero, List.length_cons, List.length_nil, Nat.reduceAdd, Nat.zero_add]; rfl)) ?_)
      | (refine ow_st (by repeat (first | exact upd_same _ _ _ | assumption | refine upd_get (by omega) ?_)) (by first | (simp only [cellsA]; rfl) | rfl) rfl (by first | (simp; done) | exact Nat.le_refl _) rfl (by first | exact splice_all rfl | (simp only [splice, List.take_succ_cons, List.take_zero, List.drop_succ_cons, List.drop_zero, List.length_cons, List.length_nil, List.cons_append, List.nil_append, Nat.reduceAdd, Nat.zero_add, Nat.add_zero]; rfl)) ?_)
      | (refine ow_build (by simp only [repl, List.append_nil, fillA, List.map, ev, cellsA, splice, List.take_succ_cons, List.take_zero, List.drop_succ_cons, List.drop_zero, List.length_cons, List.length_nil, List.cons_append, List.nil_append, Nat.reduceAdd, Nat.zero_add, Nat.add_zero, true_and, and_self, if_true, Nat.reduceLeDiff, Nat.le_refl]; rfl) ?_)
      | (refine ow_bsl (by simp only [repl, List.append_nil, fillA, List.map, ev, cellsA, splice, List.take_succ_cons, List.take_zero, List.drop_succ_cons, List.drop_zero, List.length_cons, List.length_nil, List.cons_append, List.nil_append, Nat.reduceAdd, Nat.zero_add, Nat.add_zero, true_and, and_self, if_true, Nat.reduceLeDiff, Nat.le_refl]; rfl) ?_)
      | (refine ldR_of (by repeat (first | exact upd_same _ _ _ | assumption | refine upd_get (by omega) ?_)) (by first | exact part_all rfl | rfl | (simp only [partA, if_true, List.drop_succ_cons, List.drop_zero, List.take_succ_cons, List.take_zero, List.length_cons, List.length_nil, Nat.reduceAdd, Nat.zero_add]; rfl)) ?_)
      | (refine dow_ld (by repeat (first | exact upd_same _ _ _ | assumption | refine upd_get (by omega) ?_)) (by first | exact part_all rfl | rfl | (simp only [partA, if_true, List.drop_succ_cons, List.drop_zero, List.take_succ_cons, List.take_zero, List.length_cons, List.length_nil, Nat.reduceAdd, Nat.zero_add]; rfl)) (by simp only [meets, and_true]; (try (repeat' apply And.intro)); all_goals (intro z; simp only [fp_d, fp_f, List.mem_cons, List.not_mem_nil, or_false, false_or, not_false_eq_true, true_and, and_true, Bool.false_eq_true, false_and, not_or]; omega)) ?_)
      | (refine dow_new (by simp only [meets, and_true]; (try (repeat' apply And.intro)); all_goals (intro z; simp only [fp_d, fp_f, List.mem_cons, List.not_mem_nil, or_false, false_or, not_false_eq_true, true_and, and_true, Bool.false_eq_true, false_and, not_or]; omega)) ?_)
      | (refine dow_box (by first | (simp only [cellsA]; rfl) | rfl) (by simp only [meets, and_true]; (try (repeat' apply And.intro)); all_goals (intro z; simp only [fp_d, fp_f, List.mem_cons, List.not_mem_nil, or_false, false_or, not_false_eq_true, true_and, and_true, Bool.false_eq_true, false_and, not_or]; omega)) ?_)
      | (refine dow_st (by repeat (first | exact upd_same _ _ _ | assumption | refine upd_get (by omega) ?_)) (by first | (simp only [cellsA]; rfl) | rfl) rfl (by first | (simp; done) | exact Nat.le_refl _) rfl (by first | exact splice_all rfl | (simp only [splice, List.take_succ_cons, List.take_zero, List.drop_succ_cons, List.drop_zero, List.length_cons, List.length_nil, List.cons_append, List.nil_append, Nat.reduceAdd, Nat.zero_add, Nat.add_zero]; rfl)) (by simp only [meets, and_true]; (try (repeat' apply And.intro)); all_goals (intro z; simp only [fp_d, fp_f, List.mem_cons, List.not_mem_nil, or_false, false_or, not_false_eq_true, true_and, and_true, Bool.false_eq_true, false_and, not_or]; omega)) ?_)
      | (refine dgw_run ?_)
      | (refine dgw_tf ?_)
      | (refine dgw_ft ?_)
      | (refine dgw_un ?_))
    exact ⟨n - (i + 1), by omega, _, i + 1, rfl, e0, e1, e6, rfl, by omega, rfl, rfl, rfl⟩
  · have hin : i = n := by omega
    subst hin
    repeat (first
      | (refine cw_t ?_)
      | (refine cw_f ?_)
      | (refine gw_run ?_)
      | (refine gw_tf ?_)
      | (refine gw_ft ?_)
      | (refine gw_un ?_)
      | (refine ow_pick_t ?_)
      | (refine ow_pick_f ?_)
      | (refine ow_new ?_)
      | (refine ow_nck_p ?_)
      | (refine ow_nck_i ?_)
      | (refine ow_nck_f ?_)
      | (refine ow_mki ?_)
      | (refine ow_fa rfl ?_)
      | (refine ow_ext rfl ?_)
      | (refine ow_not rfl ?_)
      | (refine ow_peq_pn rfl ?_)
      | (refine ow_peq_nn rfl ?_)
      | (refine ow_peq_np rfl ?_)
      | (refine ow_ieq_in rfl ?_)
      | (refine ow_ieq_nn rfl ?_)
      | (refine ow_ieq_ni rfl ?_)
      | (refine ow_mkf rfl rfl ?_)
      | (refine ow_box (by first | (simp only [cellsA]; rfl) | rfl) ?_)
      | (refine ow_len rfl ?_)
      | (refine ow_lss_t (by omega) ?_)
      | (refine ow_lss_f (by omega) ?_)
      | (refine ow_leq_t (by omega) ?_)
      | (refine ow_leq_f (by omega) ?_)
      | (refine ow_gtr_t (by omega) ?_)
      | (refine ow_gtr_f (by omega) ?_)
      | (refine ow_geq_t (by omega) ?_)
      | (refine ow_geq_f (by omega) ?_)
      | (refine ow_eql_t (by omega) ?_)
      | (refine ow_eql_f (by omega) ?_)
      | (refine ow_neq_t (by omega) ?_)
      | (refine ow_neq_f (by omega) ?_)
      | (refine ow_add_i rfl (by omega) (by omega) ?_)
      | (refine ow_sub_i rfl (by omega) (by omega) ?_)
      | (refine ow_conv_i (by omega) (by omega) ?_)
      | (refine ow_conv_u (by omega) (by omega) ?_)
      | (refine ow_iaA (by omega) (by omega) rfl ?_)
      | (refine ow_iaS (by omega) (by omega) rfl ?_)
      | (refine ow_ld (by repeat (first | exact upd_same _ _ _ | assumption | refine upd_get (by omega) ?_)) (by first | exact part_all rfl | rfl | (simp only [partA, if_true, List.drop_succ_cons, List.drop_zero, List.take_succ_cons, List.take_zero, List.length_cons, List.length_nil, Nat.reduceAdd, Nat.zero_add]; rfl)) ?_)
      | (refine ow_st (by repeat (first | exact upd_same _ _ _ | assumption | refine upd_get (by omega) ?_)) (by first | (simp only [cellsA]; rfl) | rfl) rfl (by first | (simp; done) | exact Nat.le_refl _) rfl (by first | exact splice_all rfl | (simp only [splice, List.take_succ_cons, List.take_zero, List.drop_succ_cons, List.drop_zero, List.length_cons, List.length_nil, List.cons_append, List.nil_append, Nat.reduceAdd, Nat.zero_add, Nat.add_zero]; rfl)) ?_)
      | (refine ow_build (by simp only [repl, List.append_nil, fillA, List.map, ev, cellsA, splice, List.take_succ_cons, List.take_zero, List.drop_succ_cons, List.drop_zero, List.length_cons, List.length_nil, List.cons_append, List.nil_append, Nat.reduceAdd, Nat.zero_add, Nat.add_zero, true_and, and_self, if_true, Nat.reduceLeDiff, Nat.le_refl]; rfl) ?_)
      | (refine ow_bsl (by simp only [repl, List.append_nil, fillA, List.map, ev, cellsA, splice, List.take_succ_cons, List.take_zero, List.drop_succ_cons, List.drop_zero, List.length_cons, List.length_nil, List.cons_append, List.nil_append, Nat.reduceAdd, Nat.zero_add, Nat.add_zero, true_and, and_self, if_true, Nat.reduceLeDiff, Nat.le_refl]; rfl) ?_)
      | (refine ldR_of (by repeat (first | exact upd_same _ _ _ | assumption | refine upd_get (by omega) ?_)) (by first | exact part_all rfl | rfl | (simp only [partA, if_true, List.drop_succ_cons, List.drop_zero, List.take_succ_cons, List.take_zero, List.length_cons, List.length_nil, Nat.reduceAdd, Nat.zero_add]; rfl)) ?_)
      | (refine dow_ld (by repeat (first | exact upd_same _ _ _ | assumption | refine upd_get (by omega) ?_)) (by first | exact part_all rfl | rfl | (simp only [partA, if_true, List.drop_succ_cons, List.drop_zero, List.take_succ_cons, List.take_zero, List.length_cons, List.length_nil, Nat.reduceAdd, Nat.zero_add]; rfl)) (by simp only [meets, and_true]; (try (repeat' apply And.intro)); all_goals (intro z; simp only [fp_d, fp_f, List.mem_cons, List.not_mem_nil, or_false, false_or, not_false_eq_true, true_and, and_true, Bool.false_eq_true, false_and, not_or]; omega)) ?_)
      | (refine dow_new (by simp only [meets, and_true]; (try (repeat' apply And.intro)); all_goals (intro z; simp only [fp_d, fp_f, List.mem_cons, List.not_mem_nil, or_false, false_or, not_false_eq_true, true_and, and_true, Bool.false_eq_true, false_and, not_or]; omega)) ?_)
      | (refine dow_box (by first | (simp only [cellsA]; rfl) | rfl) (by simp only [meets, and_true]; (try (repeat' apply And.intro)); all_goals (intro z; simp only [fp_d, fp_f, List.mem_cons, List.not_mem_nil, or_false, false_or, not_false_eq_true, true_and, and_true, Bool.false_eq_true, false_and, not_or]; omega)) ?_)
      | (refine dow_st (by repeat (first | exact upd_same _ _ _ | assumption | refine upd_get (by omega) ?_)) (by first | (simp only [cellsA]; rfl) | rfl) rfl (by first | (simp; done) | exact Nat.le_refl _) rfl (by first | exact splice_all rfl | (simp only [splice, List.take_succ_cons, List.take_zero, List.drop_succ_cons, List.drop_zero, List.length_cons, List.length_nil, List.cons_append, List.nil_append, Nat.reduceAdd, Nat.zero_add, Nat.add_zero]; rfl)) (by simp only [meets, and_true]; (try (repeat' apply And.intro)); all_goals (intro z; simp only [fp_d, fp_f, List.mem_cons, List.not_mem_nil, or_false, false_or, not_false_eq_true, true_and, and_true, Bool.false_eq_true, false_and, not_or]; omega)) ?_)
      | (refine dgw_run ?_)
      | (refine dgw_tf ?_)
      | (refine dgw_ft ?_)
      | (refine dgw_un ?_))
    rw [loopK_exit, X12_0_0_eq]
    generalize hg2 : ug gg _ = g2
    have u0 := (congrFun hg2 0).symm.trans e0
    have u1 := (congrFun hg2 1).symm.trans e1
    have u6 := (congrFun hg2 6).symm.trans e6
    unfold X12_0_0
    rw [u0, u1, u6]
    have R := fan_ranked i
    obtain ⟨v2, h2, n2, hf2, b2, hv2, G2⟩ := callW_elim (drop_ev (gt i) (Tt i) (by omega) R 0 (a : Int))
    have T2 : TreeAt h2 5 4 2 (fanL2 i a) := (Tt i).grown2 (gt i) G2
    have R2 := R.wipe (dropL 2 (fanL i) 0 (a : Int))
    obtain ⟨v3, h3, n3, hf3, b3, hv3, G3⟩ := callW_elim (below_ev G2.good T2 (by omega) R2 1 7)
    have T3 := T2.grown G2.good G3
    obtain ⟨v4, h4, n4, hf4, b4, hv4, G4⟩ := callW_elim (revoke_ev G3.good T3 (by omega) R2 1 7)
    have T4 : TreeAt h4 5 4 2 (fanL3 i a) := T3.grown2 G3.good G4
    have hat := at_ev G4.good T4 1 7
    have R3 := R2.wipe (revokeL 2 (fanL2 i a) 1 7)
    have gd4 : Go.Eng.Good (n4 + 1) (upd (upd h4 n4 (some (.cells 0 [.int .i64 0, .int .i64 0, .int .i64 0, .int .i64 0]))) n4 (some (.cells 0 (at2 2 (fanL3 i a) 1 7).1.row))) := by
      have := G4.good
      exact (by repeat (first | exact Good.mono (by assumption) (by omega) | (refine Good.upd ?_ (by omega) (by first | rfl | (refine belowL_mono ?_ _ (by assumption); omega) | (simp [belowB, belowL, below]; (try omega))))))
    have T5 := T4.keep G4.good (h' := upd (upd h4 n4 (some (.cells 0 [.int .i64 0, .int .i64 0, .int .i64 0, .int .i64 0]))) n4 (some (.cells 0 (at2 2 (fanL3 i a) 1 7).1.row))) fun x hx => by repeat (first | rfl | refine upd_get (by omega) ?_)
    obtain ⟨v5, h5, n5, hf5, b5, hv5, G5⟩ := callW_elim (of_ev gd4 T5 (by omega) 4)
    rw [allR_length] at hv3 hv5
    rw [f2, f1] at hv2
    rw [f4] at hv4
    rw [f7] at hv5
    have l3 : (allN (fanL2 i a) (belowH (fanL2 i a) 1 7) (8 * 2)).length = i - 1 := by omega
    have l4 : (revokeL 2 (fanL2 i a) 1 7).length = i - 1 := by omega
    rw [l4] at hv4
    subst hv2 hv4 hv5
    have hv3' : v3 = slV b3 (i - 1) := by rw [hv3]; exact congrArg _ l3
    subst hv3'
    have hb2 := (G2.at_ (by rw [f2]; simp)).2.2
    rw [f2] at hb2
    have hrow : eqCells (placeRow a) [.int .i64 0, .int .i64 (a : Int)] = some true := by
      have : placeRow a = [.int .i64 0, .int .i64 (a : Int)] := by
        unfold placeRow
        rw [show a / 8 = 0 by omega, show a % 8 = a by omega]; rfl
      rw [this]
      simp [eqCells]
    rw [show slV b2 [a].length = .sl b2 0 0 1 none from rfl] at hf2
    repeat (first
      | (refine cal hf2 ?_)
      | (refine cal hf3 ?_)
      | (refine cal hf4 ?_)
      | (refine cal (hat _) ?_)
      | (refine cal hf5 ?_)
      | (rw [f6])
      | (refine ow_len (lenA_slV _ _) ?_)
      | (refine ow_ld (v := .agg (placeRow a)) hb2 rfl ?_)
      | (refine ow_aeq rfl hrow rfl ?_)
      | (refine cw_t ?_)
      | (refine cw_f ?_)
      | (refine gw_run ?_)
      | (refine gw_tf ?_)
      | (refine gw_ft ?_)
      | (refine gw_un ?_)
      | (refine ow_pick_t ?_)
      | (refine ow_pick_f ?_)
      | (refine ow_new ?_)
      | (refine ow_nck_p ?_)
      | (refine ow_nck_i ?_)
      | (refine ow_nck_f ?_)
      | (refine ow_mki ?_)
      | (refine ow_fa rfl ?_)
      | (refine ow_ext rfl ?_)
      | (refine ow_not rfl ?_)
      | (refine ow_peq_pn rfl ?_)
      | (refine ow_peq_nn rfl ?_)
      | (refine ow_peq_np rfl ?_)
      | (refine ow_ieq_in rfl ?_)
      | (refine ow_ieq_nn rfl ?_)
      | (refine ow_ieq_ni rfl ?_)
      | (refine ow_mkf rfl rfl ?_)
      | (refine ow_box (by first | (simp only [cellsA]; rfl) | rfl) ?_)
      | (refine ow_len rfl ?_)
      | (refine ow_lss_t (by omega) ?_)
      | (refine ow_lss_f (by omega) ?_)
      | (refine ow_leq_t (by omega) ?_)
      | (refine ow_leq_f (by omega) ?_)
      | (refine ow_gtr_t (by omega) ?_)
      | (refine ow_gtr_f (by omega) ?_)
      | (refine ow_geq_t (by omega) ?_)
      | (refine ow_geq_f (by omega) ?_)
      | (refine ow_eql_t (by omega) ?_)
      | (refine ow_eql_f (by omega) ?_)
      | (refine ow_neq_t (by omega) ?_)
      | (refine ow_neq_f (by omega) ?_)
      | (refine ow_add_i rfl (by omega) (by omega) ?_)
      | (refine ow_sub_i rfl (by omega) (by omega) ?_)
      | (refine ow_conv_i (by omega) (by omega) ?_)
      | (refine ow_conv_u (by omega) (by omega) ?_)
      | (refine ow_iaA (by omega) (by omega) rfl ?_)
      | (refine ow_iaS (by omega) (by omega) rfl ?_)
      | (refine ow_ld (by repeat (first | exact upd_same _ _ _ | assumption | refine upd_get (by omega) ?_)) (by first | exact part_all rfl | rfl | (simp only [partA, if_true, List.drop_succ_cons, List.drop_zero, List.take_succ_cons, List.take_zero, List.length_cons, List.length_nil, Nat.reduceAdd, Nat.zero_add]; rfl)) ?_)
      | (refine ow_st (by repeat (first | exact upd_same _ _ _ | assumption | refine upd_get (by omega) ?_)) (by first | (simp only [cellsA]; rfl) | rfl) rfl (by first | (simp; done) | exact Nat.le_refl _) rfl (by first | exact splice_all rfl | (simp only [splice, List.take_succ_cons, List.take_zero, List.drop_succ_cons, List.drop_zero, List.length_cons, List.length_nil, List.cons_append, List.nil_append, Nat.reduceAdd, Nat.zero_add, Nat.add_zero]; rfl)) ?_)
      | (refine ow_build (by simp only [repl, List.append_nil, fillA, List.map, ev, cellsA, splice, List.take_succ_cons, List.take_zero, List.drop_succ_cons, List.drop_zero, List.length_cons, List.length_nil, List.cons_append, List.nil_append, Nat.reduceAdd, Nat.zero_add, Nat.add_zero, true_and, and_self, if_true, Nat.reduceLeDiff, Nat.le_refl]; rfl) ?_)
      | (refine ow_bsl (by simp only [repl, List.append_nil, fillA, List.map, ev, cellsA, splice, List.take_succ_cons, List.take_zero, List.drop_succ_cons, List.drop_zero, List.length_cons, List.length_nil, List.cons_append, List.nil_append, Nat.reduceAdd, Nat.zero_add, Nat.add_zero, true_and, and_self, if_true, Nat.reduceLeDiff, Nat.le_refl]; rfl) ?_)
      | (refine ldR_of (by repeat (first | exact upd_same _ _ _ | assumption | refine upd_get (by omega) ?_)) (by first | exact part_all rfl | rfl | (simp only [partA, if_true, List.drop_succ_cons, List.drop_zero, List.take_succ_cons, List.take_zero, List.length_cons, List.length_nil, Nat.reduceAdd, Nat.zero_add]; rfl)) ?_)
      | (refine dow_ld (by repeat (first | exact upd_same _ _ _ | assumption | refine upd_get (by omega) ?_)) (by first | exact part_all rfl | rfl | (simp only [partA, if_true, List.drop_succ_cons, List.drop_zero, List.take_succ_cons, List.take_zero, List.length_cons, List.length_nil, Nat.reduceAdd, Nat.zero_add]; rfl)) (by simp only [meets, and_true]; (try (repeat' apply And.intro)); all_goals (intro z; simp only [fp_d, fp_f, List.mem_cons, List.not_mem_nil, or_false, false_or, not_false_eq_true, true_and, and_true, Bool.false_eq_true, false_and, not_or]; omega)) ?_)
      | (refine dow_new (by simp only [meets, and_true]; (try (repeat' apply And.intro)); all_goals (intro z; simp only [fp_d, fp_f, List.mem_cons, List.not_mem_nil, or_false, false_or, not_false_eq_true, true_and, and_true, Bool.false_eq_true, false_and, not_or]; omega)) ?_)
      | (refine dow_box (by first | (simp only [cellsA]; rfl) | rfl) (by simp only [meets, and_true]; (try (repeat' apply And.intro)); all_goals (intro z; simp only [fp_d, fp_f, List.mem_cons, List.not_mem_nil, or_false, false_or, not_false_eq_true, true_and, and_true, Bool.false_eq_true, false_and, not_or]; omega)) ?_)
      | (refine dow_st (by repeat (first | exact upd_same _ _ _ | assumption | refine upd_get (by omega) ?_)) (by first | (simp only [cellsA]; rfl) | rfl) rfl (by first | (simp; done) | exact Nat.le_refl _) rfl (by first | exact splice_all rfl | (simp only [splice, List.take_succ_cons, List.take_zero, List.drop_succ_cons, List.drop_zero, List.length_cons, List.length_nil, List.cons_append, List.nil_append, Nat.reduceAdd, Nat.zero_add, Nat.add_zero]; rfl)) (by simp only [meets, and_true]; (try (repeat' apply And.intro)); all_goals (intro z; simp only [fp_d, fp_f, List.mem_cons, List.not_mem_nil, or_false, false_or, not_false_eq_true, true_and, and_true, Bool.false_eq_true, false_and, not_or]; omega)) ?_)
      | (refine dgw_run ?_)
      | (refine dgw_tf ?_)
      | (refine dgw_ft ?_)
      | (refine dgw_un ?_))
    rfl
end Go.Proofs.As0
